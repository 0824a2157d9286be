/- Contracts, part 3: wide numbers. -/
import Derived.Test.YtbolfnkgbjkbjaaGreatS2
import Derived.Lib.Mul64
import Derived.Laws.Externs
import Derived.Shelf.Spec.BitsCarry
set_option linter.unusedVariables false
set_option linter.unusedSimpArgs false
namespace Go.Proofs.YtbolfnkgbjkbjaaGreat.AM
open Go Go.RowKit
set_option maxRecDepth 100000
theorem nat_shr (n : Nat) : (n : Int).fdiv (2 ^ min (Int.toNat 32) IntKind.u64.bits) = ((n / 4294967296 : Nat) : Int) := by
  have : (2 ^ min (Int.toNat 32) IntKind.u64.bits : Int) = 4294967296 := by decide
  rw [this, Int.fdiv_eq_ediv_of_nonneg _ (by decide)]
  omega
theorem nat_and (n : Nat) (h : n < 18446744073709551616) : IntKind.u64.wrap ↑(BitVec.ofInt IntKind.u64.bits n &&& BitVec.ofInt IntKind.u64.bits 4294967295).toNat = ((n % 4294967296 : Nat) : Int) := by
  have e1 : (BitVec.ofInt IntKind.u64.bits (n : Int)).toNat = n := by
    rw [BitVec.toNat_ofInt]
    show ((n : Int) % ((2 ^ 64 : Nat) : Int)).toNat = n
    omega
  have e2 : (BitVec.ofInt IntKind.u64.bits 4294967295).toNat = 2 ^ 32 - 1 := by decide
  rw [BitVec.toNat_and, e1, e2, Nat.and_two_pow_sub_one_eq_mod]
  rw [IntKind.wrap_u64]
  omega
theorem nat_wrap (n : Nat) (h : n < 18446744073709551616) : IntKind.u64.wrap (n : Int) = n := IntWalk.u64_in _ (by omega)
theorem mul_hi (x y : Int) (hx : 0 ≤ x ∧ x < 18446744073709551616) (hy : 0 ≤ y ∧ y < 18446744073709551616) :
    (IntKind.u64.wrap
            (IntKind.u64.wrap
                (IntKind.u64.wrap
                    (x.fdiv ((2 : Int) ^ min (Int.toNat (32 : Int)) IntKind.u64.bits) *
                      y.fdiv ((2 : Int) ^ min (Int.toNat (32 : Int)) IntKind.u64.bits)) +
                  (IntKind.u64.wrap
                        (IntKind.u64.wrap
                            (x.fdiv ((2 : Int) ^ min (Int.toNat (32 : Int)) IntKind.u64.bits) *
                              IntKind.u64.wrap
                                ↑(BitVec.ofInt IntKind.u64.bits y &&&
                                      BitVec.ofInt IntKind.u64.bits (4294967295 : Int)).toNat) +
                          (IntKind.u64.wrap
                                (IntKind.u64.wrap
                                    ↑(BitVec.ofInt IntKind.u64.bits x &&&
                                          BitVec.ofInt IntKind.u64.bits (4294967295 : Int)).toNat *
                                  IntKind.u64.wrap
                                    ↑(BitVec.ofInt IntKind.u64.bits y &&&
                                          BitVec.ofInt IntKind.u64.bits (4294967295 : Int)).toNat)).fdiv
                            ((2 : Int) ^ min (Int.toNat (32 : Int)) IntKind.u64.bits))).fdiv
                    ((2 : Int) ^ min (Int.toNat (32 : Int)) IntKind.u64.bits)) +
              (IntKind.u64.wrap
                    (IntKind.u64.wrap
                        ↑(BitVec.ofInt IntKind.u64.bits
                                (IntKind.u64.wrap
                                  (IntKind.u64.wrap
                                      (x.fdiv ((2 : Int) ^ min (Int.toNat (32 : Int)) IntKind.u64.bits) *
                                        IntKind.u64.wrap
                                          ↑(BitVec.ofInt IntKind.u64.bits y &&&
                                                BitVec.ofInt IntKind.u64.bits (4294967295 : Int)).toNat) +
                                    (IntKind.u64.wrap
                                          (IntKind.u64.wrap
                                              ↑(BitVec.ofInt IntKind.u64.bits x &&&
                                                    BitVec.ofInt IntKind.u64.bits (4294967295 : Int)).toNat *
                                            IntKind.u64.wrap
                                              ↑(BitVec.ofInt IntKind.u64.bits y &&&
                                                    BitVec.ofInt IntKind.u64.bits (4294967295 : Int)).toNat)).fdiv
                                      ((2 : Int) ^ min (Int.toNat (32 : Int)) IntKind.u64.bits))) &&&
                              BitVec.ofInt IntKind.u64.bits (4294967295 : Int)).toNat +
                      IntKind.u64.wrap
                        (IntKind.u64.wrap
                            ↑(BitVec.ofInt IntKind.u64.bits x &&&
                                  BitVec.ofInt IntKind.u64.bits (4294967295 : Int)).toNat *
                          y.fdiv ((2 : Int) ^ min (Int.toNat (32 : Int)) IntKind.u64.bits)))).fdiv
                ((2 : Int) ^ min (Int.toNat (32 : Int)) IntKind.u64.bits))) = x * y / 18446744073709551616 := by
  obtain ⟨X, rfl⟩ := Int.eq_ofNat_of_zero_le hx.1
  obtain ⟨Y, rfl⟩ := Int.eq_ofNat_of_zero_le hy.1
  have hX : X < 18446744073709551616 := by omega
  have hY : Y < 18446744073709551616 := by omega
  obtain ⟨l1, l2, l3, l4⟩ := Go.Lib.mul64_hi X Y hX hY
  have l5 : X * Y / 18446744073709551616 < 18446744073709551616 := by
    rw [Nat.div_lt_iff_lt_mul (by decide)]
    exact Nat.mul_lt_mul'' hX hY
  rw [nat_and X hX, nat_and Y hY, nat_shr X, nat_shr Y]
  generalize X / 4294967296 = p at *
  generalize X % 4294967296 = q at *
  generalize Y / 4294967296 = r at *
  generalize Y % 4294967296 = s at *
  have e : ((X : Int) * (Y : Int) / 18446744073709551616) = ((X * Y / 18446744073709551616 : Nat) : Int) := by rw [Int.natCast_ediv, Int.natCast_mul]; rfl
  rw [e, ← l4]
  rw [← l4] at l5
  have w1 := nat_wrap (q * s) l1
  have w2 := nat_wrap (p * s) (by omega)
  have w3 := nat_wrap _ l2
  have w4 := nat_wrap (q * r) (by omega)
  have w5 := nat_wrap _ l3
  have w6 := nat_wrap (p * r) (by omega)
  have w7 := nat_wrap (p * r + (p * s + q * s / 4294967296) / 4294967296) (by omega)
  have w8 := nat_wrap _ l5
  have a1 := nat_and _ l2
  simp only [← Int.natCast_mul, ← Int.natCast_add, w1, w2, nat_shr, w3, a1, w4, w5, w6, w7, w8]
/-- math/bits.Mul64 -/
def g167 : GSpec := fun args obs => match args, obs with
  | [.int .u64 x, .int .u64 y], [] => some ((0 ≤ x ∧ x < 18446744073709551616) ∧ 0 ≤ y ∧ y < 18446744073709551616, .ret (.tup [u64 (x * y / 18446744073709551616), u64 (x * y % 18446744073709551616)]), [])
  | _, _ => none
theorem k167 (x y : Int) (K' : Out → List Ob → Prop) : runFn (noTab) (noD) noIv a167 [.int .u64 x, .int .u64 y] (lookO []) 0 (closeK K') =
    (((0 : Int) ≤ (32 : Int)) ∧
    ((0 : Int) ≤ (32 : Int)) ∧
    ((0 : Int) ≤ (32 : Int)) ∧
    ((0 : Int) ≤ (32 : Int)) ∧
    ((0 : Int) ≤ (32 : Int)) ∧
    K'
  (Out.ret
    (V.tup
      [V.int IntKind.u64
          (IntKind.u64.wrap
            (IntKind.u64.wrap
                (IntKind.u64.wrap
                    (x.fdiv ((2 : Int) ^ min (Int.toNat (32 : Int)) IntKind.u64.bits) *
                      y.fdiv ((2 : Int) ^ min (Int.toNat (32 : Int)) IntKind.u64.bits)) +
                  (IntKind.u64.wrap
                        (IntKind.u64.wrap
                            (x.fdiv ((2 : Int) ^ min (Int.toNat (32 : Int)) IntKind.u64.bits) *
                              IntKind.u64.wrap
                                ↑(BitVec.ofInt IntKind.u64.bits y &&&
                                      BitVec.ofInt IntKind.u64.bits (4294967295 : Int)).toNat) +
                          (IntKind.u64.wrap
                                (IntKind.u64.wrap
                                    ↑(BitVec.ofInt IntKind.u64.bits x &&&
                                          BitVec.ofInt IntKind.u64.bits (4294967295 : Int)).toNat *
                                  IntKind.u64.wrap
                                    ↑(BitVec.ofInt IntKind.u64.bits y &&&
                                          BitVec.ofInt IntKind.u64.bits (4294967295 : Int)).toNat)).fdiv
                            ((2 : Int) ^ min (Int.toNat (32 : Int)) IntKind.u64.bits))).fdiv
                    ((2 : Int) ^ min (Int.toNat (32 : Int)) IntKind.u64.bits)) +
              (IntKind.u64.wrap
                    (IntKind.u64.wrap
                        ↑(BitVec.ofInt IntKind.u64.bits
                                (IntKind.u64.wrap
                                  (IntKind.u64.wrap
                                      (x.fdiv ((2 : Int) ^ min (Int.toNat (32 : Int)) IntKind.u64.bits) *
                                        IntKind.u64.wrap
                                          ↑(BitVec.ofInt IntKind.u64.bits y &&&
                                                BitVec.ofInt IntKind.u64.bits (4294967295 : Int)).toNat) +
                                    (IntKind.u64.wrap
                                          (IntKind.u64.wrap
                                              ↑(BitVec.ofInt IntKind.u64.bits x &&&
                                                    BitVec.ofInt IntKind.u64.bits (4294967295 : Int)).toNat *
                                            IntKind.u64.wrap
                                              ↑(BitVec.ofInt IntKind.u64.bits y &&&
                                                    BitVec.ofInt IntKind.u64.bits (4294967295 : Int)).toNat)).fdiv
                                      ((2 : Int) ^ min (Int.toNat (32 : Int)) IntKind.u64.bits))) &&&
                              BitVec.ofInt IntKind.u64.bits (4294967295 : Int)).toNat +
                      IntKind.u64.wrap
                        (IntKind.u64.wrap
                            ↑(BitVec.ofInt IntKind.u64.bits x &&&
                                  BitVec.ofInt IntKind.u64.bits (4294967295 : Int)).toNat *
                          y.fdiv ((2 : Int) ^ min (Int.toNat (32 : Int)) IntKind.u64.bits)))).fdiv
                ((2 : Int) ^ min (Int.toNat (32 : Int)) IntKind.u64.bits))),
        V.int IntKind.u64 (IntKind.u64.wrap (x * y))]))
  []) := by kernel_rfl
theorem r167 : FreshOk Tryz.prog 167 (ofD g167) := by
  refine fresh_of_run (noTab_ok _) (noD_ok _) (fun _ _ => noIv) Tryz.func167 c167 fun args obs K' hk => ?_
  unfold ofD g167 at hk
  split at hk
  · rename_i d_ out news hg
    split at hg
    · rename_i x y
      cases hg
      obtain ⟨hc, hk⟩ := hk
      refine Eq.mpr (k167 x y K') ⟨?_, ?_, ?_, ?_, ?_, ?_⟩
      · decide
      · decide
      · decide
      · decide
      · decide
      · rw [mul_hi x y hc.1 hc.2, IntKind.wrap_u64]
        exact hk
    · cases hg
  · exact hk.elim
/-- A function of the model's table. -/
theorem fresh_ext {P : Program} {f : Nat} {fn : Func} {e : Array Value → Sem Value} {g : GSpec} (hf : P.funcs[f]? = some fn) (hname : (fn.name == "runtime.NumGoroutine") = false) (hb : fn.body.isNone = true) (hn : Extern.findNext fn = none) (he : Extern.find fn = some e)
    (hg : ∀ args obs d out news, g args obs = some (d, out, news) → d → obs = [] ∧ news = [] ∧ ∃ v, out = .ret v ∧ ∀ (ρ : Nat → Bnd) (xs : List Value), RL ρ 0 args xs → ∀ w : World, ∃ x, (e xs.toArray).run P w = .ok x w ∧ R ρ 0 v x) : FreshOk P f (ofD g) := by
  intro args obs K' hk w ρ xs hro hargs
  unfold ofD at hk
  split at hk
  · rename_i d out news hgo
    obtain ⟨hd, hk⟩ := hk
    obtain ⟨rfl, rfl, v, rfl, hrun⟩ := hg args obs d out news hgo hd
    obtain ⟨x, hx, hR⟩ := hrun ρ xs hargs w
    refine .inr ⟨x, w, ?_, .ret v, [], ρ, hk, hR, ⟨Nat.le_refl _, fun i hi => by simp at hi, fun i j hi => by simp at hi⟩, fun i hi => by simp at hi, (fun u e => by cases e), Below.refl _ _⟩
    rw [run_callFunc_extern hf hname hb hn he, hx]
    rfl
  · exact hk.elim
theorem RL3 {ρ : Nat → Bnd} {n : Nat} {k1 k2 k3 : IntKind} {x y c : Int} {xs : List Value} (h : RL ρ n [.int k1 x, .int k2 y, .int k3 c] xs) : xs = [.int k1 x, .int k2 y, .int k3 c] := by
  match xs, h with
  | [a, b, d], h =>
    simp only [RL, R] at h
    obtain ⟨rfl, rfl, rfl, _⟩ := h
    rfl
  | [], h => simp [RL] at h
  | [_], h => simp [RL] at h
  | [_, _], h => simp [RL] at h
  | _ :: _ :: _ :: _ :: _, h => simp [RL] at h
/-- math/bits.Add64 -/
def g195 : GSpec := fun args obs => match args, obs with
  | [.int .u64 x, .int .u64 y, .int .u64 c], [] => some ((0 ≤ x ∧ 0 ≤ y ∧ 0 ≤ c ∧ c ≤ 1), .ret (.tup [u64 ((x + y + c) % 18446744073709551616), u64 ((x + y + c) / 18446744073709551616)]), [])
  | _, _ => none
theorem r195 : FreshOk Tryz.prog 195 (ofD g195) := by
  refine fresh_ext (e := add64Entry) Tryz.func195 (by kernel_rfl) (by kernel_rfl) (by kernel_rfl) (by kernel_rfl) fun args obs d out news hg hd => ?_
  unfold g195 at hg
  split at hg
  · rename_i x y c
    cases hg
    obtain ⟨h1, h2, h3, h4⟩ := hd
    refine ⟨rfl, rfl, _, rfl, fun ρ xs hxs w => ?_⟩
    rw [RL3 hxs]
    exact ⟨_, run_add64 x y c h1 h2 h3 h4 w, by simp [R, RL]⟩
  · cases hg
/-- math/bits.Sub64 -/
def g196 : GSpec := fun args obs => match args, obs with
  | [.int .u64 x, .int .u64 y, .int .u64 c], [] => some ((0 ≤ x ∧ 0 ≤ y ∧ y < 18446744073709551616 ∧ 0 ≤ c ∧ c ≤ 1), .ret (.tup [u64 ((x - y - c) % 18446744073709551616), u64 (if x < y + c then 1 else 0)]), [])
  | _, _ => none
theorem r196 : FreshOk Tryz.prog 196 (ofD g196) := by
  refine fresh_ext (e := sub64Entry) Tryz.func196 (by kernel_rfl) (by kernel_rfl) (by kernel_rfl) (by kernel_rfl) fun args obs d out news hg hd => ?_
  unfold g196 at hg
  split at hg
  · rename_i x y c
    cases hg
    obtain ⟨h1, h2, h5, h3, h4⟩ := hd
    refine ⟨rfl, rfl, _, rfl, fun ρ xs hxs w => ?_⟩
    rw [RL3 hxs]
    obtain ⟨X, rfl⟩ := Int.eq_ofNat_of_zero_le h1
    obtain ⟨Y, rfl⟩ := Int.eq_ofNat_of_zero_le h2
    obtain ⟨C, rfl⟩ := Int.eq_ofNat_of_zero_le h3
    refine ⟨_, run_sub64 X Y C (by omega) w, ?_⟩
    simp only [R, RL]
    refine ⟨_, rfl, ?_, ?_, trivial⟩
    · congr 1
      omega
    · congr 1
      by_cases h : X < Y + C
      · rw [if_pos h, if_pos (by omega)]
        rfl
      · rw [if_neg h, if_neg (by omega)]
        rfl
  · cases hg
abbrev w64 (n : Int) : Prop := 0 ≤ n ∧ n < 18446744073709551616
def T3 : Tab := ((T2.add 195 (liftA (ofD g195))).add 196 (liftA (ofD g196))).add 167 (liftA (ofD g167))
theorem T3_ok : TabOk Tryz.prog T3 := ((T2_ok.add (entry_of_fresh r195)).add (entry_of_fresh r196)).add (entry_of_fresh r167)
end Go.Proofs.YtbolfnkgbjkbjaaGreat.AM
