/- Contracts, part 10: share. -/
import Derived.Test.YtbolfnkgbjkbjaaGreatS9
set_option linter.unusedVariables false
set_option linter.unusedSimpArgs false
namespace Go.Proofs.YtbolfnkgbjkbjaaGreat.AM
open Go Go.RowKit
set_option maxRecDepth 100000
/-- The share's bits, from a place on. -/
def shGo (x s : Int) : Nat → Nat → Nat
  | 0, n => n
  | k + 1, n => shGo x s k (if (n + 2 ^ k : Nat) ≤ 65536 ∧ ((n + 2 ^ k : Nat) : Int) * ((n + 2 ^ k : Nat) : Int) * s ≤ 4294967296 * (x * x) then n + 2 ^ k else n)
theorem shGo_succ (x s : Int) (k n : Nat) : shGo x s (k + 1) n = shGo x s k (if (n + 2 ^ k : Nat) ≤ 65536 ∧ ((n + 2 ^ k : Nat) : Int) * ((n + 2 ^ k : Nat) : Int) * s ≤ 4294967296 * (x * x) then n + 2 ^ k else n) := rfl
def bitOf : Nat → Nat
  | 0 => 0
  | k + 1 => 2 ^ k
theorem bit_or (n k j : Nat) (hn : n = 2 ^ (k + 1) * j) (hk : k ≤ 16) (hl : n ≤ 65536) : IntKind.u64.wrap ↑(BitVec.ofInt IntKind.u64.bits (n : Int) ||| BitVec.ofInt IntKind.u64.bits ((2 ^ k : Nat) : Int)).toNat = ((n + 2 ^ k : Nat) : Int) := by
  have hb : 2 ^ k ≤ 65536 := Nat.pow_le_pow_right (n := 2) (by decide) hk
  have e1 : (BitVec.ofInt IntKind.u64.bits (n : Int)).toNat = n := by
    rw [BitVec.toNat_ofInt]
    show ((n : Int) % ((2 ^ 64 : Nat) : Int)).toNat = _
    omega
  have e2 : (BitVec.ofInt IntKind.u64.bits ((2 ^ k : Nat) : Int)).toNat = 2 ^ k := by
    rw [BitVec.toNat_ofInt]
    show (((2 ^ k : Nat) : Int) % ((2 ^ 64 : Nat) : Int)).toNat = _
    generalize 2 ^ k = b at *
    omega
  have e3 : n ||| 2 ^ k = n + 2 ^ k := by
    rw [hn, ← Nat.two_pow_add_eq_or_of_lt (Nat.pow_lt_pow_right (by decide) (Nat.lt_succ_self k))]
  rw [BitVec.toNat_or, e1, e2, e3, IntKind.wrap_u64]
  generalize 2 ^ k = b at *
  omega
theorem bit_shr (k : Nat) : ((2 ^ k : Nat) : Int).fdiv (2 ^ min (Int.toNat 1) IntKind.u64.bits) = (bitOf k : Int) := by
  have : (2 ^ min (Int.toNat 1) IntKind.u64.bits : Int) = 2 := by decide
  rw [this, Int.fdiv_eq_ediv_of_nonneg _ (by decide)]
  cases k with
  | zero => rfl
  | succ k =>
    simp only [bitOf, Nat.pow_succ]
    generalize 2 ^ k = b
    omega
/-- fixed.share -/
def g139 : GSpec := fun args obs => match args, obs with
  | [.int .u64 x, .agg [.int .u64 h, .int .u64 l]], [] => some (w64 x ∧ w64 h ∧ w64 l, .ret (u64 (shGo x (h * 18446744073709551616 + l) 17 0)), [])
  | _, _ => none
def Iv50 : List V → List Ob → Inv := fun args _ _ m sl ob => match args with
  | [.int .u64 x, .agg [.int .u64 h, .int .u64 l]] => ∃ n j, n = 2 ^ m * j ∧ m ≤ 17 ∧ n ≤ 65536 ∧ shGo x (h * 18446744073709551616 + l) m n = shGo x (h * 18446744073709551616 + l) 17 0 ∧
      sl = [(0, u64 x), (3, .ptr 0 0 0 0), (5, u64 (n : Nat)), (6, u64 (bitOf m))] ∧ ob = [.var 167 [u64 h, u64 l]]
  | _ => False
def T9 : Tab := T8.add 193 (liftA (ofD g193))
theorem T9_ok : TabOk Tryz.prog T9 := T8_ok.add (entry_of_fresh r193)
theorem r139 : FreshOk Tryz.prog 139 (ofD g139) := by
  refine fresh_of_run T9_ok D6_ok Iv50 Tryz.func139 c139 fun args obs K' hk => ?_
  unfold ofD g139 at hk
  split at hk
  · rename_i d out news hg
    split at hg
    · rename_i x h l
      cases hg
      obtain ⟨hc, hk⟩ := hk
      refine And.intro trivial ?_
      refine And.intro ?_ ?_
      · exact ⟨17, _, _, ⟨0, 0, rfl, Nat.le_refl _, Nat.zero_le _, rfl, rfl, rfl⟩, ⟨Nat.zero_le _, Nat.le_refl _, ⟨⟨rfl, rfl⟩, ⟨rfl, rfl⟩, ⟨rfl, rfl⟩, ⟨rfl, rfl⟩, trivial⟩, ⟨⟨.inr rfl, rfl⟩, trivial⟩⟩⟩
      · rintro m sl ob ⟨n, j, hn, hm, hl, hs, rfl, rfl⟩
        cases m with
        | zero =>
          have hs0 : n = shGo x (h * 18446744073709551616 + l) 17 0 := hs
          rw [← hs0] at hk
          exact hk
        | succ k =>
          have hb : 0 < 2 ^ k := Nat.two_pow_pos k
          have hb' : ((2 ^ k : Nat) : Int) > 0 := Int.natCast_pos.2 hb
          have hor := bit_or n k j hn (by omega) hl
          have hshr := bit_shr k
          have hle : 2 ^ k ≤ 65536 := Nat.pow_le_pow_right (n := 2) (by decide) (show k ≤ 16 by omega)
          have hn2 : n = 2 ^ k * (2 * j) := by rw [hn, Nat.pow_succ, Nat.mul_assoc]
          have hn3 : n + 2 ^ k = 2 ^ k * (2 * j + 1) := by rw [hn2, Nat.mul_add, Nat.mul_one]
          rw [shGo_succ x _ k n] at hs
          refine bcase_t (b := decide (((2 ^ k : Nat) : Int) > 0)) (decide_eq_true hb') ?_
          refine bcase_i (fun h1 => ?_) (fun h1 => ?_)
          · have h2 : ((n + 2 ^ k : Nat) : Int) ≤ 65536 := by
              rw [← hor]
              exact of_decide_eq_true h1
            refine And.intro ⟨trivial, ⟨trivial, trivial, trivial⟩, trivial, trivial⟩ ?_
            refine And.intro ?_ ?_
            · have h5 : (0 : Int) ≤ ((n + 2 ^ k : Nat) : Int) ∧ ((n + 2 ^ k : Nat) : Int) ≤ 131072 := by omega
              rw [← hor] at h5
              exact ⟨h5, hc.2.1, hc.2.2, hc.1⟩
            · refine bcase_i (fun h3 => ?_) (fun h3 => ?_)
              · have h4 : decide (((n + 2 ^ k : Nat) : Int) * ((n + 2 ^ k : Nat) : Int) * (h * 18446744073709551616 + l) ≤ 4294967296 * (x * x)) = true := by
                  rw [← hor]
                  exact h3
                rw [if_pos ⟨by omega, of_decide_eq_true h4⟩] at hs
                refine And.intro (by decide) ?_
                exact ⟨k, _, _, Nat.lt_succ_self k, ⟨n + 2 ^ k, 2 * j + 1, hn3, by omega, by omega, hs, rfl, rfl⟩, ⟨Nat.zero_le _, Nat.le_refl _, ⟨⟨rfl, rfl⟩, ⟨rfl, rfl⟩, ⟨congrArg u64 hor, rfl⟩, ⟨congrArg u64 hshr, rfl⟩, trivial⟩, ⟨⟨.inr rfl, rfl⟩, trivial⟩⟩⟩
              · have h4 : decide (((n + 2 ^ k : Nat) : Int) * ((n + 2 ^ k : Nat) : Int) * (h * 18446744073709551616 + l) ≤ 4294967296 * (x * x)) = false := by
                  rw [← hor]
                  exact h3
                rw [if_neg (fun hh => of_decide_eq_false h4 hh.2)] at hs
                refine And.intro (by decide) ?_
                exact ⟨k, _, _, Nat.lt_succ_self k, ⟨n, 2 * j, hn2, by omega, hl, hs, rfl, rfl⟩, ⟨Nat.zero_le _, Nat.le_refl _, ⟨⟨rfl, rfl⟩, ⟨rfl, rfl⟩, ⟨rfl, rfl⟩, ⟨congrArg u64 hshr, rfl⟩, trivial⟩, ⟨⟨.inr rfl, rfl⟩, trivial⟩⟩⟩
          · have h2 : ¬ ((n + 2 ^ k : Nat) : Int) ≤ 65536 := by
              rw [← hor]
              exact of_decide_eq_false h1
            rw [if_neg (fun hh => h2 (by omega))] at hs
            refine And.intro (by decide) ?_
            exact ⟨k, _, _, Nat.lt_succ_self k, ⟨n, 2 * j, hn2, by omega, hl, hs, rfl, rfl⟩, ⟨Nat.zero_le _, Nat.le_refl _, ⟨⟨rfl, rfl⟩, ⟨rfl, rfl⟩, ⟨rfl, rfl⟩, ⟨congrArg u64 hshr, rfl⟩, trivial⟩, ⟨⟨.inr rfl, rfl⟩, trivial⟩⟩⟩
    · cases hg
  · exact hk.elim
end Go.Proofs.YtbolfnkgbjkbjaaGreat.AM
