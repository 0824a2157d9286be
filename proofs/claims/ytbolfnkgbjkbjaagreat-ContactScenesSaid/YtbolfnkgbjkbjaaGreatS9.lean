/- Contracts, part 9: the law of below. -/
import Derived.Test.YtbolfnkgbjkbjaaGreatS8
set_option linter.unusedVariables false
set_option linter.unusedSimpArgs false
namespace Go.Proofs.YtbolfnkgbjkbjaaGreat.AM
open Go Go.RowKit
theorem pow32 : (2 ^ min (Int.toNat 32) IntKind.u64.bits : Int) = 4294967296 := by decide
theorem rq0_eq (x : Int) (hx : w64 x) : rq0 x = x * x / 18446744073709551616 / 4294967296 := by
  unfold rq0
  rw [pow32, Int.fdiv_eq_ediv_of_nonneg _ (by decide)]
theorem rq2_eq (x : Int) : rq2 x = x * x % 18446744073709551616 * 4294967296 % 18446744073709551616 := by
  unfold rq2
  rw [pow32, IntKind.wrap_u64]
theorem nat_or (a b : Nat) (ha : a < 18446744073709551616) (hb : b < 18446744073709551616) :
    IntKind.u64.wrap ↑(BitVec.ofInt IntKind.u64.bits (IntKind.u64.wrap ((a : Int) * 4294967296)) ||| BitVec.ofInt IntKind.u64.bits ((b : Int) / 4294967296)).toNat = (a : Int) % 4294967296 * 4294967296 + (b : Int) / 4294967296 := by
  have e1 : (BitVec.ofInt IntKind.u64.bits (IntKind.u64.wrap ((a : Int) * 4294967296))).toNat = 2 ^ 32 * (a % 4294967296) := by
    rw [BitVec.toNat_ofInt, IntKind.wrap_u64]
    show (((a : Int) * 4294967296 % 18446744073709551616) % ((2 ^ 64 : Nat) : Int)).toNat = _
    omega
  have e2 : (BitVec.ofInt IntKind.u64.bits ((b : Int) / 4294967296)).toNat = b / 4294967296 := by
    rw [BitVec.toNat_ofInt]
    show (((b : Int) / 4294967296) % ((2 ^ 64 : Nat) : Int)).toNat = _
    omega
  rw [BitVec.toNat_or, e1, e2, ← Nat.two_pow_add_eq_or_of_lt (by omega), IntKind.wrap_u64]
  omega
theorem rq1_eq (x : Int) (hx : w64 x) : rq1 x = x * x / 18446744073709551616 % 4294967296 * 4294967296 + x * x % 18446744073709551616 / 4294967296 := by
  have hp := mul_lt x x hx hx
  unfold rq1
  rw [pow32, Int.fdiv_eq_ediv_of_nonneg _ (by decide)]
  generalize x * x = p at *
  have ha : 0 ≤ p / 18446744073709551616 ∧ p / 18446744073709551616 < 18446744073709551616 := by omega
  have hb : 0 ≤ p % 18446744073709551616 ∧ p % 18446744073709551616 < 18446744073709551616 := by omega
  generalize p / 18446744073709551616 = a at *
  generalize p % 18446744073709551616 = b at *
  obtain ⟨A, rfl⟩ := Int.eq_ofNat_of_zero_le ha.1
  obtain ⟨B, rfl⟩ := Int.eq_ofNat_of_zero_le hb.1
  exact nat_or A B (by omega) (by omega)
theorem lex3_eq (r0 r1 r2 q0 q1 q2 : Int) (h1 : w64 r1) (h2 : w64 r2) (h3 : w64 q1) (h4 : w64 q2) :
    lex3 r0 r1 r2 q0 q1 q2 = decide (r0 * 340282366920938463463374607431768211456 + r1 * 18446744073709551616 + r2 ≤ q0 * 340282366920938463463374607431768211456 + q1 * 18446744073709551616 + q2) := by
  unfold lex3
  by_cases e0 : r0 = q0
  · rw [if_neg (by simpa using e0)]
    by_cases e1 : r1 = q1
    · rw [if_neg (by simpa using e1)]
      by_cases e2 : r2 = q2
      · rw [if_neg (by simpa using e2)]
        symm
        rw [decide_eq_true_iff]
        omega
      · rw [if_pos e2, decide_eq_decide]
        omega
    · rw [if_pos e1, decide_eq_decide]
      omega
  · rw [if_pos e0, decide_eq_decide]
    omega
/-- fixed.below -/
def g193 : GSpec := fun args obs => match args, obs with
  | [.int .u64 n, .agg [.int .u64 h, .int .u64 l], .int .u64 x], [] => some ((0 ≤ n ∧ n ≤ 131072) ∧ w64 h ∧ w64 l ∧ w64 x, .ret (.bool (decide (n * n * (h * 18446744073709551616 + l) ≤ 4294967296 * (x * x)))), [])
  | _, _ => none
theorem FreshOk.weaken {P : Program} {f : Nat} {F F' : FSpec} (h : FreshOk P f F) (hs : ∀ args obs K, F' args obs K → F args obs K) : FreshOk P f F' :=
  fun args obs K hk => h args obs K (hs _ _ _ hk)
theorem r193 : FreshOk Tryz.prog 193 (ofD g193) := by
  refine r70a.weaken fun args obs K hk => ?_
  unfold ofD g193 at hk
  split at hk
  · rename_i d out news hg
    split at hg
    · rename_i n h l x
      cases hg
      obtain ⟨⟨hn, hh, hl, hx⟩, hk⟩ := hk
      have hm : 0 ≤ n * n ∧ n * n ≤ 17179869184 := ⟨Int.mul_nonneg hn.1 hn.1, Int.le_trans (Int.mul_le_mul hn.2 hn.2 hn.1 (by decide)) (by decide)⟩
      have hw : IntKind.u64.wrap (n * n) = n * n := by
        generalize n * n = m at *
        exact IntWalk.u64_in _ (by omega)
      have hmh : 0 ≤ n * n * h ∧ n * n * h < 170141183460469231731687303715884105728 :=
        ⟨Int.mul_nonneg hm.1 hh.1, Int.lt_of_le_of_lt (Int.mul_le_mul hm.2 (show h ≤ 18446744073709551615 by omega) hh.1 (by decide)) (by decide)⟩
      have hml := Int.mul_nonneg hm.1 hl.1
      have hpx := mul_lt x x hx hx
      have e0 := rq0_eq x hx
      have e1 := rq1_eq x hx
      have e2 := rq2_eq x
      have f0 : rr0 n h l = (n * n * h + n * n * l / 18446744073709551616) / 18446744073709551616 := by unfold rr0; rw [hw]
      have f1 : rr1 n h l = (n * n * h + n * n * l / 18446744073709551616) % 18446744073709551616 := by unfold rr1; rw [hw]
      have f2 : rr2 n l = n * n * l % 18446744073709551616 := by unfold rr2; rw [hw]
      have ed : n * n * (h * 18446744073709551616 + l) = n * n * h * 18446744073709551616 + n * n * l := by rw [Int.mul_add, Int.mul_assoc (n * n) h]
      have key : lex3 (rr0 n h l) (rr1 n h l) (rr2 n l) (rq0 x) (rq1 x) (rq2 x) = decide (n * n * (h * 18446744073709551616 + l) ≤ 4294967296 * (x * x)) := by
        rw [e0, e1, e2, f0, f1, f2, ed]
        generalize n * n * h = u at *
        generalize n * n * l = v at *
        generalize x * x = p at *
        rw [lex3_eq _ _ _ _ _ _ (by omega) (by omega) (by omega) (by omega), decide_eq_decide]
        omega
      rw [← key] at hk
      refine ⟨⟨⟨⟨?_, hh, hl⟩, ?_⟩, hx⟩, hk⟩
      · rw [hw]; omega
      · rw [hw]; exact hmh.2
    · cases hg
  · exact hk.elim
end Go.Proofs.YtbolfnkgbjkbjaaGreat.AM
