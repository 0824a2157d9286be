/- Contracts, part 7: squares and thirds. -/
import Derived.Test.YtbolfnkgbjkbjaaGreatS6
set_option linter.unusedVariables false
set_option linter.unusedSimpArgs false
namespace Go.Proofs.YtbolfnkgbjkbjaaGreat.AM
open Go Go.RowKit
set_option maxRecDepth 100000
theorem sq_le (x : Int) (h : fixOk x) : 0 ≤ x * x ∧ x * x ≤ 4951760157141521099596496896 := by
  have e : (x.natAbs : Int) * (x.natAbs : Int) = x * x := Int.natAbs_mul_self' x
  rw [← e]
  have h1 : (x.natAbs : Int) ≤ 70368744177664 := by omega
  have h0 : (0 : Int) ≤ x.natAbs := by omega
  exact ⟨Int.mul_nonneg h0 h0, Int.le_trans (Int.mul_le_mul h1 h1 h0 (by decide)) (by decide)⟩
theorem mul_lt (x y : Int) (hx : w64 x) (hy : w64 y) : 0 ≤ x * y ∧ x * y < 340282366920938463463374607431768211456 := by
  refine ⟨Int.mul_nonneg hx.1 hy.1, ?_⟩
  have h1 : x ≤ 18446744073709551615 := by omega
  have h2 : y ≤ 18446744073709551615 := by omega
  exact Int.lt_of_le_of_lt (Int.mul_le_mul h1 h2 hy.1 (by decide)) (by decide)
/-- fixed.square -/
def g124 : GSpec := fun args obs => match args, obs with
  | [.agg [.int .i64 x, .int .i64 y]], [] => some (fixOk x ∧ fixOk y, .ret (wd (x * x + y * y)), [])
  | _, _ => none
theorem k124 (x y : Int) (K' : Out → List Ob → Prop) : runFn (T6) (D6) noIv a124 [.agg [.int .i64 x, .int .i64 y]] (lookO []) 0 (closeK K') =
    ((True) ∧
    (True) ∧
    (True) ∧
    (True ∧ True) ∧
    ([x, y].length < (1000000 : Nat) ∧
  ∀ (x_1 : den [SK.int IntKind.i64]),
    x_1 ∈ [x, y] →
      (-70368744177664 : den [SK.int IntKind.i64]) ≤ x_1 ∧ x_1 ≤ (70368744177664 : den [SK.int IntKind.i64])) ∧
    ((True ∧ True) ∧ (-9223372036854775808 : Int) ≤ x ∧ x < (9223372036854775808 : Int)) ∧
    ((True ∧ True) ∧ (-9223372036854775808 : Int) ≤ x ∧ x < (9223372036854775808 : Int)) ∧
    ((True ∧ True ∧ True) ∧ w64 ↑x.natAbs ∧ w64 ↑x.natAbs) ∧
    ((True ∧ True) ∧ (-9223372036854775808 : Int) ≤ y ∧ y < (9223372036854775808 : Int)) ∧
    ((True ∧ True) ∧ (-9223372036854775808 : Int) ≤ y ∧ y < (9223372036854775808 : Int)) ∧
    ((True ∧ True ∧ True) ∧ w64 ↑y.natAbs ∧ w64 ↑y.natAbs) ∧
    (((True ∧ True ∧ True) ∧ (True ∧ True ∧ True) ∧ True) ∧
  (w64 (↑x.natAbs * ↑x.natAbs / (18446744073709551616 : Int)) ∧
      w64 (↑x.natAbs * ↑x.natAbs % (18446744073709551616 : Int)) ∧
        w64 (↑y.natAbs * ↑y.natAbs / (18446744073709551616 : Int)) ∧
          w64 (↑y.natAbs * ↑y.natAbs % (18446744073709551616 : Int))) ∧
    ↑x.natAbs * ↑x.natAbs / (18446744073709551616 : Int) + ↑y.natAbs * ↑y.natAbs / (18446744073709551616 : Int) <
      (18446744073709551616 : Int) - (1 : Int)) ∧
    (True) ∧
    K'
  (Out.ret
    (V.agg
      [V.int IntKind.u64
          ((↑x.natAbs * ↑x.natAbs / (18446744073709551616 : Int) * (18446744073709551616 : Int) +
                ↑x.natAbs * ↑x.natAbs % (18446744073709551616 : Int) +
              (↑y.natAbs * ↑y.natAbs / (18446744073709551616 : Int) * (18446744073709551616 : Int) +
                ↑y.natAbs * ↑y.natAbs % (18446744073709551616 : Int))) /
            (18446744073709551616 : Int)),
        V.int IntKind.u64
          ((↑x.natAbs * ↑x.natAbs / (18446744073709551616 : Int) * (18446744073709551616 : Int) +
                ↑x.natAbs * ↑x.natAbs % (18446744073709551616 : Int) +
              (↑y.natAbs * ↑y.natAbs / (18446744073709551616 : Int) * (18446744073709551616 : Int) +
                ↑y.natAbs * ↑y.natAbs % (18446744073709551616 : Int))) %
            (18446744073709551616 : Int))]))
  []) := by kernel_rfl
theorem r124 : FreshOk Tryz.prog 124 (ofD g124) := by
  refine fresh_of_run T6_ok D6_ok (fun _ _ => noIv) Tryz.func124 c124 fun args obs K' hk => ?_
  unfold ofD g124 at hk
  split at hk
  · rename_i d_ out news hg
    split at hg
    · rename_i x y
      cases hg
      obtain ⟨hc, hk⟩ := hk
      obtain ⟨h1, h2⟩ := hc
      have hp := sq_le x h1
      have hq := sq_le y h2
      have ex : (x.natAbs : Int) * (x.natAbs : Int) = x * x := Int.natAbs_mul_self' x
      have ey : (y.natAbs : Int) * (y.natAbs : Int) = y * y := Int.natAbs_mul_self' y
      refine Eq.mpr (k124 x y K') ⟨trivial, trivial, trivial, ⟨trivial, trivial⟩, ?_, ?_, ?_, ?_, ?_, ?_, ?_, ?_, trivial, ?_⟩
      · refine ⟨by simp, ?_⟩
        intro z hz
        simp at hz
        rcases hz with rfl | rfl
        · exact h1
        · exact h2
      · refine ⟨⟨trivial, trivial⟩, ?_⟩
        omega
      · refine ⟨⟨trivial, trivial⟩, ?_⟩
        omega
      · refine ⟨⟨trivial, trivial, trivial⟩, ?_, ?_⟩ <;> omega
      · refine ⟨⟨trivial, trivial⟩, ?_⟩
        omega
      · refine ⟨⟨trivial, trivial⟩, ?_⟩
        omega
      · refine ⟨⟨trivial, trivial, trivial⟩, ?_, ?_⟩ <;> omega
      · refine ⟨⟨⟨trivial, trivial, trivial⟩, ⟨trivial, trivial, trivial⟩, trivial⟩, ?_⟩
        rw [ex, ey]
        generalize x * x = p at *
        generalize y * y = q at *
        omega
      · rw [ex, ey]
        have e : x * x / 18446744073709551616 * 18446744073709551616 + x * x % 18446744073709551616 + (y * y / 18446744073709551616 * 18446744073709551616 + y * y % 18446744073709551616) = x * x + y * y := by
          generalize x * x = p at *
          generalize y * y = q at *
          omega
        rw [e]
        exact hk
    · cases hg
  · exact hk.elim
/-- fixed.bits3 -/
def g216 : GSpec := fun args obs => match args, obs with
  | [.int .u64 x, .agg [.int .u64 y, .int .u64 z]], [] => some ((w64 x ∧ w64 y ∧ w64 z) ∧ x * y < 170141183460469231731687303715884105728, .ret (.tup [wd (x * y + x * z / 18446744073709551616), u64 (x * z % 18446744073709551616)]), [])
  | _, _ => none
theorem k216 (x y z : Int) (K' : Out → List Ob → Prop) : runFn (T6) (D6) noIv a216 [.int .u64 x, .agg [.int .u64 y, .int .u64 z]] (lookO []) 0 (closeK K') =
    ((True) ∧
    (True) ∧
    ((True ∧ True ∧ True) ∧ w64 x ∧ w64 z) ∧
    ((True ∧ True ∧ True) ∧ w64 x ∧ w64 y) ∧
    (True) ∧
    (True) ∧
    (True) ∧
    (True) ∧
    (((True ∧ True ∧ True) ∧ (True ∧ True ∧ True) ∧ True) ∧
  (w64 (x * y / (18446744073709551616 : Int)) ∧
      w64 (x * y % (18446744073709551616 : Int)) ∧ w64 (0 : Int) ∧ w64 (x * z / (18446744073709551616 : Int))) ∧
    x * y / (18446744073709551616 : Int) + (0 : Int) < (18446744073709551616 : Int) - (1 : Int)) ∧
    (True) ∧
    K'
  (Out.ret
    (V.tup
      [V.agg
          [V.int IntKind.u64
              ((x * y / (18446744073709551616 : Int) * (18446744073709551616 : Int) +
                    x * y % (18446744073709551616 : Int) +
                  ((0 : Int) * (18446744073709551616 : Int) + x * z / (18446744073709551616 : Int))) /
                (18446744073709551616 : Int)),
            V.int IntKind.u64
              ((x * y / (18446744073709551616 : Int) * (18446744073709551616 : Int) +
                    x * y % (18446744073709551616 : Int) +
                  ((0 : Int) * (18446744073709551616 : Int) + x * z / (18446744073709551616 : Int))) %
                (18446744073709551616 : Int))],
        V.int IntKind.u64 (x * z % (18446744073709551616 : Int))]))
  []) := by kernel_rfl
theorem r216 : FreshOk Tryz.prog 216 (ofD g216) := by
  refine fresh_of_run T6_ok D6_ok (fun _ _ => noIv) Tryz.func216 c216 fun args obs K' hk => ?_
  unfold ofD g216 at hk
  split at hk
  · rename_i d_ out news hg
    split at hg
    · rename_i x y z
      cases hg
      obtain ⟨hc, hk⟩ := hk
      obtain ⟨⟨h1, h2, h3⟩, h4⟩ := hc
      have hp : 0 ≤ x * y := Int.mul_nonneg h1.1 h2.1
      have hq := mul_lt x z h1 h3
      refine Eq.mpr (k216 x y z K') ⟨trivial, trivial, ?_, ?_, trivial, trivial, trivial, trivial, ?_, trivial, ?_⟩
      · exact ⟨⟨trivial, trivial, trivial⟩, h1, h3⟩
      · exact ⟨⟨trivial, trivial, trivial⟩, h1, h2⟩
      · refine ⟨⟨⟨trivial, trivial, trivial⟩, ⟨trivial, trivial, trivial⟩, trivial⟩, ?_⟩
        generalize x * y = p at *
        generalize x * z = q at *
        omega
      · have e : x * y / 18446744073709551616 * 18446744073709551616 + x * y % 18446744073709551616 + (0 * 18446744073709551616 + x * z / 18446744073709551616) = x * y + x * z / 18446744073709551616 := by
          generalize x * y = p at *
          generalize x * z = q at *
          omega
        rw [e]
        exact hk
    · cases hg
  · exact hk.elim
end Go.Proofs.YtbolfnkgbjkbjaaGreat.AM
