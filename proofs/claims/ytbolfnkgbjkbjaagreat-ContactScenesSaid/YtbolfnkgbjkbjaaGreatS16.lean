/- Contracts, part 16: mul, and tables. -/
import Derived.Test.YtbolfnkgbjkbjaaGreatS15
set_option linter.unusedVariables false
set_option linter.unusedSimpArgs false
namespace Go.Proofs.YtbolfnkgbjkbjaaGreat.AM
open Go Go.RowKit
set_option maxRecDepth 100000

def T16 : Tab := (T15b.add 141 (liftA (ofD g141))).add 99 (runFn T15b D6 noIv a99)
theorem T16_ok : TabOk Tryz.prog T16 := (T15b_ok.add (entry_of_fresh r141)).add (fn_entry T15b_ok D6_ok noIv Tryz.func99 c99)
def D16 : DTab := D12.add 141 (viewD g141)
theorem D16_ok : TabOk Tryz.prog (tabD D16) := DTab.add_ok D12_ok (dok r141)
theorem natAbs_nn (x : Int) : x.natAbs = if x < 0 then -x else x := by split <;> omega
theorem sg_cut (x b d : Int) (hd : 0 < d) : sg (!(decide (x < 0) == decide (b < 0))) ((x.natAbs : Int) * (b.natAbs : Int) / d) = (x * b).tdiv d := by
  have key : ∀ p q : Int, 0 ≤ p → 0 ≤ q → (p * q).tdiv d = p * q / d := fun p q hp hq => Int.tdiv_eq_ediv_of_nonneg (Int.mul_nonneg hp hq)
  rw [natAbs_nn, natAbs_nn]
  unfold sg
  by_cases hx : x < 0 <;> by_cases hb : b < 0 <;> simp only [hx, hb, decide_true, decide_false, if_true, if_false]
  · show -x * -b / d = _
    rw [← key (-x) (-b) (by omega) (by omega), Int.neg_mul_neg]
  · show -(-x * b / d) = _
    rw [← key (-x) b (by omega) (by omega), Int.neg_mul, Int.neg_tdiv, Int.neg_neg]
  · show -(x * -b / d) = _
    rw [← key x (-b) (by omega) (by omega), Int.mul_neg, Int.neg_tdiv, Int.neg_neg]
  · show x * b / d = _
    rw [← key x b (by omega) (by omega)]
theorem abs_mul_le (x b : Int) (hx : fixOk x) (hb : fixOk b) : 0 ≤ (x.natAbs : Int) * (b.natAbs : Int) ∧ (x.natAbs : Int) * (b.natAbs : Int) ≤ 4951760157141521099596496896 := by
  have h1 : (x.natAbs : Int) ≤ 70368744177664 := by omega
  have h2 : (b.natAbs : Int) ≤ 70368744177664 := by omega
  exact ⟨Int.mul_nonneg (by omega) (by omega), Int.le_trans (Int.mul_le_mul h1 h2 (by omega) (by decide)) (by decide)⟩
theorem split64 (s : Int) : s / 18446744073709551616 * 18446744073709551616 + s % 18446744073709551616 = s := by omega

/-- fixed.mul, cut -/
def g147 : GSpec := fun args obs => match args, obs with
  | [.int .i64 x, .int .i64 b, .fn 161 [] []], [] => some ((fixOk x ∧ fixOk b) ∧ (x.natAbs : Int) * (b.natAbs : Int) / 65536 < 70368744177664, .ret (i64 ((x * b).tdiv 65536)), [])
  | _, _ => none
theorem k147 (x b : Int) (K' : Out → List Ob → Prop) : runFn (T16) (D16) noIv a147 [.int .i64 x, .int .i64 b, .fn 161 [] []] (lookO []) 0 (closeK K') =
    ((True) ∧
    (True ∧ True) ∧
    ([x, b].length < (1000000 : Nat) ∧
  ∀ (x_1 : den [SK.int IntKind.i64]),
    x_1 ∈ [x, b] →
      (-70368744177664 : den [SK.int IntKind.i64]) ≤ x_1 ∧ x_1 ≤ (70368744177664 : den [SK.int IntKind.i64])) ∧
    (True ∧ True) ∧
    ((-9223372036854775808 : Int) ≤ x ∧ x < (9223372036854775808 : Int)) ∧
    (True ∧ True) ∧
    ((-9223372036854775808 : Int) ≤ b ∧ b < (9223372036854775808 : Int)) ∧
    (True ∧ True ∧ True) ∧
    (w64 ↑x.natAbs ∧ w64 ↑b.natAbs) ∧
    ((True ∧ True ∧ True) ∧ True ∧ True ∧ True ∧ True) ∧
    (((0 : Int) ≤ ↑x.natAbs * ↑b.natAbs / (18446744073709551616 : Int) ∧
    ↑x.natAbs * ↑b.natAbs / (18446744073709551616 : Int) < (65536 : Int) ∧
      w64 (↑x.natAbs * ↑b.natAbs % (18446744073709551616 : Int)) ∧
        (0 : Int) < (65536 : Int) ∧ (65536 : Int) < (4294967296 : Int)) ∧
  (↑x.natAbs * ↑b.natAbs / (18446744073709551616 : Int) * (18446744073709551616 : Int) +
        ↑x.natAbs * ↑b.natAbs % (18446744073709551616 : Int)) /
      (65536 : Int) <
    (70368744177664 : Int)) ∧
    K'
  (Out.ret
    (V.int IntKind.i64
      (sg
        (match true with
        | true => !decide (x < (0 : Int)) == decide (b < (0 : Int))
        | false => decide (x < (0 : Int)) == decide (b < (0 : Int)))
        ((↑x.natAbs * ↑b.natAbs / (18446744073709551616 : Int) * (18446744073709551616 : Int) +
            ↑x.natAbs * ↑b.natAbs % (18446744073709551616 : Int)) /
          (65536 : Int)))))
  []) := by kernel_rfl
theorem r147 : FreshOk Tryz.prog 147 (ofD g147) := by
  refine fresh_of_run T16_ok D16_ok (fun _ _ => noIv) Tryz.func147 c147 fun args obs K' hk => ?_
  unfold ofD g147 at hk
  split at hk
  · rename_i d_ out news hg
    split at hg
    · rename_i x b
      cases hg
      obtain ⟨hc, hk⟩ := hk
      obtain ⟨⟨h1, h2⟩, h3⟩ := hc
      have hp := abs_mul_le x b h1 h2
      refine Eq.mpr (k147 x b K') ⟨trivial, ⟨trivial, trivial⟩, ?_, ⟨trivial, trivial⟩, ?_, ⟨trivial, trivial⟩, ?_, ⟨trivial, ⟨trivial, trivial⟩⟩, ?_, ⟨⟨trivial, ⟨trivial, trivial⟩⟩, ⟨trivial, ⟨trivial, ⟨trivial, trivial⟩⟩⟩⟩, ?_, ?_⟩
      · first | omega | (simp only [true_and, and_true]; omega) | exact in_fix (by simp) (by simp; omega)
      · first | omega | (simp only [true_and, and_true]; omega) | exact in_fix (by simp) (by simp; omega)
      · first | omega | (simp only [true_and, and_true]; omega) | exact in_fix (by simp) (by simp; omega)
      · first | omega | (simp only [true_and, and_true]; omega) | exact in_fix (by simp) (by simp; omega)
      · generalize (x.natAbs : Int) * (b.natAbs : Int) = p at *
        omega
      · rw [split64]
        rw [show (match true with | true => !decide (x < (0 : Int)) == decide (b < (0 : Int)) | false => decide (x < (0 : Int)) == decide (b < (0 : Int))) = !(decide (x < 0) == decide (b < 0)) from rfl, sg_cut x b 65536 (by decide)]
        exact hk
    · cases hg
  · exact hk.elim

end Go.Proofs.YtbolfnkgbjkbjaaGreat.AM
