/- Contracts, part 12: Unit. -/
import Derived.Test.YtbolfnkgbjkbjaaGreatS11
set_option linter.unusedVariables false
set_option linter.unusedSimpArgs false
namespace Go.Proofs.YtbolfnkgbjkbjaaGreat.AM
open Go Go.RowKit
set_option maxRecDepth 100000

theorem in_fix {l : List Int} (h : l.length < 1000000) (hh : ∀ x ∈ l, fixOk x) : l.length < 1000000 ∧ ∀ x : den [SK.int .i64], x ∈ l → -70368744177664 ≤ x ∧ x ≤ 70368744177664 := ⟨h, hh⟩
/-- each, over a table. -/
def eT (T : Tab) (D : DTab) : Tab := ((T.add 158 (runFn T D noIv a158)).add 135 (runTried (T.add 158 (runFn T D noIv a158)) D noIv a135)).add 92 (runFn ((T.add 158 (runFn T D noIv a158)).add 135 (runTried (T.add 158 (runFn T D noIv a158)) D noIv a135)) D noIv a92)
theorem eT_ok {T : Tab} {D : DTab} (hT : TabOk Tryz.prog T) (hD : TabOk Tryz.prog (tabD D)) : TabOk Tryz.prog (eT T D) := by
  have h1 : TabOk Tryz.prog (T.add 158 (runFn T D noIv a158)) := hT.add (fn_entry hT hD noIv Tryz.func158 c158)
  have h2 := h1.add (tried_entry h1 hD noIv Tryz.func135 Tryz.func192 c135 d135)
  exact h2.add (fn_entry h2 hD noIv Tryz.func92 c92)
def D12 : DTab := D11.add 137 (viewD g137)
theorem D12_ok : TabOk Tryz.prog (tabD D12) := DTab.add_ok D11_ok (dok r137)
def T12 : Tab := (eT T8 D12).add 136 (runFn (eT T8 D12) D12 noIv a136)
theorem T12_ok : TabOk Tryz.prog T12 := (eT_ok T8_ok D12_ok).add (fn_entry (eT_ok T8_ok D12_ok) D12_ok noIv Tryz.func136 c136)
def T12b : Tab := T12.add 135 (runTried T12 D12 noIv a135)
theorem T12b_ok : TabOk Tryz.prog T12b := T12_ok.add (tried_entry T12_ok D12_ok noIv Tryz.func135 Tryz.func192 c135 d135)

/-- fixed.Unit -/
def g82 : GSpec := fun args obs => match args, obs with
  | [.agg [.int .i64 x, .int .i64 y]], [] => some (fixOk x ∧ fixOk y ∧ 0 < x * x + y * y, .ret (.tup [.agg [i64 (shareS x (x * x + y * y)), i64 (shareS y (x * x + y * y))], i64 0]), [])
  | _, _ => none
theorem k82 (x y : Int) (K' : Out → List Ob → Prop) : runFn (T12b) (D12) noIv a82 [.agg [.int .i64 x, .int .i64 y]] (lookO []) 0 (closeK K') =
    ((True) ∧
    (True) ∧
    (True) ∧
    (True) ∧
    (True) ∧
    ((True ∧ True ∧ True) ∧ True) ∧
    (fixOk x ∧ fixOk y) ∧
    (True) ∧
    (True) ∧
    (True ∧ True ∧ True) ∧
    ((match true with
  | true =>
    !((x * x + y * y) / (18446744073709551616 : Int) == (0 : Int) &&
        ((x * x + y * y) % (18446744073709551616 : Int) == (0 : Int) && true))
  | false =>
    (x * x + y * y) / (18446744073709551616 : Int) == (0 : Int) &&
      ((x * x + y * y) % (18446744073709551616 : Int) == (0 : Int) && true)) =
  true) ∧
    (True) ∧
    (True) ∧
    (True) ∧
    (True) ∧
    (True) ∧
    (True) ∧
    (True) ∧
    (True) ∧
    (True ∧ True) ∧
    ([x, y, x, y].length < (1000000 : Nat) ∧
  ∀ (x_1 : den [SK.int IntKind.i64]),
    x_1 ∈ [x, y, x, y] →
      (-70368744177664 : den [SK.int IntKind.i64]) ≤ x_1 ∧ x_1 ≤ (70368744177664 : den [SK.int IntKind.i64])) ∧
    ((True ∧ True ∧ True ∧ True) ∧
  fixOk x ∧ w64 ((x * x + y * y) / (18446744073709551616 : Int)) ∧ w64 ((x * x + y * y) % (18446744073709551616 : Int))) ∧
    ((True ∧ True ∧ True ∧ True) ∧
  fixOk y ∧ w64 ((x * x + y * y) / (18446744073709551616 : Int)) ∧ w64 ((x * x + y * y) % (18446744073709551616 : Int))) ∧
    (True) ∧
    (True) ∧
    (True) ∧
    (True) ∧
    (True) ∧
    (True) ∧
    (True) ∧
    (True) ∧
    (True) ∧
    (True) ∧
    (True) ∧
    (True) ∧
    (True) ∧
    (True) ∧
    K'
  (Out.ret
    (V.tup
      [V.agg
          [V.int IntKind.i64
              (shareS x
                ((x * x + y * y) / (18446744073709551616 : Int) * (18446744073709551616 : Int) +
                  (x * x + y * y) % (18446744073709551616 : Int))),
            V.int IntKind.i64
              (shareS y
                ((x * x + y * y) / (18446744073709551616 : Int) * (18446744073709551616 : Int) +
                  (x * x + y * y) % (18446744073709551616 : Int)))],
        V.int IntKind.i64 (0 : Int)]))
  []) := by kernel_rfl
theorem r82 : FreshOk Tryz.prog 82 (ofD g82) := by
  refine fresh_of_run T12b_ok D12_ok (fun _ _ => noIv) Tryz.func82 c82 fun args obs K' hk => ?_
  unfold ofD g82 at hk
  split at hk
  · rename_i d_ out news hg
    split at hg
    · rename_i x y
      cases hg
      obtain ⟨hc, hk⟩ := hk
      have hp := sq_le x hc.1
      have hq := sq_le y hc.2.1
      refine Eq.mpr (k82 x y K') ⟨trivial, trivial, trivial, trivial, trivial, ⟨⟨trivial, ⟨trivial, trivial⟩⟩, trivial⟩, ?_, trivial, trivial, ⟨trivial, ⟨trivial, trivial⟩⟩, ?_, trivial, trivial, trivial, trivial, trivial, trivial, trivial, trivial, ⟨trivial, trivial⟩, ?_, ?_, ?_, trivial, trivial, trivial, trivial, trivial, trivial, trivial, trivial, trivial, trivial, trivial, trivial, trivial, trivial, ?_⟩
      · first | omega | (simp only [true_and, and_true]; omega) | exact in_fix (by simp) (by simp; omega)
      · generalize x * x + y * y = s at *
        simp
        omega
      · first | omega | (simp only [true_and, and_true]; omega) | exact in_fix (by simp) (by simp; omega)
      · refine ⟨⟨trivial, trivial, trivial, trivial⟩, hc.1, ?_⟩
        clear hk
        omega
      · refine ⟨⟨trivial, trivial, trivial, trivial⟩, hc.2.1, ?_⟩
        clear hk
        omega
      · have e : (x * x + y * y) / 18446744073709551616 * 18446744073709551616 + (x * x + y * y) % 18446744073709551616 = x * x + y * y := by
          generalize x * x + y * y = s at *
          omega
        rw [e]
        exact hk
    · cases hg
  · exact hk.elim

end Go.Proofs.YtbolfnkgbjkbjaaGreat.AM
