/- Contracts, part 12: Unit. -/
import Derived.Test.YtbolfnkgbjkbjaaS11
set_option linter.unusedVariables false
set_option linter.unusedSimpArgs false
namespace Go.Proofs.Ytbolfnkgbjkbjaa.AM
open Go Go.RowKit
set_option maxRecDepth 100000

theorem in_fix {l : List Int} (h : l.length < 1000000) (hh : ∀ x ∈ l, fixOk x) : l.length < 1000000 ∧ ∀ x : den [SK.int .i64], x ∈ l → -70368744177664 ≤ x ∧ x ≤ 70368744177664 := ⟨h, hh⟩
/-- each, over a table. -/
def eT (T : Tab) (D : DTab) : Tab := ((T.add 65 (runFn T D noIv a65)).add 45 (runTried (T.add 65 (runFn T D noIv a65)) D noIv a45)).add 36 (runFn ((T.add 65 (runFn T D noIv a65)).add 45 (runTried (T.add 65 (runFn T D noIv a65)) D noIv a45)) D noIv a36)
theorem eT_ok {T : Tab} {D : DTab} (hT : TabOk Try.prog T) (hD : TabOk Try.prog (tabD D)) : TabOk Try.prog (eT T D) := by
  have h1 : TabOk Try.prog (T.add 65 (runFn T D noIv a65)) := hT.add (fn_entry hT hD noIv Try.func65 c65)
  have h2 := h1.add (tried_entry h1 hD noIv Try.func45 Try.func69 c45 d45)
  exact h2.add (fn_entry h2 hD noIv Try.func36 c36)
def D12 : DTab := D11.add 48 (viewD g48)
theorem D12_ok : TabOk Try.prog (tabD D12) := DTab.add_ok D11_ok (dok r48)
def T12 : Tab := (eT T8 D12).add 46 (runFn (eT T8 D12) D12 noIv a46)
theorem T12_ok : TabOk Try.prog T12 := (eT_ok T8_ok D12_ok).add (fn_entry (eT_ok T8_ok D12_ok) D12_ok noIv Try.func46 c46)
def T12b : Tab := T12.add 45 (runTried T12 D12 noIv a45)
theorem T12b_ok : TabOk Try.prog T12b := T12_ok.add (tried_entry T12_ok D12_ok noIv Try.func45 Try.func69 c45 d45)

/-- fixed.Unit -/
def g28 : GSpec := fun args obs => match args, obs with
  | [.agg [.int .i64 x, .int .i64 y]], [] => some (fixOk x ∧ fixOk y ∧ 0 < x * x + y * y, .ret (.tup [.agg [i64 (shareS x (x * x + y * y)), i64 (shareS y (x * x + y * y))], i64 0]), [])
  | _, _ => none
theorem k28 (x y : Int) (K' : Out → List Ob → Prop) : runFn (T12b) (D12) noIv a28 [.agg [.int .i64 x, .int .i64 y]] (lookO []) 0 (closeK K') =
    ((True) ∧
    (True) ∧
    (True) ∧
    (True) ∧
    (True) ∧
    ((True ∧ True ∧ True) ∧ True) ∧
    (fixOk x ∧ fixOk y) ∧
    (True) ∧
    (True) ∧
    (True ∧ True ∧ True) ∧
    ((match true with
  | true =>
    !((x * x + y * y) / (18446744073709551616 : Int) == (0 : Int) &&
        ((x * x + y * y) % (18446744073709551616 : Int) == (0 : Int) && true))
  | false =>
    (x * x + y * y) / (18446744073709551616 : Int) == (0 : Int) &&
      ((x * x + y * y) % (18446744073709551616 : Int) == (0 : Int) && true)) =
  true) ∧
    (True) ∧
    (True) ∧
    (True) ∧
    (True) ∧
    (True) ∧
    (True) ∧
    (True) ∧
    (True) ∧
    (True ∧ True) ∧
    ([x, y, x, y].length < (1000000 : Nat) ∧
  ∀ (x_1 : den [SK.int IntKind.i64]),
    x_1 ∈ [x, y, x, y] →
      (-70368744177664 : den [SK.int IntKind.i64]) ≤ x_1 ∧ x_1 ≤ (70368744177664 : den [SK.int IntKind.i64])) ∧
    ((True ∧ True ∧ True ∧ True) ∧
  fixOk x ∧ w64 ((x * x + y * y) / (18446744073709551616 : Int)) ∧ w64 ((x * x + y * y) % (18446744073709551616 : Int))) ∧
    ((True ∧ True ∧ True ∧ True) ∧
  fixOk y ∧ w64 ((x * x + y * y) / (18446744073709551616 : Int)) ∧ w64 ((x * x + y * y) % (18446744073709551616 : Int))) ∧
    (True) ∧
    (True) ∧
    (True) ∧
    (True) ∧
    (True) ∧
    (True) ∧
    (True) ∧
    (True) ∧
    (True) ∧
    (True) ∧
    (True) ∧
    (True) ∧
    (True) ∧
    (True) ∧
    K'
  (Out.ret
    (V.tup
      [V.agg
          [V.int IntKind.i64
              (shareS x
                ((x * x + y * y) / (18446744073709551616 : Int) * (18446744073709551616 : Int) +
                  (x * x + y * y) % (18446744073709551616 : Int))),
            V.int IntKind.i64
              (shareS y
                ((x * x + y * y) / (18446744073709551616 : Int) * (18446744073709551616 : Int) +
                  (x * x + y * y) % (18446744073709551616 : Int)))],
        V.int IntKind.i64 (0 : Int)]))
  []) := by kernel_rfl
theorem r28 : FreshOk Try.prog 28 (ofD g28) := by
  refine fresh_of_run T12b_ok D12_ok (fun _ _ => noIv) Try.func28 c28 fun args obs K' hk => ?_
  unfold ofD g28 at hk
  split at hk
  · rename_i d_ out news hg
    split at hg
    · rename_i x y
      cases hg
      obtain ⟨hc, hk⟩ := hk
      have hp := sq_le x hc.1
      have hq := sq_le y hc.2.1
      refine Eq.mpr (k28 x y K') ⟨trivial, trivial, trivial, trivial, trivial, ⟨⟨trivial, ⟨trivial, trivial⟩⟩, trivial⟩, ?_, trivial, trivial, ⟨trivial, ⟨trivial, trivial⟩⟩, ?_, trivial, trivial, trivial, trivial, trivial, trivial, trivial, trivial, ⟨trivial, trivial⟩, ?_, ?_, ?_, trivial, trivial, trivial, trivial, trivial, trivial, trivial, trivial, trivial, trivial, trivial, trivial, trivial, trivial, ?_⟩
      · first | omega | (simp only [true_and, and_true]; omega) | exact in_fix (by simp) (by simp; omega)
      · generalize x * x + y * y = s at *
        simp
        omega
      · first | omega | (simp only [true_and, and_true]; omega) | exact in_fix (by simp) (by simp; omega)
      · refine ⟨⟨trivial, trivial, trivial, trivial⟩, hc.1, ?_⟩
        clear hk
        omega
      · refine ⟨⟨trivial, trivial, trivial, trivial⟩, hc.2.1, ?_⟩
        clear hk
        omega
      · have e : (x * x + y * y) / 18446744073709551616 * 18446744073709551616 + (x * x + y * y) % 18446744073709551616 = x * x + y * y := by
          generalize x * x + y * y = s at *
          omega
        rw [e]
        exact hk
    · cases hg
  · exact hk.elim

end Go.Proofs.Ytbolfnkgbjkbjaa.AM
