/- Contracts, part 19: Times. -/
import Derived.Test.YtbolfnkgbjkbjaaGreatS18
set_option linter.unusedVariables false
set_option linter.unusedSimpArgs false
namespace Go.Proofs.YtbolfnkgbjkbjaaGreat.AM
open Go Go.RowKit
set_option maxRecDepth 100000

def D19 : DTab := D17.add 146 (viewD g146)
theorem D19_ok : TabOk Tryz.prog (tabD D19) := DTab.add_ok D17_ok (dok r146)
def T19a : Tab := (eT T17 D19).add 145 (runFn T17 D19 noIv a145)
theorem T19a_ok : TabOk Tryz.prog T19a := (eT_ok T17_ok D19_ok).add (fn_entry T17_ok D19_ok noIv Tryz.func145 c145)
def T19 : Tab := T19a.add 144 (runTried T19a D19 noIv a144)
theorem T19_ok : TabOk Tryz.prog T19 := T19a_ok.add (tried_entry T19a_ok D19_ok noIv Tryz.func144 Tryz.func197 c144 d144)

/-- fixed.Times, cut -/
def g85 : GSpec := fun args obs => match args, obs with
  | [.agg [.int .i64 x, .int .i64 y], .int .i64 b, .int .i64 0], [] => some ((fixOk x ∧ fixOk y ∧ fixOk b) ∧ (x.natAbs : Int) * (b.natAbs : Int) / 65536 < 70368744177664 ∧ (y.natAbs : Int) * (b.natAbs : Int) / 65536 < 70368744177664, .ret (.tup [.agg [i64 ((x * b).tdiv 65536), i64 ((y * b).tdiv 65536)], i64 0]), [])
  | _, _ => none
theorem k85 (x y b : Int) (K' : Out → List Ob → Prop) : runFn (T19) (D19) noIv a85 [.agg [.int .i64 x, .int .i64 y], .int .i64 b, .int .i64 0] (lookO []) 0 (closeK K') =
    ((True) ∧
    (True) ∧
    (True) ∧
    (True) ∧
    (True) ∧
    (True) ∧
    (True) ∧
    (True ∧ True) ∧
    ([x, y, b].length < (1000000 : Nat) ∧
  ∀ (x_1 : den [SK.int IntKind.i64]),
    x_1 ∈ [x, y, b] →
      (-70368744177664 : den [SK.int IntKind.i64]) ≤ x_1 ∧ x_1 ≤ (70368744177664 : den [SK.int IntKind.i64])) ∧
    (True) ∧
    (True) ∧
    (True) ∧
    (True) ∧
    (True) ∧
    (True) ∧
    (True) ∧
    (True) ∧
    (True) ∧
    (True) ∧
    (True) ∧
    (True) ∧
    (True) ∧
    (True) ∧
    (True ∧ True) ∧
    ([x, y, x, y].length < (1000000 : Nat) ∧
  ∀ (x_1 : den [SK.int IntKind.i64]),
    x_1 ∈ [x, y, x, y] →
      (-70368744177664 : den [SK.int IntKind.i64]) ≤ x_1 ∧ x_1 ≤ (70368744177664 : den [SK.int IntKind.i64])) ∧
    ((True ∧ True ∧ True ∧ True ∧ True) ∧
  (fixOk x ∧ fixOk b) ∧ ↑x.natAbs * ↑b.natAbs / (65536 : Int) < (70368744177664 : Int)) ∧
    ((True ∧ True ∧ True ∧ True ∧ True) ∧
  (fixOk y ∧ fixOk b) ∧ ↑y.natAbs * ↑b.natAbs / (65536 : Int) < (70368744177664 : Int)) ∧
    (True) ∧
    (True) ∧
    (True) ∧
    (True) ∧
    (True) ∧
    (True) ∧
    (True) ∧
    K'
  (Out.ret
    (V.tup
      [V.agg [V.int IntKind.i64 ((x * b).tdiv (65536 : Int)), V.int IntKind.i64 ((y * b).tdiv (65536 : Int))],
        V.int IntKind.i64 (0 : Int)]))
  []) := by kernel_rfl
theorem r85 : FreshOk Tryz.prog 85 (ofD g85) := by
  refine fresh_of_run T19_ok D19_ok (fun _ _ => noIv) Tryz.func85 c85 fun args obs K' hk => ?_
  unfold ofD g85 at hk
  split at hk
  · rename_i d_ out news hg
    split at hg
    · rename_i x y b
      cases hg
      obtain ⟨hc, hk⟩ := hk
      obtain ⟨⟨h1, h2, h3⟩, h4, h5⟩ := hc
      refine Eq.mpr (k85 x y b K') ⟨trivial, trivial, trivial, trivial, trivial, trivial, trivial, ⟨trivial, trivial⟩, ?_, trivial, trivial, trivial, trivial, trivial, trivial, trivial, trivial, trivial, trivial, trivial, trivial, trivial, trivial, ⟨trivial, trivial⟩, ?_, ?_, ?_, trivial, trivial, trivial, trivial, trivial, trivial, trivial, hk⟩
      · first | omega | (simp only [true_and, and_true]; omega) | exact in_fix (by simp) (by simp; omega)
      · first | omega | (simp only [true_and, and_true]; omega) | exact in_fix (by simp) (by simp; omega)
      · exact ⟨⟨trivial, trivial, trivial, trivial, trivial⟩, ⟨h1, h3⟩, h4⟩
      · exact ⟨⟨trivial, trivial, trivial, trivial, trivial⟩, ⟨h2, h3⟩, h5⟩
    · cases hg
  · exact hk.elim

end Go.Proofs.YtbolfnkgbjkbjaaGreat.AM
