/- Contracts, part 2: spots. -/
import Derived.Test.YtbolfnkgbjkbjaaS1
set_option linter.unusedVariables false
set_option linter.unusedSimpArgs false
namespace Go.Proofs.Ytbolfnkgbjkbjaa.AM
open Go Go.RowKit

def D3 : DTab := (noD.add 37 (viewD g37)).add 63 (viewD g63)
theorem D3_ok : TabOk Try.prog (tabD D3) := DTab.add_ok (DTab.add_ok (noD_ok _) (dok r37)) (dok r63)
def eachT (D : DTab) : Tab := (T2.add 65 (runFn T2 D noIv a65))
def eachT2 (D : DTab) : Tab := (eachT D).add 45 (runTried (eachT D) D noIv a45)
def eachT3 (D : DTab) : Tab := (eachT2 D).add 36 (runFn (eachT2 D) D noIv a36)
theorem eachT3_ok {D : DTab} (hD : TabOk Try.prog (tabD D)) : TabOk Try.prog (eachT3 D) := by
  have h1 : TabOk Try.prog (eachT D) := T2_ok.add (fn_entry T2_ok hD noIv Try.func65 c65)
  have h2 : TabOk Try.prog (eachT2 D) := h1.add (tried_entry h1 hD noIv Try.func45 Try.func69 c45 d45)
  exact h2.add (fn_entry h2 hD noIv Try.func36 c36)
set_option maxRecDepth 100000
/-- fixed.Minus -/
def g25 : GSpec := fun args obs => match args, obs with
  | [.agg [.int .i64 a, .int .i64 b], .agg [.int .i64 c, .int .i64 d]], [] => some ((fixOk a ∧ fixOk b ∧ fixOk c ∧ fixOk d) ∧ fixOk (a - c) ∧ fixOk (b - d), .ret (.tup [.agg [i64 (a - c), i64 (b - d)], i64 0]), [])
  | _, _ => none
theorem k25 (a b c d : Int) (K' : Out → List Ob → Prop) : runFn (eachT3 D3) (D3) noIv a25 [.agg [.int .i64 a, .int .i64 b], .agg [.int .i64 c, .int .i64 d]] (lookO []) 0 (closeK K') =
    ((True) ∧
    (True) ∧
    (True) ∧
    (True) ∧
    (True) ∧
    (True) ∧
    (True) ∧
    (True) ∧
    (True) ∧
    (True) ∧
    (True) ∧
    (True ∧ True) ∧
    ([a, b, c, d].length < 1000000 ∧
  ∀ (x : den [SK.int IntKind.i64]), x ∈ [a, b, c, d] → -70368744177664 ≤ x ∧ x ≤ 70368744177664) ∧
    ((True ∧ True ∧ True) ∧ fixOk a ∧ fixOk c ∧ fixOk (a - c)) ∧
    ((True ∧ True ∧ True) ∧ fixOk b ∧ fixOk d ∧ fixOk (b - d)) ∧
    (True) ∧
    (True) ∧
    (True) ∧
    (True) ∧
    (True) ∧
    (True) ∧
    (True) ∧
    K' (Out.ret (V.tup [V.agg [V.int IntKind.i64 (a - c), V.int IntKind.i64 (b - d)], V.int IntKind.i64 0])) []) := by kernel_rfl
theorem r25 : FreshOk Try.prog 25 (ofD g25) := by
  refine fresh_of_run (eachT3_ok D3_ok) D3_ok (fun _ _ => noIv) Try.func25 c25 fun args obs K' hk => ?_
  unfold ofD g25 at hk
  split at hk
  · rename_i d_ out news hg
    split at hg
    · rename_i a b c d
      cases hg
      obtain ⟨hc, hk⟩ := hk
      obtain ⟨⟨h1, h2, h3, h4⟩, h5, h6⟩ := hc
      refine Eq.mpr (k25 a b c d K') ⟨trivial, trivial, trivial, trivial, trivial, trivial, trivial, trivial, trivial, trivial, trivial, ⟨trivial, trivial⟩, ?_, ?_, ?_, trivial, trivial, trivial, trivial, trivial, trivial, trivial, hk⟩
      · refine ⟨by simp, ?_⟩
        intro x hx
        simp at hx
        rcases hx with rfl | rfl | rfl | rfl
        · exact h1
        · exact h2
        · exact h3
        · exact h4
      · exact ⟨⟨trivial, trivial, trivial⟩, h1, h3, h5⟩
      · exact ⟨⟨trivial, trivial, trivial⟩, h2, h4, h6⟩
    · cases hg
  · exact hk.elim
/-- fixed.Plus -/
def g33 : GSpec := fun args obs => match args, obs with
  | [.agg [.int .i64 a, .int .i64 b], .agg [.int .i64 c, .int .i64 d]], [] => some ((fixOk a ∧ fixOk b ∧ fixOk c ∧ fixOk d) ∧ fixOk (a + c) ∧ fixOk (b + d), .ret (.tup [.agg [i64 (a + c), i64 (b + d)], i64 0]), [])
  | _, _ => none
theorem k33 (a b c d : Int) (K' : Out → List Ob → Prop) : runFn (eachT3 D3) (D3) noIv a33 [.agg [.int .i64 a, .int .i64 b], .agg [.int .i64 c, .int .i64 d]] (lookO []) 0 (closeK K') =
    ((True) ∧
    (True) ∧
    (True) ∧
    (True) ∧
    (True) ∧
    (True) ∧
    (True) ∧
    (True) ∧
    (True) ∧
    (True) ∧
    (True) ∧
    (True ∧ True) ∧
    ([a, b, c, d].length < 1000000 ∧
  ∀ (x : den [SK.int IntKind.i64]), x ∈ [a, b, c, d] → -70368744177664 ≤ x ∧ x ≤ 70368744177664) ∧
    ((True ∧ True ∧ True) ∧ fixOk a ∧ fixOk c ∧ fixOk (a + c)) ∧
    ((True ∧ True ∧ True) ∧ fixOk b ∧ fixOk d ∧ fixOk (b + d)) ∧
    (True) ∧
    (True) ∧
    (True) ∧
    (True) ∧
    (True) ∧
    (True) ∧
    (True) ∧
    K' (Out.ret (V.tup [V.agg [V.int IntKind.i64 (a + c), V.int IntKind.i64 (b + d)], V.int IntKind.i64 0])) []) := by kernel_rfl
theorem r33 : FreshOk Try.prog 33 (ofD g33) := by
  refine fresh_of_run (eachT3_ok D3_ok) D3_ok (fun _ _ => noIv) Try.func33 c33 fun args obs K' hk => ?_
  unfold ofD g33 at hk
  split at hk
  · rename_i d_ out news hg
    split at hg
    · rename_i a b c d
      cases hg
      obtain ⟨hc, hk⟩ := hk
      obtain ⟨⟨h1, h2, h3, h4⟩, h5, h6⟩ := hc
      refine Eq.mpr (k33 a b c d K') ⟨trivial, trivial, trivial, trivial, trivial, trivial, trivial, trivial, trivial, trivial, trivial, ⟨trivial, trivial⟩, ?_, ?_, ?_, trivial, trivial, trivial, trivial, trivial, trivial, trivial, hk⟩
      · refine ⟨by simp, ?_⟩
        intro x hx
        simp at hx
        rcases hx with rfl | rfl | rfl | rfl
        · exact h1
        · exact h2
        · exact h3
        · exact h4
      · exact ⟨⟨trivial, trivial, trivial⟩, h1, h3, h5⟩
      · exact ⟨⟨trivial, trivial, trivial⟩, h2, h4, h6⟩
    · cases hg
  · exact hk.elim
end Go.Proofs.Ytbolfnkgbjkbjaa.AM
