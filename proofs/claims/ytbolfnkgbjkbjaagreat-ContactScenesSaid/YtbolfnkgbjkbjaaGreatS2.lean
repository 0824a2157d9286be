/- Contracts, part 2: spots. -/
import Derived.Test.YtbolfnkgbjkbjaaGreatS1
set_option linter.unusedVariables false
set_option linter.unusedSimpArgs false
namespace Go.Proofs.YtbolfnkgbjkbjaaGreat.AM
open Go Go.RowKit

def D3 : DTab := (noD.add 121 (viewD g121)).add 93 (viewD g93)
theorem D3_ok : TabOk Tryz.prog (tabD D3) := DTab.add_ok (DTab.add_ok (noD_ok _) (dok r121)) (dok r93)
def eachT (D : DTab) : Tab := (T2.add 158 (runFn T2 D noIv a158))
def eachT2 (D : DTab) : Tab := (eachT D).add 135 (runTried (eachT D) D noIv a135)
def eachT3 (D : DTab) : Tab := (eachT2 D).add 92 (runFn (eachT2 D) D noIv a92)
theorem eachT3_ok {D : DTab} (hD : TabOk Tryz.prog (tabD D)) : TabOk Tryz.prog (eachT3 D) := by
  have h1 : TabOk Tryz.prog (eachT D) := T2_ok.add (fn_entry T2_ok hD noIv Tryz.func158 c158)
  have h2 : TabOk Tryz.prog (eachT2 D) := h1.add (tried_entry h1 hD noIv Tryz.func135 Tryz.func192 c135 d135)
  exact h2.add (fn_entry h2 hD noIv Tryz.func92 c92)
set_option maxRecDepth 100000
/-- fixed.Minus -/
def g76 : GSpec := fun args obs => match args, obs with
  | [.agg [.int .i64 a, .int .i64 b], .agg [.int .i64 c, .int .i64 d]], [] => some ((fixOk a ∧ fixOk b ∧ fixOk c ∧ fixOk d) ∧ fixOk (a - c) ∧ fixOk (b - d), .ret (.tup [.agg [i64 (a - c), i64 (b - d)], i64 0]), [])
  | _, _ => none
theorem k76 (a b c d : Int) (K' : Out → List Ob → Prop) : runFn (eachT3 D3) (D3) noIv a76 [.agg [.int .i64 a, .int .i64 b], .agg [.int .i64 c, .int .i64 d]] (lookO []) 0 (closeK K') =
    ((True) ∧
    (True) ∧
    (True) ∧
    (True) ∧
    (True) ∧
    (True) ∧
    (True) ∧
    (True) ∧
    (True) ∧
    (True) ∧
    (True) ∧
    (True ∧ True) ∧
    ([a, b, c, d].length < 1000000 ∧
  ∀ (x : den [SK.int IntKind.i64]), x ∈ [a, b, c, d] → -70368744177664 ≤ x ∧ x ≤ 70368744177664) ∧
    ((True ∧ True ∧ True) ∧ fixOk a ∧ fixOk c ∧ fixOk (a - c)) ∧
    ((True ∧ True ∧ True) ∧ fixOk b ∧ fixOk d ∧ fixOk (b - d)) ∧
    (True) ∧
    (True) ∧
    (True) ∧
    (True) ∧
    (True) ∧
    (True) ∧
    (True) ∧
    K' (Out.ret (V.tup [V.agg [V.int IntKind.i64 (a - c), V.int IntKind.i64 (b - d)], V.int IntKind.i64 0])) []) := by kernel_rfl
theorem r76 : FreshOk Tryz.prog 76 (ofD g76) := by
  refine fresh_of_run (eachT3_ok D3_ok) D3_ok (fun _ _ => noIv) Tryz.func76 c76 fun args obs K' hk => ?_
  unfold ofD g76 at hk
  split at hk
  · rename_i d_ out news hg
    split at hg
    · rename_i a b c d
      cases hg
      obtain ⟨hc, hk⟩ := hk
      obtain ⟨⟨h1, h2, h3, h4⟩, h5, h6⟩ := hc
      refine Eq.mpr (k76 a b c d K') ⟨trivial, trivial, trivial, trivial, trivial, trivial, trivial, trivial, trivial, trivial, trivial, ⟨trivial, trivial⟩, ?_, ?_, ?_, trivial, trivial, trivial, trivial, trivial, trivial, trivial, hk⟩
      · refine ⟨by simp, ?_⟩
        intro x hx
        simp at hx
        rcases hx with rfl | rfl | rfl | rfl
        · exact h1
        · exact h2
        · exact h3
        · exact h4
      · exact ⟨⟨trivial, trivial, trivial⟩, h1, h3, h5⟩
      · exact ⟨⟨trivial, trivial, trivial⟩, h2, h4, h6⟩
    · cases hg
  · exact hk.elim
/-- fixed.Plus -/
def g57 : GSpec := fun args obs => match args, obs with
  | [.agg [.int .i64 a, .int .i64 b], .agg [.int .i64 c, .int .i64 d]], [] => some ((fixOk a ∧ fixOk b ∧ fixOk c ∧ fixOk d) ∧ fixOk (a + c) ∧ fixOk (b + d), .ret (.tup [.agg [i64 (a + c), i64 (b + d)], i64 0]), [])
  | _, _ => none
theorem k57 (a b c d : Int) (K' : Out → List Ob → Prop) : runFn (eachT3 D3) (D3) noIv a57 [.agg [.int .i64 a, .int .i64 b], .agg [.int .i64 c, .int .i64 d]] (lookO []) 0 (closeK K') =
    ((True) ∧
    (True) ∧
    (True) ∧
    (True) ∧
    (True) ∧
    (True) ∧
    (True) ∧
    (True) ∧
    (True) ∧
    (True) ∧
    (True) ∧
    (True ∧ True) ∧
    ([a, b, c, d].length < 1000000 ∧
  ∀ (x : den [SK.int IntKind.i64]), x ∈ [a, b, c, d] → -70368744177664 ≤ x ∧ x ≤ 70368744177664) ∧
    ((True ∧ True ∧ True) ∧ fixOk a ∧ fixOk c ∧ fixOk (a + c)) ∧
    ((True ∧ True ∧ True) ∧ fixOk b ∧ fixOk d ∧ fixOk (b + d)) ∧
    (True) ∧
    (True) ∧
    (True) ∧
    (True) ∧
    (True) ∧
    (True) ∧
    (True) ∧
    K' (Out.ret (V.tup [V.agg [V.int IntKind.i64 (a + c), V.int IntKind.i64 (b + d)], V.int IntKind.i64 0])) []) := by kernel_rfl
theorem r57 : FreshOk Tryz.prog 57 (ofD g57) := by
  refine fresh_of_run (eachT3_ok D3_ok) D3_ok (fun _ _ => noIv) Tryz.func57 c57 fun args obs K' hk => ?_
  unfold ofD g57 at hk
  split at hk
  · rename_i d_ out news hg
    split at hg
    · rename_i a b c d
      cases hg
      obtain ⟨hc, hk⟩ := hk
      obtain ⟨⟨h1, h2, h3, h4⟩, h5, h6⟩ := hc
      refine Eq.mpr (k57 a b c d K') ⟨trivial, trivial, trivial, trivial, trivial, trivial, trivial, trivial, trivial, trivial, trivial, ⟨trivial, trivial⟩, ?_, ?_, ?_, trivial, trivial, trivial, trivial, trivial, trivial, trivial, hk⟩
      · refine ⟨by simp, ?_⟩
        intro x hx
        simp at hx
        rcases hx with rfl | rfl | rfl | rfl
        · exact h1
        · exact h2
        · exact h3
        · exact h4
      · exact ⟨⟨trivial, trivial, trivial⟩, h1, h3, h5⟩
      · exact ⟨⟨trivial, trivial, trivial⟩, h2, h4, h6⟩
    · cases hg
  · exact hk.elim
end Go.Proofs.YtbolfnkgbjkbjaaGreat.AM
