/- Contracts, part 24: the first examples. -/
import Derived.Test.YtbolfnkgbjkbjaaGreatS23
set_option linter.unusedVariables false
set_option linter.unusedSimpArgs false
namespace Go.Proofs.YtbolfnkgbjkbjaaGreat.AM
open Go Go.RowKit
set_option maxRecDepth 100000

/-- besomlaw05.alive -/
def g19 : GSpec := fun args obs => match args, obs with
  | [], [] => some (True, .ret (.bool true), [])
  | _, _ => none
theorem k19  (K' : Out → List Ob → Prop) : runFn (T23b) (D23) noIv a19 [] (lookO []) 0 (closeK K') =
    ((True) ∧
    (True) ∧
    (True) ∧
    (True) ∧
    (True) ∧
    (True) ∧
    (True) ∧
    (True) ∧
    ((True ∧ True ∧ True ∧ True ∧ True ∧ True ∧ True ∧ True ∧ True) ∧
  (True ∧ True ∧ True ∧ True ∧ True ∧ True ∧ True ∧ True ∧ True) ∧ True) ∧
    (True) ∧
    ((True ∧ True ∧ True ∧ True ∧ True ∧ True ∧ True ∧ True ∧ True) ∧
  (True ∧ True ∧ True ∧ True ∧ True ∧ True ∧ True ∧ True ∧ True) ∧ True ∧ True) ∧
    (True) ∧
    (True) ∧
    (True) ∧
    (True) ∧
    (True) ∧
    ((True ∧ True ∧ True ∧ True) ∧ True) ∧
    ((True ∧ True ∧ True ∧ True) ∧ True) ∧
    K' (Out.ret (V.bool true)) []) := by kernel_rfl
theorem r19 : FreshOk Tryz.prog 19 (ofD g19) := by
  refine fresh_of_run T23b_ok D23_ok (fun _ _ => noIv) Tryz.func19 c19 fun args obs K' hk => ?_
  unfold ofD g19 at hk
  split at hk
  · rename_i d_ out news hg
    split at hg
    · skip
      cases hg
      obtain ⟨hc, hk⟩ := hk
      refine Eq.mpr (k19  K') ⟨trivial, trivial, trivial, trivial, trivial, trivial, trivial, trivial, ⟨⟨trivial, ⟨trivial, ⟨trivial, ⟨trivial, ⟨trivial, ⟨trivial, ⟨trivial, ⟨trivial, trivial⟩⟩⟩⟩⟩⟩⟩⟩, ⟨⟨trivial, ⟨trivial, ⟨trivial, ⟨trivial, ⟨trivial, ⟨trivial, ⟨trivial, ⟨trivial, trivial⟩⟩⟩⟩⟩⟩⟩⟩, trivial⟩⟩, trivial, ⟨⟨trivial, ⟨trivial, ⟨trivial, ⟨trivial, ⟨trivial, ⟨trivial, ⟨trivial, ⟨trivial, trivial⟩⟩⟩⟩⟩⟩⟩⟩, ⟨⟨trivial, ⟨trivial, ⟨trivial, ⟨trivial, ⟨trivial, ⟨trivial, ⟨trivial, ⟨trivial, trivial⟩⟩⟩⟩⟩⟩⟩⟩, ⟨trivial, trivial⟩⟩⟩, trivial, trivial, trivial, trivial, trivial, ⟨⟨trivial, ⟨trivial, ⟨trivial, trivial⟩⟩⟩, trivial⟩, ⟨⟨trivial, ⟨trivial, ⟨trivial, trivial⟩⟩⟩, trivial⟩, hk⟩
    · cases hg
  · exact hk.elim

end Go.Proofs.YtbolfnkgbjkbjaaGreat.AM
