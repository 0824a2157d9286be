/- ContactNames: the statement answers true. Conditions: none. -/
import Derived.Test.YtbolfnkgbjkbjaaRows
import Derived.Test.YtbolfnkgbjkbjaaS26
import Derived.Test.YtbolfnkgbjkbjaaRow
set_option linter.unusedVariables false
set_option linter.unusedSimpArgs false
namespace Go.Proofs.Ytbolfnkgbjkbjaa
open Go.ChangeShapes Go.WideShapes Go.ChangeAt Go.RowKit AM

theorem own : ownKnob Try.prog.godebug = none := by kernel_rfl
theorem laidOut : laidOutB Try.prog = true := by kernel_rfl
set_option maxRecDepth 100000 in
theorem names_lifted (os : Os) (started : os.Started) (H : Type) (enc : TypeId × Value → H) :
    ReturnsInHanded {} Try.checked os 4 .any (Rows.contactNamesSpec.pre6 enc Try.prog Try.f4 Rows.contactNamesRow.domain false) (Rows.contactNamesSpec.post enc Try.prog Try.f4 false true false false) := by
  refine returnsInHanded_of_change (C := Try.checked) own started (by kernel_rfl) Try.func4
    (ChangeSpec.witness6 (enc := enc) (C := Try.checked) false ⟨#[], #[], []⟩ 8 (by kernel_rfl) (by kernel_rfl) (by kernel_rfl) (by kernel_rfl)) ?_
  intro W base args ds gs before hval0 hW hcnd _
  have hval : ∀ (j : Nat) t v, Try.f4.params[j]? = some t → args[j]? = some v → Value.okWide Try.prog W .any base t v := hval0
  have hW' := hW
  obtain ⟨p, q, hA0, hV, rfl, hfz, hnd⟩ := hW
  have hA : DataW.TrodAll enc Try.prog W 0 (fun _ => true) true Try.f4.params.toList args.toList ds p := hA0
  obtain ⟨rfl, rfl⟩ := trodVars_none hV
  have hlt : ∀ x ∈ p, x.block < W.heap.size := fun x hx => hW'.lt x (by simpa using hx)
  have hpar : Try.f4.params.toList = [] := by kernel_rfl
  have hds : ds = [] := by
    have h := hA
    rw [hpar] at h
    cases hargs : args.toList <;> cases ds <;> rw [hargs] at h <;> simp [DataW.TrodAll] at h ⊢
  subst hds
  simp only [List.append_nil] at hW'
  refine (law_calls (enc := enc) r4 Try.func4 (by kernel_rfl) (by decide +kernel) [] (by kernel_rfl) hA hval (fun cvs hk => ?_)).mono ?_
  · obtain rfl := KRs.nil hk
    exact ⟨trivial, rfl⟩
  · rintro e W' ⟨rfl, hb⟩
    exact ⟨_, rfl, post_of_below (pa := p) (pv := []) hW' (fun _ _ _ => trodAll_mk1 (shut_bool Try.underlying4 true)) (fun sp hsp => trodAll_stays laidOut hb _ _ _ _ (by kernel_rfl) hA hlt (fun x hx => hsp x (by simpa using hx))) (fun _ _ => rfl) (by simp)
      hb (ok_one (by kernel_rfl) rfl (okWide_bool_mk Try.underlying4 true))⟩

/-- ContactNames answers true. -/
theorem names_holds : Rows.ContactNamesSaid :=
  OpenClaim.holds_of_wide 4 Try.f4 rfl rfl rfl rfl rfl rfl rfl ⟨rfl, rfl, rfl, rfl, rfl⟩ rfl rfl rfl rfl rfl (by kernel_rfl) Try.func4 (by kernel_rfl)
    (of_decide_eq_true (by kernel_rfl)) (by unfold Func.isWrapper; first | (rw [if_pos (by decide +kernel)]; kernel_rfl) | (rw [if_neg (by decide +kernel)]; exact ⟨rfl, rfl⟩))
    (fun os started H enc _ => names_lifted os started H enc)
end Go.Proofs.Ytbolfnkgbjkbjaa
