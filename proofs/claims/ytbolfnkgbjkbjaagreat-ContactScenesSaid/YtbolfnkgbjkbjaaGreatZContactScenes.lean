/- ContactScenes: the statement answers true. Conditions: none. -/
import Derived.Test.YtbolfnkgbjkbjaaGreatRows
import Derived.Test.YtbolfnkgbjkbjaaGreatZ6
import Derived.Test.YtbolfnkgbjkbjaaGreatRow
set_option linter.unusedVariables false
set_option linter.unusedSimpArgs false
namespace Go.Proofs.YtbolfnkgbjkbjaaGreat
open Go.ChangeShapes Go.WideShapes Go.ChangeAt Go.RowKit AM

theorem own : ownKnob Tryz.prog.godebug = none := by kernel_rfl
theorem laidOut : laidOutB Tryz.prog = true := by kernel_rfl

set_option maxRecDepth 100000 in
theorem lifted (os : Os) (started : os.Started) (H : Type) (enc : TypeId × Value → H) :
    ReturnsInHanded {} Tryz.checked os 4 .any (Rows.contactScenesSpec.pre6 enc Tryz.prog Tryz.f4 Rows.contactScenesRow.domain false) (Rows.contactScenesSpec.post enc Tryz.prog Tryz.f4 false true false false) := by
  refine returnsInHanded_of_change (C := Tryz.checked) own started (by kernel_rfl) Tryz.func4
    (ChangeSpec.witness6 (enc := enc) (C := Tryz.checked) false ⟨#[], #[.slice none 0 0, .slice none 0 0], []⟩ 8 (by kernel_rfl) (by kernel_rfl) (by kernel_rfl) (by kernel_rfl)) ?_
  intro W base args ds gs before hval0 hW hcnd _
  have hval : ∀ (j : Nat) t v, Tryz.f4.params[j]? = some t → args[j]? = some v → Value.okWide Tryz.prog W .any base t v := hval0
  have hW' := hW
  obtain ⟨p, q, hA0, hV, rfl, hfz, hnd⟩ := hW
  have hA : DataW.TrodAll enc Tryz.prog W 0 (fun _ => true) true Tryz.f4.params.toList args.toList ds p := hA0
  obtain ⟨rfl, rfl⟩ := trodVars_none hV
  have hlt : ∀ x ∈ p, x.block < W.heap.size := fun x hx => hW'.lt x (by simpa using hx)
  have hpar : Tryz.f4.params.toList = [44, 45] := by kernel_rfl
  have hds : ∃ d1 d2, ds = [d1, d2] := by
    have h := hA
    rw [hpar] at h
    obtain ⟨_, vs1, d1, ds1, _, _, _, rfl, _, _, h⟩ := trodAll_cons h
    obtain ⟨_, vs2, d2, ds2, _, _, _, rfl, _, _, h⟩ := trodAll_cons h
    cases ds2 with
    | nil => exact ⟨d1, d2, rfl⟩
    | cons _ _ => cases vs2 <;> simp [DataW.TrodAll] at h
  obtain ⟨d1, d2, rfl⟩ := hds
  simp only [List.append_nil] at hW'
  refine (law_calls (enc := enc) r4 Tryz.func4 (by kernel_rfl) (by decide +kernel) [(false, [.sl E8]), (false, [.sl E4])] (by kernel_rfl) hA hval (fun cvs hk => ?_)).mono ?_
  · obtain ⟨c1, cr, rfl, h1, hk⟩ := KRs.cons hk
    obtain ⟨c2, cr, rfl, h2, hk⟩ := KRs.cons hk
    obtain rfl := KRs.nil hk
    obtain ⟨l, r, rfl, hl, h1⟩ := KR.sl h1
    obtain rfl := KR.nil h1
    obtain ⟨s, r, rfl, hs, h2⟩ := KR.sl h2
    obtain rfl := KR.nil h2
    exact ⟨trivial, rfl⟩
  · rintro e W' ⟨rfl, hb⟩
    exact ⟨_, rfl, post_of_below (pa := p) (pv := []) hW' (fun _ _ _ => trodAll_mk1 (shut_bool Tryz.underlying4 true)) (fun sp hsp => trodAll_stays laidOut hb _ _ _ _ (by kernel_rfl) hA hlt (fun x hx => hsp x (by simpa using hx))) (fun _ _ => rfl) (by simp)
      hb (ok_one (by kernel_rfl) rfl (okWide_bool_mk Tryz.underlying4 true))⟩

/-- ContactScenes answers true. -/
theorem contactScenes_holds : Rows.ContactScenesSaid :=
  OpenClaim.holds_of_wide 4 Tryz.f4 rfl rfl rfl rfl rfl rfl rfl ⟨rfl, rfl, rfl, rfl, rfl⟩ rfl rfl rfl rfl rfl (by kernel_rfl) Tryz.func4 (by kernel_rfl)
    (of_decide_eq_true (by kernel_rfl)) (by unfold Func.isWrapper; first | (rw [if_pos (by decide +kernel)]; kernel_rfl) | (rw [if_neg (by decide +kernel)]; exact ⟨rfl, rfl⟩))
    (fun os started H enc _ => lifted os started H enc)
end Go.Proofs.YtbolfnkgbjkbjaaGreat
