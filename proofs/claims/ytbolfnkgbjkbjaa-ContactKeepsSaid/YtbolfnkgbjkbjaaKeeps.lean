/- ContactKeeps: for any two bodies and any elasticity the statement answers true, and its arguments stay. Conditions: none. -/
import Derived.Test.YtbolfnkgbjkbjaaRows
import Derived.Test.YtbolfnkgbjkbjaaS25
import Derived.Test.YtbolfnkgbjkbjaaRow
set_option linter.unusedVariables false
set_option linter.unusedSimpArgs false
namespace Go.Proofs.Ytbolfnkgbjkbjaa
open Go.ChangeShapes Go.WideShapes Go.ChangeAt Go.RowKit AM

theorem own : ownKnob Try.prog.godebug = none := by kernel_rfl
theorem laidOut : laidOutB Try.prog = true := by kernel_rfl
abbrev kBody : Bool × List CK := (true, [.s (.int .i64), .s (.int .i64), .s (.int .i64), .s (.int .i64), .s (.int .i64), .s (.int .i64), .s (.int .i64), .s .bool])
theorem body_open {cs : List CV} (h : KR kBody.2 cs) : ∃ (a b c d e f g : Int) (o : Bool), cs = [.s (.int .i64 a), .s (.int .i64 b), .s (.int .i64 c), .s (.int .i64 d), .s (.int .i64 e), .s (.int .i64 f), .s (.int .i64 g), .s (.bool o)] := by
  obtain ⟨a, r, rfl, _, h⟩ := KR.int h
  obtain ⟨b, r, rfl, _, h⟩ := KR.int h
  obtain ⟨c, r, rfl, _, h⟩ := KR.int h
  obtain ⟨d, r, rfl, _, h⟩ := KR.int h
  obtain ⟨e, r, rfl, _, h⟩ := KR.int h
  obtain ⟨f, r, rfl, _, h⟩ := KR.int h
  obtain ⟨g, r, rfl, _, h⟩ := KR.int h
  obtain ⟨o, r, rfl, h8⟩ := KR.bool h
  obtain rfl := KR.nil h8
  exact ⟨a, b, c, d, e, f, g, o, rfl⟩
set_option maxRecDepth 100000 in
theorem keeps_lifted (os : Os) (started : os.Started) (H : Type) (enc : TypeId × Value → H) :
    ReturnsInHanded {} Try.checked os 3 .any (Rows.contactKeepsSpec.pre6 enc Try.prog Try.f3 Rows.contactKeepsRow.domain false) (Rows.contactKeepsSpec.post enc Try.prog Try.f3 false true false false) := by
  refine returnsInHanded_of_change (C := Try.checked) own started (by kernel_rfl) Try.func3
    (ChangeSpec.witness6 (enc := enc) (C := Try.checked) false ⟨#[], #[.agg #[.int .i64 0, .int .i64 0, .int .i64 0, .int .i64 0, .int .i64 0, .int .i64 0, .int .i64 0, .bool false], .agg #[.int .i64 0, .int .i64 0, .int .i64 0, .int .i64 0, .int .i64 0, .int .i64 0, .int .i64 0, .bool false], .int .i64 0], []⟩ 8 (by kernel_rfl) (by kernel_rfl) (by kernel_rfl) (by kernel_rfl)) ?_
  intro W base args ds gs before hval0 hW hcnd _
  have hval : ∀ (j : Nat) t v, Try.f3.params[j]? = some t → args[j]? = some v → Value.okWide Try.prog W .any base t v := hval0
  have hW' := hW
  obtain ⟨p, q, hA0, hV, rfl, hfz, hnd⟩ := hW
  have hA : DataW.TrodAll enc Try.prog W 0 (fun _ => true) true Try.f3.params.toList args.toList ds p := hA0
  obtain ⟨rfl, rfl⟩ := trodVars_none hV
  have hlt : ∀ x ∈ p, x.block < W.heap.size := fun x hx => hW'.lt x (by simpa using hx)
  have hds : ∃ d1 d2 d3, ds = [d1, d2, d3] := by
    have h := hA
    rw [Try.params3] at h
    obtain ⟨_, _, d1, ds1, _, _, _, rfl, _, _, h⟩ := trodAll_cons h
    obtain ⟨_, _, d2, ds2, _, _, _, rfl, _, _, h⟩ := trodAll_cons h
    obtain ⟨_, vs3, d3, ds3, _, _, _, rfl, _, _, h⟩ := trodAll_cons h
    cases ds3 with
    | nil => exact ⟨d1, d2, d3, rfl⟩
    | cons _ _ => cases vs3 <;> simp [DataW.TrodAll] at h
  obtain ⟨d1, d2, d3, rfl⟩ := hds
  simp only [List.append_nil] at hW'
  refine (law_calls (enc := enc) r3 Try.func3 (by kernel_rfl) (by decide +kernel) [kBody, kBody, (false, [.s (.int .i64)])] (by kernel_rfl) hA hval (fun cvs hk => ?_)).mono ?_
  · obtain ⟨c1, cr, rfl, h1, hk⟩ := KRs.cons hk
    obtain ⟨c2, cr, rfl, h2, hk⟩ := KRs.cons hk
    obtain ⟨c3, cr, rfl, h3, hk⟩ := KRs.cons hk
    obtain rfl := KRs.nil hk
    obtain ⟨a, b, c, d, e, f, g, o, rfl⟩ := body_open h1
    obtain ⟨a', b', c', d', e', f', g', o', rfl⟩ := body_open h2
    obtain ⟨n, r, rfl, _, h4⟩ := KR.int h3
    obtain rfl := KR.nil h4
    exact ⟨trivial, rfl⟩
  · rintro e W' ⟨rfl, hb⟩
    exact ⟨_, rfl, post_of_below (pa := p) (pv := []) hW' (fun _ _ _ => trodAll_mk1 (shut_bool Try.underlying4 true)) (fun sp hsp => trodAll_stays laidOut hb _ _ _ _ (by kernel_rfl) hA hlt (fun x hx => hsp x (by simpa using hx))) (fun _ _ => rfl) (by simp)
      hb (ok_one (by kernel_rfl) rfl (okWide_bool_mk Try.underlying4 true))⟩

/-- For any two bodies and any elasticity ContactKeeps answers true. -/
theorem keeps_holds : Rows.ContactKeepsSaid :=
  OpenClaim.holds_of_wide 3 Try.f3 rfl rfl rfl rfl rfl rfl rfl ⟨rfl, rfl, rfl, rfl, rfl⟩ rfl rfl rfl rfl rfl (by kernel_rfl) Try.func3 (by kernel_rfl)
    (of_decide_eq_true (by kernel_rfl)) (by unfold Func.isWrapper; first | (rw [if_pos (by decide +kernel)]; kernel_rfl) | (rw [if_neg (by decide +kernel)]; exact ⟨rfl, rfl⟩))
    (fun os started H enc _ => keeps_lifted os started H enc)
end Go.Proofs.Ytbolfnkgbjkbjaa
