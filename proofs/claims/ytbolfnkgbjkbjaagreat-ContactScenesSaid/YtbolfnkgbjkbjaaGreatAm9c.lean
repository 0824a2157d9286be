/- The abstract machine, part 9c: code. -/
import Derived.Test.YtbolfnkgbjkbjaaGreatAm9g
set_option linter.unusedVariables false
set_option linter.unusedSimpArgs false
namespace Go.Proofs.YtbolfnkgbjkbjaaGreat.AM
open Go Go.RowKit
/-! ### Code -/
def chkC (P : Program) (N : Nat) : Code → AC → Bool
  | .skip, .skip => true
  | .region _ ops false, .reg l => chkOps P ops.toList N ops.toList l
  | .region _ ops true, .drw l => chkDrw P N ops l
  | .seq a b, .seq a' b' => chkC P N a a' && chkC P N b b'
  | .seq a b, .seqc _ a' b' => chkC P N a a' && chkC P N b b'
  | .cond c a b, .cond c' a' b' => opd c c' && chkC P N a a' && chkC P N b b'
  | .block id c, .blk id' c' => decide (id = id') && chkC P N c c'
  | .loop c, .loop _ c' => chkC P N c c'
  | .loop c, .lpq _ c' => chkC P N c c'
  | .loop c, .unr _ c' => chkC P N c c'
  | .exit id, .exit id' => decide (id = id')
  | .ret, .ret => true
  | _, _ => false

theorem postx_then {N B : Nat} {ρ : Nat → Bnd} {n : Nat} {w : World} {D : List Deferred} {Q Q1 : AX → S → Prop} {next : Act → World → Prop} (h : ∀ ρ' s' a' w', Q1 .nrm s' → RelS N B ρ' s' a' w' → ExtR B ρ n w ρ' s'.nx w' → a'.defers = D → next a' w')
    (h1 : ∀ e s', e ≠ .nrm → Q1 e s' → Q e s') : ∀ e a' w', PostX N B ρ n w D Q1 e a' w' → Exit.then next (PostX N B ρ n w D Q) e a' w' := by
  rintro e a' w' ⟨ρ', s', ax, hx, hq, hs, he, hd⟩
  cases e with
  | normal =>
    cases ax <;> first | exact hx.elim | exact h ρ' s' a' w' hq hs he hd
  | exit id => exact ⟨ρ', s', ax, hx, h1 _ _ (by cases ax <;> first | exact hx.elim | (intro e; cases e)) hq, hs, he, hd⟩
  | goto l => cases ax <;> exact hx.elim
  | ret => exact ⟨ρ', s', ax, hx, h1 _ _ (by cases ax <;> first | exact hx.elim | (intro e; cases e)) hq, hs, he, hd⟩
  | panic ch => exact ⟨ρ', s', ax, hx, h1 _ _ (by cases ax <;> first | exact hx.elim | (intro e; cases e)) hq, hs, he, hd⟩
  | outgrown => cases ax <;> exact hx.elim
theorem awp_ok {P : Program} {T : Tab} {DT : DTab} {N B n0 : Nat} {Iv : Inv} (hT : TabOk P T) (hD : TabOk P (tabD DT)) : ∀ (c : Code) (ac : AC), chkC P N c ac = true → ∀ {Q : AX → S → Prop} {s : S} {ρ : Nat → Bnd} {a : Act} {w : World}, awp T DT Iv n0 ac Q s → RelS N B ρ s a w → n0 ≤ s.nx →
    c.wp P (PostX N B ρ n0 w a.defers Q) a w
  | .skip, ac, hc, Q, s, ρ, a, w, h, hs, hn => by
    cases ac <;> simp only [chkC] at hc <;> first | (cases hc; done) | skip
    exact wp_skip ⟨ρ, s, .nrm, trivial, h, hs, (ExtR.refl _ _ _ _).less hn, rfl⟩
  | .region id ops d, ac, hc, Q, s, ρ, a, w, h, hs, hn => by
    cases d <;> cases ac <;> simp only [chkC] at hc <;> first | (cases hc; done) | skip
    case true.drw l =>
      simp only [awp, forceN_iff] at h
      exact drw_ok hc hD hs h (fun ρ' s' a' w' hk hs' hx hd => ⟨ρ', s', .nrm, trivial, hk, hs', hx.less hn, hd⟩) (fun ρ' s' a' w' v x hk hs' hx hd hr => ⟨ρ', s', .pan v, ⟨x, rfl, hr⟩, hk, hs', hx.less hn, hd⟩)
    rename_i l
    refine wp_region ?_
    have := ops_ok (P := P) (ops := ops) (N := N) (B := B) hT (Q := PostX N B ρ n0 w a.defers Q) (K := Q .nrm) (PQ := fun v => Q (.pan v)) ops.toList l 0 rfl hc hs h
      (fun ρ' s' a' w' hk hs' hx hd => ⟨ρ', s', .nrm, trivial, hk, hs', hx.less hn, hd⟩) (fun ρ' s' a' w' v x hk hs' hx hd hr => ⟨ρ', s', .pan v, ⟨x, rfl, hr⟩, hk, hs', hx.less hn, hd⟩)
    rw [List.range_eq_range']
    simpa using this
  | .seq x y, ac, hc, Q, s, ρ, a, w, h, hs, hn => by
    cases ac <;> simp only [chkC] at hc <;> first | (cases hc; done) | skip
    case seqc nm x' y' =>
      simp only [Bool.and_eq_true] at hc
      obtain ⟨h1, h2⟩ := h
      refine wp_seq (wp_mono (awp_ok hT hD x x' hc.1 h1 hs hn) (postx_then (fun ρ' s' a' w' hq hs' hx hd => ?_) (fun e s' hne hq => ?_)))
      · obtain ⟨m, l, obs, hi, hsub⟩ := hq
        have := awp_ok hT hD y y' hc.2 (h2 m l obs hi) (sub_rel hs' hsub) hsub.1
        refine wp_mono this fun e a2 w2 hp => ?_
        rw [hd] at hp
        exact PostX.ext (n1 := obs.length) ⟨hx.1, hsub.1, hx.2.2⟩ hp
      · cases e <;> first | exact absurd rfl hne | exact hq
    rename_i x' y'
    simp only [Bool.and_eq_true] at hc
    refine wp_seq (wp_mono (awp_ok hT hD x x' hc.1 h hs hn) (postx_then (fun ρ' s' a' w' hq hs' hx hd => ?_) (fun e s' hne hq => ?_)))
    · have := awp_ok hT hD y y' hc.2 hq hs' hx.2.1
      refine wp_mono this fun e a2 w2 hp => ?_
      rw [hd] at hp
      exact PostX.ext hx hp
    · cases e <;> first | exact absurd rfl hne | exact hq
  | .cond c x y, ac, hc, Q, s, ρ, a, w, h, hs, hn => by
    cases ac <;> simp only [chkC] at hc <;> first | (cases hc; done) | skip
    rename_i c' x' y'
    simp only [Bool.and_eq_true] at hc
    simp only [awp] at h
    split at h
    · rename_i t ht
      have hR := opd_R hs hc.1.1
      rw [ht] at hR
      simp only [R] at hR
      cases t with
      | true => exact wp_cond_true hR (awp_ok hT hD x x' hc.1.2 h hs hn)
      | false => exact wp_cond_false hR (awp_ok hT hD y y' hc.2 h hs hn)
    · exact h.elim
  | .block id c, ac, hc, Q, s, ρ, a, w, h, hs, hn => by
    cases ac <;> simp only [chkC] at hc <;> first | (cases hc; done) | skip
    rename_i id' c'
    simp only [Bool.and_eq_true, decide_eq_true_eq] at hc
    obtain ⟨rfl, hc⟩ := hc
    refine wp_block (wp_mono (awp_ok hT hD c c' hc h hs hn) ?_)
    rintro e a' w' ⟨ρ', s', ax, hx, hq, hs', he, hd⟩
    cases e with
    | normal => cases ax <;> first | exact hx.elim | exact ⟨ρ', s', .nrm, trivial, hq, hs', he, hd⟩
    | exit i =>
      cases ax with
      | ext j =>
        have : j = i := hx
        subst this
        simp only [Exit.inBlock]
        simp only [] at hq
        by_cases e : j = id
        · rw [if_pos e]
          have hb : Nat.beq j id = true := by subst e; simp
          rw [hb] at hq
          exact ⟨ρ', s', .nrm, trivial, hq, hs', he, hd⟩
        · rw [if_neg e]
          have hb : Nat.beq j id = false := by rw [Bool.eq_false_iff]; intro h; exact e (Nat.eq_of_beq_eq_true h)
          rw [hb] at hq
          exact ⟨ρ', s', .ext j, rfl, hq, hs', he, hd⟩
      | _ => exact hx.elim
    | goto l => cases ax <;> exact hx.elim
    | ret => cases ax <;> first | exact hx.elim | exact ⟨ρ', s', .ret, trivial, hq, hs', he, hd⟩
    | panic ch =>
      cases ax with
      | pan v => exact ⟨ρ', s', .pan v, hx, hq, hs', he, hd⟩
      | _ => exact hx.elim
    | outgrown => cases ax <;> exact hx.elim
  | .loop c, ac, hc, Q, s, ρ, a, w, h, hs, hn => by
    cases ac <;> simp only [chkC] at hc <;> first | (cases hc; done) | skip
    case unr k c' =>
      refine wp_loopN (fun m a' w' => ∃ ρ' s', unrR (fun K s => awp T DT Iv n0 c' (fun e s' => match e with
        | .nrm => K s'
        | .ext id => Q (.ext id) s'
        | .ret => Q .ret s'
        | .pan v => Q (.pan v) s') s) m s' ∧ RelS N B ρ' s' a' w' ∧ ExtR B ρ n0 w ρ' s'.nx w' ∧ a'.defers = a.defers) ?_ (m := k) ⟨ρ, s, h, hs, (ExtR.refl _ _ _ _).less hn, rfl⟩
      rintro m a' w' ⟨ρ', s', hi, hs', hx, hd⟩
      cases m with
      | zero => exact hi.elim
      | succ m =>
        refine wp_mono (awp_ok hT hD c c' hc hi hs' hx.2.1) ?_
        rintro e a2 w2 ⟨ρ2, s2, ax, hax, hq, hs2, hx2, hd2⟩
        rw [hd] at hd2
        have hx3 := hx.trans0 hx2
        cases e with
        | normal =>
          cases ax with
          | nrm => exact ⟨m, Nat.lt_succ_self m, ρ2, s2, hq, hs2, hx3, hd2⟩
          | _ => exact hax.elim
        | exit i =>
          cases ax with
          | ext j => exact ⟨ρ2, s2, .ext j, hax, hq, hs2, hx3, hd2⟩
          | _ => exact hax.elim
        | goto l => cases ax <;> exact hax.elim
        | ret =>
          cases ax with
          | ret => exact ⟨ρ2, s2, .ret, hax, hq, hs2, hx3, hd2⟩
          | _ => exact hax.elim
        | panic ch =>
          cases ax with
          | pan v => exact ⟨ρ2, s2, .pan v, hax, hq, hs2, hx3, hd2⟩
          | _ => exact hax.elim
        | outgrown => cases ax <;> exact hax.elim
    case lpq nm c' =>
      obtain ⟨⟨m, l, obs, hi, hsub⟩, round⟩ := h
      refine wp_loopN (fun m a' w' => ∃ ρ' l obs, Iv nm m l obs ∧ RelS N B ρ' (St l obs) a' w' ∧ ExtR B ρ n0 w ρ' obs.length w' ∧ a'.defers = a.defers) ?_ (m := m)
        (by obtain ⟨ρ1, h1, h2⟩ := subq_rel hs hsub; exact ⟨ρ1, l, obs, hi, h1, ⟨h2, subq_n0 hsub, Below.refl _ _⟩, rfl⟩)
      rintro m a' w' ⟨ρ', l, obs, hi, hs', hx, hd⟩
      refine wp_mono (awp_ok hT hD c c' hc (round m l obs hi) hs' hx.2.1) ?_
      rintro e a2 w2 ⟨ρ2, s2, ax, hax, hq, hs2, hx2, hd2⟩
      rw [hd] at hd2
      have hx3 := hx.trans0 hx2
      cases e with
      | normal =>
        cases ax with
        | nrm =>
          obtain ⟨m', l', obs', hlt, hi', hsub'⟩ := hq
          obtain ⟨ρ1, h1, h2⟩ := subq_rel hs2 hsub'
          exact ⟨m', hlt, ρ1, l', obs', hi', h1, ⟨fun i hi => (h2 i hi).trans (hx3.1 i hi), subq_n0 hsub', hx3.2.2⟩, hd2⟩
        | _ => exact hax.elim
      | exit i =>
        cases ax with
        | ext j => exact ⟨ρ2, s2, .ext j, hax, hq, hs2, hx3, hd2⟩
        | _ => exact hax.elim
      | goto l => cases ax <;> exact hax.elim
      | ret =>
        cases ax with
        | ret => exact ⟨ρ2, s2, .ret, hax, hq, hs2, hx3, hd2⟩
        | _ => exact hax.elim
      | panic ch =>
        cases ax with
        | pan v => exact ⟨ρ2, s2, .pan v, hax, hq, hs2, hx3, hd2⟩
        | _ => exact hax.elim
      | outgrown => cases ax <;> exact hax.elim
    rename_i nm c'
    obtain ⟨⟨m, l, obs, hi, hsub⟩, round⟩ := h
    refine wp_loopN (fun m a' w' => ∃ ρ' l obs, Iv nm m l obs ∧ RelS N B ρ' (St l obs) a' w' ∧ ExtR B ρ n0 w ρ' obs.length w' ∧ a'.defers = a.defers) ?_ (m := m)
      ⟨ρ, l, obs, hi, sub_rel hs hsub, ⟨fun _ _ => rfl, hsub.1, Below.refl _ _⟩, rfl⟩
    rintro m a' w' ⟨ρ', l, obs, hi, hs', hx, hd⟩
    refine wp_mono (awp_ok hT hD c c' hc (round m l obs hi) hs' hx.2.1) ?_
    rintro e a2 w2 ⟨ρ2, s2, ax, hax, hq, hs2, hx2, hd2⟩
    rw [hd] at hd2
    have hx3 := hx.trans0 hx2
    cases e with
    | normal =>
      cases ax with
      | nrm =>
        obtain ⟨m', l', obs', hlt, hi', hsub'⟩ := hq
        exact ⟨m', hlt, ρ2, l', obs', hi', sub_rel hs2 hsub', ⟨hx3.1, hsub'.1, hx3.2.2⟩, hd2⟩
      | _ => exact hax.elim
    | exit i =>
      cases ax with
      | ext j => exact ⟨ρ2, s2, .ext j, hax, hq, hs2, hx3, hd2⟩
      | _ => exact hax.elim
    | goto l => cases ax <;> exact hax.elim
    | ret =>
      cases ax with
      | ret => exact ⟨ρ2, s2, .ret, hax, hq, hs2, hx3, hd2⟩
      | _ => exact hax.elim
    | panic ch =>
      cases ax with
      | pan v => exact ⟨ρ2, s2, .pan v, hax, hq, hs2, hx3, hd2⟩
      | _ => exact hax.elim
    | outgrown => cases ax <;> exact hax.elim
  | .exit id, ac, hc, Q, s, ρ, a, w, h, hs, hn => by
    cases ac <;> simp only [chkC] at hc <;> first | (cases hc; done) | skip
    rename_i id'
    simp only [decide_eq_true_eq] at hc
    subst hc
    exact wp_exit ⟨ρ, s, .ext id, rfl, h, hs, (ExtR.refl _ _ _ _).less hn, rfl⟩
  | .ret, ac, hc, Q, s, ρ, a, w, h, hs, hn => by
    cases ac <;> simp only [chkC] at hc <;> first | (cases hc; done) | skip
    exact wp_ret ⟨ρ, s, .ret, trivial, h, hs, (ExtR.refl _ _ _ _).less hn, rfl⟩
  | .rangeFunc _ _ _ _, ac, hc, _, _, _, _, _, _, _, _ => by cases ac <;> simp [chkC] at hc
  | .scope _, ac, hc, _, _, _, _, _, _, _, _ => by cases ac <;> simp [chkC] at hc
  | .label _, ac, hc, _, _, _, _, _, _, _, _ => by cases ac <;> simp [chkC] at hc
  | .goto _, ac, hc, _, _, _, _, _, _, _, _ => by cases ac <;> simp [chkC] at hc
  | .refuse _, ac, hc, _, _, _, _, _, _, _, _ => by cases ac <;> simp [chkC] at hc
end Go.Proofs.YtbolfnkgbjkbjaaGreat.AM
