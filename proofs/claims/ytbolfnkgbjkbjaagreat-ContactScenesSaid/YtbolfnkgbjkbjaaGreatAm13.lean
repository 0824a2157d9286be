/- The abstract machine, part 13: loops whose heads are told by a value of a type, all of a run as one proposition. -/
import Derived.Test.YtbolfnkgbjkbjaaGreatAm12
set_option linter.unusedVariables false
set_option linter.unusedSimpArgs false
namespace Go.Proofs.YtbolfnkgbjkbjaaGreat.AM
open Go Go.RowKit

/-- What holds at the heads of a function's loops: of the value at the head of the loop around it (z: of none) and of a value, what holds; the measure, the slots, the blocks. -/
structure Ann where
  α : Type
  z : α
  P : Nat → α → α → Prop
  M : Nat → α → Nat
  L : Nat → α → List (Nat × V)
  O : Nat → α → List Ob
def noAnn : Ann := ⟨Unit, (), fun _ _ _ => False, fun _ _ => 0, fun _ _ => [], fun _ _ => []⟩
def awq (T : Tab) (D : DTab) (A : Ann) (n0 : Nat) (cx : A.α) : AC → (AX → S → Prop) → S → Prop
  | .skip, Q, s => Q .nrm s
  | .reg l, Q, s => runOps T l (Q .nrm) (fun v => Q (.pan v)) s
  | .drw l, Q, s => forceN s.nx fun n0 => forceN (n0 + 8 * l.length) fun top => drun D n0 top 0 l [] (Q .nrm) (fun v => Q (.pan v)) ⟨s.sl, clr n0 s.hp, top⟩
  | .seq a b, Q, s => awq T D A n0 cx a (fun e s' => match e with
      | .nrm => awq T D A n0 cx b Q s'
      | .ext id => Q (.ext id) s'
      | .ret => Q .ret s'
      | .pan v => Q (.pan v) s') s
  | .seqc nm a b, Q, s => awq T D A n0 cx a (fun e s' => match e with
      | .nrm => ∃ x, A.P nm cx x ∧ SubQ n0 s' (A.L nm x) (A.O nm x)
      | .ext id => Q (.ext id) s'
      | .ret => Q .ret s'
      | .pan v => Q (.pan v) s') s ∧ ∀ x, A.P nm cx x → awq T D A n0 cx b Q (St (A.L nm x) (A.O nm x))
  | .cond x a b, Q, s => match rd s x with
    | .bool t => bcase t (awq T D A n0 cx a Q s) (awq T D A n0 cx b Q s)
    | _ => False
  | .blk id c, Q, s => awq T D A n0 cx c (fun e s' => match e with
      | .nrm => Q .nrm s'
      | .ext id' => bif Nat.beq id' id then Q .nrm s' else Q (.ext id') s'
      | .ret => Q .ret s'
      | .pan v => Q (.pan v) s') s
  | .loop _ _, _, _ => False
  | .lpq nm c, Q, s => (∃ x, A.P nm cx x ∧ SubQ n0 s (A.L nm x) (A.O nm x)) ∧
      ∀ x, A.P nm cx x → awq T D A n0 x c (fun e s' => match e with
        | .nrm => ∃ y, A.M nm y < A.M nm x ∧ A.P nm cx y ∧ SubQ n0 s' (A.L nm y) (A.O nm y)
        | .ext id => Q (.ext id) s'
        | .ret => Q .ret s'
        | .pan v => Q (.pan v) s') (St (A.L nm x) (A.O nm x))
  | .unr k c, Q, s => unrR (fun K s => awq T D A n0 cx c (fun e s' => match e with
        | .nrm => K s'
        | .ext id => Q (.ext id) s'
        | .ret => Q .ret s'
        | .pan v => Q (.pan v) s') s) k s
  | .exit id, Q, s => Q (.ext id) s
  | .ret, Q, s => Q .ret s
def runQ (T : Tab) (D : DTab) (A : Ann) (fn : AFn) (args : List V) (h : Nat → Ob) (n : Nat) (K : Out → (Nat → Ob) → Nat → Prop) : Prop :=
  match decide (args.length = fn.np) with
  | true => awq T D A n A.z fn.body (fin fn.res K) ⟨argSl args 0, h, n⟩
  | false => False
theorem awq_ok {P : Program} {T : Tab} {DT : DTab} {N B n0 : Nat} {A : Ann} (hT : TabOk P T) (hD : TabOk P (tabD DT)) : ∀ (c : Code) (ac : AC), chkC P N c ac = true → ∀ {cx : A.α} {Q : AX → S → Prop} {s : S} {ρ : Nat → Bnd} {a : Act} {w : World}, awq T DT A n0 cx ac Q s → RelS N B ρ s a w → n0 ≤ s.nx →
    c.wp P (PostX N B ρ n0 w a.defers Q) a w
  | .skip, ac, hc, cx, Q, s, ρ, a, w, h, hs, hn => by
    cases ac <;> simp only [chkC] at hc <;> first | (cases hc; done) | skip
    exact wp_skip ⟨ρ, s, .nrm, trivial, h, hs, (ExtR.refl _ _ _ _).less hn, rfl⟩
  | .region id ops d, ac, hc, cx, Q, s, ρ, a, w, h, hs, hn => by
    cases d <;> cases ac <;> simp only [chkC] at hc <;> first | (cases hc; done) | skip
    case true.drw l =>
      simp only [awq, forceN_iff] at h
      exact drw_ok hc hD hs h (fun ρ' s' a' w' hk hs' hx hd => ⟨ρ', s', .nrm, trivial, hk, hs', hx.less hn, hd⟩) (fun ρ' s' a' w' v x hk hs' hx hd hr => ⟨ρ', s', .pan v, ⟨x, rfl, hr⟩, hk, hs', hx.less hn, hd⟩)
    rename_i l
    refine wp_region ?_
    have := ops_ok (P := P) (ops := ops) (N := N) (B := B) hT (Q := PostX N B ρ n0 w a.defers Q) (K := Q .nrm) (PQ := fun v => Q (.pan v)) ops.toList l 0 rfl hc hs h
      (fun ρ' s' a' w' hk hs' hx hd => ⟨ρ', s', .nrm, trivial, hk, hs', hx.less hn, hd⟩) (fun ρ' s' a' w' v x hk hs' hx hd hr => ⟨ρ', s', .pan v, ⟨x, rfl, hr⟩, hk, hs', hx.less hn, hd⟩)
    rw [List.range_eq_range']
    simpa using this
  | .seq x y, ac, hc, cx, Q, s, ρ, a, w, h, hs, hn => by
    cases ac <;> simp only [chkC] at hc <;> first | (cases hc; done) | skip
    case seqc nm x' y' =>
      simp only [Bool.and_eq_true] at hc
      obtain ⟨h1, h2⟩ := h
      refine wp_seq (wp_mono (awq_ok hT hD x x' hc.1 h1 hs hn) (postx_then (fun ρ' s' a' w' hq hs' hx hd => ?_) (fun e s' hne hq => ?_)))
      · obtain ⟨x, hi, hsub⟩ := hq
        obtain ⟨ρ1, hs1, ha1⟩ := subq_rel hs' hsub
        have := awq_ok hT hD y y' hc.2 (h2 x hi) hs1 (subq_n0 hsub)
        refine wp_mono this fun e a2 w2 hp => ?_
        rw [hd] at hp
        exact PostX.ext (n1 := (A.O nm x).length) ⟨fun i hi => (ha1 i hi).trans (hx.1 i hi), subq_n0 hsub, hx.2.2⟩ hp
      · cases e <;> first | exact absurd rfl hne | exact hq
    rename_i x' y'
    simp only [Bool.and_eq_true] at hc
    refine wp_seq (wp_mono (awq_ok hT hD x x' hc.1 h hs hn) (postx_then (fun ρ' s' a' w' hq hs' hx hd => ?_) (fun e s' hne hq => ?_)))
    · have := awq_ok hT hD y y' hc.2 hq hs' hx.2.1
      refine wp_mono this fun e a2 w2 hp => ?_
      rw [hd] at hp
      exact PostX.ext hx hp
    · cases e <;> first | exact absurd rfl hne | exact hq
  | .cond c x y, ac, hc, cx, Q, s, ρ, a, w, h, hs, hn => by
    cases ac <;> simp only [chkC] at hc <;> first | (cases hc; done) | skip
    rename_i c' x' y'
    simp only [Bool.and_eq_true] at hc
    simp only [awq] at h
    split at h
    · rename_i t ht
      have hR := opd_R hs hc.1.1
      rw [ht] at hR
      simp only [R] at hR
      cases t with
      | true => exact wp_cond_true hR (awq_ok hT hD x x' hc.1.2 h hs hn)
      | false => exact wp_cond_false hR (awq_ok hT hD y y' hc.2 h hs hn)
    · exact h.elim
  | .block id c, ac, hc, cx, Q, s, ρ, a, w, h, hs, hn => by
    cases ac <;> simp only [chkC] at hc <;> first | (cases hc; done) | skip
    rename_i id' c'
    simp only [Bool.and_eq_true, decide_eq_true_eq] at hc
    obtain ⟨rfl, hc⟩ := hc
    refine wp_block (wp_mono (awq_ok hT hD c c' hc h hs hn) ?_)
    rintro e a' w' ⟨ρ', s', ax, hx, hq, hs', he, hd⟩
    cases e with
    | normal => cases ax <;> first | exact hx.elim | exact ⟨ρ', s', .nrm, trivial, hq, hs', he, hd⟩
    | exit i =>
      cases ax with
      | ext j =>
        have : j = i := hx
        subst this
        simp only [Exit.inBlock]
        simp only [] at hq
        by_cases e : j = id
        · rw [if_pos e]
          have hb : Nat.beq j id = true := by subst e; simp
          rw [hb] at hq
          exact ⟨ρ', s', .nrm, trivial, hq, hs', he, hd⟩
        · rw [if_neg e]
          have hb : Nat.beq j id = false := by rw [Bool.eq_false_iff]; intro h; exact e (Nat.eq_of_beq_eq_true h)
          rw [hb] at hq
          exact ⟨ρ', s', .ext j, rfl, hq, hs', he, hd⟩
      | _ => exact hx.elim
    | goto l => cases ax <;> exact hx.elim
    | ret => cases ax <;> first | exact hx.elim | exact ⟨ρ', s', .ret, trivial, hq, hs', he, hd⟩
    | panic ch =>
      cases ax with
      | pan v => exact ⟨ρ', s', .pan v, hx, hq, hs', he, hd⟩
      | _ => exact hx.elim
    | outgrown => cases ax <;> exact hx.elim
  | .loop c, ac, hc, cx, Q, s, ρ, a, w, h, hs, hn => by
    cases ac <;> simp only [chkC] at hc <;> first | (cases hc; done) | skip
    case unr k c' =>
      refine wp_loopN (fun m a' w' => ∃ ρ' s', unrR (fun K s => awq T DT A n0 cx c' (fun e s' => match e with
        | .nrm => K s'
        | .ext id => Q (.ext id) s'
        | .ret => Q .ret s'
        | .pan v => Q (.pan v) s') s) m s' ∧ RelS N B ρ' s' a' w' ∧ ExtR B ρ n0 w ρ' s'.nx w' ∧ a'.defers = a.defers) ?_ (m := k) ⟨ρ, s, h, hs, (ExtR.refl _ _ _ _).less hn, rfl⟩
      rintro m a' w' ⟨ρ', s', hi, hs', hx, hd⟩
      cases m with
      | zero => exact hi.elim
      | succ m =>
        refine wp_mono (awq_ok hT hD c c' hc hi hs' hx.2.1) ?_
        rintro e a2 w2 ⟨ρ2, s2, ax, hax, hq, hs2, hx2, hd2⟩
        rw [hd] at hd2
        have hx3 := hx.trans0 hx2
        cases e with
        | normal =>
          cases ax with
          | nrm => exact ⟨m, Nat.lt_succ_self m, ρ2, s2, hq, hs2, hx3, hd2⟩
          | _ => exact hax.elim
        | exit i =>
          cases ax with
          | ext j => exact ⟨ρ2, s2, .ext j, hax, hq, hs2, hx3, hd2⟩
          | _ => exact hax.elim
        | goto l => cases ax <;> exact hax.elim
        | ret =>
          cases ax with
          | ret => exact ⟨ρ2, s2, .ret, hax, hq, hs2, hx3, hd2⟩
          | _ => exact hax.elim
        | panic ch =>
          cases ax with
          | pan v => exact ⟨ρ2, s2, .pan v, hax, hq, hs2, hx3, hd2⟩
          | _ => exact hax.elim
        | outgrown => cases ax <;> exact hax.elim
    case lpq nm c' =>
      obtain ⟨⟨x, hi, hsub⟩, round⟩ := h
      refine wp_loopN (fun m a' w' => ∃ ρ' x, m = A.M nm x ∧ A.P nm cx x ∧ RelS N B ρ' (St (A.L nm x) (A.O nm x)) a' w' ∧ ExtR B ρ n0 w ρ' (A.O nm x).length w' ∧ a'.defers = a.defers) ?_ (m := A.M nm x)
        (by obtain ⟨ρ1, h1, h2⟩ := subq_rel hs hsub; exact ⟨ρ1, x, rfl, hi, h1, ⟨h2, subq_n0 hsub, Below.refl _ _⟩, rfl⟩)
      rintro m a' w' ⟨ρ', x, rfl, hi, hs', hx, hd⟩
      refine wp_mono (awq_ok hT hD c c' hc (round x hi) hs' hx.2.1) ?_
      rintro e a2 w2 ⟨ρ2, s2, ax, hax, hq, hs2, hx2, hd2⟩
      rw [hd] at hd2
      have hx3 := hx.trans0 hx2
      cases e with
      | normal =>
        cases ax with
        | nrm =>
          obtain ⟨y, hlt, hi', hsub'⟩ := hq
          obtain ⟨ρ1, h1, h2⟩ := subq_rel hs2 hsub'
          exact ⟨A.M nm y, hlt, ρ1, y, rfl, hi', h1, ⟨fun i hi => (h2 i hi).trans (hx3.1 i hi), subq_n0 hsub', hx3.2.2⟩, hd2⟩
        | _ => exact hax.elim
      | exit i =>
        cases ax with
        | ext j => exact ⟨ρ2, s2, .ext j, hax, hq, hs2, hx3, hd2⟩
        | _ => exact hax.elim
      | goto l => cases ax <;> exact hax.elim
      | ret =>
        cases ax with
        | ret => exact ⟨ρ2, s2, .ret, hax, hq, hs2, hx3, hd2⟩
        | _ => exact hax.elim
      | panic ch =>
        cases ax with
        | pan v => exact ⟨ρ2, s2, .pan v, hax, hq, hs2, hx3, hd2⟩
        | _ => exact hax.elim
      | outgrown => cases ax <;> exact hax.elim
    exact h.elim
  | .exit id, ac, hc, cx, Q, s, ρ, a, w, h, hs, hn => by
    cases ac <;> simp only [chkC] at hc <;> first | (cases hc; done) | skip
    rename_i id'
    simp only [decide_eq_true_eq] at hc
    subst hc
    exact wp_exit ⟨ρ, s, .ext id, rfl, h, hs, (ExtR.refl _ _ _ _).less hn, rfl⟩
  | .ret, ac, hc, cx, Q, s, ρ, a, w, h, hs, hn => by
    cases ac <;> simp only [chkC] at hc <;> first | (cases hc; done) | skip
    exact wp_ret ⟨ρ, s, .ret, trivial, h, hs, (ExtR.refl _ _ _ _).less hn, rfl⟩
  | .rangeFunc _ _ _ _, ac, hc, _, _, _, _, _, _, _, _, _ => by cases ac <;> simp [chkC] at hc
  | .scope _, ac, hc, _, _, _, _, _, _, _, _, _ => by cases ac <;> simp [chkC] at hc
  | .label _, ac, hc, _, _, _, _, _, _, _, _, _ => by cases ac <;> simp [chkC] at hc
  | .goto _, ac, hc, _, _, _, _, _, _, _, _, _ => by cases ac <;> simp [chkC] at hc
  | .refuse _, ac, hc, _, _, _, _, _, _, _, _, _ => by cases ac <;> simp [chkC] at hc
theorem fnq_entry {P : Program} {T : Tab} {DT : DTab} (hT : TabOk P T) (hD : TabOk P (tabD DT)) (A : Ann) {f : Nat} {fn : Func} {afn : AFn} (hf : P.funcs[f]? = some fn) (hc : chkFn P fn afn = true) : EntryOk P f (runQ T DT A afn) := by
  intro B ρ n h w args xs K hr hargs hrun
  unfold chkFn at hc
  split at hc
  · rename_i c hb
    simp only [Bool.and_eq_true, decide_eq_true_eq, Bool.not_eq_true'] at hc
    obtain ⟨⟨⟨hcc, hres⟩, hnp⟩, hname⟩ := hc
    unfold runQ at hrun
    split at hrun
    · rename_i hlen
      simp only [decide_eq_true_eq] at hlen
      have hxl := hargs.length
      have hname' : ¬ fn.name = "runtime.NumGoroutine" := by simpa using hname
      refine .inl ⟨by simp [callFunc, hf, hname', hb], ?_⟩
      refine calls_of_wp hf hb ?_
      have hs : RelS fn.ntmps B ρ ⟨argSl args 0, h, n⟩ { tmps := xs.toArray ++ Array.replicate (fn.ntmps - xs.toArray.size) undef, defers := [] } w := by
        refine ⟨hr, fun t => ?_, by simp; omega⟩
        have := argSl_get args xs 0 t hargs (Nat.zero_le _)
        have e : (xs.toArray ++ Array.replicate (fn.ntmps - xs.toArray.size) undef).getD t undef = xs.getD (t - 0) undef := by
          simp only [Nat.sub_zero, Array.getD_eq_getD_getElem?, List.getD_eq_getElem?_getD]
          by_cases ht : t < xs.length
          · rw [Array.getElem?_append_left (by simpa using ht)]
            simp
          · rw [Array.getElem?_append_right (by simp; omega), List.getElem?_eq_none (by omega)]
            simp only [List.size_toArray, Array.getElem?_replicate, Option.getD_none]
            split <;> rfl
        simp only [] at e ⊢
        rw [e]
        exact this
      refine wp_mono (awq_ok hT hD c afn.body hcc hrun hs (Nat.le_refl _)) ?_
      rintro e a' w' ⟨ρ', s', ax, hax, hq, hs', hx, hd⟩
      have hd' : a'.defers = [] := hd
      have ret : fin afn.res K .ret s' → bodyPost P fn (fun e w' => ∃ out ρ' n' h', K out h' n' ∧ OutR ρ' n' out e ∧ Rel B ρ' n' h' w' ∧ ExtR B ρ n w ρ' n' w') .ret a' w' := by
        intro hq
        simp only [fin] at hq
        split at hq
        · rename_i vs hvs
          obtain ⟨y, h1, h2⟩ := results_run hs' hres hvs
          exact ⟨hd', y, h1, _, ρ', s'.nx, s'.hp, hq, h2, hs'.rel, hx⟩
        · exact hq.elim
      cases e with
      | normal =>
        cases ax with
        | nrm => exact ret hq
        | _ => exact hax.elim
      | exit i =>
        cases ax with
        | ext j => exact hq.elim
        | _ => exact hax.elim
      | goto l => cases ax <;> exact hax.elim
      | ret =>
        cases ax with
        | ret => exact ret hq
        | _ => exact hax.elim
      | panic ch =>
        cases ax with
        | pan v => exact ⟨hd', _, ρ', s'.nx, s'.hp, hq, hax, hs'.rel, hx⟩
        | _ => exact hax.elim
      | outgrown => cases ax <;> exact hax.elim
    · exact hrun.elim
  · cases hc
/-! ### Tables -/
theorem fresh_of_runQ {P : Program} {T : Tab} {DT : DTab} (hT : TabOk P T) (hD : TabOk P (tabD DT)) {f : Nat} {fn : Func} {afn : AFn} {F : FSpec} (An : List V → List Ob → Ann) (hf : P.funcs[f]? = some fn) (hc : chkFn P fn afn = true)
    (hF : ∀ args obs K', F args obs K' → runQ T DT (An args obs) afn args (lookO obs) obs.length (closeK K')) : FreshOk P f F := by
  intro args obs K' hFa w ρ xs hro hargs
  refine (fnq_entry hT hD (An args obs) hf hc w.heap.size ρ obs.length (lookO obs) w args xs (closeK K') hro.rel hargs (hF args obs K' hFa)).mono ?_
  rintro e w' ⟨out, ρ', n', h', hk, ho, hr, hx⟩
  cases out with
  | ret v =>
    cases e with
    | returned x =>
      simp only [closeK] at hk
      split at hk
      · rename_i v' acc hv
        obtain ⟨h1, _, _, h4⟩ := expV_ok (ρ := ρ') (n := n') (h := h') v x [] v' acc hv ho ⟨fun p hp => by simp at hp, by simp⟩
        refine ⟨.ret v', acc.map (·.2), reix ρ' acc, hk, ?_, ?_, ?_, (fun v e => by cases e), hx.2.2⟩
        · simpa [OutR] using h4
        · simpa using exp_rel hr h1
        · intro i hi
          have hi' : i < acc.length := by simpa using hi
          obtain ⟨_, _, t, E, l, h3⟩ := h1.mem acc[i] (List.getElem_mem hi')
          exact ⟨t, E, l, by simp [lookO_get, hi', h3]⟩
      · exact hk.elim
    | panicked _ => exact ho.elim
    | outgrown => exact ho.elim
  | pan v =>
    cases e with
    | returned x => exact ho.elim
    | panicked chain =>
      obtain ⟨hl, hk⟩ := hk
      obtain ⟨x, rfl, hx'⟩ := ho
      refine ⟨.pan v, [], ρ', hk, ⟨x, rfl, R.less v x hx' hl⟩, ⟨?_, fun i hi => by simp at hi, fun i j hi => by simp at hi⟩, fun i hi => by simp at hi, (fun u e => by cases e; exact hl), hx.2.2⟩
      have := hr.base
      omega
    | outgrown => exact ho.elim
end Go.Proofs.YtbolfnkgbjkbjaaGreat.AM
