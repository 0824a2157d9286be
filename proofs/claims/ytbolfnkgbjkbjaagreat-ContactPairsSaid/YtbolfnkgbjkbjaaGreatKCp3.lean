/- ContactPairs: what its proof stands on, part 3. -/
import Derived.Test.YtbolfnkgbjkbjaaGreatProg
import Derived.IntWalk
import Derived.Lib.Mul64
import Derived.Laws.Externs
import Derived.Shelf.Spec.BitsCarry
import Derived.Test.YtbolfnkgbjkbjaaGreatKCp2
section
set_option linter.unusedVariables false
set_option linter.unusedSimpArgs false
namespace Go.Proofs.YtbolfnkgbjkbjaaGreat.AM
open Go Go.RowKit

/-- What holds at the heads of a function's loops: of the value at the head of the loop around it (z: of none) and of a value, what holds; the measure, the slots, the blocks. -/
structure Ann where
  α : Type
  z : α
  P : Nat → α → α → Prop
  M : Nat → α → Nat
  L : Nat → α → List (Nat × V)
  O : Nat → α → List Ob
def noAnn : Ann := ⟨Unit, (), fun _ _ _ => False, fun _ _ => 0, fun _ _ => [], fun _ _ => []⟩
def awq (T : Tab) (D : DTab) (A : Ann) (n0 : Nat) (cx : A.α) : AC → (AX → S → Prop) → S → Prop
  | .skip, Q, s => Q .nrm s
  | .reg l, Q, s => runOps T l (Q .nrm) (fun v => Q (.pan v)) s
  | .drw l, Q, s => forceN s.nx fun n0 => forceN (n0 + 8 * l.length) fun top => drun D n0 top 0 l [] (Q .nrm) (fun v => Q (.pan v)) ⟨s.sl, clr n0 s.hp, top⟩
  | .seq a b, Q, s => awq T D A n0 cx a (fun e s' => match e with
      | .nrm => awq T D A n0 cx b Q s'
      | .ext id => Q (.ext id) s'
      | .ret => Q .ret s'
      | .pan v => Q (.pan v) s') s
  | .seqc nm a b, Q, s => awq T D A n0 cx a (fun e s' => match e with
      | .nrm => ∃ x, A.P nm cx x ∧ SubQ n0 s' (A.L nm x) (A.O nm x)
      | .ext id => Q (.ext id) s'
      | .ret => Q .ret s'
      | .pan v => Q (.pan v) s') s ∧ ∀ x, A.P nm cx x → awq T D A n0 cx b Q (St (A.L nm x) (A.O nm x))
  | .cond x a b, Q, s => match rd s x with
    | .bool t => bcase t (awq T D A n0 cx a Q s) (awq T D A n0 cx b Q s)
    | _ => False
  | .blk id c, Q, s => awq T D A n0 cx c (fun e s' => match e with
      | .nrm => Q .nrm s'
      | .ext id' => bif Nat.beq id' id then Q .nrm s' else Q (.ext id') s'
      | .ret => Q .ret s'
      | .pan v => Q (.pan v) s') s
  | .loop _ _, _, _ => False
  | .lpq nm c, Q, s => (∃ x, A.P nm cx x ∧ SubQ n0 s (A.L nm x) (A.O nm x)) ∧
      ∀ x, A.P nm cx x → awq T D A n0 x c (fun e s' => match e with
        | .nrm => ∃ y, A.M nm y < A.M nm x ∧ A.P nm cx y ∧ SubQ n0 s' (A.L nm y) (A.O nm y)
        | .ext id => Q (.ext id) s'
        | .ret => Q .ret s'
        | .pan v => Q (.pan v) s') (St (A.L nm x) (A.O nm x))
  | .unr k c, Q, s => unrR (fun K s => awq T D A n0 cx c (fun e s' => match e with
        | .nrm => K s'
        | .ext id => Q (.ext id) s'
        | .ret => Q .ret s'
        | .pan v => Q (.pan v) s') s) k s
  | .exit id, Q, s => Q (.ext id) s
  | .ret, Q, s => Q .ret s
def runQ (T : Tab) (D : DTab) (A : Ann) (fn : AFn) (args : List V) (h : Nat → Ob) (n : Nat) (K : Out → (Nat → Ob) → Nat → Prop) : Prop :=
  match decide (args.length = fn.np) with
  | true => awq T D A n A.z fn.body (fin fn.res K) ⟨argSl args 0, h, n⟩
  | false => False
theorem awq_ok {P : Program} {T : Tab} {DT : DTab} {N B n0 : Nat} {A : Ann} (hT : TabOk P T) (hD : TabOk P (tabD DT)) : ∀ (c : Code) (ac : AC), chkC P N c ac = true → ∀ {cx : A.α} {Q : AX → S → Prop} {s : S} {ρ : Nat → Bnd} {a : Act} {w : World}, awq T DT A n0 cx ac Q s → RelS N B ρ s a w → n0 ≤ s.nx →
    c.wp P (PostX N B ρ n0 w a.defers Q) a w
  | .skip, ac, hc, cx, Q, s, ρ, a, w, h, hs, hn => by
    cases ac <;> simp only [chkC] at hc <;> first | (cases hc; done) | skip
    exact wp_skip ⟨ρ, s, .nrm, trivial, h, hs, (ExtR.refl _ _ _ _).less hn, rfl⟩
  | .region id ops d, ac, hc, cx, Q, s, ρ, a, w, h, hs, hn => by
    cases d <;> cases ac <;> simp only [chkC] at hc <;> first | (cases hc; done) | skip
    case true.drw l =>
      simp only [awq, forceN_iff] at h
      exact drw_ok hc hD hs h (fun ρ' s' a' w' hk hs' hx hd => ⟨ρ', s', .nrm, trivial, hk, hs', hx.less hn, hd⟩) (fun ρ' s' a' w' v x hk hs' hx hd hr => ⟨ρ', s', .pan v, ⟨x, rfl, hr⟩, hk, hs', hx.less hn, hd⟩)
    rename_i l
    refine wp_region ?_
    have := ops_ok (P := P) (ops := ops) (N := N) (B := B) hT (Q := PostX N B ρ n0 w a.defers Q) (K := Q .nrm) (PQ := fun v => Q (.pan v)) ops.toList l 0 rfl hc hs h
      (fun ρ' s' a' w' hk hs' hx hd => ⟨ρ', s', .nrm, trivial, hk, hs', hx.less hn, hd⟩) (fun ρ' s' a' w' v x hk hs' hx hd hr => ⟨ρ', s', .pan v, ⟨x, rfl, hr⟩, hk, hs', hx.less hn, hd⟩)
    rw [List.range_eq_range']
    simpa using this
  | .seq x y, ac, hc, cx, Q, s, ρ, a, w, h, hs, hn => by
    cases ac <;> simp only [chkC] at hc <;> first | (cases hc; done) | skip
    case seqc nm x' y' =>
      simp only [Bool.and_eq_true] at hc
      obtain ⟨h1, h2⟩ := h
      refine wp_seq (wp_mono (awq_ok hT hD x x' hc.1 h1 hs hn) (postx_then (fun ρ' s' a' w' hq hs' hx hd => ?_) (fun e s' hne hq => ?_)))
      · obtain ⟨x, hi, hsub⟩ := hq
        obtain ⟨ρ1, hs1, ha1⟩ := subq_rel hs' hsub
        have := awq_ok hT hD y y' hc.2 (h2 x hi) hs1 (subq_n0 hsub)
        refine wp_mono this fun e a2 w2 hp => ?_
        rw [hd] at hp
        exact PostX.ext (n1 := (A.O nm x).length) ⟨fun i hi => (ha1 i hi).trans (hx.1 i hi), subq_n0 hsub, hx.2.2⟩ hp
      · cases e <;> first | exact absurd rfl hne | exact hq
    rename_i x' y'
    simp only [Bool.and_eq_true] at hc
    refine wp_seq (wp_mono (awq_ok hT hD x x' hc.1 h hs hn) (postx_then (fun ρ' s' a' w' hq hs' hx hd => ?_) (fun e s' hne hq => ?_)))
    · have := awq_ok hT hD y y' hc.2 hq hs' hx.2.1
      refine wp_mono this fun e a2 w2 hp => ?_
      rw [hd] at hp
      exact PostX.ext hx hp
    · cases e <;> first | exact absurd rfl hne | exact hq
  | .cond c x y, ac, hc, cx, Q, s, ρ, a, w, h, hs, hn => by
    cases ac <;> simp only [chkC] at hc <;> first | (cases hc; done) | skip
    rename_i c' x' y'
    simp only [Bool.and_eq_true] at hc
    simp only [awq] at h
    split at h
    · rename_i t ht
      have hR := opd_R hs hc.1.1
      rw [ht] at hR
      simp only [R] at hR
      cases t with
      | true => exact wp_cond_true hR (awq_ok hT hD x x' hc.1.2 h hs hn)
      | false => exact wp_cond_false hR (awq_ok hT hD y y' hc.2 h hs hn)
    · exact h.elim
  | .block id c, ac, hc, cx, Q, s, ρ, a, w, h, hs, hn => by
    cases ac <;> simp only [chkC] at hc <;> first | (cases hc; done) | skip
    rename_i id' c'
    simp only [Bool.and_eq_true, decide_eq_true_eq] at hc
    obtain ⟨rfl, hc⟩ := hc
    refine wp_block (wp_mono (awq_ok hT hD c c' hc h hs hn) ?_)
    rintro e a' w' ⟨ρ', s', ax, hx, hq, hs', he, hd⟩
    cases e with
    | normal => cases ax <;> first | exact hx.elim | exact ⟨ρ', s', .nrm, trivial, hq, hs', he, hd⟩
    | exit i =>
      cases ax with
      | ext j =>
        have : j = i := hx
        subst this
        simp only [Exit.inBlock]
        simp only [] at hq
        by_cases e : j = id
        · rw [if_pos e]
          have hb : Nat.beq j id = true := by subst e; simp
          rw [hb] at hq
          exact ⟨ρ', s', .nrm, trivial, hq, hs', he, hd⟩
        · rw [if_neg e]
          have hb : Nat.beq j id = false := by rw [Bool.eq_false_iff]; intro h; exact e (Nat.eq_of_beq_eq_true h)
          rw [hb] at hq
          exact ⟨ρ', s', .ext j, rfl, hq, hs', he, hd⟩
      | _ => exact hx.elim
    | goto l => cases ax <;> exact hx.elim
    | ret => cases ax <;> first | exact hx.elim | exact ⟨ρ', s', .ret, trivial, hq, hs', he, hd⟩
    | panic ch =>
      cases ax with
      | pan v => exact ⟨ρ', s', .pan v, hx, hq, hs', he, hd⟩
      | _ => exact hx.elim
    | outgrown => cases ax <;> exact hx.elim
  | .loop c, ac, hc, cx, Q, s, ρ, a, w, h, hs, hn => by
    cases ac <;> simp only [chkC] at hc <;> first | (cases hc; done) | skip
    case unr k c' =>
      refine wp_loopN (fun m a' w' => ∃ ρ' s', unrR (fun K s => awq T DT A n0 cx c' (fun e s' => match e with
        | .nrm => K s'
        | .ext id => Q (.ext id) s'
        | .ret => Q .ret s'
        | .pan v => Q (.pan v) s') s) m s' ∧ RelS N B ρ' s' a' w' ∧ ExtR B ρ n0 w ρ' s'.nx w' ∧ a'.defers = a.defers) ?_ (m := k) ⟨ρ, s, h, hs, (ExtR.refl _ _ _ _).less hn, rfl⟩
      rintro m a' w' ⟨ρ', s', hi, hs', hx, hd⟩
      cases m with
      | zero => exact hi.elim
      | succ m =>
        refine wp_mono (awq_ok hT hD c c' hc hi hs' hx.2.1) ?_
        rintro e a2 w2 ⟨ρ2, s2, ax, hax, hq, hs2, hx2, hd2⟩
        rw [hd] at hd2
        have hx3 := hx.trans0 hx2
        cases e with
        | normal =>
          cases ax with
          | nrm => exact ⟨m, Nat.lt_succ_self m, ρ2, s2, hq, hs2, hx3, hd2⟩
          | _ => exact hax.elim
        | exit i =>
          cases ax with
          | ext j => exact ⟨ρ2, s2, .ext j, hax, hq, hs2, hx3, hd2⟩
          | _ => exact hax.elim
        | goto l => cases ax <;> exact hax.elim
        | ret =>
          cases ax with
          | ret => exact ⟨ρ2, s2, .ret, hax, hq, hs2, hx3, hd2⟩
          | _ => exact hax.elim
        | panic ch =>
          cases ax with
          | pan v => exact ⟨ρ2, s2, .pan v, hax, hq, hs2, hx3, hd2⟩
          | _ => exact hax.elim
        | outgrown => cases ax <;> exact hax.elim
    case lpq nm c' =>
      obtain ⟨⟨x, hi, hsub⟩, round⟩ := h
      refine wp_loopN (fun m a' w' => ∃ ρ' x, m = A.M nm x ∧ A.P nm cx x ∧ RelS N B ρ' (St (A.L nm x) (A.O nm x)) a' w' ∧ ExtR B ρ n0 w ρ' (A.O nm x).length w' ∧ a'.defers = a.defers) ?_ (m := A.M nm x)
        (by obtain ⟨ρ1, h1, h2⟩ := subq_rel hs hsub; exact ⟨ρ1, x, rfl, hi, h1, ⟨h2, subq_n0 hsub, Below.refl _ _⟩, rfl⟩)
      rintro m a' w' ⟨ρ', x, rfl, hi, hs', hx, hd⟩
      refine wp_mono (awq_ok hT hD c c' hc (round x hi) hs' hx.2.1) ?_
      rintro e a2 w2 ⟨ρ2, s2, ax, hax, hq, hs2, hx2, hd2⟩
      rw [hd] at hd2
      have hx3 := hx.trans0 hx2
      cases e with
      | normal =>
        cases ax with
        | nrm =>
          obtain ⟨y, hlt, hi', hsub'⟩ := hq
          obtain ⟨ρ1, h1, h2⟩ := subq_rel hs2 hsub'
          exact ⟨A.M nm y, hlt, ρ1, y, rfl, hi', h1, ⟨fun i hi => (h2 i hi).trans (hx3.1 i hi), subq_n0 hsub', hx3.2.2⟩, hd2⟩
        | _ => exact hax.elim
      | exit i =>
        cases ax with
        | ext j => exact ⟨ρ2, s2, .ext j, hax, hq, hs2, hx3, hd2⟩
        | _ => exact hax.elim
      | goto l => cases ax <;> exact hax.elim
      | ret =>
        cases ax with
        | ret => exact ⟨ρ2, s2, .ret, hax, hq, hs2, hx3, hd2⟩
        | _ => exact hax.elim
      | panic ch =>
        cases ax with
        | pan v => exact ⟨ρ2, s2, .pan v, hax, hq, hs2, hx3, hd2⟩
        | _ => exact hax.elim
      | outgrown => cases ax <;> exact hax.elim
    exact h.elim
  | .exit id, ac, hc, cx, Q, s, ρ, a, w, h, hs, hn => by
    cases ac <;> simp only [chkC] at hc <;> first | (cases hc; done) | skip
    rename_i id'
    simp only [decide_eq_true_eq] at hc
    subst hc
    exact wp_exit ⟨ρ, s, .ext id, rfl, h, hs, (ExtR.refl _ _ _ _).less hn, rfl⟩
  | .ret, ac, hc, cx, Q, s, ρ, a, w, h, hs, hn => by
    cases ac <;> simp only [chkC] at hc <;> first | (cases hc; done) | skip
    exact wp_ret ⟨ρ, s, .ret, trivial, h, hs, (ExtR.refl _ _ _ _).less hn, rfl⟩
  | .rangeFunc _ _ _ _, ac, hc, _, _, _, _, _, _, _, _, _ => by cases ac <;> simp [chkC] at hc
  | .scope c, ac, hc, cx, Q, s, ρ, a, w, h, hs, hn => by
    refine wp_scope_straight (wp_mono (awq_ok hT hD c ac (by simpa only [chkC] using hc) h hs hn) ?_)
    rintro e a' w' ⟨ρ', s', ax, hx, hq, hs', he, hd⟩
    cases e <;> first | exact ⟨ρ', s', ax, hx, hq, hs', he, hd⟩ | (cases ax <;> exact hx.elim)
  | .label _, ac, hc, cx, Q, s, ρ, a, w, h, hs, hn => by
    cases ac <;> simp only [chkC] at hc <;> first | (cases hc; done) | skip
    exact wp_label ⟨ρ, s, .nrm, trivial, h, hs, (ExtR.refl _ _ _ _).less hn, rfl⟩
  | .goto _, ac, hc, _, _, _, _, _, _, _, _, _ => by cases ac <;> simp [chkC] at hc
  | .refuse _, ac, hc, _, _, _, _, _, _, _, _, _ => by cases ac <;> simp [chkC] at hc
theorem fnq_entry {P : Program} {T : Tab} {DT : DTab} (hT : TabOk P T) (hD : TabOk P (tabD DT)) (A : Ann) {f : Nat} {fn : Func} {afn : AFn} (hf : P.funcs[f]? = some fn) (hc : chkFn P fn afn = true) : EntryOk P f (runQ T DT A afn) := by
  intro B ρ n h w args xs K hr hargs hrun
  unfold chkFn at hc
  split at hc
  · rename_i c hb
    simp only [Bool.and_eq_true, decide_eq_true_eq, Bool.not_eq_true'] at hc
    obtain ⟨⟨⟨hcc, hres⟩, hnp⟩, hname⟩ := hc
    unfold runQ at hrun
    split at hrun
    · rename_i hlen
      simp only [decide_eq_true_eq] at hlen
      have hxl := hargs.length
      have hname' : ¬ fn.name = "runtime.NumGoroutine" := by simpa using hname
      refine .inl ⟨by simp [callFunc, hf, hname', hb], ?_⟩
      refine calls_of_wp hf hb ?_
      have hs : RelS fn.ntmps B ρ ⟨argSl args 0, h, n⟩ { tmps := xs.toArray ++ Array.replicate (fn.ntmps - xs.toArray.size) undef, defers := [] } w := by
        refine ⟨hr, fun t => ?_, by simp; omega⟩
        have := argSl_get args xs 0 t hargs (Nat.zero_le _)
        have e : (xs.toArray ++ Array.replicate (fn.ntmps - xs.toArray.size) undef).getD t undef = xs.getD (t - 0) undef := by
          simp only [Nat.sub_zero, Array.getD_eq_getD_getElem?, List.getD_eq_getElem?_getD]
          by_cases ht : t < xs.length
          · rw [Array.getElem?_append_left (by simpa using ht)]
            simp
          · rw [Array.getElem?_append_right (by simp; omega), List.getElem?_eq_none (by omega)]
            simp only [List.size_toArray, Array.getElem?_replicate, Option.getD_none]
            split <;> rfl
        simp only [] at e ⊢
        rw [e]
        exact this
      refine wp_mono (awq_ok hT hD c afn.body hcc hrun hs (Nat.le_refl _)) ?_
      rintro e a' w' ⟨ρ', s', ax, hax, hq, hs', hx, hd⟩
      have hd' : a'.defers = [] := hd
      have ret : fin afn.res K .ret s' → bodyPost P fn (fun e w' => ∃ out ρ' n' h', K out h' n' ∧ OutR ρ' n' out e ∧ Rel B ρ' n' h' w' ∧ ExtR B ρ n w ρ' n' w') .ret a' w' := by
        intro hq
        simp only [fin] at hq
        split at hq
        · rename_i vs hvs
          obtain ⟨y, h1, h2⟩ := results_run hs' hres hvs
          exact ⟨hd', y, h1, _, ρ', s'.nx, s'.hp, hq, h2, hs'.rel, hx⟩
        · exact hq.elim
      cases e with
      | normal =>
        cases ax with
        | nrm => exact ret hq
        | _ => exact hax.elim
      | exit i =>
        cases ax with
        | ext j => exact hq.elim
        | _ => exact hax.elim
      | goto l => cases ax <;> exact hax.elim
      | ret =>
        cases ax with
        | ret => exact ret hq
        | _ => exact hax.elim
      | panic ch =>
        cases ax with
        | pan v => exact ⟨hd', _, ρ', s'.nx, s'.hp, hq, hax, hs'.rel, hx⟩
        | _ => exact hax.elim
      | outgrown => cases ax <;> exact hax.elim
    · exact hrun.elim
  · cases hc
/-- A function whose loops' heads are told from where it is called. -/
theorem fnqd_entry {P : Program} {T : Tab} {DT : DTab} (hT : TabOk P T) (hD : TabOk P (tabD DT)) (A : List V → (Nat → Ob) → Nat → Ann) {f : Nat} {fn : Func} {afn : AFn} (hf : P.funcs[f]? = some fn) (hc : chkFn P fn afn = true) :
    EntryOk P f (fun args h n K => runQ T DT (A args h n) afn args h n K) := fun B ρ n h w args xs K hr ha h' => fnq_entry hT hD (A args h n) hf hc B ρ n h w args xs K hr ha h'
/-- The blocks, one of them left out. -/
def obsBut (h : Nat → Ob) (id : Nat) : Nat → Nat → List Ob
  | _, 0 => []
  | i, n + 1 => (bif Nat.beq i id then .no else h i) :: obsBut h id (i + 1) n
theorem fresh_of_runQ {P : Program} {T : Tab} {DT : DTab} (hT : TabOk P T) (hD : TabOk P (tabD DT)) {f : Nat} {fn : Func} {afn : AFn} {F : FSpec} (An : List V → List Ob → Ann) (hf : P.funcs[f]? = some fn) (hc : chkFn P fn afn = true)
    (hF : ∀ args obs K', F args obs K' → runQ T DT (An args obs) afn args (lookO obs) obs.length (closeK K')) : FreshOk P f F := by
  intro args obs K' hFa w ρ xs hro hargs
  refine (fnq_entry hT hD (An args obs) hf hc w.heap.size ρ obs.length (lookO obs) w args xs (closeK K') hro.rel hargs (hF args obs K' hFa)).mono ?_
  rintro e w' ⟨out, ρ', n', h', hk, ho, hr, hx⟩
  cases out with
  | ret v =>
    cases e with
    | returned x =>
      simp only [closeK] at hk
      split at hk
      · rename_i v' acc hv
        obtain ⟨h1, _, _, h4⟩ := expV_ok (ρ := ρ') (n := n') (h := h') v x [] v' acc hv ho ⟨fun p hp => by simp at hp, by simp⟩
        refine ⟨.ret v', acc.map (·.2), reix ρ' acc, hk, ?_, ?_, ?_, (fun v e => by cases e), hx.2.2⟩
        · simpa [OutR] using h4
        · simpa using exp_rel hr h1
        · intro i hi
          have hi' : i < acc.length := by simpa using hi
          obtain ⟨_, _, t, E, l, h3⟩ := h1.mem acc[i] (List.getElem_mem hi')
          exact ⟨t, E, l, by simp [lookO_get, hi', h3]⟩
      · exact hk.elim
    | panicked _ => exact ho.elim
    | outgrown => exact ho.elim
  | pan v =>
    cases e with
    | returned x => exact ho.elim
    | panicked chain =>
      obtain ⟨hl, hk⟩ := hk
      obtain ⟨x, rfl, hx'⟩ := ho
      refine ⟨.pan v, [], ρ', hk, ⟨x, rfl, R.less v x hx' hl⟩, ⟨?_, fun i hi => by simp at hi, fun i j hi => by simp at hi⟩, fun i hi => by simp at hi, (fun u e => by cases e; exact hl), hx.2.2⟩
      have := hr.base
      omega
    | outgrown => exact ho.elim
end Go.Proofs.YtbolfnkgbjkbjaaGreat.AM
end
section
set_option linter.unusedVariables false
set_option maxRecDepth 100000
namespace Go.Proofs.YtbolfnkgbjkbjaaGreat.AM
open Go Go.RowKit
/-- gosem.cut.init -/
def a2 : AFn := ⟨0, (.reg [
   ⟨some 0, .call (.f 1) [], none⟩]),
  []⟩
theorem c2 : chkFn Tryz.prog Tryz.f2 a2 = true := by kernel_rfl

/-- besom/besomlaw05.ContactPairs -/
def a3 : AFn := ⟨3, (.seq (.reg [
   ⟨some 3, .box 28 (.t 0), none⟩,
   ⟨some 4, .box 28 (.t 1), none⟩,
   ⟨some 6, .mv (.c (.bool false)), none⟩])
 (.seq (.reg [
   ⟨some 22, .ld 8 true (.t 3), none⟩,
   ⟨some 23, .ld 8 true (.t 4), none⟩,
   ⟨some 24, .call (.f 13) [(.t 22), (.t 23)], none⟩,
   ⟨some 21, .mv (.t 24), none⟩,
   ⟨some 25, .ext (.t 21) 0, none⟩,
   ⟨some 26, .ext (.t 21) 1, none⟩,
   ⟨some 7, .mv (.t 25), none⟩,
   ⟨some 8, .mv (.t 26), none⟩])
 (.seq (.reg [
   ⟨some 28, .ld 8 true (.t 3), none⟩,
   ⟨some 29, .ld 8 true (.t 4), none⟩,
   ⟨some 30, .call (.f 14) [(.t 28), (.t 29)], none⟩,
   ⟨some 27, .mv (.t 30), none⟩,
   ⟨some 31, .ext (.t 27) 0, none⟩,
   ⟨some 32, .ext (.t 27) 1, none⟩,
   ⟨some 9, .mv (.t 31), none⟩,
   ⟨some 10, .mv (.t 32), none⟩])
 (.seq (.reg [
   ⟨some 34, .ld 8 true (.t 3), none⟩,
   ⟨some 35, .call (.f 15) [(.t 34)], none⟩,
   ⟨some 33, .mv (.t 35), none⟩,
   ⟨some 36, .ext (.t 33) 0, none⟩,
   ⟨some 37, .ext (.t 33) 1, none⟩,
   ⟨some 11, .mv (.t 36), none⟩,
   ⟨some 12, .mv (.t 37), none⟩])
 (.seq (.reg [
   ⟨some 39, .ld 8 true (.t 3), none⟩,
   ⟨some 40, .call (.f 16) [(.t 39)], none⟩,
   ⟨some 38, .mv (.t 40), none⟩,
   ⟨some 41, .ext (.t 38) 0, none⟩,
   ⟨some 42, .ext (.t 38) 1, none⟩,
   ⟨some 13, .mv (.t 41), none⟩,
   ⟨some 14, .mv (.t 42), none⟩])
 (.seq (.reg [
   ⟨some 44, .ld 8 true (.t 3), none⟩,
   ⟨some 45, .ld 8 true (.t 4), none⟩,
   ⟨some 46, .mv (.t 2), none⟩,
   ⟨some 47, .call (.f 17) [(.t 44), (.t 45), (.t 46)], none⟩,
   ⟨some 43, .mv (.t 47), none⟩,
   ⟨some 48, .ext (.t 43) 0, none⟩,
   ⟨some 49, .ext (.t 43) 1, none⟩,
   ⟨some 50, .ext (.t 43) 2, none⟩,
   ⟨some 51, .ext (.t 43) 3, none⟩,
   ⟨some 15, .alloc 28 [(.int .i64 0), (.int .i64 0), (.int .i64 0), (.int .i64 0), (.int .i64 0), (.int .i64 0), (.int .i64 0), (.bool false)], none⟩,
   ⟨some 16, .alloc 28 [(.int .i64 0), (.int .i64 0), (.int .i64 0), (.int .i64 0), (.int .i64 0), (.int .i64 0), (.int .i64 0), (.bool false)], none⟩,
   ⟨none, .st 8 (.t 15) (.t 48), none⟩,
   ⟨none, .st 8 (.t 16) (.t 49), none⟩,
   ⟨some 17, .mv (.t 50), none⟩,
   ⟨some 18, .mv (.t 51), none⟩])
 (.seq (.reg [
   ⟨some 53, .ld 8 true (.t 3), none⟩,
   ⟨some 54, .ld 8 true (.t 4), none⟩,
   ⟨some 55, .mv (.t 2), none⟩,
   ⟨some 56, .call (.f 18) [(.t 53), (.t 54), (.t 55)], none⟩,
   ⟨some 52, .mv (.t 56), none⟩,
   ⟨some 57, .ext (.t 52) 0, none⟩,
   ⟨some 58, .ext (.t 52) 1, none⟩,
   ⟨some 19, .alloc 39 [(.int .i64 0), (.int .i64 0), (.int .i64 0), (.int .i64 0), (.int .i64 0), (.int .i64 0), (.int .i64 0), (.bool false), (.int .i64 0), (.int .i64 0), (.int .i64 0), (.int .i64 0), (.int .i64 0), (.int .i64 0), (.int .i64 0), (.bool false), (.bool false)], none⟩,
   ⟨none, .st 17 (.t 19) (.t 57), none⟩,
   ⟨some 20, .mv (.t 58), none⟩])
 (.seq (.reg [
   ⟨some 59, .mv (.t 7), none⟩,
   ⟨some 60, .mv (.t 9), none⟩,
   ⟨some 61, .binb false (.t 59) (.t 60), none⟩,
   ⟨some 62, .mv (.t 61), none⟩,
   ⟨some 63, .mv (.t 8), some (62, true)⟩,
   ⟨some 64, .mv (.t 10), some (62, true)⟩,
   ⟨some 65, .bin .eql (.t 63) (.t 64), some (62, true)⟩,
   ⟨some 66, .pick (.t 62) (.t 65) (.c (.bool false)), none⟩,
   ⟨some 67, .mv (.t 66), none⟩,
   ⟨some 68, .mv (.t 11), some (67, true)⟩,
   ⟨some 69, .mv (.t 13), some (67, true)⟩,
   ⟨some 70, .binb false (.t 68) (.t 69), some (67, true)⟩,
   ⟨some 71, .pick (.t 67) (.t 70) (.c (.bool false)), none⟩,
   ⟨some 72, .mv (.t 71), none⟩,
   ⟨some 73, .mv (.t 12), some (72, true)⟩,
   ⟨some 74, .mv (.t 14), some (72, true)⟩,
   ⟨some 75, .bin .eql (.t 73) (.t 74), some (72, true)⟩,
   ⟨some 76, .pick (.t 72) (.t 75) (.c (.bool false)), none⟩,
   ⟨some 77, .mv (.t 76), none⟩,
   ⟨some 78, .ld 8 true (.t 15), some (77, true)⟩,
   ⟨some 79, .fa (.t 19) 0, some (77, true)⟩,
   ⟨some 80, .ld 8 true (.t 79), some (77, true)⟩,
   ⟨some 81, .eqa false [.int .i64, .int .i64, .int .i64, .int .i64, .int .i64, .int .i64, .int .i64, .bool] (.t 78) (.t 80), some (77, true)⟩,
   ⟨some 82, .pick (.t 77) (.t 81) (.c (.bool false)), none⟩,
   ⟨some 83, .mv (.t 82), none⟩,
   ⟨some 84, .ld 8 true (.t 16), some (83, true)⟩,
   ⟨some 85, .fa (.t 19) 8, some (83, true)⟩,
   ⟨some 86, .ld 8 true (.t 85), some (83, true)⟩,
   ⟨some 87, .eqa false [.int .i64, .int .i64, .int .i64, .int .i64, .int .i64, .int .i64, .int .i64, .bool] (.t 84) (.t 86), some (83, true)⟩,
   ⟨some 88, .pick (.t 83) (.t 87) (.c (.bool false)), none⟩,
   ⟨some 89, .mv (.t 88), none⟩,
   ⟨some 90, .mv (.t 17), some (89, true)⟩,
   ⟨some 91, .fa (.t 19) 16, some (89, true)⟩,
   ⟨some 92, .ld 1 false (.t 91), some (89, true)⟩,
   ⟨some 93, .binb false (.t 90) (.t 92), some (89, true)⟩,
   ⟨some 94, .pick (.t 89) (.t 93) (.c (.bool false)), none⟩,
   ⟨some 95, .mv (.t 94), none⟩,
   ⟨some 96, .mv (.t 18), some (95, true)⟩,
   ⟨some 97, .mv (.t 20), some (95, true)⟩,
   ⟨some 98, .bin .eql (.t 96) (.t 97), some (95, true)⟩,
   ⟨some 99, .pick (.t 95) (.t 98) (.c (.bool false)), none⟩,
   ⟨some 100, .mv (.t 99), none⟩,
   ⟨some 101, .call (.f 19) [], some (100, true)⟩,
   ⟨some 102, .pick (.t 100) (.t 101) (.c (.bool false)), none⟩,
   ⟨some 6, .mv (.t 102), none⟩])
 .ret)))))))),
  [.tmp 6]⟩
theorem c3 : chkFn Tryz.prog Tryz.f3 a3 = true := by kernel_rfl

/-- besom/contact.Touch -/
def a13 : AFn := ⟨2, (.seq (.reg [
   ⟨some 2, .box 28 (.t 0), none⟩,
   ⟨some 3, .box 28 (.t 1), none⟩,
   ⟨some 4, .mv (.c (.bool false)), none⟩,
   ⟨some 5, .mv (.c (.int .i64 0)), none⟩])
 (.seq (.drw [
   (⟨some 8, .ld 8 true (.t 2), none⟩, []),
   (⟨some 9, .bld [(.int .i64 0), (.int .i64 0), (.int .i64 0), (.int .i64 0), (.int .i64 0), (.int .i64 0), (.int .i64 0), (.bool false)] [(0, 8, (.t 8))], none⟩, [0]),
   (⟨some 10, .ld 8 true (.t 3), none⟩, []),
   (⟨some 11, .bld [(.int .i64 0), (.int .i64 0), (.int .i64 0), (.int .i64 0), (.int .i64 0), (.int .i64 0), (.int .i64 0), (.bool false)] [(0, 8, (.t 10))], none⟩, [2]),
   (⟨some 6, .alloc 106 [(.int .i64 0), (.int .i64 0), (.int .i64 0), (.int .i64 0), (.int .i64 0), (.int .i64 0), (.int .i64 0), (.bool false)], none⟩, []),
   (⟨some 7, .alloc 106 [(.int .i64 0), (.int .i64 0), (.int .i64 0), (.int .i64 0), (.int .i64 0), (.int .i64 0), (.int .i64 0), (.bool false)], none⟩, []),
   (⟨none, .st 8 (.t 6) (.t 9), none⟩, [4, 1, 0, 5]),
   (⟨none, .st 8 (.t 7) (.t 11), none⟩, [5, 3, 2, 6, 4, 1, 0])])
 (.seq (.seq (.reg [
   ⟨some 12, .ld 8 true (.t 6), none⟩,
   ⟨some 13, .call (.f 44) [(.t 12)], none⟩,
   ⟨some 14, .not (.t 13), none⟩,
   ⟨some 15, .mv (.t 14), none⟩,
   ⟨some 16, .ld 8 true (.t 7), some (15, false)⟩,
   ⟨some 17, .call (.f 44) [(.t 16)], some (15, false)⟩,
   ⟨some 18, .not (.t 17), some (15, false)⟩,
   ⟨some 19, .pick (.t 15) (.c (.bool true)) (.t 18), none⟩])
 (.cond (.t 19) (.seq (.reg [
    ⟨some 4, .mv (.c (.bool false)), none⟩,
    ⟨some 5, .mv (.c (.int .i64 2)), none⟩])
  .ret)
 .skip))
 (.seq (.reg [
   ⟨some 20, .ld 8 true (.t 6), none⟩,
   ⟨some 21, .ld 8 true (.t 7), none⟩,
   ⟨some 22, .call (.f 45) [(.t 20), (.t 21)], none⟩,
   ⟨some 4, .mv (.t 22), none⟩,
   ⟨some 5, .mv (.c (.int .i64 0)), none⟩])
 .ret)))),
  [.tmp 4, .tmp 5]⟩
theorem c13 : chkFn Tryz.prog Tryz.f13 a13 = true := by kernel_rfl

/-- besom/besomref05.Touch -/
def a14 : AFn := ⟨2, (.seq (.reg [
   ⟨some 2, .box 28 (.t 0), none⟩,
   ⟨some 3, .box 28 (.t 1), none⟩,
   ⟨some 4, .mv (.c (.bool false)), none⟩,
   ⟨some 5, .mv (.c (.int .i64 0)), none⟩])
 (.seq (.reg [
   ⟨some 8, .ld 8 true (.t 2), none⟩,
   ⟨some 9, .call (.f 46) [(.t 8)], none⟩,
   ⟨some 6, .mv (.t 9), none⟩])
 (.seq (.reg [
   ⟨some 10, .ld 8 true (.t 3), none⟩,
   ⟨some 11, .call (.f 46) [(.t 10)], none⟩,
   ⟨some 7, .mv (.t 11), none⟩])
 (.seq (.seq (.reg [
   ⟨some 12, .mv (.t 6), none⟩,
   ⟨some 13, .not (.t 12), none⟩,
   ⟨some 14, .mv (.t 13), none⟩,
   ⟨some 15, .mv (.t 7), some (14, false)⟩,
   ⟨some 16, .not (.t 15), some (14, false)⟩,
   ⟨some 17, .pick (.t 14) (.c (.bool true)) (.t 16), none⟩])
 (.cond (.t 17) (.seq (.reg [
    ⟨some 4, .mv (.c (.bool false)), none⟩,
    ⟨some 5, .mv (.c (.int .i64 2)), none⟩])
  .ret)
 .skip))
 (.seq (.reg [
   ⟨some 18, .ld 8 true (.t 2), none⟩,
   ⟨some 19, .ld 8 true (.t 3), none⟩,
   ⟨some 20, .call (.f 47) [(.t 18), (.t 19)], none⟩,
   ⟨some 4, .mv (.t 20), none⟩,
   ⟨some 5, .mv (.c (.int .i64 0)), none⟩])
 .ret))))),
  [.tmp 4, .tmp 5]⟩
theorem c14 : chkFn Tryz.prog Tryz.f14 a14 = true := by kernel_rfl

/-- besom/contact.Gone -/
def a15 : AFn := ⟨1, (.seq (.reg [
   ⟨some 1, .box 28 (.t 0), none⟩,
   ⟨some 2, .mv (.c (.bool false)), none⟩,
   ⟨some 3, .mv (.c (.int .i64 0)), none⟩])
 (.seq (.reg [
   ⟨some 5, .ld 8 true (.t 1), none⟩,
   ⟨some 6, .bld [(.int .i64 0), (.int .i64 0), (.int .i64 0), (.int .i64 0), (.int .i64 0), (.int .i64 0), (.int .i64 0), (.bool false)] [(0, 8, (.t 5))], none⟩,
   ⟨some 4, .alloc 106 [(.int .i64 0), (.int .i64 0), (.int .i64 0), (.int .i64 0), (.int .i64 0), (.int .i64 0), (.int .i64 0), (.bool false)], none⟩,
   ⟨none, .st 8 (.t 4) (.t 6), none⟩])
 (.seq (.seq (.reg [
   ⟨some 7, .ld 8 true (.t 4), none⟩,
   ⟨some 8, .call (.f 44) [(.t 7)], none⟩,
   ⟨some 9, .not (.t 8), none⟩])
 (.cond (.t 9) (.seq (.reg [
    ⟨some 2, .mv (.c (.bool false)), none⟩,
    ⟨some 3, .mv (.c (.int .i64 2)), none⟩])
  .ret)
 .skip))
 (.seq (.reg [
   ⟨some 10, .ld 8 true (.t 4), none⟩,
   ⟨some 11, .call (.f 48) [(.t 10)], none⟩,
   ⟨some 2, .mv (.t 11), none⟩,
   ⟨some 3, .mv (.c (.int .i64 0)), none⟩])
 .ret)))),
  [.tmp 2, .tmp 3]⟩
theorem c15 : chkFn Tryz.prog Tryz.f15 a15 = true := by kernel_rfl

/-- besom/besomref05.Gone -/
def a16 : AFn := ⟨1, (.seq (.reg [
   ⟨some 1, .box 28 (.t 0), none⟩,
   ⟨some 2, .mv (.c (.bool false)), none⟩,
   ⟨some 3, .mv (.c (.int .i64 0)), none⟩])
 (.seq (.reg [
   ⟨some 5, .ld 8 true (.t 1), none⟩,
   ⟨some 6, .call (.f 46) [(.t 5)], none⟩,
   ⟨some 4, .mv (.t 6), none⟩])
 (.seq (.seq (.reg [
   ⟨some 7, .mv (.t 4), none⟩,
   ⟨some 8, .not (.t 7), none⟩])
 (.cond (.t 8) (.seq (.reg [
    ⟨some 2, .mv (.c (.bool false)), none⟩,
    ⟨some 3, .mv (.c (.int .i64 2)), none⟩])
  .ret)
 .skip))
 (.seq (.reg [
   ⟨some 9, .ld 8 true (.t 1), none⟩,
   ⟨some 10, .call (.f 49) [(.t 9)], none⟩,
   ⟨some 2, .mv (.t 10), none⟩,
   ⟨some 3, .mv (.c (.int .i64 0)), none⟩])
 .ret)))),
  [.tmp 2, .tmp 3]⟩
theorem c16 : chkFn Tryz.prog Tryz.f16 a16 = true := by kernel_rfl

/-- besom/contact.Meet -/
def a17 : AFn := ⟨3, (.seq (.reg [
   ⟨some 3, .box 28 (.t 0), none⟩,
   ⟨some 4, .box 28 (.t 1), none⟩,
   ⟨some 5, .box 3 (.t 2), none⟩,
   ⟨some 6, .alloc 28 [(.int .i64 0), (.int .i64 0), (.int .i64 0), (.int .i64 0), (.int .i64 0), (.int .i64 0), (.int .i64 0), (.bool false)], none⟩,
   ⟨some 7, .alloc 28 [(.int .i64 0), (.int .i64 0), (.int .i64 0), (.int .i64 0), (.int .i64 0), (.int .i64 0), (.int .i64 0), (.bool false)], none⟩,
   ⟨some 8, .mv (.c (.bool false)), none⟩,
   ⟨some 9, .mv (.c (.int .i64 0)), none⟩])
 (.seq (.drw [
   (⟨some 14, .ld 8 true (.t 3), none⟩, []),
   (⟨some 15, .bld [(.int .i64 0), (.int .i64 0), (.int .i64 0), (.int .i64 0), (.int .i64 0), (.int .i64 0), (.int .i64 0), (.bool false)] [(0, 8, (.t 14))], none⟩, [0]),
   (⟨some 16, .ld 8 true (.t 4), none⟩, []),
   (⟨some 17, .bld [(.int .i64 0), (.int .i64 0), (.int .i64 0), (.int .i64 0), (.int .i64 0), (.int .i64 0), (.int .i64 0), (.bool false)] [(0, 8, (.t 16))], none⟩, [2]),
   (⟨some 10, .alloc 106 [(.int .i64 0), (.int .i64 0), (.int .i64 0), (.int .i64 0), (.int .i64 0), (.int .i64 0), (.int .i64 0), (.bool false)], none⟩, []),
   (⟨some 11, .alloc 106 [(.int .i64 0), (.int .i64 0), (.int .i64 0), (.int .i64 0), (.int .i64 0), (.int .i64 0), (.int .i64 0), (.bool false)], none⟩, []),
   (⟨none, .st 8 (.t 10) (.t 15), none⟩, [4, 1, 0, 5]),
   (⟨none, .st 8 (.t 11) (.t 17), none⟩, [5, 3, 2, 6, 4, 1, 0])])
 (.seq (.seq (.reg [
   ⟨some 18, .ld 8 true (.t 10), none⟩,
   ⟨some 19, .call (.f 44) [(.t 18)], none⟩,
   ⟨some 20, .not (.t 19), none⟩,
   ⟨some 21, .mv (.t 20), none⟩,
   ⟨some 22, .ld 8 true (.t 11), some (21, false)⟩,
   ⟨some 23, .call (.f 44) [(.t 22)], some (21, false)⟩,
   ⟨some 24, .not (.t 23), some (21, false)⟩,
   ⟨some 25, .pick (.t 21) (.c (.bool true)) (.t 24), none⟩,
   ⟨some 26, .mv (.t 25), none⟩,
   ⟨some 27, .ld 1 false (.t 5), some (26, false)⟩,
   ⟨some 28, .call (.f 50) [(.t 27), (.c (.int .i64 0)), (.c (.int .i64 1000))], some (26, false)⟩,
   ⟨some 29, .not (.t 28), some (26, false)⟩,
   ⟨some 30, .pick (.t 26) (.c (.bool true)) (.t 29), none⟩])
 (.cond (.t 30) (.seq (.reg [
    ⟨some 31, .bld [(.int .i64 0), (.int .i64 0), (.int .i64 0), (.int .i64 0), (.int .i64 0), (.int .i64 0), (.int .i64 0), (.bool false)] [], none⟩,
    ⟨some 32, .bld [(.int .i64 0), (.int .i64 0), (.int .i64 0), (.int .i64 0), (.int .i64 0), (.int .i64 0), (.int .i64 0), (.bool false)] [], none⟩,
    ⟨none, .st 8 (.t 6) (.t 31), none⟩,
    ⟨none, .st 8 (.t 7) (.t 32), none⟩,
    ⟨some 8, .mv (.c (.bool false)), none⟩,
    ⟨some 9, .mv (.c (.int .i64 2)), none⟩])
  .ret)
 .skip))
 (.seq (.reg [
   ⟨some 12, .alloc 4 [(.bool false)], none⟩,
   ⟨none, .st 1 (.t 12) (.c (.bool false)), none⟩])
 (.seq (.reg [
   ⟨some 33, .mkf 52 [] [(.t 10), (.t 11), (.t 5), (.t 12)], none⟩,
   ⟨some 34, .call (.f 51) [(.t 33)], none⟩,
   ⟨some 13, .mv (.t 34), none⟩])
 (.seq (.seq (.reg [
   ⟨some 35, .mv (.t 13), none⟩,
   ⟨some 36, .bin .neq (.t 35) (.c (.int .i64 0)), none⟩])
 (.cond (.t 36) (.seq (.reg [
    ⟨some 37, .bld [(.int .i64 0), (.int .i64 0), (.int .i64 0), (.int .i64 0), (.int .i64 0), (.int .i64 0), (.int .i64 0), (.bool false)] [], none⟩,
    ⟨some 38, .bld [(.int .i64 0), (.int .i64 0), (.int .i64 0), (.int .i64 0), (.int .i64 0), (.int .i64 0), (.int .i64 0), (.bool false)] [], none⟩,
    ⟨some 39, .mv (.t 13), none⟩,
    ⟨none, .st 8 (.t 6) (.t 37), none⟩,
    ⟨none, .st 8 (.t 7) (.t 38), none⟩,
    ⟨some 8, .mv (.c (.bool false)), none⟩,
    ⟨some 9, .mv (.t 39), none⟩])
  .ret)
 .skip))
 (.seq (.drw [
   (⟨some 40, .fa (.t 10) 0, none⟩, []),
   (⟨some 41, .ld 8 true (.t 40), none⟩, [0]),
   (⟨some 42, .fa (.t 11) 0, none⟩, []),
   (⟨some 43, .ld 8 true (.t 42), none⟩, [2]),
   (⟨some 44, .ld 1 false (.t 12), none⟩, []),
   (⟨none, .st 8 (.t 6) (.t 41), none⟩, [1, 0]),
   (⟨none, .st 8 (.t 7) (.t 43), none⟩, [3, 2, 5, 1, 0]),
   (⟨some 8, .mv (.t 44), none⟩, [4, 6, 3, 2, 5, 1, 0]),
   (⟨some 9, .mv (.c (.int .i64 0)), none⟩, [7, 4, 6, 3, 2, 5, 1, 0])])
 .ret))))))),
  [.cell 6 8 true, .cell 7 8 true, .tmp 8, .tmp 9]⟩
theorem c17 : chkFn Tryz.prog Tryz.f17 a17 = true := by kernel_rfl

/-- besom/besomref05.Meet -/
def a18 : AFn := ⟨3, (.seq (.reg [
   ⟨some 3, .box 28 (.t 0), none⟩,
   ⟨some 4, .box 28 (.t 1), none⟩,
   ⟨some 6, .alloc 39 [(.int .i64 0), (.int .i64 0), (.int .i64 0), (.int .i64 0), (.int .i64 0), (.int .i64 0), (.int .i64 0), (.bool false), (.int .i64 0), (.int .i64 0), (.int .i64 0), (.int .i64 0), (.int .i64 0), (.int .i64 0), (.int .i64 0), (.bool false), (.bool false)], none⟩,
   ⟨some 7, .mv (.c (.int .i64 0)), none⟩])
 (.seq (.reg [
   ⟨some 11, .ld 8 true (.t 3), none⟩,
   ⟨some 12, .call (.f 46) [(.t 11)], none⟩,
   ⟨some 8, .mv (.t 12), none⟩])
 (.seq (.reg [
   ⟨some 13, .ld 8 true (.t 4), none⟩,
   ⟨some 14, .call (.f 46) [(.t 13)], none⟩,
   ⟨some 9, .mv (.t 14), none⟩])
 (.seq (.seq (.reg [
   ⟨some 15, .mv (.t 8), none⟩,
   ⟨some 16, .not (.t 15), none⟩,
   ⟨some 17, .mv (.t 16), none⟩,
   ⟨some 18, .mv (.t 9), some (17, false)⟩,
   ⟨some 19, .not (.t 18), some (17, false)⟩,
   ⟨some 20, .pick (.t 17) (.c (.bool true)) (.t 19), none⟩,
   ⟨some 21, .mv (.t 20), none⟩,
   ⟨some 22, .mv (.t 2), some (21, false)⟩,
   ⟨some 23, .call (.f 54) [(.t 22), (.c (.int .i64 0)), (.c (.int .i64 1000))], some (21, false)⟩,
   ⟨some 24, .not (.t 23), some (21, false)⟩,
   ⟨some 25, .pick (.t 21) (.c (.bool true)) (.t 24), none⟩])
 (.cond (.t 25) (.seq (.reg [
    ⟨some 26, .bld [(.int .i64 0), (.int .i64 0), (.int .i64 0), (.int .i64 0), (.int .i64 0), (.int .i64 0), (.int .i64 0), (.bool false), (.int .i64 0), (.int .i64 0), (.int .i64 0), (.int .i64 0), (.int .i64 0), (.int .i64 0), (.int .i64 0), (.bool false), (.bool false)] [], none⟩,
    ⟨none, .st 17 (.t 6) (.t 26), none⟩,
    ⟨some 7, .mv (.c (.int .i64 2)), none⟩])
  .ret)
 .skip))
 (.seq (.reg [
   ⟨some 27, .ld 8 true (.t 3), none⟩,
   ⟨some 28, .ld 8 true (.t 4), none⟩,
   ⟨some 29, .call (.f 47) [(.t 27), (.t 28)], none⟩,
   ⟨some 10, .mv (.t 29), none⟩])
 (.seq (.seq (.reg [
   ⟨some 30, .mv (.t 10), none⟩,
   ⟨some 31, .not (.t 30), none⟩])
 (.cond (.t 31) (.seq (.reg [
    ⟨some 32, .ld 8 true (.t 3), none⟩,
    ⟨some 33, .ld 8 true (.t 4), none⟩,
    ⟨some 34, .bld [(.int .i64 0), (.int .i64 0), (.int .i64 0), (.int .i64 0), (.int .i64 0), (.int .i64 0), (.int .i64 0), (.bool false), (.int .i64 0), (.int .i64 0), (.int .i64 0), (.int .i64 0), (.int .i64 0), (.int .i64 0), (.int .i64 0), (.bool false), (.bool false)] [(0, 8, (.t 32)), (8, 8, (.t 33))], none⟩,
    ⟨none, .st 17 (.t 6) (.t 34), none⟩,
    ⟨some 7, .mv (.c (.int .i64 0)), none⟩])
  .ret)
 .skip))
 (.seq (.reg [
   ⟨some 35, .ld 8 true (.t 3), none⟩,
   ⟨some 36, .ld 8 true (.t 4), none⟩,
   ⟨some 37, .mv (.t 2), none⟩,
   ⟨some 38, .call (.f 55) [(.t 35), (.t 36), (.t 37)], none⟩,
   ⟨some 39, .ext (.t 38) 0, none⟩,
   ⟨some 40, .ext (.t 38) 1, none⟩,
   ⟨none, .st 17 (.t 6) (.t 39), none⟩,
   ⟨some 7, .mv (.t 40), none⟩])
 .ret))))))),
  [.cell 6 17 true, .tmp 7]⟩
theorem c18 : chkFn Tryz.prog Tryz.f18 a18 = true := by kernel_rfl

/-- besom/besomlaw05.alive -/
def a19 : AFn := ⟨0, (.seq (.reg [
   ⟨some 0, .mv (.c (.bool false)), none⟩])
 (.seq (.reg [
   ⟨some 9, .call (.f 56) [(.c (.int .i64 0)), (.c (.int .i64 0)), (.c (.int .i64 20000))], none⟩,
   ⟨some 10, .call (.f 56) [(.c (.int .i64 1)), (.c (.int .i64 19000000)), (.c (.int .i64 0))], none⟩,
   ⟨some 1, .alloc 28 [(.int .i64 0), (.int .i64 0), (.int .i64 0), (.int .i64 0), (.int .i64 0), (.int .i64 0), (.int .i64 0), (.bool false)], none⟩,
   ⟨some 2, .alloc 28 [(.int .i64 0), (.int .i64 0), (.int .i64 0), (.int .i64 0), (.int .i64 0), (.int .i64 0), (.int .i64 0), (.bool false)], none⟩,
   ⟨none, .st 8 (.t 1) (.t 9), none⟩,
   ⟨none, .st 8 (.t 2) (.t 10), none⟩])
 (.seq (.reg [
   ⟨some 12, .ld 8 true (.t 1), none⟩,
   ⟨some 13, .ld 8 true (.t 2), none⟩,
   ⟨some 14, .call (.f 13) [(.t 12), (.t 13)], none⟩,
   ⟨some 11, .mv (.t 14), none⟩,
   ⟨some 15, .ext (.t 11) 0, none⟩,
   ⟨some 16, .ext (.t 11) 1, none⟩,
   ⟨some 3, .mv (.t 15), none⟩,
   ⟨some 4, .mv (.t 16), none⟩])
 (.seq (.reg [
   ⟨some 18, .ld 8 true (.t 1), none⟩,
   ⟨some 19, .ld 8 true (.t 2), none⟩,
   ⟨some 20, .call (.f 17) [(.t 18), (.t 19), (.c (.int .i64 800))], none⟩,
   ⟨some 17, .mv (.t 20), none⟩,
   ⟨some 21, .ext (.t 17) 0, none⟩,
   ⟨some 22, .ext (.t 17) 1, none⟩,
   ⟨some 23, .ext (.t 17) 2, none⟩,
   ⟨some 24, .ext (.t 17) 3, none⟩,
   ⟨some 5, .alloc 28 [(.int .i64 0), (.int .i64 0), (.int .i64 0), (.int .i64 0), (.int .i64 0), (.int .i64 0), (.int .i64 0), (.bool false)], none⟩,
   ⟨some 6, .alloc 28 [(.int .i64 0), (.int .i64 0), (.int .i64 0), (.int .i64 0), (.int .i64 0), (.int .i64 0), (.int .i64 0), (.bool false)], none⟩,
   ⟨none, .st 8 (.t 5) (.t 21), none⟩,
   ⟨none, .st 8 (.t 6) (.t 22), none⟩,
   ⟨some 7, .mv (.t 23), none⟩,
   ⟨some 8, .mv (.t 24), none⟩])
 (.seq (.drw [
   (⟨some 25, .mv (.t 3), none⟩, []),
   (⟨some 26, .mv (.t 25), none⟩, [0]),
   (⟨some 27, .mv (.t 4), some (26, true)⟩, [1, 0]),
   (⟨some 28, .bin .eql (.t 27) (.c (.int .i64 0)), some (26, true)⟩, [2, 1, 0]),
   (⟨some 29, .pick (.t 26) (.t 28) (.c (.bool false)), none⟩, [1, 0, 3, 2]),
   (⟨some 30, .mv (.t 29), none⟩, [4, 1, 0, 3, 2]),
   (⟨some 31, .mv (.t 7), some (30, true)⟩, [5, 4, 1, 0, 3, 2]),
   (⟨some 32, .pick (.t 30) (.t 31) (.c (.bool false)), none⟩, [5, 4, 1, 0, 3, 2, 6]),
   (⟨some 33, .mv (.t 32), none⟩, [7, 5, 4, 1, 0, 3, 2, 6]),
   (⟨some 34, .mv (.t 8), some (33, true)⟩, [8, 7, 5, 4, 1, 0, 3, 2, 6]),
   (⟨some 35, .bin .eql (.t 34) (.c (.int .i64 0)), some (33, true)⟩, [9, 8, 7, 5, 4, 1, 0, 3, 2, 6]),
   (⟨some 36, .pick (.t 33) (.t 35) (.c (.bool false)), none⟩, [8, 7, 5, 4, 1, 0, 3, 2, 6, 10, 9]),
   (⟨some 37, .mv (.t 36), none⟩, [11, 8, 7, 5, 4, 1, 0, 3, 2, 6, 10, 9]),
   (⟨some 38, .ld 8 true (.t 5), some (37, true)⟩, [12, 11, 8, 7, 5, 4, 1, 0, 3, 2, 6, 10, 9]),
   (⟨some 39, .call (.f 56) [(.c (.int .i64 0)), (.c (.int .i64 0)), (.c (.int .i64 2000))], some (37, true)⟩, [12, 11, 8, 7, 5, 4, 1, 0, 3, 2, 6, 10, 9]),
   (⟨some 40, .eqa false [.int .i64, .int .i64, .int .i64, .int .i64, .int .i64, .int .i64, .int .i64, .bool] (.t 38) (.t 39), some (37, true)⟩, [13, 12, 11, 8, 7, 5, 4, 1, 0, 3, 2, 6, 10, 9, 14]),
   (⟨some 41, .pick (.t 37) (.t 40) (.c (.bool false)), none⟩, [12, 11, 8, 7, 5, 4, 1, 0, 3, 2, 6, 10, 9, 15, 13, 14]),
   (⟨some 42, .mv (.t 41), none⟩, [16, 12, 11, 8, 7, 5, 4, 1, 0, 3, 2, 6, 10, 9, 15, 13, 14]),
   (⟨some 43, .ld 8 true (.t 6), some (42, true)⟩, [17, 16, 12, 11, 8, 7, 5, 4, 1, 0, 3, 2, 6, 10, 9, 15, 13, 14]),
   (⟨some 44, .call (.f 56) [(.c (.int .i64 1)), (.c (.int .i64 19000000)), (.c (.int .i64 18000))], some (42, true)⟩, [17, 16, 12, 11, 8, 7, 5, 4, 1, 0, 3, 2, 6, 10, 9, 15, 13, 14]),
   (⟨some 45, .eqa false [.int .i64, .int .i64, .int .i64, .int .i64, .int .i64, .int .i64, .int .i64, .bool] (.t 43) (.t 44), some (42, true)⟩, [18, 17, 16, 12, 11, 8, 7, 5, 4, 1, 0, 3, 2, 6, 10, 9, 15, 13, 14, 19]),
   (⟨some 46, .pick (.t 42) (.t 45) (.c (.bool false)), none⟩, [17, 16, 12, 11, 8, 7, 5, 4, 1, 0, 3, 2, 6, 10, 9, 15, 13, 14, 20, 18, 19]),
   (⟨some 0, .mv (.t 46), none⟩, [21, 17, 16, 12, 11, 8, 7, 5, 4, 1, 0, 3, 2, 6, 10, 9, 15, 13, 14, 20, 18, 19])])
 .ret))))),
  [.tmp 0]⟩
theorem c19 : chkFn Tryz.prog Tryz.f19 a19 = true := by kernel_rfl

/-- besom/besomref04.Rest -/
def a41 : AFn := ⟨1, (.seq (.reg [
   ⟨some 1, .box 26 (.t 0), none⟩,
   ⟨some 2, .mv (.c (.bool false)), none⟩])
 (.seq (.reg [
   ⟨some 3, .fa (.t 1) 2, none⟩,
   ⟨some 4, .fa (.t 3) 0, none⟩,
   ⟨some 5, .ld 1 false (.t 4), none⟩,
   ⟨some 6, .bin .eql (.t 5) (.c (.int .i64 0)), none⟩,
   ⟨some 7, .mv (.t 6), none⟩,
   ⟨some 8, .fa (.t 1) 2, some (7, true)⟩,
   ⟨some 9, .fa (.t 8) 1, some (7, true)⟩,
   ⟨some 10, .ld 1 false (.t 9), some (7, true)⟩,
   ⟨some 11, .bin .eql (.t 10) (.c (.int .i64 0)), some (7, true)⟩,
   ⟨some 12, .pick (.t 7) (.t 11) (.c (.bool false)), none⟩,
   ⟨some 2, .mv (.t 12), none⟩])
 .ret)),
  [.tmp 2]⟩
theorem c41 : chkFn Tryz.prog Tryz.f41 a41 = true := by kernel_rfl

/-- (besom/contact.body).valid -/
def a44 : AFn := ⟨1, (.seq (.reg [
   ⟨some 1, .box 106 (.t 0), none⟩,
   ⟨some 2, .mv (.c (.bool false)), none⟩])
 (.seq (.reg [
   ⟨some 3, .fa (.t 1) 0, none⟩,
   ⟨some 4, .fa (.t 3) 0, none⟩,
   ⟨some 5, .ld 1 false (.t 4), none⟩,
   ⟨some 6, .call (.f 50) [(.t 5), (.c (.int .i64 0)), (.c (.int .i64 1))], none⟩,
   ⟨some 7, .mv (.t 6), none⟩,
   ⟨some 8, .fa (.t 1) 0, some (7, true)⟩,
   ⟨some 9, .fa (.t 8) 1, some (7, true)⟩,
   ⟨some 10, .ld 1 false (.t 9), some (7, true)⟩,
   ⟨some 11, .call (.f 50) [(.t 10), (.c (.int .i64 0)), (.c (.int .i64 7))], some (7, true)⟩,
   ⟨some 12, .pick (.t 7) (.t 11) (.c (.bool false)), none⟩,
   ⟨some 13, .mv (.t 12), none⟩,
   ⟨some 14, .fa (.t 1) 0, some (13, true)⟩,
   ⟨some 15, .fa (.t 14) 2, some (13, true)⟩,
   ⟨some 16, .ld 5 true (.t 15), some (13, true)⟩,
   ⟨some 17, .call (.f 75) [(.t 16)], some (13, true)⟩,
   ⟨some 18, .bin .eql (.t 17) (.c (.int .i64 0)), some (13, true)⟩,
   ⟨some 19, .pick (.t 13) (.t 18) (.c (.bool false)), none⟩,
   ⟨some 2, .mv (.t 19), none⟩])
 .ret)),
  [.tmp 2]⟩
theorem c44 : chkFn Tryz.prog Tryz.f44 a44 = true := by kernel_rfl

/-- (besom/contact.body).touches -/
def a45 : AFn := ⟨2, (.seq (.reg [
   ⟨some 2, .box 106 (.t 0), none⟩,
   ⟨some 3, .box 106 (.t 1), none⟩,
   ⟨some 4, .mv (.c (.bool false)), none⟩])
 (.seq (.reg [
   ⟨some 10, .fa (.t 3) 0, none⟩,
   ⟨some 11, .fa (.t 10) 2, none⟩,
   ⟨some 12, .fa (.t 11) 0, none⟩,
   ⟨some 13, .ld 2 true (.t 12), none⟩,
   ⟨some 14, .fa (.t 2) 0, none⟩,
   ⟨some 15, .fa (.t 14) 2, none⟩,
   ⟨some 16, .fa (.t 15) 0, none⟩,
   ⟨some 17, .ld 2 true (.t 16), none⟩,
   ⟨some 18, .call (.f 76) [(.t 13), (.t 17)], none⟩,
   ⟨some 9, .mv (.t 18), none⟩,
   ⟨some 19, .ext (.t 9) 0, none⟩,
   ⟨some 20, .ext (.t 9) 1, none⟩,
   ⟨some 5, .alloc 24 [(.int .i64 0), (.int .i64 0)], none⟩,
   ⟨none, .st 2 (.t 5) (.t 19), none⟩,
   ⟨some 6, .mv (.t 20), none⟩])
 (.seq (.reg [
   ⟨some 22, .ld 2 true (.t 5), none⟩,
   ⟨some 23, .call (.f 77) [(.t 22), (.c (.int .i64 19005440))], none⟩,
   ⟨some 21, .mv (.t 23), none⟩,
   ⟨some 24, .ext (.t 21) 0, none⟩,
   ⟨some 25, .ext (.t 21) 1, none⟩,
   ⟨some 7, .mv (.t 24), none⟩,
   ⟨some 8, .mv (.t 25), none⟩])
 (.seq (.reg [
   ⟨some 26, .fa (.t 2) 0, none⟩,
   ⟨some 27, .fa (.t 26) 7, none⟩,
   ⟨some 28, .ld 1 false (.t 27), none⟩,
   ⟨some 29, .not (.t 28), none⟩,
   ⟨some 30, .mv (.t 29), none⟩,
   ⟨some 31, .fa (.t 3) 0, some (30, true)⟩,
   ⟨some 32, .fa (.t 31) 7, some (30, true)⟩,
   ⟨some 33, .ld 1 false (.t 32), some (30, true)⟩,
   ⟨some 34, .not (.t 33), some (30, true)⟩,
   ⟨some 35, .pick (.t 30) (.t 34) (.c (.bool false)), none⟩,
   ⟨some 36, .mv (.t 35), none⟩,
   ⟨some 37, .mv (.t 7), some (36, true)⟩,
   ⟨some 38, .pick (.t 36) (.t 37) (.c (.bool false)), none⟩,
   ⟨some 39, .mv (.t 38), none⟩,
   ⟨some 40, .ld 2 true (.t 5), some (39, true)⟩,
   ⟨some 41, .bld [(.int .i64 0), (.int .i64 0)] [], some (39, true)⟩,
   ⟨some 42, .eqa true [.int .i64, .int .i64] (.t 40) (.t 41), some (39, true)⟩,
   ⟨some 43, .pick (.t 39) (.t 42) (.c (.bool false)), none⟩,
   ⟨some 4, .mv (.t 43), none⟩])
 .ret)))),
  [.tmp 4]⟩
theorem c45 : chkFn Tryz.prog Tryz.f45 a45 = true := by kernel_rfl

/-- besom/besomref05.Body -/
def a46 : AFn := ⟨1, (.seq (.reg [
   ⟨some 1, .box 28 (.t 0), none⟩,
   ⟨some 2, .mv (.c (.bool false)), none⟩])
 (.seq (.reg [
   ⟨some 3, .fa (.t 1) 0, none⟩,
   ⟨some 4, .ld 1 false (.t 3), none⟩,
   ⟨some 5, .call (.f 54) [(.t 4), (.c (.int .i64 0)), (.c (.int .i64 1))], none⟩,
   ⟨some 6, .mv (.t 5), none⟩,
   ⟨some 7, .fa (.t 1) 1, some (6, true)⟩,
   ⟨some 8, .ld 1 false (.t 7), some (6, true)⟩,
   ⟨some 9, .call (.f 54) [(.t 8), (.c (.int .i64 0)), (.c (.int .i64 7))], some (6, true)⟩,
   ⟨some 10, .pick (.t 6) (.t 9) (.c (.bool false)), none⟩,
   ⟨some 11, .mv (.t 10), none⟩,
   ⟨some 12, .fa (.t 1) 2, some (11, true)⟩,
   ⟨some 13, .ld 5 true (.t 12), some (11, true)⟩,
   ⟨some 14, .call (.f 78) [(.t 13)], some (11, true)⟩,
   ⟨some 15, .pick (.t 11) (.t 14) (.c (.bool false)), none⟩,
   ⟨some 2, .mv (.t 15), none⟩])
 .ret)),
  [.tmp 2]⟩
theorem c46 : chkFn Tryz.prog Tryz.f46 a46 = true := by kernel_rfl

/-- besom/besomref05.touch -/
def a47 : AFn := ⟨2, (.seq (.reg [
   ⟨some 2, .box 28 (.t 0), none⟩,
   ⟨some 3, .box 28 (.t 1), none⟩,
   ⟨some 4, .mv (.c (.bool false)), none⟩])
 (.seq (.reg [
   ⟨some 8, .fa (.t 3) 2, none⟩,
   ⟨some 9, .fa (.t 8) 0, none⟩,
   ⟨some 10, .fa (.t 9) 0, none⟩,
   ⟨some 11, .ld 1 false (.t 10), none⟩,
   ⟨some 12, .fa (.t 2) 2, none⟩,
   ⟨some 13, .fa (.t 12) 0, none⟩,
   ⟨some 14, .fa (.t 13) 0, none⟩,
   ⟨some 15, .ld 1 false (.t 14), none⟩,
   ⟨some 16, .bin .sub (.t 11) (.t 15), none⟩,
   ⟨some 17, .fa (.t 3) 2, none⟩,
   ⟨some 18, .fa (.t 17) 0, none⟩,
   ⟨some 19, .fa (.t 18) 1, none⟩,
   ⟨some 20, .ld 1 false (.t 19), none⟩,
   ⟨some 21, .fa (.t 2) 2, none⟩,
   ⟨some 22, .fa (.t 21) 0, none⟩,
   ⟨some 23, .fa (.t 22) 1, none⟩,
   ⟨some 24, .ld 1 false (.t 23), none⟩,
   ⟨some 25, .bin .sub (.t 20) (.t 24), none⟩,
   ⟨some 26, .bld [(.int .i64 0), (.int .i64 0)] [(0, 1, (.t 16)), (1, 1, (.t 25))], none⟩,
   ⟨some 5, .alloc 24 [(.int .i64 0), (.int .i64 0)], none⟩,
   ⟨none, .st 2 (.t 5) (.t 26), none⟩])
 (.seq (.reg [
   ⟨some 28, .ld 2 true (.t 5), none⟩,
   ⟨some 29, .call (.f 79) [(.t 28), (.c (.int .i64 19005440))], none⟩,
   ⟨some 27, .mv (.t 29), none⟩,
   ⟨some 30, .ext (.t 27) 0, none⟩,
   ⟨some 31, .ext (.t 27) 1, none⟩,
   ⟨some 6, .mv (.t 30), none⟩,
   ⟨some 7, .mv (.t 31), none⟩])
 (.seq (.reg [
   ⟨some 32, .fa (.t 2) 7, none⟩,
   ⟨some 33, .ld 1 false (.t 32), none⟩,
   ⟨some 34, .not (.t 33), none⟩,
   ⟨some 35, .mv (.t 34), none⟩,
   ⟨some 36, .fa (.t 3) 7, some (35, true)⟩,
   ⟨some 37, .ld 1 false (.t 36), some (35, true)⟩,
   ⟨some 38, .not (.t 37), some (35, true)⟩,
   ⟨some 39, .pick (.t 35) (.t 38) (.c (.bool false)), none⟩,
   ⟨some 40, .mv (.t 39), none⟩,
   ⟨some 41, .mv (.t 6), some (40, true)⟩,
   ⟨some 42, .pick (.t 40) (.t 41) (.c (.bool false)), none⟩,
   ⟨some 43, .mv (.t 42), none⟩,
   ⟨some 44, .fa (.t 5) 0, some (43, true)⟩,
   ⟨some 45, .ld 1 false (.t 44), some (43, true)⟩,
   ⟨some 46, .bin .neq (.t 45) (.c (.int .i64 0)), some (43, true)⟩,
   ⟨some 47, .mv (.t 46), some (43, true)⟩,
   ⟨some 48, .fa (.t 5) 1, some (47, false)⟩,
   ⟨some 49, .ld 1 false (.t 48), some (47, false)⟩,
   ⟨some 50, .bin .neq (.t 49) (.c (.int .i64 0)), some (47, false)⟩,
   ⟨some 51, .pick (.t 47) (.c (.bool true)) (.t 50), some (43, true)⟩,
   ⟨some 52, .pick (.t 43) (.t 51) (.c (.bool false)), none⟩,
   ⟨some 4, .mv (.t 52), none⟩])
 .ret)))),
  [.tmp 4]⟩
theorem c47 : chkFn Tryz.prog Tryz.f47 a47 = true := by kernel_rfl

/-- (besom/contact.body).gone -/
def a48 : AFn := ⟨1, (.seq (.reg [
   ⟨some 1, .box 106 (.t 0), none⟩,
   ⟨some 2, .mv (.c (.bool false)), none⟩])
 (.seq (.reg [
   ⟨some 3, .fa (.t 1) 0, none⟩,
   ⟨some 4, .fa (.t 3) 2, none⟩,
   ⟨some 5, .fa (.t 4) 0, none⟩,
   ⟨some 6, .fa (.t 5) 0, none⟩,
   ⟨some 7, .ld 1 false (.t 6), none⟩,
   ⟨some 8, .fa (.t 1) 0, none⟩,
   ⟨some 9, .fa (.t 8) 2, none⟩,
   ⟨some 10, .fa (.t 9) 0, none⟩,
   ⟨some 11, .fa (.t 10) 0, none⟩,
   ⟨some 12, .ld 1 false (.t 11), none⟩,
   ⟨some 13, .neg (.t 12), none⟩,
   ⟨some 14, .mx false (.t 7) (.t 13), none⟩,
   ⟨some 15, .bin .geq (.t 14) (.c (.int .i64 146145280)), none⟩,
   ⟨some 16, .mv (.t 15), none⟩,
   ⟨some 17, .fa (.t 1) 0, some (16, false)⟩,
   ⟨some 18, .fa (.t 17) 2, some (16, false)⟩,
   ⟨some 19, .fa (.t 18) 0, some (16, false)⟩,
   ⟨some 20, .fa (.t 19) 1, some (16, false)⟩,
   ⟨some 21, .ld 1 false (.t 20), some (16, false)⟩,
   ⟨some 22, .bin .gtr (.t 21) (.c (.int .i64 129368064)), some (16, false)⟩,
   ⟨some 23, .pick (.t 16) (.c (.bool true)) (.t 22), none⟩,
   ⟨some 24, .mv (.t 23), none⟩,
   ⟨some 25, .fa (.t 1) 0, some (24, false)⟩,
   ⟨some 26, .fa (.t 25) 2, some (24, false)⟩,
   ⟨some 27, .fa (.t 26) 0, some (24, false)⟩,
   ⟨some 28, .fa (.t 27) 1, some (24, false)⟩,
   ⟨some 29, .ld 1 false (.t 28), some (24, false)⟩,
   ⟨some 30, .bin .lss (.t 29) (.c (.int .i64 (-1977417728))), some (24, false)⟩,
   ⟨some 31, .pick (.t 24) (.c (.bool true)) (.t 30), none⟩,
   ⟨some 2, .mv (.t 31), none⟩])
 .ret)),
  [.tmp 2]⟩
theorem c48 : chkFn Tryz.prog Tryz.f48 a48 = true := by kernel_rfl

/-- besom/besomref05.gone -/
def a49 : AFn := ⟨1, (.seq (.reg [
   ⟨some 1, .box 28 (.t 0), none⟩,
   ⟨some 2, .mv (.c (.bool false)), none⟩])
 (.seq (.reg [
   ⟨some 3, .mv (.c (.int .i64 146145280)), none⟩])
 (.seq (.reg [
   ⟨some 4, .fa (.t 1) 2, none⟩,
   ⟨some 5, .fa (.t 4) 0, none⟩,
   ⟨some 6, .fa (.t 5) 0, none⟩,
   ⟨some 7, .ld 1 false (.t 6), none⟩,
   ⟨some 8, .mv (.t 3), none⟩,
   ⟨some 9, .bin .geq (.t 7) (.t 8), none⟩,
   ⟨some 10, .mv (.t 9), none⟩,
   ⟨some 11, .fa (.t 1) 2, some (10, false)⟩,
   ⟨some 12, .fa (.t 11) 0, some (10, false)⟩,
   ⟨some 13, .fa (.t 12) 0, some (10, false)⟩,
   ⟨some 14, .ld 1 false (.t 13), some (10, false)⟩,
   ⟨some 15, .mv (.t 3), some (10, false)⟩,
   ⟨some 16, .neg (.t 15), some (10, false)⟩,
   ⟨some 17, .bin .leq (.t 14) (.t 16), some (10, false)⟩,
   ⟨some 18, .pick (.t 10) (.c (.bool true)) (.t 17), none⟩,
   ⟨some 19, .mv (.t 18), none⟩,
   ⟨some 20, .fa (.t 1) 2, some (19, false)⟩,
   ⟨some 21, .fa (.t 20) 0, some (19, false)⟩,
   ⟨some 22, .fa (.t 21) 1, some (19, false)⟩,
   ⟨some 23, .ld 1 false (.t 22), some (19, false)⟩,
   ⟨some 24, .bin .gtr (.t 23) (.c (.int .i64 129368064)), some (19, false)⟩,
   ⟨some 25, .pick (.t 19) (.c (.bool true)) (.t 24), none⟩,
   ⟨some 26, .mv (.t 25), none⟩,
   ⟨some 27, .fa (.t 1) 2, some (26, false)⟩,
   ⟨some 28, .fa (.t 27) 0, some (26, false)⟩,
   ⟨some 29, .fa (.t 28) 1, some (26, false)⟩,
   ⟨some 30, .ld 1 false (.t 29), some (26, false)⟩,
   ⟨some 31, .bin .lss (.t 30) (.c (.int .i64 (-1977417728))), some (26, false)⟩,
   ⟨some 32, .pick (.t 26) (.c (.bool true)) (.t 31), none⟩,
   ⟨some 2, .mv (.t 32), none⟩])
 .ret))),
  [.tmp 2]⟩
theorem c49 : chkFn Tryz.prog Tryz.f49 a49 = true := by kernel_rfl

/-- besom/contact.within -/
def a50 : AFn := ⟨3, (.seq (.reg [
   ⟨some 6, .mv (.c (.bool false)), none⟩])
 (.seq (.reg [
   ⟨some 7, .mv (.t 1), none⟩,
   ⟨some 8, .mv (.t 0), none⟩,
   ⟨some 9, .bin .leq (.t 7) (.t 8), none⟩,
   ⟨some 10, .mv (.t 9), none⟩,
   ⟨some 11, .mv (.t 0), some (10, true)⟩,
   ⟨some 12, .mv (.t 2), some (10, true)⟩,
   ⟨some 13, .bin .leq (.t 11) (.t 12), some (10, true)⟩,
   ⟨some 14, .pick (.t 10) (.t 13) (.c (.bool false)), none⟩,
   ⟨some 6, .mv (.t 14), none⟩])
 .ret)),
  [.tmp 6]⟩
theorem c50 : chkFn Tryz.prog Tryz.f50 a50 = true := by kernel_rfl

/-- besom/contact.tried -/
def a51 : TFn := ⟨(.reg [
   ⟨some 2, .alloc 29 [(.int .i64 0)], none⟩]), 80, [2], 3,
 (.seq (.reg [
   ⟨some 4, .mv (.t 0), none⟩,
   ⟨some 5, .call (.t 4) [], none⟩])
 (.seq (.reg [
   ⟨none, .st 1 (.t 2) (.c (.int .i64 0)), none⟩])
 .ret)),
  [.cell 2 1 false], 4, 1,
 (.seq (.reg [
   ⟨some 6, .mv (.t 1), none⟩,
   ⟨some 7, .tas 134 [(.int .i64 0)] (.t 6), none⟩,
   ⟨some 5, .mv (.t 7), none⟩,
   ⟨some 8, .ext (.t 5) 0, none⟩,
   ⟨some 9, .ext (.t 5) 1, none⟩,
   ⟨some 2, .alloc 134 [(.int .i64 0)], none⟩,
   ⟨none, .st 1 (.t 2) (.t 8), none⟩,
   ⟨some 3, .mv (.t 9), none⟩])
 (.seq (.reg [
   ⟨some 10, .mv (.t 3), none⟩])
 (.cond (.t 10) (.reg [
    ⟨some 11, .fa (.t 2) 0, none⟩,
    ⟨some 12, .ld 1 false (.t 11), none⟩,
    ⟨none, .st 1 (.t 0) (.t 12), none⟩])
 (.seq (.reg [
    ⟨some 13, .mv (.t 1), none⟩,
    ⟨some 14, .ifn true (.t 13), none⟩])
  (.cond (.t 14) (.reg [
     ⟨some 15, .mv (.t 1), none⟩,
     ⟨none, .pan (.t 15), none⟩])
  .skip)))))⟩
theorem c51 : chkMain Tryz.prog Tryz.f51 a51 = true := by kernel_rfl
theorem d51 : chkDef Tryz.prog Tryz.f80 a51 = true := by kernel_rfl

/-- besom/contact.Meet$1 -/
def a52 : AFn := ⟨4, (.reg [
   ⟨some 4, .ld 8 true (.t 0), none⟩,
   ⟨some 5, .ld 8 true (.t 1), none⟩,
   ⟨some 6, .call (.f 45) [(.t 4), (.t 5)], none⟩,
   ⟨some 7, .mv (.t 6), none⟩,
   ⟨some 8, .ld 1 false (.t 2), some (7, true)⟩,
   ⟨some 9, .call (.f 53) [(.t 0), (.t 1), (.t 8)], some (7, true)⟩,
   ⟨some 10, .pick (.t 7) (.t 9) (.c (.bool false)), none⟩,
   ⟨none, .st 1 (.t 3) (.t 10), none⟩]),
  []⟩
theorem c52 : chkFn Tryz.prog Tryz.f52 a52 = true := by kernel_rfl

/-- besom/contact.meet -/
def a53 : AFn := ⟨3, (.seq (.reg [
   ⟨some 6, .mv (.c (.bool false)), none⟩])
 (.seq (.drw [
   (⟨some 11, .mv (.t 1), none⟩, []),
   (⟨some 12, .nck (.t 11), none⟩, [0]),
   (⟨some 13, .fa (.t 12) 0, none⟩, [1, 0]),
   (⟨some 14, .fa (.t 13) 2, none⟩, [2, 1, 0]),
   (⟨some 15, .fa (.t 14) 0, none⟩, [3, 2, 1, 0]),
   (⟨some 16, .ld 2 true (.t 15), none⟩, [4, 3, 2, 1, 0]),
   (⟨some 17, .mv (.t 0), none⟩, []),
   (⟨some 18, .nck (.t 17), none⟩, [6]),
   (⟨some 19, .fa (.t 18) 0, none⟩, [7, 6]),
   (⟨some 20, .fa (.t 19) 2, none⟩, [8, 7, 6]),
   (⟨some 21, .fa (.t 20) 0, none⟩, [9, 8, 7, 6]),
   (⟨some 22, .ld 2 true (.t 21), none⟩, [10, 9, 8, 7, 6]),
   (⟨some 23, .call (.f 76) [(.t 16), (.t 22)], none⟩, [5, 4, 3, 2, 1, 0, 11, 10, 9, 8, 7, 6]),
   (⟨some 24, .ext (.t 23) 0, none⟩, [12, 5, 4, 3, 2, 1, 0, 11, 10, 9, 8, 7, 6]),
   (⟨some 25, .ext (.t 23) 1, none⟩, [12, 5, 4, 3, 2, 1, 0, 11, 10, 9, 8, 7, 6]),
   (⟨some 26, .call (.f 81) [(.t 24), (.t 25)], none⟩, [13, 12, 5, 4, 3, 2, 1, 0, 11, 10, 9, 8, 7, 6, 14]),
   (⟨some 27, .call (.f 82) [(.t 26)], none⟩, [15, 13, 12, 5, 4, 3, 2, 1, 0, 11, 10, 9, 8, 7, 6, 14]),
   (⟨some 28, .ext (.t 27) 0, none⟩, [16, 15, 13, 12, 5, 4, 3, 2, 1, 0, 11, 10, 9, 8, 7, 6, 14]),
   (⟨some 29, .ext (.t 27) 1, none⟩, [16, 15, 13, 12, 5, 4, 3, 2, 1, 0, 11, 10, 9, 8, 7, 6, 14]),
   (⟨some 30, .call (.f 81) [(.t 28), (.t 29)], none⟩, [17, 16, 15, 13, 12, 5, 4, 3, 2, 1, 0, 11, 10, 9, 8, 7, 6, 14, 18]),
   (⟨some 7, .alloc 24 [(.int .i64 0), (.int .i64 0)], none⟩, []),
   (⟨none, .st 2 (.t 7) (.t 30), none⟩, [20, 19, 17, 16, 15, 13, 12, 5, 4, 3, 2, 1, 0, 11, 10, 9, 8, 7, 6, 14, 18])])
 (.seq (.drw [
   (⟨some 31, .mv (.t 0), none⟩, []),
   (⟨some 32, .nck (.t 31), none⟩, [0]),
   (⟨some 33, .fa (.t 32) 0, none⟩, [1, 0]),
   (⟨some 34, .fa (.t 33) 2, none⟩, [2, 1, 0]),
   (⟨some 35, .fa (.t 34) 2, none⟩, [3, 2, 1, 0]),
   (⟨some 36, .ld 2 true (.t 35), none⟩, [4, 3, 2, 1, 0]),
   (⟨some 37, .mv (.t 1), none⟩, []),
   (⟨some 38, .nck (.t 37), none⟩, [6]),
   (⟨some 39, .fa (.t 38) 0, none⟩, [7, 6]),
   (⟨some 40, .fa (.t 39) 2, none⟩, [8, 7, 6]),
   (⟨some 41, .fa (.t 40) 2, none⟩, [9, 8, 7, 6]),
   (⟨some 42, .ld 2 true (.t 41), none⟩, [10, 9, 8, 7, 6]),
   (⟨some 43, .call (.f 76) [(.t 36), (.t 42)], none⟩, [5, 4, 3, 2, 1, 0, 11, 10, 9, 8, 7, 6]),
   (⟨some 44, .ext (.t 43) 0, none⟩, [12, 5, 4, 3, 2, 1, 0, 11, 10, 9, 8, 7, 6]),
   (⟨some 45, .ext (.t 43) 1, none⟩, [12, 5, 4, 3, 2, 1, 0, 11, 10, 9, 8, 7, 6]),
   (⟨some 46, .call (.f 81) [(.t 44), (.t 45)], none⟩, [13, 12, 5, 4, 3, 2, 1, 0, 11, 10, 9, 8, 7, 6, 14]),
   (⟨some 8, .alloc 24 [(.int .i64 0), (.int .i64 0)], none⟩, []),
   (⟨none, .st 2 (.t 8) (.t 46), none⟩, [16, 15, 13, 12, 5, 4, 3, 2, 1, 0, 11, 10, 9, 8, 7, 6, 14])])
 (.seq (.reg [
   ⟨some 47, .ld 2 true (.t 8), none⟩,
   ⟨some 48, .ld 2 true (.t 7), none⟩,
   ⟨some 49, .call (.f 84) [(.t 47), (.t 48), (.c (.int .i64 1))], none⟩,
   ⟨some 50, .ext (.t 49) 0, none⟩,
   ⟨some 51, .ext (.t 49) 1, none⟩,
   ⟨some 52, .call (.f 83) [(.t 50), (.t 51)], none⟩,
   ⟨some 9, .mv (.t 52), none⟩])
 (.seq (.seq (.reg [
   ⟨some 53, .mv (.t 9), none⟩,
   ⟨some 54, .bin .leq (.t 53) (.c (.int .i64 0)), none⟩])
 (.cond (.t 54) (.seq (.reg [
    ⟨some 6, .mv (.c (.bool false)), none⟩])
  .ret)
 .skip))
 (.seq (.drw [
   (⟨some 55, .ld 2 true (.t 7), none⟩, []),
   (⟨some 56, .mv (.t 9), none⟩, []),
   (⟨some 57, .mv (.t 2), none⟩, []),
   (⟨some 58, .bin .add (.c (.int .i64 1000)) (.t 57), none⟩, [2]),
   (⟨some 59, .call (.f 86) [(.t 56), (.t 58), (.c (.int .i64 2000)), (.c (.int .i64 0))], none⟩, [1, 3, 2]),
   (⟨some 60, .ext (.t 59) 0, none⟩, [4, 1, 3, 2]),
   (⟨some 61, .ext (.t 59) 1, none⟩, [4, 1, 3, 2]),
   (⟨some 62, .call (.f 83) [(.t 60), (.t 61)], none⟩, [5, 4, 1, 3, 2, 6]),
   (⟨some 63, .call (.f 85) [(.t 55), (.t 62), (.c (.int .i64 0))], none⟩, [0, 7, 5, 4, 1, 3, 2, 6]),
   (⟨some 64, .ext (.t 63) 0, none⟩, [8, 0, 7, 5, 4, 1, 3, 2, 6]),
   (⟨some 65, .ext (.t 63) 1, none⟩, [8, 0, 7, 5, 4, 1, 3, 2, 6]),
   (⟨some 66, .call (.f 81) [(.t 64), (.t 65)], none⟩, [9, 8, 0, 7, 5, 4, 1, 3, 2, 6, 10]),
   (⟨some 10, .alloc 24 [(.int .i64 0), (.int .i64 0)], none⟩, []),
   (⟨none, .st 2 (.t 10) (.t 66), none⟩, [12, 11, 9, 8, 0, 7, 5, 4, 1, 3, 2, 6, 10])])
 (.seq (.drw [
   (⟨some 67, .mv (.t 0), none⟩, []),
   (⟨some 68, .mv (.t 0), none⟩, []),
   (⟨some 69, .nck (.t 68), none⟩, [1]),
   (⟨some 70, .fa (.t 69) 0, none⟩, [2, 1]),
   (⟨some 71, .fa (.t 70) 2, none⟩, [3, 2, 1]),
   (⟨some 72, .fa (.t 71) 2, none⟩, [4, 3, 2, 1]),
   (⟨some 73, .ld 2 true (.t 72), none⟩, [5, 4, 3, 2, 1]),
   (⟨some 74, .ld 2 true (.t 10), none⟩, []),
   (⟨some 75, .call (.f 76) [(.t 73), (.t 74)], none⟩, [6, 5, 4, 3, 2, 1, 7]),
   (⟨some 76, .ext (.t 75) 0, none⟩, [8, 6, 5, 4, 3, 2, 1, 7]),
   (⟨some 77, .ext (.t 75) 1, none⟩, [8, 6, 5, 4, 3, 2, 1, 7]),
   (⟨some 78, .call (.f 81) [(.t 76), (.t 77)], none⟩, [9, 8, 6, 5, 4, 3, 2, 1, 7, 10]),
   (⟨some 79, .nck (.t 67), none⟩, [0, 1, 2, 3, 4, 5, 6, 7, 8, 9, 10, 11]),
   (⟨some 80, .fa (.t 79) 0, none⟩, [12, 0, 1, 2, 3, 4, 5, 6, 7, 8, 9, 10, 11]),
   (⟨some 81, .fa (.t 80) 2, none⟩, [13, 12, 0, 1, 2, 3, 4, 5, 6, 7, 8, 9, 10, 11]),
   (⟨some 82, .fa (.t 81) 2, none⟩, [14, 13, 12, 0, 1, 2, 3, 4, 5, 6, 7, 8, 9, 10, 11]),
   (⟨none, .st 2 (.t 82) (.t 78), none⟩, [15, 14, 13, 12, 0, 1, 2, 3, 4, 5, 6, 7, 8, 9, 10, 11])])
 (.seq (.drw [
   (⟨some 83, .mv (.t 1), none⟩, []),
   (⟨some 84, .mv (.t 1), none⟩, []),
   (⟨some 85, .nck (.t 84), none⟩, [1]),
   (⟨some 86, .fa (.t 85) 0, none⟩, [2, 1]),
   (⟨some 87, .fa (.t 86) 2, none⟩, [3, 2, 1]),
   (⟨some 88, .fa (.t 87) 2, none⟩, [4, 3, 2, 1]),
   (⟨some 89, .ld 2 true (.t 88), none⟩, [5, 4, 3, 2, 1]),
   (⟨some 90, .ld 2 true (.t 10), none⟩, []),
   (⟨some 91, .call (.f 57) [(.t 89), (.t 90)], none⟩, [6, 5, 4, 3, 2, 1, 7]),
   (⟨some 92, .ext (.t 91) 0, none⟩, [8, 6, 5, 4, 3, 2, 1, 7]),
   (⟨some 93, .ext (.t 91) 1, none⟩, [8, 6, 5, 4, 3, 2, 1, 7]),
   (⟨some 94, .call (.f 81) [(.t 92), (.t 93)], none⟩, [9, 8, 6, 5, 4, 3, 2, 1, 7, 10]),
   (⟨some 95, .nck (.t 83), none⟩, [0, 1, 2, 3, 4, 5, 6, 7, 8, 9, 10, 11]),
   (⟨some 96, .fa (.t 95) 0, none⟩, [12, 0, 1, 2, 3, 4, 5, 6, 7, 8, 9, 10, 11]),
   (⟨some 97, .fa (.t 96) 2, none⟩, [13, 12, 0, 1, 2, 3, 4, 5, 6, 7, 8, 9, 10, 11]),
   (⟨some 98, .fa (.t 97) 2, none⟩, [14, 13, 12, 0, 1, 2, 3, 4, 5, 6, 7, 8, 9, 10, 11]),
   (⟨none, .st 2 (.t 98) (.t 94), none⟩, [15, 14, 13, 12, 0, 1, 2, 3, 4, 5, 6, 7, 8, 9, 10, 11])])
 (.seq (.seq (.reg [
   ⟨some 99, .mv (.t 0), none⟩,
   ⟨some 100, .nck (.t 99), none⟩,
   ⟨some 101, .ld 8 true (.t 100), none⟩,
   ⟨some 102, .call (.f 44) [(.t 101)], none⟩,
   ⟨some 103, .not (.t 102), none⟩,
   ⟨some 104, .mv (.t 103), none⟩,
   ⟨some 105, .mv (.t 1), some (104, false)⟩,
   ⟨some 106, .nck (.t 105), some (104, false)⟩,
   ⟨some 107, .ld 8 true (.t 106), some (104, false)⟩,
   ⟨some 108, .call (.f 44) [(.t 107)], some (104, false)⟩,
   ⟨some 109, .not (.t 108), some (104, false)⟩,
   ⟨some 110, .pick (.t 104) (.c (.bool true)) (.t 109), none⟩])
 (.cond (.t 110) (.reg [
    ⟨some 111, .bld [(.int .i64 0)] [(0, 1, (.c (.int .i64 4)))], none⟩,
    ⟨some 112, .mki 134 (.t 111), none⟩,
    ⟨none, .pan (.t 112), none⟩])
 .skip))
 (.seq (.reg [
   ⟨some 6, .mv (.c (.bool true)), none⟩])
 .ret)))))))))),
  [.tmp 6]⟩
theorem c53 : chkFn Tryz.prog Tryz.f53 a53 = true := by kernel_rfl

/-- besom/besomref05.in -/
def a54 : AFn := ⟨3, (.seq (.reg [
   ⟨some 6, .mv (.c (.bool false)), none⟩])
 (.seq (.reg [
   ⟨some 7, .mv (.t 0), none⟩,
   ⟨some 8, .mv (.t 1), none⟩,
   ⟨some 9, .mv (.t 2), none⟩,
   ⟨some 10, .call (.f 87) [(.t 7), (.t 8), (.t 9)], none⟩,
   ⟨some 6, .mv (.t 10), none⟩])
 .ret)),
  [.tmp 6]⟩
theorem c54 : chkFn Tryz.prog Tryz.f54 a54 = true := by kernel_rfl

/-- besom/besomref05.meet -/
def a55 : AFn := ⟨3, (.seq (.reg [
   ⟨some 3, .box 28 (.t 0), none⟩,
   ⟨some 4, .box 28 (.t 1), none⟩,
   ⟨some 6, .alloc 39 [(.int .i64 0), (.int .i64 0), (.int .i64 0), (.int .i64 0), (.int .i64 0), (.int .i64 0), (.int .i64 0), (.bool false), (.int .i64 0), (.int .i64 0), (.int .i64 0), (.int .i64 0), (.int .i64 0), (.int .i64 0), (.int .i64 0), (.bool false), (.bool false)], none⟩,
   ⟨some 7, .mv (.c (.int .i64 0)), none⟩])
 (.seq (.reg [
   ⟨some 20, .fa (.t 4) 2, none⟩,
   ⟨some 21, .fa (.t 20) 0, none⟩,
   ⟨some 22, .fa (.t 21) 0, none⟩,
   ⟨some 23, .ld 1 false (.t 22), none⟩,
   ⟨some 24, .fa (.t 3) 2, none⟩,
   ⟨some 25, .fa (.t 24) 0, none⟩,
   ⟨some 26, .fa (.t 25) 0, none⟩,
   ⟨some 27, .ld 1 false (.t 26), none⟩,
   ⟨some 28, .bin .sub (.t 23) (.t 27), none⟩,
   ⟨some 29, .fa (.t 4) 2, none⟩,
   ⟨some 30, .fa (.t 29) 0, none⟩,
   ⟨some 31, .fa (.t 30) 1, none⟩,
   ⟨some 32, .ld 1 false (.t 31), none⟩,
   ⟨some 33, .fa (.t 3) 2, none⟩,
   ⟨some 34, .fa (.t 33) 0, none⟩,
   ⟨some 35, .fa (.t 34) 1, none⟩,
   ⟨some 36, .ld 1 false (.t 35), none⟩,
   ⟨some 37, .bin .sub (.t 32) (.t 36), none⟩,
   ⟨some 38, .bld [(.int .i64 0), (.int .i64 0)] [(0, 1, (.t 28)), (1, 1, (.t 37))], none⟩,
   ⟨some 39, .call (.f 88) [(.t 38)], none⟩,
   ⟨some 19, .mv (.t 39), none⟩,
   ⟨some 40, .ext (.t 19) 0, none⟩,
   ⟨some 41, .ext (.t 19) 1, none⟩,
   ⟨some 8, .alloc 24 [(.int .i64 0), (.int .i64 0)], none⟩,
   ⟨none, .st 2 (.t 8) (.t 40), none⟩,
   ⟨some 9, .mv (.t 41), none⟩])
 (.seq (.reg [
   ⟨some 42, .fa (.t 3) 2, none⟩,
   ⟨some 43, .fa (.t 42) 2, none⟩,
   ⟨some 44, .fa (.t 43) 0, none⟩,
   ⟨some 45, .ld 1 false (.t 44), none⟩,
   ⟨some 46, .fa (.t 4) 2, none⟩,
   ⟨some 47, .fa (.t 46) 2, none⟩,
   ⟨some 48, .fa (.t 47) 0, none⟩,
   ⟨some 49, .ld 1 false (.t 48), none⟩,
   ⟨some 50, .bin .sub (.t 45) (.t 49), none⟩,
   ⟨some 51, .fa (.t 3) 2, none⟩,
   ⟨some 52, .fa (.t 51) 2, none⟩,
   ⟨some 53, .fa (.t 52) 1, none⟩,
   ⟨some 54, .ld 1 false (.t 53), none⟩,
   ⟨some 55, .fa (.t 4) 2, none⟩,
   ⟨some 56, .fa (.t 55) 2, none⟩,
   ⟨some 57, .fa (.t 56) 1, none⟩,
   ⟨some 58, .ld 1 false (.t 57), none⟩,
   ⟨some 59, .bin .sub (.t 54) (.t 58), none⟩,
   ⟨some 60, .bld [(.int .i64 0), (.int .i64 0)] [(0, 1, (.t 50)), (1, 1, (.t 59))], none⟩,
   ⟨some 10, .alloc 24 [(.int .i64 0), (.int .i64 0)], none⟩,
   ⟨none, .st 2 (.t 10) (.t 60), none⟩])
 (.seq (.reg [
   ⟨some 62, .ld 2 true (.t 10), none⟩,
   ⟨some 63, .ld 2 true (.t 8), none⟩,
   ⟨some 64, .call (.f 89) [(.t 62), (.t 63), (.c (.int .i64 1))], none⟩,
   ⟨some 61, .mv (.t 64), none⟩,
   ⟨some 65, .ext (.t 61) 0, none⟩,
   ⟨some 66, .ext (.t 61) 1, none⟩,
   ⟨some 11, .mv (.t 65), none⟩,
   ⟨some 12, .mv (.t 66), none⟩])
 (.seq (.seq (.reg [
   ⟨some 67, .mv (.t 11), none⟩,
   ⟨some 68, .bin .leq (.t 67) (.c (.int .i64 0)), none⟩])
 (.cond (.t 68) (.seq (.reg [
    ⟨some 69, .ld 8 true (.t 3), none⟩,
    ⟨some 70, .ld 8 true (.t 4), none⟩,
    ⟨some 71, .bld [(.int .i64 0), (.int .i64 0), (.int .i64 0), (.int .i64 0), (.int .i64 0), (.int .i64 0), (.int .i64 0), (.bool false), (.int .i64 0), (.int .i64 0), (.int .i64 0), (.int .i64 0), (.int .i64 0), (.int .i64 0), (.int .i64 0), (.bool false), (.bool false)] [(0, 8, (.t 69)), (8, 8, (.t 70))], none⟩,
    ⟨none, .st 17 (.t 6) (.t 71), none⟩,
    ⟨some 7, .mv (.c (.int .i64 0)), none⟩])
  .ret)
 .skip))
 (.seq (.reg [
   ⟨some 73, .mv (.t 11), none⟩,
   ⟨some 74, .mv (.t 2), none⟩,
   ⟨some 75, .bin .add (.c (.int .i64 1000)) (.t 74), none⟩,
   ⟨some 76, .call (.f 90) [(.t 73), (.t 75), (.c (.int .i64 2000)), (.c (.int .i64 0))], none⟩,
   ⟨some 72, .mv (.t 76), none⟩,
   ⟨some 77, .ext (.t 72) 0, none⟩,
   ⟨some 78, .ext (.t 72) 1, none⟩,
   ⟨some 13, .mv (.t 77), none⟩,
   ⟨some 14, .mv (.t 78), none⟩])
 (.seq (.reg [
   ⟨some 80, .ld 2 true (.t 8), none⟩,
   ⟨some 81, .mv (.t 13), none⟩,
   ⟨some 82, .call (.f 91) [(.t 80), (.t 81), (.c (.int .i64 0))], none⟩,
   ⟨some 79, .mv (.t 82), none⟩,
   ⟨some 83, .ext (.t 79) 0, none⟩,
   ⟨some 84, .ext (.t 79) 1, none⟩,
   ⟨some 15, .alloc 24 [(.int .i64 0), (.int .i64 0)], none⟩,
   ⟨none, .st 2 (.t 15) (.t 83), none⟩,
   ⟨some 16, .mv (.t 84), none⟩])
 (.seq (.reg [
   ⟨some 85, .fa (.t 3) 2, none⟩,
   ⟨some 86, .fa (.t 85) 2, none⟩,
   ⟨some 87, .fa (.t 86) 0, none⟩,
   ⟨some 88, .ld 1 false (.t 87), none⟩,
   ⟨some 89, .fa (.t 15) 0, none⟩,
   ⟨some 90, .ld 1 false (.t 89), none⟩,
   ⟨some 91, .bin .sub (.t 88) (.t 90), none⟩,
   ⟨some 92, .fa (.t 3) 2, none⟩,
   ⟨some 93, .fa (.t 92) 2, none⟩,
   ⟨some 94, .fa (.t 93) 1, none⟩,
   ⟨some 95, .ld 1 false (.t 94), none⟩,
   ⟨some 96, .fa (.t 15) 1, none⟩,
   ⟨some 97, .ld 1 false (.t 96), none⟩,
   ⟨some 98, .bin .sub (.t 95) (.t 97), none⟩,
   ⟨some 99, .bld [(.int .i64 0), (.int .i64 0)] [(0, 1, (.t 91)), (1, 1, (.t 98))], none⟩,
   ⟨some 100, .fa (.t 3) 2, none⟩,
   ⟨some 101, .fa (.t 100) 2, none⟩,
   ⟨none, .st 2 (.t 101) (.t 99), none⟩])
 (.seq (.reg [
   ⟨some 102, .fa (.t 4) 2, none⟩,
   ⟨some 103, .fa (.t 102) 2, none⟩,
   ⟨some 104, .fa (.t 103) 0, none⟩,
   ⟨some 105, .ld 1 false (.t 104), none⟩,
   ⟨some 106, .fa (.t 15) 0, none⟩,
   ⟨some 107, .ld 1 false (.t 106), none⟩,
   ⟨some 108, .bin .add (.t 105) (.t 107), none⟩,
   ⟨some 109, .fa (.t 4) 2, none⟩,
   ⟨some 110, .fa (.t 109) 2, none⟩,
   ⟨some 111, .fa (.t 110) 1, none⟩,
   ⟨some 112, .ld 1 false (.t 111), none⟩,
   ⟨some 113, .fa (.t 15) 1, none⟩,
   ⟨some 114, .ld 1 false (.t 113), none⟩,
   ⟨some 115, .bin .add (.t 112) (.t 114), none⟩,
   ⟨some 116, .bld [(.int .i64 0), (.int .i64 0)] [(0, 1, (.t 108)), (1, 1, (.t 115))], none⟩,
   ⟨some 117, .fa (.t 4) 2, none⟩,
   ⟨some 118, .fa (.t 117) 2, none⟩,
   ⟨none, .st 2 (.t 118) (.t 116), none⟩])
 (.seq (.reg [
   ⟨some 119, .ld 8 true (.t 3), none⟩,
   ⟨some 120, .call (.f 46) [(.t 119)], none⟩,
   ⟨some 17, .mv (.t 120), none⟩])
 (.seq (.reg [
   ⟨some 121, .ld 8 true (.t 4), none⟩,
   ⟨some 122, .call (.f 46) [(.t 121)], none⟩,
   ⟨some 18, .mv (.t 122), none⟩])
 (.seq (.seq (.reg [
   ⟨some 123, .mv (.t 17), none⟩,
   ⟨some 124, .not (.t 123), none⟩,
   ⟨some 125, .mv (.t 124), none⟩,
   ⟨some 126, .mv (.t 18), some (125, false)⟩,
   ⟨some 127, .not (.t 126), some (125, false)⟩,
   ⟨some 128, .pick (.t 125) (.c (.bool true)) (.t 127), none⟩])
 (.cond (.t 128) (.seq (.reg [
    ⟨some 129, .bld [(.int .i64 0), (.int .i64 0), (.int .i64 0), (.int .i64 0), (.int .i64 0), (.int .i64 0), (.int .i64 0), (.bool false), (.int .i64 0), (.int .i64 0), (.int .i64 0), (.int .i64 0), (.int .i64 0), (.int .i64 0), (.int .i64 0), (.bool false), (.bool false)] [], none⟩,
    ⟨none, .st 17 (.t 6) (.t 129), none⟩,
    ⟨some 7, .mv (.c (.int .i64 4)), none⟩])
  .ret)
 .skip))
 (.seq (.reg [
   ⟨some 130, .ld 8 true (.t 3), none⟩,
   ⟨some 131, .ld 8 true (.t 4), none⟩,
   ⟨some 132, .bld [(.int .i64 0), (.int .i64 0), (.int .i64 0), (.int .i64 0), (.int .i64 0), (.int .i64 0), (.int .i64 0), (.bool false), (.int .i64 0), (.int .i64 0), (.int .i64 0), (.int .i64 0), (.int .i64 0), (.int .i64 0), (.int .i64 0), (.bool false), (.bool false)] [(0, 8, (.t 130)), (8, 8, (.t 131)), (16, 1, (.c (.bool true)))], none⟩,
   ⟨none, .st 17 (.t 6) (.t 132), none⟩,
   ⟨some 7, .mv (.c (.int .i64 0)), none⟩])
 .ret))))))))))))),
  [.cell 6 17 true, .tmp 7]⟩
theorem c55 : chkFn Tryz.prog Tryz.f55 a55 = true := by kernel_rfl

/-- besom/besomlaw05.body -/
def a56 : AFn := ⟨3, (.seq (.reg [
   ⟨some 6, .alloc 28 [(.int .i64 0), (.int .i64 0), (.int .i64 0), (.int .i64 0), (.int .i64 0), (.int .i64 0), (.int .i64 0), (.bool false)], none⟩])
 (.seq (.reg [
   ⟨some 7, .mv (.t 0), none⟩,
   ⟨some 8, .mv (.t 1), none⟩,
   ⟨some 9, .bld [(.int .i64 0), (.int .i64 0)] [(1, 1, (.t 8))], none⟩,
   ⟨some 10, .mv (.t 2), none⟩,
   ⟨some 11, .bld [(.int .i64 0), (.int .i64 0)] [(1, 1, (.t 10))], none⟩,
   ⟨some 12, .bld [(.int .i64 0), (.int .i64 0), (.int .i64 0), (.int .i64 0), (.int .i64 0)] [(0, 2, (.t 9)), (2, 2, (.t 11))], none⟩,
   ⟨some 13, .bld [(.int .i64 0), (.int .i64 0), (.int .i64 0), (.int .i64 0), (.int .i64 0), (.int .i64 0), (.int .i64 0), (.bool false)] [(0, 1, (.t 7)), (2, 5, (.t 12))], none⟩,
   ⟨none, .st 8 (.t 6) (.t 13), none⟩])
 .ret)),
  [.cell 6 8 true]⟩
theorem c56 : chkFn Tryz.prog Tryz.f56 a56 = true := by kernel_rfl

/-- besom/fixed.Plus -/
def a57 : AFn := ⟨2, (.seq (.reg [
   ⟨some 2, .box 24 (.t 0), none⟩,
   ⟨some 3, .box 24 (.t 1), none⟩,
   ⟨some 4, .alloc 24 [(.int .i64 0), (.int .i64 0)], none⟩,
   ⟨some 5, .mv (.c (.int .i64 0)), none⟩])
 (.seq (.reg [
   ⟨some 6, .ld 2 true (.t 2), none⟩,
   ⟨some 7, .ld 2 true (.t 3), none⟩,
   ⟨some 8, .call (.f 92) [(.t 6), (.t 7), (.f 93)], none⟩,
   ⟨some 9, .ext (.t 8) 0, none⟩,
   ⟨some 10, .ext (.t 8) 1, none⟩,
   ⟨none, .st 2 (.t 4) (.t 9), none⟩,
   ⟨some 5, .mv (.t 10), none⟩])
 .ret)),
  [.cell 4 2 true, .tmp 5]⟩
theorem c57 : chkFn Tryz.prog Tryz.f57 a57 = true := by kernel_rfl

/-- (besom/contact.body).rests -/
def a62 : AFn := ⟨1, (.seq (.reg [
   ⟨some 1, .box 106 (.t 0), none⟩,
   ⟨some 2, .mv (.c (.bool false)), none⟩])
 (.seq (.reg [
   ⟨some 3, .fa (.t 1) 0, none⟩,
   ⟨some 4, .fa (.t 3) 2, none⟩,
   ⟨some 5, .fa (.t 4) 2, none⟩,
   ⟨some 6, .ld 2 true (.t 5), none⟩,
   ⟨some 7, .bld [(.int .i64 0), (.int .i64 0)] [], none⟩,
   ⟨some 8, .eqa false [.int .i64, .int .i64] (.t 6) (.t 7), none⟩,
   ⟨some 2, .mv (.t 8), none⟩])
 .ret)),
  [.tmp 2]⟩
theorem c62 : chkFn Tryz.prog Tryz.f62 a62 = true := by kernel_rfl

/-- besom/glide.Check -/
def a75 : AFn := ⟨1, (.seq (.reg [
   ⟨some 1, .box 26 (.t 0), none⟩,
   ⟨some 2, .mv (.c (.int .i64 0)), none⟩])
 (.seq (.seq (.reg [
   ⟨some 3, .fa (.t 1) 0, none⟩,
   ⟨some 4, .ld 2 true (.t 3), none⟩,
   ⟨some 5, .call (.f 119) [(.t 4), (.c (.int .i64 6553600000))], none⟩,
   ⟨some 6, .not (.t 5), none⟩,
   ⟨some 7, .mv (.t 6), none⟩,
   ⟨some 8, .fa (.t 1) 2, some (7, false)⟩,
   ⟨some 9, .ld 2 true (.t 8), some (7, false)⟩,
   ⟨some 10, .call (.f 119) [(.t 9), (.c (.int .i64 65536000))], some (7, false)⟩,
   ⟨some 11, .not (.t 10), some (7, false)⟩,
   ⟨some 12, .pick (.t 7) (.c (.bool true)) (.t 11), none⟩,
   ⟨some 13, .mv (.t 12), none⟩,
   ⟨some 14, .fa (.t 1) 4, some (13, false)⟩,
   ⟨some 15, .ld 1 false (.t 14), some (13, false)⟩,
   ⟨some 16, .call (.f 120) [(.t 15), (.c (.int .i64 (-1000))), (.c (.int .i64 1000))], some (13, false)⟩,
   ⟨some 17, .not (.t 16), some (13, false)⟩,
   ⟨some 18, .pick (.t 13) (.c (.bool true)) (.t 17), none⟩])
 (.cond (.t 18) (.seq (.reg [
    ⟨some 2, .mv (.c (.int .i64 2)), none⟩])
  .ret)
 .skip))
 (.seq (.reg [
   ⟨some 2, .mv (.c (.int .i64 0)), none⟩])
 .ret))),
  [.tmp 2]⟩
theorem c75 : chkFn Tryz.prog Tryz.f75 a75 = true := by kernel_rfl

/-- besom/fixed.Minus -/
def a76 : AFn := ⟨2, (.seq (.reg [
   ⟨some 2, .box 24 (.t 0), none⟩,
   ⟨some 3, .box 24 (.t 1), none⟩,
   ⟨some 4, .alloc 24 [(.int .i64 0), (.int .i64 0)], none⟩,
   ⟨some 5, .mv (.c (.int .i64 0)), none⟩])
 (.seq (.reg [
   ⟨some 6, .ld 2 true (.t 2), none⟩,
   ⟨some 7, .ld 2 true (.t 3), none⟩,
   ⟨some 8, .call (.f 92) [(.t 6), (.t 7), (.f 121)], none⟩,
   ⟨some 9, .ext (.t 8) 0, none⟩,
   ⟨some 10, .ext (.t 8) 1, none⟩,
   ⟨none, .st 2 (.t 4) (.t 9), none⟩,
   ⟨some 5, .mv (.t 10), none⟩])
 .ret)),
  [.cell 4 2 true, .tmp 5]⟩
theorem c76 : chkFn Tryz.prog Tryz.f76 a76 = true := by kernel_rfl

/-- besom/fixed.Within -/
def a77 : AFn := ⟨2, (.seq (.reg [
   ⟨some 2, .box 24 (.t 0), none⟩,
   ⟨some 3, .box 22 (.t 1), none⟩,
   ⟨some 4, .mv (.c (.bool false)), none⟩,
   ⟨some 5, .mv (.c (.int .i64 0)), none⟩])
 (.seq (.reg [
   ⟨some 6, .mkf 123 [] [(.t 2), (.t 3)], none⟩,
   ⟨some 7, .call (.f 122) [(.t 6)], none⟩,
   ⟨some 8, .ext (.t 7) 0, none⟩,
   ⟨some 9, .ext (.t 7) 1, none⟩,
   ⟨some 4, .mv (.t 8), none⟩,
   ⟨some 5, .mv (.t 9), none⟩])
 .ret)),
  [.tmp 4, .tmp 5]⟩
theorem c77 : chkFn Tryz.prog Tryz.f77 a77 = true := by kernel_rfl

/-- besom/besomref04.Moving -/
def a78 : AFn := ⟨1, (.seq (.reg [
   ⟨some 1, .box 26 (.t 0), none⟩,
   ⟨some 2, .mv (.c (.bool false)), none⟩])
 (.seq (.reg [
   ⟨some 5, .fa (.t 1) 2, none⟩,
   ⟨some 6, .fa (.t 5) 0, none⟩,
   ⟨some 7, .ld 1 false (.t 6), none⟩,
   ⟨some 8, .bin .geq (.t 7) (.c (.int .i64 (-65536000))), none⟩,
   ⟨some 9, .mv (.t 8), none⟩,
   ⟨some 10, .fa (.t 1) 2, some (9, true)⟩,
   ⟨some 11, .fa (.t 10) 0, some (9, true)⟩,
   ⟨some 12, .ld 1 false (.t 11), some (9, true)⟩,
   ⟨some 13, .bin .leq (.t 12) (.c (.int .i64 65536000)), some (9, true)⟩,
   ⟨some 14, .pick (.t 9) (.t 13) (.c (.bool false)), none⟩,
   ⟨some 3, .mv (.t 14), none⟩])
 (.seq (.reg [
   ⟨some 15, .fa (.t 1) 2, none⟩,
   ⟨some 16, .fa (.t 15) 1, none⟩,
   ⟨some 17, .ld 1 false (.t 16), none⟩,
   ⟨some 18, .bin .geq (.t 17) (.c (.int .i64 (-65536000))), none⟩,
   ⟨some 19, .mv (.t 18), none⟩,
   ⟨some 20, .fa (.t 1) 2, some (19, true)⟩,
   ⟨some 21, .fa (.t 20) 1, some (19, true)⟩,
   ⟨some 22, .ld 1 false (.t 21), some (19, true)⟩,
   ⟨some 23, .bin .leq (.t 22) (.c (.int .i64 65536000)), some (19, true)⟩,
   ⟨some 24, .pick (.t 19) (.t 23) (.c (.bool false)), none⟩,
   ⟨some 4, .mv (.t 24), none⟩])
 (.seq (.reg [
   ⟨some 25, .mv (.t 3), none⟩,
   ⟨some 26, .mv (.t 25), none⟩,
   ⟨some 27, .mv (.t 4), some (26, true)⟩,
   ⟨some 28, .pick (.t 26) (.t 27) (.c (.bool false)), none⟩,
   ⟨some 29, .mv (.t 28), none⟩,
   ⟨some 30, .fa (.t 1) 0, some (29, true)⟩,
   ⟨some 31, .ld 2 true (.t 30), some (29, true)⟩,
   ⟨some 32, .call (.f 127) [(.t 31)], some (29, true)⟩,
   ⟨some 33, .pick (.t 29) (.t 32) (.c (.bool false)), none⟩,
   ⟨some 34, .mv (.t 33), none⟩,
   ⟨some 35, .fa (.t 1) 4, some (34, true)⟩,
   ⟨some 36, .ld 1 false (.t 35), some (34, true)⟩,
   ⟨some 37, .call (.f 115) [(.t 36), (.c (.int .i64 (-1000))), (.c (.int .i64 1000))], some (34, true)⟩,
   ⟨some 38, .pick (.t 34) (.t 37) (.c (.bool false)), none⟩,
   ⟨some 2, .mv (.t 38), none⟩])
 .ret)))),
  [.tmp 2]⟩
theorem c78 : chkFn Tryz.prog Tryz.f78 a78 = true := by kernel_rfl

/-- besom/besomref01.Within -/
def a79 : AFn := ⟨2, (.seq (.reg [
   ⟨some 2, .box 24 (.t 0), none⟩,
   ⟨some 4, .mv (.c (.bool false)), none⟩,
   ⟨some 5, .mv (.c (.int .i64 0)), none⟩])
 (.seq (.reg [
   ⟨some 9, .ld 2 true (.t 2), none⟩,
   ⟨some 10, .call (.f 128) [(.t 9)], none⟩,
   ⟨some 6, .mv (.t 10), none⟩])
 (.seq (.reg [
   ⟨some 11, .mv (.t 1), none⟩,
   ⟨some 12, .call (.f 129) [(.t 11)], none⟩,
   ⟨some 7, .mv (.t 12), none⟩])
 (.seq (.seq (.reg [
   ⟨some 13, .mv (.t 6), none⟩,
   ⟨some 14, .not (.t 13), none⟩,
   ⟨some 15, .mv (.t 14), none⟩,
   ⟨some 16, .mv (.t 7), some (15, false)⟩,
   ⟨some 17, .not (.t 16), some (15, false)⟩,
   ⟨some 18, .pick (.t 15) (.c (.bool true)) (.t 17), none⟩])
 (.cond (.t 18) (.seq (.reg [
    ⟨some 4, .mv (.c (.bool false)), none⟩,
    ⟨some 5, .mv (.c (.int .i64 2)), none⟩])
  .ret)
 .skip))
 (.seq (.reg [
   ⟨some 19, .mv (.t 1), none⟩,
   ⟨some 20, .call (.f 131) [(.t 19)], none⟩,
   ⟨some 21, .call (.f 130) [(.t 20)], none⟩,
   ⟨some 8, .mv (.t 21), none⟩])
 (.seq (.reg [
   ⟨some 22, .mv (.t 1), none⟩,
   ⟨some 23, .bin .geq (.t 22) (.c (.int .i64 0)), none⟩,
   ⟨some 24, .mv (.t 23), none⟩,
   ⟨some 25, .ld 2 true (.t 2), some (24, true)⟩,
   ⟨some 26, .call (.f 133) [(.t 25)], some (24, true)⟩,
   ⟨some 27, .mv (.t 8), some (24, true)⟩,
   ⟨some 28, .mv (.t 8), some (24, true)⟩,
   ⟨some 29, .call (.f 134) [(.t 27), (.t 28)], some (24, true)⟩,
   ⟨some 30, .call (.f 132) [(.t 26), (.t 29)], some (24, true)⟩,
   ⟨some 31, .bin .leq (.t 30) (.c (.int .i64 0)), some (24, true)⟩,
   ⟨some 32, .pick (.t 24) (.t 31) (.c (.bool false)), none⟩,
   ⟨some 4, .mv (.t 32), none⟩,
   ⟨some 5, .mv (.c (.int .i64 0)), none⟩])
 .ret)))))),
  [.tmp 4, .tmp 5]⟩
theorem c79 : chkFn Tryz.prog Tryz.f79 a79 = true := by kernel_rfl

/-- besom/contact.must[besom/api.Spot] -/
def a81 : AFn := ⟨2, (.seq (.reg [
   ⟨some 2, .box 24 (.t 0), none⟩,
   ⟨some 4, .alloc 24 [(.int .i64 0), (.int .i64 0)], none⟩])
 (.seq (.seq (.reg [
   ⟨some 5, .mv (.t 1), none⟩,
   ⟨some 6, .bin .neq (.t 5) (.c (.int .i64 0)), none⟩])
 (.cond (.t 6) (.reg [
    ⟨some 7, .mv (.t 1), none⟩,
    ⟨some 8, .bld [(.int .i64 0)] [(0, 1, (.t 7))], none⟩,
    ⟨some 9, .mki 134 (.t 8), none⟩,
    ⟨none, .pan (.t 9), none⟩])
 .skip))
 (.seq (.reg [
   ⟨some 10, .ld 2 true (.t 2), none⟩,
   ⟨none, .st 2 (.t 4) (.t 10), none⟩])
 .ret))),
  [.cell 4 2 true]⟩
theorem c81 : chkFn Tryz.prog Tryz.f81 a81 = true := by kernel_rfl

/-- besom/fixed.Unit -/
def a82 : AFn := ⟨1, (.seq (.reg [
   ⟨some 1, .box 24 (.t 0), none⟩,
   ⟨some 2, .alloc 24 [(.int .i64 0), (.int .i64 0)], none⟩,
   ⟨some 3, .mv (.c (.int .i64 0)), none⟩])
 (.seq (.reg [
   ⟨some 4, .mkf 136 [] [(.t 1)], none⟩,
   ⟨some 5, .call (.f 135) [(.t 4)], none⟩,
   ⟨some 6, .ext (.t 5) 0, none⟩,
   ⟨some 7, .ext (.t 5) 1, none⟩,
   ⟨none, .st 2 (.t 2) (.t 6), none⟩,
   ⟨some 3, .mv (.t 7), none⟩])
 .ret)),
  [.cell 2 2 true, .tmp 3]⟩
theorem c82 : chkFn Tryz.prog Tryz.f82 a82 = true := by kernel_rfl

/-- besom/contact.must[besom/api.Fix] -/
def a83 : AFn := ⟨2, (.seq (.reg [
   ⟨some 4, .mv (.c (.int .i64 0)), none⟩])
 (.seq (.seq (.reg [
   ⟨some 5, .mv (.t 1), none⟩,
   ⟨some 6, .bin .neq (.t 5) (.c (.int .i64 0)), none⟩])
 (.cond (.t 6) (.reg [
    ⟨some 7, .mv (.t 1), none⟩,
    ⟨some 8, .bld [(.int .i64 0)] [(0, 1, (.t 7))], none⟩,
    ⟨some 9, .mki 134 (.t 8), none⟩,
    ⟨none, .pan (.t 9), none⟩])
 .skip))
 (.seq (.reg [
   ⟨some 10, .mv (.t 0), none⟩,
   ⟨some 4, .mv (.t 10), none⟩])
 .ret))),
  [.tmp 4]⟩
theorem c83 : chkFn Tryz.prog Tryz.f83 a83 = true := by kernel_rfl

/-- besom/fixed.Dot -/
def a84 : AFn := ⟨3, (.seq (.reg [
   ⟨some 3, .box 24 (.t 0), none⟩,
   ⟨some 4, .box 24 (.t 1), none⟩,
   ⟨some 5, .box 3 (.t 2), none⟩,
   ⟨some 6, .mv (.c (.int .i64 0)), none⟩,
   ⟨some 7, .mv (.c (.int .i64 0)), none⟩])
 (.seq (.reg [
   ⟨some 8, .mkf 140 [] [(.t 3), (.t 4), (.t 5)], none⟩,
   ⟨some 9, .call (.f 96) [(.t 8)], none⟩,
   ⟨some 10, .ext (.t 9) 0, none⟩,
   ⟨some 11, .ext (.t 9) 1, none⟩,
   ⟨some 6, .mv (.t 10), none⟩,
   ⟨some 7, .mv (.t 11), none⟩])
 .ret)),
  [.tmp 6, .tmp 7]⟩
theorem c84 : chkFn Tryz.prog Tryz.f84 a84 = true := by kernel_rfl

/-- besom/fixed.Times -/
def a85 : AFn := ⟨3, (.seq (.reg [
   ⟨some 3, .box 24 (.t 0), none⟩,
   ⟨some 4, .box 22 (.t 1), none⟩,
   ⟨some 5, .box 3 (.t 2), none⟩,
   ⟨some 6, .alloc 24 [(.int .i64 0), (.int .i64 0)], none⟩,
   ⟨some 7, .mv (.c (.int .i64 0)), none⟩])
 (.seq (.reg [
   ⟨some 11, .mkf 145 [] [(.t 3), (.t 4), (.t 5)], none⟩,
   ⟨some 12, .call (.f 144) [(.t 11)], none⟩,
   ⟨some 10, .mv (.t 12), none⟩,
   ⟨some 13, .ext (.t 10) 0, none⟩,
   ⟨some 14, .ext (.t 10) 1, none⟩,
   ⟨some 8, .alloc 161 [.nfn], none⟩,
   ⟨none, .st 1 (.t 8) (.t 13), none⟩,
   ⟨some 9, .mv (.t 14), none⟩])
 (.seq (.seq (.reg [
   ⟨some 15, .mv (.t 9), none⟩,
   ⟨some 16, .bin .neq (.t 15) (.c (.int .i64 0)), none⟩])
 (.cond (.t 16) (.seq (.reg [
    ⟨some 17, .bld [(.int .i64 0), (.int .i64 0)] [], none⟩,
    ⟨some 18, .mv (.t 9), none⟩,
    ⟨none, .st 2 (.t 6) (.t 17), none⟩,
    ⟨some 7, .mv (.t 18), none⟩])
  .ret)
 .skip))
 (.seq (.reg [
   ⟨some 19, .ld 2 true (.t 3), none⟩,
   ⟨some 20, .ld 2 true (.t 3), none⟩,
   ⟨some 21, .mkf 146 [] [(.t 4), (.t 8)], none⟩,
   ⟨some 22, .call (.f 92) [(.t 19), (.t 20), (.t 21)], none⟩,
   ⟨some 23, .ext (.t 22) 0, none⟩,
   ⟨some 24, .ext (.t 22) 1, none⟩,
   ⟨none, .st 2 (.t 6) (.t 23), none⟩,
   ⟨some 7, .mv (.t 24), none⟩])
 .ret)))),
  [.cell 6 2 true, .tmp 7]⟩
theorem c85 : chkFn Tryz.prog Tryz.f85 a85 = true := by kernel_rfl

/-- besom/fixed.Scale -/
def a86 : AFn := ⟨4, (.seq (.reg [
   ⟨some 4, .box 22 (.t 0), none⟩,
   ⟨some 5, .box 3 (.t 1), none⟩,
   ⟨some 6, .box 3 (.t 2), none⟩,
   ⟨some 7, .box 3 (.t 3), none⟩,
   ⟨some 8, .mv (.c (.int .i64 0)), none⟩,
   ⟨some 9, .mv (.c (.int .i64 0)), none⟩])
 (.seq (.reg [
   ⟨some 10, .mkf 148 [] [(.t 4), (.t 7), (.t 5), (.t 6)], none⟩,
   ⟨some 11, .call (.f 96) [(.t 10)], none⟩,
   ⟨some 12, .ext (.t 11) 0, none⟩,
   ⟨some 13, .ext (.t 11) 1, none⟩,
   ⟨some 8, .mv (.t 12), none⟩,
   ⟨some 9, .mv (.t 13), none⟩])
 .ret)),
  [.tmp 8, .tmp 9]⟩
theorem c86 : chkFn Tryz.prog Tryz.f86 a86 = true := by kernel_rfl

/-- besom/besomref01.In -/
def a87 : AFn := ⟨3, (.seq (.reg [
   ⟨some 6, .mv (.c (.bool false)), none⟩])
 (.seq (.reg [
   ⟨some 7, .mv (.t 1), none⟩,
   ⟨some 8, .mv (.t 0), none⟩,
   ⟨some 9, .bin .leq (.t 7) (.t 8), none⟩,
   ⟨some 10, .mv (.t 9), none⟩,
   ⟨some 11, .mv (.t 0), some (10, true)⟩,
   ⟨some 12, .mv (.t 2), some (10, true)⟩,
   ⟨some 13, .bin .leq (.t 11) (.t 12), some (10, true)⟩,
   ⟨some 14, .pick (.t 10) (.t 13) (.c (.bool false)), none⟩,
   ⟨some 6, .mv (.t 14), none⟩])
 .ret)),
  [.tmp 6]⟩
theorem c87 : chkFn Tryz.prog Tryz.f87 a87 = true := by kernel_rfl

/-- besom/besomref01.Unit -/
def a88 : AFn := ⟨1, (.seq (.reg [
   ⟨some 1, .box 24 (.t 0), none⟩,
   ⟨some 2, .alloc 24 [(.int .i64 0), (.int .i64 0)], none⟩,
   ⟨some 3, .mv (.c (.int .i64 0)), none⟩])
 (.seq (.reg [
   ⟨some 6, .ld 2 true (.t 1), none⟩,
   ⟨some 7, .call (.f 128) [(.t 6)], none⟩,
   ⟨some 4, .mv (.t 7), none⟩])
 (.seq (.seq (.reg [
   ⟨some 8, .mv (.t 4), none⟩,
   ⟨some 9, .not (.t 8), none⟩])
 (.cond (.t 9) (.seq (.reg [
    ⟨some 10, .bld [(.int .i64 0), (.int .i64 0)] [], none⟩,
    ⟨none, .st 2 (.t 2) (.t 10), none⟩,
    ⟨some 3, .mv (.c (.int .i64 2)), none⟩])
  .ret)
 .skip))
 (.seq (.reg [
   ⟨some 11, .ld 2 true (.t 1), none⟩,
   ⟨some 12, .call (.f 133) [(.t 11)], none⟩,
   ⟨some 5, .mv (.t 12), none⟩])
 (.seq (.seq (.reg [
   ⟨some 13, .mv (.t 5), none⟩,
   ⟨some 14, .len (.t 13), none⟩,
   ⟨some 15, .bin .eql (.t 14) (.c (.int .i64 0)), none⟩])
 (.cond (.t 15) (.seq (.reg [
    ⟨some 16, .bld [(.int .i64 0), (.int .i64 0)] [], none⟩,
    ⟨none, .st 2 (.t 2) (.t 16), none⟩,
    ⟨some 3, .mv (.c (.int .i64 10)), none⟩])
  .ret)
 .skip))
 (.seq (.drw [
   (⟨some 17, .fa (.t 1) 0, none⟩, []),
   (⟨some 18, .ld 1 false (.t 17), none⟩, [0]),
   (⟨some 19, .mv (.t 5), none⟩, []),
   (⟨some 20, .call (.f 150) [(.t 18), (.t 19)], none⟩, [1, 0, 2]),
   (⟨some 21, .fa (.t 1) 1, none⟩, []),
   (⟨some 22, .ld 1 false (.t 21), none⟩, [4]),
   (⟨some 23, .mv (.t 5), none⟩, []),
   (⟨some 24, .call (.f 150) [(.t 22), (.t 23)], none⟩, [5, 4, 6, 3, 1, 0, 2]),
   (⟨some 25, .bld [(.int .i64 0), (.int .i64 0)] [(0, 1, (.t 20)), (1, 1, (.t 24))], none⟩, [3, 1, 0, 2, 7, 5, 4, 6]),
   (⟨none, .st 2 (.t 2) (.t 25), none⟩, [8, 3, 1, 0, 2, 7, 5, 4, 6]),
   (⟨some 3, .mv (.c (.int .i64 0)), none⟩, [9, 8, 3, 1, 0, 2, 7, 5, 4, 6])])
 .ret)))))),
  [.cell 2 2 true, .tmp 3]⟩
theorem c88 : chkFn Tryz.prog Tryz.f88 a88 = true := by kernel_rfl

/-- besom/besomref01.Dot -/
def a89 : AFn := ⟨3, (.seq (.reg [
   ⟨some 3, .box 24 (.t 0), none⟩,
   ⟨some 4, .box 24 (.t 1), none⟩,
   ⟨some 6, .mv (.c (.int .i64 0)), none⟩,
   ⟨some 7, .mv (.c (.int .i64 0)), none⟩])
 (.seq (.reg [
   ⟨some 11, .ld 2 true (.t 3), none⟩,
   ⟨some 12, .call (.f 128) [(.t 11)], none⟩,
   ⟨some 13, .mv (.t 12), none⟩,
   ⟨some 14, .ld 2 true (.t 4), some (13, true)⟩,
   ⟨some 15, .call (.f 128) [(.t 14)], some (13, true)⟩,
   ⟨some 16, .pick (.t 13) (.t 15) (.c (.bool false)), none⟩,
   ⟨some 8, .mv (.t 16), none⟩])
 (.seq (.reg [
   ⟨some 17, .mv (.t 2), none⟩,
   ⟨some 18, .call (.f 151) [(.t 17)], none⟩,
   ⟨some 9, .mv (.t 18), none⟩])
 (.seq (.seq (.reg [
   ⟨some 19, .mv (.t 8), none⟩,
   ⟨some 20, .not (.t 19), none⟩,
   ⟨some 21, .mv (.t 20), none⟩,
   ⟨some 22, .mv (.t 9), some (21, false)⟩,
   ⟨some 23, .not (.t 22), some (21, false)⟩,
   ⟨some 24, .pick (.t 21) (.c (.bool true)) (.t 23), none⟩])
 (.cond (.t 24) (.seq (.reg [
    ⟨some 6, .mv (.c (.int .i64 0)), none⟩,
    ⟨some 7, .mv (.c (.int .i64 2)), none⟩])
  .ret)
 .skip))
 (.seq (.drw [
   (⟨some 25, .fa (.t 3) 0, none⟩, []),
   (⟨some 26, .ld 1 false (.t 25), none⟩, [0]),
   (⟨some 27, .fa (.t 4) 0, none⟩, []),
   (⟨some 28, .ld 1 false (.t 27), none⟩, [2]),
   (⟨some 29, .call (.f 153) [(.t 26), (.t 28)], none⟩, [1, 0, 3, 2]),
   (⟨some 30, .fa (.t 3) 1, none⟩, []),
   (⟨some 31, .ld 1 false (.t 30), none⟩, [5]),
   (⟨some 32, .fa (.t 4) 1, none⟩, []),
   (⟨some 33, .ld 1 false (.t 32), none⟩, [7]),
   (⟨some 34, .call (.f 153) [(.t 31), (.t 33)], none⟩, [6, 5, 8, 7, 4, 1, 0, 3, 2]),
   (⟨some 35, .call (.f 152) [(.t 29), (.t 34)], none⟩, [4, 1, 0, 3, 2, 9, 6, 5, 8, 7]),
   (⟨some 10, .alloc 209 [(.bool false), .nsl], none⟩, []),
   (⟨none, .st 2 (.t 10) (.t 35), none⟩, [11, 10, 4, 1, 0, 3, 2, 9, 6, 5, 8, 7])])
 (.seq (.drw [
   (⟨some 36, .fa (.t 10) 1, none⟩, []),
   (⟨some 37, .ld 1 false (.t 36), none⟩, [0]),
   (⟨some 38, .call (.f 130) [(.c (.int .i64 65536))], none⟩, []),
   (⟨some 39, .fa (.t 10) 0, none⟩, []),
   (⟨some 40, .ld 1 false (.t 39), none⟩, [3]),
   (⟨some 41, .mv (.t 2), none⟩, []),
   (⟨some 42, .call (.f 155) [(.t 37), (.t 38), (.t 40), (.t 41)], none⟩, [1, 0, 2, 4, 3, 5]),
   (⟨some 43, .ext (.t 42) 0, none⟩, [6, 1, 0, 2, 4, 3, 5]),
   (⟨some 44, .ext (.t 42) 1, none⟩, [6, 1, 0, 2, 4, 3, 5]),
   (⟨some 45, .call (.f 154) [(.t 43), (.t 44)], none⟩, [7, 6, 1, 0, 2, 4, 3, 5, 8]),
   (⟨some 46, .ext (.t 45) 0, none⟩, [9, 7, 6, 1, 0, 2, 4, 3, 5, 8]),
   (⟨some 47, .ext (.t 45) 1, none⟩, [9, 7, 6, 1, 0, 2, 4, 3, 5, 8]),
   (⟨some 6, .mv (.t 46), none⟩, [10, 9, 7, 6, 1, 0, 2, 4, 3, 5, 8, 11]),
   (⟨some 7, .mv (.t 47), none⟩, [11, 9, 7, 6, 1, 0, 2, 4, 3, 5, 8, 12, 10])])
 .ret)))))),
  [.tmp 6, .tmp 7]⟩
theorem c89 : chkFn Tryz.prog Tryz.f89 a89 = true := by kernel_rfl

/-- besom/besomref01.Scale -/
def a90 : AFn := ⟨4, (.seq (.reg [
   ⟨some 8, .mv (.c (.int .i64 0)), none⟩,
   ⟨some 9, .mv (.c (.int .i64 0)), none⟩])
 (.seq (.reg [
   ⟨some 14, .mv (.t 0), none⟩,
   ⟨some 15, .call (.f 129) [(.t 14)], none⟩,
   ⟨some 10, .mv (.t 15), none⟩])
 (.seq (.reg [
   ⟨some 16, .mv (.t 3), none⟩,
   ⟨some 17, .call (.f 151) [(.t 16)], none⟩,
   ⟨some 11, .mv (.t 17), none⟩])
 (.seq (.seq (.reg [
   ⟨some 18, .mv (.t 10), none⟩,
   ⟨some 19, .not (.t 18), none⟩,
   ⟨some 20, .mv (.t 19), none⟩,
   ⟨some 21, .mv (.t 11), some (20, false)⟩,
   ⟨some 22, .not (.t 21), some (20, false)⟩,
   ⟨some 23, .pick (.t 20) (.c (.bool true)) (.t 22), none⟩,
   ⟨some 24, .mv (.t 23), none⟩,
   ⟨some 25, .mv (.t 1), some (24, false)⟩,
   ⟨some 26, .call (.f 87) [(.t 25), (.c (.int .i64 (-2147483648))), (.c (.int .i64 2147483648))], some (24, false)⟩,
   ⟨some 27, .not (.t 26), some (24, false)⟩,
   ⟨some 28, .pick (.t 24) (.c (.bool true)) (.t 27), none⟩,
   ⟨some 29, .mv (.t 28), none⟩,
   ⟨some 30, .mv (.t 2), some (29, false)⟩,
   ⟨some 31, .call (.f 87) [(.t 30), (.c (.int .i64 (-2147483648))), (.c (.int .i64 2147483648))], some (29, false)⟩,
   ⟨some 32, .not (.t 31), some (29, false)⟩,
   ⟨some 33, .pick (.t 29) (.c (.bool true)) (.t 32), none⟩])
 (.cond (.t 33) (.seq (.reg [
    ⟨some 8, .mv (.c (.int .i64 0)), none⟩,
    ⟨some 9, .mv (.c (.int .i64 2)), none⟩])
  .ret)
 .skip))
 (.seq (.seq (.reg [
   ⟨some 34, .mv (.t 2), none⟩,
   ⟨some 35, .bin .eql (.t 34) (.c (.int .i64 0)), none⟩])
 (.cond (.t 35) (.seq (.reg [
    ⟨some 8, .mv (.c (.int .i64 0)), none⟩,
    ⟨some 9, .mv (.c (.int .i64 10)), none⟩])
  .ret)
 .skip))
 (.seq (.reg [
   ⟨some 36, .mv (.t 0), none⟩,
   ⟨some 37, .bin .lss (.t 36) (.c (.int .i64 0)), none⟩,
   ⟨some 38, .mv (.t 1), none⟩,
   ⟨some 39, .bin .lss (.t 38) (.c (.int .i64 0)), none⟩,
   ⟨some 40, .binb true (.t 37) (.t 39), none⟩,
   ⟨some 12, .mv (.t 40), none⟩])
 (.seq (.reg [
   ⟨some 41, .mv (.t 0), none⟩,
   ⟨some 42, .call (.f 131) [(.t 41)], none⟩,
   ⟨some 43, .call (.f 130) [(.t 42)], none⟩,
   ⟨some 44, .mv (.t 1), none⟩,
   ⟨some 45, .mv (.t 1), none⟩,
   ⟨some 46, .neg (.t 45), none⟩,
   ⟨some 47, .mx false (.t 44) (.t 46), none⟩,
   ⟨some 48, .call (.f 130) [(.t 47)], none⟩,
   ⟨some 49, .call (.f 134) [(.t 43), (.t 48)], none⟩,
   ⟨some 13, .mv (.t 49), none⟩])
 (.seq (.reg [
   ⟨some 50, .mv (.t 13), none⟩,
   ⟨some 51, .mv (.t 2), none⟩,
   ⟨some 52, .mv (.t 2), none⟩,
   ⟨some 53, .neg (.t 52), none⟩,
   ⟨some 54, .mx false (.t 51) (.t 53), none⟩,
   ⟨some 55, .call (.f 130) [(.t 54)], none⟩,
   ⟨some 56, .mv (.t 12), none⟩,
   ⟨some 57, .mv (.t 2), none⟩,
   ⟨some 58, .bin .lss (.t 57) (.c (.int .i64 0)), none⟩,
   ⟨some 59, .binb true (.t 56) (.t 58), none⟩,
   ⟨some 60, .mv (.t 3), none⟩,
   ⟨some 61, .call (.f 155) [(.t 50), (.t 55), (.t 59), (.t 60)], none⟩,
   ⟨some 62, .ext (.t 61) 0, none⟩,
   ⟨some 63, .ext (.t 61) 1, none⟩,
   ⟨some 64, .call (.f 154) [(.t 62), (.t 63)], none⟩,
   ⟨some 65, .ext (.t 64) 0, none⟩,
   ⟨some 66, .ext (.t 64) 1, none⟩,
   ⟨some 8, .mv (.t 65), none⟩,
   ⟨some 9, .mv (.t 66), none⟩])
 .ret)))))))),
  [.tmp 8, .tmp 9]⟩
theorem c90 : chkFn Tryz.prog Tryz.f90 a90 = true := by kernel_rfl

/-- besom/besomref01.Times -/
def a91 : AFn := ⟨3, (.seq (.reg [
   ⟨some 3, .box 24 (.t 0), none⟩,
   ⟨some 6, .alloc 24 [(.int .i64 0), (.int .i64 0)], none⟩,
   ⟨some 7, .mv (.c (.int .i64 0)), none⟩])
 (.seq (.reg [
   ⟨some 13, .fa (.t 3) 0, none⟩,
   ⟨some 14, .ld 1 false (.t 13), none⟩,
   ⟨some 15, .mv (.t 1), none⟩,
   ⟨some 16, .mv (.t 2), none⟩,
   ⟨some 17, .call (.f 156) [(.t 14), (.t 15), (.t 16)], none⟩,
   ⟨some 12, .mv (.t 17), none⟩,
   ⟨some 18, .ext (.t 12) 0, none⟩,
   ⟨some 19, .ext (.t 12) 1, none⟩,
   ⟨some 8, .mv (.t 18), none⟩,
   ⟨some 9, .mv (.t 19), none⟩])
 (.seq (.reg [
   ⟨some 21, .fa (.t 3) 1, none⟩,
   ⟨some 22, .ld 1 false (.t 21), none⟩,
   ⟨some 23, .mv (.t 1), none⟩,
   ⟨some 24, .mv (.t 2), none⟩,
   ⟨some 25, .call (.f 156) [(.t 22), (.t 23), (.t 24)], none⟩,
   ⟨some 20, .mv (.t 25), none⟩,
   ⟨some 26, .ext (.t 20) 0, none⟩,
   ⟨some 27, .ext (.t 20) 1, none⟩,
   ⟨some 10, .mv (.t 26), none⟩,
   ⟨some 11, .mv (.t 27), none⟩])
 (.seq (.seq (.reg [
   ⟨some 28, .mv (.t 9), none⟩,
   ⟨some 29, .bin .eql (.t 28) (.c (.int .i64 2)), none⟩,
   ⟨some 30, .mv (.t 29), none⟩,
   ⟨some 31, .mv (.t 11), some (30, false)⟩,
   ⟨some 32, .bin .eql (.t 31) (.c (.int .i64 2)), some (30, false)⟩,
   ⟨some 33, .pick (.t 30) (.c (.bool true)) (.t 32), none⟩])
 (.cond (.t 33) (.seq (.reg [
    ⟨some 34, .bld [(.int .i64 0), (.int .i64 0)] [], none⟩,
    ⟨none, .st 2 (.t 6) (.t 34), none⟩,
    ⟨some 7, .mv (.c (.int .i64 2)), none⟩])
  .ret)
 .skip))
 (.seq (.reg [
   ⟨some 35, .mv (.t 8), none⟩,
   ⟨some 36, .mv (.t 9), none⟩,
   ⟨some 37, .mv (.t 10), none⟩,
   ⟨some 38, .mv (.t 11), none⟩,
   ⟨some 39, .call (.f 157) [(.t 35), (.t 36), (.t 37), (.t 38)], none⟩,
   ⟨some 40, .ext (.t 39) 0, none⟩,
   ⟨some 41, .ext (.t 39) 1, none⟩,
   ⟨none, .st 2 (.t 6) (.t 40), none⟩,
   ⟨some 7, .mv (.t 41), none⟩])
 .ret))))),
  [.cell 6 2 true, .tmp 7]⟩
theorem c91 : chkFn Tryz.prog Tryz.f91 a91 = true := by kernel_rfl

/-- besom/fixed.each -/
def a92 : AFn := ⟨3, (.seq (.reg [
   ⟨some 3, .box 24 (.t 0), none⟩,
   ⟨some 4, .box 24 (.t 1), none⟩,
   ⟨some 5, .box 156 (.t 2), none⟩,
   ⟨some 6, .alloc 24 [(.int .i64 0), (.int .i64 0)], none⟩,
   ⟨some 7, .mv (.c (.int .i64 0)), none⟩])
 (.seq (.reg [
   ⟨some 8, .mkf 158 [] [(.t 3), (.t 4), (.t 5)], none⟩,
   ⟨some 9, .call (.f 135) [(.t 8)], none⟩,
   ⟨some 10, .ext (.t 9) 0, none⟩,
   ⟨some 11, .ext (.t 9) 1, none⟩,
   ⟨none, .st 2 (.t 6) (.t 10), none⟩,
   ⟨some 7, .mv (.t 11), none⟩])
 .ret)),
  [.cell 6 2 true, .tmp 7]⟩
theorem c92 : chkFn Tryz.prog Tryz.f92 a92 = true := by kernel_rfl

/-- besom/fixed.add -/
def a93 : AFn := ⟨2, (.seq (.reg [
   ⟨some 4, .mv (.c (.int .i64 0)), none⟩])
 (.seq (.reg [
   ⟨some 5, .mv (.t 0), none⟩,
   ⟨some 6, .mv (.t 1), none⟩,
   ⟨some 7, .bsl 22 [.int .i64] 2 [(.int .i64 0), (.int .i64 0)] [(0, 1, (.t 5)), (1, 1, (.t 6))], none⟩,
   ⟨some 8, .call (.f 98) [(.t 7)], none⟩])
 (.seq (.reg [
   ⟨some 9, .mv (.t 0), none⟩,
   ⟨some 10, .mv (.t 1), none⟩,
   ⟨some 11, .bin .add (.t 9) (.t 10), none⟩,
   ⟨some 12, .call (.f 126) [(.t 11)], none⟩,
   ⟨some 13, .mv (.t 0), none⟩,
   ⟨some 14, .mv (.t 1), none⟩,
   ⟨some 15, .bin .add (.t 13) (.t 14), none⟩,
   ⟨some 16, .bin .lss (.t 15) (.c (.int .i64 0)), none⟩,
   ⟨some 17, .call (.f 138) [(.t 12), (.t 16)], none⟩,
   ⟨some 4, .mv (.t 17), none⟩])
 .ret))),
  [.tmp 4]⟩
theorem c93 : chkFn Tryz.prog Tryz.f93 a93 = true := by kernel_rfl

/-- besom/fixed.tried[besom/api.Fix] -/
def a96 : TFn := ⟨(.reg [
   ⟨some 2, .alloc 22 [(.int .i64 0)], none⟩,
   ⟨some 3, .alloc 29 [(.int .i64 0)], none⟩]), 160, [2, 3], 4,
 (.seq (.reg [
   ⟨some 5, .mv (.t 0), none⟩,
   ⟨some 6, .call (.t 5) [], none⟩,
   ⟨none, .st 1 (.t 2) (.t 6), none⟩,
   ⟨none, .st 1 (.t 3) (.c (.int .i64 0)), none⟩])
 .ret),
  [.cell 2 1 false, .cell 3 1 false], 6, 2,
 (.seq (.reg [
   ⟨some 8, .mv (.t 2), none⟩,
   ⟨some 9, .tas 219 [(.int .i64 0)] (.t 8), none⟩,
   ⟨some 7, .mv (.t 9), none⟩,
   ⟨some 10, .ext (.t 7) 0, none⟩,
   ⟨some 11, .ext (.t 7) 1, none⟩,
   ⟨some 3, .alloc 219 [(.int .i64 0)], none⟩,
   ⟨none, .st 1 (.t 3) (.t 10), none⟩,
   ⟨some 4, .mv (.t 11), none⟩])
 (.seq (.reg [
   ⟨some 12, .mv (.t 4), none⟩])
 (.cond (.t 12) (.seq (.reg [
    ⟨some 5, .mv (.c (.int .i64 0)), none⟩])
  (.drw [
    (⟨some 13, .mv (.t 5), none⟩, []),
    (⟨some 14, .fa (.t 3) 0, none⟩, []),
    (⟨some 15, .ld 1 false (.t 14), none⟩, [1]),
    (⟨none, .st 1 (.t 0) (.t 13), none⟩, [0]),
    (⟨none, .st 1 (.t 1) (.t 15), none⟩, [2, 1, 3, 0])]))
 (.seq (.reg [
    ⟨some 16, .mv (.t 2), none⟩,
    ⟨some 17, .ifn true (.t 16), none⟩])
  (.cond (.t 17) (.reg [
     ⟨some 18, .mv (.t 2), none⟩,
     ⟨none, .pan (.t 18), none⟩])
  .skip)))))⟩
theorem c96 : chkMain Tryz.prog Tryz.f96 a96 = true := by kernel_rfl
theorem d96 : chkDef Tryz.prog Tryz.f160 a96 = true := by kernel_rfl

/-- besom/fixed.right -/
def a98 : AFn := ⟨1, (.seq (.reg [
   ⟨some 4, .mv (.t 0), none⟩,
   ⟨some 5, .len (.t 4), none⟩,
   ⟨some 6, .mv (.c (.int .i64 0)), none⟩])
 (.blk 0 (.loop 0 (.seq (.reg [
    ⟨some 7, .bin .lss (.t 6) (.t 5), none⟩])
  (.seq (.cond (.t 7) .skip
  (.exit 0))
  (.seq (.blk 1 (.seq (.reg [
    ⟨some 8, .ia (.t 4) (.t 6) 1, none⟩,
    ⟨some 9, .ld 1 false (.t 8), none⟩,
    ⟨some 3, .mv (.t 9), none⟩])
  (.reg [
    ⟨some 10, .mv (.t 3), none⟩,
    ⟨some 11, .bin .geq (.t 10) (.c (.int .i64 (-70368744177664))), none⟩,
    ⟨some 12, .mv (.t 11), none⟩,
    ⟨some 13, .mv (.t 3), some (12, true)⟩,
    ⟨some 14, .bin .leq (.t 13) (.c (.int .i64 70368744177664)), some (12, true)⟩,
    ⟨some 15, .pick (.t 12) (.t 14) (.c (.bool false)), none⟩,
    ⟨some 16, .call (.f 100) [(.t 15), (.c (.int .i64 2))], none⟩])))
  (.reg [
    ⟨some 17, .bin .add (.t 6) (.c (.int .i64 1)), none⟩,
    ⟨some 6, .mv (.t 17), none⟩]))))))),
  []⟩
theorem c98 : chkFn Tryz.prog Tryz.f98 a98 = true := by kernel_rfl

/-- besom/fixed.ways -/
def a99 : AFn := ⟨1, (.seq (.reg [
   ⟨some 2, .mv (.c .nfn), none⟩])
 (.seq (.seq (.reg [
   ⟨some 3, .mv (.t 0), none⟩])
 (.blk 0 (.seq (.reg [
   ⟨some 5, .bin .eql (.t 3) (.c (.int .i64 0)), none⟩,
   ⟨some 4, .mv (.t 5), none⟩])
 (.cond (.t 4) (.seq (.reg [
    ⟨some 2, .mv (.f 161), none⟩])
  .ret)
 (.seq (.reg [
    ⟨some 7, .bin .eql (.t 3) (.c (.int .i64 1)), none⟩,
    ⟨some 6, .mv (.t 7), none⟩])
  (.cond (.t 6) (.seq (.reg [
     ⟨some 2, .mv (.f 162), none⟩])
   .ret)
  (.seq (.reg [
     ⟨some 9, .bin .eql (.t 3) (.c (.int .i64 2)), none⟩,
     ⟨some 8, .mv (.t 9), none⟩])
   (.cond (.t 8) (.seq (.reg [
      ⟨some 2, .mv (.f 163), none⟩])
    .ret)
   (.seq (.reg [
      ⟨some 11, .bin .eql (.t 3) (.c (.int .i64 3)), none⟩,
      ⟨some 10, .mv (.t 11), none⟩])
    (.cond (.t 10) (.seq (.reg [
       ⟨some 2, .mv (.f 164), none⟩])
     .ret)
    .skip))))))))))
 (.reg [
   ⟨some 12, .bld [(.int .i64 0)] [(0, 1, (.c (.int .i64 2)))], none⟩,
   ⟨some 13, .mki 219 (.t 12), none⟩,
   ⟨none, .pan (.t 13), none⟩]))),
  [.tmp 2]⟩
theorem c99 : chkFn Tryz.prog Tryz.f99 a99 = true := by kernel_rfl

/-- besom/fixed.need -/
def a100 : AFn := ⟨2, (.seq (.reg [
   ⟨some 4, .mv (.t 0), none⟩,
   ⟨some 5, .not (.t 4), none⟩])
 (.cond (.t 5) (.reg [
    ⟨some 6, .mv (.t 1), none⟩,
    ⟨some 7, .bld [(.int .i64 0)] [(0, 1, (.t 6))], none⟩,
    ⟨some 8, .mki 219 (.t 7), none⟩,
    ⟨none, .pan (.t 8), none⟩])
 .skip)),
  []⟩
theorem c100 : chkFn Tryz.prog Tryz.f100 a100 = true := by kernel_rfl

/-- besom/fixed.product -/
def a102 : AFn := ⟨2, (.seq (.reg [
   ⟨some 4, .alloc 167 [(.int .u64 0), (.int .u64 0)], none⟩])
 (.seq (.reg [
   ⟨some 8, .mv (.t 0), none⟩,
   ⟨some 9, .mv (.t 1), none⟩,
   ⟨some 10, .call (.f 167) [(.t 8), (.t 9)], none⟩,
   ⟨some 7, .mv (.t 10), none⟩,
   ⟨some 11, .ext (.t 7) 0, none⟩,
   ⟨some 12, .ext (.t 7) 1, none⟩,
   ⟨some 5, .mv (.t 11), none⟩,
   ⟨some 6, .mv (.t 12), none⟩])
 (.seq (.reg [
   ⟨some 13, .mv (.t 5), none⟩,
   ⟨some 14, .mv (.t 6), none⟩,
   ⟨some 15, .bld [(.int .u64 0), (.int .u64 0)] [(0, 1, (.t 13)), (1, 1, (.t 14))], none⟩,
   ⟨none, .st 2 (.t 4) (.t 15), none⟩])
 .ret))),
  [.cell 4 2 true]⟩
theorem c102 : chkFn Tryz.prog Tryz.f102 a102 = true := by kernel_rfl

end Go.Proofs.YtbolfnkgbjkbjaaGreat.AM
end
section
set_option linter.unusedVariables false
set_option maxRecDepth 100000
namespace Go.Proofs.YtbolfnkgbjkbjaaGreat.AM
open Go Go.RowKit
/-- besom/besomref04.in -/
def a115 : AFn := ⟨3, (.seq (.reg [
   ⟨some 6, .mv (.c (.bool false)), none⟩])
 (.seq (.reg [
   ⟨some 7, .mv (.t 0), none⟩,
   ⟨some 8, .mv (.t 1), none⟩,
   ⟨some 9, .mv (.t 2), none⟩,
   ⟨some 10, .call (.f 87) [(.t 7), (.t 8), (.t 9)], none⟩,
   ⟨some 6, .mv (.t 10), none⟩])
 .ret)),
  [.tmp 6]⟩
theorem c115 : chkFn Tryz.prog Tryz.f115 a115 = true := by kernel_rfl

/-- besom/glide.square -/
def a119 : AFn := ⟨2, (.seq (.reg [
   ⟨some 2, .box 24 (.t 0), none⟩,
   ⟨some 4, .mv (.c (.bool false)), none⟩])
 (.seq (.reg [
   ⟨some 5, .fa (.t 2) 0, none⟩,
   ⟨some 6, .ld 1 false (.t 5), none⟩,
   ⟨some 7, .mv (.t 1), none⟩,
   ⟨some 8, .neg (.t 7), none⟩,
   ⟨some 9, .mv (.t 1), none⟩,
   ⟨some 10, .call (.f 186) [(.t 6), (.t 8), (.t 9)], none⟩,
   ⟨some 11, .mv (.t 10), none⟩,
   ⟨some 12, .fa (.t 2) 1, some (11, true)⟩,
   ⟨some 13, .ld 1 false (.t 12), some (11, true)⟩,
   ⟨some 14, .mv (.t 1), some (11, true)⟩,
   ⟨some 15, .neg (.t 14), some (11, true)⟩,
   ⟨some 16, .mv (.t 1), some (11, true)⟩,
   ⟨some 17, .call (.f 186) [(.t 13), (.t 15), (.t 16)], some (11, true)⟩,
   ⟨some 18, .pick (.t 11) (.t 17) (.c (.bool false)), none⟩,
   ⟨some 4, .mv (.t 18), none⟩])
 .ret)),
  [.tmp 4]⟩
theorem c119 : chkFn Tryz.prog Tryz.f119 a119 = true := by kernel_rfl

/-- besom/glide.within[int] -/
def a120 : AFn := ⟨3, (.seq (.reg [
   ⟨some 6, .mv (.c (.bool false)), none⟩])
 (.seq (.reg [
   ⟨some 7, .mv (.t 1), none⟩,
   ⟨some 8, .mv (.t 0), none⟩,
   ⟨some 9, .bin .leq (.t 7) (.t 8), none⟩,
   ⟨some 10, .mv (.t 9), none⟩,
   ⟨some 11, .mv (.t 0), some (10, true)⟩,
   ⟨some 12, .mv (.t 2), some (10, true)⟩,
   ⟨some 13, .bin .leq (.t 11) (.t 12), some (10, true)⟩,
   ⟨some 14, .pick (.t 10) (.t 13) (.c (.bool false)), none⟩,
   ⟨some 6, .mv (.t 14), none⟩])
 .ret)),
  [.tmp 6]⟩
theorem c120 : chkFn Tryz.prog Tryz.f120 a120 = true := by kernel_rfl

/-- besom/fixed.sub -/
def a121 : AFn := ⟨2, (.seq (.reg [
   ⟨some 4, .mv (.c (.int .i64 0)), none⟩])
 (.seq (.reg [
   ⟨some 5, .mv (.t 0), none⟩,
   ⟨some 6, .mv (.t 1), none⟩,
   ⟨some 7, .bsl 22 [.int .i64] 2 [(.int .i64 0), (.int .i64 0)] [(0, 1, (.t 5)), (1, 1, (.t 6))], none⟩,
   ⟨some 8, .call (.f 98) [(.t 7)], none⟩])
 (.seq (.reg [
   ⟨some 9, .mv (.t 0), none⟩,
   ⟨some 10, .mv (.t 1), none⟩,
   ⟨some 11, .bin .sub (.t 9) (.t 10), none⟩,
   ⟨some 12, .call (.f 126) [(.t 11)], none⟩,
   ⟨some 13, .mv (.t 0), none⟩,
   ⟨some 14, .mv (.t 1), none⟩,
   ⟨some 15, .bin .sub (.t 13) (.t 14), none⟩,
   ⟨some 16, .bin .lss (.t 15) (.c (.int .i64 0)), none⟩,
   ⟨some 17, .call (.f 138) [(.t 12), (.t 16)], none⟩,
   ⟨some 4, .mv (.t 17), none⟩])
 .ret))),
  [.tmp 4]⟩
theorem c121 : chkFn Tryz.prog Tryz.f121 a121 = true := by kernel_rfl

/-- besom/fixed.tried[bool] -/
def a122 : TFn := ⟨(.reg [
   ⟨some 2, .alloc 4 [(.bool false)], none⟩,
   ⟨some 3, .alloc 29 [(.int .i64 0)], none⟩]), 187, [2, 3], 4,
 (.seq (.reg [
   ⟨some 5, .mv (.t 0), none⟩,
   ⟨some 6, .call (.t 5) [], none⟩,
   ⟨none, .st 1 (.t 2) (.t 6), none⟩,
   ⟨none, .st 1 (.t 3) (.c (.int .i64 0)), none⟩])
 .ret),
  [.cell 2 1 false, .cell 3 1 false], 6, 2,
 (.seq (.reg [
   ⟨some 8, .mv (.t 2), none⟩,
   ⟨some 9, .tas 219 [(.int .i64 0)] (.t 8), none⟩,
   ⟨some 7, .mv (.t 9), none⟩,
   ⟨some 10, .ext (.t 7) 0, none⟩,
   ⟨some 11, .ext (.t 7) 1, none⟩,
   ⟨some 3, .alloc 219 [(.int .i64 0)], none⟩,
   ⟨none, .st 1 (.t 3) (.t 10), none⟩,
   ⟨some 4, .mv (.t 11), none⟩])
 (.seq (.reg [
   ⟨some 12, .mv (.t 4), none⟩])
 (.cond (.t 12) (.seq (.reg [
    ⟨some 5, .mv (.c (.bool false)), none⟩])
  (.drw [
    (⟨some 13, .mv (.t 5), none⟩, []),
    (⟨some 14, .fa (.t 3) 0, none⟩, []),
    (⟨some 15, .ld 1 false (.t 14), none⟩, [1]),
    (⟨none, .st 1 (.t 0) (.t 13), none⟩, [0]),
    (⟨none, .st 1 (.t 1) (.t 15), none⟩, [2, 1, 3, 0])]))
 (.seq (.reg [
    ⟨some 16, .mv (.t 2), none⟩,
    ⟨some 17, .ifn true (.t 16), none⟩])
  (.cond (.t 17) (.reg [
     ⟨some 18, .mv (.t 2), none⟩,
     ⟨none, .pan (.t 18), none⟩])
  .skip)))))⟩
theorem c122 : chkMain Tryz.prog Tryz.f122 a122 = true := by kernel_rfl
theorem d122 : chkDef Tryz.prog Tryz.f187 a122 = true := by kernel_rfl

/-- besom/fixed.Within$1 -/
def a123 : AFn := ⟨2, (.seq (.reg [
   ⟨some 2, .mv (.c (.bool false)), none⟩])
 (.seq (.reg [
   ⟨some 4, .ld 2 true (.t 0), none⟩,
   ⟨some 5, .call (.f 124) [(.t 4)], none⟩,
   ⟨some 3, .alloc 167 [(.int .u64 0), (.int .u64 0)], none⟩,
   ⟨none, .st 2 (.t 3) (.t 5), none⟩])
 (.seq (.reg [
   ⟨some 6, .ld 1 false (.t 1), none⟩,
   ⟨some 7, .bsl 22 [.int .i64] 1 [(.int .i64 0)] [(0, 1, (.t 6))], none⟩,
   ⟨some 8, .call (.f 98) [(.t 7)], none⟩])
 (.seq (.drw [
   (⟨some 9, .ld 1 false (.t 1), none⟩, []),
   (⟨some 10, .bin .geq (.t 9) (.c (.int .i64 0)), none⟩, [0]),
   (⟨some 11, .mv (.t 10), none⟩, [1, 0]),
   (⟨some 12, .ld 2 true (.t 3), some (11, true)⟩, [2, 1, 0]),
   (⟨some 13, .ld 1 false (.t 1), some (11, true)⟩, [2, 1, 0]),
   (⟨some 14, .call (.f 126) [(.t 13)], some (11, true)⟩, [4, 2, 1, 0]),
   (⟨some 15, .ld 1 false (.t 1), some (11, true)⟩, [2, 1, 0]),
   (⟨some 16, .call (.f 126) [(.t 15)], some (11, true)⟩, [6, 2, 1, 0, 5, 4]),
   (⟨some 17, .call (.f 102) [(.t 14), (.t 16)], some (11, true)⟩, [5, 4, 2, 1, 0, 7, 6]),
   (⟨some 18, .call (.f 125) [(.t 12), (.t 17)], some (11, true)⟩, [3, 2, 1, 0, 8, 5, 4, 7, 6]),
   (⟨some 19, .bin .leq (.t 18) (.c (.int .i64 0)), some (11, true)⟩, [9, 3, 2, 1, 0, 8, 5, 4, 7, 6]),
   (⟨some 20, .pick (.t 11) (.t 19) (.c (.bool false)), none⟩, [2, 1, 0, 10, 9, 3, 8, 5, 4, 7, 6]),
   (⟨some 2, .mv (.t 20), none⟩, [11, 2, 1, 0, 10, 9, 3, 8, 5, 4, 7, 6])])
 .ret)))),
  [.tmp 2]⟩
theorem c123 : chkFn Tryz.prog Tryz.f123 a123 = true := by kernel_rfl

/-- besom/fixed.square -/
def a124 : AFn := ⟨1, (.seq (.reg [
   ⟨some 1, .box 24 (.t 0), none⟩,
   ⟨some 2, .alloc 167 [(.int .u64 0), (.int .u64 0)], none⟩])
 (.seq (.reg [
   ⟨some 3, .fa (.t 1) 0, none⟩,
   ⟨some 4, .ld 1 false (.t 3), none⟩,
   ⟨some 5, .fa (.t 1) 1, none⟩,
   ⟨some 6, .ld 1 false (.t 5), none⟩,
   ⟨some 7, .bsl 22 [.int .i64] 2 [(.int .i64 0), (.int .i64 0)] [(0, 1, (.t 4)), (1, 1, (.t 6))], none⟩,
   ⟨some 8, .call (.f 98) [(.t 7)], none⟩])
 (.seq (.drw [
   (⟨some 9, .fa (.t 1) 0, none⟩, []),
   (⟨some 10, .ld 1 false (.t 9), none⟩, [0]),
   (⟨some 11, .call (.f 126) [(.t 10)], none⟩, [1, 0]),
   (⟨some 12, .fa (.t 1) 0, none⟩, []),
   (⟨some 13, .ld 1 false (.t 12), none⟩, [3]),
   (⟨some 14, .call (.f 126) [(.t 13)], none⟩, [4, 3, 2, 1, 0]),
   (⟨some 15, .call (.f 102) [(.t 11), (.t 14)], none⟩, [2, 1, 0, 5, 4, 3]),
   (⟨some 16, .fa (.t 1) 1, none⟩, []),
   (⟨some 17, .ld 1 false (.t 16), none⟩, [7]),
   (⟨some 18, .call (.f 126) [(.t 17)], none⟩, [8, 7, 6, 2, 1, 0, 5, 4, 3]),
   (⟨some 19, .fa (.t 1) 1, none⟩, []),
   (⟨some 20, .ld 1 false (.t 19), none⟩, [10]),
   (⟨some 21, .call (.f 126) [(.t 20)], none⟩, [11, 10, 9, 8, 7, 6, 2, 1, 0, 5, 4, 3]),
   (⟨some 22, .call (.f 102) [(.t 18), (.t 21)], none⟩, [9, 8, 7, 6, 2, 1, 0, 5, 4, 3, 12, 11, 10]),
   (⟨some 23, .call (.f 142) [(.t 15), (.t 22)], none⟩, [6, 2, 1, 0, 5, 4, 3, 13, 9, 8, 7, 12, 11, 10]),
   (⟨none, .st 2 (.t 2) (.t 23), none⟩, [14, 6, 2, 1, 0, 5, 4, 3, 13, 9, 8, 7, 12, 11, 10])])
 .ret))),
  [.cell 2 2 true]⟩
theorem c124 : chkFn Tryz.prog Tryz.f124 a124 = true := by kernel_rfl

/-- (besom/fixed.wide).compare -/
def a125 : AFn := ⟨2, (.seq (.reg [
   ⟨some 2, .box 167 (.t 0), none⟩,
   ⟨some 3, .box 167 (.t 1), none⟩,
   ⟨some 4, .mv (.c (.int .i64 0)), none⟩])
 (.seq (.drw [
   (⟨some 5, .fa (.t 2) 0, none⟩, []),
   (⟨some 6, .ld 1 false (.t 5), none⟩, [0]),
   (⟨some 7, .fa (.t 3) 0, none⟩, []),
   (⟨some 8, .ld 1 false (.t 7), none⟩, [2]),
   (⟨some 9, .call (.f 189) [(.t 6), (.t 8)], none⟩, [1, 0, 3, 2]),
   (⟨some 10, .fa (.t 2) 1, none⟩, []),
   (⟨some 11, .ld 1 false (.t 10), none⟩, [5]),
   (⟨some 12, .fa (.t 3) 1, none⟩, []),
   (⟨some 13, .ld 1 false (.t 12), none⟩, [7]),
   (⟨some 14, .call (.f 189) [(.t 11), (.t 13)], none⟩, [6, 5, 8, 7, 4, 1, 0, 3, 2]),
   (⟨some 15, .bsl 3 [.int .i64] 2 [(.int .i64 0), (.int .i64 0)] [(0, 1, (.t 9)), (1, 1, (.t 14))], none⟩, [4, 1, 0, 3, 2, 9, 6, 5, 8, 7]),
   (⟨some 16, .call (.f 188) [(.t 15)], none⟩, [10, 4, 1, 0, 3, 2, 9, 6, 5, 8, 7]),
   (⟨some 4, .mv (.t 16), none⟩, [11, 10, 4, 1, 0, 3, 2, 9, 6, 5, 8, 7])])
 .ret)),
  [.tmp 4]⟩
theorem c125 : chkFn Tryz.prog Tryz.f125 a125 = true := by kernel_rfl

/-- besom/fixed.size[besom/api.Fix] -/
def a126 : AFn := ⟨1, (.seq (.reg [
   ⟨some 2, .mv (.c (.int .u64 0)), none⟩])
 (.seq (.seq (.reg [
   ⟨some 3, .mv (.t 0), none⟩,
   ⟨some 4, .bin .lss (.t 3) (.c (.int .i64 0)), none⟩])
 (.cond (.t 4) (.seq (.reg [
    ⟨some 5, .mv (.t 0), none⟩,
    ⟨some 6, .cv .u64 (.t 5), none⟩,
    ⟨some 7, .neg (.t 6), none⟩,
    ⟨some 2, .mv (.t 7), none⟩])
  .ret)
 .skip))
 (.seq (.reg [
   ⟨some 8, .mv (.t 0), none⟩,
   ⟨some 9, .cv .u64 (.t 8), none⟩,
   ⟨some 2, .mv (.t 9), none⟩])
 .ret))),
  [.tmp 2]⟩
theorem c126 : chkFn Tryz.prog Tryz.f126 a126 = true := by kernel_rfl

/-- besom/besomref03.Spot -/
def a127 : AFn := ⟨1, (.seq (.reg [
   ⟨some 1, .box 24 (.t 0), none⟩,
   ⟨some 2, .mv (.c (.bool false)), none⟩])
 (.seq (.reg [
   ⟨some 3, .fa (.t 1) 0, none⟩,
   ⟨some 4, .ld 1 false (.t 3), none⟩,
   ⟨some 5, .bin .geq (.t 4) (.c (.int .i64 (-6553600000))), none⟩,
   ⟨some 6, .mv (.t 5), none⟩,
   ⟨some 7, .fa (.t 1) 0, some (6, true)⟩,
   ⟨some 8, .ld 1 false (.t 7), some (6, true)⟩,
   ⟨some 9, .bin .leq (.t 8) (.c (.int .i64 6553600000)), some (6, true)⟩,
   ⟨some 10, .pick (.t 6) (.t 9) (.c (.bool false)), none⟩,
   ⟨some 11, .mv (.t 10), none⟩,
   ⟨some 12, .fa (.t 1) 1, some (11, true)⟩,
   ⟨some 13, .ld 1 false (.t 12), some (11, true)⟩,
   ⟨some 14, .bin .geq (.t 13) (.c (.int .i64 (-6553600000))), some (11, true)⟩,
   ⟨some 15, .pick (.t 11) (.t 14) (.c (.bool false)), none⟩,
   ⟨some 16, .mv (.t 15), none⟩,
   ⟨some 17, .fa (.t 1) 1, some (16, true)⟩,
   ⟨some 18, .ld 1 false (.t 17), some (16, true)⟩,
   ⟨some 19, .bin .leq (.t 18) (.c (.int .i64 6553600000)), some (16, true)⟩,
   ⟨some 20, .pick (.t 16) (.t 19) (.c (.bool false)), none⟩,
   ⟨some 2, .mv (.t 20), none⟩])
 .ret)),
  [.tmp 2]⟩
theorem c127 : chkFn Tryz.prog Tryz.f127 a127 = true := by kernel_rfl

/-- besom/besomref01.Spot -/
def a128 : AFn := ⟨1, (.seq (.reg [
   ⟨some 1, .box 24 (.t 0), none⟩,
   ⟨some 2, .mv (.c (.bool false)), none⟩])
 (.seq (.reg [
   ⟨some 3, .fa (.t 1) 0, none⟩,
   ⟨some 4, .ld 1 false (.t 3), none⟩,
   ⟨some 5, .call (.f 129) [(.t 4)], none⟩,
   ⟨some 6, .mv (.t 5), none⟩,
   ⟨some 7, .fa (.t 1) 1, some (6, true)⟩,
   ⟨some 8, .ld 1 false (.t 7), some (6, true)⟩,
   ⟨some 9, .call (.f 129) [(.t 8)], some (6, true)⟩,
   ⟨some 10, .pick (.t 6) (.t 9) (.c (.bool false)), none⟩,
   ⟨some 2, .mv (.t 10), none⟩])
 .ret)),
  [.tmp 2]⟩
theorem c128 : chkFn Tryz.prog Tryz.f128 a128 = true := by kernel_rfl

/-- besom/besomref01.Valid -/
def a129 : AFn := ⟨1, (.seq (.reg [
   ⟨some 2, .mv (.c (.bool false)), none⟩])
 (.seq (.reg [
   ⟨some 3, .mv (.t 0), none⟩,
   ⟨some 4, .bin .geq (.t 3) (.c (.int .i64 (-70368744177664))), none⟩,
   ⟨some 5, .mv (.t 4), none⟩,
   ⟨some 6, .mv (.t 0), some (5, true)⟩,
   ⟨some 7, .bin .leq (.t 6) (.c (.int .i64 70368744177664)), some (5, true)⟩,
   ⟨some 8, .pick (.t 5) (.t 7) (.c (.bool false)), none⟩,
   ⟨some 2, .mv (.t 8), none⟩])
 .ret)),
  [.tmp 2]⟩
theorem c129 : chkFn Tryz.prog Tryz.f129 a129 = true := by kernel_rfl

/-- besom/besomref01.of -/
def a130 : AFn := ⟨1, (.seq (.reg [
   ⟨some 2, .mvn 3 [.int .i64], none⟩])
 (.seq (.reg [
   ⟨some 3, .mvn 3 [.int .i64], none⟩])
 (.seq (.blk 0 (.loop 0 (.seq (.seq (.reg [
    ⟨some 4, .mv (.t 0), none⟩,
    ⟨some 5, .bin .gtr (.t 4) (.c (.int .i64 0)), none⟩])
  (.cond (.t 5) .skip
  (.exit 0)))
  (.blk 1 (.seq (.reg [
    ⟨some 6, .mv (.t 3), none⟩,
    ⟨some 7, .mv (.t 0), none⟩,
    ⟨some 8, .bin .rem (.t 7) (.c (.int .i64 32768)), none⟩,
    ⟨some 9, .bsl 3 [.int .i64] 1 [(.int .i64 0)] [(0, 1, (.t 8))], none⟩,
    ⟨some 10, .app 3 [.int .i64] 8 (.t 6) (.t 9), none⟩,
    ⟨some 3, .mv (.t 10), none⟩])
  (.reg [
    ⟨some 11, .mv (.t 0), none⟩,
    ⟨some 12, .bin .quo (.t 11) (.c (.int .i64 32768)), none⟩,
    ⟨some 0, .mv (.t 12), none⟩]))))))
 (.seq (.reg [
   ⟨some 13, .mv (.t 3), none⟩,
   ⟨some 2, .mv (.t 13), none⟩])
 .ret)))),
  [.tmp 2]⟩
/-- besom/besomref01.size -/
def a131 : AFn := ⟨1, (.seq (.reg [
   ⟨some 2, .mv (.c (.int .i64 0)), none⟩])
 (.seq (.seq (.reg [
   ⟨some 3, .mv (.t 0), none⟩,
   ⟨some 4, .bin .lss (.t 3) (.c (.int .i64 0)), none⟩])
 (.cond (.t 4) (.seq (.reg [
    ⟨some 5, .mv (.t 0), none⟩,
    ⟨some 6, .neg (.t 5), none⟩,
    ⟨some 2, .mv (.t 6), none⟩])
  .ret)
 .skip))
 (.seq (.reg [
   ⟨some 7, .mv (.t 0), none⟩,
   ⟨some 2, .mv (.t 7), none⟩])
 .ret))),
  [.tmp 2]⟩
theorem c131 : chkFn Tryz.prog Tryz.f131 a131 = true := by kernel_rfl

/-- besom/besomref01.order -/
def a132 : AFn := ⟨2, (.seq (.reg [
   ⟨some 4, .mv (.c (.int .i64 0)), none⟩])
 (.seq (.seq (.reg [
   ⟨some 6, .mv (.t 0), none⟩,
   ⟨some 7, .len (.t 6), none⟩,
   ⟨some 8, .mv (.t 1), none⟩,
   ⟨some 9, .len (.t 8), none⟩,
   ⟨some 10, .bin .lss (.t 7) (.t 9), none⟩])
 (.cond (.t 10) (.seq (.reg [
    ⟨some 4, .mv (.c (.int .i64 (-1))), none⟩])
  .ret)
 .skip))
 (.seq (.seq (.reg [
   ⟨some 11, .mv (.t 0), none⟩,
   ⟨some 12, .len (.t 11), none⟩,
   ⟨some 13, .mv (.t 1), none⟩,
   ⟨some 14, .len (.t 13), none⟩,
   ⟨some 15, .bin .gtr (.t 12) (.t 14), none⟩])
 (.cond (.t 15) (.seq (.reg [
    ⟨some 4, .mv (.c (.int .i64 1)), none⟩])
  .ret)
 .skip))
 (.seq (.seq (.reg [
   ⟨some 16, .mv (.t 0), none⟩,
   ⟨some 17, .len (.t 16), none⟩,
   ⟨some 18, .bin .sub (.t 17) (.c (.int .i64 1)), none⟩,
   ⟨some 5, .mv (.t 18), none⟩])
 (.blk 0 (.loop 0 (.seq (.seq (.reg [
    ⟨some 19, .mv (.t 5), none⟩,
    ⟨some 20, .bin .geq (.t 19) (.c (.int .i64 0)), none⟩])
  (.cond (.t 20) .skip
  (.exit 0)))
  (.seq (.blk 1 (.seq (.seq (.drw [
    (⟨some 23, .mv (.t 0), none⟩, []),
    (⟨some 24, .mv (.t 5), none⟩, []),
    (⟨some 25, .ia (.t 23) (.t 24) 1, none⟩, [0, 1]),
    (⟨some 26, .ld 1 false (.t 25), none⟩, [2, 0, 1]),
    (⟨some 27, .mv (.t 1), none⟩, []),
    (⟨some 28, .mv (.t 5), none⟩, []),
    (⟨some 29, .ia (.t 27) (.t 28) 1, none⟩, [4, 5]),
    (⟨some 30, .ld 1 false (.t 29), none⟩, [6, 4, 5]),
    (⟨some 31, .bin .lss (.t 26) (.t 30), none⟩, [3, 2, 0, 1, 7, 6, 4, 5])])
  (.cond (.t 31) (.seq (.reg [
     ⟨some 4, .mv (.c (.int .i64 (-1))), none⟩])
   .ret)
  .skip))
  (.seq (.drw [
    (⟨some 32, .mv (.t 0), none⟩, []),
    (⟨some 33, .mv (.t 5), none⟩, []),
    (⟨some 34, .ia (.t 32) (.t 33) 1, none⟩, [0, 1]),
    (⟨some 35, .ld 1 false (.t 34), none⟩, [2, 0, 1]),
    (⟨some 36, .mv (.t 1), none⟩, []),
    (⟨some 37, .mv (.t 5), none⟩, []),
    (⟨some 38, .ia (.t 36) (.t 37) 1, none⟩, [4, 5]),
    (⟨some 39, .ld 1 false (.t 38), none⟩, [6, 4, 5]),
    (⟨some 40, .bin .gtr (.t 35) (.t 39), none⟩, [3, 2, 0, 1, 7, 6, 4, 5])])
  (.cond (.t 40) (.seq (.reg [
     ⟨some 4, .mv (.c (.int .i64 1)), none⟩])
   .ret)
  .skip))))
  (.reg [
    ⟨some 21, .mv (.t 5), none⟩,
    ⟨some 22, .bin .sub (.t 21) (.c (.int .i64 1)), none⟩,
    ⟨some 5, .mv (.t 22), none⟩]))))))
 (.seq (.reg [
   ⟨some 4, .mv (.c (.int .i64 0)), none⟩])
 .ret))))),
  [.tmp 4]⟩
/-- besom/besomref01.square -/
def a133 : AFn := ⟨1, (.seq (.reg [
   ⟨some 1, .box 24 (.t 0), none⟩,
   ⟨some 2, .mvn 3 [.int .i64], none⟩])
 (.seq (.reg [
   ⟨some 5, .fa (.t 1) 0, none⟩,
   ⟨some 6, .ld 1 false (.t 5), none⟩,
   ⟨some 7, .call (.f 131) [(.t 6)], none⟩,
   ⟨some 8, .call (.f 130) [(.t 7)], none⟩,
   ⟨some 3, .mv (.t 8), none⟩])
 (.seq (.reg [
   ⟨some 9, .fa (.t 1) 1, none⟩,
   ⟨some 10, .ld 1 false (.t 9), none⟩,
   ⟨some 11, .call (.f 131) [(.t 10)], none⟩,
   ⟨some 12, .call (.f 130) [(.t 11)], none⟩,
   ⟨some 4, .mv (.t 12), none⟩])
 (.seq (.reg [
   ⟨some 13, .mv (.t 3), none⟩,
   ⟨some 14, .mv (.t 3), none⟩,
   ⟨some 15, .call (.f 134) [(.t 13), (.t 14)], none⟩,
   ⟨some 16, .mv (.t 4), none⟩,
   ⟨some 17, .mv (.t 4), none⟩,
   ⟨some 18, .call (.f 134) [(.t 16), (.t 17)], none⟩,
   ⟨some 19, .call (.f 190) [(.t 15), (.t 18)], none⟩,
   ⟨some 2, .mv (.t 19), none⟩])
 .ret)))),
  [.tmp 2]⟩
theorem c133 : chkFn Tryz.prog Tryz.f133 a133 = true := by kernel_rfl

/-- besom/besomref01.times -/
def a134 : AFn := ⟨2, (.seq (.reg [
   ⟨some 4, .mvn 3 [.int .i64], none⟩])
 (.seq (.reg [
   ⟨some 9, .mv (.t 0), none⟩,
   ⟨some 10, .len (.t 9), none⟩,
   ⟨some 11, .mv (.t 1), none⟩,
   ⟨some 12, .len (.t 11), none⟩,
   ⟨some 13, .bin .add (.t 10) (.t 12), none⟩,
   ⟨some 14, .msl 3 [.int .i64] 8 (0) (.t 13) (.t 13), none⟩,
   ⟨some 5, .mv (.t 14), none⟩])
 (.seq (.seq (.reg [
   ⟨some 6, .mv (.c (.int .i64 0)), none⟩])
 (.blk 0 (.loop 0 (.seq (.seq (.reg [
    ⟨some 15, .mv (.t 6), none⟩,
    ⟨some 16, .mv (.t 0), none⟩,
    ⟨some 17, .len (.t 16), none⟩,
    ⟨some 18, .bin .lss (.t 15) (.t 17), none⟩])
  (.cond (.t 18) .skip
  (.exit 0)))
  (.seq (.blk 1 (.seq (.reg [
    ⟨some 7, .mv (.c (.int .i64 0)), none⟩])
  (.seq (.seq (.reg [
    ⟨some 8, .mv (.c (.int .i64 0)), none⟩])
  (.blk 2 (.loop 1 (.seq (.seq (.reg [
     ⟨some 21, .mv (.t 8), none⟩,
     ⟨some 22, .mv (.t 1), none⟩,
     ⟨some 23, .len (.t 22), none⟩,
     ⟨some 24, .bin .lss (.t 21) (.t 23), none⟩])
   (.cond (.t 24) .skip
   (.exit 2)))
   (.seq (.blk 3 (.seq (.drw [
     (⟨some 27, .mv (.t 7), none⟩, []),
     (⟨some 28, .mv (.t 5), none⟩, []),
     (⟨some 29, .mv (.t 6), none⟩, []),
     (⟨some 30, .mv (.t 8), none⟩, []),
     (⟨some 31, .bin .add (.t 29) (.t 30), none⟩, [2, 3]),
     (⟨some 32, .ia (.t 28) (.t 31) 1, none⟩, [1, 4, 2, 3]),
     (⟨some 33, .ld 1 false (.t 32), none⟩, [5, 1, 4, 2, 3]),
     (⟨some 34, .bin .add (.t 27) (.t 33), none⟩, [0, 6, 5, 1, 4, 2, 3]),
     (⟨some 35, .mv (.t 0), none⟩, []),
     (⟨some 36, .mv (.t 6), none⟩, []),
     (⟨some 37, .ia (.t 35) (.t 36) 1, none⟩, [8, 9]),
     (⟨some 38, .ld 1 false (.t 37), none⟩, [10, 8, 9]),
     (⟨some 39, .mv (.t 1), none⟩, []),
     (⟨some 40, .mv (.t 8), none⟩, []),
     (⟨some 41, .ia (.t 39) (.t 40) 1, none⟩, [12, 13]),
     (⟨some 42, .ld 1 false (.t 41), none⟩, [14, 12, 13]),
     (⟨some 43, .bin .mul (.t 38) (.t 42), none⟩, [11, 10, 8, 9, 15, 14, 12, 13]),
     (⟨some 44, .bin .add (.t 34) (.t 43), none⟩, [7, 0, 6, 5, 1, 4, 2, 3, 16, 11, 10, 8, 9, 15, 14, 12, 13]),
     (⟨some 7, .mv (.t 44), none⟩, [17, 7, 0, 6, 5, 1, 4, 2, 3, 16, 11, 10, 8, 9, 15, 14, 12, 13])])
   (.seq (.reg [
     ⟨some 45, .mv (.t 5), none⟩,
     ⟨some 46, .mv (.t 6), none⟩,
     ⟨some 47, .mv (.t 8), none⟩,
     ⟨some 48, .bin .add (.t 46) (.t 47), none⟩,
     ⟨some 49, .mv (.t 7), none⟩,
     ⟨some 50, .bin .rem (.t 49) (.c (.int .i64 32768)), none⟩,
     ⟨some 51, .ia (.t 45) (.t 48) 1, none⟩,
     ⟨none, .st 1 (.t 51) (.t 50), none⟩])
   (.reg [
     ⟨some 52, .mv (.t 7), none⟩,
     ⟨some 53, .bin .quo (.t 52) (.c (.int .i64 32768)), none⟩,
     ⟨some 7, .mv (.t 53), none⟩]))))
   (.reg [
     ⟨some 25, .mv (.t 8), none⟩,
     ⟨some 26, .bin .add (.t 25) (.c (.int .i64 1)), none⟩,
     ⟨some 8, .mv (.t 26), none⟩]))))))
  (.reg [
    ⟨some 54, .mv (.t 5), none⟩,
    ⟨some 55, .mv (.t 6), none⟩,
    ⟨some 56, .mv (.t 1), none⟩,
    ⟨some 57, .len (.t 56), none⟩,
    ⟨some 58, .bin .add (.t 55) (.t 57), none⟩,
    ⟨some 59, .mv (.t 7), none⟩,
    ⟨some 60, .ia (.t 54) (.t 58) 1, none⟩,
    ⟨none, .st 1 (.t 60) (.t 59), none⟩]))))
  (.reg [
    ⟨some 19, .mv (.t 6), none⟩,
    ⟨some 20, .bin .add (.t 19) (.c (.int .i64 1)), none⟩,
    ⟨some 6, .mv (.t 20), none⟩]))))))
 (.seq (.reg [
   ⟨some 61, .mv (.t 5), none⟩,
   ⟨some 62, .call (.f 191) [(.t 61)], none⟩,
   ⟨some 4, .mv (.t 62), none⟩])
 .ret)))),
  [.tmp 4]⟩
/-- besom/fixed.tried[besom/api.Spot] -/
def a135 : TFn := ⟨(.reg [
   ⟨some 2, .alloc 24 [(.int .i64 0), (.int .i64 0)], none⟩,
   ⟨some 3, .alloc 29 [(.int .i64 0)], none⟩]), 192, [2, 3], 4,
 (.seq (.reg [
   ⟨some 5, .mv (.t 0), none⟩,
   ⟨some 6, .call (.t 5) [], none⟩,
   ⟨none, .st 2 (.t 2) (.t 6), none⟩,
   ⟨none, .st 1 (.t 3) (.c (.int .i64 0)), none⟩])
 .ret),
  [.cell 2 2 true, .cell 3 1 false], 6, 2,
 (.seq (.reg [
   ⟨some 8, .mv (.t 2), none⟩,
   ⟨some 9, .tas 219 [(.int .i64 0)] (.t 8), none⟩,
   ⟨some 7, .mv (.t 9), none⟩,
   ⟨some 10, .ext (.t 7) 0, none⟩,
   ⟨some 11, .ext (.t 7) 1, none⟩,
   ⟨some 3, .alloc 219 [(.int .i64 0)], none⟩,
   ⟨none, .st 1 (.t 3) (.t 10), none⟩,
   ⟨some 4, .mv (.t 11), none⟩])
 (.seq (.reg [
   ⟨some 12, .mv (.t 4), none⟩])
 (.cond (.t 12) (.seq (.reg [
    ⟨some 5, .alloc 24 [(.int .i64 0), (.int .i64 0)], none⟩])
  (.drw [
    (⟨some 13, .ld 2 true (.t 5), none⟩, []),
    (⟨some 14, .fa (.t 3) 0, none⟩, []),
    (⟨some 15, .ld 1 false (.t 14), none⟩, [1]),
    (⟨none, .st 2 (.t 0) (.t 13), none⟩, [0]),
    (⟨none, .st 1 (.t 1) (.t 15), none⟩, [2, 1, 3, 0])]))
 (.seq (.reg [
    ⟨some 16, .mv (.t 2), none⟩,
    ⟨some 17, .ifn true (.t 16), none⟩])
  (.cond (.t 17) (.reg [
     ⟨some 18, .mv (.t 2), none⟩,
     ⟨none, .pan (.t 18), none⟩])
  .skip)))))⟩
theorem c135 : chkMain Tryz.prog Tryz.f135 a135 = true := by kernel_rfl
theorem d135 : chkDef Tryz.prog Tryz.f192 a135 = true := by kernel_rfl

/-- besom/fixed.Unit$1 -/
def a136 : AFn := ⟨1, (.seq (.reg [
   ⟨some 1, .alloc 24 [(.int .i64 0), (.int .i64 0)], none⟩])
 (.seq (.reg [
   ⟨some 5, .ld 2 true (.t 0), none⟩,
   ⟨some 6, .call (.f 124) [(.t 5)], none⟩,
   ⟨some 2, .alloc 167 [(.int .u64 0), (.int .u64 0)], none⟩,
   ⟨none, .st 2 (.t 2) (.t 6), none⟩])
 (.seq (.reg [
   ⟨some 7, .ld 2 true (.t 2), none⟩,
   ⟨some 8, .bld [(.int .u64 0), (.int .u64 0)] [], none⟩,
   ⟨some 9, .eqa true [.int .u64, .int .u64] (.t 7) (.t 8), none⟩,
   ⟨some 10, .call (.f 100) [(.t 9), (.c (.int .i64 10))], none⟩])
 (.seq (.reg [
   ⟨some 12, .ld 2 true (.t 0), none⟩,
   ⟨some 13, .ld 2 true (.t 0), none⟩,
   ⟨some 14, .mkf 137 [] [(.t 2)], none⟩,
   ⟨some 15, .call (.f 92) [(.t 12), (.t 13), (.t 14)], none⟩,
   ⟨some 11, .mv (.t 15), none⟩,
   ⟨some 16, .ext (.t 11) 0, none⟩,
   ⟨some 17, .ext (.t 11) 1, none⟩,
   ⟨some 3, .alloc 24 [(.int .i64 0), (.int .i64 0)], none⟩,
   ⟨none, .st 2 (.t 3) (.t 16), none⟩,
   ⟨some 4, .mv (.t 17), none⟩])
 (.seq (.reg [
   ⟨some 18, .ld 2 true (.t 3), none⟩,
   ⟨none, .st 2 (.t 1) (.t 18), none⟩])
 .ret))))),
  [.cell 1 2 true]⟩
theorem c136 : chkFn Tryz.prog Tryz.f136 a136 = true := by kernel_rfl

/-- besom/fixed.Unit$1$1 -/
def a137 : AFn := ⟨3, (.seq (.reg [
   ⟨some 5, .mv (.c (.int .i64 0)), none⟩])
 (.seq (.drw [
   (⟨some 6, .mv (.t 0), none⟩, []),
   (⟨some 7, .call (.f 126) [(.t 6)], none⟩, [0]),
   (⟨some 8, .ld 2 true (.t 2), none⟩, []),
   (⟨some 9, .call (.f 139) [(.t 7), (.t 8)], none⟩, [1, 0, 2]),
   (⟨some 10, .mv (.t 0), none⟩, []),
   (⟨some 11, .bin .lss (.t 10) (.c (.int .i64 0)), none⟩, [4]),
   (⟨some 12, .call (.f 138) [(.t 9), (.t 11)], none⟩, [3, 1, 0, 2, 5, 4]),
   (⟨some 5, .mv (.t 12), none⟩, [6, 3, 1, 0, 2, 5, 4])])
 .ret)),
  [.tmp 5]⟩
theorem c137 : chkFn Tryz.prog Tryz.f137 a137 = true := by kernel_rfl

/-- besom/fixed.signed -/
def a138 : AFn := ⟨2, (.seq (.reg [
   ⟨some 4, .mv (.c (.int .i64 0)), none⟩])
 (.seq (.reg [
   ⟨some 5, .mv (.t 0), none⟩,
   ⟨some 6, .bin .leq (.t 5) (.c (.int .u64 70368744177664)), none⟩,
   ⟨some 7, .call (.f 100) [(.t 6), (.c (.int .i64 4))], none⟩])
 (.seq (.seq (.reg [
   ⟨some 8, .mv (.t 1), none⟩])
 (.cond (.t 8) (.seq (.reg [
    ⟨some 9, .mv (.t 0), none⟩,
    ⟨some 10, .cv .i64 (.t 9), none⟩,
    ⟨some 11, .neg (.t 10), none⟩,
    ⟨some 4, .mv (.t 11), none⟩])
  .ret)
 .skip))
 (.seq (.reg [
   ⟨some 12, .mv (.t 0), none⟩,
   ⟨some 13, .cv .i64 (.t 12), none⟩,
   ⟨some 4, .mv (.t 13), none⟩])
 .ret)))),
  [.tmp 4]⟩
theorem c138 : chkFn Tryz.prog Tryz.f138 a138 = true := by kernel_rfl

/-- besom/fixed.share -/
def a139 : AFn := ⟨2, (.seq (.reg [
   ⟨some 3, .box 167 (.t 1), none⟩,
   ⟨some 4, .mv (.c (.int .u64 0)), none⟩])
 (.seq (.reg [
   ⟨some 5, .mv (.c (.int .u64 0)), none⟩])
 (.seq (.seq (.reg [
   ⟨some 6, .mv (.c (.int .u64 65536)), none⟩])
 (.blk 0 (.loop 0 (.seq (.seq (.reg [
    ⟨some 8, .mv (.t 6), none⟩,
    ⟨some 9, .bin .gtr (.t 8) (.c (.int .u64 0)), none⟩])
  (.cond (.t 9) .skip
  (.exit 0)))
  (.seq (.blk 1 (.seq (.reg [
    ⟨some 12, .mv (.t 5), none⟩,
    ⟨some 13, .mv (.t 6), none⟩,
    ⟨some 14, .bin .or (.t 12) (.t 13), none⟩,
    ⟨some 7, .mv (.t 14), none⟩])
  (.seq (.reg [
    ⟨some 15, .mv (.t 7), none⟩,
    ⟨some 16, .bin .leq (.t 15) (.c (.int .u64 65536)), none⟩,
    ⟨some 17, .mv (.t 16), none⟩,
    ⟨some 18, .mv (.t 7), some (17, true)⟩,
    ⟨some 19, .ld 2 true (.t 3), some (17, true)⟩,
    ⟨some 20, .mv (.t 0), some (17, true)⟩,
    ⟨some 21, .call (.f 193) [(.t 18), (.t 19), (.t 20)], some (17, true)⟩,
    ⟨some 22, .pick (.t 17) (.t 21) (.c (.bool false)), none⟩])
  (.cond (.t 22) (.reg [
     ⟨some 23, .mv (.t 7), none⟩,
     ⟨some 5, .mv (.t 23), none⟩])
  .skip))))
  (.reg [
    ⟨some 10, .mv (.t 6), none⟩,
    ⟨some 11, .bin .shr (.t 10) (.c (.int .u64 1)), none⟩,
    ⟨some 6, .mv (.t 11), none⟩]))))))
 (.seq (.reg [
   ⟨some 24, .mv (.t 5), none⟩,
   ⟨some 4, .mv (.t 24), none⟩])
 .ret)))),
  [.tmp 4]⟩
theorem c139 : chkFn Tryz.prog Tryz.f139 a139 = true := by kernel_rfl

/-- besom/fixed.Dot$1 -/
def a140 : AFn := ⟨3, (.seq (.reg [
   ⟨some 3, .mv (.c (.int .i64 0)), none⟩])
 (.seq (.reg [
   ⟨some 9, .fa (.t 0) 0, none⟩,
   ⟨some 10, .ld 1 false (.t 9), none⟩,
   ⟨some 11, .fa (.t 0) 1, none⟩,
   ⟨some 12, .ld 1 false (.t 11), none⟩,
   ⟨some 13, .fa (.t 1) 0, none⟩,
   ⟨some 14, .ld 1 false (.t 13), none⟩,
   ⟨some 15, .fa (.t 1) 1, none⟩,
   ⟨some 16, .ld 1 false (.t 15), none⟩,
   ⟨some 17, .bsl 22 [.int .i64] 4 [(.int .i64 0), (.int .i64 0), (.int .i64 0), (.int .i64 0)] [(0, 1, (.t 10)), (1, 1, (.t 12)), (2, 1, (.t 14)), (3, 1, (.t 16))], none⟩,
   ⟨some 18, .call (.f 98) [(.t 17)], none⟩])
 (.seq (.reg [
   ⟨some 19, .ld 1 false (.t 2), none⟩,
   ⟨some 20, .call (.f 99) [(.t 19)], none⟩,
   ⟨some 4, .mv (.t 20), none⟩])
 (.seq (.drw [
   (⟨some 21, .fa (.t 0) 0, none⟩, []),
   (⟨some 22, .ld 1 false (.t 21), none⟩, [0]),
   (⟨some 23, .call (.f 126) [(.t 22)], none⟩, [1, 0]),
   (⟨some 24, .fa (.t 1) 0, none⟩, []),
   (⟨some 25, .ld 1 false (.t 24), none⟩, [3]),
   (⟨some 26, .call (.f 126) [(.t 25)], none⟩, [4, 3, 2, 1, 0]),
   (⟨some 27, .call (.f 102) [(.t 23), (.t 26)], none⟩, [2, 1, 0, 5, 4, 3]),
   (⟨some 28, .fa (.t 0) 1, none⟩, []),
   (⟨some 29, .ld 1 false (.t 28), none⟩, [7]),
   (⟨some 30, .call (.f 126) [(.t 29)], none⟩, [8, 7, 6, 2, 1, 0, 5, 4, 3]),
   (⟨some 31, .fa (.t 1) 1, none⟩, []),
   (⟨some 32, .ld 1 false (.t 31), none⟩, [10]),
   (⟨some 33, .call (.f 126) [(.t 32)], none⟩, [11, 10, 9, 8, 7, 6, 2, 1, 0, 5, 4, 3]),
   (⟨some 34, .call (.f 102) [(.t 30), (.t 33)], none⟩, [9, 8, 7, 6, 2, 1, 0, 5, 4, 3, 12, 11, 10]),
   (⟨some 5, .alloc 167 [(.int .u64 0), (.int .u64 0)], none⟩, []),
   (⟨some 6, .alloc 167 [(.int .u64 0), (.int .u64 0)], none⟩, []),
   (⟨none, .st 2 (.t 5) (.t 27), none⟩, [14, 6, 2, 1, 0, 5, 4, 3, 13, 9, 8, 7, 12, 11, 10, 15]),
   (⟨none, .st 2 (.t 6) (.t 34), none⟩, [15, 13, 9, 8, 7, 6, 2, 1, 0, 5, 4, 3, 12, 11, 10, 16, 14])])
 (.seq (.drw [
   (⟨some 35, .fa (.t 0) 0, none⟩, []),
   (⟨some 36, .ld 1 false (.t 35), none⟩, [0]),
   (⟨some 37, .bin .lss (.t 36) (.c (.int .i64 0)), none⟩, [1, 0]),
   (⟨some 38, .fa (.t 1) 0, none⟩, []),
   (⟨some 39, .ld 1 false (.t 38), none⟩, [3]),
   (⟨some 40, .bin .lss (.t 39) (.c (.int .i64 0)), none⟩, [4, 3]),
   (⟨some 41, .binb true (.t 37) (.t 40), none⟩, [2, 1, 0, 5, 4, 3]),
   (⟨some 42, .fa (.t 0) 1, none⟩, []),
   (⟨some 43, .ld 1 false (.t 42), none⟩, [7]),
   (⟨some 44, .bin .lss (.t 43) (.c (.int .i64 0)), none⟩, [8, 7]),
   (⟨some 45, .fa (.t 1) 1, none⟩, []),
   (⟨some 46, .ld 1 false (.t 45), none⟩, [10]),
   (⟨some 47, .bin .lss (.t 46) (.c (.int .i64 0)), none⟩, [11, 10]),
   (⟨some 48, .binb true (.t 44) (.t 47), none⟩, [9, 8, 7, 12, 11, 10]),
   (⟨some 7, .mv (.t 41), none⟩, [6, 2, 1, 0, 5, 4, 3]),
   (⟨some 8, .mv (.t 48), none⟩, [13, 9, 8, 7, 12, 11, 10, 14, 6, 2, 1, 0, 5, 4, 3])])
 (.seq (.blk 0 (.seq (.reg [
   ⟨some 50, .mv (.t 7), none⟩,
   ⟨some 51, .mv (.t 8), none⟩,
   ⟨some 52, .binb false (.t 50) (.t 51), none⟩,
   ⟨some 49, .mv (.t 52), none⟩])
 (.cond (.t 49) (.seq (.reg [
    ⟨some 53, .ld 2 true (.t 5), none⟩,
    ⟨some 54, .ld 2 true (.t 6), none⟩,
    ⟨some 55, .call (.f 142) [(.t 53), (.t 54)], none⟩,
    ⟨some 56, .mv (.t 7), none⟩,
    ⟨some 57, .mv (.t 4), none⟩,
    ⟨some 58, .call (.f 141) [(.t 55), (.c (.int .u64 65536)), (.t 56), (.t 57)], none⟩,
    ⟨some 3, .mv (.t 58), none⟩])
  .ret)
 (.seq (.reg [
    ⟨some 60, .ld 2 true (.t 5), none⟩,
    ⟨some 61, .ld 2 true (.t 6), none⟩,
    ⟨some 62, .call (.f 125) [(.t 60), (.t 61)], none⟩,
    ⟨some 63, .bin .geq (.t 62) (.c (.int .i64 0)), none⟩,
    ⟨some 59, .mv (.t 63), none⟩])
  (.cond (.t 59) (.seq (.reg [
     ⟨some 64, .ld 2 true (.t 5), none⟩,
     ⟨some 65, .ld 2 true (.t 6), none⟩,
     ⟨some 66, .call (.f 143) [(.t 64), (.t 65)], none⟩,
     ⟨some 67, .mv (.t 7), none⟩,
     ⟨some 68, .mv (.t 4), none⟩,
     ⟨some 69, .call (.f 141) [(.t 66), (.c (.int .u64 65536)), (.t 67), (.t 68)], none⟩,
     ⟨some 3, .mv (.t 69), none⟩])
   .ret)
  .skip)))))
 (.seq (.reg [
   ⟨some 70, .ld 2 true (.t 6), none⟩,
   ⟨some 71, .ld 2 true (.t 5), none⟩,
   ⟨some 72, .call (.f 143) [(.t 70), (.t 71)], none⟩,
   ⟨some 73, .mv (.t 8), none⟩,
   ⟨some 74, .mv (.t 4), none⟩,
   ⟨some 75, .call (.f 141) [(.t 72), (.c (.int .u64 65536)), (.t 73), (.t 74)], none⟩,
   ⟨some 3, .mv (.t 75), none⟩])
 .ret))))))),
  [.tmp 3]⟩
theorem c140 : chkFn Tryz.prog Tryz.f140 a140 = true := by kernel_rfl

/-- besom/fixed.quotient -/
def a141 : AFn := ⟨4, (.seq (.reg [
   ⟨some 4, .box 167 (.t 0), none⟩,
   ⟨some 8, .mv (.c (.int .i64 0)), none⟩])
 (.seq (.reg [
   ⟨some 13, .ld 2 true (.t 4), none⟩,
   ⟨some 14, .mv (.t 1), none⟩,
   ⟨some 15, .call (.f 194) [(.t 13), (.t 14)], none⟩,
   ⟨some 12, .mv (.t 15), none⟩,
   ⟨some 16, .ext (.t 12) 0, none⟩,
   ⟨some 17, .ext (.t 12) 1, none⟩,
   ⟨some 18, .ext (.t 12) 2, none⟩,
   ⟨some 9, .mv (.t 16), none⟩,
   ⟨some 10, .mv (.t 17), none⟩,
   ⟨some 11, .mv (.t 18), none⟩])
 (.seq (.reg [
   ⟨some 19, .mv (.t 11), none⟩,
   ⟨some 20, .mv (.t 19), none⟩,
   ⟨some 21, .mv (.t 9), some (20, true)⟩,
   ⟨some 22, .bin .lss (.t 21) (.c (.int .u64 9223372036854775808)), some (20, true)⟩,
   ⟨some 23, .pick (.t 20) (.t 22) (.c (.bool false)), none⟩,
   ⟨some 24, .call (.f 100) [(.t 23), (.c (.int .i64 4))], none⟩])
 (.seq (.seq (.reg [
   ⟨some 25, .mv (.t 10), none⟩,
   ⟨some 26, .bin .gtr (.t 25) (.c (.int .u64 0)), none⟩,
   ⟨some 27, .mv (.t 26), none⟩,
   ⟨some 28, .mv (.t 3), some (27, true)⟩,
   ⟨some 29, .mv (.t 10), some (27, true)⟩,
   ⟨some 30, .bld [(.int .u64 0), (.int .u64 0)] [(1, 1, (.t 29))], some (27, true)⟩,
   ⟨some 31, .mv (.t 10), some (27, true)⟩,
   ⟨some 32, .bld [(.int .u64 0), (.int .u64 0)] [(1, 1, (.t 31))], some (27, true)⟩,
   ⟨some 33, .call (.f 142) [(.t 30), (.t 32)], some (27, true)⟩,
   ⟨some 34, .mv (.t 1), some (27, true)⟩,
   ⟨some 35, .bld [(.int .u64 0), (.int .u64 0)] [(1, 1, (.t 34))], some (27, true)⟩,
   ⟨some 36, .call (.f 125) [(.t 33), (.t 35)], some (27, true)⟩,
   ⟨some 37, .mv (.t 2), some (27, true)⟩,
   ⟨some 38, .call (.t 28) [(.t 36), (.t 37)], some (27, true)⟩,
   ⟨some 39, .pick (.t 27) (.t 38) (.c (.bool false)), none⟩])
 (.cond (.t 39) (.reg [
    ⟨some 40, .mv (.t 9), none⟩,
    ⟨some 41, .bin .add (.t 40) (.c (.int .u64 1)), none⟩,
    ⟨some 9, .mv (.t 41), none⟩])
 .skip))
 (.seq (.reg [
   ⟨some 42, .mv (.t 9), none⟩,
   ⟨some 43, .mv (.t 2), none⟩,
   ⟨some 44, .call (.f 138) [(.t 42), (.t 43)], none⟩,
   ⟨some 8, .mv (.t 44), none⟩])
 .ret))))),
  [.tmp 8]⟩
theorem c141 : chkFn Tryz.prog Tryz.f141 a141 = true := by kernel_rfl

/-- (besom/fixed.wide).plus -/
def a142 : AFn := ⟨2, (.seq (.reg [
   ⟨some 2, .box 167 (.t 0), none⟩,
   ⟨some 3, .box 167 (.t 1), none⟩,
   ⟨some 4, .alloc 167 [(.int .u64 0), (.int .u64 0)], none⟩])
 (.seq (.reg [
   ⟨some 10, .fa (.t 2) 1, none⟩,
   ⟨some 11, .ld 1 false (.t 10), none⟩,
   ⟨some 12, .fa (.t 3) 1, none⟩,
   ⟨some 13, .ld 1 false (.t 12), none⟩,
   ⟨some 14, .call (.f 195) [(.t 11), (.t 13), (.c (.int .u64 0))], none⟩,
   ⟨some 9, .mv (.t 14), none⟩,
   ⟨some 15, .ext (.t 9) 0, none⟩,
   ⟨some 16, .ext (.t 9) 1, none⟩,
   ⟨some 5, .mv (.t 15), none⟩,
   ⟨some 6, .mv (.t 16), none⟩])
 (.seq (.reg [
   ⟨some 18, .fa (.t 2) 0, none⟩,
   ⟨some 19, .ld 1 false (.t 18), none⟩,
   ⟨some 20, .fa (.t 3) 0, none⟩,
   ⟨some 21, .ld 1 false (.t 20), none⟩,
   ⟨some 22, .mv (.t 6), none⟩,
   ⟨some 23, .call (.f 195) [(.t 19), (.t 21), (.t 22)], none⟩,
   ⟨some 17, .mv (.t 23), none⟩,
   ⟨some 24, .ext (.t 17) 0, none⟩,
   ⟨some 25, .ext (.t 17) 1, none⟩,
   ⟨some 7, .mv (.t 24), none⟩,
   ⟨some 8, .mv (.t 25), none⟩])
 (.seq (.reg [
   ⟨some 26, .mv (.t 7), none⟩,
   ⟨some 27, .mv (.t 5), none⟩,
   ⟨some 28, .bld [(.int .u64 0), (.int .u64 0)] [(0, 1, (.t 26)), (1, 1, (.t 27))], none⟩,
   ⟨none, .st 2 (.t 4) (.t 28), none⟩])
 .ret)))),
  [.cell 4 2 true]⟩
theorem c142 : chkFn Tryz.prog Tryz.f142 a142 = true := by kernel_rfl

/-- (besom/fixed.wide).minus -/
def a143 : AFn := ⟨2, (.seq (.reg [
   ⟨some 2, .box 167 (.t 0), none⟩,
   ⟨some 3, .box 167 (.t 1), none⟩,
   ⟨some 4, .alloc 167 [(.int .u64 0), (.int .u64 0)], none⟩])
 (.seq (.reg [
   ⟨some 10, .fa (.t 2) 1, none⟩,
   ⟨some 11, .ld 1 false (.t 10), none⟩,
   ⟨some 12, .fa (.t 3) 1, none⟩,
   ⟨some 13, .ld 1 false (.t 12), none⟩,
   ⟨some 14, .call (.f 196) [(.t 11), (.t 13), (.c (.int .u64 0))], none⟩,
   ⟨some 9, .mv (.t 14), none⟩,
   ⟨some 15, .ext (.t 9) 0, none⟩,
   ⟨some 16, .ext (.t 9) 1, none⟩,
   ⟨some 5, .mv (.t 15), none⟩,
   ⟨some 6, .mv (.t 16), none⟩])
 (.seq (.reg [
   ⟨some 18, .fa (.t 2) 0, none⟩,
   ⟨some 19, .ld 1 false (.t 18), none⟩,
   ⟨some 20, .fa (.t 3) 0, none⟩,
   ⟨some 21, .ld 1 false (.t 20), none⟩,
   ⟨some 22, .mv (.t 6), none⟩,
   ⟨some 23, .call (.f 196) [(.t 19), (.t 21), (.t 22)], none⟩,
   ⟨some 17, .mv (.t 23), none⟩,
   ⟨some 24, .ext (.t 17) 0, none⟩,
   ⟨some 25, .ext (.t 17) 1, none⟩,
   ⟨some 7, .mv (.t 24), none⟩,
   ⟨some 8, .mv (.t 25), none⟩])
 (.seq (.reg [
   ⟨some 26, .mv (.t 7), none⟩,
   ⟨some 27, .mv (.t 5), none⟩,
   ⟨some 28, .bld [(.int .u64 0), (.int .u64 0)] [(0, 1, (.t 26)), (1, 1, (.t 27))], none⟩,
   ⟨none, .st 2 (.t 4) (.t 28), none⟩])
 .ret)))),
  [.cell 4 2 true]⟩
theorem c143 : chkFn Tryz.prog Tryz.f143 a143 = true := by kernel_rfl

/-- besom/fixed.tried[besom/fixed.rounding] -/
def a144 : TFn := ⟨(.reg [
   ⟨some 2, .alloc 161 [.nfn], none⟩,
   ⟨some 3, .alloc 29 [(.int .i64 0)], none⟩]), 197, [2, 3], 4,
 (.seq (.reg [
   ⟨some 5, .mv (.t 0), none⟩,
   ⟨some 6, .call (.t 5) [], none⟩,
   ⟨none, .st 1 (.t 2) (.t 6), none⟩,
   ⟨none, .st 1 (.t 3) (.c (.int .i64 0)), none⟩])
 .ret),
  [.cell 2 1 false, .cell 3 1 false], 6, 2,
 (.seq (.reg [
   ⟨some 8, .mv (.t 2), none⟩,
   ⟨some 9, .tas 219 [(.int .i64 0)] (.t 8), none⟩,
   ⟨some 7, .mv (.t 9), none⟩,
   ⟨some 10, .ext (.t 7) 0, none⟩,
   ⟨some 11, .ext (.t 7) 1, none⟩,
   ⟨some 3, .alloc 219 [(.int .i64 0)], none⟩,
   ⟨none, .st 1 (.t 3) (.t 10), none⟩,
   ⟨some 4, .mv (.t 11), none⟩])
 (.seq (.reg [
   ⟨some 12, .mv (.t 4), none⟩])
 (.cond (.t 12) (.seq (.reg [
    ⟨some 5, .mv (.c .nfn), none⟩])
  (.drw [
    (⟨some 13, .mv (.t 5), none⟩, []),
    (⟨some 14, .fa (.t 3) 0, none⟩, []),
    (⟨some 15, .ld 1 false (.t 14), none⟩, [1]),
    (⟨none, .st 1 (.t 0) (.t 13), none⟩, [0]),
    (⟨none, .st 1 (.t 1) (.t 15), none⟩, [2, 1, 3, 0])]))
 (.seq (.reg [
    ⟨some 16, .mv (.t 2), none⟩,
    ⟨some 17, .ifn true (.t 16), none⟩])
  (.cond (.t 17) (.reg [
     ⟨some 18, .mv (.t 2), none⟩,
     ⟨none, .pan (.t 18), none⟩])
  .skip)))))⟩
theorem c144 : chkMain Tryz.prog Tryz.f144 a144 = true := by kernel_rfl
theorem d144 : chkDef Tryz.prog Tryz.f197 a144 = true := by kernel_rfl

/-- besom/fixed.Times$1 -/
def a145 : AFn := ⟨3, (.seq (.reg [
   ⟨some 3, .mv (.c .nfn), none⟩])
 (.seq (.reg [
   ⟨some 4, .fa (.t 0) 0, none⟩,
   ⟨some 5, .ld 1 false (.t 4), none⟩,
   ⟨some 6, .fa (.t 0) 1, none⟩,
   ⟨some 7, .ld 1 false (.t 6), none⟩,
   ⟨some 8, .ld 1 false (.t 1), none⟩,
   ⟨some 9, .bsl 22 [.int .i64] 3 [(.int .i64 0), (.int .i64 0), (.int .i64 0)] [(0, 1, (.t 5)), (1, 1, (.t 7)), (2, 1, (.t 8))], none⟩,
   ⟨some 10, .call (.f 98) [(.t 9)], none⟩])
 (.seq (.reg [
   ⟨some 11, .ld 1 false (.t 2), none⟩,
   ⟨some 12, .call (.f 99) [(.t 11)], none⟩,
   ⟨some 3, .mv (.t 12), none⟩])
 .ret))),
  [.tmp 3]⟩
theorem c145 : chkFn Tryz.prog Tryz.f145 a145 = true := by kernel_rfl

/-- besom/fixed.Times$2 -/
def a146 : AFn := ⟨4, (.seq (.reg [
   ⟨some 6, .mv (.c (.int .i64 0)), none⟩])
 (.seq (.reg [
   ⟨some 7, .mv (.t 0), none⟩,
   ⟨some 8, .ld 1 false (.t 2), none⟩,
   ⟨some 9, .ld 1 false (.t 3), none⟩,
   ⟨some 10, .call (.f 147) [(.t 7), (.t 8), (.t 9)], none⟩,
   ⟨some 6, .mv (.t 10), none⟩])
 .ret)),
  [.tmp 6]⟩
theorem c146 : chkFn Tryz.prog Tryz.f146 a146 = true := by kernel_rfl

/-- besom/fixed.mul -/
def a147 : AFn := ⟨3, (.seq (.reg [
   ⟨some 6, .mv (.c (.int .i64 0)), none⟩])
 (.seq (.reg [
   ⟨some 7, .mv (.t 0), none⟩,
   ⟨some 8, .mv (.t 1), none⟩,
   ⟨some 9, .bsl 22 [.int .i64] 2 [(.int .i64 0), (.int .i64 0)] [(0, 1, (.t 7)), (1, 1, (.t 8))], none⟩,
   ⟨some 10, .call (.f 98) [(.t 9)], none⟩])
 (.seq (.reg [
   ⟨some 11, .mv (.t 0), none⟩,
   ⟨some 12, .call (.f 126) [(.t 11)], none⟩,
   ⟨some 13, .mv (.t 1), none⟩,
   ⟨some 14, .call (.f 126) [(.t 13)], none⟩,
   ⟨some 15, .call (.f 102) [(.t 12), (.t 14)], none⟩,
   ⟨some 16, .mv (.t 0), none⟩,
   ⟨some 17, .bin .lss (.t 16) (.c (.int .i64 0)), none⟩,
   ⟨some 18, .mv (.t 1), none⟩,
   ⟨some 19, .bin .lss (.t 18) (.c (.int .i64 0)), none⟩,
   ⟨some 20, .binb true (.t 17) (.t 19), none⟩,
   ⟨some 21, .mv (.t 2), none⟩,
   ⟨some 22, .call (.f 141) [(.t 15), (.c (.int .u64 65536)), (.t 20), (.t 21)], none⟩,
   ⟨some 6, .mv (.t 22), none⟩])
 .ret))),
  [.tmp 6]⟩
theorem c147 : chkFn Tryz.prog Tryz.f147 a147 = true := by kernel_rfl

/-- besom/fixed.Scale$1 -/
def a148 : AFn := ⟨4, (.seq (.reg [
   ⟨some 4, .mv (.c (.int .i64 0)), none⟩])
 (.seq (.reg [
   ⟨some 6, .ld 1 false (.t 0), none⟩,
   ⟨some 7, .bsl 22 [.int .i64] 1 [(.int .i64 0)] [(0, 1, (.t 6))], none⟩,
   ⟨some 8, .call (.f 98) [(.t 7)], none⟩])
 (.seq (.reg [
   ⟨some 9, .ld 1 false (.t 1), none⟩,
   ⟨some 10, .call (.f 99) [(.t 9)], none⟩,
   ⟨some 5, .mv (.t 10), none⟩])
 (.seq (.reg [
   ⟨some 11, .ld 1 false (.t 2), none⟩,
   ⟨some 12, .bin .geq (.t 11) (.c (.int .i64 (-2147483648))), none⟩,
   ⟨some 13, .mv (.t 12), none⟩,
   ⟨some 14, .ld 1 false (.t 2), some (13, true)⟩,
   ⟨some 15, .bin .leq (.t 14) (.c (.int .i64 2147483648)), some (13, true)⟩,
   ⟨some 16, .pick (.t 13) (.t 15) (.c (.bool false)), none⟩,
   ⟨some 17, .mv (.t 16), none⟩,
   ⟨some 18, .ld 1 false (.t 3), some (17, true)⟩,
   ⟨some 19, .bin .geq (.t 18) (.c (.int .i64 (-2147483648))), some (17, true)⟩,
   ⟨some 20, .pick (.t 17) (.t 19) (.c (.bool false)), none⟩,
   ⟨some 21, .mv (.t 20), none⟩,
   ⟨some 22, .ld 1 false (.t 3), some (21, true)⟩,
   ⟨some 23, .bin .leq (.t 22) (.c (.int .i64 2147483648)), some (21, true)⟩,
   ⟨some 24, .pick (.t 21) (.t 23) (.c (.bool false)), none⟩,
   ⟨some 25, .call (.f 100) [(.t 24), (.c (.int .i64 2))], none⟩])
 (.seq (.reg [
   ⟨some 26, .ld 1 false (.t 3), none⟩,
   ⟨some 27, .bin .neq (.t 26) (.c (.int .i64 0)), none⟩,
   ⟨some 28, .call (.f 100) [(.t 27), (.c (.int .i64 10))], none⟩])
 (.seq (.drw [
   (⟨some 29, .ld 1 false (.t 0), none⟩, []),
   (⟨some 30, .call (.f 126) [(.t 29)], none⟩, [0]),
   (⟨some 31, .ld 1 false (.t 2), none⟩, []),
   (⟨some 32, .call (.f 149) [(.t 31)], none⟩, [2, 1, 0]),
   (⟨some 33, .call (.f 102) [(.t 30), (.t 32)], none⟩, [1, 0, 3, 2]),
   (⟨some 34, .ld 1 false (.t 3), none⟩, []),
   (⟨some 35, .call (.f 149) [(.t 34)], none⟩, [5, 4, 1, 0, 3, 2]),
   (⟨some 36, .ld 1 false (.t 0), none⟩, []),
   (⟨some 37, .bin .lss (.t 36) (.c (.int .i64 0)), none⟩, [7]),
   (⟨some 38, .ld 1 false (.t 2), none⟩, []),
   (⟨some 39, .bin .lss (.t 38) (.c (.int .i64 0)), none⟩, [9]),
   (⟨some 40, .ld 1 false (.t 3), none⟩, []),
   (⟨some 41, .bin .lss (.t 40) (.c (.int .i64 0)), none⟩, [11]),
   (⟨some 42, .binb true (.t 39) (.t 41), none⟩, [10, 9, 12, 11]),
   (⟨some 43, .binb true (.t 37) (.t 42), none⟩, [8, 7, 13, 10, 9, 12, 11]),
   (⟨some 44, .mv (.t 5), none⟩, []),
   (⟨some 45, .call (.f 141) [(.t 33), (.t 35), (.t 43), (.t 44)], none⟩, [4, 1, 0, 3, 2, 6, 5, 14, 8, 7, 13, 10, 9, 12, 11, 15]),
   (⟨some 4, .mv (.t 45), none⟩, [16, 4, 1, 0, 3, 2, 6, 5, 14, 8, 7, 13, 10, 9, 12, 11, 15])])
 .ret)))))),
  [.tmp 4]⟩
theorem c148 : chkFn Tryz.prog Tryz.f148 a148 = true := by kernel_rfl

/-- besom/fixed.size[int] -/
def a149 : AFn := ⟨1, (.seq (.reg [
   ⟨some 2, .mv (.c (.int .u64 0)), none⟩])
 (.seq (.seq (.reg [
   ⟨some 3, .mv (.t 0), none⟩,
   ⟨some 4, .bin .lss (.t 3) (.c (.int .i64 0)), none⟩])
 (.cond (.t 4) (.seq (.reg [
    ⟨some 5, .mv (.t 0), none⟩,
    ⟨some 6, .cv .u64 (.t 5), none⟩,
    ⟨some 7, .neg (.t 6), none⟩,
    ⟨some 2, .mv (.t 7), none⟩])
  .ret)
 .skip))
 (.seq (.reg [
   ⟨some 8, .mv (.t 0), none⟩,
   ⟨some 9, .cv .u64 (.t 8), none⟩,
   ⟨some 2, .mv (.t 9), none⟩])
 .ret))),
  [.tmp 2]⟩
theorem c149 : chkFn Tryz.prog Tryz.f149 a149 = true := by kernel_rfl

/-- besom/besomref01.share -/
def a150 : AFn := ⟨2, (.seq (.reg [
   ⟨some 4, .mv (.c (.int .i64 0)), none⟩])
 (.seq (.reg [
   ⟨some 10, .mv (.t 0), none⟩,
   ⟨some 11, .call (.f 131) [(.t 10)], none⟩,
   ⟨some 12, .call (.f 130) [(.t 11)], none⟩,
   ⟨some 5, .mv (.t 12), none⟩])
 (.seq (.reg [
   ⟨some 13, .mv (.t 5), none⟩,
   ⟨some 14, .mv (.t 5), none⟩,
   ⟨some 15, .call (.f 134) [(.t 13), (.t 14)], none⟩,
   ⟨some 16, .call (.f 198) [(.t 15), (.c (.int .i64 32))], none⟩,
   ⟨some 6, .mv (.t 16), none⟩])
 (.seq (.reg [
   ⟨some 7, .mv (.c (.int .i64 0)), none⟩])
 (.seq (.seq (.reg [
   ⟨some 8, .mv (.c (.int .i64 65536)), none⟩])
 (.blk 0 (.loop 0 (.seq (.seq (.reg [
    ⟨some 17, .mv (.t 8), none⟩,
    ⟨some 18, .bin .gtr (.t 17) (.c (.int .i64 0)), none⟩])
  (.cond (.t 18) .skip
  (.exit 0)))
  (.seq (.blk 1 (.seq (.reg [
    ⟨some 21, .mv (.t 7), none⟩,
    ⟨some 22, .mv (.t 8), none⟩,
    ⟨some 23, .bin .add (.t 21) (.t 22), none⟩,
    ⟨some 24, .call (.f 130) [(.t 23)], none⟩,
    ⟨some 9, .mv (.t 24), none⟩])
  (.seq (.reg [
    ⟨some 25, .mv (.t 9), none⟩,
    ⟨some 26, .mv (.t 9), none⟩,
    ⟨some 27, .call (.f 134) [(.t 25), (.t 26)], none⟩,
    ⟨some 28, .mv (.t 1), none⟩,
    ⟨some 29, .call (.f 134) [(.t 27), (.t 28)], none⟩,
    ⟨some 30, .mv (.t 6), none⟩,
    ⟨some 31, .call (.f 132) [(.t 29), (.t 30)], none⟩,
    ⟨some 32, .bin .leq (.t 31) (.c (.int .i64 0)), none⟩])
  (.cond (.t 32) (.reg [
     ⟨some 33, .mv (.t 7), none⟩,
     ⟨some 34, .mv (.t 8), none⟩,
     ⟨some 35, .bin .add (.t 33) (.t 34), none⟩,
     ⟨some 7, .mv (.t 35), none⟩])
  .skip))))
  (.reg [
    ⟨some 19, .mv (.t 8), none⟩,
    ⟨some 20, .bin .quo (.t 19) (.c (.int .i64 2)), none⟩,
    ⟨some 8, .mv (.t 20), none⟩]))))))
 (.seq (.seq (.reg [
   ⟨some 36, .mv (.t 0), none⟩,
   ⟨some 37, .bin .lss (.t 36) (.c (.int .i64 0)), none⟩])
 (.cond (.t 37) (.seq (.reg [
    ⟨some 38, .mv (.t 7), none⟩,
    ⟨some 39, .neg (.t 38), none⟩,
    ⟨some 4, .mv (.t 39), none⟩])
  .ret)
 .skip))
 (.seq (.reg [
   ⟨some 40, .mv (.t 7), none⟩,
   ⟨some 4, .mv (.t 40), none⟩])
 .ret))))))),
  [.tmp 4]⟩
/-- besom/besomref01.how1 -/
def a151 : AFn := ⟨1, (.seq (.reg [
   ⟨some 2, .mv (.c (.bool false)), none⟩])
 (.seq (.reg [
   ⟨some 3, .mv (.t 0), none⟩,
   ⟨some 4, .call (.f 87) [(.t 3), (.c (.int .i64 0)), (.c (.int .i64 3))], none⟩,
   ⟨some 2, .mv (.t 4), none⟩])
 .ret)),
  [.tmp 2]⟩
theorem c151 : chkFn Tryz.prog Tryz.f151 a151 = true := by kernel_rfl

/-- besom/besomref01.sum -/
def a152 : AFn := ⟨2, (.seq (.reg [
   ⟨some 2, .box 209 (.t 0), none⟩,
   ⟨some 3, .box 209 (.t 1), none⟩,
   ⟨some 4, .alloc 209 [(.bool false), .nsl], none⟩])
 (.seq (.seq (.reg [
   ⟨some 5, .fa (.t 2) 0, none⟩,
   ⟨some 6, .ld 1 false (.t 5), none⟩,
   ⟨some 7, .fa (.t 3) 0, none⟩,
   ⟨some 8, .ld 1 false (.t 7), none⟩,
   ⟨some 9, .binb false (.t 6) (.t 8), none⟩])
 (.cond (.t 9) (.seq (.drw [
    (⟨some 10, .fa (.t 2) 0, none⟩, []),
    (⟨some 11, .ld 1 false (.t 10), none⟩, [0]),
    (⟨some 12, .fa (.t 2) 1, none⟩, []),
    (⟨some 13, .ld 1 false (.t 12), none⟩, [2]),
    (⟨some 14, .fa (.t 3) 1, none⟩, []),
    (⟨some 15, .ld 1 false (.t 14), none⟩, [4]),
    (⟨some 16, .call (.f 190) [(.t 13), (.t 15)], none⟩, [3, 2, 5, 4]),
    (⟨some 17, .bld [(.bool false), .nsl] [(0, 1, (.t 11)), (1, 1, (.t 16))], none⟩, [1, 0, 6, 3, 2, 5, 4]),
    (⟨none, .st 2 (.t 4) (.t 17), none⟩, [7, 1, 0, 6, 3, 2, 5, 4])])
  .ret)
 .skip))
 (.seq (.seq (.reg [
   ⟨some 18, .fa (.t 2) 1, none⟩,
   ⟨some 19, .ld 1 false (.t 18), none⟩,
   ⟨some 20, .fa (.t 3) 1, none⟩,
   ⟨some 21, .ld 1 false (.t 20), none⟩,
   ⟨some 22, .call (.f 132) [(.t 19), (.t 21)], none⟩,
   ⟨some 23, .bin .geq (.t 22) (.c (.int .i64 0)), none⟩])
 (.cond (.t 23) (.seq (.drw [
    (⟨some 24, .fa (.t 2) 0, none⟩, []),
    (⟨some 25, .ld 1 false (.t 24), none⟩, [0]),
    (⟨some 26, .fa (.t 2) 1, none⟩, []),
    (⟨some 27, .ld 1 false (.t 26), none⟩, [2]),
    (⟨some 28, .fa (.t 3) 1, none⟩, []),
    (⟨some 29, .ld 1 false (.t 28), none⟩, [4]),
    (⟨some 30, .call (.f 199) [(.t 27), (.t 29)], none⟩, [3, 2, 5, 4]),
    (⟨some 31, .bld [(.bool false), .nsl] [(0, 1, (.t 25)), (1, 1, (.t 30))], none⟩, [1, 0, 6, 3, 2, 5, 4]),
    (⟨none, .st 2 (.t 4) (.t 31), none⟩, [7, 1, 0, 6, 3, 2, 5, 4])])
  .ret)
 .skip))
 (.seq (.drw [
   (⟨some 32, .fa (.t 3) 0, none⟩, []),
   (⟨some 33, .ld 1 false (.t 32), none⟩, [0]),
   (⟨some 34, .fa (.t 3) 1, none⟩, []),
   (⟨some 35, .ld 1 false (.t 34), none⟩, [2]),
   (⟨some 36, .fa (.t 2) 1, none⟩, []),
   (⟨some 37, .ld 1 false (.t 36), none⟩, [4]),
   (⟨some 38, .call (.f 199) [(.t 35), (.t 37)], none⟩, [3, 2, 5, 4]),
   (⟨some 39, .bld [(.bool false), .nsl] [(0, 1, (.t 33)), (1, 1, (.t 38))], none⟩, [1, 0, 6, 3, 2, 5, 4]),
   (⟨none, .st 2 (.t 4) (.t 39), none⟩, [7, 1, 0, 6, 3, 2, 5, 4])])
 .ret)))),
  [.cell 4 2 true]⟩
theorem c152 : chkFn Tryz.prog Tryz.f152 a152 = true := by kernel_rfl

/-- besom/besomref01.product -/
def a153 : AFn := ⟨2, (.seq (.reg [
   ⟨some 4, .alloc 209 [(.bool false), .nsl], none⟩])
 (.seq (.reg [
   ⟨some 5, .mv (.t 0), none⟩,
   ⟨some 6, .bin .lss (.t 5) (.c (.int .i64 0)), none⟩,
   ⟨some 7, .mv (.t 1), none⟩,
   ⟨some 8, .bin .lss (.t 7) (.c (.int .i64 0)), none⟩,
   ⟨some 9, .binb true (.t 6) (.t 8), none⟩,
   ⟨some 10, .mv (.t 0), none⟩,
   ⟨some 11, .call (.f 131) [(.t 10)], none⟩,
   ⟨some 12, .call (.f 130) [(.t 11)], none⟩,
   ⟨some 13, .mv (.t 1), none⟩,
   ⟨some 14, .call (.f 131) [(.t 13)], none⟩,
   ⟨some 15, .call (.f 130) [(.t 14)], none⟩,
   ⟨some 16, .call (.f 134) [(.t 12), (.t 15)], none⟩,
   ⟨some 17, .bld [(.bool false), .nsl] [(0, 1, (.t 9)), (1, 1, (.t 16))], none⟩,
   ⟨none, .st 2 (.t 4) (.t 17), none⟩])
 .ret)),
  [.cell 4 2 true]⟩
theorem c153 : chkFn Tryz.prog Tryz.f153 a153 = true := by kernel_rfl

/-- besom/besomref01.fit -/
def a154 : AFn := ⟨2, (.seq (.reg [
   ⟨some 4, .mv (.c (.int .i64 0)), none⟩,
   ⟨some 5, .mv (.c (.int .i64 0)), none⟩])
 (.seq (.seq (.reg [
   ⟨some 6, .mv (.t 1), none⟩,
   ⟨some 7, .not (.t 6), none⟩,
   ⟨some 8, .mv (.t 7), none⟩,
   ⟨some 9, .mv (.t 0), some (8, false)⟩,
   ⟨some 10, .bin .lss (.t 9) (.c (.int .i64 (-70368744177664))), some (8, false)⟩,
   ⟨some 11, .pick (.t 8) (.c (.bool true)) (.t 10), none⟩,
   ⟨some 12, .mv (.t 11), none⟩,
   ⟨some 13, .mv (.t 0), some (12, false)⟩,
   ⟨some 14, .bin .gtr (.t 13) (.c (.int .i64 70368744177664)), some (12, false)⟩,
   ⟨some 15, .pick (.t 12) (.c (.bool true)) (.t 14), none⟩])
 (.cond (.t 15) (.seq (.reg [
    ⟨some 4, .mv (.c (.int .i64 0)), none⟩,
    ⟨some 5, .mv (.c (.int .i64 4)), none⟩])
  .ret)
 .skip))
 (.seq (.reg [
   ⟨some 16, .mv (.t 0), none⟩,
   ⟨some 4, .mv (.t 16), none⟩,
   ⟨some 5, .mv (.c (.int .i64 0)), none⟩])
 .ret))),
  [.tmp 4, .tmp 5]⟩
theorem c154 : chkFn Tryz.prog Tryz.f154 a154 = true := by kernel_rfl

/-- besom/besomref01.rounded -/
def a155 : AFn := ⟨4, (.seq (.reg [
   ⟨some 8, .mv (.c (.int .i64 0)), none⟩,
   ⟨some 9, .mv (.c (.bool false)), none⟩])
 (.seq (.reg [
   ⟨some 16, .mv (.t 0), none⟩,
   ⟨some 17, .mv (.t 1), none⟩,
   ⟨some 18, .call (.f 200) [(.t 16), (.t 17)], none⟩,
   ⟨some 15, .mv (.t 18), none⟩,
   ⟨some 19, .ext (.t 15) 0, none⟩,
   ⟨some 20, .ext (.t 15) 1, none⟩,
   ⟨some 10, .mv (.t 19), none⟩,
   ⟨some 11, .mv (.t 20), none⟩])
 (.seq (.reg [
   ⟨some 22, .mv (.t 10), none⟩,
   ⟨some 23, .call (.f 201) [(.t 22)], none⟩,
   ⟨some 21, .mv (.t 23), none⟩,
   ⟨some 24, .ext (.t 21) 0, none⟩,
   ⟨some 25, .ext (.t 21) 1, none⟩,
   ⟨some 12, .mv (.t 24), none⟩,
   ⟨some 13, .mv (.t 25), none⟩])
 (.seq (.reg [
   ⟨some 26, .mv (.t 3), none⟩,
   ⟨some 27, .bin .eql (.t 26) (.c (.int .i64 2)), none⟩,
   ⟨some 28, .mv (.t 27), none⟩,
   ⟨some 29, .mv (.t 2), some (28, true)⟩,
   ⟨some 30, .not (.t 29), some (28, true)⟩,
   ⟨some 31, .pick (.t 28) (.t 30) (.c (.bool false)), none⟩,
   ⟨some 32, .mv (.t 31), none⟩,
   ⟨some 33, .mv (.t 3), some (32, false)⟩,
   ⟨some 34, .bin .eql (.t 33) (.c (.int .i64 1)), some (32, false)⟩,
   ⟨some 35, .mv (.t 34), some (32, false)⟩,
   ⟨some 36, .mv (.t 2), some (35, true)⟩,
   ⟨some 37, .pick (.t 35) (.t 36) (.c (.bool false)), some (32, false)⟩,
   ⟨some 38, .pick (.t 32) (.c (.bool true)) (.t 37), none⟩,
   ⟨some 14, .mv (.t 38), none⟩])
 (.seq (.seq (.reg [
   ⟨some 39, .mv (.t 3), none⟩,
   ⟨some 40, .bin .eql (.t 39) (.c (.int .i64 3)), none⟩])
 (.cond (.t 40) (.reg [
    ⟨some 41, .mv (.t 11), none⟩,
    ⟨some 42, .mv (.t 11), none⟩,
    ⟨some 43, .call (.f 190) [(.t 41), (.t 42)], none⟩,
    ⟨some 44, .mv (.t 1), none⟩,
    ⟨some 45, .call (.f 132) [(.t 43), (.t 44)], none⟩,
    ⟨some 46, .bin .geq (.t 45) (.c (.int .i64 0)), none⟩,
    ⟨some 14, .mv (.t 46), none⟩])
 .skip))
 (.seq (.seq (.reg [
   ⟨some 47, .mv (.t 14), none⟩,
   ⟨some 48, .mv (.t 47), none⟩,
   ⟨some 49, .mv (.t 11), some (48, true)⟩,
   ⟨some 50, .len (.t 49), some (48, true)⟩,
   ⟨some 51, .bin .gtr (.t 50) (.c (.int .i64 0)), some (48, true)⟩,
   ⟨some 52, .pick (.t 48) (.t 51) (.c (.bool false)), none⟩])
 (.cond (.t 52) (.reg [
    ⟨some 53, .mv (.t 12), none⟩,
    ⟨some 54, .bin .add (.t 53) (.c (.int .i64 1)), none⟩,
    ⟨some 12, .mv (.t 54), none⟩])
 .skip))
 (.seq (.seq (.reg [
   ⟨some 55, .mv (.t 2), none⟩])
 (.cond (.t 55) (.reg [
    ⟨some 56, .mv (.t 12), none⟩,
    ⟨some 57, .neg (.t 56), none⟩,
    ⟨some 12, .mv (.t 57), none⟩])
 .skip))
 (.seq (.reg [
   ⟨some 58, .mv (.t 12), none⟩,
   ⟨some 59, .mv (.t 13), none⟩,
   ⟨some 8, .mv (.t 58), none⟩,
   ⟨some 9, .mv (.t 59), none⟩])
 .ret)))))))),
  [.tmp 8, .tmp 9]⟩
theorem c155 : chkFn Tryz.prog Tryz.f155 a155 = true := by kernel_rfl

/-- besom/besomref01.Mul -/
def a156 : AFn := ⟨3, (.seq (.reg [
   ⟨some 6, .mv (.c (.int .i64 0)), none⟩,
   ⟨some 7, .mv (.c (.int .i64 0)), none⟩])
 (.seq (.reg [
   ⟨some 10, .mv (.t 0), none⟩,
   ⟨some 11, .call (.f 129) [(.t 10)], none⟩,
   ⟨some 12, .mv (.t 11), none⟩,
   ⟨some 13, .mv (.t 1), some (12, true)⟩,
   ⟨some 14, .call (.f 129) [(.t 13)], some (12, true)⟩,
   ⟨some 15, .pick (.t 12) (.t 14) (.c (.bool false)), none⟩,
   ⟨some 8, .mv (.t 15), none⟩])
 (.seq (.reg [
   ⟨some 16, .mv (.t 2), none⟩,
   ⟨some 17, .call (.f 151) [(.t 16)], none⟩,
   ⟨some 9, .mv (.t 17), none⟩])
 (.seq (.seq (.reg [
   ⟨some 18, .mv (.t 8), none⟩,
   ⟨some 19, .not (.t 18), none⟩,
   ⟨some 20, .mv (.t 19), none⟩,
   ⟨some 21, .mv (.t 9), some (20, false)⟩,
   ⟨some 22, .not (.t 21), some (20, false)⟩,
   ⟨some 23, .pick (.t 20) (.c (.bool true)) (.t 22), none⟩])
 (.cond (.t 23) (.seq (.reg [
    ⟨some 6, .mv (.c (.int .i64 0)), none⟩,
    ⟨some 7, .mv (.c (.int .i64 2)), none⟩])
  .ret)
 .skip))
 (.seq (.reg [
   ⟨some 24, .mv (.t 0), none⟩,
   ⟨some 25, .call (.f 131) [(.t 24)], none⟩,
   ⟨some 26, .call (.f 130) [(.t 25)], none⟩,
   ⟨some 27, .mv (.t 1), none⟩,
   ⟨some 28, .call (.f 131) [(.t 27)], none⟩,
   ⟨some 29, .call (.f 130) [(.t 28)], none⟩,
   ⟨some 30, .call (.f 134) [(.t 26), (.t 29)], none⟩,
   ⟨some 31, .call (.f 130) [(.c (.int .i64 65536))], none⟩,
   ⟨some 32, .mv (.t 0), none⟩,
   ⟨some 33, .bin .lss (.t 32) (.c (.int .i64 0)), none⟩,
   ⟨some 34, .mv (.t 1), none⟩,
   ⟨some 35, .bin .lss (.t 34) (.c (.int .i64 0)), none⟩,
   ⟨some 36, .binb true (.t 33) (.t 35), none⟩,
   ⟨some 37, .mv (.t 2), none⟩,
   ⟨some 38, .call (.f 155) [(.t 30), (.t 31), (.t 36), (.t 37)], none⟩,
   ⟨some 39, .ext (.t 38) 0, none⟩,
   ⟨some 40, .ext (.t 38) 1, none⟩,
   ⟨some 41, .call (.f 154) [(.t 39), (.t 40)], none⟩,
   ⟨some 42, .ext (.t 41) 0, none⟩,
   ⟨some 43, .ext (.t 41) 1, none⟩,
   ⟨some 6, .mv (.t 42), none⟩,
   ⟨some 7, .mv (.t 43), none⟩])
 .ret))))),
  [.tmp 6, .tmp 7]⟩
theorem c156 : chkFn Tryz.prog Tryz.f156 a156 = true := by kernel_rfl

/-- besom/besomref01.both -/
def a157 : AFn := ⟨4, (.seq (.reg [
   ⟨some 8, .alloc 24 [(.int .i64 0), (.int .i64 0)], none⟩,
   ⟨some 9, .mv (.c (.int .i64 0)), none⟩])
 (.seq (.seq (.reg [
   ⟨some 10, .mv (.t 1), none⟩,
   ⟨some 11, .bin .neq (.t 10) (.c (.int .i64 0)), none⟩,
   ⟨some 12, .mv (.t 11), none⟩,
   ⟨some 13, .mv (.t 3), some (12, false)⟩,
   ⟨some 14, .bin .neq (.t 13) (.c (.int .i64 0)), some (12, false)⟩,
   ⟨some 15, .pick (.t 12) (.c (.bool true)) (.t 14), none⟩])
 (.cond (.t 15) (.seq (.reg [
    ⟨some 16, .bld [(.int .i64 0), (.int .i64 0)] [], none⟩,
    ⟨some 17, .mv (.t 1), none⟩,
    ⟨some 18, .mv (.t 3), none⟩,
    ⟨some 19, .mx false (.t 17) (.t 18), none⟩,
    ⟨none, .st 2 (.t 8) (.t 16), none⟩,
    ⟨some 9, .mv (.t 19), none⟩])
  .ret)
 .skip))
 (.seq (.reg [
   ⟨some 20, .mv (.t 0), none⟩,
   ⟨some 21, .mv (.t 2), none⟩,
   ⟨some 22, .bld [(.int .i64 0), (.int .i64 0)] [(0, 1, (.t 20)), (1, 1, (.t 21))], none⟩,
   ⟨none, .st 2 (.t 8) (.t 22), none⟩,
   ⟨some 9, .mv (.c (.int .i64 0)), none⟩])
 .ret))),
  [.cell 8 2 true, .tmp 9]⟩
theorem c157 : chkFn Tryz.prog Tryz.f157 a157 = true := by kernel_rfl

/-- besom/fixed.each$1 -/
def a158 : AFn := ⟨3, (.seq (.reg [
   ⟨some 3, .alloc 24 [(.int .i64 0), (.int .i64 0)], none⟩])
 (.seq (.reg [
   ⟨some 4, .fa (.t 0) 0, none⟩,
   ⟨some 5, .ld 1 false (.t 4), none⟩,
   ⟨some 6, .fa (.t 0) 1, none⟩,
   ⟨some 7, .ld 1 false (.t 6), none⟩,
   ⟨some 8, .fa (.t 1) 0, none⟩,
   ⟨some 9, .ld 1 false (.t 8), none⟩,
   ⟨some 10, .fa (.t 1) 1, none⟩,
   ⟨some 11, .ld 1 false (.t 10), none⟩,
   ⟨some 12, .bsl 22 [.int .i64] 4 [(.int .i64 0), (.int .i64 0), (.int .i64 0), (.int .i64 0)] [(0, 1, (.t 5)), (1, 1, (.t 7)), (2, 1, (.t 9)), (3, 1, (.t 11))], none⟩,
   ⟨some 13, .call (.f 98) [(.t 12)], none⟩])
 (.seq (.drw [
   (⟨some 14, .ld 1 false (.t 2), none⟩, []),
   (⟨some 15, .fa (.t 0) 0, none⟩, []),
   (⟨some 16, .ld 1 false (.t 15), none⟩, [1]),
   (⟨some 17, .fa (.t 1) 0, none⟩, []),
   (⟨some 18, .ld 1 false (.t 17), none⟩, [3]),
   (⟨some 19, .call (.t 14) [(.t 16), (.t 18)], none⟩, [0, 2, 1, 4, 3]),
   (⟨some 20, .ld 1 false (.t 2), none⟩, []),
   (⟨some 21, .fa (.t 0) 1, none⟩, []),
   (⟨some 22, .ld 1 false (.t 21), none⟩, [7]),
   (⟨some 23, .fa (.t 1) 1, none⟩, []),
   (⟨some 24, .ld 1 false (.t 23), none⟩, [9]),
   (⟨some 25, .call (.t 20) [(.t 22), (.t 24)], none⟩, [6, 8, 7, 10, 9, 5, 0, 2, 1, 4, 3]),
   (⟨some 26, .bld [(.int .i64 0), (.int .i64 0)] [(0, 1, (.t 19)), (1, 1, (.t 25))], none⟩, [5, 0, 2, 1, 4, 3, 11, 6, 8, 7, 10, 9]),
   (⟨none, .st 2 (.t 3) (.t 26), none⟩, [12, 5, 0, 2, 1, 4, 3, 11, 6, 8, 7, 10, 9])])
 .ret))),
  [.cell 3 2 true]⟩
theorem c158 : chkFn Tryz.prog Tryz.f158 a158 = true := by kernel_rfl

/-- besom/fixed.ways$1 -/
def a161 : AFn := ⟨2, (.seq (.reg [
   ⟨some 4, .mv (.c (.bool false)), none⟩])
 (.seq (.reg [
   ⟨some 4, .mv (.c (.bool false)), none⟩])
 .ret)),
  [.tmp 4]⟩
theorem c161 : chkFn Tryz.prog Tryz.f161 a161 = true := by kernel_rfl

/-- besom/fixed.ways$2 -/
def a162 : AFn := ⟨2, (.seq (.reg [
   ⟨some 4, .mv (.c (.bool false)), none⟩])
 (.seq (.reg [
   ⟨some 5, .mv (.t 1), none⟩,
   ⟨some 4, .mv (.t 5), none⟩])
 .ret)),
  [.tmp 4]⟩
theorem c162 : chkFn Tryz.prog Tryz.f162 a162 = true := by kernel_rfl

/-- besom/fixed.ways$3 -/
def a163 : AFn := ⟨2, (.seq (.reg [
   ⟨some 4, .mv (.c (.bool false)), none⟩])
 (.seq (.reg [
   ⟨some 5, .mv (.t 1), none⟩,
   ⟨some 6, .not (.t 5), none⟩,
   ⟨some 4, .mv (.t 6), none⟩])
 .ret)),
  [.tmp 4]⟩
theorem c163 : chkFn Tryz.prog Tryz.f163 a163 = true := by kernel_rfl

/-- besom/fixed.ways$4 -/
def a164 : AFn := ⟨2, (.seq (.reg [
   ⟨some 4, .mv (.c (.bool false)), none⟩])
 (.seq (.reg [
   ⟨some 5, .mv (.t 0), none⟩,
   ⟨some 6, .bin .geq (.t 5) (.c (.int .i64 0)), none⟩,
   ⟨some 4, .mv (.t 6), none⟩])
 .ret)),
  [.tmp 4]⟩
theorem c164 : chkFn Tryz.prog Tryz.f164 a164 = true := by kernel_rfl

/-- math/bits.Mul64 -/
def a167 : AFn := ⟨2, (.seq (.reg [
   ⟨some 4, .mv (.c (.int .u64 0)), none⟩,
   ⟨some 5, .mv (.c (.int .u64 0)), none⟩])
 (.seq (.reg [
   ⟨some 14, .mv (.t 0), none⟩,
   ⟨some 15, .bin .and (.t 14) (.c (.int .u64 4294967295)), none⟩,
   ⟨some 6, .mv (.t 15), none⟩])
 (.seq (.reg [
   ⟨some 16, .mv (.t 0), none⟩,
   ⟨some 17, .bin .shr (.t 16) (.c (.int .u64 32)), none⟩,
   ⟨some 7, .mv (.t 17), none⟩])
 (.seq (.reg [
   ⟨some 18, .mv (.t 1), none⟩,
   ⟨some 19, .bin .and (.t 18) (.c (.int .u64 4294967295)), none⟩,
   ⟨some 8, .mv (.t 19), none⟩])
 (.seq (.reg [
   ⟨some 20, .mv (.t 1), none⟩,
   ⟨some 21, .bin .shr (.t 20) (.c (.int .u64 32)), none⟩,
   ⟨some 9, .mv (.t 21), none⟩])
 (.seq (.reg [
   ⟨some 22, .mv (.t 6), none⟩,
   ⟨some 23, .mv (.t 8), none⟩,
   ⟨some 24, .bin .mul (.t 22) (.t 23), none⟩,
   ⟨some 10, .mv (.t 24), none⟩])
 (.seq (.reg [
   ⟨some 25, .mv (.t 7), none⟩,
   ⟨some 26, .mv (.t 8), none⟩,
   ⟨some 27, .bin .mul (.t 25) (.t 26), none⟩,
   ⟨some 28, .mv (.t 10), none⟩,
   ⟨some 29, .bin .shr (.t 28) (.c (.int .u64 32)), none⟩,
   ⟨some 30, .bin .add (.t 27) (.t 29), none⟩,
   ⟨some 11, .mv (.t 30), none⟩])
 (.seq (.reg [
   ⟨some 31, .mv (.t 11), none⟩,
   ⟨some 32, .bin .and (.t 31) (.c (.int .u64 4294967295)), none⟩,
   ⟨some 12, .mv (.t 32), none⟩])
 (.seq (.reg [
   ⟨some 33, .mv (.t 11), none⟩,
   ⟨some 34, .bin .shr (.t 33) (.c (.int .u64 32)), none⟩,
   ⟨some 13, .mv (.t 34), none⟩])
 (.seq (.reg [
   ⟨some 35, .mv (.t 12), none⟩,
   ⟨some 36, .mv (.t 6), none⟩,
   ⟨some 37, .mv (.t 9), none⟩,
   ⟨some 38, .bin .mul (.t 36) (.t 37), none⟩,
   ⟨some 39, .bin .add (.t 35) (.t 38), none⟩,
   ⟨some 12, .mv (.t 39), none⟩])
 (.seq (.reg [
   ⟨some 40, .mv (.t 7), none⟩,
   ⟨some 41, .mv (.t 9), none⟩,
   ⟨some 42, .bin .mul (.t 40) (.t 41), none⟩,
   ⟨some 43, .mv (.t 13), none⟩,
   ⟨some 44, .bin .add (.t 42) (.t 43), none⟩,
   ⟨some 45, .mv (.t 12), none⟩,
   ⟨some 46, .bin .shr (.t 45) (.c (.int .u64 32)), none⟩,
   ⟨some 47, .bin .add (.t 44) (.t 46), none⟩,
   ⟨some 4, .mv (.t 47), none⟩])
 (.seq (.reg [
   ⟨some 48, .mv (.t 0), none⟩,
   ⟨some 49, .mv (.t 1), none⟩,
   ⟨some 50, .bin .mul (.t 48) (.t 49), none⟩,
   ⟨some 5, .mv (.t 50), none⟩])
 .ret)))))))))))),
  [.tmp 4, .tmp 5]⟩
theorem c167 : chkFn Tryz.prog Tryz.f167 a167 = true := by kernel_rfl

/-- besom/glide.within[besom/api.Fix] -/
def a186 : AFn := ⟨3, (.seq (.reg [
   ⟨some 6, .mv (.c (.bool false)), none⟩])
 (.seq (.reg [
   ⟨some 7, .mv (.t 1), none⟩,
   ⟨some 8, .mv (.t 0), none⟩,
   ⟨some 9, .bin .leq (.t 7) (.t 8), none⟩,
   ⟨some 10, .mv (.t 9), none⟩,
   ⟨some 11, .mv (.t 0), some (10, true)⟩,
   ⟨some 12, .mv (.t 2), some (10, true)⟩,
   ⟨some 13, .bin .leq (.t 11) (.t 12), some (10, true)⟩,
   ⟨some 14, .pick (.t 10) (.t 13) (.c (.bool false)), none⟩,
   ⟨some 6, .mv (.t 14), none⟩])
 .ret)),
  [.tmp 6]⟩
theorem c186 : chkFn Tryz.prog Tryz.f186 a186 = true := by kernel_rfl

/-- cmp.Or[int] -/
def a188 : AFn := ⟨1, (.seq (.reg [
   ⟨some 2, .mv (.c (.int .i64 0)), none⟩])
 (.seq (.reg [
   ⟨some 3, .mv (.c (.int .i64 0)), none⟩])
 (.seq (.seq (.reg [
   ⟨some 6, .mv (.t 0), none⟩,
   ⟨some 7, .len (.t 6), none⟩,
   ⟨some 8, .mv (.c (.int .i64 0)), none⟩])
 (.blk 0 (.loop 0 (.seq (.reg [
    ⟨some 9, .bin .lss (.t 8) (.t 7), none⟩])
  (.seq (.cond (.t 9) .skip
  (.exit 0))
  (.seq (.blk 1 (.seq (.reg [
    ⟨some 10, .ia (.t 6) (.t 8) 1, none⟩,
    ⟨some 11, .ld 1 false (.t 10), none⟩,
    ⟨some 5, .mv (.t 11), none⟩])
  (.seq (.reg [
    ⟨some 12, .mv (.t 5), none⟩,
    ⟨some 13, .mv (.t 3), none⟩,
    ⟨some 14, .bin .neq (.t 12) (.t 13), none⟩])
  (.cond (.t 14) (.seq (.reg [
     ⟨some 15, .mv (.t 5), none⟩,
     ⟨some 2, .mv (.t 15), none⟩])
   .ret)
  .skip))))
  (.reg [
    ⟨some 16, .bin .add (.t 8) (.c (.int .i64 1)), none⟩,
    ⟨some 8, .mv (.t 16), none⟩])))))))
 (.seq (.reg [
   ⟨some 17, .mv (.t 3), none⟩,
   ⟨some 2, .mv (.t 17), none⟩])
 .ret)))),
  [.tmp 2]⟩
theorem c188 : chkFn Tryz.prog Tryz.f188 a188 = true := by kernel_rfl

/-- cmp.Compare[uint64] -/
def a189 : AFn := ⟨2, (.seq (.reg [
   ⟨some 4, .mv (.c (.int .i64 0)), none⟩])
 (.seq (.reg [
   ⟨some 7, .mv (.t 0), none⟩,
   ⟨some 8, .call (.f 215) [(.t 7)], none⟩,
   ⟨some 5, .mv (.t 8), none⟩])
 (.seq (.reg [
   ⟨some 9, .mv (.t 1), none⟩,
   ⟨some 10, .call (.f 215) [(.t 9)], none⟩,
   ⟨some 6, .mv (.t 10), none⟩])
 (.seq (.seq (.reg [
   ⟨some 11, .mv (.t 5), none⟩])
 (.cond (.t 11) (.seq (.seq (.reg [
    ⟨some 12, .mv (.t 6), none⟩])
  (.cond (.t 12) (.seq (.reg [
     ⟨some 4, .mv (.c (.int .i64 0)), none⟩])
   .ret)
  .skip))
  (.seq (.reg [
    ⟨some 4, .mv (.c (.int .i64 (-1))), none⟩])
  .ret))
 .skip))
 (.seq (.seq (.reg [
   ⟨some 13, .mv (.t 6), none⟩])
 (.cond (.t 13) (.seq (.reg [
    ⟨some 4, .mv (.c (.int .i64 1)), none⟩])
  .ret)
 .skip))
 (.seq (.seq (.reg [
   ⟨some 14, .mv (.t 0), none⟩,
   ⟨some 15, .mv (.t 1), none⟩,
   ⟨some 16, .bin .lss (.t 14) (.t 15), none⟩])
 (.cond (.t 16) (.seq (.reg [
    ⟨some 4, .mv (.c (.int .i64 (-1))), none⟩])
  .ret)
 .skip))
 (.seq (.seq (.reg [
   ⟨some 17, .mv (.t 0), none⟩,
   ⟨some 18, .mv (.t 1), none⟩,
   ⟨some 19, .bin .gtr (.t 17) (.t 18), none⟩])
 (.cond (.t 19) (.seq (.reg [
    ⟨some 4, .mv (.c (.int .i64 1)), none⟩])
  .ret)
 .skip))
 (.seq (.reg [
   ⟨some 4, .mv (.c (.int .i64 0)), none⟩])
 .ret)))))))),
  [.tmp 4]⟩
theorem c189 : chkFn Tryz.prog Tryz.f189 a189 = true := by kernel_rfl

/-- besom/besomref01.plus -/
def a190 : AFn := ⟨2, (.seq (.reg [
   ⟨some 4, .mvn 3 [.int .i64], none⟩])
 (.seq (.reg [
   ⟨some 5, .mvn 3 [.int .i64], none⟩])
 (.seq (.reg [
   ⟨some 6, .mv (.c (.int .i64 0)), none⟩])
 (.seq (.seq (.reg [
   ⟨some 7, .mv (.c (.int .i64 0)), none⟩])
 (.blk 0 (.loop 0 (.seq (.seq (.reg [
    ⟨some 8, .mv (.t 7), none⟩,
    ⟨some 9, .mv (.t 0), none⟩,
    ⟨some 10, .len (.t 9), none⟩,
    ⟨some 11, .bin .lss (.t 8) (.t 10), none⟩,
    ⟨some 12, .mv (.t 11), none⟩,
    ⟨some 13, .mv (.t 7), some (12, false)⟩,
    ⟨some 14, .mv (.t 1), some (12, false)⟩,
    ⟨some 15, .len (.t 14), some (12, false)⟩,
    ⟨some 16, .bin .lss (.t 13) (.t 15), some (12, false)⟩,
    ⟨some 17, .pick (.t 12) (.c (.bool true)) (.t 16), none⟩,
    ⟨some 18, .mv (.t 17), none⟩,
    ⟨some 19, .mv (.t 6), some (18, false)⟩,
    ⟨some 20, .bin .gtr (.t 19) (.c (.int .i64 0)), some (18, false)⟩,
    ⟨some 21, .pick (.t 18) (.c (.bool true)) (.t 20), none⟩])
  (.cond (.t 21) .skip
  (.exit 0)))
  (.seq (.blk 1 (.seq (.seq (.reg [
    ⟨some 24, .mv (.t 7), none⟩,
    ⟨some 25, .mv (.t 0), none⟩,
    ⟨some 26, .len (.t 25), none⟩,
    ⟨some 27, .bin .lss (.t 24) (.t 26), none⟩])
  (.cond (.t 27) (.reg [
     ⟨some 28, .mv (.t 6), none⟩,
     ⟨some 29, .mv (.t 0), none⟩,
     ⟨some 30, .mv (.t 7), none⟩,
     ⟨some 31, .ia (.t 29) (.t 30) 1, none⟩,
     ⟨some 32, .ld 1 false (.t 31), none⟩,
     ⟨some 33, .bin .add (.t 28) (.t 32), none⟩,
     ⟨some 6, .mv (.t 33), none⟩])
  .skip))
  (.seq (.seq (.reg [
    ⟨some 34, .mv (.t 7), none⟩,
    ⟨some 35, .mv (.t 1), none⟩,
    ⟨some 36, .len (.t 35), none⟩,
    ⟨some 37, .bin .lss (.t 34) (.t 36), none⟩])
  (.cond (.t 37) (.reg [
     ⟨some 38, .mv (.t 6), none⟩,
     ⟨some 39, .mv (.t 1), none⟩,
     ⟨some 40, .mv (.t 7), none⟩,
     ⟨some 41, .ia (.t 39) (.t 40) 1, none⟩,
     ⟨some 42, .ld 1 false (.t 41), none⟩,
     ⟨some 43, .bin .add (.t 38) (.t 42), none⟩,
     ⟨some 6, .mv (.t 43), none⟩])
  .skip))
  (.seq (.reg [
    ⟨some 44, .mv (.t 5), none⟩,
    ⟨some 45, .mv (.t 6), none⟩,
    ⟨some 46, .bin .rem (.t 45) (.c (.int .i64 32768)), none⟩,
    ⟨some 47, .bsl 3 [.int .i64] 1 [(.int .i64 0)] [(0, 1, (.t 46))], none⟩,
    ⟨some 48, .app 3 [.int .i64] 8 (.t 44) (.t 47), none⟩,
    ⟨some 5, .mv (.t 48), none⟩])
  (.reg [
    ⟨some 49, .mv (.t 6), none⟩,
    ⟨some 50, .bin .quo (.t 49) (.c (.int .i64 32768)), none⟩,
    ⟨some 6, .mv (.t 50), none⟩])))))
  (.reg [
    ⟨some 22, .mv (.t 7), none⟩,
    ⟨some 23, .bin .add (.t 22) (.c (.int .i64 1)), none⟩,
    ⟨some 7, .mv (.t 23), none⟩]))))))
 (.seq (.reg [
   ⟨some 51, .mv (.t 5), none⟩,
   ⟨some 4, .mv (.t 51), none⟩])
 .ret))))),
  [.tmp 4]⟩
/-- besom/besomref01.trim -/
def a191 : AFn := ⟨1, (.seq (.reg [
   ⟨some 2, .mvn 3 [.int .i64], none⟩])
 (.seq (.blk 0 (.loop 0 (.seq (.seq (.reg [
    ⟨some 3, .mv (.t 0), none⟩,
    ⟨some 4, .len (.t 3), none⟩,
    ⟨some 5, .bin .gtr (.t 4) (.c (.int .i64 0)), none⟩,
    ⟨some 6, .mv (.t 5), none⟩,
    ⟨some 7, .mv (.t 0), some (6, true)⟩,
    ⟨some 8, .mv (.t 0), some (6, true)⟩,
    ⟨some 9, .len (.t 8), some (6, true)⟩,
    ⟨some 10, .bin .sub (.t 9) (.c (.int .i64 1)), some (6, true)⟩,
    ⟨some 11, .ia (.t 7) (.t 10) 1, some (6, true)⟩,
    ⟨some 12, .ld 1 false (.t 11), some (6, true)⟩,
    ⟨some 13, .bin .eql (.t 12) (.c (.int .i64 0)), some (6, true)⟩,
    ⟨some 14, .pick (.t 6) (.t 13) (.c (.bool false)), none⟩])
  (.cond (.t 14) .skip
  (.exit 0)))
  (.blk 1 (.reg [
    ⟨some 15, .mv (.t 0), none⟩,
    ⟨some 16, .mv (.t 0), none⟩,
    ⟨some 17, .len (.t 16), none⟩,
    ⟨some 18, .bin .sub (.t 17) (.c (.int .i64 1)), none⟩,
    ⟨some 19, .slm (.t 15) (.t 18) 1, none⟩,
    ⟨some 0, .mv (.t 19), none⟩])))))
 (.seq (.reg [
   ⟨some 20, .mv (.t 0), none⟩,
   ⟨some 2, .mv (.t 20), none⟩])
 .ret))),
  [.tmp 2]⟩
/-- besom/fixed.below -/
def a193 : AFn := ⟨3, (.seq (.reg [
   ⟨some 4, .box 167 (.t 1), none⟩,
   ⟨some 6, .mv (.c (.bool false)), none⟩])
 (.seq (.reg [
   ⟨some 14, .mv (.t 0), none⟩,
   ⟨some 15, .mv (.t 0), none⟩,
   ⟨some 16, .bin .mul (.t 14) (.t 15), none⟩,
   ⟨some 17, .ld 2 true (.t 4), none⟩,
   ⟨some 18, .call (.f 216) [(.t 16), (.t 17)], none⟩,
   ⟨some 13, .mv (.t 18), none⟩,
   ⟨some 19, .ext (.t 13) 0, none⟩,
   ⟨some 20, .ext (.t 13) 1, none⟩,
   ⟨some 7, .alloc 167 [(.int .u64 0), (.int .u64 0)], none⟩,
   ⟨none, .st 2 (.t 7) (.t 19), none⟩,
   ⟨some 8, .mv (.t 20), none⟩])
 (.seq (.reg [
   ⟨some 21, .mv (.t 2), none⟩,
   ⟨some 22, .mv (.t 2), none⟩,
   ⟨some 23, .call (.f 102) [(.t 21), (.t 22)], none⟩,
   ⟨some 9, .alloc 167 [(.int .u64 0), (.int .u64 0)], none⟩,
   ⟨none, .st 2 (.t 9) (.t 23), none⟩])
 (.seq (.reg [
   ⟨some 24, .fa (.t 9) 0, none⟩,
   ⟨some 25, .ld 1 false (.t 24), none⟩,
   ⟨some 26, .bin .shr (.t 25) (.c (.int .u64 32)), none⟩,
   ⟨some 27, .fa (.t 9) 0, none⟩,
   ⟨some 28, .ld 1 false (.t 27), none⟩,
   ⟨some 29, .bin .shl (.t 28) (.c (.int .u64 32)), none⟩,
   ⟨some 30, .fa (.t 9) 1, none⟩,
   ⟨some 31, .ld 1 false (.t 30), none⟩,
   ⟨some 32, .bin .shr (.t 31) (.c (.int .u64 32)), none⟩,
   ⟨some 33, .bin .or (.t 29) (.t 32), none⟩,
   ⟨some 34, .fa (.t 9) 1, none⟩,
   ⟨some 35, .ld 1 false (.t 34), none⟩,
   ⟨some 36, .bin .shl (.t 35) (.c (.int .u64 32)), none⟩,
   ⟨some 37, .bld [(.int .u64 0), (.int .u64 0), (.int .u64 0)] [(0, 1, (.t 26)), (1, 1, (.t 33)), (2, 1, (.t 36))], none⟩,
   ⟨some 10, .alloc 268 [(.int .u64 0), (.int .u64 0), (.int .u64 0)], none⟩,
   ⟨none, .st 3 (.t 10) (.t 37), none⟩])
 (.seq (.reg [
   ⟨some 38, .fa (.t 7) 0, none⟩,
   ⟨some 39, .ld 1 false (.t 38), none⟩,
   ⟨some 40, .fa (.t 7) 1, none⟩,
   ⟨some 41, .ld 1 false (.t 40), none⟩,
   ⟨some 42, .mv (.t 8), none⟩,
   ⟨some 43, .bld [(.int .u64 0), (.int .u64 0), (.int .u64 0)] [(0, 1, (.t 39)), (1, 1, (.t 41)), (2, 1, (.t 42))], none⟩,
   ⟨some 11, .alloc 268 [(.int .u64 0), (.int .u64 0), (.int .u64 0)], none⟩,
   ⟨none, .st 3 (.t 11) (.t 43), none⟩])
 (.seq (.seq (.reg [
   ⟨some 44, .mv (.c (.int .i64 0)), none⟩])
 (.blk 0 (.loop 0 (.seq (.reg [
    ⟨some 45, .bin .lss (.t 44) (.c (.int .i64 3)), none⟩])
  (.seq (.cond (.t 45) .skip
  (.exit 0))
  (.seq (.blk 1 (.seq (.reg [
    ⟨some 46, .mv (.t 44), none⟩,
    ⟨some 12, .mv (.t 46), none⟩])
  (.seq (.drw [
    (⟨some 47, .mv (.t 12), none⟩, []),
    (⟨some 48, .iaa (.t 11) (.t 47) 3 1, none⟩, [0]),
    (⟨some 49, .ld 1 false (.t 48), none⟩, [1, 0]),
    (⟨some 50, .mv (.t 12), none⟩, []),
    (⟨some 51, .iaa (.t 10) (.t 50) 3 1, none⟩, [3]),
    (⟨some 52, .ld 1 false (.t 51), none⟩, [4, 3]),
    (⟨some 53, .bin .neq (.t 49) (.t 52), none⟩, [2, 1, 0, 5, 4, 3])])
  (.cond (.t 53) (.seq (.drw [
     (⟨some 54, .mv (.t 12), none⟩, []),
     (⟨some 55, .iaa (.t 11) (.t 54) 3 1, none⟩, [0]),
     (⟨some 56, .ld 1 false (.t 55), none⟩, [1, 0]),
     (⟨some 57, .mv (.t 12), none⟩, []),
     (⟨some 58, .iaa (.t 10) (.t 57) 3 1, none⟩, [3]),
     (⟨some 59, .ld 1 false (.t 58), none⟩, [4, 3]),
     (⟨some 60, .bin .lss (.t 56) (.t 59), none⟩, [2, 1, 0, 5, 4, 3]),
     (⟨some 6, .mv (.t 60), none⟩, [6, 2, 1, 0, 5, 4, 3])])
   .ret)
  .skip))))
  (.reg [
    ⟨some 61, .bin .add (.t 44) (.c (.int .i64 1)), none⟩,
    ⟨some 44, .mv (.t 61), none⟩])))))))
 (.seq (.reg [
   ⟨some 6, .mv (.c (.bool true)), none⟩])
 .ret))))))),
  [.tmp 6]⟩
theorem c193 : chkFn Tryz.prog Tryz.f193 a193 = true := by kernel_rfl

/-- (besom/fixed.wide).over -/
def a194 : AFn := ⟨2, (.seq (.reg [
   ⟨some 2, .box 167 (.t 0), none⟩,
   ⟨some 4, .mv (.c (.int .u64 0)), none⟩,
   ⟨some 5, .mv (.c (.int .u64 0)), none⟩,
   ⟨some 6, .mv (.c (.bool false)), none⟩])
 (.seq (.seq (.reg [
   ⟨some 7, .fa (.t 2) 0, none⟩,
   ⟨some 8, .ld 1 false (.t 7), none⟩,
   ⟨some 9, .mv (.t 1), none⟩,
   ⟨some 10, .bin .geq (.t 8) (.t 9), none⟩])
 (.cond (.t 10) (.seq (.reg [
    ⟨some 4, .mv (.c (.int .u64 0)), none⟩,
    ⟨some 5, .mv (.c (.int .u64 0)), none⟩,
    ⟨some 6, .mv (.c (.bool false)), none⟩])
  .ret)
 .skip))
 (.seq (.reg [
   ⟨some 12, .fa (.t 2) 0, none⟩,
   ⟨some 13, .ld 1 false (.t 12), none⟩,
   ⟨some 14, .fa (.t 2) 1, none⟩,
   ⟨some 15, .ld 1 false (.t 14), none⟩,
   ⟨some 16, .mv (.t 1), none⟩,
   ⟨some 17, .call (.f 217) [(.t 13), (.t 15), (.t 16)], none⟩,
   ⟨some 11, .mv (.t 17), none⟩,
   ⟨some 18, .ext (.t 11) 0, none⟩,
   ⟨some 19, .ext (.t 11) 1, none⟩,
   ⟨some 4, .mv (.t 18), none⟩,
   ⟨some 5, .mv (.t 19), none⟩])
 (.seq (.reg [
   ⟨some 20, .mv (.t 4), none⟩,
   ⟨some 21, .mv (.t 5), none⟩,
   ⟨some 4, .mv (.t 20), none⟩,
   ⟨some 5, .mv (.t 21), none⟩,
   ⟨some 6, .mv (.c (.bool true)), none⟩])
 .ret)))),
  [.tmp 4, .tmp 5, .tmp 6]⟩
theorem c194 : chkFn Tryz.prog Tryz.f194 a194 = true := by kernel_rfl

/-- besom/besomref01.up -/
def a198 : AFn := ⟨2, (.seq (.reg [
   ⟨some 4, .mvn 3 [.int .i64], none⟩])
 (.seq (.reg [
   ⟨some 5, .mv (.t 0), none⟩,
   ⟨some 6, .mv (.t 1), none⟩,
   ⟨some 7, .bin .shl (.c (.int .i64 1)) (.t 6), none⟩,
   ⟨some 8, .call (.f 130) [(.t 7)], none⟩,
   ⟨some 9, .call (.f 134) [(.t 5), (.t 8)], none⟩,
   ⟨some 4, .mv (.t 9), none⟩])
 .ret)),
  [.tmp 4]⟩
theorem c198 : chkFn Tryz.prog Tryz.f198 a198 = true := by kernel_rfl

/-- besom/besomref01.minus -/
def a199 : AFn := ⟨2, (.seq (.reg [
   ⟨some 4, .mvn 3 [.int .i64], none⟩])
 (.seq (.reg [
   ⟨some 5, .mvn 3 [.int .i64], none⟩])
 (.seq (.reg [
   ⟨some 6, .mv (.c (.int .i64 0)), none⟩])
 (.seq (.seq (.reg [
   ⟨some 7, .mv (.c (.int .i64 0)), none⟩])
 (.blk 0 (.loop 0 (.seq (.seq (.reg [
    ⟨some 9, .mv (.t 7), none⟩,
    ⟨some 10, .mv (.t 0), none⟩,
    ⟨some 11, .len (.t 10), none⟩,
    ⟨some 12, .bin .lss (.t 9) (.t 11), none⟩])
  (.cond (.t 12) .skip
  (.exit 0)))
  (.seq (.blk 1 (.seq (.reg [
    ⟨some 15, .mv (.t 0), none⟩,
    ⟨some 16, .mv (.t 7), none⟩,
    ⟨some 17, .ia (.t 15) (.t 16) 1, none⟩,
    ⟨some 18, .ld 1 false (.t 17), none⟩,
    ⟨some 19, .mv (.t 6), none⟩,
    ⟨some 20, .bin .sub (.t 18) (.t 19), none⟩,
    ⟨some 8, .mv (.t 20), none⟩])
  (.seq (.seq (.reg [
    ⟨some 21, .mv (.t 7), none⟩,
    ⟨some 22, .mv (.t 1), none⟩,
    ⟨some 23, .len (.t 22), none⟩,
    ⟨some 24, .bin .lss (.t 21) (.t 23), none⟩])
  (.cond (.t 24) (.reg [
     ⟨some 25, .mv (.t 8), none⟩,
     ⟨some 26, .mv (.t 1), none⟩,
     ⟨some 27, .mv (.t 7), none⟩,
     ⟨some 28, .ia (.t 26) (.t 27) 1, none⟩,
     ⟨some 29, .ld 1 false (.t 28), none⟩,
     ⟨some 30, .bin .sub (.t 25) (.t 29), none⟩,
     ⟨some 8, .mv (.t 30), none⟩])
  .skip))
  (.seq (.reg [
    ⟨some 6, .mv (.c (.int .i64 0)), none⟩])
  (.seq (.seq (.reg [
    ⟨some 31, .mv (.t 8), none⟩,
    ⟨some 32, .bin .lss (.t 31) (.c (.int .i64 0)), none⟩])
  (.cond (.t 32) (.seq (.reg [
     ⟨some 33, .mv (.t 8), none⟩,
     ⟨some 34, .bin .add (.t 33) (.c (.int .i64 32768)), none⟩,
     ⟨some 8, .mv (.t 34), none⟩])
   (.reg [
     ⟨some 6, .mv (.c (.int .i64 1)), none⟩]))
  .skip))
  (.reg [
    ⟨some 35, .mv (.t 5), none⟩,
    ⟨some 36, .mv (.t 8), none⟩,
    ⟨some 37, .bsl 3 [.int .i64] 1 [(.int .i64 0)] [(0, 1, (.t 36))], none⟩,
    ⟨some 38, .app 3 [.int .i64] 8 (.t 35) (.t 37), none⟩,
    ⟨some 5, .mv (.t 38), none⟩]))))))
  (.reg [
    ⟨some 13, .mv (.t 7), none⟩,
    ⟨some 14, .bin .add (.t 13) (.c (.int .i64 1)), none⟩,
    ⟨some 7, .mv (.t 14), none⟩]))))))
 (.seq (.reg [
   ⟨some 39, .mv (.t 5), none⟩,
   ⟨some 40, .call (.f 191) [(.t 39)], none⟩,
   ⟨some 4, .mv (.t 40), none⟩])
 .ret))))),
  [.tmp 4]⟩
/-- besom/besomref01.over -/
def a200 : AFn := ⟨2, (.seq (.reg [
   ⟨some 4, .mvn 3 [.int .i64], none⟩,
   ⟨some 5, .mvn 3 [.int .i64], none⟩])
 (.seq (.reg [
   ⟨some 11, .mv (.t 0), none⟩,
   ⟨some 12, .len (.t 11), none⟩,
   ⟨some 13, .msl 3 [.int .i64] 8 (0) (.t 12) (.t 12), none⟩,
   ⟨some 6, .mv (.t 13), none⟩])
 (.seq (.reg [
   ⟨some 7, .mvn 3 [.int .i64], none⟩])
 (.seq (.seq (.reg [
   ⟨some 14, .mv (.t 0), none⟩,
   ⟨some 15, .len (.t 14), none⟩,
   ⟨some 16, .bin .sub (.t 15) (.c (.int .i64 1)), none⟩,
   ⟨some 8, .mv (.t 16), none⟩])
 (.blk 0 (.loop 0 (.seq (.seq (.reg [
    ⟨some 17, .mv (.t 8), none⟩,
    ⟨some 18, .bin .geq (.t 17) (.c (.int .i64 0)), none⟩])
  (.cond (.t 18) .skip
  (.exit 0)))
  (.seq (.blk 1 (.seq (.reg [
    ⟨some 21, .mv (.t 0), none⟩,
    ⟨some 22, .mv (.t 8), none⟩,
    ⟨some 23, .ia (.t 21) (.t 22) 1, none⟩,
    ⟨some 24, .ld 1 false (.t 23), none⟩,
    ⟨some 25, .bsl 3 [.int .i64] 1 [(.int .i64 0)] [(0, 1, (.t 24))], none⟩,
    ⟨some 26, .mv (.t 7), none⟩,
    ⟨some 27, .app 3 [.int .i64] 8 (.t 25) (.t 26), none⟩,
    ⟨some 28, .call (.f 191) [(.t 27)], none⟩,
    ⟨some 7, .mv (.t 28), none⟩])
  (.seq (.reg [
    ⟨some 9, .mv (.c (.int .i64 0)), none⟩])
  (.seq (.seq (.reg [
    ⟨some 10, .mv (.c (.int .i64 16384)), none⟩])
  (.blk 2 (.loop 1 (.seq (.seq (.reg [
     ⟨some 29, .mv (.t 10), none⟩,
     ⟨some 30, .bin .gtr (.t 29) (.c (.int .i64 0)), none⟩,
     ⟨some 31, .mv (.t 30), none⟩,
     ⟨some 32, .mv (.t 7), some (31, true)⟩,
     ⟨some 33, .mv (.t 1), some (31, true)⟩,
     ⟨some 34, .call (.f 132) [(.t 32), (.t 33)], some (31, true)⟩,
     ⟨some 35, .bin .geq (.t 34) (.c (.int .i64 0)), some (31, true)⟩,
     ⟨some 36, .pick (.t 31) (.t 35) (.c (.bool false)), none⟩])
   (.cond (.t 36) .skip
   (.exit 2)))
   (.seq (.blk 3 (.seq (.reg [
     ⟨some 39, .mv (.t 1), none⟩,
     ⟨some 40, .mv (.t 9), none⟩,
     ⟨some 41, .mv (.t 10), none⟩,
     ⟨some 42, .bin .add (.t 40) (.t 41), none⟩,
     ⟨some 43, .call (.f 130) [(.t 42)], none⟩,
     ⟨some 44, .call (.f 134) [(.t 39), (.t 43)], none⟩,
     ⟨some 45, .mv (.t 7), none⟩,
     ⟨some 46, .call (.f 132) [(.t 44), (.t 45)], none⟩,
     ⟨some 47, .bin .leq (.t 46) (.c (.int .i64 0)), none⟩])
   (.cond (.t 47) (.reg [
      ⟨some 48, .mv (.t 9), none⟩,
      ⟨some 49, .mv (.t 10), none⟩,
      ⟨some 50, .bin .add (.t 48) (.t 49), none⟩,
      ⟨some 9, .mv (.t 50), none⟩])
   .skip)))
   (.reg [
     ⟨some 37, .mv (.t 10), none⟩,
     ⟨some 38, .bin .quo (.t 37) (.c (.int .i64 2)), none⟩,
     ⟨some 10, .mv (.t 38), none⟩]))))))
  (.seq (.reg [
    ⟨some 51, .mv (.t 6), none⟩,
    ⟨some 52, .mv (.t 8), none⟩,
    ⟨some 53, .mv (.t 9), none⟩,
    ⟨some 54, .ia (.t 51) (.t 52) 1, none⟩,
    ⟨none, .st 1 (.t 54) (.t 53), none⟩])
  (.reg [
    ⟨some 55, .mv (.t 7), none⟩,
    ⟨some 56, .mv (.t 1), none⟩,
    ⟨some 57, .mv (.t 9), none⟩,
    ⟨some 58, .call (.f 130) [(.t 57)], none⟩,
    ⟨some 59, .call (.f 134) [(.t 56), (.t 58)], none⟩,
    ⟨some 60, .call (.f 199) [(.t 55), (.t 59)], none⟩,
    ⟨some 7, .mv (.t 60), none⟩]))))))
  (.reg [
    ⟨some 19, .mv (.t 8), none⟩,
    ⟨some 20, .bin .sub (.t 19) (.c (.int .i64 1)), none⟩,
    ⟨some 8, .mv (.t 20), none⟩]))))))
 (.seq (.reg [
   ⟨some 61, .mv (.t 6), none⟩,
   ⟨some 62, .call (.f 191) [(.t 61)], none⟩,
   ⟨some 63, .mv (.t 7), none⟩,
   ⟨some 4, .mv (.t 62), none⟩,
   ⟨some 5, .mv (.t 63), none⟩])
 .ret))))),
  [.tmp 4, .tmp 5]⟩
/-- besom/besomref01.number -/
def a201 : AFn := ⟨1, (.seq (.reg [
   ⟨some 2, .mv (.c (.int .i64 0)), none⟩,
   ⟨some 3, .mv (.c (.bool false)), none⟩])
 (.seq (.seq (.reg [
   ⟨some 6, .mv (.t 0), none⟩,
   ⟨some 7, .len (.t 6), none⟩,
   ⟨some 8, .bin .gtr (.t 7) (.c (.int .i64 4)), none⟩])
 (.cond (.t 8) (.seq (.reg [
    ⟨some 2, .mv (.c (.int .i64 0)), none⟩,
    ⟨some 3, .mv (.c (.bool false)), none⟩])
  .ret)
 .skip))
 (.seq (.reg [
   ⟨some 4, .mv (.c (.int .i64 0)), none⟩])
 (.seq (.seq (.reg [
   ⟨some 9, .mv (.t 0), none⟩,
   ⟨some 10, .len (.t 9), none⟩,
   ⟨some 11, .bin .sub (.t 10) (.c (.int .i64 1)), none⟩,
   ⟨some 5, .mv (.t 11), none⟩])
 (.blk 0 (.loop 0 (.seq (.seq (.reg [
    ⟨some 12, .mv (.t 5), none⟩,
    ⟨some 13, .bin .geq (.t 12) (.c (.int .i64 0)), none⟩])
  (.cond (.t 13) .skip
  (.exit 0)))
  (.seq (.blk 1 (.reg [
    ⟨some 16, .mv (.t 4), none⟩,
    ⟨some 17, .bin .mul (.c (.int .i64 32768)) (.t 16), none⟩,
    ⟨some 18, .mv (.t 0), none⟩,
    ⟨some 19, .mv (.t 5), none⟩,
    ⟨some 20, .ia (.t 18) (.t 19) 1, none⟩,
    ⟨some 21, .ld 1 false (.t 20), none⟩,
    ⟨some 22, .bin .add (.t 17) (.t 21), none⟩,
    ⟨some 4, .mv (.t 22), none⟩]))
  (.reg [
    ⟨some 14, .mv (.t 5), none⟩,
    ⟨some 15, .bin .sub (.t 14) (.c (.int .i64 1)), none⟩,
    ⟨some 5, .mv (.t 15), none⟩]))))))
 (.seq (.reg [
   ⟨some 23, .mv (.t 4), none⟩,
   ⟨some 2, .mv (.t 23), none⟩,
   ⟨some 3, .mv (.c (.bool true)), none⟩])
 .ret))))),
  [.tmp 2, .tmp 3]⟩
/-- cmp.isNaN[uint64] -/
def a215 : AFn := ⟨1, (.seq (.reg [
   ⟨some 2, .mv (.c (.bool false)), none⟩])
 (.seq (.reg [
   ⟨some 3, .mv (.t 0), none⟩,
   ⟨some 4, .mv (.t 0), none⟩,
   ⟨some 5, .bin .neq (.t 3) (.t 4), none⟩,
   ⟨some 2, .mv (.t 5), none⟩])
 .ret)),
  [.tmp 2]⟩
theorem c215 : chkFn Tryz.prog Tryz.f215 a215 = true := by kernel_rfl

/-- besom/fixed.bits3 -/
def a216 : AFn := ⟨2, (.seq (.reg [
   ⟨some 3, .box 167 (.t 1), none⟩,
   ⟨some 4, .alloc 167 [(.int .u64 0), (.int .u64 0)], none⟩,
   ⟨some 5, .mv (.c (.int .u64 0)), none⟩])
 (.seq (.drw [
   (⟨some 8, .mv (.t 0), none⟩, []),
   (⟨some 9, .fa (.t 3) 1, none⟩, []),
   (⟨some 10, .ld 1 false (.t 9), none⟩, [1]),
   (⟨some 11, .call (.f 102) [(.t 8), (.t 10)], none⟩, [0, 2, 1]),
   (⟨some 12, .mv (.t 0), none⟩, []),
   (⟨some 13, .fa (.t 3) 0, none⟩, []),
   (⟨some 14, .ld 1 false (.t 13), none⟩, [5]),
   (⟨some 15, .call (.f 102) [(.t 12), (.t 14)], none⟩, [4, 6, 5, 3, 0, 2, 1]),
   (⟨some 6, .alloc 167 [(.int .u64 0), (.int .u64 0)], none⟩, []),
   (⟨some 7, .alloc 167 [(.int .u64 0), (.int .u64 0)], none⟩, []),
   (⟨none, .st 2 (.t 6) (.t 11), none⟩, [8, 3, 0, 2, 1, 7, 4, 6, 5, 9]),
   (⟨none, .st 2 (.t 7) (.t 15), none⟩, [9, 7, 4, 6, 5, 3, 0, 2, 1, 10, 8])])
 (.seq (.drw [
   (⟨some 16, .ld 2 true (.t 7), none⟩, []),
   (⟨some 17, .fa (.t 6) 0, none⟩, []),
   (⟨some 18, .ld 1 false (.t 17), none⟩, [1]),
   (⟨some 19, .bld [(.int .u64 0), (.int .u64 0)] [(1, 1, (.t 18))], none⟩, [2, 1]),
   (⟨some 20, .call (.f 142) [(.t 16), (.t 19)], none⟩, [0, 3, 2, 1]),
   (⟨some 21, .fa (.t 6) 1, none⟩, []),
   (⟨some 22, .ld 1 false (.t 21), none⟩, [5]),
   (⟨none, .st 2 (.t 4) (.t 20), none⟩, [4, 0, 3, 2, 1]),
   (⟨some 5, .mv (.t 22), none⟩, [6, 5, 7, 4, 0, 3, 2, 1])])
 .ret))),
  [.cell 4 2 true, .tmp 5]⟩
theorem c216 : chkFn Tryz.prog Tryz.f216 a216 = true := by kernel_rfl

/-- math/bits.Div64 -/
def a217 : AFn := ⟨3, (.seq (.reg [
   ⟨some 6, .mv (.c (.int .u64 0)), none⟩,
   ⟨some 7, .mv (.c (.int .u64 0)), none⟩])
 (.seq (.seq (.reg [
   ⟨some 19, .mv (.t 2), none⟩,
   ⟨some 20, .bin .eql (.t 19) (.c (.int .u64 0)), none⟩])
 (.cond (.t 20) (.reg [
    ⟨some 21, .no, none⟩,
    ⟨none, .pan (.t 21), none⟩])
 .skip))
 (.seq (.seq (.reg [
   ⟨some 22, .mv (.t 2), none⟩,
   ⟨some 23, .mv (.t 0), none⟩,
   ⟨some 24, .bin .leq (.t 22) (.t 23), none⟩])
 (.cond (.t 24) (.reg [
    ⟨some 25, .no, none⟩,
    ⟨none, .pan (.t 25), none⟩])
 .skip))
 (.seq (.seq (.reg [
   ⟨some 26, .mv (.t 0), none⟩,
   ⟨some 27, .bin .eql (.t 26) (.c (.int .u64 0)), none⟩])
 (.cond (.t 27) (.seq (.drw [
    (⟨some 28, .mv (.t 1), none⟩, []),
    (⟨some 29, .mv (.t 2), none⟩, []),
    (⟨some 30, .bin .quo (.t 28) (.t 29), none⟩, [0, 1]),
    (⟨some 31, .mv (.t 1), none⟩, []),
    (⟨some 32, .mv (.t 2), none⟩, []),
    (⟨some 33, .bin .rem (.t 31) (.t 32), none⟩, [3, 4]),
    (⟨some 6, .mv (.t 30), none⟩, [2, 0, 1]),
    (⟨some 7, .mv (.t 33), none⟩, [5, 3, 4, 6, 2, 0, 1])])
  .ret)
 .skip))
 (.seq (.reg [
   ⟨some 34, .mv (.t 2), none⟩,
   ⟨some 35, .call (.f 228) [(.t 34)], none⟩,
   ⟨some 36, .cv .u64 (.t 35), none⟩,
   ⟨some 8, .mv (.t 36), none⟩])
 (.seq (.reg [
   ⟨some 37, .mv (.t 2), none⟩,
   ⟨some 38, .mv (.t 8), none⟩,
   ⟨some 39, .bin .shl (.t 37) (.t 38), none⟩,
   ⟨some 2, .mv (.t 39), none⟩])
 (.seq (.reg [
   ⟨some 40, .mv (.t 2), none⟩,
   ⟨some 41, .bin .shr (.t 40) (.c (.int .u64 32)), none⟩,
   ⟨some 9, .mv (.t 41), none⟩])
 (.seq (.reg [
   ⟨some 42, .mv (.t 2), none⟩,
   ⟨some 43, .bin .and (.t 42) (.c (.int .u64 4294967295)), none⟩,
   ⟨some 10, .mv (.t 43), none⟩])
 (.seq (.reg [
   ⟨some 44, .mv (.t 0), none⟩,
   ⟨some 45, .mv (.t 8), none⟩,
   ⟨some 46, .bin .shl (.t 44) (.t 45), none⟩,
   ⟨some 47, .mv (.t 1), none⟩,
   ⟨some 48, .mv (.t 8), none⟩,
   ⟨some 49, .bin .sub (.c (.int .u64 64)) (.t 48), none⟩,
   ⟨some 50, .bin .shr (.t 47) (.t 49), none⟩,
   ⟨some 51, .bin .or (.t 46) (.t 50), none⟩,
   ⟨some 11, .mv (.t 51), none⟩])
 (.seq (.reg [
   ⟨some 52, .mv (.t 1), none⟩,
   ⟨some 53, .mv (.t 8), none⟩,
   ⟨some 54, .bin .shl (.t 52) (.t 53), none⟩,
   ⟨some 12, .mv (.t 54), none⟩])
 (.seq (.reg [
   ⟨some 55, .mv (.t 12), none⟩,
   ⟨some 56, .bin .shr (.t 55) (.c (.int .u64 32)), none⟩,
   ⟨some 13, .mv (.t 56), none⟩])
 (.seq (.reg [
   ⟨some 57, .mv (.t 12), none⟩,
   ⟨some 58, .bin .and (.t 57) (.c (.int .u64 4294967295)), none⟩,
   ⟨some 14, .mv (.t 58), none⟩])
 (.seq (.reg [
   ⟨some 59, .mv (.t 11), none⟩,
   ⟨some 60, .mv (.t 9), none⟩,
   ⟨some 61, .bin .quo (.t 59) (.t 60), none⟩,
   ⟨some 15, .mv (.t 61), none⟩])
 (.seq (.reg [
   ⟨some 62, .mv (.t 11), none⟩,
   ⟨some 63, .mv (.t 15), none⟩,
   ⟨some 64, .mv (.t 9), none⟩,
   ⟨some 65, .bin .mul (.t 63) (.t 64), none⟩,
   ⟨some 66, .bin .sub (.t 62) (.t 65), none⟩,
   ⟨some 16, .mv (.t 66), none⟩])
 (.seq (.blk 0 (.loop 0 (.seq (.seq (.reg [
    ⟨some 67, .mv (.t 15), none⟩,
    ⟨some 68, .bin .geq (.t 67) (.c (.int .u64 4294967296)), none⟩,
    ⟨some 69, .mv (.t 68), none⟩,
    ⟨some 70, .mv (.t 15), some (69, false)⟩,
    ⟨some 71, .mv (.t 10), some (69, false)⟩,
    ⟨some 72, .bin .mul (.t 70) (.t 71), some (69, false)⟩,
    ⟨some 73, .mv (.t 16), some (69, false)⟩,
    ⟨some 74, .bin .mul (.c (.int .u64 4294967296)) (.t 73), some (69, false)⟩,
    ⟨some 75, .mv (.t 13), some (69, false)⟩,
    ⟨some 76, .bin .add (.t 74) (.t 75), some (69, false)⟩,
    ⟨some 77, .bin .gtr (.t 72) (.t 76), some (69, false)⟩,
    ⟨some 78, .pick (.t 69) (.c (.bool true)) (.t 77), none⟩])
  (.cond (.t 78) .skip
  (.exit 0)))
  (.blk 1 (.seq (.reg [
    ⟨some 79, .mv (.t 15), none⟩,
    ⟨some 80, .bin .sub (.t 79) (.c (.int .u64 1)), none⟩,
    ⟨some 15, .mv (.t 80), none⟩])
  (.seq (.reg [
    ⟨some 81, .mv (.t 16), none⟩,
    ⟨some 82, .mv (.t 9), none⟩,
    ⟨some 83, .bin .add (.t 81) (.t 82), none⟩,
    ⟨some 16, .mv (.t 83), none⟩])
  (.seq (.reg [
    ⟨some 84, .mv (.t 16), none⟩,
    ⟨some 85, .bin .geq (.t 84) (.c (.int .u64 4294967296)), none⟩])
  (.cond (.t 85) (.exit 0)
  .skip))))))))
 (.seq (.reg [
   ⟨some 86, .mv (.t 11), none⟩,
   ⟨some 87, .bin .mul (.t 86) (.c (.int .u64 4294967296)), none⟩,
   ⟨some 88, .mv (.t 13), none⟩,
   ⟨some 89, .bin .add (.t 87) (.t 88), none⟩,
   ⟨some 90, .mv (.t 15), none⟩,
   ⟨some 91, .mv (.t 2), none⟩,
   ⟨some 92, .bin .mul (.t 90) (.t 91), none⟩,
   ⟨some 93, .bin .sub (.t 89) (.t 92), none⟩,
   ⟨some 17, .mv (.t 93), none⟩])
 (.seq (.reg [
   ⟨some 94, .mv (.t 17), none⟩,
   ⟨some 95, .mv (.t 9), none⟩,
   ⟨some 96, .bin .quo (.t 94) (.t 95), none⟩,
   ⟨some 18, .mv (.t 96), none⟩])
 (.seq (.reg [
   ⟨some 97, .mv (.t 17), none⟩,
   ⟨some 98, .mv (.t 18), none⟩,
   ⟨some 99, .mv (.t 9), none⟩,
   ⟨some 100, .bin .mul (.t 98) (.t 99), none⟩,
   ⟨some 101, .bin .sub (.t 97) (.t 100), none⟩,
   ⟨some 16, .mv (.t 101), none⟩])
 (.seq (.blk 2 (.loop 1 (.seq (.seq (.reg [
    ⟨some 102, .mv (.t 18), none⟩,
    ⟨some 103, .bin .geq (.t 102) (.c (.int .u64 4294967296)), none⟩,
    ⟨some 104, .mv (.t 103), none⟩,
    ⟨some 105, .mv (.t 18), some (104, false)⟩,
    ⟨some 106, .mv (.t 10), some (104, false)⟩,
    ⟨some 107, .bin .mul (.t 105) (.t 106), some (104, false)⟩,
    ⟨some 108, .mv (.t 16), some (104, false)⟩,
    ⟨some 109, .bin .mul (.c (.int .u64 4294967296)) (.t 108), some (104, false)⟩,
    ⟨some 110, .mv (.t 14), some (104, false)⟩,
    ⟨some 111, .bin .add (.t 109) (.t 110), some (104, false)⟩,
    ⟨some 112, .bin .gtr (.t 107) (.t 111), some (104, false)⟩,
    ⟨some 113, .pick (.t 104) (.c (.bool true)) (.t 112), none⟩])
  (.cond (.t 113) .skip
  (.exit 2)))
  (.blk 3 (.seq (.reg [
    ⟨some 114, .mv (.t 18), none⟩,
    ⟨some 115, .bin .sub (.t 114) (.c (.int .u64 1)), none⟩,
    ⟨some 18, .mv (.t 115), none⟩])
  (.seq (.reg [
    ⟨some 116, .mv (.t 16), none⟩,
    ⟨some 117, .mv (.t 9), none⟩,
    ⟨some 118, .bin .add (.t 116) (.t 117), none⟩,
    ⟨some 16, .mv (.t 118), none⟩])
  (.seq (.reg [
    ⟨some 119, .mv (.t 16), none⟩,
    ⟨some 120, .bin .geq (.t 119) (.c (.int .u64 4294967296)), none⟩])
  (.cond (.t 120) (.exit 2)
  .skip))))))))
 (.seq (.reg [
   ⟨some 121, .mv (.t 15), none⟩,
   ⟨some 122, .bin .mul (.t 121) (.c (.int .u64 4294967296)), none⟩,
   ⟨some 123, .mv (.t 18), none⟩,
   ⟨some 124, .bin .add (.t 122) (.t 123), none⟩,
   ⟨some 125, .mv (.t 17), none⟩,
   ⟨some 126, .bin .mul (.t 125) (.c (.int .u64 4294967296)), none⟩,
   ⟨some 127, .mv (.t 14), none⟩,
   ⟨some 128, .bin .add (.t 126) (.t 127), none⟩,
   ⟨some 129, .mv (.t 18), none⟩,
   ⟨some 130, .mv (.t 2), none⟩,
   ⟨some 131, .bin .mul (.t 129) (.t 130), none⟩,
   ⟨some 132, .bin .sub (.t 128) (.t 131), none⟩,
   ⟨some 133, .mv (.t 8), none⟩,
   ⟨some 134, .bin .shr (.t 132) (.t 133), none⟩,
   ⟨some 6, .mv (.t 124), none⟩,
   ⟨some 7, .mv (.t 134), none⟩])
 .ret)))))))))))))))))))),
  [.tmp 6, .tmp 7]⟩
/-- math/bits.LeadingZeros64 -/
def a228 : AFn := ⟨1, (.seq (.reg [
   ⟨some 2, .mv (.c (.int .i64 0)), none⟩])
 (.seq (.reg [
   ⟨some 3, .mv (.t 0), none⟩,
   ⟨some 4, .call (.f 232) [(.t 3)], none⟩,
   ⟨some 5, .bin .sub (.c (.int .i64 64)) (.t 4), none⟩,
   ⟨some 2, .mv (.t 5), none⟩])
 .ret)),
  [.tmp 2]⟩
theorem c228 : chkFn Tryz.prog Tryz.f228 a228 = true := by kernel_rfl

/-- A constant text, as bytes. -/
def tb232_0 : List Nat := [0, 1, 2, 2, 3, 3, 3, 3, 4, 4, 4, 4, 4, 4, 4, 4, 5, 5, 5, 5, 5, 5, 5, 5, 5, 5, 5, 5, 5, 5, 5, 5, 6, 6, 6, 6, 6, 6, 6, 6, 6, 6, 6, 6, 6, 6, 6, 6, 6, 6, 6, 6, 6, 6, 6, 6, 6, 6, 6, 6, 6, 6, 6, 6, 7, 7, 7, 7, 7, 7, 7, 7, 7, 7, 7, 7, 7, 7, 7, 7, 7, 7, 7, 7, 7, 7, 7, 7, 7, 7, 7, 7, 7, 7, 7, 7, 7, 7, 7, 7, 7, 7, 7, 7, 7, 7, 7, 7, 7, 7, 7, 7, 7, 7, 7, 7, 7, 7, 7, 7, 7, 7, 7, 7, 7, 7, 7, 7, 8, 8, 8, 8, 8, 8, 8, 8, 8, 8, 8, 8, 8, 8, 8, 8, 8, 8, 8, 8, 8, 8, 8, 8, 8, 8, 8, 8, 8, 8, 8, 8, 8, 8, 8, 8, 8, 8, 8, 8, 8, 8, 8, 8, 8, 8, 8, 8, 8, 8, 8, 8, 8, 8, 8, 8, 8, 8, 8, 8, 8, 8, 8, 8, 8, 8, 8, 8, 8, 8, 8, 8, 8, 8, 8, 8, 8, 8, 8, 8, 8, 8, 8, 8, 8, 8, 8, 8, 8, 8, 8, 8, 8, 8, 8, 8, 8, 8, 8, 8, 8, 8, 8, 8, 8, 8, 8, 8, 8, 8, 8, 8, 8, 8, 8, 8, 8, 8, 8, 8, 8, 8, 8, 8, 8, 8, 8, 8]
/-- math/bits.Len64 -/
def a232 : AFn := ⟨1, (.seq (.reg [
   ⟨some 2, .mv (.c (.int .i64 0)), none⟩])
 (.seq (.seq (.reg [
   ⟨some 3, .mv (.t 0), none⟩,
   ⟨some 4, .bin .geq (.t 3) (.c (.int .u64 4294967296)), none⟩])
 (.cond (.t 4) (.seq (.reg [
    ⟨some 5, .mv (.t 0), none⟩,
    ⟨some 6, .bin .shr (.t 5) (.c (.int .u64 32)), none⟩,
    ⟨some 0, .mv (.t 6), none⟩])
  (.reg [
    ⟨some 2, .mv (.c (.int .i64 32)), none⟩]))
 .skip))
 (.seq (.seq (.reg [
   ⟨some 7, .mv (.t 0), none⟩,
   ⟨some 8, .bin .geq (.t 7) (.c (.int .u64 65536)), none⟩])
 (.cond (.t 8) (.seq (.reg [
    ⟨some 9, .mv (.t 0), none⟩,
    ⟨some 10, .bin .shr (.t 9) (.c (.int .u64 16)), none⟩,
    ⟨some 0, .mv (.t 10), none⟩])
  (.reg [
    ⟨some 11, .mv (.t 2), none⟩,
    ⟨some 12, .bin .add (.t 11) (.c (.int .i64 16)), none⟩,
    ⟨some 2, .mv (.t 12), none⟩]))
 .skip))
 (.seq (.seq (.reg [
   ⟨some 13, .mv (.t 0), none⟩,
   ⟨some 14, .bin .geq (.t 13) (.c (.int .u64 256)), none⟩])
 (.cond (.t 14) (.seq (.reg [
    ⟨some 15, .mv (.t 0), none⟩,
    ⟨some 16, .bin .shr (.t 15) (.c (.int .u64 8)), none⟩,
    ⟨some 0, .mv (.t 16), none⟩])
  (.reg [
    ⟨some 17, .mv (.t 2), none⟩,
    ⟨some 18, .bin .add (.t 17) (.c (.int .i64 8)), none⟩,
    ⟨some 2, .mv (.t 18), none⟩]))
 .skip))
 (.seq (.reg [
   ⟨some 19, .mv (.t 2), none⟩,
   ⟨some 20, .mv (.t 0), none⟩,
   ⟨some 21, .cv .u8 (.t 20), none⟩,
   ⟨some 22, .ixs tb232_0 (.t 21), none⟩,
   ⟨some 23, .cv .i64 (.t 22), none⟩,
   ⟨some 24, .bin .add (.t 19) (.t 23), none⟩,
   ⟨some 2, .mv (.t 24), none⟩])
 .ret))))),
  [.tmp 2]⟩
theorem c232 : chkFn Tryz.prog Tryz.f232 a232 = true := by kernel_rfl

end Go.Proofs.YtbolfnkgbjkbjaaGreat.AM
end
section
set_option linter.unusedVariables false
set_option linter.unusedSimpArgs false
namespace Go.Proofs.YtbolfnkgbjkbjaaGreat.AM
open Go Go.RowKit

abbrev u64 (n : Int) : V := .int .u64 n
abbrev i64 (n : Int) : V := .int .i64 n
def noIv : Inv := fun _ _ _ _ => False
/-- fixed.need, where it holds -/
def g100 : GSpec := fun args obs => match args, obs with
  | [.bool b, .int .i64 e], [] => some (b = true, .ret (.tup []), [])
  | _, _ => none
theorem r100 : FreshOk Tryz.prog 100 (ofD g100) := by
  refine fresh_of_run (noTab_ok _) (noD_ok _) (fun _ _ => noIv) Tryz.func100 c100 fun args obs K' hk => ?_
  unfold ofD g100 at hk
  split at hk
  · rename_i d out news hg
    split at hg
    · cases hg
      obtain ⟨rfl, hk⟩ := hk
      exact hk
    · cases hg
  · exact hk.elim
/-- fixed.size -/
def g126 : GSpec := fun args obs => match args, obs with
  | [.int .i64 x], [] => some (-9223372036854775808 ≤ x ∧ x < 9223372036854775808, .ret (u64 x.natAbs), [])
  | _, _ => none
theorem r126 : FreshOk Tryz.prog 126 (ofD g126) := by
  refine fresh_of_run (noTab_ok _) (noD_ok _) (fun _ _ => noIv) Tryz.func126 c126 fun args obs K' hk => ?_
  unfold ofD g126 at hk
  split at hk
  · rename_i d out news hg
    split at hg
    · rename_i x
      cases hg
      obtain ⟨hx, hk⟩ := hk
      have key : ∀ y : Int, y = x.natAbs → closeK K' (.ret (u64 y)) (lookO []) 0 := by
        rintro _ rfl
        exact hk
      refine bcase_i (fun h => ?_) (fun h => ?_)
      · refine key _ ?_
        simp only [decide_eq_true_eq] at h
        rw [IntKind.wrap_u64, IntKind.wrap_u64]
        omega
      · refine key _ ?_
        simp only [decide_eq_false_iff_not] at h
        rw [IntKind.wrap_u64]
        omega
    · cases hg
  · exact hk.elim
def T1 : Tab := (noTab.add 100 (liftA (ofD g100))).add 126 (liftA (ofD g126))
theorem T1_ok : TabOk Tryz.prog T1 := ((noTab_ok _).add (entry_of_fresh r100)).add (entry_of_fresh r126)
/-- fixed.right -/
def g98 : GSpec := fun args obs => match args, obs with
  | [.osl 0], [.ro [.int .i64] l] => some ((l : List Int).length < 1000000 ∧ ∀ x ∈ (l : List Int), -70368744177664 ≤ x ∧ x ≤ 70368744177664, .ret (.tup []), [])
  | _, _ => none
def I41 (obs : List Ob) : Inv := fun _ m sl ob => ∃ (l : List Int) (i : Nat), obs = [.ro [.int .i64] l] ∧ ob = obs ∧ (l.length < 1000000 ∧ ∀ x ∈ l, -70368744177664 ≤ x ∧ x ≤ 70368744177664) ∧ i ≤ l.length ∧ m = l.length - i ∧
  sl = [(4, .osl 0), (5, i64 l.length), (6, i64 i)]
theorem r98 : FreshOk Tryz.prog 98 (ofD g98) := by
  refine fresh_of_run T1_ok (noD_ok _) (fun _ obs => I41 obs) Tryz.func98 c98 fun args obs K' hk => ?_
  unfold ofD g98 at hk
  split at hk
  · rename_i d out news hg
    split at hg
    · rename_i l
      cases hg
      obtain ⟨hx, hk⟩ := hk
      refine And.intro ?_ ?_
      · exact ⟨_, _, _, ⟨l, 0, rfl, rfl, hx, Nat.zero_le _, rfl, rfl⟩, ⟨Nat.le_refl _, Nat.le_refl _, ⟨⟨⟨rfl, rfl⟩, ⟨rfl, rfl⟩, ⟨rfl, rfl⟩, trivial⟩, ⟨⟨.inr rfl, trivial⟩, trivial⟩⟩⟩⟩
      · rintro m sl ob ⟨l', i, e1, rfl, hx', hi, rfl, rfl⟩
        cases e1
        refine bcase_i (fun h => ?_) (fun h => ?_)
        · simp only [decide_eq_true_eq] at h
          have hi' : i < l.length := by omega
          have hb := hx.2 (l.getD i 0) (by rw [List.getD_eq_getElem?_getD, List.getElem?_eq_getElem hi']; exact List.getElem_mem hi')
          refine And.intro ⟨by omega, by omega⟩ ?_
          refine And.intro hi' ?_
          refine bcase_t (by simp; exact hb.1) ?_
          refine And.intro ⟨trivial, trivial, trivial⟩ ?_
          refine And.intro ?_ ?_
          · show (bif true then decide _ else false) = true
            simp
            exact hb.2
          · refine ⟨_, _, _, ?_, ⟨l, i + 1, rfl, rfl, hx, by omega, rfl, rfl⟩, ⟨Nat.le_refl _, Nat.le_refl _, ⟨⟨⟨rfl, rfl⟩, ⟨rfl, rfl⟩, ⟨?_, rfl⟩, trivial⟩, ⟨⟨.inr rfl, trivial⟩, trivial⟩⟩⟩⟩
            · omega
            · show i64 (IntKind.i64.wrap (i + 1)) = i64 ((i + 1 : Nat) : Int)
              rw [IntWalk.i64_in _ (by omega)]
              rfl
        · have e : i = l.length := by
            simp only [decide_eq_false_iff_not] at h
            omega
          exact hk
    · cases hg
  · exact hk.elim
theorem dok {P : Program} {f : Nat} {g : GSpec} (r : FreshOk P f (ofD g)) : EntryOk P f (liftG (viewD g)) := (entry_of_fresh r).weaken fun _ _ _ _ h => viewD_spec h
/-- fixed.signed -/
def g138 : GSpec := fun args obs => match args, obs with
  | [.int .u64 n, .bool neg], [] => some (0 ≤ n ∧ n ≤ 70368744177664, .ret (i64 (bif neg then -n else n)), [])
  | _, _ => none
theorem r138 : FreshOk Tryz.prog 138 (ofD g138) := by
  refine fresh_of_run T1_ok (noD_ok _) (fun _ _ => noIv) Tryz.func138 c138 fun args obs K' hk => ?_
  unfold ofD g138 at hk
  split at hk
  · rename_i d out news hg
    split at hg
    · rename_i n neg
      cases hg
      obtain ⟨hx, hk⟩ := hk
      refine And.intro ⟨trivial, trivial, trivial⟩ ?_
      refine And.intro (by simp; exact hx.2) ?_
      have key : ∀ y : Int, y = (bif neg then -n else n) → closeK K' (.ret (i64 y)) (lookO []) 0 := by
        rintro _ rfl
        exact hk
      refine bcase_i (fun h => ?_) (fun h => ?_)
      · refine key _ ?_
        rw [h, IntWalk.i64_in n (by omega), IntWalk.i64_in _ (by omega)]
        simp
      · refine key _ ?_
        rw [h, IntWalk.i64_in n (by omega)]
        simp
    · cases hg
  · exact hk.elim
def T2 : Tab := (T1.add 98 (liftA (ofD g98))).add 138 (liftA (ofD g138))
theorem T2_ok : TabOk Tryz.prog T2 := (T1_ok.add (entry_of_fresh r98)).add (entry_of_fresh r138)
abbrev fixOk (a : Int) : Prop := -70368744177664 ≤ a ∧ a ≤ 70368744177664
/-- fixed.sub -/
def g121 : GSpec := fun args obs => match args, obs with
  | [.int .i64 a, .int .i64 b], [] => some (fixOk a ∧ fixOk b ∧ fixOk (a - b), .ret (i64 (a - b)), [])
  | _, _ => none
theorem r121 : FreshOk Tryz.prog 121 (ofD g121) := by
  refine fresh_of_run T2_ok (noD_ok _) (fun _ _ => noIv) Tryz.func121 c121 fun args obs K' hk => ?_
  unfold ofD g121 at hk
  split at hk
  · rename_i d out news hg
    split at hg
    · rename_i a b
      cases hg
      obtain ⟨⟨h1, h2, h3⟩, hk⟩ := hk
      have e : IntKind.i64.wrap (a - b) = a - b := IntWalk.i64_in _ (by omega)
      refine And.intro trivial ?_
      refine And.intro ⟨trivial, trivial⟩ ?_
      refine And.intro ⟨by simp, ?_⟩ ?_
      · intro x hx
        simp at hx
        rcases hx with rfl | rfl
        · exact h1
        · exact h2
      · refine And.intro ⟨trivial, trivial⟩ ?_
        refine And.intro (by rw [e]; omega) ?_
        refine And.intro ⟨trivial, trivial, trivial⟩ ?_
        refine And.intro (by rw [e]; omega) ?_
        have key : ∀ y : Int, y = a - b → closeK K' (.ret (i64 y)) (lookO []) 0 := by
          rintro _ rfl
          exact hk
        refine key _ ?_
        rw [e]
        by_cases h : a - b < 0
        · simp [h]; omega
        · simp [h]; omega
    · cases hg
  · exact hk.elim
/-- fixed.add -/
def g93 : GSpec := fun args obs => match args, obs with
  | [.int .i64 a, .int .i64 b], [] => some (fixOk a ∧ fixOk b ∧ fixOk (a + b), .ret (i64 (a + b)), [])
  | _, _ => none
theorem r93 : FreshOk Tryz.prog 93 (ofD g93) := by
  refine fresh_of_run T2_ok (noD_ok _) (fun _ _ => noIv) Tryz.func93 c93 fun args obs K' hk => ?_
  unfold ofD g93 at hk
  split at hk
  · rename_i d out news hg
    split at hg
    · rename_i a b
      cases hg
      obtain ⟨⟨h1, h2, h3⟩, hk⟩ := hk
      have e : IntKind.i64.wrap (a + b) = a + b := IntWalk.i64_in _ (by omega)
      refine And.intro trivial ?_
      refine And.intro ⟨trivial, trivial⟩ ?_
      refine And.intro ⟨by simp, ?_⟩ ?_
      · intro x hx
        simp at hx
        rcases hx with rfl | rfl
        · exact h1
        · exact h2
      · refine And.intro ⟨trivial, trivial⟩ ?_
        refine And.intro (by rw [e]; omega) ?_
        refine And.intro ⟨trivial, trivial, trivial⟩ ?_
        refine And.intro (by rw [e]; omega) ?_
        have key : ∀ y : Int, y = a + b → closeK K' (.ret (i64 y)) (lookO []) 0 := by
          rintro _ rfl
          exact hk
        refine key _ ?_
        rw [e]
        by_cases h : a + b < 0
        · simp [h]; omega
        · simp [h]; omega
    · cases hg
  · exact hk.elim
end Go.Proofs.YtbolfnkgbjkbjaaGreat.AM
end
section
set_option linter.unusedVariables false
set_option linter.unusedSimpArgs false
namespace Go.Proofs.YtbolfnkgbjkbjaaGreat.AM
open Go Go.RowKit

def D3 : DTab := (noD.add 121 (viewD g121)).add 93 (viewD g93)
theorem D3_ok : TabOk Tryz.prog (tabD D3) := DTab.add_ok (DTab.add_ok (noD_ok _) (dok r121)) (dok r93)
def eachT (D : DTab) : Tab := (T2.add 158 (runFn T2 D noIv a158))
def eachT2 (D : DTab) : Tab := (eachT D).add 135 (runTried (eachT D) D noIv a135)
def eachT3 (D : DTab) : Tab := (eachT2 D).add 92 (runFn (eachT2 D) D noIv a92)
theorem eachT3_ok {D : DTab} (hD : TabOk Tryz.prog (tabD D)) : TabOk Tryz.prog (eachT3 D) := by
  have h1 : TabOk Tryz.prog (eachT D) := T2_ok.add (fn_entry T2_ok hD noIv Tryz.func158 c158)
  have h2 : TabOk Tryz.prog (eachT2 D) := h1.add (tried_entry h1 hD noIv Tryz.func135 Tryz.func192 c135 d135)
  exact h2.add (fn_entry h2 hD noIv Tryz.func92 c92)
set_option maxRecDepth 100000
/-- fixed.Minus -/
def g76 : GSpec := fun args obs => match args, obs with
  | [.agg [.int .i64 a, .int .i64 b], .agg [.int .i64 c, .int .i64 d]], [] => some ((fixOk a ∧ fixOk b ∧ fixOk c ∧ fixOk d) ∧ fixOk (a - c) ∧ fixOk (b - d), .ret (.tup [.agg [i64 (a - c), i64 (b - d)], i64 0]), [])
  | _, _ => none
theorem k76 (a b c d : Int) (K' : Out → List Ob → Prop) : runFn (eachT3 D3) (D3) noIv a76 [.agg [.int .i64 a, .int .i64 b], .agg [.int .i64 c, .int .i64 d]] (lookO []) 0 (closeK K') =
    ((True) ∧
    (True) ∧
    (True) ∧
    (True) ∧
    (True) ∧
    (True) ∧
    (True) ∧
    (True) ∧
    (True) ∧
    (True) ∧
    (True) ∧
    (True ∧ True) ∧
    ([a, b, c, d].length < 1000000 ∧
  ∀ (x : den [SK.int IntKind.i64]), x ∈ [a, b, c, d] → -70368744177664 ≤ x ∧ x ≤ 70368744177664) ∧
    ((True ∧ True ∧ True) ∧ fixOk a ∧ fixOk c ∧ fixOk (a - c)) ∧
    ((True ∧ True ∧ True) ∧ fixOk b ∧ fixOk d ∧ fixOk (b - d)) ∧
    (True) ∧
    (True) ∧
    (True) ∧
    (True) ∧
    (True) ∧
    (True) ∧
    (True) ∧
    K' (Out.ret (V.tup [V.agg [V.int IntKind.i64 (a - c), V.int IntKind.i64 (b - d)], V.int IntKind.i64 0])) []) := by kernel_rfl
theorem r76 : FreshOk Tryz.prog 76 (ofD g76) := by
  refine fresh_of_run (eachT3_ok D3_ok) D3_ok (fun _ _ => noIv) Tryz.func76 c76 fun args obs K' hk => ?_
  unfold ofD g76 at hk
  split at hk
  · rename_i d_ out news hg
    split at hg
    · rename_i a b c d
      cases hg
      obtain ⟨hc, hk⟩ := hk
      obtain ⟨⟨h1, h2, h3, h4⟩, h5, h6⟩ := hc
      refine Eq.mpr (k76 a b c d K') ⟨trivial, trivial, trivial, trivial, trivial, trivial, trivial, trivial, trivial, trivial, trivial, ⟨trivial, trivial⟩, ?_, ?_, ?_, trivial, trivial, trivial, trivial, trivial, trivial, trivial, hk⟩
      · refine ⟨by simp, ?_⟩
        intro x hx
        simp at hx
        rcases hx with rfl | rfl | rfl | rfl
        · exact h1
        · exact h2
        · exact h3
        · exact h4
      · exact ⟨⟨trivial, trivial, trivial⟩, h1, h3, h5⟩
      · exact ⟨⟨trivial, trivial, trivial⟩, h2, h4, h6⟩
    · cases hg
  · exact hk.elim
/-- fixed.Plus -/
def g57 : GSpec := fun args obs => match args, obs with
  | [.agg [.int .i64 a, .int .i64 b], .agg [.int .i64 c, .int .i64 d]], [] => some ((fixOk a ∧ fixOk b ∧ fixOk c ∧ fixOk d) ∧ fixOk (a + c) ∧ fixOk (b + d), .ret (.tup [.agg [i64 (a + c), i64 (b + d)], i64 0]), [])
  | _, _ => none
theorem k57 (a b c d : Int) (K' : Out → List Ob → Prop) : runFn (eachT3 D3) (D3) noIv a57 [.agg [.int .i64 a, .int .i64 b], .agg [.int .i64 c, .int .i64 d]] (lookO []) 0 (closeK K') =
    ((True) ∧
    (True) ∧
    (True) ∧
    (True) ∧
    (True) ∧
    (True) ∧
    (True) ∧
    (True) ∧
    (True) ∧
    (True) ∧
    (True) ∧
    (True ∧ True) ∧
    ([a, b, c, d].length < 1000000 ∧
  ∀ (x : den [SK.int IntKind.i64]), x ∈ [a, b, c, d] → -70368744177664 ≤ x ∧ x ≤ 70368744177664) ∧
    ((True ∧ True ∧ True) ∧ fixOk a ∧ fixOk c ∧ fixOk (a + c)) ∧
    ((True ∧ True ∧ True) ∧ fixOk b ∧ fixOk d ∧ fixOk (b + d)) ∧
    (True) ∧
    (True) ∧
    (True) ∧
    (True) ∧
    (True) ∧
    (True) ∧
    (True) ∧
    K' (Out.ret (V.tup [V.agg [V.int IntKind.i64 (a + c), V.int IntKind.i64 (b + d)], V.int IntKind.i64 0])) []) := by kernel_rfl
theorem r57 : FreshOk Tryz.prog 57 (ofD g57) := by
  refine fresh_of_run (eachT3_ok D3_ok) D3_ok (fun _ _ => noIv) Tryz.func57 c57 fun args obs K' hk => ?_
  unfold ofD g57 at hk
  split at hk
  · rename_i d_ out news hg
    split at hg
    · rename_i a b c d
      cases hg
      obtain ⟨hc, hk⟩ := hk
      obtain ⟨⟨h1, h2, h3, h4⟩, h5, h6⟩ := hc
      refine Eq.mpr (k57 a b c d K') ⟨trivial, trivial, trivial, trivial, trivial, trivial, trivial, trivial, trivial, trivial, trivial, ⟨trivial, trivial⟩, ?_, ?_, ?_, trivial, trivial, trivial, trivial, trivial, trivial, trivial, hk⟩
      · refine ⟨by simp, ?_⟩
        intro x hx
        simp at hx
        rcases hx with rfl | rfl | rfl | rfl
        · exact h1
        · exact h2
        · exact h3
        · exact h4
      · exact ⟨⟨trivial, trivial, trivial⟩, h1, h3, h5⟩
      · exact ⟨⟨trivial, trivial, trivial⟩, h2, h4, h6⟩
    · cases hg
  · exact hk.elim
end Go.Proofs.YtbolfnkgbjkbjaaGreat.AM
end
section
set_option linter.unusedVariables false
set_option linter.unusedSimpArgs false
namespace Go.Proofs.YtbolfnkgbjkbjaaGreat.AM
open Go Go.RowKit
set_option maxRecDepth 100000
theorem nat_shr (n : Nat) : (n : Int).fdiv (2 ^ min (Int.toNat 32) IntKind.u64.bits) = ((n / 4294967296 : Nat) : Int) := by
  have : (2 ^ min (Int.toNat 32) IntKind.u64.bits : Int) = 4294967296 := by decide
  rw [this, Int.fdiv_eq_ediv_of_nonneg _ (by decide)]
  omega
theorem nat_and (n : Nat) (h : n < 18446744073709551616) : IntKind.u64.wrap ↑(BitVec.ofInt IntKind.u64.bits n &&& BitVec.ofInt IntKind.u64.bits 4294967295).toNat = ((n % 4294967296 : Nat) : Int) := by
  have e1 : (BitVec.ofInt IntKind.u64.bits (n : Int)).toNat = n := by
    rw [BitVec.toNat_ofInt]
    show ((n : Int) % ((2 ^ 64 : Nat) : Int)).toNat = n
    omega
  have e2 : (BitVec.ofInt IntKind.u64.bits 4294967295).toNat = 2 ^ 32 - 1 := by decide
  rw [BitVec.toNat_and, e1, e2, Nat.and_two_pow_sub_one_eq_mod]
  rw [IntKind.wrap_u64]
  omega
theorem nat_wrap (n : Nat) (h : n < 18446744073709551616) : IntKind.u64.wrap (n : Int) = n := IntWalk.u64_in _ (by omega)
theorem mul_hi (x y : Int) (hx : 0 ≤ x ∧ x < 18446744073709551616) (hy : 0 ≤ y ∧ y < 18446744073709551616) :
    (IntKind.u64.wrap
            (IntKind.u64.wrap
                (IntKind.u64.wrap
                    (x.fdiv ((2 : Int) ^ min (Int.toNat (32 : Int)) IntKind.u64.bits) *
                      y.fdiv ((2 : Int) ^ min (Int.toNat (32 : Int)) IntKind.u64.bits)) +
                  (IntKind.u64.wrap
                        (IntKind.u64.wrap
                            (x.fdiv ((2 : Int) ^ min (Int.toNat (32 : Int)) IntKind.u64.bits) *
                              IntKind.u64.wrap
                                ↑(BitVec.ofInt IntKind.u64.bits y &&&
                                      BitVec.ofInt IntKind.u64.bits (4294967295 : Int)).toNat) +
                          (IntKind.u64.wrap
                                (IntKind.u64.wrap
                                    ↑(BitVec.ofInt IntKind.u64.bits x &&&
                                          BitVec.ofInt IntKind.u64.bits (4294967295 : Int)).toNat *
                                  IntKind.u64.wrap
                                    ↑(BitVec.ofInt IntKind.u64.bits y &&&
                                          BitVec.ofInt IntKind.u64.bits (4294967295 : Int)).toNat)).fdiv
                            ((2 : Int) ^ min (Int.toNat (32 : Int)) IntKind.u64.bits))).fdiv
                    ((2 : Int) ^ min (Int.toNat (32 : Int)) IntKind.u64.bits)) +
              (IntKind.u64.wrap
                    (IntKind.u64.wrap
                        ↑(BitVec.ofInt IntKind.u64.bits
                                (IntKind.u64.wrap
                                  (IntKind.u64.wrap
                                      (x.fdiv ((2 : Int) ^ min (Int.toNat (32 : Int)) IntKind.u64.bits) *
                                        IntKind.u64.wrap
                                          ↑(BitVec.ofInt IntKind.u64.bits y &&&
                                                BitVec.ofInt IntKind.u64.bits (4294967295 : Int)).toNat) +
                                    (IntKind.u64.wrap
                                          (IntKind.u64.wrap
                                              ↑(BitVec.ofInt IntKind.u64.bits x &&&
                                                    BitVec.ofInt IntKind.u64.bits (4294967295 : Int)).toNat *
                                            IntKind.u64.wrap
                                              ↑(BitVec.ofInt IntKind.u64.bits y &&&
                                                    BitVec.ofInt IntKind.u64.bits (4294967295 : Int)).toNat)).fdiv
                                      ((2 : Int) ^ min (Int.toNat (32 : Int)) IntKind.u64.bits))) &&&
                              BitVec.ofInt IntKind.u64.bits (4294967295 : Int)).toNat +
                      IntKind.u64.wrap
                        (IntKind.u64.wrap
                            ↑(BitVec.ofInt IntKind.u64.bits x &&&
                                  BitVec.ofInt IntKind.u64.bits (4294967295 : Int)).toNat *
                          y.fdiv ((2 : Int) ^ min (Int.toNat (32 : Int)) IntKind.u64.bits)))).fdiv
                ((2 : Int) ^ min (Int.toNat (32 : Int)) IntKind.u64.bits))) = x * y / 18446744073709551616 := by
  obtain ⟨X, rfl⟩ := Int.eq_ofNat_of_zero_le hx.1
  obtain ⟨Y, rfl⟩ := Int.eq_ofNat_of_zero_le hy.1
  have hX : X < 18446744073709551616 := by omega
  have hY : Y < 18446744073709551616 := by omega
  obtain ⟨l1, l2, l3, l4⟩ := Go.Lib.mul64_hi X Y hX hY
  have l5 : X * Y / 18446744073709551616 < 18446744073709551616 := by
    rw [Nat.div_lt_iff_lt_mul (by decide)]
    exact Nat.mul_lt_mul'' hX hY
  rw [nat_and X hX, nat_and Y hY, nat_shr X, nat_shr Y]
  generalize X / 4294967296 = p at *
  generalize X % 4294967296 = q at *
  generalize Y / 4294967296 = r at *
  generalize Y % 4294967296 = s at *
  have e : ((X : Int) * (Y : Int) / 18446744073709551616) = ((X * Y / 18446744073709551616 : Nat) : Int) := by rw [Int.natCast_ediv, Int.natCast_mul]; rfl
  rw [e, ← l4]
  rw [← l4] at l5
  have w1 := nat_wrap (q * s) l1
  have w2 := nat_wrap (p * s) (by omega)
  have w3 := nat_wrap _ l2
  have w4 := nat_wrap (q * r) (by omega)
  have w5 := nat_wrap _ l3
  have w6 := nat_wrap (p * r) (by omega)
  have w7 := nat_wrap (p * r + (p * s + q * s / 4294967296) / 4294967296) (by omega)
  have w8 := nat_wrap _ l5
  have a1 := nat_and _ l2
  simp only [← Int.natCast_mul, ← Int.natCast_add, w1, w2, nat_shr, w3, a1, w4, w5, w6, w7, w8]
/-- math/bits.Mul64 -/
def g167 : GSpec := fun args obs => match args, obs with
  | [.int .u64 x, .int .u64 y], [] => some ((0 ≤ x ∧ x < 18446744073709551616) ∧ 0 ≤ y ∧ y < 18446744073709551616, .ret (.tup [u64 (x * y / 18446744073709551616), u64 (x * y % 18446744073709551616)]), [])
  | _, _ => none
theorem k167 (x y : Int) (K' : Out → List Ob → Prop) : runFn (noTab) (noD) noIv a167 [.int .u64 x, .int .u64 y] (lookO []) 0 (closeK K') =
    (((0 : Int) ≤ (32 : Int)) ∧
    ((0 : Int) ≤ (32 : Int)) ∧
    ((0 : Int) ≤ (32 : Int)) ∧
    ((0 : Int) ≤ (32 : Int)) ∧
    ((0 : Int) ≤ (32 : Int)) ∧
    K'
  (Out.ret
    (V.tup
      [V.int IntKind.u64
          (IntKind.u64.wrap
            (IntKind.u64.wrap
                (IntKind.u64.wrap
                    (x.fdiv ((2 : Int) ^ min (Int.toNat (32 : Int)) IntKind.u64.bits) *
                      y.fdiv ((2 : Int) ^ min (Int.toNat (32 : Int)) IntKind.u64.bits)) +
                  (IntKind.u64.wrap
                        (IntKind.u64.wrap
                            (x.fdiv ((2 : Int) ^ min (Int.toNat (32 : Int)) IntKind.u64.bits) *
                              IntKind.u64.wrap
                                ↑(BitVec.ofInt IntKind.u64.bits y &&&
                                      BitVec.ofInt IntKind.u64.bits (4294967295 : Int)).toNat) +
                          (IntKind.u64.wrap
                                (IntKind.u64.wrap
                                    ↑(BitVec.ofInt IntKind.u64.bits x &&&
                                          BitVec.ofInt IntKind.u64.bits (4294967295 : Int)).toNat *
                                  IntKind.u64.wrap
                                    ↑(BitVec.ofInt IntKind.u64.bits y &&&
                                          BitVec.ofInt IntKind.u64.bits (4294967295 : Int)).toNat)).fdiv
                            ((2 : Int) ^ min (Int.toNat (32 : Int)) IntKind.u64.bits))).fdiv
                    ((2 : Int) ^ min (Int.toNat (32 : Int)) IntKind.u64.bits)) +
              (IntKind.u64.wrap
                    (IntKind.u64.wrap
                        ↑(BitVec.ofInt IntKind.u64.bits
                                (IntKind.u64.wrap
                                  (IntKind.u64.wrap
                                      (x.fdiv ((2 : Int) ^ min (Int.toNat (32 : Int)) IntKind.u64.bits) *
                                        IntKind.u64.wrap
                                          ↑(BitVec.ofInt IntKind.u64.bits y &&&
                                                BitVec.ofInt IntKind.u64.bits (4294967295 : Int)).toNat) +
                                    (IntKind.u64.wrap
                                          (IntKind.u64.wrap
                                              ↑(BitVec.ofInt IntKind.u64.bits x &&&
                                                    BitVec.ofInt IntKind.u64.bits (4294967295 : Int)).toNat *
                                            IntKind.u64.wrap
                                              ↑(BitVec.ofInt IntKind.u64.bits y &&&
                                                    BitVec.ofInt IntKind.u64.bits (4294967295 : Int)).toNat)).fdiv
                                      ((2 : Int) ^ min (Int.toNat (32 : Int)) IntKind.u64.bits))) &&&
                              BitVec.ofInt IntKind.u64.bits (4294967295 : Int)).toNat +
                      IntKind.u64.wrap
                        (IntKind.u64.wrap
                            ↑(BitVec.ofInt IntKind.u64.bits x &&&
                                  BitVec.ofInt IntKind.u64.bits (4294967295 : Int)).toNat *
                          y.fdiv ((2 : Int) ^ min (Int.toNat (32 : Int)) IntKind.u64.bits)))).fdiv
                ((2 : Int) ^ min (Int.toNat (32 : Int)) IntKind.u64.bits))),
        V.int IntKind.u64 (IntKind.u64.wrap (x * y))]))
  []) := by kernel_rfl
theorem r167 : FreshOk Tryz.prog 167 (ofD g167) := by
  refine fresh_of_run (noTab_ok _) (noD_ok _) (fun _ _ => noIv) Tryz.func167 c167 fun args obs K' hk => ?_
  unfold ofD g167 at hk
  split at hk
  · rename_i d_ out news hg
    split at hg
    · rename_i x y
      cases hg
      obtain ⟨hc, hk⟩ := hk
      refine Eq.mpr (k167 x y K') ⟨?_, ?_, ?_, ?_, ?_, ?_⟩
      · decide
      · decide
      · decide
      · decide
      · decide
      · rw [mul_hi x y hc.1 hc.2, IntKind.wrap_u64]
        exact hk
    · cases hg
  · exact hk.elim
/-- A function of the model's table. -/
theorem fresh_ext {P : Program} {f : Nat} {fn : Func} {e : Array Value → Sem Value} {g : GSpec} (hf : P.funcs[f]? = some fn) (hname : (fn.name == "runtime.NumGoroutine") = false) (hb : fn.body.isNone = true) (hn : Extern.findNext fn = none) (he : Extern.find fn = some e)
    (hg : ∀ args obs d out news, g args obs = some (d, out, news) → d → obs = [] ∧ news = [] ∧ ∃ v, out = .ret v ∧ ∀ (ρ : Nat → Bnd) (xs : List Value), RL ρ 0 args xs → ∀ w : World, ∃ x, (e xs.toArray).run P w = .ok x w ∧ R ρ 0 v x) : FreshOk P f (ofD g) := by
  intro args obs K' hk w ρ xs hro hargs
  unfold ofD at hk
  split at hk
  · rename_i d out news hgo
    obtain ⟨hd, hk⟩ := hk
    obtain ⟨rfl, rfl, v, rfl, hrun⟩ := hg args obs d out news hgo hd
    obtain ⟨x, hx, hR⟩ := hrun ρ xs hargs w
    refine .inr ⟨x, w, ?_, .ret v, [], ρ, hk, hR, ⟨Nat.le_refl _, fun i hi => by simp at hi, fun i j hi => by simp at hi⟩, fun i hi => by simp at hi, (fun u e => by cases e), Below.refl _ _⟩
    rw [run_callFunc_extern hf hname hb hn he, hx]
    rfl
  · exact hk.elim
theorem RL3 {ρ : Nat → Bnd} {n : Nat} {k1 k2 k3 : IntKind} {x y c : Int} {xs : List Value} (h : RL ρ n [.int k1 x, .int k2 y, .int k3 c] xs) : xs = [.int k1 x, .int k2 y, .int k3 c] := by
  match xs, h with
  | [a, b, d], h =>
    simp only [RL, R] at h
    obtain ⟨rfl, rfl, rfl, _⟩ := h
    rfl
  | [], h => simp [RL] at h
  | [_], h => simp [RL] at h
  | [_, _], h => simp [RL] at h
  | _ :: _ :: _ :: _ :: _, h => simp [RL] at h
/-- math/bits.Add64 -/
def g195 : GSpec := fun args obs => match args, obs with
  | [.int .u64 x, .int .u64 y, .int .u64 c], [] => some ((0 ≤ x ∧ 0 ≤ y ∧ 0 ≤ c ∧ c ≤ 1), .ret (.tup [u64 ((x + y + c) % 18446744073709551616), u64 ((x + y + c) / 18446744073709551616)]), [])
  | _, _ => none
theorem r195 : FreshOk Tryz.prog 195 (ofD g195) := by
  refine fresh_ext (e := add64Entry) Tryz.func195 (by kernel_rfl) (by kernel_rfl) (by kernel_rfl) (by kernel_rfl) fun args obs d out news hg hd => ?_
  unfold g195 at hg
  split at hg
  · rename_i x y c
    cases hg
    obtain ⟨h1, h2, h3, h4⟩ := hd
    refine ⟨rfl, rfl, _, rfl, fun ρ xs hxs w => ?_⟩
    rw [RL3 hxs]
    exact ⟨_, run_add64 x y c h1 h2 h3 h4 w, by simp [R, RL]⟩
  · cases hg
/-- math/bits.Sub64 -/
def g196 : GSpec := fun args obs => match args, obs with
  | [.int .u64 x, .int .u64 y, .int .u64 c], [] => some ((0 ≤ x ∧ 0 ≤ y ∧ y < 18446744073709551616 ∧ 0 ≤ c ∧ c ≤ 1), .ret (.tup [u64 ((x - y - c) % 18446744073709551616), u64 (if x < y + c then 1 else 0)]), [])
  | _, _ => none
theorem r196 : FreshOk Tryz.prog 196 (ofD g196) := by
  refine fresh_ext (e := sub64Entry) Tryz.func196 (by kernel_rfl) (by kernel_rfl) (by kernel_rfl) (by kernel_rfl) fun args obs d out news hg hd => ?_
  unfold g196 at hg
  split at hg
  · rename_i x y c
    cases hg
    obtain ⟨h1, h2, h5, h3, h4⟩ := hd
    refine ⟨rfl, rfl, _, rfl, fun ρ xs hxs w => ?_⟩
    rw [RL3 hxs]
    obtain ⟨X, rfl⟩ := Int.eq_ofNat_of_zero_le h1
    obtain ⟨Y, rfl⟩ := Int.eq_ofNat_of_zero_le h2
    obtain ⟨C, rfl⟩ := Int.eq_ofNat_of_zero_le h3
    refine ⟨_, run_sub64 X Y C (by omega) w, ?_⟩
    simp only [R, RL]
    refine ⟨_, rfl, ?_, ?_, trivial⟩
    · congr 1
      omega
    · congr 1
      by_cases h : X < Y + C
      · rw [if_pos h, if_pos (by omega)]
        rfl
      · rw [if_neg h, if_neg (by omega)]
        rfl
  · cases hg
abbrev w64 (n : Int) : Prop := 0 ≤ n ∧ n < 18446744073709551616
def T3 : Tab := ((T2.add 195 (liftA (ofD g195))).add 196 (liftA (ofD g196))).add 167 (liftA (ofD g167))
theorem T3_ok : TabOk Tryz.prog T3 := ((T2_ok.add (entry_of_fresh r195)).add (entry_of_fresh r196)).add (entry_of_fresh r167)
end Go.Proofs.YtbolfnkgbjkbjaaGreat.AM
end
