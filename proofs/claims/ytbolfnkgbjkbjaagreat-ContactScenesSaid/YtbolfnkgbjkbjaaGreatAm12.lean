/- The abstract machine, part 12: functions that try: one deferred call of a closure that recovers. -/
import Derived.Test.YtbolfnkgbjkbjaaGreatAm11
import Derived.Recover
set_option linter.unusedVariables false
set_option linter.unusedSimpArgs false
namespace Go.Proofs.YtbolfnkgbjkbjaaGreat.AM
open Go Go.RowKit

/-- The parts of a function that tries, and of what it defers. -/
structure TFn where
  a1 : AC
  g : Nat
  caps : List Nat
  fv : Nat
  a3 : AC
  res : List ARes
  r : Nat
  r2 : Nat
  a4 : AC
def dst0 (t : TFn) (dargs : List V) (v : V) (s : S) : S := S.put (S.put ⟨argSl dargs 0, s.hp, s.nx⟩ (some t.r) v) (some t.r2) v
/-- The deferred closure, and the results behind it. -/
def runDef (T : Tab) (D : DTab) (Iv : Inv) (t : TFn) (dargs : List V) (v : V) (K : Out → (Nat → Ob) → Nat → Prop) (s : S) : Prop :=
  awp T D Iv s.nx t.a4 (fun e2 s2 => match e2 with
    | .nrm => fin t.res K .ret ⟨s.sl, s2.hp, s2.nx⟩
    | .ret => fin t.res K .ret ⟨s.sl, s2.hp, s2.nx⟩
    | .ext _ => False
    | .pan _ => False) (dst0 t dargs v s)
def runTried (T : Tab) (D : DTab) (Iv : Inv) (t : TFn) : Spec := fun args h n K => match args with
  | [x] => awp T D Iv n t.a1 (fun e s => match e with
      | .nrm => awp T D Iv s.nx t.a3 (fun e' s' => match e' with
           | .nrm => runDef T D Iv t (t.caps.map s.sl) .nifc K s'
           | .ret => runDef T D Iv t (t.caps.map s.sl) .nifc K s'
           | .pan v => runDef T D Iv t (t.caps.map s.sl) v K s'
           | .ext _ => False) (s.put (some t.fv) (.fn t.g [] (t.caps.map s.sl)))
      | .ret => False
      | .pan _ => False
      | .ext _ => False) ⟨argSl args 0, h, n⟩
  | _ => False
def chkMid (N : Nat) (t : TFn) : List Oper → Bool
  | [⟨some d, .makeFunc (.func g) fs cs, _, _, _, none⟩, ⟨none, .defer ⟨.value (.tmp d'), as, _⟩, _, _, _, none⟩] =>
    decide (d = t.fv ∧ g = t.g ∧ d' = t.fv ∧ d < N) && decide (fs = #[]) && decide (as = #[]) && opds cs.toList (t.caps.map .t)
  | _ => false
def chkRec (N : Nat) (t : TFn) : List Oper → Bool
  | [⟨some r, .call ⟨.builtin .recover, as, _⟩, _, _, _, none⟩, ⟨some r2, .assign (.tmp r'), _, _, _, none⟩] =>
    decide (r = t.r ∧ r' = t.r ∧ r2 = t.r2 ∧ r < N ∧ r2 < N) && decide (as = #[])
  | _ => false
def chkMain (P : Program) (fn : Func) (t : TFn) : Bool := match fn.body with
  | some (.seq c1 (.seq (.region _ ops false) c3)) => chkC P fn.ntmps c1 t.a1 && chkMid fn.ntmps t ops.toList && chkC P fn.ntmps c3 t.a3 && chkRes P fn.results.toList t.res && decide (1 ≤ fn.ntmps) && !(fn.name == "runtime.NumGoroutine")
  | _ => false
def chkDef (P : Program) (fn : Func) (t : TFn) : Bool := match fn.body with
  | some (.seq (.region _ ops false) c4) => chkRec fn.ntmps t ops.toList && chkC P fn.ntmps c4 t.a4 && chkRes P fn.results.toList [] && decide (t.caps.length ≤ fn.ntmps) && !(fn.name == "runtime.NumGoroutine")
  | _ => false
theorem act0 {B N : Nat} {ρ : Nat → Bnd} {n : Nat} {h : Nat → Ob} {w : World} {args : List V} {xs : Array Value} (hr : Rel B ρ n h w) (hargs : RL ρ n args xs.toList) (hN : args.length ≤ N) :
    RelS N B ρ ⟨argSl args 0, h, n⟩ { tmps := xs ++ Array.replicate (N - xs.size) undef, defers := [] } w := by
  have hxl := hargs.length
  have hxs : xs.toList.length = xs.size := by simp
  refine ⟨hr, fun t => ?_, by simp; omega⟩
  have := argSl_get args xs.toList 0 t hargs (Nat.zero_le _)
  have e : (xs ++ Array.replicate (N - xs.size) undef).getD t undef = xs.toList.getD (t - 0) undef := by
    simp only [Nat.sub_zero, Array.getD_eq_getD_getElem?, List.getD_eq_getElem?_getD]
    by_cases ht : t < xs.size
    · rw [Array.getElem?_append_left ht]
      simp
    · rw [Array.getElem?_append_right (by omega), List.getElem?_eq_none (by simpa using Nat.le_of_not_lt ht)]
      simp only [Array.getElem?_replicate, Option.getD_none]
      split <;> rfl
  simp only [] at e ⊢
  rw [e]
  exact this
theorem caps_RL {N B : Nat} {ρ : Nat → Bnd} {s : S} {a : Act} {w : World} (hs : RelS N B ρ s a w) {cs : List Operand} {caps : List Nat} (h : opds cs (caps.map .t) = true) : RL ρ s.nx (caps.map s.sl) (cs.map a.eval) := by
  have := opds_R hs h
  have e : (caps.map AO.t).map (rd s) = caps.map s.sl := by simp [rd, Function.comp_def]
  rw [e] at this
  exact this
theorem RelS.later {N B : Nat} {ρ ρ2 : Nat → Bnd} {s s2 : S} {a : Act} {w w2 : World} {h2 : Nat → Ob} {n2 : Nat} (hs : RelS N B ρ s a w) (hn : s.nx ≤ n2) (hag : Agree ρ ρ2 s.nx) (hr : Rel B ρ2 n2 h2 w2) : RelS N B ρ2 ⟨s.sl, h2, n2⟩ a w2 :=
  ⟨hr, fun t => R.mono hn hag _ _ (hs.sl t), hs.size⟩
section
variable {P : Program} {T : Tab} {DT : DTab}
/-- What is deferred runs. -/
theorem def_ok (hT : TabOk P T) (hD : TabOk P (tabD DT)) (Iv : Inv) {t : TFn} {fn fn2 : Func} (hg : P.funcs[t.g]? = some fn2) (hc2 : chkDef P fn2 t = true) (hres : chkRes P fn.results.toList t.res = true)
    {N B n : Nat} {ρ ρ0 : Nat → Bnd} {w w0 : World} {s : S} {a : Act} {dargs : List V} {caps : Array Value} {K : Out → (Nat → Ob) → Nat → Prop} {v : V} {u : FrameMode}
    (hs : RelS N B ρ s a w) (hx : ExtR B ρ0 n w0 ρ s.nx w) (hcap : RL ρ s.nx dargs caps.toList) (hlen : dargs.length = t.caps.length) (hd : a.defers = [{ target := .fn (.func t.g) caps, args := #[] }])
    (hu : (u = .returning ∧ v = .nifc) ∨ ∃ x, u = .panicking [{ v := x, recovered := false }] ∧ R ρ s.nx v x) (h : runDef T DT Iv t dargs v K s) :
    Leaves P fn a.tmps (fun e w' => ∃ out ρ' n' h', K out h' n' ∧ OutR ρ' n' out e ∧ Rel B ρ' n' h' w' ∧ ExtR B ρ0 n w0 ρ' n' w') a.defers u w := by
  rw [hd]
  unfold chkDef at hc2
  split at hc2
  · rename_i id ops c4 hb
    simp only [Bool.and_eq_true, decide_eq_true_eq, Bool.not_eq_true'] at hc2
    obtain ⟨⟨⟨⟨hrec, h4⟩, hres2⟩, hnp⟩, hname⟩ := hc2
    have hname' : ¬ fn2.name = "runtime.NumGoroutine" := by simpa using hname
    have hu' : u ≠ .run := by
      rcases hu with ⟨rfl, _⟩ | ⟨x, rfl, _⟩ <;> simp
    refine leaves_cons (f := t.g) (args := caps) hu' (by simp [invoke, callFunc, hg, hname', hb]) ?_
    refine callsD_of_wpS hg hb fun c₀ cs hcm => ?_
    have hs0 := act0 (N := fn2.ntmps) hs.rel hcap (by omega)
    -- the recover, and what is told of it
    unfold chkRec at hrec
    split at hrec
    · rename_i r as at_ ty1 po1 af1 r2 r' ty2 po2 af2 hops
      simp only [Bool.and_eq_true, decide_eq_true_eq] at hrec
      obtain ⟨⟨rfl, rfl, rfl, hrN, hr2N⟩, rfl⟩ := hrec
      have hsz : ops.size = 2 := by
        have := congrArg List.length hops
        simpa using this
      have h0 : ops[0]? = some ⟨some t.r, .call ⟨.builtin .recover, #[], at_⟩, ty1, po1, af1, none⟩ := by
        have := congrArg (·[0]?) hops
        simpa using this
      have h1 : ops[1]? = some ⟨some t.r2, .assign (.tmp t.r), ty2, po2, af2, none⟩ := by
        have := congrArg (·[1]?) hops
        simpa using this
      have key : ∀ (x : Value) (u' : FrameMode) (cs' : List Frame), R ρ s.nx v x → cs' = { c₀ with mode := u' } :: cs → settle u' = .returning →
          Exit.thenS (c4.wpS P (bodyPostS P fn2 c₀ cs fun
            | .returned _, u', w' => Leaves P fn a.tmps (fun e w' => ∃ out ρ' n' h', K out h' n' ∧ OutR ρ' n' out e ∧ Rel B ρ' n' h' w' ∧ ExtR B ρ0 n w0 ρ' n' w') [] (settle u') w'
            | .panicked chain, u', w' => Leaves P fn a.tmps (fun e w' => ∃ out ρ' n' h', K out h' n' ∧ OutR ρ' n' out e ∧ Rel B ρ' n' h' w' ∧ ExtR B ρ0 n w0 ρ' n' w') [] (raised u' chain) w'
            | .outgrown, _, w' => (fun e w' => ∃ out ρ' n' h', K out h' n' ∧ OutR ρ' n' out e ∧ Rel B ρ' n' h' w' ∧ ExtR B ρ0 n w0 ρ' n' w') .outgrown w'))
            (bodyPostS P fn2 c₀ cs fun
            | .returned _, u', w' => Leaves P fn a.tmps (fun e w' => ∃ out ρ' n' h', K out h' n' ∧ OutR ρ' n' out e ∧ Rel B ρ' n' h' w' ∧ ExtR B ρ0 n w0 ρ' n' w') [] (settle u') w'
            | .panicked chain, u', w' => Leaves P fn a.tmps (fun e w' => ∃ out ρ' n' h', K out h' n' ∧ OutR ρ' n' out e ∧ Rel B ρ' n' h' w' ∧ ExtR B ρ0 n w0 ρ' n' w') [] (raised u' chain) w'
            | .outgrown, _, w' => (fun e w' => ∃ out ρ' n' h', K out h' n' ∧ OutR ρ' n' out e ∧ Rel B ρ' n' h' w' ∧ ExtR B ρ0 n w0 ρ' n' w') .outgrown w')
            .normal ((Act.put { tmps := caps ++ Array.replicate (fn2.ntmps - caps.size) undef, defers := [] } (some t.r) x).put (some t.r2) x) cs' w := by
        intro x u' cs' hv hcs hset
        have hs1 : RelS fn2.ntmps B ρ (S.put ⟨argSl dargs 0, s.hp, s.nx⟩ (some t.r) v) (Act.put { tmps := caps ++ Array.replicate (fn2.ntmps - caps.size) undef, defers := [] } (some t.r) x) w :=
          hs0.put (Nat.le_refl _) (fun _ _ => rfl) hs.rel hv (fun e he => by cases he; exact hrN)
        have hs2 : RelS fn2.ntmps B ρ (dst0 t dargs v s) ((Act.put { tmps := caps ++ Array.replicate (fn2.ntmps - caps.size) undef, defers := [] } (some t.r) x).put (some t.r2) x) w :=
          hs1.put (Nat.le_refl _) (fun _ _ => rfl) hs.rel hv (fun e he => by cases he; exact hr2N)
        refine wpS_of_wp (wp_mono (awp_ok hT hD c4 t.a4 h4 h hs2 (Nat.le_refl _)) ?_)
        rintro e a' w' ⟨ρ', s2, ax, hax, hq, hs2', hx2, hd2⟩
        have hd2' : a'.defers = [] := hd2
        have hag : Agree ρ ρ' s.nx := hx2.1
        have fin_ : fin t.res K .ret ⟨s.sl, s2.hp, s2.nx⟩ → ∃ u', cs' = { c₀ with mode := u' } :: cs ∧ ∃ y, (results fn2 a'.tmps).run P w' = .ok y w' ∧
            Leaves P fn a.tmps (fun e w' => ∃ out ρ' n' h', K out h' n' ∧ OutR ρ' n' out e ∧ Rel B ρ' n' h' w' ∧ ExtR B ρ0 n w0 ρ' n' w') [] (settle u') w' := by
          intro hq
          obtain ⟨y, hy, _⟩ := results_run (P := P) hs2' (fn := fn2) hres2 (r' := []) (vs := []) rfl
          refine ⟨u', hcs, y, hy, ?_⟩
          rw [hset]
          simp only [fin] at hq
          split at hq
          · rename_i vs hvs
            have hs3 : RelS N B ρ' ⟨s.sl, s2.hp, s2.nx⟩ a w' := hs.later (s2 := s2) hx2.2.1 hag hs2'.rel
            obtain ⟨z, h1, h2⟩ := results_run hs3 hres hvs
            exact ⟨z, h1, _, ρ', s2.nx, s2.hp, hq, h2, hs2'.rel, hx.trans hx2⟩
          · exact hq.elim
        cases e with
        | normal =>
          cases ax with
          | nrm => exact ⟨hd2', fin_ hq⟩
          | _ => exact hax.elim
        | exit i =>
          cases ax with
          | ext j => exact hq.elim
          | _ => exact hax.elim
        | goto l => cases ax <;> exact hax.elim
        | ret =>
          cases ax with
          | ret => exact ⟨hd2', fin_ hq⟩
          | _ => exact hax.elim
        | panic ch =>
          cases ax with
          | pan v => exact hq.elim
          | _ => exact hax.elim
        | outgrown => cases ax <;> exact hax.elim
      refine wpS_seq (wpS_region ?_)
      rw [hsz]
      have hl : List.range 2 = [0, 1] := rfl
      rw [hl]
      have w0 : ∀ tm, Region.wanted ⟨some t.r, .call ⟨.builtin .recover, #[], at_⟩, ty1, po1, af1, none⟩ (yielded ops tm) = true := fun tm => rfl
      have w1 : ∀ tm, Region.wanted ⟨some t.r2, .assign (.tmp t.r), ty2, po2, af2, none⟩ (yielded ops tm) = true := fun tm => rfl
      have run0 : ∀ (ev : Operand → Value), (execOp ev ⟨some t.r, .call ⟨.builtin .recover, #[], at_⟩, ty1, po1, af1, none⟩).run P w = .ok .recover w := fun ev => by
        simp [execOp, resolve, invoke, builtin]
      have run1 : ∀ (ev : Operand → Value), (execOp ev ⟨some t.r2, .assign (.tmp t.r), ty2, po2, af2, none⟩).run P w = .ok (.value (ev (.tmp t.r))) w := fun ev => by
        simp [execOp]
      have hev : ∀ (x : Value), Act.eval (Act.put { tmps := caps ++ Array.replicate (fn2.ntmps - caps.size) undef, defers := [] } (some t.r) x) (.tmp t.r) = x := by
        intro x
        have hsz0 := hs0.size
        have : t.r < (caps ++ Array.replicate (fn2.ntmps - caps.size) undef).size := by rw [hsz0]; exact hrN
        simp only [Act.eval, Act.put, Array.getD_eq_getD_getElem?]
        rw [Array.getElem?_setIfInBounds_self_of_lt this]
        rfl
      simp only [wpOpsS, h0, h1, w0, w1, if_true, run0, run1]
      rcases hu with ⟨rfl, rfl⟩ | ⟨x, rfl, hx0⟩
      · have hrd : recoverD (c₀ :: cs) = none := by simp [recoverD, hcm]
        rw [hrd]
        simp only [Oper.upon, hev]
        exact key .nilIface .returning (c₀ :: cs) (by simp [R]) (by rw [← hcm]) rfl
      · have hrd : recoverD (c₀ :: cs) = some (x, { c₀ with mode := .panicking [{ v := x, recovered := true }] } :: cs) := by simp [recoverD, hcm]
        rw [hrd]
        simp only [Oper.upon, hev]
        exact key x (.panicking [{ v := x, recovered := true }]) _ hx0 rfl rfl
    · cases hrec
  · cases hc2
/-- A function that tries. -/
theorem tried_entry (hT : TabOk P T) (hD : TabOk P (tabD DT)) (Iv : Inv) {f : Nat} {t : TFn} {fn fn2 : Func} (hf : P.funcs[f]? = some fn) (hg : P.funcs[t.g]? = some fn2) (hc : chkMain P fn t = true) (hc2 : chkDef P fn2 t = true) : EntryOk P f (runTried T DT Iv t) := by
  intro B ρ n h w args xs K hr hargs hrun
  unfold chkMain at hc
  split at hc
  · rename_i c1 id ops c3 hb
    simp only [Bool.and_eq_true, decide_eq_true_eq, Bool.not_eq_true'] at hc
    obtain ⟨⟨⟨⟨⟨h1, hmid⟩, h3⟩, hres⟩, hnp⟩, hname⟩ := hc
    have hname' : ¬ fn.name = "runtime.NumGoroutine" := by simpa using hname
    unfold runTried at hrun
    split at hrun
    · rename_i x0
      refine .inl ⟨by simp [callFunc, hf, hname', hb], ?_⟩
      refine calls_of_wp_defers hf hb ?_
      have hs := act0 (N := fn.ntmps) (xs := xs.toArray) hr (by simpa using hargs) (by simpa using hnp)
      refine wp_seq (wp_mono (awp_ok hT hD c1 t.a1 h1 hrun hs (Nat.le_refl _)) ?_)
      rintro e a1 w1 ⟨ρ1, s1, ax, hax, hq, hs1, hx1, hd1⟩
      have hd1' : a1.defers = [] := hd1
      cases e with
      | normal =>
        cases ax with
        | nrm =>
          unfold chkMid at hmid
          split at hmid
          · rename_i d g fs cs ty1 po1 af1 d' as at_ ty2 po2 af2 hops
            simp only [Bool.and_eq_true, decide_eq_true_eq] at hmid
            obtain ⟨⟨⟨⟨rfl, rfl, rfl, hdN⟩, rfl⟩, rfl⟩, hcs⟩ := hmid
            have hsz : ops.size = 2 := by
              have := congrArg List.length hops
              simpa using this
            have g0 : ops[0]? = some ⟨some t.fv, .makeFunc (.func t.g) #[] cs, ty1, po1, af1, none⟩ := by
              have := congrArg (·[0]?) hops
              simpa using this
            have g1 : ops[1]? = some ⟨none, .defer ⟨.value (.tmp t.fv), #[], at_⟩, ty2, po2, af2, none⟩ := by
              have := congrArg (·[1]?) hops
              simpa using this
            refine wp_seq (wp_region ?_)
            rw [hsz]
            have hl : List.range 2 = [0, 1] := rfl
            rw [hl]
            have hcap := caps_RL hs1 hcs
            let fnv : Value := .func (.func t.g) #[] (cs.map a1.eval)
            have hs2 : RelS fn.ntmps B ρ1 (s1.put (some t.fv) (.fn t.g [] (t.caps.map s1.sl))) (a1.put (some t.fv) fnv) w1 :=
              hs1.put (Nat.le_refl _) (fun _ _ => rfl) hs1.rel (by
                simp only [R]
                exact ⟨#[], cs.map a1.eval, rfl, by simp [RL], by simpa using hcap⟩) (fun e he => by cases he; exact hdN)
            have hev : Act.eval (a1.put (some t.fv) fnv) (.tmp t.fv) = fnv := by
              have hsz0 := hs1.size
              have : t.fv < a1.tmps.size := by rw [hsz0]; exact hdN
              simp only [Act.eval, Act.put, Array.getD_eq_getD_getElem?]
              rw [Array.getElem?_setIfInBounds_self_of_lt this]
              rfl
            have w0 : ∀ tm, Region.wanted ⟨some t.fv, .makeFunc (.func t.g) #[] cs, ty1, po1, af1, none⟩ (yielded ops tm) = true := fun tm => rfl
            have w1' : ∀ tm, Region.wanted ⟨none, .defer ⟨.value (.tmp t.fv), #[], at_⟩, ty2, po2, af2, none⟩ (yielded ops tm) = true := fun tm => rfl
            have run0 : (execOp a1.eval ⟨some t.fv, .makeFunc (.func t.g) #[] cs, ty1, po1, af1, none⟩).run P w1 = .ok (.value fnv) w1 := by
              simp [execOp, Instr.makeFunc, fnv]
            have run1 : (execOp (a1.put (some t.fv) fnv).eval ⟨none, .defer ⟨.value (.tmp t.fv), #[], at_⟩, ty2, po2, af2, none⟩).run P w1 = .ok (.defer { target := .fn (.func t.g) (cs.map a1.eval), args := #[] }) w1 := by
              simp [execOp, resolve, hev, Deferred.ofValue, fnv]
            simp only [wpOps, g0, g1, w0, w1', if_true, Oper.wp, run0, run1, Oper.upon]
            left
            left
            have hs3 : RelS fn.ntmps B ρ1 (s1.put (some t.fv) (.fn t.g [] (t.caps.map s1.sl))) (Act.put { (a1.put (some t.fv) fnv) with defers := { target := .fn (.func t.g) (cs.map a1.eval), args := #[] } :: (a1.put (some t.fv) fnv).defers } none undef) w1 :=
              ⟨hs2.rel, hs2.sl, hs2.size⟩
            refine wp_mono (awp_ok hT hD c3 t.a3 h3 hq hs3 (Nat.le_refl _)) ?_
            rintro e a2 w2 ⟨ρ2, s2, ax2, hax2, hq2, hs4, hx2, hd2⟩
            have hd2' : a2.defers = [{ target := .fn (.func t.g) (cs.map a1.eval), args := #[] }] := by
              rw [hd2]
              show _ :: (a1.put (some t.fv) fnv).defers = _
              rw [put_defers, hd1']
            have hxx : ExtR B ρ n w ρ2 s2.nx w2 := hx1.trans hx2
            have hcap2 : RL ρ2 s2.nx (t.caps.map s1.sl) (cs.map a1.eval).toList := RL.mono hx2.2.1 hx2.1 _ _ (by simpa using hcap)
            cases e with
            | normal =>
              cases ax2 with
              | nrm => exact def_ok hT hD Iv hg hc2 hres hs4 hxx hcap2 (by simp) hd2' (.inl ⟨rfl, rfl⟩) hq2
              | _ => exact hax2.elim
            | exit i =>
              cases ax2 with
              | ext j => exact hq2.elim
              | _ => exact hax2.elim
            | goto l => cases ax2 <;> exact hax2.elim
            | ret =>
              cases ax2 with
              | ret => exact def_ok hT hD Iv hg hc2 hres hs4 hxx hcap2 (by simp) hd2' (.inl ⟨rfl, rfl⟩) hq2
              | _ => exact hax2.elim
            | panic ch =>
              cases ax2 with
              | pan v =>
                obtain ⟨x, rfl, hxv⟩ := hax2
                exact def_ok hT hD Iv hg hc2 hres hs4 hxx hcap2 (by simp) hd2' (.inr ⟨x, rfl, hxv⟩) hq2
              | _ => exact hax2.elim
            | outgrown => cases ax2 <;> exact hax2.elim
          · cases hmid
        | _ => exact hax.elim
      | exit i =>
        cases ax with
        | ext j => exact hq.elim
        | _ => exact hax.elim
      | goto l => cases ax <;> exact hax.elim
      | ret =>
        cases ax with
        | ret => exact hq.elim
        | _ => exact hax.elim
      | panic ch =>
        cases ax with
        | pan v => exact hq.elim
        | _ => exact hax.elim
      | outgrown => cases ax <;> exact hax.elim
    · exact hrun.elim
  · cases hc
end
end Go.Proofs.YtbolfnkgbjkbjaaGreat.AM
