/- The abstract machine, part 10: functions and tables of contracts. -/
import Derived.Test.YtbolfnkgbjkbjaaGreatAm9c
set_option linter.unusedVariables false
set_option linter.unusedSimpArgs false
namespace Go.Proofs.YtbolfnkgbjkbjaaGreat.AM
open Go Go.RowKit

def chkRes (P : Program) : List ResultVar → List ARes → Bool
  | [], [] => true
  | .tmp t :: r, .tmp t' :: r' => decide (t = t') && chkRes P r r'
  | .cell a t :: r, .cell a' n agg :: r' => decide (a = a') && decide (szOf P t = some n) && decide (aggOf P t = some agg) && (agg || decide (n = 1)) && chkRes P r r'
  | _, _ => false
theorem argSl_get {ρ : Nat → Bnd} {n : Nat} : ∀ (args : List V) (xs : List Value) (i t : Nat), RL ρ n args xs → i ≤ t → R ρ n (argSl args i t) (xs.getD (t - i) undef)
  | [], [], i, t, _, _ => by simp [argSl, R]
  | v :: vs, x :: xs, i, t, h, hit => by
    simp only [RL] at h
    simp only [argSl]
    cases e : Nat.beq t i with
    | true =>
      have := Nat.eq_of_beq_eq_true e
      subst this
      simpa using h.1
    | false =>
      have hne : t ≠ i := by intro e2; subst e2; simp at e
      have := argSl_get vs xs (i + 1) t h.2 (by omega)
      obtain ⟨m, hm⟩ : ∃ m, t - i = m + 1 := ⟨t - i - 1, by omega⟩
      have hm' : t - (i + 1) = m := by omega
      rw [hm, List.getD_cons_succ, ← hm']
      exact this
  | [], _ :: _, _, _, h, _ => by simp [RL] at h
  | _ :: _, [], _, _, h, _ => by simp [RL] at h
section
variable {P : Program} {N B : Nat} {ρ : Nat → Bnd} {s : S} {a : Act} {w : World}
theorem loadVar_run {n : Nat} {agg : Bool} {v u : V} {x : Value} {t : TypeId} (hr : Rel B ρ s.nx s.hp w) (hv : R ρ s.nx v x) (h : ldF s.hp n agg v = .val u) (hsz : szOf P t = some n) (hag : aggOf P t = some agg) (hn : agg = true ∨ n = 1) :
    ∃ ad y, x = .pointer (some ad) ∧ (loadVar t ad).run P w = .ok y w ∧ R ρ s.nx u y := by
  have hrun : (ldF s.hp n agg v).run s (some 0) (fun s' => s'.sl 0 = u) := by
    rw [h]
    simp [OR.run, force_iff, S.put, upd_same]
  obtain ⟨ad, l, xs, he, hl, hRL, hcell, hK⟩ := ldF_cells hr hv hrun
  simp only [S.put, upd_same] at hK
  subst hK
  have hlen := hRL.length
  unfold szOf at hsz
  simp only [Option.map_eq_some_iff] at hsz
  obtain ⟨i, hi, hin⟩ := hsz
  have hload : (loadCells ad n).run P w = .ok xs.toArray w := by
    rw [← hl, hlen]
    exact run_loadCells_list w ad xs hcell
  cases agg with
  | true =>
    have hagg : (isAgg t).run P w = .ok true w := by
      unfold aggOf at hag
      split at hag
      · rename_i fs hu; simp [isAgg, run_underlying hu]
      · rename_i m e hu; simp [isAgg, run_underlying hu]
      · simp at hag
      · simp at hag
    exact ⟨ad, .agg xs.toArray, he, by simp [loadVar, hagg, sizeOf, typeInfo, hi, hin, hload], mkV_R hRL hl⟩
  | false =>
    have hn1 : n = 1 := by simpa using hn
    subst hn1
    have hagg : (isAgg t).run P w = .ok false w := by
      unfold aggOf at hag
      split at hag
      · simp at hag
      · simp at hag
      · rename_i d h1 h2 hu
        cases d <;> first | (simp [isAgg, run_underlying hu]; done) | exact (h1 _ rfl).elim | exact (h2 _ _ rfl).elim
      · simp at hag
    match l, xs, hl, hRL, hcell with
    | [v], [y], _, hRL, hcell =>
      simp only [RL] at hRL
      have := hcell 0 y rfl
      simp only [Addr.add, if_true] at this
      exact ⟨ad, y, he, by simp [loadVar, hagg, this], hRL.1⟩
    | [v], [], _, hRL, _ => simp [RL] at hRL
    | [v], _ :: _ :: _, _, hRL, _ => simp [RL] at hRL
def oneRes (P : Program) (tmps : Array Value) : ResultVar → Sem Value
  | .tmp t => pure (tmps.getD t undef)
  | .cell a t => do loadVar t (← asAddr (tmps.getD a undef))
theorem res_run (hs : RelS N B ρ s a w) : ∀ (r : List ResultVar) (r' : List ARes) (vs : List V), chkRes P r r' = true → resV s r' = some vs →
    ∃ ys, (r.mapM (oneRes P a.tmps)).run P w = .ok ys w ∧ RL ρ s.nx vs ys
  | [], [], vs, _, h => by
    simp only [resV, Option.some.injEq] at h
    subst h
    exact ⟨[], by simp, by simp [RL]⟩
  | .tmp t :: r, .tmp t' :: r', vs, hc, h => by
    simp only [chkRes, Bool.and_eq_true, decide_eq_true_eq] at hc
    obtain ⟨rfl, hc⟩ := hc
    simp only [resV] at h
    split at h
    · rename_i us hu
      cases h
      obtain ⟨ys, h1, h2⟩ := res_run hs r r' us hc hu
      refine ⟨a.tmps.getD t undef :: ys, ?_, by simp only [RL]; exact ⟨hs.sl t, h2⟩⟩
      simp [List.mapM_cons, oneRes, h1]
    · cases h
  | .cell c t :: r, .cell c' n agg :: r', vs, hc, h => by
    simp only [chkRes, Bool.and_eq_true, decide_eq_true_eq, Bool.or_eq_true] at hc
    obtain ⟨⟨⟨⟨rfl, hsz⟩, hag⟩, hn⟩, hc⟩ := hc
    simp only [resV] at h
    split at h
    · rename_i u us hv hu
      cases h
      obtain ⟨ys, h1, h2⟩ := res_run hs r r' us hc hu
      obtain ⟨ad, y, he, hl, hy⟩ := loadVar_run (P := P) hs.rel (hs.sl c) hv hsz hag hn
      refine ⟨y :: ys, ?_, by simp only [RL]; exact ⟨hy, h2⟩⟩
      simp [List.mapM_cons, oneRes, he, asAddr, hl, h1]
    · cases h
  | [], _ :: _, _, hc, _ => by simp [chkRes] at hc
  | .tmp _ :: _, [], _, hc, _ => by simp [chkRes] at hc
  | .cell _ _ :: _, [], _, hc, _ => by simp [chkRes] at hc
  | .tmp _ :: _, .cell _ _ _ :: _, _, hc, _ => by simp [chkRes] at hc
  | .cell _ _ :: _, .tmp _ :: _, _, hc, _ => by simp [chkRes] at hc
theorem results_run (hs : RelS N B ρ s a w) {fn : Func} {r' : List ARes} {vs : List V} (hc : chkRes P fn.results.toList r' = true) (h : resV s r' = some vs) :
    ∃ y, (results fn a.tmps).run P w = .ok y w ∧ R ρ s.nx (tupV vs) y := by
  obtain ⟨ys, h1, h2⟩ := res_run (P := P) hs _ _ _ hc h
  have hl := h2.length
  have hrun : (results fn a.tmps).run P w = .ok (if h : ys.toArray.size = 1 then ys.toArray[0] else .tuple ys.toArray) w := by
    unfold results
    simp only [Sem.run_bind]
    rw [Array.mapM_eq_mapM_toList]
    simp only [Sem.run_map]
    change ((((fn.results.toList.mapM (oneRes P a.tmps)).run P w).andThen _).andThen _) = _
    rw [h1]
    rfl
  refine ⟨_, hrun, ?_⟩
  match vs, ys, h2, hl with
  | [], [], h2, _ => simp only [tupV, R]; exact ⟨#[], rfl, by simp [RL]⟩
  | [v], [y], h2, _ =>
    simp only [RL] at h2
    simpa [tupV] using h2.1
  | v :: v' :: vs, y :: y' :: ys, h2, _ =>
    simp only [tupV, R]
    exact ⟨(y :: y' :: ys).toArray, by simp, h2⟩
  | [], _ :: _, h2, _ => simp [RL] at h2
  | _ :: _, [], h2, _ => simp [RL] at h2
  | [_], _ :: _ :: _, h2, _ => simp [RL] at h2
  | _ :: _ :: _, [_], h2, _ => simp [RL] at h2
end
def chkFn (P : Program) (fn : Func) (afn : AFn) : Bool := match fn.body with
  | some c => chkC P fn.ntmps c afn.body && chkRes P fn.results.toList afn.res && decide (afn.np ≤ fn.ntmps) && !(fn.name == "runtime.NumGoroutine")
  | none => false
theorem fn_entry {P : Program} {T : Tab} {DT : DTab} (hT : TabOk P T) (hD : TabOk P (tabD DT)) (Iv : Inv) {f : Nat} {fn : Func} {afn : AFn} (hf : P.funcs[f]? = some fn) (hc : chkFn P fn afn = true) : EntryOk P f (runFn T DT Iv afn) := by
  intro B ρ n h w args xs K hr hargs hrun
  unfold chkFn at hc
  split at hc
  · rename_i c hb
    simp only [Bool.and_eq_true, decide_eq_true_eq, Bool.not_eq_true'] at hc
    obtain ⟨⟨⟨hcc, hres⟩, hnp⟩, hname⟩ := hc
    unfold runFn at hrun
    split at hrun
    · rename_i hlen
      simp only [decide_eq_true_eq] at hlen
      have hxl := hargs.length
      have hname' : ¬ fn.name = "runtime.NumGoroutine" := by simpa using hname
      refine .inl ⟨by simp [callFunc, hf, hname', hb], ?_⟩
      refine calls_of_wp hf hb ?_
      have hs : RelS fn.ntmps B ρ ⟨argSl args 0, h, n⟩ { tmps := xs.toArray ++ Array.replicate (fn.ntmps - xs.toArray.size) undef, defers := [] } w := by
        refine ⟨hr, fun t => ?_, by simp; omega⟩
        have := argSl_get args xs 0 t hargs (Nat.zero_le _)
        have e : (xs.toArray ++ Array.replicate (fn.ntmps - xs.toArray.size) undef).getD t undef = xs.getD (t - 0) undef := by
          simp only [Nat.sub_zero, Array.getD_eq_getD_getElem?, List.getD_eq_getElem?_getD]
          by_cases ht : t < xs.length
          · rw [Array.getElem?_append_left (by simpa using ht)]
            simp
          · rw [Array.getElem?_append_right (by simp; omega), List.getElem?_eq_none (by omega)]
            simp only [List.size_toArray, Array.getElem?_replicate, Option.getD_none]
            split <;> rfl
        simp only [] at e ⊢
        rw [e]
        exact this
      refine wp_mono (awp_ok hT hD c afn.body hcc hrun hs (Nat.le_refl _)) ?_
      rintro e a' w' ⟨ρ', s', ax, hax, hq, hs', hx, hd⟩
      have hd' : a'.defers = [] := hd
      have ret : fin afn.res K .ret s' → bodyPost P fn (fun e w' => ∃ out ρ' n' h', K out h' n' ∧ OutR ρ' n' out e ∧ Rel B ρ' n' h' w' ∧ ExtR B ρ n w ρ' n' w') .ret a' w' := by
        intro hq
        simp only [fin] at hq
        split at hq
        · rename_i vs hvs
          obtain ⟨y, h1, h2⟩ := results_run hs' hres hvs
          exact ⟨hd', y, h1, _, ρ', s'.nx, s'.hp, hq, h2, hs'.rel, hx⟩
        · exact hq.elim
      cases e with
      | normal =>
        cases ax with
        | nrm => exact ret hq
        | _ => exact hax.elim
      | exit i =>
        cases ax with
        | ext j => exact hq.elim
        | _ => exact hax.elim
      | goto l => cases ax <;> exact hax.elim
      | ret =>
        cases ax with
        | ret => exact ret hq
        | _ => exact hax.elim
      | panic ch =>
        cases ax with
        | pan v => exact ⟨hd', _, ρ', s'.nx, s'.hp, hq, hax, hs'.rel, hx⟩
        | _ => exact hax.elim
      | outgrown => cases ax <;> exact hax.elim
    · exact hrun.elim
  · cases hc
/-! ### Tables -/
def noTab : Tab := fun _ _ _ _ _ => False
theorem noTab_ok (P : Program) : TabOk P noTab := fun f B ρ n h w args xs K _ _ h0 => h0.elim
def noD : DTab := fun _ => none
theorem noD_ok (P : Program) : TabOk P (tabD noD) := fun f B ρ n h w args xs K _ _ h0 => h0.elim
def DTab.add (D : DTab) (f : Nat) (g : DSpec) : DTab := fun i => match Nat.beq i f with
  | true => some g
  | false => D i
theorem DTab.add_ok {P : Program} {D : DTab} (hD : TabOk P (tabD D)) {f : Nat} {g : DSpec} (hg : EntryOk P f (liftG g)) : TabOk P (tabD (D.add f g)) := by
  intro i
  unfold tabD DTab.add
  cases e : Nat.beq i f with
  | true =>
    have := Nat.eq_of_beq_eq_true e
    subst this
    exact hg
  | false => exact hD i
def Tab.add (T : Tab) (f : Nat) (S : Spec) : Tab := fun g => match Nat.beq g f with
  | true => S
  | false => T g
theorem TabOk.add {P : Program} {T : Tab} (hT : TabOk P T) {f : Nat} {S : Spec} (hS : EntryOk P f S) : TabOk P (T.add f S) := by
  intro g
  unfold Tab.add
  split
  · rename_i e
    have := Nat.eq_of_beq_eq_true e
    subst this
    exact hS
  · exact hT g
theorem EntryOk.weaken {P : Program} {f : Nat} {S S' : Spec} (h : EntryOk P f S) (hs : ∀ args h n K, S' args h n K → S args h n K) : EntryOk P f S' :=
  fun B ρ n hp w args xs K hr ha hk => h B ρ n hp w args xs K hr ha (hs _ _ _ _ hk)
/-- A contract whose result is known by equations alone from here on. -/
def absT (m : Msk) (S : Spec) : Spec := fun args h n K => S args h n fun out h n => match out with
  | .ret v => absM m v fun v => K (.ret v) h n
  | .pan v => K (.pan v) h n
theorem absT_ok {P : Program} {f : Nat} {S : Spec} (m : Msk) (hS : EntryOk P f S) : EntryOk P f (absT m S) := by
  have e : absT m S = S := by
    funext args h n K
    unfold absT
    congr 1
    funext out h n
    cases out with
    | ret v => exact propext (absM_iff m v _)
    | pan v => rfl
  rw [e]
  exact hS
def DSpec.abs (m : Msk) (g : DSpec) : DSpec := ⟨m, g.g, g.same⟩
theorem dabs_ok {P : Program} {f : Nat} {g : DSpec} (m : Msk) (hg : EntryOk P f (liftG g)) : EntryOk P f (liftG (g.abs m)) := hg
end Go.Proofs.YtbolfnkgbjkbjaaGreat.AM
