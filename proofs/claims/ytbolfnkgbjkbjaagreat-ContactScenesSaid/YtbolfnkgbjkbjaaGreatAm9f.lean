/- The abstract machine, part 9f: regions that draw their order: one step of one order, its new blocks renamed. -/
import Derived.Test.YtbolfnkgbjkbjaaGreatAm9e
set_option linter.unusedVariables false
set_option linter.unusedSimpArgs false
namespace Go.Proofs.YtbolfnkgbjkbjaaGreat.AM
open Go Go.RowKit

abbrev FSpec := List V → List Ob → (Out → List Ob → Prop) → Prop
def liftA (F : FSpec) : Spec := fun args h n K => match viewL h [] args with
  | some (c, args', obs) => c ∧ F args' obs fun out news => match out with
    | .ret v => K (.ret (shV n v)) (addObs h n news) (n + news.length)
    | .pan v => K (.pan v) h n
  | none => False
def ofD (g : GSpec) : FSpec := fun args obs K => match g args obs with
  | some (d, out, news) => d ∧ K out news
  | none => False
def liftG (g : DSpec) : Spec := fun args h n K => match g.g args h with
  | some (d, out, news) => d ∧ (match out with
    | .ret v => K (.ret (shV n v)) (addObs h n news) (n + news.length)
    | .pan v => K (.pan v) h n)
  | none => False
def viewD (g : GSpec) : DSpec := ⟨.no, fun args h => match viewL h [] args with
    | some (c, args', obs) => match g args' obs with
      | some (d, out, news) => some (c ∧ d, out, news)
      | none => none
    | none => none, fun args h h' hh => by rw [viewL_congr args [] hh]⟩
theorem viewD_spec {g : GSpec} {args : List V} {h : Nat → Ob} {n : Nat} {K : Out → (Nat → Ob) → Nat → Prop} (hk : liftG (viewD g) args h n K) : liftA (ofD g) args h n K := by
  unfold liftG viewD at hk
  unfold liftA ofD
  simp only [] at hk
  cases hv : viewL h [] args with
  | none => rw [hv] at hk; exact hk
  | some p =>
    obtain ⟨c, args', obs⟩ := p
    rw [hv] at hk
    simp only [] at hk ⊢
    cases hg : g args' obs with
    | none => rw [hg] at hk; exact hk.elim
    | some q =>
      obtain ⟨d, out, news⟩ := q
      rw [hg] at hk
      exact ⟨hk.1.1, hk.1.2, hk.2⟩
def tabD (D : DTab) : Tab := fun f => match D f with
  | some g => liftG g
  | none => fun _ _ _ _ => False

/-! ### Names of blocks -/
mutual
theorem R.ids {ρ : Nat → Bnd} {n : Nat} : ∀ (v : V) (x : Value), R ρ n v x → ∀ id ∈ idsV v, id < n
  | .top, _, _, id, hi => by simp [idsV] at hi
  | .int _ _, _, _, id, hi => by simp [idsV] at hi
  | .bool _, _, _, id, hi => by simp [idsV] at hi
  | .nilp, _, _, id, hi => by simp [idsV] at hi
  | .nsl, _, _, id, hi => by simp [idsV] at hi
  | .nfn, _, _, id, hi => by simp [idsV] at hi
  | .nifc, _, _, id, hi => by simp [idsV] at hi
  | .nmp, _, _, id, hi => by simp [idsV] at hi
  | .mp i, _, h, id, hi => by
    simp only [idsV, List.mem_singleton] at hi
    simp only [R] at h
    rw [hi]; exact h.1
  | .ptr i _ _ _, _, h, id, hi => by
    simp only [idsV, List.mem_singleton] at hi
    simp only [R] at h
    rw [hi]; exact h.1
  | .sl i _ _ _, _, h, id, hi => by
    simp only [idsV, List.mem_singleton] at hi
    simp only [R] at h
    rw [hi]; exact h.1
  | .osl i, _, h, id, hi => by
    simp only [idsV, List.mem_singleton] at hi
    simp only [R] at h
    rw [hi]; exact h.1
  | .fn _ a b, _, h, id, hi => by
    simp only [idsV, List.mem_append] at hi
    simp only [R] at h
    obtain ⟨xs, ys, _, h1, h2⟩ := h
    rcases hi with hi | hi
    · exact RL.ids a _ h1 id hi
    · exact RL.ids b _ h2 id hi
  | .ifc _ v, _, h, id, hi => by
    simp only [idsV] at hi
    simp only [R] at h
    obtain ⟨y, _, h1⟩ := h
    exact R.ids v y h1 id hi
  | .agg cs, _, h, id, hi => by
    simp only [idsV] at hi
    simp only [R] at h
    obtain ⟨xs, _, h1⟩ := h
    exact RL.ids cs _ h1 id hi
  | .tup cs, _, h, id, hi => by
    simp only [idsV] at hi
    simp only [R] at h
    obtain ⟨xs, _, h1⟩ := h
    exact RL.ids cs _ h1 id hi
theorem RL.ids {ρ : Nat → Bnd} {n : Nat} : ∀ (vs : List V) (xs : List Value), RL ρ n vs xs → ∀ id ∈ idsL vs, id < n
  | [], _, _, id, hi => by simp [idsL] at hi
  | v :: vs, x :: xs, h, id, hi => by
    simp only [RL] at h
    simp only [idsL, List.mem_append] at hi
    rcases hi with hi | hi
    · exact R.ids v x h.1 id hi
    · exact RL.ids vs xs h.2 id hi
  | _ :: _, [], h, _, _ => by simp [RL] at h
end
mutual
theorem R.remap {ρ ρ' : Nat → Bnd} {n n' : Nat} : ∀ (v : V) (x : Value), R ρ n v x → (∀ id ∈ idsV v, id < n' ∧ ρ' id = ρ id) → R ρ' n' v x
  | .top, _, _, _ => by simp [R]
  | .int _ _, _, h, _ => by simpa [R] using h
  | .bool _, _, h, _ => by simpa [R] using h
  | .nilp, _, h, _ => by simpa [R] using h
  | .nsl, _, h, _ => by simpa [R] using h
  | .nfn, _, h, _ => by simpa [R] using h
  | .nifc, _, h, _ => by simpa [R] using h
  | .nmp, _, h, _ => by simpa [R] using h
  | .mp i, _, h, hi => by
    obtain ⟨h1, h2⟩ := hi i (by simp [idsV])
    simp only [R] at h ⊢
    rw [h2]; exact ⟨h1, h.2⟩
  | .ptr i _ _ _, _, h, hi => by
    obtain ⟨h1, h2⟩ := hi i (by simp [idsV])
    simp only [R] at h ⊢
    rw [h2]; exact ⟨h1, h.2⟩
  | .sl i _ _ _, _, h, hi => by
    obtain ⟨h1, h2⟩ := hi i (by simp [idsV])
    simp only [R] at h ⊢
    rw [h2]; exact ⟨h1, h.2⟩
  | .osl i, _, h, hi => by
    obtain ⟨h1, h2⟩ := hi i (by simp [idsV])
    simp only [R] at h ⊢
    rw [h2]; exact ⟨h1, h.2⟩
  | .fn _ a b, _, h, hi => by
    simp only [R] at h ⊢
    obtain ⟨xs, ys, h0, h1, h2⟩ := h
    exact ⟨xs, ys, h0, RL.remap a _ h1 (fun id hid => hi id (by simp [idsV, hid])), RL.remap b _ h2 (fun id hid => hi id (by simp [idsV, hid]))⟩
  | .ifc _ v, _, h, hi => by
    simp only [R] at h ⊢
    obtain ⟨y, h0, h1⟩ := h
    exact ⟨y, h0, R.remap v y h1 (fun id hid => hi id (by simpa [idsV] using hid))⟩
  | .agg cs, _, h, hi => by
    simp only [R] at h ⊢
    obtain ⟨xs, h0, h1⟩ := h
    exact ⟨xs, h0, RL.remap cs _ h1 (fun id hid => hi id (by simpa [idsV] using hid))⟩
  | .tup cs, _, h, hi => by
    simp only [R] at h ⊢
    obtain ⟨xs, h0, h1⟩ := h
    exact ⟨xs, h0, RL.remap cs _ h1 (fun id hid => hi id (by simpa [idsV] using hid))⟩
theorem RL.remap {ρ ρ' : Nat → Bnd} {n n' : Nat} : ∀ (vs : List V) (xs : List Value), RL ρ n vs xs → (∀ id ∈ idsL vs, id < n' ∧ ρ' id = ρ id) → RL ρ' n' vs xs
  | [], [], _, _ => by simp [RL]
  | v :: vs, x :: xs, h, hi => by
    simp only [RL] at h ⊢
    exact ⟨R.remap v x h.1 (fun id hid => hi id (by simp [idsL, hid])), RL.remap vs xs h.2 (fun id hid => hi id (by simp [idsL, hid]))⟩
  | _ :: _, [], h, _ => by simp [RL] at h
  | [], _ :: _, h, _ => by simp [RL] at h
end
mutual
theorem R.resh {ρ ρ' : Nat → Bnd} {n n' a k : Nat} : ∀ (v : V) (x : Value), R ρ n (shV a v) x → (∀ id, a + id < n → k + id < n' ∧ ρ' (k + id) = ρ (a + id)) → R ρ' n' (shV k v) x
  | .top, _, _, _ => by simp [R, shV]
  | .int _ _, _, h, _ => by simpa [R, shV] using h
  | .bool _, _, h, _ => by simpa [R, shV] using h
  | .nilp, _, h, _ => by simpa [R, shV] using h
  | .nsl, _, h, _ => by simpa [R, shV] using h
  | .nfn, _, h, _ => by simpa [R, shV] using h
  | .nifc, _, h, _ => by simpa [R, shV] using h
  | .nmp, _, h, _ => by simpa [R, shV] using h
  | .mp i, _, h, hi => by
    simp only [R, shV] at h ⊢
    obtain ⟨h1, h2⟩ := hi i h.1
    rw [h2]; exact ⟨h1, h.2⟩
  | .ptr i _ _ _, _, h, hi => by
    simp only [R, shV] at h ⊢
    obtain ⟨h1, h2⟩ := hi i h.1
    rw [h2]; exact ⟨h1, h.2⟩
  | .sl i _ _ _, _, h, hi => by
    simp only [R, shV] at h ⊢
    obtain ⟨h1, h2⟩ := hi i h.1
    rw [h2]; exact ⟨h1, h.2⟩
  | .osl i, _, h, hi => by
    simp only [R, shV] at h ⊢
    obtain ⟨h1, h2⟩ := hi i h.1
    rw [h2]; exact ⟨h1, h.2⟩
  | .fn _ c d, _, h, hi => by
    simp only [R, shV] at h ⊢
    obtain ⟨xs, ys, h0, h1, h2⟩ := h
    exact ⟨xs, ys, h0, RL.resh c _ h1 hi, RL.resh d _ h2 hi⟩
  | .ifc _ v, _, h, hi => by
    simp only [R, shV] at h ⊢
    obtain ⟨y, h0, h1⟩ := h
    exact ⟨y, h0, R.resh v y h1 hi⟩
  | .agg cs, _, h, hi => by
    simp only [R, shV] at h ⊢
    obtain ⟨xs, h0, h1⟩ := h
    exact ⟨xs, h0, RL.resh cs _ h1 hi⟩
  | .tup cs, _, h, hi => by
    simp only [R, shV] at h ⊢
    obtain ⟨xs, h0, h1⟩ := h
    exact ⟨xs, h0, RL.resh cs _ h1 hi⟩
theorem RL.resh {ρ ρ' : Nat → Bnd} {n n' a k : Nat} : ∀ (vs : List V) (xs : List Value), RL ρ n (shL a vs) xs → (∀ id, a + id < n → k + id < n' ∧ ρ' (k + id) = ρ (a + id)) → RL ρ' n' (shL k vs) xs
  | [], [], _, _ => by simp [RL, shL]
  | v :: vs, x :: xs, h, hi => by
    simp only [RL, shL] at h ⊢
    exact ⟨R.resh v x h.1 hi, RL.resh vs xs h.2 hi⟩
  | _ :: _, [], h, _ => by simp [RL, shL] at h
  | [], _ :: _, h, _ => by simp [RL, shL] at h
end
theorem HR.remap {ρ ρ' : Nat → Bnd} {n n' B : Nat} {w : World} {b : Bnd} {o : Ob} (h : HR ρ n B w b o) (hi : ∀ id ∈ idsO o, id < n' ∧ ρ' id = ρ id) : HR ρ' n' B w b o := by
  cases o with
  | no => trivial
  | var t cs =>
    obtain ⟨h1, h2, c, h3, h4⟩ := h
    exact ⟨h1, h2, c, h3, RL.remap cs _ h4 hi⟩
  | rv cs =>
    obtain ⟨h2, c, t, h3, h4⟩ := h
    exact ⟨h2, c, t, h3, RL.mono (Nat.le_refl 0) (fun i hi => by omega) _ _ h4⟩
  | ro E l => exact h
  | own t E l => exact h
  | mp ka KE va VE m => exact h
theorem HR.ids {ρ : Nat → Bnd} {n B : Nat} {w : World} {b : Bnd} {o : Ob} (h : HR ρ n B w b o) : ∀ id ∈ idsO o, id < n := by
  cases o with
  | var t cs =>
    obtain ⟨h1, h2, c, h3, h4⟩ := h
    exact RL.ids cs _ h4
  | _ => intro id hid; simp [idsO] at hid
theorem Rel.map {B n n' : Nat} {ρ ρ' : Nat → Bnd} {h h' : Nat → Ob} {w : World} (hr : Rel B ρ n h w) (f : Nat → Nat) (hf : ∀ i, i < n' → f i < n) (inj : ∀ i j, i < n' → j < n' → f i = f j → i = j)
    (hρ : ∀ i, i < n' → ρ' i = ρ (f i)) (hh : ∀ i, i < n' → h' i = h (f i)) (hid : ∀ i, i < n' → ∀ id ∈ idsO (h' i), id < n' ∧ ρ' id = ρ id) : Rel B ρ' n' h' w := by
  refine ⟨hr.base, fun i hi => ?_, fun i j hi hj hij g hg hgj => ?_⟩
  · rw [hρ i hi]
    have h1 := hr.obj (f i) (hf i hi)
    rw [← hh i hi] at h1
    exact h1.remap (hid i hi)
  · rw [hρ i hi, hh i hi] at hg
    rw [hρ j hj, hh j hj] at hgj
    exact hr.sep (f i) (f j) (hf i hi) (hf j hj) (fun e => hij (inj i j hi hj e)) g hg hgj
theorem addObs_old : ∀ (l : List Ob) (h : Nat → Ob) (n i : Nat), i < n → addObs h n l i = h i
  | [], _, _, _, _ => rfl
  | o :: l, h, n, i, hi => by
    simp only [addObs]
    rw [addObs_old l _ _ _ (by omega), upd_ne _ _ _ (by omega)]
theorem addObs_new : ∀ (l : List Ob) (h : Nat → Ob) (n i : Nat), i < l.length → addObs h n l (n + i) = lookO l i
  | [], _, _, _, hi => by simp at hi
  | o :: l, h, n, 0, _ => by
    simp only [addObs, lookO, Nat.add_zero]
    rw [addObs_old l _ _ _ (by omega), upd_same]
  | o :: l, h, n, i + 1, hi => by
    simp only [addObs, lookO]
    rw [show n + (i + 1) = n + 1 + i by omega]
    exact addObs_new l _ _ i (by simpa using hi)
theorem applyE_numb (h : Nat → Ob) : ∀ (l : List Ob) (k : Nat), applyE h (numb k l) = addObs h k l := by
  intro l
  induction l generalizing h with
  | nil => intro k; rfl
  | cons o l ih => intro k; simp only [numb, applyE, addObs]; exact ih _ _
theorem addObs_far : ∀ (l : List Ob) (h : Nat → Ob) (n i : Nat), n + l.length ≤ i → addObs h n l i = h i
  | [], _, _, _, _ => rfl
  | o :: l, h, n, i, hi => by
    simp only [List.length_cons] at hi
    simp only [addObs]
    rw [addObs_far l _ _ _ (by omega), upd_ne _ _ _ (by omega)]
theorem applyE_append (h : Nat → Ob) : ∀ (a b : List (Nat × Ob)), applyE h (a ++ b) = applyE (applyE h a) b := by
  intro a
  induction a generalizing h with
  | nil => intro b; rfl
  | cons p l ih => intro b; obtain ⟨i, o⟩ := p; simp only [List.cons_append, applyE]; exact ih _ _

/-! ### One step -/
/-- What a step's end is, its new blocks on top, of what is written with them in their places. -/
def Ren (σ : S) (top k : Nat) (d : Option Nat) (v : V) (e : List (Nat × Ob)) (s' : S) : Prop :=
  s' = S.put ⟨σ.sl, applyE σ.hp e, top⟩ d v ∨
  ∃ pre news u, v = shV k u ∧ e = pre ++ numb k news ∧ (∀ p ∈ pre, p.2 = Ob.no) ∧ news.length ≤ 8 ∧ s' = S.put ⟨σ.sl, addObs (applyE σ.hp pre) top news, top + news.length⟩ d (shV top u)
theorem or_run {σ : S} {k : Nat} {d : Option Nat} {v : V} {e : List (Nat × Ob)} {X : Prop} (r : OR)
    (h : match r with
    | .val v' => force v' fun v' => v' = v ∧ [] = e ∧ X
    | .chk c v' => c ∧ force v' fun v' => v' = v ∧ [] = e ∧ X
    | .new c o own => c ∧ newV own k = v ∧ [(k, o)] = e ∧ X
    | .put c id o => c ∧ V.top = v ∧ [(id, o)] = e ∧ X
    | .mov c id o => c ∧ V.osl k = v ∧ [(id, Ob.no), (k, o)] = e ∧ X
    | .bad => False) : r.run σ d (Ren σ σ.nx k d v e) := by
  cases r with
  | val v' =>
    simp only [force_iff] at h
    obtain ⟨rfl, rfl, _⟩ := h
    simp only [OR.run, force_iff]
    exact .inl rfl
  | chk c v' =>
    simp only [force_iff] at h
    obtain ⟨hc, rfl, rfl, _⟩ := h
    simp only [OR.run, force_iff]
    exact ⟨hc, .inl rfl⟩
  | new c o own =>
    obtain ⟨hc, rfl, rfl, _⟩ := h
    refine ⟨hc, .inr ⟨[], [o], newV own 0, ?_, rfl, by simp, by simp, ?_⟩⟩
    · cases own <;> rfl
    · cases own <;> rfl
  | put c id o =>
    obtain ⟨hc, rfl, rfl, _⟩ := h
    exact ⟨hc, .inl rfl⟩
  | mov c id o =>
    obtain ⟨hc, rfl, rfl, _⟩ := h
    exact ⟨hc, .inr ⟨[(id, .no)], [o], .osl 0, rfl, rfl, by simp, by simp, rfl⟩⟩
  | bad => exact h
theorem dexec_run {D : DTab} {σ : S} {k : Nat} {o : AOper} {v : V} {e : List (Nat × Ob)} {X : Prop} (h : dexec D k o.op σ (fun v' e' => v' = v ∧ e' = e ∧ X) (fun _ => False)) :
    runOp1 (tabD D) o (Ren σ σ.nx k o.d v e) (fun _ _ => False) σ := by
  obtain ⟨d, op, g⟩ := o
  cases op
  case call f args =>
    simp only [dexec] at h
    simp only [runOp1]
    split at h
    · rename_i fi fs cs hf
      split at h
      · rename_i g' hg
        have ht : tabD D fi = liftG g' := by simp [tabD, hg]
        rw [forceL_iff, forceN_iff, ht]
        unfold liftG
        split at h
        · rename_i d' out news hgo
          simp only [hgo]
          split at h
          · rename_i u
            split at h
            · rename_i hlen
              simp only [Bool.and_eq_true, Nat.ble_eq] at hlen
              obtain ⟨hd, hab⟩ := h
              obtain ⟨rfl, rfl, _⟩ := (absM_iff _ _ _).1 hab
              refine ⟨hd, ?_⟩
              simp only [forceV_iff, putK_iff]
              exact .inr ⟨[], news, u, rfl, rfl, by simp, hlen.1, rfl⟩
            · exact h.elim
          · exact h.2.elim
        · exact h.elim
      · exact h.elim
    · exact h.elim
  case pan => exact h.elim
  case no => exact h.elim
  all_goals
    simp only [dexec] at h
    simp only [runOp1]
    rw [OR.runF_iff]
    exact or_run _ h
theorem dexec_runP {D : DTab} {σ : S} {k : Nat} {o : AOper} {u : V} (h : dexec D k o.op σ (fun _ _ => False) (fun v' => v' = u)) :
    runOp1 (tabD D) o (fun _ => False) (fun v s' => v = u ∧ s' = σ) σ := by
  obtain ⟨d, op, g⟩ := o
  cases op
  case call f args =>
    simp only [dexec] at h
    simp only [runOp1]
    split at h
    · rename_i fi fs cs hf
      split at h
      · rename_i g' hg
        have ht : tabD D fi = liftG g' := by simp [tabD, hg]
        rw [forceL_iff, forceN_iff, ht]
        unfold liftG
        split at h
        · rename_i d' out news hgo
          simp only [hgo]
          split at h
          · rename_i u
            split at h
            · exact ((absM_iff _ _ _).1 h.2).elim
            · exact h.elim
          · obtain ⟨hd, rfl⟩ := h
            exact ⟨hd, by simp⟩
        · exact h.elim
      · exact h.elim
    · exact h.elim
  case pan => exact h.elim
  all_goals
    simp only [dexec] at h
    split at h
    all_goals first
      | exact h.elim
      | (rw [force_iff] at h; exact h.elim)
      | (have h2 := h.2; rw [force_iff] at h2; exact h2.elim)
      | exact h.2.elim
theorem dop_run {D : DTab} {σ : S} {k : Nat} {o : AOper} {v : V} {e : List (Nat × Ob)} {r : List Nat} (h : StepR D k o σ v e r) : runOp (tabD D) o (Ren σ σ.nx k o.d v e) (fun _ _ => False) σ := by
  unfold StepR dop at h
  unfold runOp
  have skip : (V.tup [] = v ∧ [] = e ∧ [] = r) → Ren σ σ.nx k o.d v e (σ.put o.d (.tup [])) := by
    rintro ⟨rfl, rfl, _⟩
    exact .inl rfl
  split at h
  · rename_i hg
    exact dexec_run h
  · rename_i g want hg
    split at h
    · rename_i b hb
      cases want <;> cases b <;> simp only [bcase] at h ⊢
      · rw [st_self σ g _ hb]
        exact dexec_run h
      · rw [upd_self _ _ _ hb]
        exact (putK_iff _ _ _ _ _ _).2 (skip h)
      · rw [upd_self _ _ _ hb]
        exact (putK_iff _ _ _ _ _ _).2 (skip h)
      · rw [st_self σ g _ hb]
        exact dexec_run h
    · exact (putK_iff _ _ _ _ _ _).2 (skip h)
    · exact h.elim
theorem dop_runP {D : DTab} {σ : S} {k : Nat} {o : AOper} {u : V} (h : StepP D k o σ u) : runOp (tabD D) o (fun _ => False) (fun v s' => v = u ∧ s' = σ) σ := by
  unfold StepP dop at h
  unfold runOp
  split at h
  · rename_i hg
    exact dexec_runP h
  · rename_i g want hg
    split at h
    · rename_i b hb
      cases want <;> cases b <;> simp only [bcase] at h ⊢
      all_goals
        rw [st_self σ g _ hb]
        exact dexec_runP h
    · exact h.elim
    · exact h.elim
/-- The new blocks, renamed. -/
theorem ren_ok {N B n0 top k : Nat} {ρ' : Nat → Bnd} {σ s' : S} {a' : Act} {w' : World} {d : Option Nat} {v : V} {e : List (Nat × Ob)} (hs : RelS N B ρ' s' a' w') (hr : Ren σ top k d v e s')
    (hk0 : n0 ≤ k) (hk : k + 8 ≤ top) (hsl : ∀ t, ∀ id ∈ idsV (σ.sl t), id < top ∧ ¬ (k ≤ id ∧ id < k + 8)) (hho : ∀ i, ∀ id ∈ idsO (σ.hp i), id < top ∧ ¬ (k ≤ id ∧ id < k + 8))
    (he : ∀ p ∈ e, ∀ id ∈ idsO p.2, id < top ∧ ¬ (k ≤ id ∧ id < k + 8)) :
    ∃ ρ'', RelS N B ρ'' (S.put ⟨σ.sl, applyE σ.hp e, top⟩ d v) a' w' ∧ Agree ρ' ρ'' n0 := by
  rcases hr with rfl | ⟨pre, news, u, rfl, rfl, hpre, hlen, rfl⟩
  · exact ⟨ρ', hs, fun _ _ => rfl⟩
  · let f : Nat → Nat := fun i => if k ≤ i ∧ i < k + news.length then top + (i - k) else i
    have hnx : (S.put ⟨σ.sl, addObs (applyE σ.hp pre) top news, top + news.length⟩ d (shV top u)).nx = top + news.length := S.put_nx _ _ _
    have fin : ∀ i, k ≤ i ∧ i < k + news.length → f i = top + (i - k) := fun i hi => if_pos hi
    have fout : ∀ i, ¬ (k ≤ i ∧ i < k + news.length) → f i = i := fun i hi => if_neg hi
    have fold : ∀ id, id < top → ¬ (k ≤ id ∧ id < k + 8) → f id = id := fun id _ h2 => fout id (fun h => h2 ⟨h.1, by omega⟩)
    have hap : applyE σ.hp (pre ++ numb k news) = addObs (applyE σ.hp pre) k news := by rw [applyE_append, applyE_numb]
    have hob : ∀ i, i < top → addObs (applyE σ.hp pre) k news i = addObs (applyE σ.hp pre) top news (f i) := by
      intro i hi
      by_cases h : k ≤ i ∧ i < k + news.length
      · rw [fin i h, addObs_new _ _ _ _ (by omega)]
        have := addObs_new news (applyE σ.hp pre) k (i - k) (by omega)
        rw [← this]
        congr 1
        omega
      · rw [fout i h, addObs_old _ _ top i hi]
        by_cases h' : i < k
        · exact addObs_old _ _ _ _ h'
        · exact addObs_far _ _ _ _ (by omega)
    have hrel := hs.rel
    rw [hnx, put_hp] at hrel
    refine ⟨fun i => ρ' (f i), ⟨?_, fun t => ?_, hs.size⟩, fun i hi => ?_⟩
    · rw [S.put_nx, put_hp, hap]
      refine hrel.map f (fun i hi => ?_) (fun i j hi hj hij => ?_) (fun _ _ => rfl) hob (fun i hi id hid => ?_)
      · by_cases h : k ≤ i ∧ i < k + news.length
        · rw [fin i h]; omega
        · rw [fout i h]; replace hi : i < top := hi; omega
      · replace hi : i < top := hi
        replace hj : j < top := hj
        by_cases h : k ≤ i ∧ i < k + news.length
        · by_cases h' : k ≤ j ∧ j < k + news.length
          · rw [fin i h, fin j h'] at hij; omega
          · rw [fin i h, fout j h'] at hij; omega
        · by_cases h' : k ≤ j ∧ j < k + news.length
          · rw [fout i h, fin j h'] at hij; omega
          · rw [fout i h, fout j h'] at hij; exact hij
      · have hmem : ∃ p, (p = σ.hp i ∨ p = .no ∨ ∃ q ∈ pre ++ numb k news, q.2 = p) ∧ addObs (applyE σ.hp pre) k news i = p := by
          rw [← hap]
          rcases applyE_mem (pre ++ numb k news) σ.hp i with h | ⟨p, hp, _, h⟩
          · exact ⟨_, .inl rfl, h⟩
          · exact ⟨_, .inr (.inr ⟨p, hp, rfl⟩), h⟩
        obtain ⟨p, hp, hpe⟩ := hmem
        have hid : id ∈ idsO (addObs (applyE σ.hp pre) k news i) := hid
        rw [hpe] at hid
        have hboth : id < top ∧ ¬ (k ≤ id ∧ id < k + 8) := by
          rcases hp with rfl | rfl | ⟨q, hq, rfl⟩
          · exact hho i id hid
          · simp [idsO] at hid
          · exact he q hq id hid
        exact ⟨hboth.1, by rw [fold id hboth.1 hboth.2]⟩
    · rw [S.put_nx, put_sl]
      have := hs.sl t
      rw [hnx, put_sl] at this
      by_cases hd : d = some t
      · rw [if_pos hd] at this ⊢
        refine R.resh u _ this fun id hid => ?_
        have h1 : k ≤ k + id ∧ k + id < k + news.length := by omega
        refine ⟨show k + id < top by omega, ?_⟩
        show ρ' (f (k + id)) = _
        rw [fin _ h1]
        congr 1
        omega
      · rw [if_neg hd] at this ⊢
        refine R.remap _ _ this fun id hid => ?_
        obtain ⟨h1, h2⟩ := hsl t id hid
        exact ⟨h1, by rw [fold id h1 h2]⟩
    · show ρ' (f i) = ρ' i
      rw [fout i (by omega)]
end Go.Proofs.YtbolfnkgbjkbjaaGreat.AM
