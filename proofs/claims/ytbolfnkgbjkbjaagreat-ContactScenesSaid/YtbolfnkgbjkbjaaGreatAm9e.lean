/- The abstract machine, part 9e: regions that draw their order: the run in the text's order serves every order. -/
import Derived.Test.YtbolfnkgbjkbjaaGreatAm9d
set_option linter.unusedVariables false
set_option linter.unusedSimpArgs false
namespace Go.Proofs.YtbolfnkgbjkbjaaGreat.AM
open Go Go.RowKit

def idsE (effs : List (Nat × Ob)) : List Nat := effs.map (·.1)
theorem memB_iff (i : Nat) : ∀ l, memB i l = true ↔ i ∈ l
  | [] => by simp [memB]
  | j :: l => by
    simp only [memB, Bool.or_eq_true, List.mem_cons, memB_iff i l]
    constructor
    · rintro (h | h)
      · exact .inl (Nat.eq_of_beq_eq_true h).symm
      · exact .inr h
    · rintro (h | h)
      · exact .inl (by subst h; simp)
      · exact .inr h
theorem disj_iff (a b : List Nat) : disj a b = true ↔ ∀ i ∈ a, i ∉ b := by
  simp only [disj, List.all_eq_true, Bool.not_eq_true']
  constructor
  · intro h i hi hb
    have := h i hi
    rw [(memB_iff i b).2 hb] at this
    cases this
  · intro h i hi
    rw [Bool.eq_false_iff]
    intro hb
    exact h i hi ((memB_iff i b).1 hb)
theorem applyE_other : ∀ (e : List (Nat × Ob)) (h : Nat → Ob) (id : Nat), id ∉ idsE e → applyE h e id = h id
  | [], _, _, _ => rfl
  | (i, o) :: l, h, id, hn => by
    simp only [idsE, List.map_cons, List.mem_cons, not_or] at hn
    simp only [applyE]
    rw [applyE_other l _ id hn.2, upd_ne _ _ _ hn.1]
theorem applyE_in : ∀ (e : List (Nat × Ob)) (h h' : Nat → Ob) (id : Nat), id ∈ idsE e → applyE h e id = applyE h' e id
  | [], _, _, _, hn => by simp [idsE] at hn
  | (i, o) :: l, h, h', id, hn => by
    simp only [applyE]
    by_cases hl : id ∈ idsE l
    · exact applyE_in l _ _ id hl
    · simp only [idsE, List.map_cons, List.mem_cons] at hn
      rcases hn with rfl | hn
      · rw [applyE_other l _ _ hl, applyE_other l _ _ hl, upd_same, upd_same]
      · exact absurd hn hl
theorem applyE_mem : ∀ (e : List (Nat × Ob)) (h : Nat → Ob) (id : Nat), applyE h e id = h id ∨ ∃ p ∈ e, p.1 = id ∧ applyE h e id = p.2
  | [], _, _ => .inl rfl
  | (i, o) :: l, h, id => by
    simp only [applyE]
    rcases applyE_mem l (upd h i o) id with h1 | ⟨p, hp, h1, h2⟩
    · by_cases e : id = i
      · subst e
        rw [upd_same] at h1
        exact .inr ⟨(id, o), by simp, rfl, h1⟩
      · rw [upd_ne _ _ _ e] at h1
        exact .inl h1
    · exact .inr ⟨p, by simp [hp], h1, h2⟩
structure Dat where
  v : Nat → V
  e : Nat → List (Nat × Ob)
  r : Nat → List Nat
  d : Nat → Option Nat
def stE (top : Nat) (s0 : S) (A : Dat) (E : Nat → Bool) : Nat → S
  | 0 => s0
  | m + 1 => match E m with
    | true => S.put ⟨(stE top s0 A E m).sl, applyE (stE top s0 A E m).hp (A.e m), top⟩ (A.d m) (A.v m)
    | false => stE top s0 A E m
theorem stE_nx {top : Nat} {s0 : S} {A : Dat} {E : Nat → Bool} (h : s0.nx = top) : ∀ m, (stE top s0 A E m).nx = top
  | 0 => h
  | m + 1 => by
    simp only [stE]
    split
    · rw [S.put_nx]
    · exact stE_nx h m
theorem put_sl (s : S) (d : Option Nat) (v : V) (t : Nat) : (s.put d v).sl t = if d = some t then v else s.sl t := by
  cases d with
  | none => simp [S.put]
  | some d =>
    by_cases e : t = d
    · subst e
      simp [S.put, upd_same]
    · have : ¬ (some d = some t) := by intro h; cases h; exact e rfl
      simp only [S.put, if_neg this]
      exact upd_ne _ _ _ e
theorem put_hp (s : S) (d : Option Nat) (v : V) : (s.put d v).hp = s.hp := by cases d <;> rfl
section
variable {top : Nat} {s0 : S} {A : Dat}
theorem stE_sl (E : Nat → Bool) (m t : Nat) : (stE top s0 A E (m + 1)).sl t = if E m = true ∧ A.d m = some t then A.v m else (stE top s0 A E m).sl t := by
  simp only [stE]
  cases hE : E m with
  | true => simp only [put_sl, true_and]
  | false => simp
theorem stE_hp (E : Nat → Bool) (m id : Nat) : (stE top s0 A E (m + 1)).hp id = if E m = true then applyE (stE top s0 A E m).hp (A.e m) id else (stE top s0 A E m).hp id := by
  simp only [stE]
  cases hE : E m with
  | true => simp only [put_hp, if_true]
  | false => simp
theorem stE_sl_congr {E E' : Nat → Bool} {t : Nat} : ∀ m, (∀ x, x < m → A.d x = some t → E x = E' x) → (stE top s0 A E m).sl t = (stE top s0 A E' m).sl t
  | 0, _ => rfl
  | m + 1, h => by
    rw [stE_sl, stE_sl, stE_sl_congr m (fun x hx => h x (by omega))]
    by_cases hd : A.d m = some t
    · rw [h m (by omega) hd]
    · simp [hd]
theorem stE_hp_congr {E E' : Nat → Bool} {id : Nat} : ∀ m, (∀ x, x < m → id ∈ idsE (A.e x) → E x = E' x) → (stE top s0 A E m).hp id = (stE top s0 A E' m).hp id
  | 0, _ => rfl
  | m + 1, h => by
    rw [stE_hp, stE_hp]
    have ih := stE_hp_congr (E := E) (E' := E') (id := id) m (fun x hx => h x (by omega))
    by_cases hd : id ∈ idsE (A.e m)
    · rw [h m (by omega) hd, applyE_in _ _ (stE top s0 A E' m).hp _ hd, ih]
    · rw [applyE_other _ _ _ hd, applyE_other _ _ _ hd, ih]
      simp
/-- The state in the text's order, as one of a set. -/
theorem stE_lex {j : Nat} : ∀ m, j ≤ m → stE top s0 A (fun x => decide (x < j)) m = stE top s0 A (fun _ => true) j
  | 0, h => by
    have : j = 0 := by omega
    subst this
    rfl
  | m + 1, h => by
    by_cases e : j = m + 1
    · subst e
      have : ∀ k, k ≤ m + 1 → stE top s0 A (fun x => decide (x < m + 1)) k = stE top s0 A (fun _ => true) k := by
        intro k
        induction k with
        | zero => intro _; rfl
        | succ k ih =>
          intro hk
          simp only [stE]
          have : decide (k < m + 1) = true := by simp; omega
          rw [this, ih (by omega)]
      exact this _ (Nat.le_refl _)
    · have hjm : ¬ m < j := by omega
      have ih := stE_lex (j := j) m (by omega)
      simp only [stE]
      have : decide (m < j) = false := by simp; omega
      rw [this]
      exact ih
/-- One more of the set. -/
theorem stE_add {E : Nat → Bool} {j : Nat} (hj0 : E j = false) (hs : ∀ x, E x = true → ∀ t, A.d x = some t → A.d j = some t → x < j) (hh : ∀ x, E x = true → ∀ id ∈ idsE (A.e x), id ∈ idsE (A.e j) → x < j) :
    ∀ m, j < m → (∀ t, (stE top s0 A (upd E j true) m).sl t = (S.put ⟨(stE top s0 A E m).sl, applyE (stE top s0 A E m).hp (A.e j), top⟩ (A.d j) (A.v j)).sl t) ∧
      (∀ id, (stE top s0 A (upd E j true) m).hp id = applyE (stE top s0 A E m).hp (A.e j) id)
  | 0, h => by omega
  | m + 1, h => by
    by_cases e : j = m
    · subst e
      have same : ∀ k, k ≤ j → stE top s0 A (upd E j true) k = stE top s0 A E k := by
        intro k
        induction k with
        | zero => intro _; rfl
        | succ k ih =>
          intro hk
          simp only [stE]
          rw [upd_ne _ _ _ (show k ≠ j by omega), ih (by omega)]
      have sm := same j (Nat.le_refl _)
      refine ⟨fun t => ?_, fun id => ?_⟩
      · rw [stE_sl, upd_same, sm, put_sl]
        have : (stE top s0 A E (j + 1)).sl t = (stE top s0 A E j).sl t := by rw [stE_sl, hj0]; simp
        simp only [this, true_and]
      · rw [stE_hp, upd_same, sm]
        have : (stE top s0 A E (j + 1)).hp = (stE top s0 A E j).hp := by
          funext i
          rw [stE_hp, hj0]
          simp
        rw [this]
        simp
    · have hjm : j < m := by omega
      obtain ⟨i1, i2⟩ := stE_add hj0 hs hh m hjm
      have hu : upd E j true m = E m := upd_ne _ _ _ (by omega)
      refine ⟨fun t => ?_, fun id => ?_⟩
      · rw [stE_sl, hu, i1, put_sl, put_sl]
        have hrec : (stE top s0 A E (m + 1)).sl t = if E m = true ∧ A.d m = some t then A.v m else (stE top s0 A E m).sl t := stE_sl E m t
        simp only [hrec]
        by_cases hm : E m = true ∧ A.d m = some t
        · rw [if_pos hm]
          by_cases hd : A.d j = some t
          · have := hs m hm.1 t hm.2 hd
            omega
          · rw [if_neg hd]
            simp only [hrec, if_pos hm]
        · rw [if_neg hm]
          by_cases hd : A.d j = some t
          · rw [if_pos hd, if_pos hd]
          · rw [if_neg hd, if_neg hd]
            simp only [hrec, if_neg hm]
      · rw [stE_hp, hu]
        have hrec : ∀ i, (stE top s0 A E (m + 1)).hp i = if E m = true then applyE (stE top s0 A E m).hp (A.e m) i else (stE top s0 A E m).hp i := stE_hp E m
        by_cases hm : E m = true
        · rw [if_pos hm]
          by_cases hd : id ∈ idsE (A.e j)
          · rw [applyE_in (A.e j) (stE top s0 A E (m + 1)).hp (stE top s0 A E m).hp id hd, ← i2 id]
            by_cases hm' : id ∈ idsE (A.e m)
            · have := hh m hm id hm' hd
              omega
            · rw [applyE_other _ _ _ hm']
          · rw [applyE_other _ _ _ hd, hrec, if_pos hm]
            by_cases hm' : id ∈ idsE (A.e m)
            · exact applyE_in _ _ _ _ hm'
            · rw [applyE_other _ _ _ hm', applyE_other _ _ _ hm', i2, applyE_other _ _ _ hd]
        · rw [if_neg hm]
          by_cases hd : id ∈ idsE (A.e j)
          · rw [i2]
            exact applyE_in _ _ _ _ hd
          · rw [i2, applyE_other _ _ _ hd, applyE_other _ _ _ hd, hrec, if_neg hm]
theorem stE_dat {A' : Dat} {E : Nat → Bool} : ∀ m, (∀ x, x < m → A.v x = A'.v x ∧ A.e x = A'.e x ∧ A.d x = A'.d x) → stE top s0 A E m = stE top s0 A' E m
  | 0, _ => rfl
  | m + 1, h => by
    simp only [stE]
    obtain ⟨h1, h2, h3⟩ := h m (by omega)
    rw [stE_dat m (fun x hx => h x (by omega)), h1, h2, h3]
end
/-! ### The run, laid out -/
def StepR (D : DTab) (k : Nat) (o : AOper) (s : S) (v : V) (e : List (Nat × Ob)) (r : List Nat) : Prop := dop D k o s (fun v' e' r' => v' = v ∧ e' = e ∧ r' = r) (fun _ => False)
def StepP (D : DTab) (k : Nat) (o : AOper) (s : S) (v : V) : Prop := dop D k o s (fun _ _ _ => False) (fun v' => v' = v)
theorem dop_det {D : DTab} {k : Nat} {o : AOper} {s : S} {K : V → List (Nat × Ob) → List Nat → Prop} {PQ : V → Prop} (h : dop D k o s K PQ) :
    (∃ v e r, StepR D k o s v e r ∧ K v e r) ∨ (∃ v, StepP D k o s v ∧ PQ v) := by
  unfold dop at h
  unfold StepR StepP dop
  have ex : dexec D k o.op s (fun v e => K v e (rdsOf s o.op)) PQ →
      (∃ v e r, dexec D k o.op s (fun v' e' => v' = v ∧ e' = e ∧ rdsOf s o.op = r) (fun _ => False) ∧ K v e r) ∨ (∃ v, dexec D k o.op s (fun _ _ => False) (fun v' => v' = v) ∧ PQ v) := by
    intro h
    rcases dexec_det h with ⟨v, e, hK, hd⟩ | ⟨v, hP, hd⟩
    · exact .inl ⟨v, e, rdsOf s o.op, dexec_mono (fun v' e' h => ⟨h.1, h.2, rfl⟩) (fun _ h => h) hd, hK⟩
    · exact .inr ⟨v, hd, hP⟩
  split at h
  · rename_i hg
    simp only [hg]
    exact ex h
  · rename_i g want hg
    split at h
    · rename_i b hb
      cases want <;> cases b <;> simp only [bcase] at h <;> simp only [hg, hb, bcase]
      · exact ex h
      · exact .inl ⟨.tup [], [], [], ⟨rfl, rfl, rfl⟩, h⟩
      · exact .inl ⟨.tup [], [], [], ⟨rfl, rfl, rfl⟩, h⟩
      · exact ex h
    · rename_i hb
      simp only [hg, hb]
      exact .inl ⟨.tup [], [], [], ⟨rfl, rfl, rfl⟩, h⟩
    · exact h.elim
theorem stepR_congr {D : DTab} {k : Nat} {o : AOper} {s s' : S} {v : V} {e : List (Nat × Ob)} {r : List Nat} (h : StepR D k o s v e r) (hs : ∀ t ∈ looks o, s.sl t = s'.sl t) (hh : ∀ id ∈ r, s.hp id = s'.hp id) : StepR D k o s' v e r := by
  unfold StepR dop at h ⊢
  have hop : ∀ t ∈ opSl o.op, s.sl t = s'.sl t := fun t ht => hs t (by simp [looks, ht])
  have ex : dexec D k o.op s (fun v' e' => v' = v ∧ e' = e ∧ rdsOf s o.op = r) (fun _ => False) → dexec D k o.op s' (fun v' e' => v' = v ∧ e' = e ∧ rdsOf s' o.op = r) (fun _ => False) := by
    intro h
    have hr : rdsOf s o.op = r := by
      rcases dexec_det h with ⟨_, _, h, _⟩ | ⟨_, h, _⟩
      · exact h.2.2
      · exact h.elim
    rw [← rdsOf_congr hop]
    exact dexec_congr hop (by rw [hr]; exact hh) h
  split at h
  · rename_i hg
    exact ex h
  · rename_i g want hg
    rw [← hs g (by simp [looks, gSl, hg])]
    split at h
    · rename_i b hb
      cases want <;> cases b <;> simp only [bcase] at h ⊢
      · exact ex h
      · exact h
      · exact h
      · exact ex h
    · exact h
    · exact h.elim
theorem stepP_congr {D : DTab} {k : Nat} {o : AOper} {s s' : S} {v : V} (h : StepP D k o s v) (hs : ∀ t ∈ looks o, s.sl t = s'.sl t) (hh : ∀ id, s.hp id = s'.hp id) : StepP D k o s' v := by
  unfold StepP dop at h ⊢
  have hop : ∀ t ∈ opSl o.op, s.sl t = s'.sl t := fun t ht => hs t (by simp [looks, ht])
  split at h
  · rename_i hg
    exact dexec_congr hop (fun id _ => hh id) h
  · rename_i g want hg
    rw [← hs g (by simp [looks, gSl, hg])]
    split at h
    · rename_i b hb
      cases want <;> cases b <;> simp only [bcase] at h ⊢
      all_goals exact dexec_congr hop (fun id _ => hh id) h
    · exact h.elim
    · exact h.elim
/-- What is known of the first m operations. -/
structure Lex (D : DTab) (n0 top : Nat) (L : List (AOper × List Nat)) (s0 : S) (A : Dat) (m : Nat) : Prop where
  le : m ≤ L.length
  dst : ∀ j o p, L[j]? = some (o, p) → A.d j = o.d
  step : ∀ j o p, j < m → L[j]? = some (o, p) → StepR D (n0 + 8 * j) o (stE top s0 A (fun _ => true) j) (A.v j) (A.e j) (A.r j) ∧ okIds n0 j p (A.v j) (A.e j) = true ∧
    ∀ i, i < j → i ∈ p ∨ (disj (idsE (A.e i)) (A.r j) = true ∧ disj (idsE (A.e j)) (A.r i) = true ∧ disj (idsE (A.e j)) (idsE (A.e i)) = true)
def trOf (A : Dat) : Nat → List (Nat × List Nat × List Nat)
  | 0 => []
  | j + 1 => (j, A.r j, idsE (A.e j)) :: trOf A j
theorem okTr_of {preds rds wrs : List Nat} {A : Dat} : ∀ j, okTr preds rds wrs (trOf A j) = true → ∀ i, i < j → i ∈ preds ∨ (disj (idsE (A.e i)) rds = true ∧ disj wrs (A.r i) = true ∧ disj wrs (idsE (A.e i)) = true)
  | 0, _, i, hi => by omega
  | j + 1, h, i, hi => by
    simp only [trOf, okTr, Bool.and_eq_true, Bool.or_eq_true, memB_iff] at h
    by_cases e : i = j
    · subst e
      rcases h.1 with h1 | h1
      · exact .inl h1
      · exact .inr ⟨h1.1.1, h1.1.2, h1.2⟩
    · exact okTr_of j h.2 i (by omega)
theorem effsIn_of {preds : List Nat} {A : Dat} : ∀ j, effsIn preds (trOf A j) = true → ∀ i, i < j → idsE (A.e i) = [] ∨ i ∈ preds
  | 0, _, i, hi => by omega
  | j + 1, h, i, hi => by
    simp only [trOf, effsIn, Bool.and_eq_true, Bool.or_eq_true, memB_iff, List.isEmpty_iff] at h
    by_cases e : i = j
    · subst e
      exact h.1
    · exact effsIn_of j h.2 i (by omega)
theorem trOf_congr {A A' : Dat} : ∀ j, (∀ x, x < j → A.r x = A'.r x ∧ A.e x = A'.e x) → trOf A j = trOf A' j
  | 0, _ => rfl
  | j + 1, h => by
    obtain ⟨h1, h2⟩ := h j (by omega)
    simp only [trOf, h1, h2, trOf_congr j (fun x hx => h x (by omega))]
def Dat.set (A : Dat) (j : Nat) (v : V) (e : List (Nat × Ob)) (r : List Nat) : Dat := ⟨upd A.v j v, upd A.e j e, upd A.r j r, A.d⟩
theorem drun_lex {D : DTab} {n0 top : Nat} {L : List (AOper × List Nat)} {s0 : S} {K : S → Prop} {PQ : V → S → Prop} : ∀ (l : List (AOper × List Nat)) (j : Nat) (A : Dat), L.drop j = l → Lex D n0 top L s0 A j →
    drun D n0 top j l (trOf A j) K PQ (stE top s0 A (fun _ => true) j) →
    ∃ m A', Lex D n0 top L s0 A' m ∧ ((m = L.length ∧ K (stE top s0 A' (fun _ => true) m)) ∨ (∃ o p u, L[m]? = some (o, p) ∧ StepP D (n0 + 8 * m) o (stE top s0 A' (fun _ => true) m) u ∧ allAfter m (L.drop (m + 1)) = true ∧
      (∀ i, i < m → idsE (A'.e i) = [] ∨ i ∈ p) ∧ V.lt 0 u = true ∧ ∀ sl, PQ u ⟨sl, (stE top s0 A' (fun _ => true) m).hp, top⟩))
  | [], j, A, hl, hx, h => by
    have : j = L.length := by
      have := congrArg List.length hl
      simp at this
      have := hx.le
      omega
    exact ⟨j, A, hx, .inl ⟨this, h⟩⟩
  | (o, p) :: l, j, A, hl, hx, h => by
    have hj : L[j]? = some (o, p) := by
      have := congrArg (·[0]?) hl
      simpa using this
    have hjl : j < L.length := (List.getElem?_eq_some_iff.1 hj).1
    have hl' : L.drop (j + 1) = l := by
      have := congrArg (List.drop 1) hl
      simpa [List.drop_drop, Nat.add_comm] using this
    simp only [drun] at h
    rw [splitG_iff] at h
    rcases dop_det h with ⟨v, e, r, hst, hK⟩ | ⟨u, hst, hP⟩
    · simp only [forceV_iff, forceE_iff, forceI_iff, putK_iff] at hK
      split at hK
      · rename_i hok
        simp only [Bool.and_eq_true] at hok
        have same : ∀ x, x < j → A.v x = (A.set j v e r).v x ∧ A.e x = (A.set j v e r).e x ∧ A.d x = (A.set j v e r).d x := fun x hx => ⟨(upd_ne _ _ _ (by omega)).symm, (upd_ne _ _ _ (by omega)).symm, rfl⟩
        have hlex : Lex D n0 top L s0 (A.set j v e r) (j + 1) := by
          refine ⟨hjl, hx.dst, fun i o' p' hi hio => ?_⟩
          by_cases ei : i = j
          · subst ei
            rw [hj] at hio
            cases hio
            refine ⟨?_, ?_, fun i' hi' => ?_⟩
            · rw [← stE_dat i same]
              simpa [Dat.set, upd_same] using hst
            · simpa [Dat.set, upd_same] using hok.2
            · have := okTr_of i hok.1 i' hi'
              simpa [Dat.set, upd_same, upd_ne _ _ _ (show i' ≠ i by omega), idsE] using this
          · obtain ⟨a1, a2, a3⟩ := hx.step i o' p' (by omega) hio
            refine ⟨?_, ?_, fun i' hi' => ?_⟩
            · rw [← stE_dat i (fun x hx => same x (by omega))]
              simpa [Dat.set, upd_ne _ _ _ ei] using a1
            · simpa [Dat.set, upd_ne _ _ _ ei] using a2
            · simpa [Dat.set, upd_ne _ _ _ ei, upd_ne _ _ _ (show i' ≠ j by omega)] using a3 i' hi'
        refine drun_lex l (j + 1) (A.set j v e r) hl' hlex ?_
        have htr : trOf (A.set j v e r) (j + 1) = (j, r, e.map (·.1)) :: trOf A j := by
          simp only [trOf]
          rw [← trOf_congr j (fun x hx => ⟨(upd_ne _ _ _ (by omega)).symm, (upd_ne _ _ _ (by omega)).symm⟩)]
          simp [Dat.set, upd_same, idsE]
        have hst' : stE top s0 (A.set j v e r) (fun _ => true) (j + 1) = S.put ⟨(stE top s0 A (fun _ => true) j).sl, applyE (stE top s0 A (fun _ => true) j).hp e, top⟩ o.d v := by
          simp only [stE]
          rw [← stE_dat j same]
          simp [Dat.set, upd_same, hx.dst j o p hj]
        rw [htr, hst']
        exact hK
      · exact hK.elim
    · split at hP
      · rename_i hok
        simp only [Bool.and_eq_true] at hok
        refine ⟨j, A, hx, .inr ⟨o, p, u, hj, hst, by rw [hl']; exact hok.1.1, effsIn_of j hok.1.2, hok.2, hP⟩⟩
      · exact hP.elim
theorem allAfter_of {m : Nat} : ∀ (l : List (AOper × List Nat)), allAfter m l = true → ∀ (i : Nat) (o : AOper) (p : List Nat), l[i]? = some (o, p) → m ∈ p
  | [], _, i, o, p, h => by simp at h
  | (o', p') :: l, h, 0, o, p, hi => by
    simp only [allAfter, Bool.and_eq_true, memB_iff] at h
    simp at hi
    obtain ⟨rfl, rfl⟩ := hi
    exact h.1
  | (o', p') :: l, h, i + 1, o, p, hi => by
    simp only [allAfter, Bool.and_eq_true] at h
    exact allAfter_of l h.2 i o p (by simpa using hi)
end Go.Proofs.YtbolfnkgbjkbjaaGreat.AM
