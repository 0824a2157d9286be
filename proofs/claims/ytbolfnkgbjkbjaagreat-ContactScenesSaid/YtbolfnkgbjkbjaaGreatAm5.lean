/- The abstract machine, part 5: stores, indexes, parts, slices. -/
import Derived.Test.YtbolfnkgbjkbjaaGreatAm4
set_option linter.unusedVariables false
set_option linter.unusedSimpArgs false
namespace Go.Proofs.YtbolfnkgbjkbjaaGreat.AM
open Go Go.RowKit
section
variable {P : Program} {N B : Nat} {ρ : Nat → Bnd} {s : S} {a : Act} {w : World} {K : S → Prop} {o : Oper}
theorem wblk_ablk {b : Bnd} {o : Ob} {g : Nat} (h : wblk b o = some g) : ablk b o = some g := by
  cases o <;> first | (cases h; done) | exact h
/-- One object's block is written over; the object is another then. -/
theorem Rel.setRow {n : Nat} {h : Nat → Ob} (hr : Rel B ρ n h w) {id g : Nat} (hid : id < n) {o' : Ob} {cs : Array Value} (hw : wblk (ρ id) (h id) = some g)
    (hb : HR ρ n B (w.setRow g cs) (ρ id) o') (ha : ∀ k, ablk (ρ id) o' = some k → k = g) : Rel B ρ n (upd h id o') (w.setRow g cs) := by
  refine ⟨by simpa using hr.base, fun i hi => ?_, fun i j hi hj hij k hk => ?_⟩
  · by_cases e : i = id
    · subst e
      rw [upd_same]
      exact hb
    · rw [upd_ne _ _ _ e]
      refine (hr.obj i hi).keep (Nat.le_refl _) (fun _ _ => rfl) fun k hk => setRow_other w g k cs ?_
      intro e2
      subst e2
      exact hr.sep id i hid hi (Ne.symm e) k hw hk
  · by_cases e : i = id
    · subst e
      rw [upd_same] at hk
      rw [upd_ne _ _ _ (Ne.symm hij)]
      have : k = g := ha k (wblk_ablk hk)
      subst this
      exact hr.sep i j hi hj hij k hw
    · rw [upd_ne _ _ _ e] at hk
      by_cases e2 : j = id
      · subst e2
        rw [upd_same]
        intro hj'
        have := ha k hj'
        subst this
        exact hr.sep i j hi hj hij k hk (wblk_ablk hw)
      · rw [upd_ne _ _ _ e2]
        exact hr.sep i j hi hj hij k hk
theorem below_setRow {g : Nat} {cs : Array Value} (hg : B ≤ g) : Below B w (w.setRow g cs) :=
  ⟨rfl, rfl, rfl, by simp, fun k hk => setRow_other w g k cs (by omega)⟩
theorem scs_eq : ∀ (vs : List V) (ss : List Sc), scs vs = some ss → vs = ss.map Sc.toV
  | [], ss, h => by simp [scs] at h; subst h; rfl
  | v :: vs, ss, h => by
    simp only [scs] at h
    split at h
    · rename_i x y hx hy
      cases h
      rw [List.map_cons, ← scs_eq vs y hy]
      congr 1
      unfold V.sc at hx
      split at hx <;> first | (cases hx; rfl) | (cases hx)
    · cases h
theorem RL_toV {n : Nat} {ss : List Sc} {xs : List Value} (h : RL ρ n (ss.map Sc.toV) xs) : xs = ss.map Sc.val := by
  induction ss generalizing xs with
  | nil => cases xs <;> simp_all [RL]
  | cons q ss ih =>
    cases xs with
    | nil => simp [RL] at h
    | cons x xs =>
      simp only [List.map_cons, RL] at h
      rw [(R_toV q x).1 h.1, ih h.2, List.map_cons]
theorem cells_of {n : Nat} {v : V} {x : Value} {vs : List V} (h : R ρ n v x) (hvs : vs = cellsV v) (h1 : allOne vs = true) : RL ρ n vs x.cells.toList ∧ (∀ u ∈ x.cells.toList, u.oneCell' = true) := by
  subst hvs
  have := cellsV_R h h1
  exact ⟨this, RL_one this h1⟩
theorem allOne_toV : ∀ (ss : List Sc), allOne (ss.map Sc.toV) = true
  | [] => rfl
  | q :: ss => by simp only [List.map_cons, allOne, Bool.and_eq_true]; exact ⟨by cases q <;> rfl, allOne_toV ss⟩
theorem setR_eq {α : Type} (cs : List α) (k : Nat) (vs : List α) : setR cs k vs = cs.take k ++ vs ++ cs.drop (k + vs.length) := rfl
theorem setR_get {α : Type} (cs : List α) (k : Nat) (vs : List α) (h : k + vs.length ≤ cs.length) (j : Nat) :
    (setR cs k vs)[j]? = if k ≤ j ∧ j < k + vs.length then vs[j - k]? else cs[j]? := by
  unfold setR
  by_cases h1 : j < k
  · rw [List.getElem?_append_left (by simp; omega), List.getElem?_append_left (by simp; omega), List.getElem?_take, if_pos h1, if_neg (by omega)]
  · by_cases h2 : j < k + vs.length
    · rw [List.getElem?_append_left (by simp; omega), List.getElem?_append_right (by simp; omega), if_pos ⟨by omega, h2⟩]
      simp
      rw [Nat.min_eq_left (by omega)]
    · rw [List.getElem?_append_right (by simp; omega), if_neg (by omega), List.getElem?_drop]
      congr 1
      simp
      rw [Nat.min_eq_left (by omega)]
      omega
theorem RL_setR {n : Nat} {cs vs : List V} {xs ys : List Value} (h : RL ρ n cs xs) (hv : RL ρ n vs ys) (k : Nat) : RL ρ n (setR cs k vs) (setR xs k ys) := by
  unfold setR
  rw [hv.length]
  exact ((h.take k).append hv).append (h.drop _)
theorem flat_set (E : ET) : ∀ (l : List (den E)) (e : Nat) (y : den E), e < l.length → flat E (l.set e y) = setR (flat E l) (e * E.length) (enc E y)
  | [], e, y, h => by simp at h
  | x :: l, 0, y, _ => by
    simp only [List.set_cons_zero, flat, List.flatMap_cons, setR, Nat.zero_mul, List.take_zero, List.nil_append, Nat.zero_add]
    rw [enc_length, List.drop_left' (enc_length E x)]
  | x :: l, e + 1, y, h => by
    simp only [List.set_cons_succ, flat, List.flatMap_cons]
    have ih := flat_set E l e y (by simpa using h)
    simp only [flat] at ih
    rw [ih]
    unfold setR
    have e1 : (e + 1) * E.length = (enc E x).length + e * E.length := by rw [enc_length, Nat.add_mul]; omega
    rw [e1, List.take_length_add_append, Nat.add_assoc, List.drop_length_add_append]
    simp
theorem setR_length {α : Type} (cs : List α) (k : Nat) (vs : List α) (h : k + vs.length ≤ cs.length) : (setR cs k vs).length = cs.length := by
  simp [setR]
  omega
theorem setR_map {α β : Type} (f : α → β) (cs : List α) (k : Nat) (vs : List α) : (setR cs k vs).map f = setR (cs.map f) k (vs.map f) := by
  simp [setR]
theorem setR_in {E : ET} (l : List (den E)) (e f : Nat) (ss : List Sc) (he : e < l.length) (hf : f + ss.length ≤ E.length) :
    setR (flat E l) (e * E.length) (setR (enc E (l.getD e (dflt E))) f ss) = setR (flat E l) (e * E.length + f) ss := by
  have hle : e * E.length + E.length ≤ (flat E l).length := by
    rw [flat_length, ← Nat.succ_mul]
    exact Nat.mul_le_mul_right _ he
  have hen := enc_length E (l.getD e (dflt E))
  apply List.ext_getElem?
  intro j
  have e1 := setR_get (flat E l) (e * E.length) (setR (enc E (l.getD e (dflt E))) f ss) (by rw [setR_length _ _ _ (by omega)]; omega) j
  have e2 := setR_get (flat E l) (e * E.length + f) ss (by omega) j
  rw [setR_length _ _ _ (by omega), hen] at e1
  rw [e1, e2]
  by_cases h1 : e * E.length ≤ j ∧ j < e * E.length + E.length
  · rw [if_pos h1, setR_get _ _ _ (by omega)]
    by_cases h2 : f ≤ j - e * E.length ∧ j - e * E.length < f + ss.length
    · rw [if_pos h2, if_pos (by omega)]
      congr 1
      omega
    · rw [if_neg h2, if_neg (by omega)]
      rw [← flat_get E l e (j - e * E.length) (by omega) he]
      congr 1
      omega
  · rw [if_neg h1, if_neg (by omega)]
theorem setR_take {α : Type} (cs : List α) (k m : Nat) (vs : List α) (h : k + vs.length ≤ m) (hm : m ≤ cs.length) : (setR cs k vs).take m = setR (cs.take m) k vs := by
  apply List.ext_getElem?
  intro j
  have e1 := setR_get cs k vs (by omega) j
  have e2 := setR_get (cs.take m) k vs (by rw [List.length_take]; omega) j
  rw [List.getElem?_take, e1, e2]
  by_cases h1 : j < m
  · rw [if_pos h1]
    split
    · rfl
    · rw [List.getElem?_take, if_pos h1]
  · rw [if_neg h1, if_neg (by omega), List.getElem?_take, if_neg h1]
theorem stF_good {n : Nat} {v : V} {vs : List V} {x : Value} {ys : List Value} (hs : RelS N B ρ s a w) (hd : ∀ e, o.dst = some e → e < N) (hv : R ρ s.nx v x) (hy : RL ρ s.nx vs ys)
    (h : (stF s.hp n v vs).run s o.dst K) : ∃ (g k : Nat) (c : Array Value) (t : Nat), x = .pointer (some ⟨g, k, none⟩) ∧ w.heap[g]? = some (.cells c t (0, 0)) ∧ ys.length = n ∧ k + ys.length ≤ c.size ∧ (∀ u ∈ ys, u.oneCell' = true) ∧
      After N B ρ s w K (a.put o.dst undef) (w.setRow g (setR c.toList k ys).toArray) := by
  have hlen := hy.length
  cases v <;> simp only [stF] at h <;> try exact h.elim
  rename_i id e z f
  simp only [R] at hv
  obtain ⟨hid, hx⟩ := hv
  have hob := hs.rel.obj id hid
  generalize ho : s.hp id = ob at h hob
  have fin : ∀ (g : Nat) (cs : Array Value) (o' : Ob), wblk (ρ id) ob = some g → B ≤ g → HR ρ s.nx B (w.setRow g cs) (ρ id) o' → (∀ k, ablk (ρ id) o' = some k → k = g) →
      K (S.put ⟨s.sl, upd s.hp id o', s.nx⟩ o.dst .top) → After N B ρ s w K (a.put o.dst undef) (w.setRow g cs) := by
    intro g cs o' h1 h2 h3 h4 h5
    have hr := hs.rel.setRow hid (o' := o') (cs := cs) (by rw [ho]; exact h1) h3 h4
    exact ⟨ρ, _, h5, hs.put (Nat.le_refl _) (fun _ _ => rfl) hr (v := .top) (by simp [R]) hd, fun _ _ => rfl, by rw [S.put_nx]; exact Nat.le_refl _, below_setRow h2⟩
  cases ob with
  | no => exact h.elim
  | var t cs =>
    simp only [] at h
    split at h
    · rename_i hc
      simp only [Bool.and_eq_true, decide_eq_true_eq] at hc
      obtain ⟨⟨hn, hle⟩, h1⟩ := hc
      obtain ⟨hB, h2, c, h3, h4⟩ := hob
      have hcl := h4.length
      simp only [Array.length_toList] at hcl
      refine ⟨(ρ id).blk, e * z + f, c, t, by rw [hx, h2, Nat.zero_add], h3, by omega, by omega, RL_one hy h1, ?_⟩
      refine fin _ _ (.var t (setR cs (e * z + f) vs)) rfl hB ⟨hB, h2, _, setRow_heap _ _ _ _ _ _ h3, ?_⟩ (fun k hk => by simpa [ablk] using hk.symm) h.2
      simpa using RL_setR h4 hy _
    · exact h.elim
  | ro E l => exact h.elim
  | rv cs => exact h.elim
  | mp ka KE va VE m => exact h.elim
  | own t E l =>
    simp only [] at h
    split at h
    · rename_i ss hc hss
      simp only [decide_eq_true_eq] at hc
      obtain ⟨hn, rfl, hf⟩ := hc
      split at h
      · rename_i y hy'
        obtain ⟨he, hK⟩ := h
        have henc := enc_dec E _ _ hy'
        have hvs := scs_eq _ _ hss
        subst hvs
        have hys := RL_toV hy
        subst hys
        obtain ⟨h1, h2, h3, h4⟩ := hob
        rcases h2.2 with ⟨_, hl0⟩ | ⟨g, cap, cur, hsv, hb, hg, hnc, hcm, hcs, htake⟩
        · omega
        · have hgb : (ρ id).blk = g := h4 g (by rw [hsv]; rfl)
          have hss' : ss.length = n := by simpa using hn
          have hkl : e * E.length + f + ss.length ≤ l.length * E.length := by
            have : (e + 1) * E.length ≤ l.length * E.length := Nat.mul_le_mul_right _ he
            rw [Nat.add_mul] at this
            omega
          have hcl : l.length * E.length ≤ cur.size := by rw [hcs]; exact Nat.mul_le_mul_right _ hnc
          refine ⟨g, e * E.length + f, cur, t, by rw [hx, h3, hgb, Nat.zero_add], hg, by simpa using hss', by simp; omega, ?_, ?_⟩
          · intro u hu
            obtain ⟨q, _, rfl⟩ := List.mem_map.1 hu
            exact q.val_one
          · refine fin g _ (.own t E (l.set e y)) (by simp only [wblk]; rw [hsv]; rfl) hb ⟨by rw [h1, List.length_set], ⟨?_, .inr ⟨g, cap, _, ?_, hb, setRow_heap _ _ _ _ _ _ hg, ?_, hcm, ?_, ?_⟩⟩, h3, h4⟩ ?_ hK
            · simp [flat_length]
            · rw [List.length_set]; exact hsv
            · rw [List.length_set]; exact hnc
            · simp only [List.size_toArray]
              rw [setR_length _ _ _ (by simp; omega)]
              simpa using hcs
            · rw [List.length_set]
              simp only []
              rw [setR_take _ _ _ _ (by simpa using hkl) (by simpa using hcl), htake, flat_set E l e y he, henc, setR_in l e f ss he (by omega), setR_map]
            · intro k hk
              simp only [ablk] at hk
              rw [hsv] at hk
              simpa [Value.ownBlock] using hk.symm
      · exact h.elim
    · exact h.elim
theorem stF_one {n : Nat} {v : V} {vs : List V} {d : Option Nat} (h : (stF s.hp n v vs).run s d K) : allOne vs = true := by
  cases v <;> simp only [stF] at h <;> try exact h.elim
  rename_i id e z f
  generalize s.hp id = ob at h
  cases ob with
  | no => exact h.elim
  | var t cs =>
    simp only [] at h
    split at h
    · rename_i hc
      simp only [Bool.and_eq_true, decide_eq_true_eq] at hc
      exact hc.2
    · exact h.elim
  | ro E l => exact h.elim
  | rv cs => exact h.elim
  | mp ka KE va VE m => exact h.elim
  | own t E l =>
    simp only [] at h
    split at h
    · rename_i ss hc hss
      rw [scs_eq _ _ hss]
      exact allOne_toV ss
    · exact h.elim
theorem good_st {n : Nat} {x y : AO} (hs : RelS N B ρ s a w) (hd : ∀ e, o.dst = some e → e < N) (hc : chkOp P o.op (.st n x y) = true) (h : (opF s (.st n x y)).run s o.dst K) : Good P N B ρ s a w K o := by
  simp only [chkOp] at hc
  split at hc
  · rename_i t a' x' ho
    simp only [Bool.and_eq_true, decide_eq_true_eq] at hc
    obtain ⟨⟨hx, hy⟩, hsz⟩ := hc
    simp only [opF] at h
    obtain ⟨hcl, hone⟩ := cells_of (opd_R hs hy) rfl (stF_one h)
    obtain ⟨g, k, c, t', he, hg, hn, hle, h1, haf⟩ := stF_good hs hd (opd_R hs hx) hcl h
    unfold szOf at hsz
    simp only [Option.map_eq_some_iff] at hsz
    obtain ⟨i, hi, hin⟩ := hsz
    have hst := run_storeCells_at P g k t' (a.eval x').cells.toList 0 c w hg (by omega) h1
    refine ⟨undef, _, .inr ⟨?_, rfl⟩, haf⟩
    have hsize : (a.eval x').cells.size = i.size := by rw [hin, ← hn]; simp
    simp only [Nat.add_zero] at hst
    simp [execOp, ho, Instr.storeAt, Instr.sureAddr, he, storeVar, sizeOf, typeInfo, hi, hsize, hst, setR]
  · cases hc
theorem part_run {t : TypeId} {n off : Nat} {agg : Bool} {cs : List V} {xs : Array Value} {l : List V} (hR : RL ρ s.nx cs xs.toList) (hsz : szOf P t = some n) (hag : aggOf P t = some agg) (hn : agg = true ∨ n = 1)
    (hl : takeN n (cs.drop off) = some l) : ∃ x, (part t xs off).run P w = .ok x w ∧ R ρ s.nx (mkV agg l) x := by
  obtain ⟨rfl, hle⟩ := takeN_eq _ _ _ hl
  unfold szOf at hsz
  simp only [Option.map_eq_some_iff] at hsz
  obtain ⟨i, hi, hin⟩ := hsz
  have hlen := hR.length
  simp only [Array.length_toList] at hlen
  simp only [List.length_drop] at hle
  cases agg with
  | true =>
    have hagg : (isAgg t).run P w = .ok true w := by
      unfold aggOf at hag
      split at hag
      · rename_i fs hu; simp [isAgg, run_underlying hu]
      · rename_i m e hu; simp [isAgg, run_underlying hu]
      · simp at hag
      · simp at hag
    refine ⟨.agg (xs.extract off (off + n)), by simp [part, hagg, sizeOf, typeInfo, hi, hin], ?_⟩
    simp only [mkV, R]
    refine ⟨_, rfl, ?_⟩
    have := (hR.drop off).take n
    simpa [Array.toList_extract, List.extract_eq_take_drop] using this
  | false =>
    have hn1 : n = 1 := by simpa using hn
    subst hn1
    have hagg : (isAgg t).run P w = .ok false w := by
      unfold aggOf at hag
      split at hag
      · simp at hag
      · simp at hag
      · rename_i d h1 h2 hu
        cases d <;> first | (simp [isAgg, run_underlying hu]; done) | exact (h1 _ rfl).elim | exact (h2 _ _ rfl).elim
      · simp at hag
    have ho : off < cs.length := by omega
    obtain ⟨x, hx, hxR⟩ := hR.get off (cs[off]) (List.getElem?_eq_getElem ho)
    refine ⟨x, ?_, ?_⟩
    · have : xs[off]? = some x := by simpa using hx
      simp [part, hagg, this]
    · rw [List.drop_eq_getElem_cons ho]
      exact hxR
theorem good_fld {x : AO} {off n : Nat} {agg : Bool} (hs : RelS N B ρ s a w) (hd : ∀ e, o.dst = some e → e < N) (hc : chkOp P o.op (.fld x off n agg) = true) (h : (opF s (.fld x off n agg)).run s o.dst K) : Good P N B ρ s a w K o := by
  simp only [chkOp] at hc
  split at hc
  · rename_i st x' f ho
    simp only [Bool.and_eq_true] at hc
    have h1 := opd_R hs hc.1
    simp only [opF] at h
    split at h
    · rename_i cs hv
      rw [hv] at h1
      simp only [R] at h1
      obtain ⟨xs, he, hR⟩ := h1
      have hf := hc.2
      split at hf
      · rename_i fs hu
        split at hf
        · rename_i fl hfl
          simp only [Bool.and_eq_true, decide_eq_true_eq, Bool.or_eq_true] at hf
          obtain ⟨⟨⟨hoff, hsz⟩, hag⟩, hn⟩ := hf
          split at h
          · rename_i l hl
            obtain ⟨u, hrun, hu'⟩ := part_run (P := P) (w := w) (s := s) hR hsz hag hn hl
            refine good_ok hs hd h hu' ?_
            simp [execOp, ho, he, Instr.field, run_underlying hu, hfl, asAgg, hoff, hrun]
          · exact h.elim
        · cases hf
      · cases hf
    · exact h.elim
  · cases hc
theorem lenF_slice {v : V} {x : Value} {n : Nat} (hr : Rel B ρ s.nx s.hp w) (hv : R ρ s.nx v x) (hl : lenF s.hp v = some n) : ∃ ad cap, x = .slice ad n cap ∧ n ≤ cap := by
  unfold lenF at hl
  split at hl
  · cases hl
    simp only [R] at hv
    exact ⟨none, 0, hv, Nat.le_refl _⟩
  · cases hl
    simp only [R] at hv
    obtain ⟨_, ad, cap, h1, h2, _⟩ := hv
    exact ⟨ad, cap, h1, h2⟩
  · rename_i id
    simp only [R] at hv
    have hob := hr.obj id hv.1
    split at hl
    · rename_i E l ho
      cases hl
      rw [ho] at hob
      obtain ⟨_, h1, h2, _⟩ := hob
      exact ⟨_, _, by rw [hv.2, Bnd.sv, h1], h2⟩
    · rename_i t E l ho
      cases hl
      rw [ho] at hob
      obtain ⟨h1, h2, _⟩ := hob
      refine ⟨_, _, by rw [hv.2, Bnd.sv, h1], ?_⟩
      rcases h2.2 with ⟨hn, h0⟩ | ⟨g, cap, cur, hsv, _, _, hnc, _⟩
      · omega
      · unfold Bnd.sv at hsv
        injection hsv with e1 e2 e3
        omega
    · cases hl
  · cases hl
theorem good_len {x : AO} (hs : RelS N B ρ s a w) (hd : ∀ e, o.dst = some e → e < N) (hc : chkOp P o.op (.len x) = true) (h : (opF s (.len x)).run s o.dst K) : Good P N B ρ s a w K o := by
  simp only [chkOp] at hc
  split at hc
  · rename_i c ho
    obtain ⟨callee, args, argTypes⟩ := c
    simp only [] at hc
    split at hc
    · rename_i x' t h2 h3
      simp only [Bool.and_eq_true] at hc
      obtain ⟨hx, ht⟩ := hc
      simp only [opF] at h
      split at h
      · rename_i n hn
        obtain ⟨ad, cap, he, _⟩ := lenF_slice hs.rel (opd_R hs hx) hn
        unfold sliceElem at ht
        split at ht
        · rename_i e hu
          obtain rfl : args = #[x'] := by cases args; simp at h2; subst h2; rfl
          obtain rfl : argTypes = #[t] := by cases argTypes; simp at h3; subst h3; rfl
          refine good_ok hs hd h (x := goInt n) (by simp [R, goInt]) ?_
          simp [execOp, ho, resolve, invoke, builtin, Builtin.len_, run_underlying hu, he]
        · cases ht
      · exact h.elim
    · cases hc
  · cases hc
theorem good_mx {mn : Bool} {x y : AO} (hs : RelS N B ρ s a w) (hd : ∀ e, o.dst = some e → e < N) (hc : chkOp P o.op (.mx mn x y) = true) (h : (opF s (.mx mn x y)).run s o.dst K) : Good P N B ρ s a w K o := by
  simp only [chkOp] at hc
  split at hc
  · rename_i c ho
    obtain ⟨callee, args, argTypes⟩ := c
    simp only [] at hc
    have key : ∀ (x' y' : Operand), args.toList = [x', y'] → opd x' x = true → opd y' y = true → (callee = .builtin .max ∧ mn = false ∨ callee = .builtin .min ∧ mn = true) → Good P N B ρ s a w K o := by
      intro x' y' h2 hx hy hm
      obtain rfl : args = #[x', y'] := by cases args; simp at h2; subst h2; rfl
      have h1 := opd_R hs hx
      have h2 := opd_R hs hy
      simp only [opF] at h
      split at h
      · rename_i k p k' q hp hq
        rw [hp] at h1
        rw [hq] at h2
        simp only [R] at h1 h2
        split at h
        · rename_i hk
          simp only [decide_eq_true_eq] at hk
          subst hk
          rcases hm with ⟨rfl, rfl⟩ | ⟨rfl, rfl⟩
          · refine good_ok hs hd h (tv_R rfl) ?_
            simp [tv, execOp, ho, resolve, invoke, builtin, Builtin.max_, Builtin.max2, h1, h2]
          · refine good_ok hs hd h (tv_R rfl) ?_
            simp [tv, execOp, ho, resolve, invoke, builtin, Builtin.min_, Builtin.min2, h1, h2]
        · exact h.elim
      · exact h.elim
    split at hc
    · rename_i x' y' h2
      simp only [Bool.and_eq_true, Bool.not_eq_true'] at hc
      exact key x' y' h2 hc.1.1 hc.1.2 (.inl ⟨rfl, hc.2⟩)
    · rename_i x' y' h2
      simp only [Bool.and_eq_true] at hc
      exact key x' y' h2 hc.1.1 hc.1.2 (.inr ⟨rfl, hc.2⟩)
    · cases hc
  · cases hc
theorem good_ia {x i : AO} {z : Nat} (hs : RelS N B ρ s a w) (hd : ∀ e, o.dst = some e → e < N) (hc : chkOp P o.op (.ia x i z) = true) (h : (opF s (.ia x i z)).run s o.dst K) : Good P N B ρ s a w K o := by
  simp only [chkOp] at hc
  split at hc
  · rename_i t x' i' ho
    simp only [Bool.and_eq_true] at hc
    obtain ⟨⟨hx, hi⟩, ht⟩ := hc
    have h1 := opd_R hs hx
    have h2 := opd_R hs hi
    split at ht
    · rename_i e hu
      simp only [decide_eq_true_eq] at ht
      unfold szOf at ht
      simp only [Option.map_eq_some_iff] at ht
      obtain ⟨ie, hie, hiz⟩ := ht
      have fin : ∀ (n : Nat) (k : IntKind) (j : Int) (g off cap : Nat) (v : V), a.eval i' = .int k j → a.eval x' = .slice (some ⟨g, off, none⟩) n cap → 0 ≤ j → j < (n : Int) →
          R ρ s.nx v (.pointer (some ⟨g, off + j.toNat * z, none⟩)) → K (s.put o.dst v) → Good P N B ρ s a w K o := by
        intro n k j g off cap v e1 e2 h0 hj hR hK
        refine good_val hs hd hR ?_ (by rw [force_iff]; exact hK)
        simp [execOp, ho, e1, e2, Instr.indexAt, asIntOf, run_underlying hu, h0, hj, sizeOf, typeInfo, hie, hiz, add_lit]
      simp only [opF] at h
      split at h
      · rename_i id n k j hv hn hj
        rw [hj] at h2
        simp only [R] at h2
        simp only [OR.run, force_iff] at h
        obtain ⟨⟨h0, hlt⟩, hK⟩ := h
        rw [hv] at h1 hn
        have h1' := h1
        simp only [R] at h1'
        have hob := hs.rel.obj id h1'.1
        simp only [lenF] at hn
        cases ho' : s.hp id with
        | no => simp [ho'] at hn
        | var _ _ => simp [ho'] at hn
        | rv _ => simp [ho'] at hn
        | mp _ _ _ _ _ => simp [ho'] at hn
        | ro E l =>
          rw [ho'] at hob
          simp only [ho', Option.some.injEq] at hn
          obtain ⟨_, hl1, hl2, hl3, _⟩ := hob
          have ha := hl3 (by omega)
          refine fin n k j _ _ (ρ id).cap _ h2 (by rw [h1'.2, Bnd.sv, ha, hl1, hn]) h0 hlt ?_ hK
          simp only [R]
          exact ⟨h1'.1, by simp⟩
        | own t' E l =>
          rw [ho'] at hob
          simp only [ho', Option.some.injEq] at hn
          obtain ⟨hl1, hl2, hl3, hl4⟩ := hob
          rcases hl2.2 with ⟨_, h00⟩ | ⟨g, cap, cur, hsv, _⟩
          · omega
          · have hgb : (ρ id).blk = g := hl4 g (by rw [hsv]; rfl)
            refine fin n k j g 0 cap _ h2 (by rw [h1'.2, hsv, hn]) h0 hlt ?_ hK
            simp only [R]
            exact ⟨h1'.1, by rw [hgb, hl3]; simp⟩
      · rename_i id lo len z' n k j hv hn hj
        split at h
        · rename_i hz
          simp only [decide_eq_true_eq] at hz
          subst hz
          rw [hj] at h2
          simp only [R] at h2
          simp only [OR.run, force_iff] at h
          obtain ⟨⟨h0, hlt⟩, hK⟩ := h
          rw [hv] at h1 hn
          have h1' := h1
          simp only [R] at h1'
          simp only [lenF, Option.some.injEq] at hn
          obtain ⟨hid, ad, cap, he, hlc, had⟩ := h1'
          refine fin n k j _ _ cap _ h2 (by rw [he, had (by omega), hn]) h0 hlt ?_ hK
          simp only [R]
          exact ⟨hid, by rw [Nat.add_mul, Nat.add_assoc, Nat.add_zero]⟩
        · exact h.elim
      · exact h.elim
    · cases ht
  · cases hc
theorem good_iaa {x i : AO} {len z : Nat} (hs : RelS N B ρ s a w) (hd : ∀ e, o.dst = some e → e < N) (hc : chkOp P o.op (.iaa x i len z) = true) (h : (opF s (.iaa x i len z)).run s o.dst K) : Good P N B ρ s a w K o := by
  simp only [chkOp] at hc
  split at hc
  · rename_i t x' i' ho
    simp only [Bool.and_eq_true] at hc
    obtain ⟨⟨hx, hi⟩, ht⟩ := hc
    have h1 := opd_R hs hx
    have h2 := opd_R hs hi
    split at ht
    · rename_i n e hu
      simp only [Bool.and_eq_true, decide_eq_true_eq] at ht
      obtain ⟨rfl, ht⟩ := ht
      unfold szOf at ht
      simp only [Option.map_eq_some_iff] at ht
      obtain ⟨ie, hie, hiz⟩ := ht
      simp only [opF] at h
      split at h
      · rename_i id e' z' f k j hv hj
        rw [hv] at h1
        rw [hj] at h2
        simp only [R] at h1 h2
        simp only [OR.run, force_iff] at h
        obtain ⟨⟨h0, hlt⟩, hK⟩ := h
        refine good_val hs hd (v := .ptr id e' z' (f + j.toNat * z)) (x := .pointer (some ⟨(ρ id).blk, (ρ id).off + (e' * z' + (f + j.toNat * z)), none⟩)) (by simp only [R]; exact ⟨h1.1, trivial⟩) ?_ (by rw [force_iff]; exact hK)
        simp [execOp, ho, h1.2, h2, Instr.indexAt, Instr.sureAddr, asIntOf, run_underlying hu, h0, hlt, sizeOf, typeInfo, hie, hiz, add_lit, Nat.add_assoc]
      · exact h.elim
    · cases ht
  · cases hc
theorem good_ixs {l : List Nat} {i : AO} (hs : RelS N B ρ s a w) (hd : ∀ e, o.dst = some e → e < N) (hc : chkOp P o.op (.ixs l i) = true) (h : (opF s (.ixs l i)).run s o.dst K) : Good P N B ρ s a w K o := by
  simp only [chkOp] at hc
  split at hc
  · rename_i t b i' ho
    simp only [Bool.and_eq_true] at hc
    obtain ⟨hi, ht⟩ := hc
    have h2 := opd_R hs hi
    split at ht
    · rename_i hu
      simp only [decide_eq_true_eq] at ht
      simp only [opF] at h
      split at h
      · rename_i k j hj
        rw [hj] at h2
        simp only [R] at h2
        simp only [OR.run, force_iff] at h
        obtain ⟨⟨h0, hlt⟩, hK⟩ := h
        have hl : l.length = b.size := by rw [← ht]; simp
        have hb : j.toNat < b.size := by omega
        have hg : l.getD j.toNat 0 = b[j.toNat].toNat := by
          rw [← ht]
          rw [List.getD_eq_getElem?_getD, List.getElem?_map]
          have : b.data.toList[j.toNat]? = some b[j.toNat] := by
            rw [List.getElem?_eq_getElem (by simpa using hb)]
            rfl
          rw [this]
          rfl
        refine good_val hs hd (v := .int .u8 ((l.getD j.toNat 0 : Nat) : Int)) (x := .int .u8 b[j.toNat].toNat) (by simp only [R]; rw [hg]) ?_ (by rw [force_iff]; exact hK)
        have hb' : b[j.toNat]? = some b[j.toNat] := by simp [hb]
        have hcv : a.eval (.const (.string b)) = .string b := rfl
        simp [execOp, ho, hcv, h2, Instr.index, asIntOf, run_underlying hu, h0, hb']
      · exact h.elim
    · cases ht
  · cases hc
theorem good_ixa {x i : AO} {len z : Nat} {agg : Bool} (hs : RelS N B ρ s a w) (hd : ∀ e, o.dst = some e → e < N) (hc : chkOp P o.op (.ixa x i len z agg) = true) (h : (opF s (.ixa x i len z agg)).run s o.dst K) : Good P N B ρ s a w K o := by
  simp only [chkOp] at hc
  split at hc
  · rename_i t x' i' ho
    simp only [Bool.and_eq_true] at hc
    obtain ⟨⟨hx, hi⟩, ht⟩ := hc
    have h1 := opd_R hs hx
    have h2 := opd_R hs hi
    split at ht
    · rename_i n e hu
      simp only [Bool.and_eq_true, decide_eq_true_eq, Bool.or_eq_true] at ht
      obtain ⟨⟨⟨rfl, hz⟩, hag⟩, hn⟩ := ht
      simp only [opF] at h
      split at h
      · rename_i cs k j hv hj
        rw [hv] at h1
        rw [hj] at h2
        simp only [R] at h1 h2
        obtain ⟨xs, he, hR⟩ := h1
        split at h
        · rename_i j
          split at h
          · rename_i l hl
            simp only [OR.run, force_iff] at h
            obtain ⟨hlt, hK⟩ := h
            obtain ⟨u, hrun, hu'⟩ := part_run (P := P) (w := w) (s := s) hR hz hag hn hl
            refine good_val hs hd hu' ?_ (by rw [force_iff]; exact hK)
            unfold szOf at hz
            simp only [Option.map_eq_some_iff] at hz
            obtain ⟨ie, hie, hiz⟩ := hz
            have hj0 : (0 : Int) ≤ Int.ofNat j := Int.natCast_nonneg j
            have hj1 : (Int.ofNat j) < (n : Int) := by show ((j : Nat) : Int) < _; omega
            have hj2 : (Int.ofNat j).toNat = j := rfl
            simp only [Int.ofNat_eq_natCast] at h2 hj0 hj1 hj2
            simp [execOp, ho, he, h2, Instr.index, asIntOf, run_underlying hu, hlt, sizeOf, typeInfo, hie, hiz, hrun]
          · exact h.elim
        · exact h.elim
      · exact h.elim
    · cases ht
  · cases hc
end
end Go.Proofs.YtbolfnkgbjkbjaaGreat.AM
