/- The abstract machine, part 6: composite literals, new slices, slicing, append, struct equality; all operations together. -/
import Derived.Test.YtbolfnkgbjkbjaaGreatAm5
import Derived.Laws.MakeOwn
import Derived.Laws.StructEq
import Derived.Maps.AppendAt
import Derived.Laws.Slices
set_option linter.unusedVariables false
set_option linter.unusedSimpArgs false
namespace Go.Proofs.YtbolfnkgbjkbjaaGreat.AM
open Go Go.RowKit
section
variable {P : Program} {N B : Nat} {ρ : Nat → Bnd} {s : S} {a : Act} {w : World} {K : S → Prop} {o : Oper}
theorem fold_set (off : Nat) : ∀ (vs : List Value) (k : Nat) (cs : Array Value), off + k + vs.length ≤ cs.size →
    ((vs.zipIdx k).foldl (fun (cs : Array Value) (p : Value × Nat) => cs.setIfInBounds (off + p.2) p.1) cs).toList = setR cs.toList (off + k) vs
  | [], k, cs, h => by simp [setR]
  | v :: vs, k, cs, h => by
    simp only [List.zipIdx_cons, List.foldl_cons]
    rw [fold_set off vs (k + 1) _ (by simp at h ⊢; omega)]
    apply List.ext_getElem?
    intro j
    have e1 := setR_get (cs.setIfInBounds (off + k) v).toList (off + (k + 1)) vs (by simp at h ⊢; omega) j
    have e2 := setR_get cs.toList (off + k) (v :: vs) (by simp at h ⊢; omega) j
    rw [e1, e2]
    simp only [List.length_cons]
    by_cases h1 : off + (k + 1) ≤ j ∧ j < off + (k + 1) + vs.length
    · rw [if_pos h1, if_pos (by omega)]
      obtain ⟨m, hm⟩ : ∃ m, j - (off + k) = m + 1 := ⟨j - (off + k) - 1, by omega⟩
      rw [hm, List.getElem?_cons_succ]
      congr 1
      omega
    · rw [if_neg h1]
      by_cases h2 : j = off + k
      · subst h2
        rw [if_pos (by omega)]
        have : off + k < cs.size := by simp at h; omega
        simp [this]
      · rw [if_neg (by omega)]
        simp only [Array.toList_setIfInBounds]
        rw [List.getElem?_set_ne (Ne.symm h2)]
theorem fill_ok {place : Nat → Option (Nat × Nat)} {t : TypeId} (hp : ∀ i x, placeOf P t i = some x → place i = some x) (hs : RelS N B ρ s a w) : ∀ (parts : List (Nat × Operand)) (ps : List (Nat × Nat × AO)) (z cs : List V) (cells : Array Value),
    partsOk P t parts ps = true → fillV s z ps = some cs → RL ρ s.nx z cells.toList →
    ∃ cells', Instr.fill place cells (parts.map fun p => (p.1, a.eval p.2)) = some cells' ∧ RL ρ s.nx cs cells'.toList ∧ cs.length = z.length
  | [], [], z, cs, cells, _, h, hR => by
    simp only [fillV, Option.some.injEq] at h
    subst h
    exact ⟨cells, rfl, hR, rfl⟩
  | (i, x) :: parts, (off, size, y) :: ps, z, cs, cells, hc, h, hR => by
    simp only [partsOk, Bool.and_eq_true, decide_eq_true_eq] at hc
    obtain ⟨⟨hpl, hx⟩, hc'⟩ := hc
    simp only [fillV] at h
    split at h
    · rename_i hcond
      simp only [Bool.and_eq_true, decide_eq_true_eq] at hcond
      obtain ⟨⟨hl, hle⟩, h1⟩ := hcond
      obtain ⟨hcl, _⟩ := cells_of (opd_R hs hx) rfl h1
      have hcz := hcl.length
      have hzl := hR.length
      simp only [Array.length_toList] at hcz hzl
      have hset : (((a.eval x).cells.zipIdx.foldl (fun (cs : Array Value) (p : Value × Nat) => cs.setIfInBounds (off + p.2) p.1) cells)).toList = setR cells.toList off (a.eval x).cells.toList := by
        rw [← Array.foldl_toList, Array.toList_zipIdx, fold_set off _ 0 cells (by simp; omega)]
        rfl
      obtain ⟨cells', h2, h3, h4⟩ := fill_ok hp hs parts ps _ cs _ hc' h (by rw [hset]; exact RL_setR hR hcl off)
      refine ⟨cells', ?_, h3, by rw [h4, setR_length _ _ _ (by omega)]⟩
      simp only [List.map_cons, Instr.fill, hp i _ hpl]
      rw [if_neg]
      · exact h2
      · simp
        omega
    · cases h
  | [], _ :: _, _, _, _, hc, _, _ => by simp [partsOk] at hc
  | _ :: _, [], _, _, _, hc, _, _ => by simp [partsOk] at hc
theorem mapM_places : ∀ (fs : List Field), (fs.all fun f => (P.info? f.type).isSome) = true →
    ∃ places, fs.mapM (fun f => (P.info? f.type).map fun i => (f.offset, i.size)) = some places ∧ ∀ (i : Nat), places[i]? = (fs[i]?).bind fun (f : Field) => (P.info? f.type).map fun j => (f.offset, j.size)
  | [], _ => ⟨[], by simp, by simp⟩
  | f :: fs, h => by
    simp only [List.all_cons, Bool.and_eq_true] at h
    obtain ⟨j, hj⟩ := Option.isSome_iff_exists.1 h.1
    obtain ⟨ps, h1, h2⟩ := mapM_places fs h.2
    refine ⟨(f.offset, j.size) :: ps, by simp [List.mapM_cons, hj, h1], fun i => ?_⟩
    cases i with
    | zero => simp [hj]
    | succ i => simpa using h2 i
theorem good_bld {z : List V} {ps : List (Nat × Nat × AO)} (hs : RelS N B ρ s a w) (hd : ∀ e, o.dst = some e → e < N) (hc : chkOp P o.op (.bld z ps) = true) (h : (opF s (.bld z ps)).run s o.dst K) : Good P N B ρ s a w K o := by
  simp only [chkOp] at hc
  split at hc
  · rename_i t parts ho
    simp only [Bool.and_eq_true] at hc
    obtain ⟨⟨⟨hz, hk⟩, hpt⟩, hty⟩ := hc
    simp only [opF] at h
    split at h
    · rename_i cs hcs
      unfold zeroOk at hz
      split at hz
      · rename_i it hit
        split at hz
        · rename_i zv hzv
          have hmap : ((parts.map fun (p : Nat × Operand) => (p.1, a.eval p.2)).toList) = parts.toList.map fun p => (p.1, a.eval p.2) := by simp
          have key : ∃ cells', P.built t (parts.map fun (p : Nat × Operand) => (p.1, a.eval p.2)).toList = some cells' ∧ RL ρ s.nx cs cells'.toList := by
            split at hty
            · rename_i fs hu
              unfold fieldsKnown at hk
              rw [hu] at hk
              obtain ⟨places, hpl, hget⟩ := mapM_places (P := P) fs.toList hk
              obtain ⟨cells', h1, h2, _⟩ := fill_ok (place := (places.toArray[·]?)) (t := t) (fun i x hx => by
                unfold placeOf at hx
                rw [hu] at hx
                simp only [List.getElem?_toArray, hget, Array.getElem?_toList]
                simp only [] at hx
                split at hx
                · rename_i f hf
                  split at hx
                  · rename_i j hj
                    rw [hf]
                    simpa [hj] using hx
                  · cases hx
                · cases hx) hs parts.toList ps z cs zv.cells hpt hcs (cstL_RL hz)
              refine ⟨cells', ?_, h2⟩
              rw [hmap]
              simp only [Program.built, hit, hu, hzv, hpl]
              exact h1
            · rename_i n e hu
              unfold fieldsKnown at hk
              rw [hu] at hk
              obtain ⟨ie, hie⟩ := Option.isSome_iff_exists.1 hk
              obtain ⟨cells', h1, h2, _⟩ := fill_ok (place := fun i => some (i * ie.size, ie.size)) (t := t) (fun i x hx => by
                  unfold placeOf at hx
                  rw [hu] at hx
                  simp only [hie] at hx
                  exact hx) hs parts.toList ps z cs zv.cells hpt hcs (cstL_RL hz)
              refine ⟨cells', ?_, h2⟩
              rw [hmap]
              simp only [Program.built, hit, hu, hzv, hie]
              exact h1
            · cases hty
          obtain ⟨cells', h1, h2⟩ := key
          refine good_ok hs hd h (x := .agg cells') (by simp only [R]; exact ⟨_, rfl, h2⟩) ?_
          simp [execOp, ho, run_build w t _ cells' h1]
        · cases hz
      · cases hz
    · exact h.elim
  · cases hc
theorem fin_own (hs : RelS N B ρ s a w) {t : Nat} {E : ET} {l : List (den E)} {c : Array Value} (hc : c.toList = (flat E l).map Sc.val) (hm : l.length ≤ maxLen) {d : Option Nat} (hd : ∀ e, d = some e → e < N)
    (h : K (S.put ⟨s.sl, upd s.hp s.nx (.own t E l), s.nx + 1⟩ d (.osl s.nx))) : After N B ρ s w K (a.put d (.slice (some ⟨w.heap.size, 0, none⟩) l.length l.length)) (w.alloc (.cells c t)) := by
  let b : Bnd := { blk := w.heap.size, off := 0, a := some ⟨w.heap.size, 0, none⟩, len := l.length, cap := l.length }
  have hsz : c.size = l.length * E.length := by rw [← Array.length_toList, hc, List.length_map, flat_length]
  have hr : Rel B (upd ρ s.nx b) (s.nx + 1) (upd s.hp s.nx (.own t E l)) (w.alloc (.cells c t)) := by
    refine hs.rel.new (b := b) ⟨rfl, ⟨by rw [List.length_map, flat_length], .inr ⟨w.heap.size, l.length, c, rfl, hs.rel.base, heap_alloc_new w _, Nat.le_refl _, hm, hsz, ?_⟩⟩, rfl, ?_⟩ (by simp) (fun k hk => Below.heap_alloc _ _ _ hk) ?_
    · rw [hc, List.take_of_length_le (by rw [List.length_map, flat_length]; exact Nat.le_refl _)]
    · intro g hg
      simpa [b, Bnd.sv, Value.ownBlock] using hg
    · intro g hg
      simp only [ablk, b, Bnd.sv, Value.ownBlock, Option.some.injEq] at hg
      omega
  refine ⟨upd ρ s.nx b, _, h, hs.put (Nat.le_succ _) (agree_upd _ _ _) hr ?_ hd, agree_upd _ _ _, by rw [S.put_nx]; exact Nat.le_succ _, (Below.refl _ _).alloc hs.rel.base _⟩
  simp only [R, upd_same]
  exact ⟨by omega, by simp [b, Bnd.sv]⟩
theorem good_mvn {t : Nat} {E : ET} (hs : RelS N B ρ s a w) (hd : ∀ e, o.dst = some e → e < N) (hc : chkOp P o.op (.mvn t E) = true) (h : (opF s (.mvn t E)).run s o.dst K) : Good P N B ρ s a w K o := by
  have fin : (execOp a.eval o).run P w = .ok (.value (.slice none 0 0)) w → Good P N B ρ s a w K o := by
    intro hrun
    refine ⟨_, _, .inl hrun, ?_⟩
    let b : Bnd := { blk := 0, off := 0, a := none, len := 0, cap := 0 }
    have hr : Rel B (upd ρ s.nx b) (s.nx + 1) (upd s.hp s.nx (.own t E [])) w := by
      refine hs.rel.new (b := b) ⟨rfl, ?_, rfl, ?_⟩ (Nat.le_refl _) (fun _ _ => rfl) ?_
      · show w.ownsRow B t E.length (.slice none 0 0) 0 ((flat E []).map Sc.val)
        simpa [flat] using World.ownsRow_nil w B t E.length
      · intro g hg
        simp [b, Bnd.sv, Value.ownBlock] at hg
      · intro g hg
        simp [ablk, b, Bnd.sv, Value.ownBlock] at hg
    refine ⟨upd ρ s.nx b, _, h.2, hs.put (Nat.le_succ _) (agree_upd _ _ _) hr ?_ hd, agree_upd _ _ _, by rw [S.put_nx]; exact Nat.le_succ _, Below.refl _ _⟩
    show R _ _ (.osl s.nx) _
    simp only [R, upd_same]
    exact ⟨by omega, rfl⟩
  simp only [chkOp] at hc
  split at hc
  · rename_i n c ho
    simp only [decide_eq_true_eq] at hc
    obtain ⟨rfl, rfl⟩ := hc
    exact fin (by simp [execOp, ho, Act.eval])
  · rename_i n c ho
    simp only [decide_eq_true_eq] at hc
    obtain ⟨rfl, rfl⟩ := hc
    exact fin (by simp [execOp, ho, Act.eval])
  · cases hc
theorem chunks_eq (E : ET) : ∀ (n : Nat) (vs : List V) (l : List (den E)), chunks E n vs = some l → vs = (flat E l).map Sc.toV ∧ l.length = n
  | 0, [], l, h => by simp [chunks] at h; subst h; simp [flat]
  | 0, _ :: _, l, h => by simp [chunks] at h
  | n + 1, vs, l, h => by
    simp only [chunks] at h
    split at h
    · rename_i c hc
      split at h
      · rename_i ss hss
        split at h
        · rename_i x r hx hr
          cases h
          obtain ⟨h1, h2⟩ := chunks_eq E n _ r hr
          obtain ⟨h3, h4⟩ := takeN_eq _ _ _ hc
          have h5 := scs_eq _ _ hss
          have h6 := enc_dec E _ _ hx
          refine ⟨?_, by simp [h2]⟩
          rw [← List.take_append_drop E.length vs, h1, ← h3, h5, ← h6]
          simp [flat]
        · cases h
      · cases h
    · cases h
theorem toV_val {n : Nat} {ss : List Sc} {c : Array Value} (h : RL ρ n (ss.map Sc.toV) c.toList) : c.toList = ss.map Sc.val := RL_toV h
theorem sliceElem_eq {t e : TypeId} (h : sliceElem P t = some e) : P.underlying t = some (.slice e) := by
  unfold sliceElem at h
  split at h
  · rename_i e' hu
    cases h
    exact hu
  · cases h
theorem good_bsl {t : Nat} {E : ET} {len : Nat} {z : List V} {ps : List (Nat × Nat × AO)} (hs : RelS N B ρ s a w) (hd : ∀ e, o.dst = some e → e < N) (hc : chkOp P o.op (.bsl t E len z ps) = true) (h : (opF s (.bsl t E len z ps)).run s o.dst K) : Good P N B ρ s a w K o := by
  simp only [chkOp] at hc
  split at hc
  · rename_i t' len' parts ho
    simp only [Bool.and_eq_true, decide_eq_true_eq] at hc
    obtain ⟨⟨⟨⟨⟨ht, hE⟩, rfl⟩, hbig⟩, hpt⟩, hz⟩ := hc
    unfold elemOk at hE
    simp only [Bool.and_eq_true, decide_eq_true_eq] at hE
    obtain ⟨hsz, hpos⟩ := hE
    have hu := sliceElem_eq ht
    simp only [opF] at h
    split at h
    · rename_i cs hcs
      split at h
      · rename_i l hl
        obtain ⟨h1, h2⟩ := chunks_eq E _ _ _ hl
        split at hz
        · rename_i it hit
          have hits : it.size = E.length := by unfold szOf at hsz; simpa [hit] using hsz
          split at hz
          · rename_i zv hzv
            obtain ⟨cells', h3, h4, _⟩ := fill_ok (place := fun i => some (i * it.size, it.size)) (t := t') (fun i x hx => by
                unfold placeOf at hx
                rw [hu] at hx
                simp only [hit] at hx
                exact hx) hs parts.toList ps z cs ((Array.range (len' * E.length)).map (zv.cells[· % zv.cells.size]!)) hpt hcs (cstL_RL hz)
            rw [h1] at h4
            have h5 := toV_val h4
            have hlm : l.length ≤ maxLen := by
              have : l.length * 1 ≤ len' * E.length := by rw [h2]; exact Nat.mul_le_mul_left _ hpos
              simp only [maxLen]
              omega
            refine ⟨_, _, .inl ?_, fin_own hs (t := t) h5 hlm hd h.2⟩
            have hn1 : ¬ (2 ^ 24 < len' * it.size) := by rw [hits]; omega
            have hmap : ((parts.map fun (p : Nat × Operand) => (p.1, a.eval p.2)).toList) = parts.toList.map fun p => (p.1, a.eval p.2) := by simp
            by_cases h0 : len' * it.size = 0
            · have hl0 : len' = 0 := by
                rcases Nat.mul_eq_zero.1 h0 with h | h
                · exact h
                · omega
              subst hl0
              simp [Array.range_zero'] at h3
              simp [execOp, ho, Instr.buildSlice, run_underlying hu, sizeOf, typeInfo, hit, newRow, h2, Array.range_zero', h3]
            · rw [← hits] at h3
              simp [execOp, ho, Instr.buildSlice, run_underlying hu, sizeOf, typeInfo, hit, newRow, h2, h0, hn1, zeroValue, hzv, h3]
          · cases hz
        · cases hz
      · exact h.elim
    · exact h.elim
  · cases hc
theorem flat_replicate (E : ET) (m : Nat) (x : den E) (hE : 0 < E.length) (z : Array Value) (hz : z.toList = (enc E x).map Sc.val) : (madeCells z (m * E.length)).toList = (flat E (List.replicate m x)).map Sc.val := by
  have hzs : z.size = E.length := by rw [← Array.length_toList, hz, List.length_map, enc_length]
  apply List.ext_getElem?
  intro j
  by_cases hj : j < m * E.length
  · have hdiv : j / E.length < m := by rw [Nat.div_lt_iff_lt_mul hE]; exact hj
    have hmod := Nat.mod_lt j hE
    have e1 := flat_get E (List.replicate m x) (j / E.length) (j % E.length) hmod (by simpa using hdiv)
    have e2 : j / E.length * E.length + j % E.length = j := by rw [Nat.mul_comm]; exact Nat.div_add_mod j E.length
    rw [e2] at e1
    rw [List.getElem?_map, e1]
    have e3 : (List.replicate m x).getD (j / E.length) (dflt E) = x := by simp [List.getD, hdiv]
    rw [e3, ← List.getElem?_map, ← hz]
    have hlt : j % E.length < z.size := by omega
    simp [madeCells, hj, hzs, hlt, Array.getElem!_eq_getD, Array.getD]
    rw [dif_pos hmod]
    simp [hlt]
  · rw [List.getElem?_eq_none (by simpa [madeCells] using hj), List.getElem?_eq_none]
    rw [List.length_map, flat_length]
    simp
    omega
theorem good_msl {t : Nat} {E : ET} {bytes : Nat} {z : den E} {x c : AO} (hs : RelS N B ρ s a w) (hd : ∀ e, o.dst = some e → e < N) (hc : chkOp P o.op (.msl t E bytes z x c) = true) (h : (opF s (.msl t E bytes z x c)).run s o.dst K) : Good P N B ρ s a w K o := by
  simp only [chkOp] at hc
  split at hc
  · rename_i t' x' c' ho
    simp only [Bool.and_eq_true, decide_eq_true_eq] at hc
    obtain ⟨⟨⟨⟨ht, hE⟩, hx⟩, hcc⟩, hz⟩ := hc
    unfold elemOk at hE
    simp only [Bool.and_eq_true, decide_eq_true_eq] at hE
    obtain ⟨hsz, hpos⟩ := hE
    have hu := sliceElem_eq ht
    have h1 := opd_R hs hx
    have h2 := opd_R hs hcc
    simp only [opF] at h
    split at h
    · rename_i p q hp hq
      rw [hp] at h1
      rw [hq] at h2
      simp only [R] at h1 h2
      obtain ⟨⟨rfl, h0, hb⟩, hK⟩ := h
      split at hz
      · rename_i it hit
        simp only [Bool.and_eq_true, decide_eq_true_eq] at hz
        obtain ⟨⟨hby, hbp⟩, hz⟩ := hz
        have hits : it.size = E.length := by unfold szOf at hsz; simpa [hit] using hsz
        split at hz
        · rename_i zv hzv
          have hcv := toV_val (cstL_RL (ρ := ρ) (n := 0) hz)
          have hple : p ≤ 140737488355328 := by
            have : p * 1 ≤ p * (bytes : Int) := Int.mul_le_mul_of_nonneg_left (by omega) h0
            omega
          have hr := run_make (P := P) w t' t it zv hu hit hzv .i64 .i64 p p h0 (Int.le_refl _) (by rw [hby, Int.mul_comm]; omega) (by omega)
          have hlm : (List.replicate p.toNat z).length ≤ maxLen := by simp only [List.length_replicate, maxLen]; omega
          have hfl := flat_replicate E p.toNat z hpos zv.cells hcv
          rw [hits] at hr
          have hf := fin_own hs (t := t) hfl hlm hd hK
          rw [List.length_replicate] at hf
          refine ⟨_, _, .inl ?_, hf⟩
          simp [execOp, ho, h1, h2, hr]
        · cases hz
      · cases hz
    · exact h.elim
  · cases hc
theorem sbase_R {v : V} {x : Value} {z id l n : Nat} (hr : Rel B ρ s.nx s.hp w) (hv : R ρ s.nx v x) (h : sbase s.hp v z = some (id, l, n)) :
    id < s.nx ∧ ∃ ad cap, x = .slice ad n cap ∧ n ≤ cap ∧ (0 < n → ad = some ⟨(ρ id).blk, (ρ id).off + l * z, none⟩) := by
  unfold sbase at h
  split at h
  · rename_i id'
    simp only [R] at hv
    have hob := hr.obj id' hv.1
    split at h
    · rename_i E m ho
      rw [ho] at hob
      split at h
      · simp only [Option.some.injEq, Prod.mk.injEq] at h
        obtain ⟨rfl, rfl, rfl⟩ := h
        obtain ⟨_, h1, h2, h3, _⟩ := hob
        exact ⟨hv.1, _, _, by rw [hv.2, Bnd.sv, h1], h2, fun hp => by simpa using h3 hp⟩
      · cases h
    · rename_i t E m ho
      rw [ho] at hob
      split at h
      · simp only [Option.some.injEq, Prod.mk.injEq] at h
        obtain ⟨rfl, rfl, rfl⟩ := h
        obtain ⟨h1, h2, h3, h4⟩ := hob
        rcases h2.2 with ⟨hn, h0⟩ | ⟨g, cap, cur, hsv, _, _, hnc, _⟩
        · exact ⟨hv.1, none, 0, by rw [hv.2, hn, h0], by omega, fun hp => by omega⟩
        · have hgb := h4 g (by rw [hsv]; rfl)
          exact ⟨hv.1, _, cap, by rw [hv.2, hsv], hnc, fun _ => by rw [hgb, h3]; simp⟩
      · cases h
    · cases h
  · rename_i id' l' n' s'
    split at h
    · rename_i hz
      simp only [decide_eq_true_eq] at hz
      simp only [Option.some.injEq, Prod.mk.injEq] at h
      obtain ⟨rfl, rfl, rfl⟩ := h
      subst hz
      simp only [R] at hv
      exact hv
    · cases h
  · cases h
theorem good_slc {x : AO} {lo hi : Option AO} {z : Nat} (hs : RelS N B ρ s a w) (hd : ∀ e, o.dst = some e → e < N) (hc : chkOp P o.op (.slc x lo hi z) = true) (h : (opF s (.slc x lo hi z)).run s o.dst K) : Good P N B ρ s a w K o := by
  simp only [chkOp] at hc
  split at hc
  · rename_i t x' lo' hi' ho
    simp only [Bool.and_eq_true] at hc
    obtain ⟨⟨⟨hx, hlo⟩, hhi⟩, ht⟩ := hc
    split at ht
    · rename_i e hu
      simp only [decide_eq_true_eq] at ht
      unfold szOf at ht
      simp only [Option.map_eq_some_iff] at ht
      obtain ⟨ie, hie, hiz⟩ := ht
      have hel : P.elem t = e := by simp [Program.elem, hu]
      have hu' : P.underlying t = some (.slice (P.elem t)) := by rw [hel]; exact hu
      have hsz : (sizeOf (P.elem t)).run P w = .ok z w := by rw [hel]; simp [sizeOf, typeInfo, hie, hiz]
      simp only [opF, sliceF] at h
      split at h
      · exact h.elim
      · rename_i id l n hb
        obtain ⟨hid, ad, cap, he, hnc, had⟩ := sbase_R hs.rel (opd_R hs hx) hb
        -- the new slice, from p on, q long
        have fin : ∀ (p q : Nat), p + q ≤ n → R ρ s.nx (.sl id (l + p) q z) (sliced ad p (p + q) cap z) := by
          intro p q hpq
          simp only [R]
          refine ⟨hid, (if cap = p then ad else ad.map (·.add (p * z))), cap - p, by unfold sliced; rw [Nat.add_sub_cancel_left], by omega, fun hq => ?_⟩
          rw [if_neg (by omega), had (by omega)]
          simp [add_lit, Nat.add_mul, Nat.add_assoc]
        split at h
        · rename_i lo1 hi1 k b hl1 hh1
          obtain ⟨⟨h0, hle⟩, hK⟩ := h
          have e1 : lo = none := by cases lo <;> simp_all
          subst e1
          cases lo' with
          | some _ => simp [optOpd] at hlo
          | none =>
            cases hi with
            | none => simp at hh1
            | some hi =>
              cases hi' with
              | none => simp [optOpd] at hhi
              | some hi' =>
                simp only [optOpd] at hhi
                have h2 := opd_R hs hhi
                simp only [Option.map_some, Option.some.injEq] at hh1
                rw [hh1] at h2
                simp only [R] at h2
                have hf := fin 0 b.toNat (by omega)
                simp only [Nat.add_zero, Nat.zero_add] at hf
                refine good_val hs hd hf ?_ hK
                simp [execOp, ho, he, h2, run_sliceAt_slice w t _ _ _ _ hu', run_slice_h w t ad n cap hu' k b h0 (by omega), hsz]
        · rename_i lo1 hi1 k p hl1 hh1
          obtain ⟨⟨h0, hle⟩, hK⟩ := h
          have e1 : hi = none := by cases hi <;> simp_all
          subst e1
          cases hi' with
          | some _ => simp [optOpd] at hhi
          | none =>
            cases lo with
            | none => simp at hl1
            | some lo =>
              cases lo' with
              | none => simp [optOpd] at hlo
              | some lo' =>
                simp only [optOpd] at hlo
                have h2 := opd_R hs hlo
                simp only [Option.map_some, Option.some.injEq] at hl1
                rw [hl1] at h2
                simp only [R] at h2
                have hf := fin p.toNat (n - p.toNat) (by omega)
                rw [show p.toNat + (n - p.toNat) = n by omega] at hf
                refine good_val hs hd hf ?_ hK
                simp [execOp, ho, he, h2, run_sliceAt_slice w t _ _ _ _ hu', run_slice_l w t ad n cap hu' k p h0 hle, hsz]
        · rename_i lo1 hi1 k p k' q hl1 hh1
          obtain ⟨⟨h0, h1, hle⟩, hK⟩ := h
          cases lo with
          | none => simp at hl1
          | some lo =>
            cases lo' with
            | none => simp [optOpd] at hlo
            | some lo' =>
              cases hi with
              | none => simp at hh1
              | some hi =>
                cases hi' with
                | none => simp [optOpd] at hhi
                | some hi' =>
                  simp only [optOpd] at hlo hhi
                  have h2 := opd_R hs hlo
                  have h3 := opd_R hs hhi
                  simp only [Option.map_some, Option.some.injEq] at hl1 hh1
                  rw [hl1] at h2
                  rw [hh1] at h3
                  simp only [R] at h2 h3
                  have hf := fin p.toNat (q.toNat - p.toNat) (by omega)
                  rw [show p.toNat + (q.toNat - p.toNat) = q.toNat by omega] at hf
                  refine good_val hs hd hf ?_ hK
                  simp [execOp, ho, he, h2, h3, run_sliceAt_slice w t _ _ _ _ hu', run_slice_lh w t ad n cap hu' k k' p q h0 h1 (by omega), hsz]
        · exact h.elim
    · cases ht
  · cases hc
end
end Go.Proofs.YtbolfnkgbjkbjaaGreat.AM
