/- The abstract machine, part 7: append, struct equality; all operations together. -/
import Derived.Test.YtbolfnkgbjkbjaaGreatAm6
set_option linter.unusedVariables false
set_option linter.unusedSimpArgs false
namespace Go.Proofs.YtbolfnkgbjkbjaaGreat.AM
open Go Go.RowKit
section
variable {P : Program} {N B : Nat} {ρ : Nat → Bnd} {s : S} {a : Act} {w : World} {K : S → Prop} {o : Oper}
theorem flat_drop (E : ET) : ∀ (l : List (den E)) (k : Nat), flat E (l.drop k) = (flat E l).drop (k * E.length)
  | l, 0 => by simp
  | [], k + 1 => by simp [flat]
  | x :: l, k + 1 => by
    simp only [List.drop_succ_cons]
    rw [flat_drop E l k]
    simp only [flat, List.flatMap_cons]
    rw [show (k + 1) * E.length = (enc E x).length + k * E.length by rw [enc_length, Nat.add_mul]; omega, List.drop_length_add_append]
theorem flat_take (E : ET) : ∀ (l : List (den E)) (k : Nat), flat E (l.take k) = (flat E l).take (k * E.length)
  | l, 0 => by simp [flat]
  | [], k + 1 => by simp [flat]
  | x :: l, k + 1 => by
    simp only [List.take_succ_cons]
    have ih := flat_take E l k
    simp only [flat, List.flatMap_cons] at ih ⊢
    rw [ih, show (k + 1) * E.length = (enc E x).length + k * E.length by rw [enc_length, Nat.add_mul]; omega, List.take_length_add_append]
theorem lst_R {E : ET} {v : V} {y : Value} {c : Prop} {m : List (den E)} (hr : Rel B ρ s.nx s.hp w) (hv : R ρ s.nx v y) (h : lst E s.hp v = some (c, m)) (hc : c) :
    ∃ ad cap, y = .slice ad m.length cap ∧ m.length ≤ cap ∧ (ad = none → m.length = 0) ∧ ∀ A, ad = some A → ∀ j u, ((flat E m).map Sc.val)[j]? = some u → w.cell? (A.add j) = some u := by
  have whole : ∀ (id : Nat) (E' : ET) (l : List (den E')), id < s.nx → (s.hp id = .ro E' l ∨ ∃ t, s.hp id = .own t E' l) →
      ∃ ad cap, (ρ id).sv = .slice ad l.length cap ∧ l.length ≤ cap ∧ (0 < l.length → ad = some ⟨(ρ id).blk, (ρ id).off, none⟩) ∧ (0 < l.length → ∀ j u, ((flat E' l).map Sc.val)[j]? = some u → w.cell? ⟨(ρ id).blk, (ρ id).off + j, none⟩ = some u) := by
    intro id E' l hid ho
    have hob := hr.obj id hid
    rcases ho with ho | ⟨t, ho⟩
    · rw [ho] at hob
      obtain ⟨_, h1, h2, h3, h4⟩ := hob
      refine ⟨_, _, by rw [Bnd.sv, h1], h2, h3, fun _ j u hu => ?_⟩
      rw [List.getElem?_map, Option.map_eq_some_iff] at hu
      obtain ⟨q, hq, rfl⟩ := hu
      exact h4 j q hq
    · rw [ho] at hob
      obtain ⟨h1, h2, h3, h4⟩ := hob
      rcases h2.2 with ⟨hn, h0⟩ | ⟨g, cap, cur, hsv, _, _, hnc, _⟩
      · exact ⟨none, 0, by rw [hn, h0], by omega, fun hp => by omega, fun hp => by omega⟩
      · have hg : (ρ id).sv.ownBlock = some g := by rw [hsv]; rfl
        have hgb := h4 g hg
        refine ⟨_, cap, hsv, hnc, fun _ => by rw [hgb, h3], fun _ j u hu => ?_⟩
        have := h2.cells hg j u hu
        rw [add_lit] at this
        rw [hgb, h3]
        exact this
  unfold lst at h
  split at h
  · simp only [Option.some.injEq, Prod.mk.injEq] at h
    obtain ⟨_, rfl⟩ := h
    simp only [R] at hv
    exact ⟨none, 0, hv, Nat.le_refl _, fun _ => rfl, fun A hA => by cases hA⟩
  · rename_i id
    simp only [R] at hv
    have fin : ∀ (l : List (den E)), (s.hp id = .ro E l ∨ ∃ t, s.hp id = .own t E l) → ∃ ad cap, y = .slice ad l.length cap ∧ l.length ≤ cap ∧ (ad = none → l.length = 0) ∧ ∀ A, ad = some A → ∀ j u, ((flat E l).map Sc.val)[j]? = some u → w.cell? (A.add j) = some u := by
      intro l ho
      obtain ⟨ad, cap, h1, h2, h3, h4⟩ := whole id E l hv.1 ho
      refine ⟨ad, cap, by rw [hv.2, h1], h2, fun hn => ?_, fun A hA j u hu => ?_⟩
      · rcases Nat.eq_zero_or_pos l.length with h | h
        · exact h
        · rw [h3 h] at hn
          cases hn
      · have hp : 0 < l.length := by
          rcases Nat.eq_zero_or_pos l.length with h | h
          · rw [List.eq_nil_of_length_eq_zero h] at hu
            simp [flat] at hu
          · exact h
        have := h3 hp
        rw [hA] at this
        cases this
        rw [add_lit]
        exact h4 hp j u hu
    split at h
    · rename_i E' l ho
      split at h
      · rename_i e
        subst e
        simp only [Option.some.injEq, Prod.mk.injEq] at h
        obtain ⟨_, rfl⟩ := h
        exact fin l (.inl ho)
      · cases h
    · rename_i t E' l ho
      split at h
      · rename_i e
        subst e
        simp only [Option.some.injEq, Prod.mk.injEq] at h
        obtain ⟨_, rfl⟩ := h
        exact fin l (.inr ⟨t, ho⟩)
      · cases h
    · cases h
  · rename_i id lo len z
    simp only [R] at hv
    obtain ⟨hid, ad, cap, he, hlc, had⟩ := hv
    have fin : ∀ (l : List (den E)), (s.hp id = .ro E l ∨ ∃ t, s.hp id = .own t E l) → z = E.length → lo + len ≤ l.length →
        ∃ ad cap, y = .slice ad ((l.drop lo).take len).length cap ∧ ((l.drop lo).take len).length ≤ cap ∧ (ad = none → ((l.drop lo).take len).length = 0) ∧ ∀ A, ad = some A → ∀ j u, ((flat E ((l.drop lo).take len)).map Sc.val)[j]? = some u → w.cell? (A.add j) = some u := by
      intro l ho hz hle
      have hl : ((l.drop lo).take len).length = len := by simp; omega
      obtain ⟨_, _, _, _, _, h4⟩ := whole id E l hid ho
      rw [hl]
      refine ⟨ad, cap, he, hlc, fun hn => ?_, fun A hA j u hu => ?_⟩
      · rcases Nat.eq_zero_or_pos len with h | h
        · exact h
        · rw [had h] at hn
          cases hn
      · rcases Nat.eq_zero_or_pos len with h0 | h0
        · subst h0
          simp [flat] at hu
        · have := had h0
          rw [hA] at this
          cases this
          rw [flat_take, flat_drop, List.map_take, List.map_drop, List.getElem?_take] at hu
          split at hu
          · rw [List.getElem?_drop] at hu
            rw [add_lit, Nat.add_assoc, hz]
            exact h4 (by omega) _ u hu
          · cases hu
    split at h
    · rename_i E' l ho
      split at h
      · rename_i e
        subst e
        split at h
        · rename_i hz
          simp only [decide_eq_true_eq] at hz
          simp only [Option.some.injEq, Prod.mk.injEq] at h
          obtain ⟨rfl, rfl⟩ := h
          exact fin l (.inl ho) hz hc
        · cases h
      · cases h
    · rename_i t E' l ho
      split at h
      · rename_i e
        subst e
        split at h
        · rename_i hz
          simp only [decide_eq_true_eq] at hz
          simp only [Option.some.injEq, Prod.mk.injEq] at h
          obtain ⟨rfl, rfl⟩ := h
          exact fin l (.inr ⟨t, ho⟩) hz hc
        · cases h
      · cases h
    · cases h
  · cases h
def kill (h : Nat → Ob) : Option Nat → Nat → Ob
  | some id => upd h id .no
  | none => h
/-- What is appended to is given up; a new object stands for what is there then. -/
theorem Rel.moved {n : Nat} {h : Nat → Ob} {w' : World} (hr : Rel B ρ n h w) {old : Option Nat} {row : Option Nat} (hold : ∀ id, old = some id → id < n) (hrow : ∀ g, row = some g → ∃ id, old = some id ∧ wblk (ρ id) (h id) = some g)
    (hg : w.grownBy w' row) {b : Bnd} {o : Ob} (hb : HR (upd ρ n b) (n + 1) B w' b o) (hf : ∀ g, ablk b o = some g → row = some g ∨ g = w.heap.size) :
    Rel B (upd ρ n b) (n + 1) (upd (kill h old) n o) w' := by
  have hlt : ∀ i, i < n → ∀ g, ablk (ρ i) (h i) = some g → g < w.heap.size := fun i hi g hg => (hr.obj i hi).lt g hg
  have hh : ∀ i, i < n → (kill h old) i = h i ∨ (old = some i ∧ (kill h old) i = .no) := by
    intro i hi
    cases old with
    | none => exact .inl rfl
    | some id =>
      by_cases e : i = id
      · subst e
        exact .inr ⟨rfl, upd_same _ _ _⟩
      · exact .inl (upd_ne _ _ _ e)
  -- an object that is left does not lie in the row
  have hnr : ∀ i, i < n → old ≠ some i → ∀ g, ablk (ρ i) (h i) = some g → some g ≠ row := by
    intro i hi hne g hga e
    obtain ⟨id, ho, hwb⟩ := hrow g e.symm
    have : id ≠ i := fun e => hne (by rw [ho, e])
    exact hr.sep id i (hold id ho) hi this g hwb hga
  refine ⟨Nat.le_trans hr.base hg.size, fun i hi => ?_, fun i j hi hj hij g hgi => ?_⟩
  · by_cases e : i = n
    · subst e
      rw [upd_same, upd_same]
      exact hb
    · rw [upd_ne _ _ _ e, upd_ne _ _ _ e]
      rcases hh i (by omega) with h1 | ⟨h1, h2⟩
      · by_cases ho : old = some i
        · subst ho
          simp only [kill, upd_same]
          trivial
        · rw [h1]
          exact (hr.obj i (by omega)).keep (Nat.le_succ n) (agree_upd ρ n b) fun g hga => hg.block g (hlt i (by omega) g hga) (hnr i (by omega) ho g hga)
      · rw [h2]
        trivial
  · have left : ∀ k, k < n → ∀ g, ablk (upd ρ n b k) (upd (kill h old) n o k) = some g → old ≠ some k ∧ ablk (ρ k) (h k) = some g := by
      intro k hk g hgk
      rw [upd_ne _ _ _ (by omega), upd_ne _ _ _ (by omega)] at hgk
      rcases hh k hk with h1 | ⟨h1, h2⟩
      · by_cases ho : old = some k
        · subst ho
          simp only [kill, upd_same] at hgk
          cases hgk
        · rw [h1] at hgk
          exact ⟨ho, hgk⟩
      · rw [h2] at hgk
        cases hgk
    intro hgj
    by_cases ei : i = n
    · subst ei
      have hwi := wblk_ablk hgi
      rw [upd_same, upd_same] at hwi
      obtain ⟨hne, hga⟩ := left j (by omega) g hgj
      rcases hf g hwi with h1 | h1
      · exact hnr j (by omega) hne g hga h1.symm
      · have := hlt j (by omega) g hga
        omega
    · obtain ⟨hne, hga⟩ := left i (by omega) g (wblk_ablk hgi)
      by_cases ej : j = n
      · subst ej
        rw [upd_same, upd_same] at hgj
        rcases hf g hgj with h1 | h1
        · exact hnr i (by omega) hne g hga h1.symm
        · have := hlt i (by omega) g hga
          omega
      · obtain ⟨hne', hga'⟩ := left j (by omega) g hgj
        have hwi : wblk (ρ i) (h i) = some g := by
          rw [upd_ne _ _ _ ei, upd_ne _ _ _ ei] at hgi
          rcases hh i (by omega) with h1 | ⟨h1, h2⟩
          · rw [h1] at hgi
            exact hgi
          · exact absurd h1 hne
        exact hr.sep i j (by omega) (by omega) hij g hwi hga'
theorem sv_of {v : Value} {B' : Nat} {e : TypeId} {size n : Nat} {xs : List Value} (h : w.ownsRow B' e size v n xs) : ∃ b : Bnd, b.sv = v ∧ b.len = n ∧ b.off = 0 ∧ (∀ g, v.ownBlock = some g → b.blk = g) := by
  rcases h.2 with ⟨rfl, rfl⟩ | ⟨g, cap, cur, rfl, _⟩
  · exact ⟨⟨0, 0, none, 0, 0⟩, rfl, rfl, rfl, fun g hg => by simp [Value.ownBlock] at hg⟩
  · exact ⟨⟨g, 0, some ⟨g, 0, none⟩, n, cap⟩, rfl, rfl, rfl, fun k hk => by simpa [Value.ownBlock] using hk⟩
theorem run_append_none {t ty e : TypeId} {i : TypeInfo} (ht : P.underlying t = some (.slice e)) (hi : P.info? e = some i) {v : Value} {n size c : Nat} {xs : List Value} (hown : w.ownsRow B e size v n xs) :
    (Builtin.append_ #[t, t] ty #[v, .slice none 0 c]).run P w = .ok v w := by
  rcases hown.2 with ⟨rfl, rfl⟩ | ⟨g, cap, cur, rfl, _, _, hnc, _⟩
  · simp [Builtin.append_, run_underlying ht, sizeOf, typeInfo, hi, Builtin.lenOf, Builtin.firstCells]
  · simp [Builtin.append_, run_underlying ht, sizeOf, typeInfo, hi, Builtin.lenOf, Builtin.firstCells, hnc, storeCells]
/-- Append: the slice's value, and what is appended, are known. -/
theorem append_core (hs : RelS N B ρ s a w) {t ty e : TypeId} {i : TypeInfo} {z : Value} {E : ET} (ht : P.underlying t = some (.slice e)) (hi : P.info? e = some i) (hz : i.zero = some z)
    (hsize : i.size = E.length) (hzs : z.cells.size = E.length) (hsz : 0 < E.length) (hbp : 0 < i.bytes) {x y : Value} {l m : List (den E)} (hown : w.ownsRow B e E.length x l.length ((flat E l).map Sc.val))
    {ad : Option Addr} {cap : Nat} (hy : y = .slice ad m.length cap) (hn0 : ad = none → m.length = 0) (hcell : ∀ A, ad = some A → ∀ j u, ((flat E m).map Sc.val)[j]? = some u → w.cell? (A.add j) = some u)
    (hb : (l.length + m.length) * i.bytes ≤ 140737488355328) {old : Option Nat} (hold : ∀ id, old = some id → id < s.nx) (hrow : ∀ g, x.ownBlock = some g → ∃ id, old = some id ∧ wblk (ρ id) (s.hp id) = some g)
    {d : Option Nat} (hd : ∀ e, d = some e → e < N) (hK : K (S.put ⟨s.sl, upd (kill s.hp old) s.nx (.own e E (l ++ m)), s.nx + 1⟩ d (.osl s.nx))) :
    ∃ x' w', (Builtin.append_ #[t, t] ty #[x, y]).run P w = .ok x' w' ∧ After N B ρ s w K (a.put d x') w' := by
  have hlm : l.length + m.length ≤ 140737488355328 := by
    have : (l.length + m.length) * 1 ≤ (l.length + m.length) * i.bytes := Nat.mul_le_mul_left _ hbp
    omega
  have fin : ∀ (x' : Value) (w' : World), w'.ownsRow B e E.length x' (l.length + m.length) (((flat E l).map Sc.val) ++ ((flat E m).map Sc.val)) → w.grownBy w' x.ownBlock → (x'.ownBlock = x.ownBlock ∨ x'.ownBlock = some w.heap.size) →
      After N B ρ s w K (a.put d x') w' := by
    intro x' w' h1 h2 h3
    obtain ⟨b, hb1, hb2, hb3, hb4⟩ := sv_of h1
    have hob : HR (upd ρ s.nx b) (s.nx + 1) B w' b (.own e E (l ++ m)) := by
      refine ⟨by rw [hb2, List.length_append], ?_, hb3, fun g hg => hb4 g (by rw [← hb1]; exact hg)⟩
      rw [hb1, List.length_append, flat_append, List.map_append]
      exact h1
    have hr := hs.rel.moved (old := old) (row := x.ownBlock) hold hrow h2 (b := b) (o := .own e E (l ++ m)) hob (fun g hg => by
      simp only [ablk] at hg
      rw [hb1] at hg
      rcases h3 with h3 | h3
      · exact .inl (by rw [← h3]; exact hg)
      · rw [h3] at hg
        exact .inr (by simpa using hg.symm))
    refine ⟨upd ρ s.nx b, _, hK, hs.put (Nat.le_succ _) (agree_upd _ _ _) hr ?_ hd, agree_upd _ _ _, by rw [S.put_nx]; exact Nat.le_succ _, (Below.refl _ _).grown h2 hs.rel.base fun g hg => ?_⟩
    · simp only [R, upd_same]
      exact ⟨by omega, hb1.symm⟩
    · exact (hown.lt g hg).1
  cases ad with
  | none =>
    have hm0 := hn0 rfl
    have hm : m = [] := List.eq_nil_of_length_eq_zero hm0
    subst hm
    refine ⟨x, w, by rw [hy]; exact run_append_none ht hi hown, fin x w ?_ ⟨rfl, rfl, rfl, Nat.le_refl _, fun _ _ _ => rfl⟩ (.inl rfl)⟩
    simpa [flat] using hown
  | some A =>
    obtain ⟨x', w', hr, h1, h2, _, h3⟩ := run_append_own_at (P := P) w B t ty e i z E.length i.bytes ht hi hz hsize rfl hzs hsz x l.length _ hown A m.length cap ((flat E m).map Sc.val) (by rw [List.length_map, flat_length])
      (hcell A rfl) (fun u hu => by obtain ⟨q, _, rfl⟩ := List.mem_map.1 hu; exact q.val_one) (by simp only [maxLen]; omega) hb hs.rel.base
    exact ⟨x', w', by rw [hy]; exact hr, fin x' w' h1 h2 h3⟩
theorem good_app {t : Nat} {E : ET} {bytes : Nat} {x y : AO} (hs : RelS N B ρ s a w) (hd : ∀ e, o.dst = some e → e < N) (hc : chkOp P o.op (.app t E bytes x y) = true) (h : (opF s (.app t E bytes x y)).run s o.dst K) : Good P N B ρ s a w K o := by
  simp only [chkOp] at hc
  split at hc
  · rename_i c ho
    obtain ⟨callee, args, argTypes⟩ := c
    simp only [] at hc
    split at hc
    · rename_i x' y' t1 t2 h2 h3
      simp only [Bool.and_eq_true, decide_eq_true_eq] at hc
      obtain ⟨⟨⟨⟨⟨hx, hy⟩, rfl⟩, ht⟩, hE⟩, hz⟩ := hc
      unfold elemOk at hE
      simp only [Bool.and_eq_true, decide_eq_true_eq] at hE
      obtain ⟨hsz, hpos⟩ := hE
      have hu := sliceElem_eq ht
      split at hz
      · rename_i it hit
        simp only [Bool.and_eq_true, decide_eq_true_eq] at hz
        obtain ⟨⟨rfl, hbp⟩, hz⟩ := hz
        have hits : it.size = E.length := by unfold szOf at hsz; simpa [hit] using hsz
        split at hz
        · rename_i zv hzv
          simp only [decide_eq_true_eq] at hz
          obtain rfl : args = #[x', y'] := by cases args; simp at h2; subst h2; rfl
          obtain rfl : argTypes = #[t1, t1] := by cases argTypes; simp at h3; subst h3; rfl
          have close : (∃ v w', (Builtin.append_ #[t1, t1] o.type #[a.eval x', a.eval y']).run P w = .ok v w' ∧ After N B ρ s w K (a.put o.dst v) w') → Good P N B ρ s a w K o := by
            rintro ⟨v, w', hrun, haf⟩
            refine ⟨v, w', .inl ?_, haf⟩
            simp [execOp, ho, resolve, invoke, builtin, hrun]
          simp only [opF, appF] at h
          split at h
          · exact h.elim
          · rename_i c m hl
            split at h
            · rename_i hxv
              obtain ⟨⟨hc, hb⟩, hK⟩ := h
              obtain ⟨ad, cap, e1, e2, e3, e4⟩ := lst_R hs.rel (opd_R hs hy) hl hc
              have h1 := opd_R hs hx
              rw [hxv] at h1
              simp only [R] at h1
              refine close (append_core hs hu hit hzv hits hz hpos hbp (l := []) (m := m) (x := a.eval x') (by rw [h1]; exact World.ownsRow_nil _ _ _ _) e1 e3 e4 (by simpa using hb) (old := none) (fun id h => by cases h) (fun g hg => by rw [h1] at hg; simp [Value.ownBlock] at hg) hd ?_)
              exact hK
            · rename_i id hxv
              split at h
              · rename_i t' E' l ho'
                split at h
                · rename_i e
                  subst e
                  split at h
                  · rename_i htt
                    simp only [decide_eq_true_eq] at htt
                    subst htt
                    obtain ⟨⟨hc, hb⟩, hK⟩ := h
                    obtain ⟨ad, cap, e1, e2, e3, e4⟩ := lst_R hs.rel (opd_R hs hy) hl hc
                    have h1 := opd_R hs hx
                    rw [hxv] at h1
                    simp only [R] at h1
                    have hob := hs.rel.obj id h1.1
                    rw [ho'] at hob
                    refine close (append_core hs hu hit hzv hits hz hpos hbp (l := l) (m := m) (x := a.eval x') (by rw [h1.2]; exact hob.2.1) e1 e3 e4 hb (old := some id) (fun id' h => by cases h; exact h1.1) (fun g hg => ⟨id, rfl, by rw [ho', wblk]; rw [h1.2] at hg; exact hg⟩) hd ?_)
                    exact hK
                  · exact h.elim
                · exact h.elim
              · exact h.elim
            · exact h.elim
        · cases hz
      · cases hz
    · cases hc
  · cases hc
end
end Go.Proofs.YtbolfnkgbjkbjaaGreat.AM
