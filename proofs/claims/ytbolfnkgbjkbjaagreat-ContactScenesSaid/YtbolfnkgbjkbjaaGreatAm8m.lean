/- The abstract machine, part 8m: maps; all operations. -/
import Derived.Test.YtbolfnkgbjkbjaaGreatAm8
set_option linter.unusedVariables false
set_option linter.unusedSimpArgs false
namespace Go.Proofs.YtbolfnkgbjkbjaaGreat.AM
open Go Go.RowKit
section
variable {P : Program} {N B : Nat} {ρ : Nat → Bnd} {s : S} {a : Act} {w : World} {K : S → Prop} {o : Oper}
theorem chk_fields {n d d' : Nat} {em : Bool} (ih : ∀ (t : TypeId) (ks : ET), flatTy P d t = some ks → ∀ (cs : List V) (xs : List Value) (b : Bool) (w : World), RL ρ n cs xs → eqL ks cs cs = some b →
      (Instr.checkKey em d' t (valOf P t xs)).run P w = .ok () w) (cs : List V) (xs : Array Value) (hx : RL ρ n cs xs.toList) (w : World) :
    ∀ (fs : List Field) (off : Nat) (ks : ET) (b : Bool), flatFs P (flatTy P d) off fs = some ks → eqL ks (cs.drop off) (cs.drop off) = some b →
      ∀ f ∈ fs, f.name ≠ "_" ∧ ∃ v, (part f.type xs f.offset).run P w = .ok v w ∧ (Instr.checkKey em d' f.type v).run P w = .ok () w
  | [], off, ks, b, h, heq => by simp
  | f :: fs, off, ks, b, h, heq => by
    simp only [flatFs] at h
    split at h
    · rename_i m hm
      split at h
      · rename_i r hr
        split at h
        · rename_i hc
          obtain ⟨hoff, hname, hsz⟩ := hc
          simp only [Option.some.injEq] at h
          subst h
          obtain ⟨b1, b2, e1, e2, rfl⟩ := eqL_split m r _ _ b heq
          have hl := eqL_len _ _ _ _ e1
          simp only [List.length_take, List.length_drop] at hl
          have hxl := hx.length
          simp only [Array.length_toList] at hxl
          have p1 := part_val (P := P) (xs := xs) (off := off) (w := w) hsz (flat_agg hm) (by omega)
          have q := ih f.type m hm _ _ b1 w ((hx.drop off).take m.length) e1
          rw [List.drop_drop] at e2
          have rest := chk_fields ih cs xs hx w fs (off + m.length) r b2 hr e2
          intro g hg
          rw [List.mem_cons] at hg
          rcases hg with rfl | hg
          · exact ⟨hname, _, by rw [hoff]; exact p1, q⟩
          · exact rest g hg
        · cases h
      · cases h
    · cases h
theorem chk_items {n d' : Nat} {em : Bool} {e : TypeId} {m : ET} (hsz : szOf P e = some m.length) (hag : aggOf P e = some true ∨ (aggOf P e = some false ∧ m.length = 1))
    (ih : ∀ (cs : List V) (xs : List Value) (b : Bool) (w : World), RL ρ n cs xs → eqL m cs cs = some b → (Instr.checkKey em d' e (valOf P e xs)).run P w = .ok () w)
    (cs : List V) (xs : Array Value) (hx : RL ρ n cs xs.toList) (w : World) :
    ∀ (k st : Nat) (b : Bool), eqL (List.replicate k m).flatten (cs.drop (st * m.length)) (cs.drop (st * m.length)) = some b →
      ∀ j ∈ List.range' st k, ∃ v, (part e xs (j * m.length)).run P w = .ok v w ∧ (Instr.checkKey em d' e v).run P w = .ok () w
  | 0, st, b, heq => by simp
  | k + 1, st, b, heq => by
    rw [List.replicate_succ, List.flatten_cons] at heq
    obtain ⟨b1, b2, e1, e2, rfl⟩ := eqL_split m _ _ _ b heq
    have hl := eqL_len _ _ _ _ e1
    simp only [List.length_take, List.length_drop] at hl
    have hxl := hx.length
    simp only [Array.length_toList] at hxl
    have p1 := part_val (P := P) (xs := xs) (off := st * m.length) (w := w) hsz hag (by omega)
    have q := ih _ _ b1 w ((hx.drop (st * m.length)).take m.length) e1
    rw [List.drop_drop, show st * m.length + m.length = (st + 1) * m.length by rw [Nat.succ_mul]] at e2
    have rest := chk_items hsz hag ih cs xs hx w k (st + 1) b2 e2
    intro j hj
    rw [List.range'_succ, List.mem_cons] at hj
    rcases hj with rfl | hj
    · exact ⟨_, p1, q⟩
    · exact rest j hj
theorem chkKey_flat {n : Nat} {em : Bool} : ∀ (d : Nat) (t : TypeId) (ks : ET), flatTy P d t = some ks → ∀ (d' : Nat), d ≤ d' → ∀ (cs : List V) (xs : List Value) (b : Bool) (w : World), RL ρ n cs xs →
    eqL ks cs cs = some b → (Instr.checkKey em d' t (valOf P t xs)).run P w = .ok () w
  | 0, t, ks, h => by simp [flatTy] at h
  | d + 1, t, ks, h => by
    intro d' hd cs xs b w hx heq
    obtain ⟨d', rfl⟩ : ∃ m, d' = m + 1 := ⟨d' - 1, by omega⟩
    simp only [flatTy] at h
    split at h
    · rename_i k hu
      cases h
      obtain ⟨h1, _⟩ := eqL_len _ _ _ _ heq
      obtain ⟨c, rfl⟩ := List.length_eq_one_iff.1 h1
      obtain ⟨x, rfl⟩ := List.length_eq_one_iff.1 (hx.length.symm.trans h1)
      simp only [RL, and_true] at hx
      have ha : aggOf P t = some false := by simp [aggOf, hu]
      simp only [valOf, ha, List.headD_cons]
      cases c <;> simp only [eqL] at heq <;> first | (cases heq; done) | skip
      simp only [R] at hx
      rw [hx]
      simp [Instr.checkKey, run_underlying hu]
    · rename_i hu
      cases h
      obtain ⟨h1, _⟩ := eqL_len _ _ _ _ heq
      obtain ⟨c, rfl⟩ := List.length_eq_one_iff.1 h1
      obtain ⟨x, rfl⟩ := List.length_eq_one_iff.1 (hx.length.symm.trans h1)
      simp only [RL, and_true] at hx
      have ha : aggOf P t = some false := by simp [aggOf, hu]
      simp only [valOf, ha, List.headD_cons]
      cases c <;> simp only [eqL] at heq <;> first | (cases heq; done) | skip
      simp only [R] at hx
      rw [hx]
      simp [Instr.checkKey, run_underlying hu]
    · rename_i fs hu
      split at h
      · rename_i hst
        simp only [valOf, aggOf_struct hu]
        have each := chk_fields (P := P) (n := n) (d := d) (d' := d') (em := em) (fun t ks h cs xs b w h1 h2 => chkKey_flat d t ks h d' (by omega) cs xs b w h1 h2) cs xs.toArray (by simpa using hx) w fs.toList 0 ks b h (by simpa using heq)
        rw [Instr.checkKey]
        simp only [Sem.run_bind, run_underlying hu, Result.andThen_ok]
        rw [← Array.forIn_toList]
        generalize fs.toList = L at each
        induction L with
        | nil => simp
        | cons f L ihL =>
          obtain ⟨hn, v, p1, p2⟩ := each f (by simp)
          simp only [List.forIn_cons, Sem.run_bind, hn, ne_eq, not_false_eq_true, if_true, Result.andThen_ok, p1, p2, Sem.run_pure]
          exact ihL (fun y hy => each y (by simp [hy]))
      · cases h
    · rename_i k e hu
      split at h
      · rename_i m hm
        split at h
        · rename_i hsz
          cases h
          have ha : aggOf P t = some true := by simp [aggOf, hu]
          have hi : ∃ i, P.info? e = some i ∧ i.size = m.length := by
            unfold szOf at hsz
            simp only [Option.map_eq_some_iff] at hsz
            obtain ⟨i, hi, hi2⟩ := hsz
            exact ⟨i, hi, hi2⟩
          obtain ⟨i, hi, hi2⟩ := hi
          simp only [valOf, ha]
          have each := chk_items (P := P) (n := n) (d' := d') (em := em) hsz (flat_agg hm) (fun cs xs b w h1 h2 => chkKey_flat d e m hm d' (by omega) cs xs b w h1 h2) cs xs.toArray (by simpa using hx) w k 0 b (by simpa using heq)
          rw [Instr.checkKey]
          simp only [Sem.run_bind, run_underlying hu, Result.andThen_ok]
          simp only [Std.Legacy.Range.forIn_eq_forIn_range', Std.Legacy.Range.size, Nat.sub_zero, Nat.add_one_sub_one, Nat.div_one]
          generalize List.range' 0 k = is at each
          induction is with
          | nil => simp
          | cons j is ihL =>
            obtain ⟨v, p1, p2⟩ := each j (by simp)
            have hss : (sizeOf e).run P w = .ok m.length w := by simp [sizeOf, typeInfo, hi, hi2]
            simp only [List.forIn_cons, Sem.run_bind, hss, Result.andThen_ok, p1, p2, Sem.run_pure]
            exact ihL (fun y hy => each y (by simp [hy]))
        · cases h
      · cases h
    · cases h
/-! ### Keys -/
theorem denB_eqL : ∀ (E : ET) (x y : den E), eqL E ((enc E x).map Sc.toV) ((enc E y).map Sc.toV) = some (denB E x y)
  | [], _, _ => rfl
  | [.int k], x, y => by simp [enc, SK.sc, Sc.toV, eqL, denB]
  | [.bool], x, y => by simp [enc, SK.sc, Sc.toV, eqL, denB]
  | .int k :: k' :: r, x, y => by
    have := denB_eqL (k' :: r) x.2 y.2
    simp only [enc, SK.sc, List.map_cons, Sc.toV, eqL, this, denB]
    try simp
  | .bool :: k' :: r, x, y => by
    have := denB_eqL (k' :: r) x.2 y.2
    simp only [enc, SK.sc, List.map_cons, Sc.toV, eqL, this, denB]
    try simp
theorem denB_eq : ∀ (E : ET) (x y : den E), denB E x y = true ↔ x = y
  | [], _, _ => by simp [denB]
  | [.int k], x, y => by simp only [denB, beq_iff_eq]; try exact Iff.rfl
  | [.bool], x, y => by simp only [denB, beq_iff_eq]; try exact Iff.rfl
  | .int k :: k' :: r, x, y => by
    have := denB_eq (k' :: r) x.2 y.2
    simp only [denB, Bool.and_eq_true, beq_iff_eq, this]
    exact ⟨fun h => Prod.ext h.1 h.2, fun h => ⟨congrArg (·.1) h, congrArg (·.2) h⟩⟩
  | .bool :: k' :: r, x, y => by
    have := denB_eq (k' :: r) x.2 y.2
    simp only [denB, Bool.and_eq_true, beq_iff_eq, this]
    exact ⟨fun h => Prod.ext h.1 h.2, fun h => ⟨congrArg (·.1) h, congrArg (·.2) h⟩⟩
def mfind {α : Type} (KE : ET) (k : den KE) : List (den KE × α) → Nat → Option (Nat × α)
  | [], _ => none
  | p :: r, i => bif denB KE k p.1 then some (i, p.2) else mfind KE k r (i + 1)
theorem mget_mfind {α : Type} (KE : ET) (k : den KE) : ∀ (m : List (den KE × α)) (i : Nat), mget KE k m = (mfind KE k m i).map (·.2)
  | [], i => rfl
  | p :: r, i => by
    simp only [mget, mfind]
    cases denB KE k p.1
    · exact mget_mfind KE k r (i + 1)
    · rfl
theorem mfind_none {α : Type} (KE : ET) (k : den KE) (u : α) : ∀ (m : List (den KE × α)) (i : Nat), mfind KE k m i = none → mput KE k u m = m ++ [(k, u)]
  | [], i, _ => rfl
  | p :: r, i, h => by
    simp only [mfind] at h
    simp only [mput]
    cases hd : denB KE k p.1
    · rw [hd] at h
      simp only [cond_false, List.cons_append]
      rw [mfind_none KE k u r (i + 1) h]
    · rw [hd] at h; simp at h
theorem mfind_some {α : Type} (KE : ET) (k : den KE) (u : α) : ∀ (m : List (den KE × α)) (i j : Nat) (v : α), mfind KE k m i = some (j, v) → ∃ j', j = i + j' ∧ m[j']? = some (k, v) ∧ mput KE k u m = m.set j' (k, u)
  | [], i, j, v, h => by simp [mfind] at h
  | p :: r, i, j, v, h => by
    simp only [mfind] at h
    simp only [mput]
    cases hd : denB KE k p.1
    · rw [hd] at h
      obtain ⟨j', h1, h2, h3⟩ := mfind_some KE k u r (i + 1) j v h
      exact ⟨j' + 1, by omega, by simpa using h2, by simp only [cond_false, List.set_cons_succ, h3]⟩
    · rw [hd] at h
      simp only [cond_true, Option.some.injEq, Prod.mk.injEq] at h
      have hk := (denB_eq KE k p.1).1 hd
      exact ⟨0, by omega, by simp [hk, ← h.2], by simp⟩
theorem enc_RL {n : Nat} (E : ET) (x : den E) : RL ρ n ((enc E x).map Sc.toV) ((enc E x).map Sc.val) := RL_scs _
theorem valOf_valE {t : TypeId} {ag : Bool} {E : ET} (ha : aggOf P t = some ag) (h1 : ag = false → E.length = 1) (x : den E) : valOf P t ((enc E x).map Sc.val) = valE ag E x := by
  unfold valOf valE
  rw [ha]
  cases ag with
  | true => rfl
  | false =>
    have := enc_length E x
    have h2 := h1 rfl
    match henc : enc E x with
    | [] => rw [henc] at this; simp at this; omega
    | y :: ys => rfl
theorem flat_one {d : Nat} {t : TypeId} {ks : ET} {ag : Bool} (h : flatTy P d t = some ks) (ha : aggOf P t = some ag) : ag = false → ks.length = 1 := by
  intro e
  subst e
  rcases flat_agg h with h1 | ⟨_, h1⟩
  · rw [ha] at h1; cases h1
  · exact h1
theorem findAsking_flat {VE : ET} {va ka : Bool} {kt : TypeId} {KE : ET} (key : den KE) (kv : Value) (heq : ∀ k' : den KE, (Op.equal kt kv (valE ka KE k')).run P w = .ok (denB KE key k') w) :
    ∀ (es : List MapEntry) (m : List (den KE × den VE)) (i : Nat), es.map (fun e => (e.key, e.val)) = m.map (fun p => (valE ka KE p.1, valE va VE p.2)) →
      (Instr.findAsking kt kv es i).run P w = .ok ((mfind KE key m i).map fun p => (p.1, valE va VE p.2)) w
  | [], [], i, _ => by simp [Instr.findAsking, mfind]
  | e :: es, p :: m, i, h => by
    simp only [List.map_cons, List.cons.injEq, Prod.mk.injEq] at h
    have hq := heq p.1
    rw [← h.1.1] at hq
    have ih := findAsking_flat key kv heq es m (i + 1) h.2
    simp only [mfind]
    cases hd : denB KE key p.1
    · rw [hd] at hq
      simp only [Instr.findAsking, Sem.run_bind, hq, Result.andThen_ok, cond_false]
      simpa using ih
    · rw [hd] at hq
      simp only [Instr.findAsking, Sem.run_bind, hq, Result.andThen_ok, cond_true]
      simp [h.1.2]
  | [], _ :: _, _, h => by simp at h
  | _ :: _, [], _, h => by simp at h
theorem findNow_int {VE : ET} {va : Bool} {k : IntKind} (x : Int) : ∀ (es : List MapEntry) (m : List (den [SK.int k] × den VE)) (i : Nat), es.map (fun e => (e.key, e.val)) = m.map (fun p => (valE false [SK.int k] p.1, valE va VE p.2)) →
    Instr.findNow (.int k) (.int k x) es i = some ((mfind [SK.int k] x m i).map fun p => (p.1, valE va VE p.2))
  | [], [], i, _ => rfl
  | e :: es, p :: m, i, h => by
    simp only [List.map_cons, List.cons.injEq, Prod.mk.injEq] at h
    have ih := findNow_int x es m (i + 1) h.2
    have hk : e.key = .int k p.1 := by rw [h.1.1]; rfl
    have hb : denB [SK.int k] x p.1 = (x == (show Int from p.1)) := rfl
    simp only [Instr.findNow, hk, Instr.sameNow, if_true, mfind, hb]
    cases hd : (x == (show Int from p.1))
    · simp only [show (x == (p.1 : Int)) = false from hd, cond_false]; exact ih
    · simp only [show (x == (p.1 : Int)) = true from hd, cond_true]; simp [h.1.2]
  | [], _ :: _, _, h => by simp at h
  | _ :: _, [], _, h => by simp at h
theorem findNow_bool {VE : ET} {va : Bool} (x : Bool) : ∀ (es : List MapEntry) (m : List (den [SK.bool] × den VE)) (i : Nat), es.map (fun e => (e.key, e.val)) = m.map (fun p => (valE false [SK.bool] p.1, valE va VE p.2)) →
    Instr.findNow .bool (.bool x) es i = some ((mfind [SK.bool] x m i).map fun p => (p.1, valE va VE p.2))
  | [], [], i, _ => rfl
  | e :: es, p :: m, i, h => by
    simp only [List.map_cons, List.cons.injEq, Prod.mk.injEq] at h
    have ih := findNow_bool x es m (i + 1) h.2
    have hk : e.key = .bool p.1 := by rw [h.1.1]; rfl
    have hb : denB [SK.bool] x p.1 = (x == (show Bool from p.1)) := rfl
    simp only [Instr.findNow, hk, Instr.sameNow, mfind, hb]
    cases hd : (x == (show Bool from p.1))
    · simp only [show (x == (p.1 : Bool)) = false from hd, cond_false]; exact ih
    · simp only [show (x == (p.1 : Bool)) = true from hd, cond_true]; simp [h.1.2]
  | [], _ :: _, _, h => by simp at h
  | _ :: _, [], _, h => by simp at h
theorem findKey_flat {VE : ET} {va ka : Bool} {kt : TypeId} {KE : ET} (hk : flatTy P 6 kt = some KE) (ha : aggOf P kt = some ka) (key : den KE) (es : List MapEntry) (m : List (den KE × den VE))
    (h : es.map (fun e => (e.key, e.val)) = m.map (fun p => (valE ka KE p.1, valE va VE p.2))) :
    (Instr.findKey kt (valE ka KE key) es).run P w = .ok ((mfind KE key m 0).map fun p => (p.1, valE va VE p.2)) w := by
  have heq : ∀ k' : den KE, (Op.equal kt (valE ka KE key) (valE ka KE k')).run P w = .ok (denB KE key k') w := fun k' => by
    have := eqIn_flat (P := P) (ρ := fun _ => default) (n := 0) 6 kt KE hk 10000 (by omega) _ _ _ _ _ w (enc_RL KE key) (enc_RL KE k') (denB_eqL KE key k')
    rw [valOf_valE ha (flat_one hk ha), valOf_valE ha (flat_one hk ha)] at this
    exact this
  have wide : (match P.underlying kt with | some (.array _ _) | some (.struct _) => true | _ => false) = true → (Instr.findKey kt (valE ka KE key) es).run P w = .ok ((mfind KE key m 0).map fun p => (p.1, valE va VE p.2)) w := by
    intro hw
    rw [run_findKey_eq (P := P) (w := w) hw]
    exact findAsking_flat key _ heq es m 0 h
  have hk' := hk
  simp only [flatTy] at hk'
  split at hk'
  · rename_i k hu
    cases hk'
    have : ka = false := by simp [aggOf, hu] at ha; first | exact ha | exact ha.symm
    subst this
    have := findNow_int (va := va) (VE := VE) (k := k) key es m 0 h
    have hv : valE false [SK.int k] key = .int k key := rfl
    simp only [Instr.findKey, Sem.run_bind, run_underlying hu, Result.andThen_ok, hv, this, Sem.run_pure]
  · rename_i hu
    cases hk'
    have : ka = false := by simp [aggOf, hu] at ha; first | exact ha | exact ha.symm
    subst this
    have := findNow_bool (va := va) (VE := VE) key es m 0 h
    have hv : valE false [SK.bool] key = .bool key := rfl
    simp only [Instr.findKey, Sem.run_bind, run_underlying hu, Result.andThen_ok, hv, this, Sem.run_pure]
  · rename_i fs hu
    exact wide (by rw [hu])
  · rename_i n e hu
    exact wide (by rw [hu])
  · cases hk'
theorem checkKey_val {ka em : Bool} {kt : TypeId} {KE : ET} (hk : flatTy P 6 kt = some KE) (ha : aggOf P kt = some ka) (key : den KE) : (Instr.checkKey em 10000 kt (valE ka KE key)).run P w = .ok () w := by
  have := chkKey_flat (P := P) (ρ := fun _ => default) (n := 0) (em := em) 6 kt KE hk 10000 (by omega) _ _ _ w (enc_RL KE key) (denB_eqL KE key key)
  rw [valOf_valE ha (flat_one hk ha)] at this
  exact this
theorem keyD_val {n : Nat} {ag : Bool} {E : ET} {v : V} {x : Value} {y : den E} (h : keyD ag E v = some y) (hR : R ρ n v x) : x = valE ag E y := by
  unfold keyD at h
  cases ag with
  | true =>
    simp only [] at h
    split at h
    · rename_i cs
      split at h
      · rename_i ss hss
        have h1 := scs_eq _ _ hss
        have h2 := enc_dec _ _ _ h
        simp only [R] at hR
        obtain ⟨xs, rfl, hr⟩ := hR
        subst h1
        have h3 : xs.toList = ss.map Sc.val := by
          clear h2 h hss
          generalize xs.toList = l at hr
          induction ss generalizing l with
          | nil => cases l <;> simp_all [RL]
          | cons q ss ih =>
            cases l with
            | nil => simp [RL] at hr
            | cons z zs =>
              simp only [List.map_cons, RL] at hr
              rw [(R_toV q z).1 hr.1, ih zs hr.2, List.map_cons]
        simp only [valE, h2, ← h3, Array.toArray_toList]
      · cases h
    · cases h
  | false =>
    simp only [] at h
    split at h
    · rename_i q hq
      have h2 := enc_dec _ _ _ h
      simp only [valE, h2, List.map_cons, List.map_nil, List.headD_cons]
      cases v <;> simp only [V.sc] at hq <;> cases hq
      · simpa [R, Sc.val] using hR
      · simpa [R, Sc.val] using hR
    · cases h
theorem mkV_val {n : Nat} {ag : Bool} {E : ET} (y : den E) : R ρ n (mkV ag ((enc E y).map Sc.toV)) (valE ag E y) := by
  cases ag with
  | true =>
    simp only [mkV, valE, R]
    exact ⟨_, rfl, by simpa using RL_scs (enc E y)⟩
  | false =>
    simp only [mkV, valE]
    match enc E y with
    | [] => simp [R]
    | [q] => simp only [List.map_cons, List.map_nil, List.headD_cons]; exact (R_toV q _).2 rfl
    | _ :: _ :: _ => simp [R]
theorem sameBits_sc (n : Nat) (q : Sc) : Instr.sameBits n q.val q.val = true := by
  cases q <;> cases n <;> simp [Instr.sameBits, Sc.val]
theorem sameBits_val {n : Nat} {ag : Bool} {E : ET} (hE : ag = false → E.length = 1) (y : den E) : Instr.sameBits (n + 1) (valE ag E y) (valE ag E y) = true := by
  cases ag with
  | true =>
    simp only [valE, Instr.sameBits, beq_self_eq_true, Bool.true_and]
    generalize enc E y = l
    rw [List.all_eq_true]
    intro p hp
    try simp only [List.toList_toArray] at hp
    have : ∀ l : List Value, ∀ p ∈ l.zip l, p.1 = p.2 ∧ p.1 ∈ l := by
      intro l
      induction l with
      | nil => simp
      | cons z zs ih =>
        intro p hp
        simp only [List.zip_cons_cons, List.mem_cons] at hp
        rcases hp with rfl | hp
        · exact ⟨rfl, by simp⟩
        · exact ⟨(ih p hp).1, by simp [(ih p hp).2]⟩
    obtain ⟨h1, h2⟩ := this _ p hp
    rw [List.mem_map] at h2
    obtain ⟨q, _, hq⟩ := h2
    show Instr.sameBits n p.1 p.2 = true
    rw [← h1, ← hq]
    exact sameBits_sc n q
  | false =>
    have := enc_length E y
    have h2 := hE rfl
    simp only [valE]
    match henc : enc E y with
    | [] => rw [henc] at this; simp at this; omega
    | q :: qs => simp only [List.map_cons, List.headD_cons]; exact sameBits_sc _ q
theorem mobj_eq {ka : Bool} {KE : ET} {va : Bool} {VE : ET} {ob : Ob} {m : List (den KE × den VE)} (h : mobj ka KE va VE ob = some m) : ob = .mp ka KE va VE m := by
  unfold mobj at h
  split at h
  · split at h
    · rename_i hd
      simp only [decide_eq_true_eq] at hd
      obtain ⟨rfl, rfl⟩ := hd
      split at h
      · rename_i e
        obtain ⟨rfl, rfl⟩ := e
        cases h
        rfl
      · cases h
    · cases h
  · cases h
structure MapOk (P : Program) (t : TypeId) (ka : Bool) (KE : ET) (va : Bool) (VE : ET) (k e : TypeId) (z : Value) : Prop where
  hu : P.underlying t = some (.map k e)
  hk : flatTy P 6 k = some KE
  ha : aggOf P k = some ka
  hz : ∀ w, (zeroValue e).run P w = .ok z w
  hzR : cst z (mkV va ((enc VE (dflt VE)).map Sc.toV)) = true
theorem mapOk_of {t : TypeId} {ka : Bool} {KE : ET} {va : Bool} {VE : ET} (h : mapOk P t ka KE va VE = true) : ∃ k e z, MapOk P t ka KE va VE k e z := by
  unfold mapOk at h
  split at h
  · rename_i k e hu
    simp only [Bool.and_eq_true, decide_eq_true_eq] at h
    obtain ⟨⟨⟨h1, h2⟩, h3⟩, h4⟩ := h
    split at h4
    · rename_i i hi
      split at h4
      · rename_i v hv
        exact ⟨k, e, v, hu, h1, h2, fun w => by simp [zeroValue, typeInfo, hi, hv], h4⟩
      · cases h4
    · cases h4
  · cases h
theorem getMap {w : World} {r : Nat} {es : Array MapEntry} {clock : Nat} (hb : w.heap[r]? = some (.map es clock)) : (getObj r).run P w = .ok (.map es clock) w := by simp [getObj, Sem.run, hb]
theorem setMap {w : World} {r : Nat} {es : Array MapEntry} {clock : Nat} (ob : Obj) (hb : w.heap[r]? = some (.map es clock)) : (setObj r ob).run P w = .ok () { w with heap := w.heap.setIfInBounds r ob } := by simp [setObj, Sem.run, hb]
theorem good_mkm {ka va : Bool} {KE VE : ET} (hs : RelS N B ρ s a w) (hd : ∀ e, o.dst = some e → e < N) (hc : chkOp P o.op (.mkm ka KE va VE) = true) (h : (opF s (.mkm ka KE va VE)).run s o.dst K) : Good P N B ρ s a w K o := by
  simp only [chkOp] at hc
  split at hc
  · rename_i t ho
    refine ⟨.map (some w.heap.size), w.alloc (.map #[] 0), .inl ?_, ?_⟩
    · simp [execOp, ho, Instr.makeMap]
    · simp only [opF, OR.run] at h
      have hr : Rel B (upd ρ s.nx ⟨w.heap.size, 0, none, 0, 0⟩) (s.nx + 1) (upd s.hp s.nx (.mp ka KE va VE [])) (w.alloc (.map #[] 0)) := by
        refine hs.rel.new (b := ⟨w.heap.size, 0, none, 0, 0⟩) ⟨hs.rel.base, #[], heap_alloc_new w _, by simp, by simp⟩ (by simp) (fun k hk => Below.heap_alloc _ _ _ hk) ?_
        intro g hg
        simp only [ablk, Option.some.injEq] at hg
        omega
      refine ⟨upd ρ s.nx ⟨w.heap.size, 0, none, 0, 0⟩, S.put ⟨s.sl, upd s.hp s.nx (.mp ka KE va VE []), s.nx + 1⟩ o.dst (.mp s.nx), h.2, ?_, agree_upd _ _ _, by rw [S.put_nx]; exact Nat.le_succ _, (Below.refl _ _).alloc hs.rel.base _⟩
      exact hs.put (Nat.le_succ _) (agree_upd _ _ _) hr (v := .mp s.nx) (by simp only [R, upd_same]; exact ⟨Nat.lt_succ_self _, trivial⟩) hd
  · cases hc
theorem good_mlk {ka va ok : Bool} {KE VE : ET} {x k : AO} (hs : RelS N B ρ s a w) (hd : ∀ e, o.dst = some e → e < N) (hc : chkOp P o.op (.mlk ka KE va VE ok x k) = true) (h : (opF s (.mlk ka KE va VE ok x k)).run s o.dst K) : Good P N B ρ s a w K o := by
  simp only [chkOp] at hc
  split at hc
  · rename_i t x' k' ok' ho
    simp only [Bool.and_eq_true, decide_eq_true_eq] at hc
    obtain ⟨⟨⟨hx, hk⟩, rfl⟩, hm⟩ := hc
    obtain ⟨kt, et, z, M⟩ := mapOk_of hm
    have h1 := opd_R hs hx
    have h2 := opd_R hs hk
    have fin : ∀ (r : Option (den VE)) (v : Value), (r.isSome = true → v = valE va VE (r.getD (dflt VE))) → (r = none → v = z) → (Instr.lookup t (a.eval x') (a.eval k') ok').run P w = .ok (if ok' then .tuple #[v, .bool r.isSome] else v) w →
        (OR.val (mlkV va VE ok' r)).run s o.dst K → Good P N B ρ s a w K o := by
      intro r v hv1 hv2 hrun hK
      have hv : R ρ s.nx (mkV va ((enc VE (r.getD (dflt VE))).map Sc.toV)) v := by
        cases r with
        | none => rw [hv2 rfl]; exact cst_R M.hzR
        | some y => rw [hv1 rfl]; exact mkV_val y
      refine good_val hs hd (v := mlkV va VE ok' r) (x := if ok' then .tuple #[v, .bool r.isSome] else v) ?_ ?_ hK
      · cases ok' with
        | true =>
          simp only [mlkV, if_true, R]
          exact ⟨_, rfl, by simp only [RL, R]; first | exact ⟨hv, trivial, trivial⟩ | exact ⟨hv, rfl, trivial⟩⟩
        | false => simpa [mlkV] using hv
      · simp [execOp, ho, hrun]
    simp only [opF] at h
    split at h
    · rename_i id hv
      rw [hv] at h1
      simp only [R] at h1
      split at h
      · rename_i m key hm1 hk1
        have hob := hs.rel.obj id h1.1
        rw [mobj_eq hm1] at hob
        obtain ⟨_, es, hb, hes, _⟩ := hob
        have hkv := keyD_val hk1 h2
        have f1 := findKey_flat (P := P) (w := w) (VE := VE) (va := va) M.hk M.ha key es.toList m hes
        rw [mget_mfind KE key m 0] at h
        refine fin _ (match mfind KE key m 0 with | some p => valE va VE p.2 | none => z) ?_ ?_ ?_ h
        · cases mfind KE key m 0 <;> simp
        · cases mfind KE key m 0 <;> simp
        · simp only [Instr.lookup, Sem.run_bind, run_underlying M.hu, Result.andThen_ok, h1.2, hkv, getMap hb, checkKey_val M.hk M.ha, f1, Sem.run_pure]
          cases mfind KE key m 0 with
          | none => simp [M.hz w] <;> (cases ok' <;> rfl)
          | some p => simp <;> (cases ok' <;> rfl)
      · exact h.elim
    · rename_i hv
      rw [hv] at h1
      simp only [R] at h1
      split at h
      · rename_i key hk1
        have hkv := keyD_val hk1 h2
        have f1 := findKey_flat (P := P) (w := w) (VE := VE) (va := va) M.hk M.ha key [] [] rfl
        refine fin none z (by simp) (fun _ => rfl) ?_ h
        simp only [Instr.lookup, Sem.run_bind, run_underlying M.hu, Result.andThen_ok, h1, hkv, checkKey_val M.hk M.ha, Sem.run_pure]
        simp only [mfind, Option.map_none] at f1
        simp [f1, M.hz w] <;> (cases ok' <;> rfl)
      · exact h.elim
    · exact h.elim
  · cases hc
theorem heap_set_other {w : World} {r k : Nat} {ob : Obj} (h : k ≠ r) : ({ w with heap := w.heap.setIfInBounds r ob } : World).heap[k]? = w.heap[k]? := by
  simp only [Array.getElem?_setIfInBounds]
  rw [if_neg (Ne.symm h)]
theorem heap_set_same {w : World} {r : Nat} {ob : Obj} (h : r < w.heap.size) : ({ w with heap := w.heap.setIfInBounds r ob } : World).heap[r]? = some ob := by
  simp only [Array.getElem?_setIfInBounds, if_true, h]
theorem Rel.setObj {n : Nat} {h : Nat → Ob} (hr : Rel B ρ n h w) {id g : Nat} (hid : id < n) {o' : Ob} {ob : Obj} (hw : wblk (ρ id) (h id) = some g)
    (hb : HR ρ n B { w with heap := w.heap.setIfInBounds g ob } (ρ id) o') (ha : ∀ k, ablk (ρ id) o' = some k → k = g) : Rel B ρ n (upd h id o') { w with heap := w.heap.setIfInBounds g ob } := by
  refine ⟨by simpa using hr.base, fun i hi => ?_, fun i j hi hj hij k hk => ?_⟩
  · by_cases e : i = id
    · subst e
      rw [upd_same]
      exact hb
    · rw [upd_ne _ _ _ e]
      refine (hr.obj i hi).keep (Nat.le_refl _) (fun _ _ => rfl) fun k hk => heap_set_other ?_
      intro e2
      subst e2
      exact hr.sep id i hid hi (Ne.symm e) k hw hk
  · by_cases e : i = id
    · subst e
      rw [upd_same] at hk
      rw [upd_ne _ _ _ (Ne.symm hij)]
      have : k = g := ha k (wblk_ablk hk)
      subst this
      exact hr.sep i j hi hj hij k hw
    · rw [upd_ne _ _ _ e] at hk
      by_cases e2 : j = id
      · subst e2
        rw [upd_same]
        intro hj'
        have := ha k hj'
        subst this
        exact hr.sep i j hi hj hij k hk (wblk_ablk hw)
      · rw [upd_ne _ _ _ e2]
        exact hr.sep i j hi hj hij k hk
theorem below_setObj {g : Nat} {ob : Obj} (hg : B ≤ g) : Below B w { w with heap := w.heap.setIfInBounds g ob } :=
  ⟨rfl, rfl, rfl, by simp, fun k hk => heap_set_other (by omega)⟩
theorem keyThatStays_same {v : Value} {w : World} (h : Instr.sameBits 10000 v v = true) : (Instr.keyThatStays v v).run P w = .ok v w := by
  simp [Instr.keyThatStays, h]
theorem good_mup {ka va : Bool} {KE VE : ET} {x k v : AO} (hs : RelS N B ρ s a w) (hd : ∀ e, o.dst = some e → e < N) (hc : chkOp P o.op (.mup ka KE va VE x k v) = true) (h : (opF s (.mup ka KE va VE x k v)).run s o.dst K) : Good P N B ρ s a w K o := by
  simp only [chkOp] at hc
  split at hc
  · rename_i t x' k' v' ho
    simp only [Bool.and_eq_true] at hc
    obtain ⟨⟨⟨hx, hk⟩, hv⟩, hm⟩ := hc
    obtain ⟨kt, et, z, M⟩ := mapOk_of hm
    have h1 := opd_R hs hx
    have h2 := opd_R hs hk
    have h3 := opd_R hs hv
    simp only [opF] at h
    split at h
    · rename_i id hxv
      rw [hxv] at h1
      simp only [R] at h1
      split at h
      · rename_i m key val hm1 hk1 hv1
        have hob := hs.rel.obj id h1.1
        have hmo := mobj_eq hm1
        rw [hmo] at hob
        obtain ⟨hB, es, hb, hes, hborn⟩ := hob
        have hkv := keyD_val hk1 h2
        have hvv := keyD_val hv1 h3
        have hlt : (ρ id).blk < w.heap.size := (Array.getElem?_eq_some_iff.1 hb).1
        have f1 := findKey_flat (P := P) (w := w) (VE := VE) (va := va) M.hk M.ha key es.toList m hes
        simp only [OR.run] at h
        have fin : ∀ es' : Array MapEntry, es'.toList.map (fun e => (e.key, e.val)) = (mput KE key val m).map (fun p => (valE ka KE p.1, valE va VE p.2)) → (∀ (i : Nat) (e : MapEntry), es'[i]? = some e → e.born = i) →
            (execOp a.eval o).run P w = .ok (.value undef) { w with heap := w.heap.setIfInBounds (ρ id).blk (.map es' es'.size) } ∨ (execOp a.eval o).run P w = .ok .skip { w with heap := w.heap.setIfInBounds (ρ id).blk (.map es' es'.size) } → Good P N B ρ s a w K o := by
          intro es' e1 e2 hrun
          have hr := hs.rel.setObj h1.1 (g := (ρ id).blk) (ob := .map es' es'.size) (o' := .mp ka KE va VE (mput KE key val m)) (by rw [hmo]; rfl) ⟨hB, es', heap_set_same hlt, e1, e2⟩ (fun k hk => by simpa [ablk] using hk.symm)
          refine ⟨undef, _, ?_, ρ, _, h.2, hs.put (Nat.le_refl _) (fun _ _ => rfl) hr (v := .top) (by simp [R]) hd, fun _ _ => rfl, by rw [S.put_nx]; exact Nat.le_refl _, below_setObj hB⟩
          rcases hrun with hrun | hrun
          · exact .inl hrun
          · exact .inr ⟨hrun, rfl⟩
        have hsz : es.toList.length = m.length := by simpa using congrArg List.length hes
        rw [Array.length_toList] at hsz
        cases hf : mfind KE key m 0 with
        | none =>
          rw [hf] at f1
          simp only [Option.map_none] at f1
          refine fin (es.push { key := valE ka KE key, val := valE va VE val, born := es.size }) ?_ ?_ ?_
          · rw [mfind_none KE key val m 0 hf, List.map_append, ← hes]
            simp
          · intro i e hi
            rw [Array.getElem?_push] at hi
            split at hi
            · cases hi; simp_all
            · exact hborn i e hi
          · first
            | (left; simp [execOp, ho, Instr.mapUpdate, run_underlying M.hu, h1.2, hkv, hvv, getMap hb, checkKey_val M.hk M.ha, f1, setMap _ hb]; done)
            | (right; simp [execOp, ho, Instr.mapUpdate, run_underlying M.hu, h1.2, hkv, hvv, getMap hb, checkKey_val M.hk M.ha, f1, setMap _ hb]; done)
        | some p =>
          obtain ⟨j, u⟩ := p
          rw [hf] at f1
          simp only [Option.map_some] at f1
          obtain ⟨j', hj, hmj, hput⟩ := mfind_some KE key val m 0 j u hf
          have hj' : j = j' := by omega
          subst hj'
          have hjl : j < es.size := by
            rw [hsz]
            exact (List.getElem?_eq_some_iff.1 hmj).1
          have hkey : es[j].key = valE ka KE key := by
            have := congrArg (fun l => l[j]?) hes
            simp only [List.getElem?_map, hmj, Option.map_some] at this
            rw [Array.getElem?_toList, Array.getElem?_eq_getElem hjl] at this
            simp only [Option.map_some, Option.some.injEq, Prod.mk.injEq] at this
            exact this.1
          have hks := keyThatStays_same (P := P) (w := w) (sameBits_val (n := 9999) (flat_one M.hk M.ha) key)
          refine fin (es.modify j fun e => { e with key := valE ka KE key, val := valE va VE val }) ?_ ?_ ?_
          · rw [hput, List.map_set, ← hes]
            apply List.ext_getElem?
            intro i
            simp only [List.getElem?_map, Array.getElem?_toList, Array.getElem?_modify, List.getElem?_set, List.length_map, Array.length_toList]
            by_cases e : j = i
            · subst e
              simp [hjl]
            · simp [e]
          · intro i e hi
            rw [Array.getElem?_modify] at hi
            split at hi
            · rename_i hji
              subst hji
              rw [Array.getElem?_eq_getElem hjl] at hi
              simp only [Option.map_some, Option.some.injEq] at hi
              subst hi
              exact hborn j es[j] (Array.getElem?_eq_getElem hjl)
            · exact hborn i e hi
          · have hgk : ((es[j]?).map (·.key)).getD (valE ka KE key) = valE ka KE key := by
              rw [Array.getElem?_eq_getElem hjl]
              simpa using hkey
            first
            | (left; simp [execOp, ho, Instr.mapUpdate, run_underlying M.hu, h1.2, hkv, hvv, getMap hb, checkKey_val M.hk M.ha, f1, setMap _ hb, hgk, hkey, hjl, hks]; done)
            | (right; simp [execOp, ho, Instr.mapUpdate, run_underlying M.hu, h1.2, hkv, hvv, getMap hb, checkKey_val M.hk M.ha, f1, setMap _ hb, hgk, hkey, hjl, hks]; done)
      · exact h.elim
    · exact h.elim
  · cases hc
/-- Every operation but a call and a panic. -/
theorem op_good {ao : AOp} (hs : RelS N B ρ s a w) (hd : ∀ e, o.dst = some e → e < N) (hc : chkOp P o.op ao = true) (h : (opF s ao).run s o.dst K) : Good P N B ρ s a w K o := by
  cases ao with
  | mv => exact good_mv hs hd hc h
  | mvn => exact good_mvn hs hd hc h
  | pick => exact good_pick hs hd hc h
  | alloc => exact good_alloc hs hd hc h
  | box => exact good_box hs hd hc h
  | ld => exact good_ld hs hd hc h
  | st => exact good_st hs hd hc h
  | nck => exact good_nck hs hd hc h
  | bin => exact good_bin hs hd hc h
  | binb => exact good_binb hs hd hc h
  | eqa => exact good_eqa hs hd hc h
  | not => exact good_not hs hd hc h
  | neg => exact good_neg hs hd hc h
  | cv => exact good_cv hs hd hc h
  | fa => exact good_fa hs hd hc h
  | fld => exact good_fld hs hd hc h
  | ia => exact good_ia hs hd hc h
  | iaa => exact good_iaa hs hd hc h
  | ixs => exact good_ixs hs hd hc h
  | ixa => exact good_ixa hs hd hc h
  | ext => exact good_ext hs hd hc h
  | mkf => exact good_mkf hs hd hc h
  | mki => exact good_mki hs hd hc h
  | tas => exact good_tas hs hd hc h
  | ifn => exact good_ifn hs hd hc h
  | bld => exact good_bld hs hd hc h
  | bsl => exact good_bsl hs hd hc h
  | msl => exact good_msl hs hd hc h
  | slc => exact good_slc hs hd hc h
  | len => exact good_len hs hd hc h
  | app => exact good_app hs hd hc h
  | mx => exact good_mx hs hd hc h
  | mkm => exact good_mkm hs hd hc h
  | mlk => exact good_mlk hs hd hc h
  | mup => exact good_mup hs hd hc h
  | call => exact h.elim
  | pan => exact h.elim
  | no => exact h.elim
end
end Go.Proofs.YtbolfnkgbjkbjaaGreat.AM
