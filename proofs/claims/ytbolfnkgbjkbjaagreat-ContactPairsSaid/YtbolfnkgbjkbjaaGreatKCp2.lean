/- ContactPairs: what its proof stands on, part 2. -/
import Derived.Orders
import Derived.Recover
import Derived.Test.YtbolfnkgbjkbjaaGreatKCp1
section
set_option linter.unusedVariables false
set_option linter.unusedSimpArgs false
namespace Go.Proofs.YtbolfnkgbjkbjaaGreat.AM
open Go Go.RowKit
section
variable {P : Program} {N B : Nat} {ρ : Nat → Bnd} {s : S} {a : Act} {w : World} {K : S → Prop} {o : Oper}
theorem chk_fields {n d d' : Nat} {em : Bool} (ih : ∀ (t : TypeId) (ks : ET), flatTy P d t = some ks → ∀ (cs : List V) (xs : List Value) (b : Bool) (w : World), RL ρ n cs xs → eqL ks cs cs = some b →
      (Instr.checkKey em d' t (valOf P t xs)).run P w = .ok () w) (cs : List V) (xs : Array Value) (hx : RL ρ n cs xs.toList) (w : World) :
    ∀ (fs : List Field) (off : Nat) (ks : ET) (b : Bool), flatFs P (flatTy P d) off fs = some ks → eqL ks (cs.drop off) (cs.drop off) = some b →
      ∀ f ∈ fs, f.name ≠ "_" ∧ ∃ v, (part f.type xs f.offset).run P w = .ok v w ∧ (Instr.checkKey em d' f.type v).run P w = .ok () w
  | [], off, ks, b, h, heq => by simp
  | f :: fs, off, ks, b, h, heq => by
    simp only [flatFs] at h
    split at h
    · rename_i m hm
      split at h
      · rename_i r hr
        split at h
        · rename_i hc
          obtain ⟨hoff, hname, hsz⟩ := hc
          simp only [Option.some.injEq] at h
          subst h
          obtain ⟨b1, b2, e1, e2, rfl⟩ := eqL_split m r _ _ b heq
          have hl := eqL_len _ _ _ _ e1
          simp only [List.length_take, List.length_drop] at hl
          have hxl := hx.length
          simp only [Array.length_toList] at hxl
          have p1 := part_val (P := P) (xs := xs) (off := off) (w := w) hsz (flat_agg hm) (by omega)
          have q := ih f.type m hm _ _ b1 w ((hx.drop off).take m.length) e1
          rw [List.drop_drop] at e2
          have rest := chk_fields ih cs xs hx w fs (off + m.length) r b2 hr e2
          intro g hg
          rw [List.mem_cons] at hg
          rcases hg with rfl | hg
          · exact ⟨hname, _, by rw [hoff]; exact p1, q⟩
          · exact rest g hg
        · cases h
      · cases h
    · cases h
theorem chk_items {n d' : Nat} {em : Bool} {e : TypeId} {m : ET} (hsz : szOf P e = some m.length) (hag : aggOf P e = some true ∨ (aggOf P e = some false ∧ m.length = 1))
    (ih : ∀ (cs : List V) (xs : List Value) (b : Bool) (w : World), RL ρ n cs xs → eqL m cs cs = some b → (Instr.checkKey em d' e (valOf P e xs)).run P w = .ok () w)
    (cs : List V) (xs : Array Value) (hx : RL ρ n cs xs.toList) (w : World) :
    ∀ (k st : Nat) (b : Bool), eqL (List.replicate k m).flatten (cs.drop (st * m.length)) (cs.drop (st * m.length)) = some b →
      ∀ j ∈ List.range' st k, ∃ v, (part e xs (j * m.length)).run P w = .ok v w ∧ (Instr.checkKey em d' e v).run P w = .ok () w
  | 0, st, b, heq => by simp
  | k + 1, st, b, heq => by
    rw [List.replicate_succ, List.flatten_cons] at heq
    obtain ⟨b1, b2, e1, e2, rfl⟩ := eqL_split m _ _ _ b heq
    have hl := eqL_len _ _ _ _ e1
    simp only [List.length_take, List.length_drop] at hl
    have hxl := hx.length
    simp only [Array.length_toList] at hxl
    have p1 := part_val (P := P) (xs := xs) (off := st * m.length) (w := w) hsz hag (by omega)
    have q := ih _ _ b1 w ((hx.drop (st * m.length)).take m.length) e1
    rw [List.drop_drop, show st * m.length + m.length = (st + 1) * m.length by rw [Nat.succ_mul]] at e2
    have rest := chk_items hsz hag ih cs xs hx w k (st + 1) b2 e2
    intro j hj
    rw [List.range'_succ, List.mem_cons] at hj
    rcases hj with rfl | hj
    · exact ⟨_, p1, q⟩
    · exact rest j hj
theorem chkKey_flat {n : Nat} {em : Bool} : ∀ (d : Nat) (t : TypeId) (ks : ET), flatTy P d t = some ks → ∀ (d' : Nat), d ≤ d' → ∀ (cs : List V) (xs : List Value) (b : Bool) (w : World), RL ρ n cs xs →
    eqL ks cs cs = some b → (Instr.checkKey em d' t (valOf P t xs)).run P w = .ok () w
  | 0, t, ks, h => by simp [flatTy] at h
  | d + 1, t, ks, h => by
    intro d' hd cs xs b w hx heq
    obtain ⟨d', rfl⟩ : ∃ m, d' = m + 1 := ⟨d' - 1, by omega⟩
    simp only [flatTy] at h
    split at h
    · rename_i k hu
      cases h
      obtain ⟨h1, _⟩ := eqL_len _ _ _ _ heq
      obtain ⟨c, rfl⟩ := List.length_eq_one_iff.1 h1
      obtain ⟨x, rfl⟩ := List.length_eq_one_iff.1 (hx.length.symm.trans h1)
      simp only [RL, and_true] at hx
      have ha : aggOf P t = some false := by simp [aggOf, hu]
      simp only [valOf, ha, List.headD_cons]
      cases c <;> simp only [eqL] at heq <;> first | (cases heq; done) | skip
      simp only [R] at hx
      rw [hx]
      simp [Instr.checkKey, run_underlying hu]
    · rename_i hu
      cases h
      obtain ⟨h1, _⟩ := eqL_len _ _ _ _ heq
      obtain ⟨c, rfl⟩ := List.length_eq_one_iff.1 h1
      obtain ⟨x, rfl⟩ := List.length_eq_one_iff.1 (hx.length.symm.trans h1)
      simp only [RL, and_true] at hx
      have ha : aggOf P t = some false := by simp [aggOf, hu]
      simp only [valOf, ha, List.headD_cons]
      cases c <;> simp only [eqL] at heq <;> first | (cases heq; done) | skip
      simp only [R] at hx
      rw [hx]
      simp [Instr.checkKey, run_underlying hu]
    · rename_i fs hu
      split at h
      · rename_i hst
        simp only [valOf, aggOf_struct hu]
        have each := chk_fields (P := P) (n := n) (d := d) (d' := d') (em := em) (fun t ks h cs xs b w h1 h2 => chkKey_flat d t ks h d' (by omega) cs xs b w h1 h2) cs xs.toArray (by simpa using hx) w fs.toList 0 ks b h (by simpa using heq)
        rw [Instr.checkKey]
        simp only [Sem.run_bind, run_underlying hu, Result.andThen_ok]
        rw [← Array.forIn_toList]
        generalize fs.toList = L at each
        induction L with
        | nil => simp
        | cons f L ihL =>
          obtain ⟨hn, v, p1, p2⟩ := each f (by simp)
          simp only [List.forIn_cons, Sem.run_bind, hn, ne_eq, not_false_eq_true, if_true, Result.andThen_ok, p1, p2, Sem.run_pure]
          exact ihL (fun y hy => each y (by simp [hy]))
      · cases h
    · rename_i k e hu
      split at h
      · rename_i m hm
        split at h
        · rename_i hsz
          cases h
          have ha : aggOf P t = some true := by simp [aggOf, hu]
          have hi : ∃ i, P.info? e = some i ∧ i.size = m.length := by
            unfold szOf at hsz
            simp only [Option.map_eq_some_iff] at hsz
            obtain ⟨i, hi, hi2⟩ := hsz
            exact ⟨i, hi, hi2⟩
          obtain ⟨i, hi, hi2⟩ := hi
          simp only [valOf, ha]
          have each := chk_items (P := P) (n := n) (d' := d') (em := em) hsz (flat_agg hm) (fun cs xs b w h1 h2 => chkKey_flat d e m hm d' (by omega) cs xs b w h1 h2) cs xs.toArray (by simpa using hx) w k 0 b (by simpa using heq)
          rw [Instr.checkKey]
          simp only [Sem.run_bind, run_underlying hu, Result.andThen_ok]
          simp only [Std.Legacy.Range.forIn_eq_forIn_range', Std.Legacy.Range.size, Nat.sub_zero, Nat.add_one_sub_one, Nat.div_one]
          generalize List.range' 0 k = is at each
          induction is with
          | nil => simp
          | cons j is ihL =>
            obtain ⟨v, p1, p2⟩ := each j (by simp)
            have hss : (sizeOf e).run P w = .ok m.length w := by simp [sizeOf, typeInfo, hi, hi2]
            simp only [List.forIn_cons, Sem.run_bind, hss, Result.andThen_ok, p1, p2, Sem.run_pure]
            exact ihL (fun y hy => each y (by simp [hy]))
        · cases h
      · cases h
    · cases h
theorem denB_eqL : ∀ (E : ET) (x y : den E), eqL E ((enc E x).map Sc.toV) ((enc E y).map Sc.toV) = some (denB E x y)
  | [], _, _ => rfl
  | [.int k], x, y => by simp [enc, SK.sc, Sc.toV, eqL, denB]
  | [.bool], x, y => by simp [enc, SK.sc, Sc.toV, eqL, denB]
  | .int k :: k' :: r, x, y => by
    have := denB_eqL (k' :: r) x.2 y.2
    simp only [enc, SK.sc, List.map_cons, Sc.toV, eqL, this, denB]
    try simp
  | .bool :: k' :: r, x, y => by
    have := denB_eqL (k' :: r) x.2 y.2
    simp only [enc, SK.sc, List.map_cons, Sc.toV, eqL, this, denB]
    try simp
theorem denB_eq : ∀ (E : ET) (x y : den E), denB E x y = true ↔ x = y
  | [], _, _ => by simp [denB]
  | [.int k], x, y => by simp only [denB, beq_iff_eq]; try exact Iff.rfl
  | [.bool], x, y => by simp only [denB, beq_iff_eq]; try exact Iff.rfl
  | .int k :: k' :: r, x, y => by
    have := denB_eq (k' :: r) x.2 y.2
    simp only [denB, Bool.and_eq_true, beq_iff_eq, this]
    exact ⟨fun h => Prod.ext h.1 h.2, fun h => ⟨congrArg (·.1) h, congrArg (·.2) h⟩⟩
  | .bool :: k' :: r, x, y => by
    have := denB_eq (k' :: r) x.2 y.2
    simp only [denB, Bool.and_eq_true, beq_iff_eq, this]
    exact ⟨fun h => Prod.ext h.1 h.2, fun h => ⟨congrArg (·.1) h, congrArg (·.2) h⟩⟩
def mfind {α : Type} (KE : ET) (k : den KE) : List (den KE × α) → Nat → Option (Nat × α)
  | [], _ => none
  | p :: r, i => bif denB KE k p.1 then some (i, p.2) else mfind KE k r (i + 1)
theorem mget_mfind {α : Type} (KE : ET) (k : den KE) : ∀ (m : List (den KE × α)) (i : Nat), mget KE k m = (mfind KE k m i).map (·.2)
  | [], i => rfl
  | p :: r, i => by
    simp only [mget, mfind]
    cases denB KE k p.1
    · exact mget_mfind KE k r (i + 1)
    · rfl
theorem mfind_none {α : Type} (KE : ET) (k : den KE) (u : α) : ∀ (m : List (den KE × α)) (i : Nat), mfind KE k m i = none → mput KE k u m = m ++ [(k, u)]
  | [], i, _ => rfl
  | p :: r, i, h => by
    simp only [mfind] at h
    simp only [mput]
    cases hd : denB KE k p.1
    · rw [hd] at h
      simp only [cond_false, List.cons_append]
      rw [mfind_none KE k u r (i + 1) h]
    · rw [hd] at h; simp at h
theorem mfind_some {α : Type} (KE : ET) (k : den KE) (u : α) : ∀ (m : List (den KE × α)) (i j : Nat) (v : α), mfind KE k m i = some (j, v) → ∃ j', j = i + j' ∧ m[j']? = some (k, v) ∧ mput KE k u m = m.set j' (k, u)
  | [], i, j, v, h => by simp [mfind] at h
  | p :: r, i, j, v, h => by
    simp only [mfind] at h
    simp only [mput]
    cases hd : denB KE k p.1
    · rw [hd] at h
      obtain ⟨j', h1, h2, h3⟩ := mfind_some KE k u r (i + 1) j v h
      exact ⟨j' + 1, by omega, by simpa using h2, by simp only [cond_false, List.set_cons_succ, h3]⟩
    · rw [hd] at h
      simp only [cond_true, Option.some.injEq, Prod.mk.injEq] at h
      have hk := (denB_eq KE k p.1).1 hd
      exact ⟨0, by omega, by simp [hk, ← h.2], by simp⟩
theorem enc_RL {n : Nat} (E : ET) (x : den E) : RL ρ n ((enc E x).map Sc.toV) ((enc E x).map Sc.val) := RL_scs _
theorem valOf_valE {t : TypeId} {ag : Bool} {E : ET} (ha : aggOf P t = some ag) (h1 : ag = false → E.length = 1) (x : den E) : valOf P t ((enc E x).map Sc.val) = valE ag E x := by
  unfold valOf valE
  rw [ha]
  cases ag with
  | true => rfl
  | false =>
    have := enc_length E x
    have h2 := h1 rfl
    match henc : enc E x with
    | [] => rw [henc] at this; simp at this; omega
    | y :: ys => rfl
theorem flat_one {d : Nat} {t : TypeId} {ks : ET} {ag : Bool} (h : flatTy P d t = some ks) (ha : aggOf P t = some ag) : ag = false → ks.length = 1 := by
  intro e
  subst e
  rcases flat_agg h with h1 | ⟨_, h1⟩
  · rw [ha] at h1; cases h1
  · exact h1
theorem findAsking_flat {VE : ET} {va ka : Bool} {kt : TypeId} {KE : ET} (key : den KE) (kv : Value) (heq : ∀ k' : den KE, (Op.equal kt kv (valE ka KE k')).run P w = .ok (denB KE key k') w) :
    ∀ (es : List MapEntry) (m : List (den KE × den VE)) (i : Nat), es.map (fun e => (e.key, e.val)) = m.map (fun p => (valE ka KE p.1, valE va VE p.2)) →
      (Instr.findAsking kt kv es i).run P w = .ok ((mfind KE key m i).map fun p => (p.1, valE va VE p.2)) w
  | [], [], i, _ => by simp [Instr.findAsking, mfind]
  | e :: es, p :: m, i, h => by
    simp only [List.map_cons, List.cons.injEq, Prod.mk.injEq] at h
    have hq := heq p.1
    rw [← h.1.1] at hq
    have ih := findAsking_flat key kv heq es m (i + 1) h.2
    simp only [mfind]
    cases hd : denB KE key p.1
    · rw [hd] at hq
      simp only [Instr.findAsking, Sem.run_bind, hq, Result.andThen_ok, cond_false]
      simpa using ih
    · rw [hd] at hq
      simp only [Instr.findAsking, Sem.run_bind, hq, Result.andThen_ok, cond_true]
      simp [h.1.2]
  | [], _ :: _, _, h => by simp at h
  | _ :: _, [], _, h => by simp at h
theorem findNow_int {VE : ET} {va : Bool} {k : IntKind} (x : Int) : ∀ (es : List MapEntry) (m : List (den [SK.int k] × den VE)) (i : Nat), es.map (fun e => (e.key, e.val)) = m.map (fun p => (valE false [SK.int k] p.1, valE va VE p.2)) →
    Instr.findNow (.int k) (.int k x) es i = some ((mfind [SK.int k] x m i).map fun p => (p.1, valE va VE p.2))
  | [], [], i, _ => rfl
  | e :: es, p :: m, i, h => by
    simp only [List.map_cons, List.cons.injEq, Prod.mk.injEq] at h
    have ih := findNow_int x es m (i + 1) h.2
    have hk : e.key = .int k p.1 := by rw [h.1.1]; rfl
    have hb : denB [SK.int k] x p.1 = (x == (show Int from p.1)) := rfl
    simp only [Instr.findNow, hk, Instr.sameNow, if_true, mfind, hb]
    cases hd : (x == (show Int from p.1))
    · simp only [show (x == (p.1 : Int)) = false from hd, cond_false]; exact ih
    · simp only [show (x == (p.1 : Int)) = true from hd, cond_true]; simp [h.1.2]
  | [], _ :: _, _, h => by simp at h
  | _ :: _, [], _, h => by simp at h
theorem findNow_bool {VE : ET} {va : Bool} (x : Bool) : ∀ (es : List MapEntry) (m : List (den [SK.bool] × den VE)) (i : Nat), es.map (fun e => (e.key, e.val)) = m.map (fun p => (valE false [SK.bool] p.1, valE va VE p.2)) →
    Instr.findNow .bool (.bool x) es i = some ((mfind [SK.bool] x m i).map fun p => (p.1, valE va VE p.2))
  | [], [], i, _ => rfl
  | e :: es, p :: m, i, h => by
    simp only [List.map_cons, List.cons.injEq, Prod.mk.injEq] at h
    have ih := findNow_bool x es m (i + 1) h.2
    have hk : e.key = .bool p.1 := by rw [h.1.1]; rfl
    have hb : denB [SK.bool] x p.1 = (x == (show Bool from p.1)) := rfl
    simp only [Instr.findNow, hk, Instr.sameNow, mfind, hb]
    cases hd : (x == (show Bool from p.1))
    · simp only [show (x == (p.1 : Bool)) = false from hd, cond_false]; exact ih
    · simp only [show (x == (p.1 : Bool)) = true from hd, cond_true]; simp [h.1.2]
  | [], _ :: _, _, h => by simp at h
  | _ :: _, [], _, h => by simp at h
theorem findKey_flat {VE : ET} {va ka : Bool} {kt : TypeId} {KE : ET} (hk : flatTy P 6 kt = some KE) (ha : aggOf P kt = some ka) (key : den KE) (es : List MapEntry) (m : List (den KE × den VE))
    (h : es.map (fun e => (e.key, e.val)) = m.map (fun p => (valE ka KE p.1, valE va VE p.2))) :
    (Instr.findKey kt (valE ka KE key) es).run P w = .ok ((mfind KE key m 0).map fun p => (p.1, valE va VE p.2)) w := by
  have heq : ∀ k' : den KE, (Op.equal kt (valE ka KE key) (valE ka KE k')).run P w = .ok (denB KE key k') w := fun k' => by
    have := eqIn_flat (P := P) (ρ := fun _ => default) (n := 0) 6 kt KE hk 10000 (by omega) _ _ _ _ _ w (enc_RL KE key) (enc_RL KE k') (denB_eqL KE key k')
    rw [valOf_valE ha (flat_one hk ha), valOf_valE ha (flat_one hk ha)] at this
    exact this
  have wide : (match P.underlying kt with | some (.array _ _) | some (.struct _) => true | _ => false) = true → (Instr.findKey kt (valE ka KE key) es).run P w = .ok ((mfind KE key m 0).map fun p => (p.1, valE va VE p.2)) w := by
    intro hw
    rw [run_findKey_eq (P := P) (w := w) hw]
    exact findAsking_flat key _ heq es m 0 h
  have hk' := hk
  simp only [flatTy] at hk'
  split at hk'
  · rename_i k hu
    cases hk'
    have : ka = false := by simp [aggOf, hu] at ha; first | exact ha | exact ha.symm
    subst this
    have := findNow_int (va := va) (VE := VE) (k := k) key es m 0 h
    have hv : valE false [SK.int k] key = .int k key := rfl
    simp only [Instr.findKey, Sem.run_bind, run_underlying hu, Result.andThen_ok, hv, this, Sem.run_pure]
  · rename_i hu
    cases hk'
    have : ka = false := by simp [aggOf, hu] at ha; first | exact ha | exact ha.symm
    subst this
    have := findNow_bool (va := va) (VE := VE) key es m 0 h
    have hv : valE false [SK.bool] key = .bool key := rfl
    simp only [Instr.findKey, Sem.run_bind, run_underlying hu, Result.andThen_ok, hv, this, Sem.run_pure]
  · rename_i fs hu
    exact wide (by rw [hu])
  · rename_i n e hu
    exact wide (by rw [hu])
  · cases hk'
theorem checkKey_val {ka em : Bool} {kt : TypeId} {KE : ET} (hk : flatTy P 6 kt = some KE) (ha : aggOf P kt = some ka) (key : den KE) : (Instr.checkKey em 10000 kt (valE ka KE key)).run P w = .ok () w := by
  have := chkKey_flat (P := P) (ρ := fun _ => default) (n := 0) (em := em) 6 kt KE hk 10000 (by omega) _ _ _ w (enc_RL KE key) (denB_eqL KE key key)
  rw [valOf_valE ha (flat_one hk ha)] at this
  exact this
theorem keyD_val {n : Nat} {ag : Bool} {E : ET} {v : V} {x : Value} {y : den E} (h : keyD ag E v = some y) (hR : R ρ n v x) : x = valE ag E y := by
  unfold keyD at h
  cases ag with
  | true =>
    simp only [] at h
    split at h
    · rename_i cs
      split at h
      · rename_i ss hss
        have h1 := scs_eq _ _ hss
        have h2 := enc_dec _ _ _ h
        simp only [R] at hR
        obtain ⟨xs, rfl, hr⟩ := hR
        subst h1
        have h3 : xs.toList = ss.map Sc.val := by
          clear h2 h hss
          generalize xs.toList = l at hr
          induction ss generalizing l with
          | nil => cases l <;> simp_all [RL]
          | cons q ss ih =>
            cases l with
            | nil => simp [RL] at hr
            | cons z zs =>
              simp only [List.map_cons, RL] at hr
              rw [(R_toV q z).1 hr.1, ih zs hr.2, List.map_cons]
        simp only [valE, h2, ← h3, Array.toArray_toList]
      · cases h
    · cases h
  | false =>
    simp only [] at h
    split at h
    · rename_i q hq
      have h2 := enc_dec _ _ _ h
      simp only [valE, h2, List.map_cons, List.map_nil, List.headD_cons]
      cases v <;> simp only [V.sc] at hq <;> cases hq
      · simpa [R, Sc.val] using hR
      · simpa [R, Sc.val] using hR
    · cases h
theorem mkV_val {n : Nat} {ag : Bool} {E : ET} (y : den E) : R ρ n (mkV ag ((enc E y).map Sc.toV)) (valE ag E y) := by
  cases ag with
  | true =>
    simp only [mkV, valE, R]
    exact ⟨_, rfl, by simpa using RL_scs (enc E y)⟩
  | false =>
    simp only [mkV, valE]
    match enc E y with
    | [] => simp [R]
    | [q] => simp only [List.map_cons, List.map_nil, List.headD_cons]; exact (R_toV q _).2 rfl
    | _ :: _ :: _ => simp [R]
theorem sameBits_sc (n : Nat) (q : Sc) : Instr.sameBits n q.val q.val = true := by
  cases q <;> cases n <;> simp [Instr.sameBits, Sc.val]
theorem sameBits_val {n : Nat} {ag : Bool} {E : ET} (hE : ag = false → E.length = 1) (y : den E) : Instr.sameBits (n + 1) (valE ag E y) (valE ag E y) = true := by
  cases ag with
  | true =>
    simp only [valE, Instr.sameBits, beq_self_eq_true, Bool.true_and]
    generalize enc E y = l
    rw [List.all_eq_true]
    intro p hp
    try simp only [List.toList_toArray] at hp
    have : ∀ l : List Value, ∀ p ∈ l.zip l, p.1 = p.2 ∧ p.1 ∈ l := by
      intro l
      induction l with
      | nil => simp
      | cons z zs ih =>
        intro p hp
        simp only [List.zip_cons_cons, List.mem_cons] at hp
        rcases hp with rfl | hp
        · exact ⟨rfl, by simp⟩
        · exact ⟨(ih p hp).1, by simp [(ih p hp).2]⟩
    obtain ⟨h1, h2⟩ := this _ p hp
    rw [List.mem_map] at h2
    obtain ⟨q, _, hq⟩ := h2
    show Instr.sameBits n p.1 p.2 = true
    rw [← h1, ← hq]
    exact sameBits_sc n q
  | false =>
    have := enc_length E y
    have h2 := hE rfl
    simp only [valE]
    match henc : enc E y with
    | [] => rw [henc] at this; simp at this; omega
    | q :: qs => simp only [List.map_cons, List.headD_cons]; exact sameBits_sc _ q
theorem mobj_eq {ka : Bool} {KE : ET} {va : Bool} {VE : ET} {ob : Ob} {m : List (den KE × den VE)} (h : mobj ka KE va VE ob = some m) : ob = .mp ka KE va VE m := by
  unfold mobj at h
  split at h
  · split at h
    · rename_i hd
      simp only [decide_eq_true_eq] at hd
      obtain ⟨rfl, rfl⟩ := hd
      split at h
      · rename_i e
        obtain ⟨rfl, rfl⟩ := e
        cases h
        rfl
      · cases h
    · cases h
  · cases h
structure MapOk (P : Program) (t : TypeId) (ka : Bool) (KE : ET) (va : Bool) (VE : ET) (k e : TypeId) (z : Value) : Prop where
  hu : P.underlying t = some (.map k e)
  hk : flatTy P 6 k = some KE
  ha : aggOf P k = some ka
  hz : ∀ w, (zeroValue e).run P w = .ok z w
  hzR : cst z (mkV va ((enc VE (dflt VE)).map Sc.toV)) = true
theorem mapOk_of {t : TypeId} {ka : Bool} {KE : ET} {va : Bool} {VE : ET} (h : mapOk P t ka KE va VE = true) : ∃ k e z, MapOk P t ka KE va VE k e z := by
  unfold mapOk at h
  split at h
  · rename_i k e hu
    simp only [Bool.and_eq_true, decide_eq_true_eq] at h
    obtain ⟨⟨⟨h1, h2⟩, h3⟩, h4⟩ := h
    split at h4
    · rename_i i hi
      split at h4
      · rename_i v hv
        exact ⟨k, e, v, hu, h1, h2, fun w => by simp [zeroValue, typeInfo, hi, hv], h4⟩
      · cases h4
    · cases h4
  · cases h
theorem getMap {w : World} {r : Nat} {es : Array MapEntry} {clock : Nat} (hb : w.heap[r]? = some (.map es clock)) : (getObj r).run P w = .ok (.map es clock) w := by simp [getObj, Sem.run, hb]
theorem setMap {w : World} {r : Nat} {es : Array MapEntry} {clock : Nat} (ob : Obj) (hb : w.heap[r]? = some (.map es clock)) : (setObj r ob).run P w = .ok () { w with heap := w.heap.setIfInBounds r ob } := by simp [setObj, Sem.run, hb]
theorem good_mkm {ka va : Bool} {KE VE : ET} (hs : RelS N B ρ s a w) (hd : ∀ e, o.dst = some e → e < N) (hc : chkOp P o.op (.mkm ka KE va VE) = true) (h : (opF s (.mkm ka KE va VE)).run s o.dst K) : Good P N B ρ s a w K o := by
  simp only [chkOp] at hc
  split at hc
  · rename_i t ho
    refine ⟨.map (some w.heap.size), w.alloc (.map #[] 0), .inl ?_, ?_⟩
    · simp [execOp, ho, Instr.makeMap]
    · simp only [opF, OR.run] at h
      have hr : Rel B (upd ρ s.nx ⟨w.heap.size, 0, none, 0, 0⟩) (s.nx + 1) (upd s.hp s.nx (.mp ka KE va VE [])) (w.alloc (.map #[] 0)) := by
        refine hs.rel.new (b := ⟨w.heap.size, 0, none, 0, 0⟩) ⟨hs.rel.base, #[], heap_alloc_new w _, by simp, by simp⟩ (by simp) (fun k hk => Below.heap_alloc _ _ _ hk) ?_
        intro g hg
        simp only [ablk, Option.some.injEq] at hg
        omega
      refine ⟨upd ρ s.nx ⟨w.heap.size, 0, none, 0, 0⟩, S.put ⟨s.sl, upd s.hp s.nx (.mp ka KE va VE []), s.nx + 1⟩ o.dst (.mp s.nx), h.2, ?_, agree_upd _ _ _, by rw [S.put_nx]; exact Nat.le_succ _, (Below.refl _ _).alloc hs.rel.base _⟩
      exact hs.put (Nat.le_succ _) (agree_upd _ _ _) hr (v := .mp s.nx) (by simp only [R, upd_same]; exact ⟨Nat.lt_succ_self _, trivial⟩) hd
  · cases hc
theorem good_mlk {ka va ok : Bool} {KE VE : ET} {x k : AO} (hs : RelS N B ρ s a w) (hd : ∀ e, o.dst = some e → e < N) (hc : chkOp P o.op (.mlk ka KE va VE ok x k) = true) (h : (opF s (.mlk ka KE va VE ok x k)).run s o.dst K) : Good P N B ρ s a w K o := by
  simp only [chkOp] at hc
  split at hc
  · rename_i t x' k' ok' ho
    simp only [Bool.and_eq_true, decide_eq_true_eq] at hc
    obtain ⟨⟨⟨hx, hk⟩, rfl⟩, hm⟩ := hc
    obtain ⟨kt, et, z, M⟩ := mapOk_of hm
    have h1 := opd_R hs hx
    have h2 := opd_R hs hk
    have fin : ∀ (r : Option (den VE)) (v : Value), (r.isSome = true → v = valE va VE (r.getD (dflt VE))) → (r = none → v = z) → (Instr.lookup t (a.eval x') (a.eval k') ok').run P w = .ok (if ok' then .tuple #[v, .bool r.isSome] else v) w →
        (OR.val (mlkV va VE ok' r)).run s o.dst K → Good P N B ρ s a w K o := by
      intro r v hv1 hv2 hrun hK
      have hv : R ρ s.nx (mkV va ((enc VE (r.getD (dflt VE))).map Sc.toV)) v := by
        cases r with
        | none => rw [hv2 rfl]; exact cst_R M.hzR
        | some y => rw [hv1 rfl]; exact mkV_val y
      refine good_val hs hd (v := mlkV va VE ok' r) (x := if ok' then .tuple #[v, .bool r.isSome] else v) ?_ ?_ hK
      · cases ok' with
        | true =>
          simp only [mlkV, if_true, R]
          exact ⟨_, rfl, by simp only [RL, R]; first | exact ⟨hv, trivial, trivial⟩ | exact ⟨hv, rfl, trivial⟩⟩
        | false => simpa [mlkV] using hv
      · simp [execOp, ho, hrun]
    simp only [opF] at h
    split at h
    · rename_i id hv
      rw [hv] at h1
      simp only [R] at h1
      split at h
      · rename_i m key hm1 hk1
        have hob := hs.rel.obj id h1.1
        rw [mobj_eq hm1] at hob
        obtain ⟨_, es, hb, hes, _⟩ := hob
        have hkv := keyD_val hk1 h2
        have f1 := findKey_flat (P := P) (w := w) (VE := VE) (va := va) M.hk M.ha key es.toList m hes
        rw [mget_mfind KE key m 0] at h
        refine fin _ (match mfind KE key m 0 with | some p => valE va VE p.2 | none => z) ?_ ?_ ?_ h
        · cases mfind KE key m 0 <;> simp
        · cases mfind KE key m 0 <;> simp
        · simp only [Instr.lookup, Sem.run_bind, run_underlying M.hu, Result.andThen_ok, h1.2, hkv, getMap hb, checkKey_val M.hk M.ha, f1, Sem.run_pure]
          cases mfind KE key m 0 with
          | none => simp [M.hz w] <;> (cases ok' <;> rfl)
          | some p => simp <;> (cases ok' <;> rfl)
      · exact h.elim
    · rename_i hv
      rw [hv] at h1
      simp only [R] at h1
      split at h
      · rename_i key hk1
        have hkv := keyD_val hk1 h2
        have f1 := findKey_flat (P := P) (w := w) (VE := VE) (va := va) M.hk M.ha key [] [] rfl
        refine fin none z (by simp) (fun _ => rfl) ?_ h
        simp only [Instr.lookup, Sem.run_bind, run_underlying M.hu, Result.andThen_ok, h1, hkv, checkKey_val M.hk M.ha, Sem.run_pure]
        simp only [mfind, Option.map_none] at f1
        simp [f1, M.hz w] <;> (cases ok' <;> rfl)
      · exact h.elim
    · exact h.elim
  · cases hc
theorem heap_set_other {w : World} {r k : Nat} {ob : Obj} (h : k ≠ r) : ({ w with heap := w.heap.setIfInBounds r ob } : World).heap[k]? = w.heap[k]? := by
  simp only [Array.getElem?_setIfInBounds]
  rw [if_neg (Ne.symm h)]
theorem heap_set_same {w : World} {r : Nat} {ob : Obj} (h : r < w.heap.size) : ({ w with heap := w.heap.setIfInBounds r ob } : World).heap[r]? = some ob := by
  simp only [Array.getElem?_setIfInBounds, if_true, h]
theorem Rel.setObj {n : Nat} {h : Nat → Ob} (hr : Rel B ρ n h w) {id g : Nat} (hid : id < n) {o' : Ob} {ob : Obj} (hw : wblk (ρ id) (h id) = some g)
    (hb : HR ρ n B { w with heap := w.heap.setIfInBounds g ob } (ρ id) o') (ha : ∀ k, ablk (ρ id) o' = some k → k = g) : Rel B ρ n (upd h id o') { w with heap := w.heap.setIfInBounds g ob } := by
  refine ⟨by simpa using hr.base, fun i hi => ?_, fun i j hi hj hij k hk => ?_⟩
  · by_cases e : i = id
    · subst e
      rw [upd_same]
      exact hb
    · rw [upd_ne _ _ _ e]
      refine (hr.obj i hi).keep (Nat.le_refl _) (fun _ _ => rfl) fun k hk => heap_set_other ?_
      intro e2
      subst e2
      exact hr.sep id i hid hi (Ne.symm e) k hw hk
  · by_cases e : i = id
    · subst e
      rw [upd_same] at hk
      rw [upd_ne _ _ _ (Ne.symm hij)]
      have : k = g := ha k (wblk_ablk hk)
      subst this
      exact hr.sep i j hi hj hij k hw
    · rw [upd_ne _ _ _ e] at hk
      by_cases e2 : j = id
      · subst e2
        rw [upd_same]
        intro hj'
        have := ha k hj'
        subst this
        exact hr.sep i j hi hj hij k hk (wblk_ablk hw)
      · rw [upd_ne _ _ _ e2]
        exact hr.sep i j hi hj hij k hk
theorem below_setObj {g : Nat} {ob : Obj} (hg : B ≤ g) : Below B w { w with heap := w.heap.setIfInBounds g ob } :=
  ⟨rfl, rfl, rfl, by simp, fun k hk => heap_set_other (by omega)⟩
theorem keyThatStays_same {v : Value} {w : World} (h : Instr.sameBits 10000 v v = true) : (Instr.keyThatStays v v).run P w = .ok v w := by
  simp [Instr.keyThatStays, h]
theorem good_mup {ka va : Bool} {KE VE : ET} {x k v : AO} (hs : RelS N B ρ s a w) (hd : ∀ e, o.dst = some e → e < N) (hc : chkOp P o.op (.mup ka KE va VE x k v) = true) (h : (opF s (.mup ka KE va VE x k v)).run s o.dst K) : Good P N B ρ s a w K o := by
  simp only [chkOp] at hc
  split at hc
  · rename_i t x' k' v' ho
    simp only [Bool.and_eq_true] at hc
    obtain ⟨⟨⟨hx, hk⟩, hv⟩, hm⟩ := hc
    obtain ⟨kt, et, z, M⟩ := mapOk_of hm
    have h1 := opd_R hs hx
    have h2 := opd_R hs hk
    have h3 := opd_R hs hv
    simp only [opF] at h
    split at h
    · rename_i id hxv
      rw [hxv] at h1
      simp only [R] at h1
      split at h
      · rename_i m key val hm1 hk1 hv1
        have hob := hs.rel.obj id h1.1
        have hmo := mobj_eq hm1
        rw [hmo] at hob
        obtain ⟨hB, es, hb, hes, hborn⟩ := hob
        have hkv := keyD_val hk1 h2
        have hvv := keyD_val hv1 h3
        have hlt : (ρ id).blk < w.heap.size := (Array.getElem?_eq_some_iff.1 hb).1
        have f1 := findKey_flat (P := P) (w := w) (VE := VE) (va := va) M.hk M.ha key es.toList m hes
        simp only [OR.run] at h
        have fin : ∀ es' : Array MapEntry, es'.toList.map (fun e => (e.key, e.val)) = (mput KE key val m).map (fun p => (valE ka KE p.1, valE va VE p.2)) → (∀ (i : Nat) (e : MapEntry), es'[i]? = some e → e.born = i) →
            (execOp a.eval o).run P w = .ok (.value undef) { w with heap := w.heap.setIfInBounds (ρ id).blk (.map es' es'.size) } ∨ (execOp a.eval o).run P w = .ok .skip { w with heap := w.heap.setIfInBounds (ρ id).blk (.map es' es'.size) } → Good P N B ρ s a w K o := by
          intro es' e1 e2 hrun
          have hr := hs.rel.setObj h1.1 (g := (ρ id).blk) (ob := .map es' es'.size) (o' := .mp ka KE va VE (mput KE key val m)) (by rw [hmo]; rfl) ⟨hB, es', heap_set_same hlt, e1, e2⟩ (fun k hk => by simpa [ablk] using hk.symm)
          refine ⟨undef, _, ?_, ρ, _, h.2, hs.put (Nat.le_refl _) (fun _ _ => rfl) hr (v := .top) (by simp [R]) hd, fun _ _ => rfl, by rw [S.put_nx]; exact Nat.le_refl _, below_setObj hB⟩
          rcases hrun with hrun | hrun
          · exact .inl hrun
          · exact .inr ⟨hrun, rfl⟩
        have hsz : es.toList.length = m.length := by simpa using congrArg List.length hes
        rw [Array.length_toList] at hsz
        cases hf : mfind KE key m 0 with
        | none =>
          rw [hf] at f1
          simp only [Option.map_none] at f1
          refine fin (es.push { key := valE ka KE key, val := valE va VE val, born := es.size }) ?_ ?_ ?_
          · rw [mfind_none KE key val m 0 hf, List.map_append, ← hes]
            simp
          · intro i e hi
            rw [Array.getElem?_push] at hi
            split at hi
            · cases hi; simp_all
            · exact hborn i e hi
          · first
            | (left; simp [execOp, ho, Instr.mapUpdate, run_underlying M.hu, h1.2, hkv, hvv, getMap hb, checkKey_val M.hk M.ha, f1, setMap _ hb]; done)
            | (right; simp [execOp, ho, Instr.mapUpdate, run_underlying M.hu, h1.2, hkv, hvv, getMap hb, checkKey_val M.hk M.ha, f1, setMap _ hb]; done)
        | some p =>
          obtain ⟨j, u⟩ := p
          rw [hf] at f1
          simp only [Option.map_some] at f1
          obtain ⟨j', hj, hmj, hput⟩ := mfind_some KE key val m 0 j u hf
          have hj' : j = j' := by omega
          subst hj'
          have hjl : j < es.size := by
            rw [hsz]
            exact (List.getElem?_eq_some_iff.1 hmj).1
          have hkey : es[j].key = valE ka KE key := by
            have := congrArg (fun l => l[j]?) hes
            simp only [List.getElem?_map, hmj, Option.map_some] at this
            rw [Array.getElem?_toList, Array.getElem?_eq_getElem hjl] at this
            simp only [Option.map_some, Option.some.injEq, Prod.mk.injEq] at this
            exact this.1
          have hks := keyThatStays_same (P := P) (w := w) (sameBits_val (n := 9999) (flat_one M.hk M.ha) key)
          refine fin (es.modify j fun e => { e with key := valE ka KE key, val := valE va VE val }) ?_ ?_ ?_
          · rw [hput, List.map_set, ← hes]
            apply List.ext_getElem?
            intro i
            simp only [List.getElem?_map, Array.getElem?_toList, Array.getElem?_modify, List.getElem?_set, List.length_map, Array.length_toList]
            by_cases e : j = i
            · subst e
              simp [hjl]
            · simp [e]
          · intro i e hi
            rw [Array.getElem?_modify] at hi
            split at hi
            · rename_i hji
              subst hji
              rw [Array.getElem?_eq_getElem hjl] at hi
              simp only [Option.map_some, Option.some.injEq] at hi
              subst hi
              exact hborn j es[j] (Array.getElem?_eq_getElem hjl)
            · exact hborn i e hi
          · have hgk : ((es[j]?).map (·.key)).getD (valE ka KE key) = valE ka KE key := by
              rw [Array.getElem?_eq_getElem hjl]
              simpa using hkey
            first
            | (left; simp [execOp, ho, Instr.mapUpdate, run_underlying M.hu, h1.2, hkv, hvv, getMap hb, checkKey_val M.hk M.ha, f1, setMap _ hb, hgk, hkey, hjl, hks]; done)
            | (right; simp [execOp, ho, Instr.mapUpdate, run_underlying M.hu, h1.2, hkv, hvv, getMap hb, checkKey_val M.hk M.ha, f1, setMap _ hb, hgk, hkey, hjl, hks]; done)
      · exact h.elim
    · exact h.elim
  · cases hc
/-- Every operation but a call and a panic. -/
theorem op_good {ao : AOp} (hs : RelS N B ρ s a w) (hd : ∀ e, o.dst = some e → e < N) (hc : chkOp P o.op ao = true) (h : (opF s ao).run s o.dst K) : Good P N B ρ s a w K o := by
  cases ao with
  | mv => exact good_mv hs hd hc h
  | mvn => exact good_mvn hs hd hc h
  | pick => exact good_pick hs hd hc h
  | alloc => exact good_alloc hs hd hc h
  | box => exact good_box hs hd hc h
  | ld => exact good_ld hs hd hc h
  | st => exact good_st hs hd hc h
  | nck => exact good_nck hs hd hc h
  | bin => exact good_bin hs hd hc h
  | binb => exact good_binb hs hd hc h
  | eqa => exact good_eqa hs hd hc h
  | not => exact good_not hs hd hc h
  | neg => exact good_neg hs hd hc h
  | cv => exact good_cv hs hd hc h
  | fa => exact good_fa hs hd hc h
  | fld => exact good_fld hs hd hc h
  | ia => exact good_ia hs hd hc h
  | iaa => exact good_iaa hs hd hc h
  | ixs => exact good_ixs hs hd hc h
  | ixa => exact good_ixa hs hd hc h
  | ext => exact good_ext hs hd hc h
  | mkf => exact good_mkf hs hd hc h
  | mki => exact good_mki hs hd hc h
  | tas => exact good_tas hs hd hc h
  | ifn => exact good_ifn hs hd hc h
  | bld => exact good_bld hs hd hc h
  | bsl => exact good_bsl hs hd hc h
  | msl => exact good_msl hs hd hc h
  | slc => exact good_slc hs hd hc h
  | slm => exact good_slm hs hd hc h
  | len => exact good_len hs hd hc h
  | app => exact good_app hs hd hc h
  | mx => exact good_mx hs hd hc h
  | mkm => exact good_mkm hs hd hc h
  | mlk => exact good_mlk hs hd hc h
  | mup => exact good_mup hs hd hc h
  | call => exact h.elim
  | pan => exact h.elim
  | no => exact h.elim
end
end Go.Proofs.YtbolfnkgbjkbjaaGreat.AM
end
section
set_option linter.unusedVariables false
set_option linter.unusedSimpArgs false
namespace Go.Proofs.YtbolfnkgbjkbjaaGreat.AM
open Go Go.RowKit

/-- What a call comes to, whether the callee has a body or is known to the model. -/
def Reach (P : Program) (f : Nat) (xs : Array Value) (w : World) (Q : Ending → World → Prop) : Prop :=
  ((callFunc f xs).run P w = .ok (.enter f xs) w ∧ Calls P f xs w Q) ∨ (∃ v w', (callFunc f xs).run P w = .ok (.value v) w' ∧ Q (.returned v) w')
def OutR (ρ : Nat → Bnd) (n : Nat) : Out → Ending → Prop
  | .ret v, .returned x => R ρ n v x
  | .pan v, .panicked chain => ∃ x, chain = [{ v := x, recovered := false }] ∧ R ρ n v x
  | _, _ => False
def ExtR (B : Nat) (ρ : Nat → Bnd) (n : Nat) (w : World) (ρ' : Nat → Bnd) (n' : Nat) (w' : World) : Prop := Agree ρ ρ' n ∧ n ≤ n' ∧ Below B w w'
theorem ExtR.refl (B : Nat) (ρ : Nat → Bnd) (n : Nat) (w : World) : ExtR B ρ n w ρ n w := ⟨fun _ _ => rfl, Nat.le_refl _, Below.refl _ _⟩
theorem ExtR.trans {B : Nat} {ρ ρ1 ρ2 : Nat → Bnd} {n n1 n2 : Nat} {w w1 w2 : World} (h : ExtR B ρ n w ρ1 n1 w1) (k : ExtR B ρ1 n1 w1 ρ2 n2 w2) : ExtR B ρ n w ρ2 n2 w2 :=
  ⟨fun i hi => (k.1 i (Nat.lt_of_lt_of_le hi h.2.1)).trans (h.1 i hi), Nat.le_trans h.2.1 k.2.1, h.2.2.trans k.2.2⟩
abbrev Spec := List V → (Nat → Ob) → Nat → (Out → (Nat → Ob) → Nat → Prop) → Prop
def EntryOk (P : Program) (f : Nat) (T : Spec) : Prop := ∀ (B : Nat) (ρ : Nat → Bnd) (n : Nat) (h : Nat → Ob) (w : World) (args : List V) (xs : List Value) (K : Out → (Nat → Ob) → Nat → Prop),
  Rel B ρ n h w → RL ρ n args xs → T args h n K → Reach P f xs.toArray w fun e w' => ∃ out ρ' n' h', K out h' n' ∧ OutR ρ' n' out e ∧ Rel B ρ' n' h' w' ∧ ExtR B ρ n w ρ' n' w'
def TabOk (P : Program) (T : Tab) : Prop := ∀ f, EntryOk P f (T f)
def AxR (ρ : Nat → Bnd) (n : Nat) : AX → Exit → Prop
  | .nrm, .normal => True
  | .ext i, .exit j => i = j
  | .ret, .ret => True
  | .pan v, .panic chain => ∃ x, chain = [{ v := x, recovered := false }] ∧ R ρ n v x
  | _, _ => False
def PostX (N B : Nat) (ρ : Nat → Bnd) (n : Nat) (w : World) (D : List Deferred) (Q : AX → S → Prop) : Exit → Act → World → Prop := fun e a' w' =>
  ∃ ρ' s' ax, AxR ρ' s'.nx ax e ∧ Q ax s' ∧ RelS N B ρ' s' a' w' ∧ ExtR B ρ n w ρ' s'.nx w' ∧ a'.defers = D
theorem ExtR.trans0 {B : Nat} {ρ ρ1 ρ2 : Nat → Bnd} {n n1 n2 : Nat} {w w1 w2 : World} (h : ExtR B ρ n w ρ1 n1 w1) (k : ExtR B ρ1 n w1 ρ2 n2 w2) : ExtR B ρ n w ρ2 n2 w2 :=
  ⟨fun i hi => (k.1 i hi).trans (h.1 i hi), k.2.1, h.2.2.trans k.2.2⟩
theorem ExtR.less {B : Nat} {ρ ρ1 : Nat → Bnd} {n n0 n1 : Nat} {w w1 : World} (hn : n0 ≤ n) (h : ExtR B ρ n w ρ1 n1 w1) : ExtR B ρ n0 w ρ1 n1 w1 :=
  ⟨fun i hi => h.1 i (Nat.lt_of_lt_of_le hi hn), Nat.le_trans hn h.2.1, h.2.2⟩
theorem PostX.ext {N B : Nat} {ρ ρ1 : Nat → Bnd} {n n1 : Nat} {w w1 : World} {D : List Deferred} {Q : AX → S → Prop} (h : ExtR B ρ n w ρ1 n1 w1) {e : Exit} {a' : Act} {w' : World} (hp : PostX N B ρ1 n w1 D Q e a' w') : PostX N B ρ n w D Q e a' w' := by
  obtain ⟨ρ', s', ax, h1, h2, h3, h4, h5⟩ := hp
  exact ⟨ρ', s', ax, h1, h2, h3, h.trans0 h4, h5⟩
theorem put_defers (a : Act) (d : Option Nat) (x : Value) : (a.put d x).defers = a.defers := by cases d <;> rfl
section
variable {P : Program} {T : Tab} {N B : Nat}
/-- One operation that is carried out. -/
theorem op1_ok (hT : TabOk P T) {ρ : Nat → Bnd} {s : S} {a : Act} {w : World} {o : Oper} {ao : AOper} (hs : RelS N B ρ s a w) (hd0 : o.dst = ao.d) (hd : ∀ e, o.dst = some e → e < N) (hc : chkOp P o.op ao.op = true)
    {K : S → Prop} {PQ : V → S → Prop} (h : runOp1 T ao K PQ s) {next : Act → World → Prop} {Q : Exit → Act → World → Prop}
    (hK : ∀ ρ' s' a' w', K s' → RelS N B ρ' s' a' w' → ExtR B ρ s.nx w ρ' s'.nx w' → a'.defers = a.defers → next a' w')
    (hP : ∀ ρ' s' a' w' v x, PQ v s' → RelS N B ρ' s' a' w' → ExtR B ρ s.nx w ρ' s'.nx w' → a'.defers = a.defers → R ρ' s'.nx v x → Q (.panic [{ v := x, recovered := false }]) a' w') :
    o.wp P a w next Q := by
  have plain : (opF s ao.op).runF s ao.d K → o.wp P a w next Q := by
    intro h
    rw [OR.runF_iff] at h
    rw [← hd0] at h
    obtain ⟨x, w', hrun, ρ', s', hk, hr, ha, hn, hb⟩ := op_good hs hd hc h
    unfold Oper.wp
    rcases hrun with hrun | ⟨hrun, rfl⟩
    · rw [hrun]
      exact hK ρ' s' _ w' hk hr ⟨ha, hn, hb⟩ (put_defers _ _ _)
    · rw [hrun]
      exact hK ρ' s' _ w' hk hr ⟨ha, hn, hb⟩ (put_defers _ _ _)
  unfold runOp1 at h
  split at h
  · rename_i f args hop
    rw [hop] at hc
    simp only [chkOp] at hc
    split at hc
    · rename_i c ho
      obtain ⟨callee, cargs, cty⟩ := c
      simp only [] at hc
      split at hc
      · rename_i f'
        simp only [Bool.and_eq_true] at hc
        have hf := opd_R hs hc.1
        have hargs := opds_R hs hc.2
        split at h
        · rename_i fi fs cs hfv
          rw [forceL_iff, forceN_iff] at h
          rw [hfv] at hf
          simp only [R] at hf
          obtain ⟨xs, ys, he, h1, h2⟩ := hf
          have hall := (h1.append hargs).append h2
          have hE := hT fi B ρ s.nx s.hp w _ _ _ hs.rel hall h
          have hres : (execOp a.eval o).run P w = (callFunc fi ((xs.toList ++ cargs.toList.map a.eval ++ ys.toList).toArray)).run P w := by
            have hxs : xs ++ cargs.map a.eval ++ ys = (xs.toList ++ cargs.toList.map a.eval ++ ys.toList).toArray := by
              apply Array.ext'
              simp
            rw [← hxs]
            simp [execOp, ho, resolve, Deferred.ofValue, he, invoke]
          unfold Oper.wp
          rw [hres]
          have fin : ∀ (e : Ending) (w'' : World), (∃ out ρ' n' h', (match out with
              | .ret v => forceV v fun v => putK s.sl h' n' ao.d v K
              | .pan v => PQ v ⟨s.sl, h', n'⟩) ∧ OutR ρ' n' out e ∧ Rel B ρ' n' h' w'' ∧ ExtR B ρ s.nx w ρ' n' w'') →
              (match e with
                | .returned v => next (a.put o.dst v) w''
                | .panicked chain => Q (.panic chain) a w''
                | .outgrown => LetsOut Q) := by
            rintro e w'' ⟨out, ρ', n', h', hk, ho', hr', hx'⟩
            cases out with
            | ret v =>
              cases e with
              | returned x =>
                simp only [forceV_iff, putK_iff] at hk
                rw [← hd0] at hk
                exact hK ρ' _ _ w'' hk (hs.put hx'.2.1 hx'.1 hr' ho' hd) (by rw [S.put_nx]; exact hx') (put_defers _ _ _)
              | panicked _ => exact ho'.elim
              | outgrown => exact ho'.elim
            | pan v =>
              cases e with
              | returned x => exact ho'.elim
              | panicked chain =>
                obtain ⟨x, rfl, hx⟩ := ho'
                exact hP ρ' ⟨s.sl, h', n'⟩ a w'' v x hk ⟨hr', fun t => R.mono hx'.2.1 hx'.1 _ _ (hs.sl t), hs.size⟩ hx' rfl hx
              | outgrown => exact ho'.elim
          rcases hE with ⟨hrun, hcalls⟩ | ⟨v, w', hrun, hq⟩
          · rw [hrun, Oper.upon_enter]
            exact hcalls.mono fun e w'' he => by
              have := fin e w'' he
              cases e <;> exact this
          · rw [hrun]
            exact fin _ _ hq
        · exact h.elim
      · cases hc
    · cases hc
  · rename_i x hop
    rw [hop] at hc
    simp only [chkOp] at hc
    split at hc
    · rename_i x' ho
      have hx := opd_R hs hc
      split at h
      · rename_i t v hv
        rw [hv] at hx
        have hx' := hx
        simp only [R] at hx'
        obtain ⟨y, he, _⟩ := hx'
        have hrun : (execOp a.eval o).run P w = .halt (.panic (a.eval x')) w := by
          simp [execOp, ho, Instr.panic, he]
        unfold Oper.wp
        rw [hrun, Oper.upon_panic]
        exact hP ρ s a w _ _ h hs (ExtR.refl _ _ _ _) rfl hx
      · exact h.elim
    · cases hc
  · exact plain h
/-- An operation with its guard. -/
theorem op_ok (hT : TabOk P T) {ops : Array Oper} {ρ : Nat → Bnd} {s : S} {a : Act} {w : World} {o : Oper} {ao : AOper} (hs : RelS N B ρ s a w) (hc : chkOper P ops.toList N o ao = true)
    {K : S → Prop} {PQ : V → S → Prop} (h : runOp T ao K PQ s) {next : Act → World → Prop} {Q : Exit → Act → World → Prop}
    (hK : ∀ ρ' s' a' w', K s' → RelS N B ρ' s' a' w' → ExtR B ρ s.nx w ρ' s'.nx w' → a'.defers = a.defers → next a' w')
    (hP : ∀ ρ' s' a' w' v x, PQ v s' → RelS N B ρ' s' a' w' → ExtR B ρ s.nx w ρ' s'.nx w' → a'.defers = a.defers → R ρ' s'.nx v x → Q (.panic [{ v := x, recovered := false }]) a' w') :
    if Region.wanted o (yielded ops a.tmps) then o.wp P a w next Q ∨ (o.asks P a w ∧ LetsOut Q) else next (a.put o.dst undef) w := by
  unfold chkOper at hc
  simp only [Bool.and_eq_true, decide_eq_true_eq] at hc
  obtain ⟨⟨⟨hd0, hdN⟩, hop⟩, hg⟩ := hc
  have hd : ∀ e, o.dst = some e → e < N := by
    intro e he
    rw [he] at hdN
    simpa using hdN
  have skip : K (s.put ao.d (.tup [])) → next (a.put o.dst undef) w := fun h =>
    hK ρ (s.put ao.d (.tup [])) _ w h (by rw [← hd0]; exact hs.put (Nat.le_refl _) (fun _ _ => rfl) hs.rel (by simp only [R]; exact ⟨#[], rfl, by simp [RL]⟩) hd) (by rw [S.put_nx]; exact ExtR.refl _ _ _ _) (put_defers _ _ _)
  unfold runOp at h
  cases hgo : o.guard with
  | none =>
    have hga : ao.g = none := by
      rw [hgo] at hg
      cases hga : ao.g with
      | none => rfl
      | some _ => rw [hga] at hg; simp at hg
    rw [hga] at h
    have : Region.wanted o (yielded ops a.tmps) = true := by simp [Region.wanted, hgo]
    rw [if_pos this]
    exact .inl (op1_ok hT hs hd0 hd hop h hK hP)
  | some gw =>
    obtain ⟨j, want⟩ := gw
    rw [hgo] at hg
    cases hga : ao.g with
    | none => rw [hga] at hg; simp at hg
    | some gw' =>
      obtain ⟨g, want'⟩ := gw'
      rw [hga] at hg h
      simp only [Bool.and_eq_true, decide_eq_true_eq] at hg
      obtain ⟨hdst, rfl⟩ := hg
      simp only [] at h
      split at h
      · rename_i b hb
        have hR := hs.sl g
        rw [hb] at hR
        simp only [R] at hR
        have hy : yielded ops a.tmps j = some b := by
          have hdst' : (ops[j]?).bind (·.dst) = some g := by simpa using hdst
          unfold yielded
          rw [hdst']
          have : a.tmps[g]? = some (.bool b) := by
            cases ht : a.tmps[g]? with
            | none => simp [Array.getD_eq_getD_getElem?, ht, undef] at hR
            | some y => simpa [Array.getD_eq_getD_getElem?, ht] using hR
          simp [this]
        have hw : Region.wanted o (yielded ops a.tmps) = (b == want) := by simp [Region.wanted, hgo, hy]
        rw [hw]
        cases want with
        | true =>
          simp only [] at h
          cases b with
          | true =>
            simp only [bcase] at h
            rw [st_self s g _ hb] at h
            exact .inl (op1_ok hT hs hd0 hd hop h hK hP)
          | false =>
            simp only [bcase] at h
            rw [upd_self _ _ _ hb] at h
            exact skip ((putK_iff _ _ _ _ _ _).1 h)
        | false =>
          simp only [] at h
          cases b with
          | true =>
            simp only [bcase] at h
            rw [upd_self _ _ _ hb] at h
            exact skip ((putK_iff _ _ _ _ _ _).1 h)
          | false =>
            simp only [bcase] at h
            rw [st_self s g _ hb] at h
            exact .inl (op1_ok hT hs hd0 hd hop h hK hP)
      · rename_i hb
        have hR := hs.sl g
        rw [hb] at hR
        simp only [R] at hR
        obtain ⟨xs, hR, hxs⟩ := hR
        have hxs : xs = #[] := by
          cases hl : xs.toList with
          | nil => exact Array.toList_eq_nil_iff.mp hl
          | cons _ _ => rw [hl] at hxs; simp [RL] at hxs
        subst hxs
        have hy : yielded ops a.tmps j = none := by
          have hdst' : (ops[j]?).bind (·.dst) = some g := by simpa using hdst
          unfold yielded
          rw [hdst']
          cases ht : a.tmps[g]? with
          | none => simp [ht]
          | some y =>
            have : y = .tuple #[] := by simpa [Array.getD_eq_getD_getElem?, ht] using hR
            simp [ht, this]
        have hw : Region.wanted o (yielded ops a.tmps) = false := by simp [Region.wanted, hgo, hy]
        rw [hw]
        exact skip ((putK_iff _ _ _ _ _ _).1 h)
      · exact h.elim
theorem ops_ok (hT : TabOk P T) {ops : Array Oper} {Q : Exit → Act → World → Prop} {K : S → Prop} {PQ : V → S → Prop} : ∀ (rest : List Oper) (l : List AOper) (i : Nat), ops.toList.drop i = rest → chkOps P ops.toList N rest l = true →
    ∀ {ρ : Nat → Bnd} {s : S} {a : Act} {w : World}, RelS N B ρ s a w → runOps T l K PQ s →
    (∀ ρ' s' a' w', K s' → RelS N B ρ' s' a' w' → ExtR B ρ s.nx w ρ' s'.nx w' → a'.defers = a.defers → Q .normal a' w') →
    (∀ ρ' s' a' w' v x, PQ v s' → RelS N B ρ' s' a' w' → ExtR B ρ s.nx w ρ' s'.nx w' → a'.defers = a.defers → R ρ' s'.nx v x → Q (.panic [{ v := x, recovered := false }]) a' w') →
    wpOps P ops Q (List.range' i rest.length) a w
  | [], [], i, _, _, ρ, s, a, w, hs, h, hK, hP => hK ρ s a w h hs (ExtR.refl _ _ _ _) rfl
  | o :: rest, ao :: l, i, hdr, hc, ρ, s, a, w, hs, h, hK, hP => by
    simp only [chkOps, Bool.and_eq_true] at hc
    have hi : ops[i]? = some o := by
      have : ops.toList[i]? = some o := by
        have := congrArg (·[0]?) hdr
        simpa using this
      simpa using this
    have hdr' : ops.toList.drop (i + 1) = rest := by
      have := congrArg (List.drop 1) hdr
      simpa [List.drop_drop, Nat.add_comm] using this
    simp only [List.length_cons, List.range'_succ, wpOps, hi]
    refine op_ok hT hs hc.1 h (fun ρ' s' a' w' hk hs' hx hd => ?_) hP
    refine ops_ok hT rest l (i + 1) hdr' hc.2 hs' hk (fun ρ2 s2 a2 w2 hk2 hs2 hx2 hd2 => hK ρ2 s2 a2 w2 hk2 hs2 (hx.trans hx2) (hd2.trans hd)) (fun ρ2 s2 a2 w2 v x hk2 hs2 hx2 hd2 hr => hP ρ2 s2 a2 w2 v x hk2 hs2 (hx.trans hx2) (hd2.trans hd) hr)
  | [], _ :: _, _, _, hc, _, _, _, _, _, _, _, _ => by simp [chkOps] at hc
  | _ :: _, [], _, _, hc, _, _, _, _, _, _, _, _ => by simp [chkOps] at hc
end
mutual
theorem R.less {ρ : Nat → Bnd} {n n' : Nat} : ∀ (v : V) (x : Value), R ρ n v x → V.lt n' v = true → R ρ n' v x
  | .top, _, _, _ => by simp [R]
  | .int _ _, _, h, _ => by simpa [R] using h
  | .bool _, _, h, _ => by simpa [R] using h
  | .ptr id _ _ _, _, h, hl => by
    simp only [R] at h ⊢
    simp only [V.lt, Nat.blt_eq] at hl
    exact ⟨hl, h.2⟩
  | .nilp, _, h, _ => by simpa [R] using h
  | .sl id _ _ _, _, h, hl => by
    simp only [R] at h ⊢
    simp only [V.lt, Nat.blt_eq] at hl
    exact ⟨hl, h.2⟩
  | .osl id, _, h, hl => by
    simp only [R] at h ⊢
    simp only [V.lt, Nat.blt_eq] at hl
    exact ⟨hl, h.2⟩
  | .nsl, _, h, _ => by simpa [R] using h
  | .fn _ fs cs, _, h, hl => by
    simp only [R] at h ⊢
    simp only [V.lt, Bool.and_eq_true] at hl
    obtain ⟨xs, ys, h0, h1, h2⟩ := h
    exact ⟨xs, ys, h0, RL.less fs _ h1 hl.1, RL.less cs _ h2 hl.2⟩
  | .nfn, _, h, _ => by simpa [R] using h
  | .ifc _ v, _, h, hl => by
    simp only [R] at h ⊢
    simp only [V.lt] at hl
    obtain ⟨y, h0, h1⟩ := h
    exact ⟨y, h0, R.less v y h1 hl⟩
  | .nifc, _, h, _ => by simpa [R] using h
  | .nmp, _, h, _ => by simpa [R] using h
  | .mp id, _, h, hl => by
    simp only [R] at h ⊢
    exact ⟨by simpa [V.lt] using hl, h.2⟩
  | .agg cs, _, h, hl => by
    simp only [R] at h ⊢
    simp only [V.lt] at hl
    obtain ⟨xs, h0, h1⟩ := h
    exact ⟨xs, h0, RL.less cs _ h1 hl⟩
  | .tup cs, _, h, hl => by
    simp only [R] at h ⊢
    simp only [V.lt] at hl
    obtain ⟨xs, h0, h1⟩ := h
    exact ⟨xs, h0, RL.less cs _ h1 hl⟩
theorem RL.less {ρ : Nat → Bnd} {n n' : Nat} : ∀ (vs : List V) (xs : List Value), RL ρ n vs xs → V.lts n' vs = true → RL ρ n' vs xs
  | [], [], _, _ => by simp [RL]
  | v :: vs, x :: xs, h, hl => by
    simp only [RL] at h ⊢
    simp only [V.lts, Bool.and_eq_true] at hl
    exact ⟨R.less v x h.1 hl.1, RL.less vs xs h.2 hl.2⟩
  | [], _ :: _, h, _ => by simp [RL] at h
  | _ :: _, [], h, _ => by simp [RL] at h
end
theorem subV_look {s : S} {n : Nat} : ∀ (l : List (Nat × V)) (t : Nat), SubV s n l → lookV l t = .top ∨ (s.sl t = lookV l t ∧ V.lt n (lookV l t) = true)
  | [], t, _ => .inl rfl
  | (i, v) :: l, t, h => by
    simp only [SubV] at h
    simp only [lookV]
    cases e : Nat.beq t i with
    | true =>
      have := Nat.eq_of_beq_eq_true e
      subst this
      exact .inr ⟨h.1.1, h.1.2⟩
    | false => exact subV_look l t h.2
theorem subO_look {s : S} {n : Nat} : ∀ (obs : List Ob) (k i : Nat), SubO s n k obs → i < obs.length → (lookO obs i = .no ∨ s.hp (k + i) = lookO obs i) ∧ ObLt n (lookO obs i)
  | [], _, _, _, h => by simp at h
  | o :: obs, k, 0, h, _ => by
    simp only [SubO] at h
    exact ⟨h.1.1, h.1.2⟩
  | o :: obs, k, i + 1, h, hi => by
    simp only [SubO] at h
    have := subO_look obs (k + 1) i h.2 (by simpa using hi)
    simp only [lookO]
    rw [show k + (i + 1) = k + 1 + i by omega]
    exact this
theorem sub_rel {N B : Nat} {ρ : Nat → Bnd} {s : S} {a : Act} {w : World} (hs : RelS N B ρ s a w) {n0 : Nat} {l : List (Nat × V)} {obs : List Ob} (h : Sub n0 s l obs) : RelS N B ρ (St l obs) a w := by
  obtain ⟨_, hn, hv, ho⟩ := h
  have hob : ∀ i, i < obs.length → (lookO obs i = .no ∨ s.hp i = lookO obs i) ∧ ObLt obs.length (lookO obs i) := by
    intro i hi
    have := subO_look obs 0 i ho hi
    simpa using this
  refine ⟨⟨hs.rel.base, fun i hi => ?_, fun i j hi hj hij g hg hgj => ?_⟩, fun t => ?_, hs.size⟩
  · have hi' : i < obs.length := hi
    obtain ⟨h1, h2⟩ := hob i hi'
    show HR ρ obs.length B w (ρ i) (lookO obs i)
    rcases h1 with h1 | h1
    · rw [h1]; trivial
    · have := hs.rel.obj i (by omega)
      rw [h1] at this
      generalize lookO obs i = o at this h2
      cases o with
      | no => trivial
      | var t cs =>
        obtain ⟨a1, a2, c, a3, a4⟩ := this
        exact ⟨a1, a2, c, a3, RL.less cs _ a4 h2⟩
      | rv cs => exact this
      | ro E l => exact this
      | own t E l => exact this
      | mp ka KE va VE m => exact this
  · have hi' : i < obs.length := hi
    have hj' : j < obs.length := hj
    have e1 : wblk (ρ i) (s.hp i) = some g := by
      change wblk (ρ i) (lookO obs i) = some g at hg
      rcases (hob i hi').1 with h1 | h1
      · rw [h1] at hg; cases hg
      · rw [h1]; exact hg
    have e2 : ablk (ρ j) (s.hp j) = some g := by
      change ablk (ρ j) (lookO obs j) = some g at hgj
      rcases (hob j hj').1 with h1 | h1
      · rw [h1] at hgj; cases hgj
      · rw [h1]; exact hgj
    exact hs.rel.sep i j (by omega) (by omega) hij g e1 e2
  · show R ρ obs.length (lookV l t) _
    rcases subV_look l t hv with h1 | ⟨h1, h2⟩
    · rw [h1]; simp [R]
    · have := hs.sl t
      rw [h1] at this
      exact R.less _ _ this h2
theorem memB_mem (i : Nat) : ∀ l : List Nat, memB i l = true ↔ i ∈ l
  | [] => by simp [memB]
  | j :: l => by
    simp only [memB, Bool.or_eq_true, List.mem_cons, memB_mem i l]
    constructor
    · rintro (h | h)
      · exact .inl (Nat.eq_of_beq_eq_true h).symm
      · exact .inr h
    · rintro (h | h)
      · subst h; exact .inl (by simp)
      · exact .inr h
theorem rnm_eq : ∀ (fs : List Nat) (i : Nat) (h : i < fs.length), rnm fs i = fs[i]
  | k :: l, 0, _ => rfl
  | k :: l, i + 1, h => by simpa [rnm] using rnm_eq l i (by simpa using h)
theorem fndIds_length {n0 : Nat} {s : S} {l : List (Nat × V)} : ∀ n i, (fndIds n0 s l i n).length = n
  | 0, _ => rfl
  | n + 1, i => by simp [fndIds, fndIds_length n (i + 1)]
theorem fndIds_low {n0 : Nat} {s : S} {l : List (Nat × V)} : ∀ n i j, j < n → i + j < n0 → rnm (fndIds n0 s l i n) j = i + j
  | 0, _, _, h, _ => by omega
  | n + 1, i, 0, _, h => by
    have : Nat.blt i n0 = true := by rw [Nat.blt_eq]; omega
    simp [fndIds, rnm, this]
  | n + 1, i, j + 1, h, h2 => by
    show rnm (fndIds n0 s l (i + 1) n) j = i + (j + 1)
    rw [fndIds_low n (i + 1) j (by omega) (by omega)]
    omega
mutual
theorem eqVV_eq : ∀ (v w : V), eqVV v w → v = w
  | .int k a, w, h => by
    cases w <;> simp only [eqVV] at h
    split at h
    · rename_i e; rw [of_decide_eq_true e, h]
    · exact h.elim
  | .bool a, w, h => by cases w <;> simp only [eqVV] at h; rw [h]
  | .agg cs, w, h => by cases w <;> simp only [eqVV] at h; rw [eqVL_eq _ _ h]
  | .tup cs, w, h => by cases w <;> simp only [eqVV] at h; rw [eqVL_eq _ _ h]
  | .ptr i e s f, w, h => by
    cases w <;> simp only [eqVV] at h
    split at h
    · rename_i e
      simp only [Bool.and_eq_true] at e
      rw [Nat.eq_of_beq_eq_true e.1.1, Nat.eq_of_beq_eq_true e.1.2, Nat.eq_of_beq_eq_true e.2, h]
    · exact h.elim
  | .sl i a b s, w, h => by
    cases w <;> simp only [eqVV] at h
    split at h
    · rename_i e
      simp only [Bool.and_eq_true] at e
      rw [Nat.eq_of_beq_eq_true e.1, Nat.eq_of_beq_eq_true e.2, h.1, h.2]
    · exact h.elim
  | .osl i, w, h => by
    cases w <;> simp only [eqVV] at h
    split at h
    · rename_i e; rw [Nat.eq_of_beq_eq_true e]
    · exact h.elim
  | .mp i, w, h => by
    cases w <;> simp only [eqVV] at h
    split at h
    · rename_i e; rw [Nat.eq_of_beq_eq_true e]
    · exact h.elim
  | .fn f a b, w, h => by
    cases w <;> simp only [eqVV] at h
    split at h
    · rename_i e; rw [Nat.eq_of_beq_eq_true e, eqVL_eq _ _ h.1, eqVL_eq _ _ h.2]
    · exact h.elim
  | .ifc t v, w, h => by
    cases w <;> simp only [eqVV] at h
    split at h
    · rename_i e; rw [Nat.eq_of_beq_eq_true e, eqVV_eq _ _ h]
    · exact h.elim
  | .nilp, w, h => by cases w <;> simp only [eqVV] at h; rfl
  | .nsl, w, h => by cases w <;> simp only [eqVV] at h; rfl
  | .nfn, w, h => by cases w <;> simp only [eqVV] at h; rfl
  | .nifc, w, h => by cases w <;> simp only [eqVV] at h; rfl
  | .nmp, w, h => by cases w <;> simp only [eqVV] at h; rfl
  | .top, w, h => by cases w <;> simp only [eqVV] at h; rfl
theorem eqVL_eq : ∀ (v w : List V), eqVL v w → v = w
  | [], w, h => by cases w <;> simp only [eqVL] at h; rfl
  | v :: vs, w, h => by
    cases w <;> simp only [eqVL] at h
    rw [eqVV_eq _ _ h.1, eqVL_eq _ _ h.2]
end
theorem eqOO_eq (o o' : Ob) (h : eqOO o o') : o = o' := by
  cases o <;> cases o' <;> simp only [eqOO] at h
  · split at h
    · rename_i e; rw [Nat.eq_of_beq_eq_true e, eqVL_eq _ _ h]
    · exact h.elim
  · rw [eqVL_eq _ _ h]
  · split at h
    · rename_i e; subst e; rw [← h]; rfl
    · exact h.elim
  · split at h
    · rename_i e
      rw [Nat.eq_of_beq_eq_true e]
      split at h
      · rename_i e2; subst e2; rw [← h]; rfl
      · exact h.elim
    · exact h.elim
  · split at h
    · rename_i m2 e
      subst h
      exact mobj_eq e
    · exact h.elim
section
variable {ρ ρ' : Nat → Bnd} {n n' : Nat} {fs : List Nat}
mutual
theorem R.ren (ha : ∀ i, i < n' → ρ' i = ρ (rnm fs i)) : ∀ (v : V) (x : Value), R ρ n (renV fs v) x → V.lt n' v = true → R ρ' n' v x
  | .top, _, _, _ => by simp [R]
  | .int _ _, _, h, _ => by simpa [R, renV] using h
  | .bool _, _, h, _ => by simpa [R, renV] using h
  | .ptr id _ _ _, _, h, hl => by
    simp only [R, renV] at h ⊢
    simp only [V.lt, Nat.blt_eq] at hl
    rw [ha id hl]
    exact ⟨hl, h.2⟩
  | .nilp, _, h, _ => by simpa [R, renV] using h
  | .sl id _ _ _, _, h, hl => by
    simp only [R, renV] at h ⊢
    simp only [V.lt, Nat.blt_eq] at hl
    rw [ha id hl]
    exact ⟨hl, h.2⟩
  | .osl id, _, h, hl => by
    simp only [R, renV] at h ⊢
    simp only [V.lt, Nat.blt_eq] at hl
    rw [ha id hl]
    exact ⟨hl, h.2⟩
  | .nsl, _, h, _ => by simpa [R, renV] using h
  | .fn _ fs cs, _, h, hl => by
    simp only [R, renV] at h ⊢
    simp only [V.lt, Bool.and_eq_true] at hl
    obtain ⟨xs, ys, h0, h1, h2⟩ := h
    exact ⟨xs, ys, h0, RL.ren ha fs _ h1 hl.1, RL.ren ha cs _ h2 hl.2⟩
  | .nfn, _, h, _ => by simpa [R, renV] using h
  | .ifc _ v, _, h, hl => by
    simp only [R, renV] at h ⊢
    simp only [V.lt] at hl
    obtain ⟨y, h0, h1⟩ := h
    exact ⟨y, h0, R.ren ha v y h1 hl⟩
  | .nifc, _, h, _ => by simpa [R, renV] using h
  | .nmp, _, h, _ => by simpa [R, renV] using h
  | .mp id, _, h, hl => by
    simp only [R, renV] at h ⊢
    simp only [V.lt, Nat.blt_eq] at hl
    rw [ha id hl]
    exact ⟨hl, h.2⟩
  | .agg cs, _, h, hl => by
    simp only [R, renV] at h ⊢
    simp only [V.lt] at hl
    obtain ⟨xs, h0, h1⟩ := h
    exact ⟨xs, h0, RL.ren ha cs _ h1 hl⟩
  | .tup cs, _, h, hl => by
    simp only [R, renV] at h ⊢
    simp only [V.lt] at hl
    obtain ⟨xs, h0, h1⟩ := h
    exact ⟨xs, h0, RL.ren ha cs _ h1 hl⟩
theorem RL.ren (ha : ∀ i, i < n' → ρ' i = ρ (rnm fs i)) : ∀ (vs : List V) (xs : List Value), RL ρ n (renL fs vs) xs → V.lts n' vs = true → RL ρ' n' vs xs
  | [], [], _, _ => by simp [RL]
  | v :: vs, x :: xs, h, hl => by
    simp only [RL, renL] at h ⊢
    simp only [V.lts, Bool.and_eq_true] at hl
    exact ⟨R.ren ha v x h.1 hl.1, RL.ren ha vs xs h.2 hl.2⟩
  | [], _ :: _, h, _ => by simp [RL, renL] at h
  | _ :: _, [], h, _ => by simp [RL, renL] at h
end
end
theorem eqVs_look {s : S} {fs : List Nat} {n : Nat} : ∀ (l : List (Nat × V)) (t : Nat), eqVs s fs l → vltsB n l = true → lookV l t = .top ∨ (s.sl t = renV fs (lookV l t) ∧ V.lt n (lookV l t) = true)
  | [], t, _, _ => .inl rfl
  | (i, v) :: l, t, h, hl => by
    simp only [eqVs] at h
    simp only [vltsB, Bool.and_eq_true] at hl
    simp only [lookV]
    cases e : Nat.beq t i with
    | true =>
      have := Nat.eq_of_beq_eq_true e
      subst this
      exact .inr ⟨eqVV_eq _ _ h.1, hl.1⟩
    | false => exact eqVs_look l t h.2 hl.2
theorem eqOs_look {s : S} {fs : List Nat} : ∀ (obs : List Ob) (k i : Nat), eqOs s fs k obs → i < obs.length → isNo (lookO obs i) = true ∨ s.hp (rnm fs (k + i)) = renO fs (lookO obs i)
  | o :: l, k, 0, h, _ => by
    simp only [lookO]
    simp only [eqOs] at h
    split at h
    · rename_i e; exact .inl e
    · exact .inr (eqOO_eq _ _ h.1)
  | o :: l, k, i + 1, h, hi => by
    simp only [lookO]
    simp only [eqOs] at h
    have h2 : eqOs s fs (k + 1) l := by
      split at h
      · exact h
      · exact h.2
    have := eqOs_look l (k + 1) i h2 (by simpa using hi)
    rwa [show k + 1 + i = k + (i + 1) by omega] at this
theorem olts_look {n : Nat} : ∀ (obs : List Ob) (i : Nat), oltsB n obs = true → oltB n (lookO obs i) = true
  | [], i, _ => by simp [lookO, oltB]
  | o :: l, 0, h => by
    simp only [oltsB, Bool.and_eq_true] at h
    exact h.1
  | o :: l, i + 1, h => by
    simp only [oltsB, Bool.and_eq_true] at h
    exact olts_look l i h.2
theorem keep_mem : ∀ (fs : List Nat) (obs : List Ob) (i : Nat), i < obs.length → i < fs.length → isNo (lookO obs i) = false → rnm fs i ∈ keepB fs obs
  | k :: fs, o :: l, 0, _, _, h => by
    simp only [lookO] at h
    simp [keepB, h, rnm]
  | k :: fs, o :: l, i + 1, h1, h2, h => by
    simp only [lookO] at h
    have := keep_mem fs l i (by simpa using h1) (by simpa using h2) h
    simp only [keepB, rnm]
    cases isNo o
    · exact List.mem_cons_of_mem _ this
    · exact this
  | [], _, _, _, h, _ => by simp at h
  | _ :: _, [], _, h, _, _ => by simp at h
theorem keep_inj : ∀ (fs : List Nat) (obs : List Ob), nodupB (keepB fs obs) = true → ∀ i j, i < obs.length → j < obs.length → i < fs.length → j < fs.length → isNo (lookO obs i) = false → isNo (lookO obs j) = false → rnm fs i = rnm fs j → i = j
  | k :: fs, o :: l, h, 0, 0, _, _, _, _, _, _, _ => rfl
  | k :: fs, o :: l, h, 0, j + 1, _, h2, _, h4, h5, h6, e => by
    simp only [lookO] at h5 h6
    simp only [keepB, h5, cond_false, nodupB, Bool.and_eq_true, Bool.not_eq_true', ← Bool.not_eq_true, memB_mem] at h
    simp only [rnm] at e
    exact (h.1 (e ▸ keep_mem fs l j (by simpa using h2) (by simpa using h4) h6)).elim
  | k :: fs, o :: l, h, i + 1, 0, h1, _, h3, _, h5, h6, e => by
    simp only [lookO] at h5 h6
    simp only [keepB, h6, cond_false, nodupB, Bool.and_eq_true, Bool.not_eq_true', ← Bool.not_eq_true, memB_mem] at h
    simp only [rnm] at e
    exact (h.1 (e ▸ keep_mem fs l i (by simpa using h1) (by simpa using h3) h5)).elim
  | k :: fs, o :: l, h, i + 1, j + 1, h1, h2, h3, h4, h5, h6, e => by
    simp only [lookO] at h5 h6
    simp only [rnm] at e
    have h' : nodupB (keepB fs l) = true := by
      simp only [keepB] at h
      cases ho : isNo o
      · simp only [ho, cond_false, nodupB, Bool.and_eq_true] at h
        exact h.2
      · simpa only [ho, cond_true] using h
    have := keep_inj fs l h' i j (by simpa using h1) (by simpa using h2) (by simpa using h3) (by simpa using h4) h5 h6 e
    omega
  | [], _, _, _, _, _, _, h, _, _, _, _ => by simp at h
  | _ :: _, [], _, _, _, h, _, _, _, _, _, _ => by simp at h
theorem subq_n0 {n0 : Nat} {s : S} {l : List (Nat × V)} {obs : List Ob} (h : SubQ n0 s l obs) : n0 ≤ obs.length := by
  unfold SubQ at h
  rw [forceI_iff] at h
  split at h
  · rename_i e
    simp only [Bool.and_eq_true] at e
    exact Nat.le_of_ble_eq_true e.1.1.1.1
  · exact h.elim
theorem subq_rel {N B : Nat} {ρ : Nat → Bnd} {s : S} {a : Act} {w : World} (hs : RelS N B ρ s a w) {n0 : Nat} {l : List (Nat × V)} {obs : List Ob} (h : SubQ n0 s l obs) : ∃ ρ', RelS N B ρ' (St l obs) a w ∧ Agree ρ ρ' n0 := by
  have hn0 := subq_n0 h
  unfold SubQ at h
  rw [forceI_iff] at h
  split at h
  case h_2 => exact h.elim
  rename_i e
  simp only [Bool.and_eq_true, List.all_eq_true, Nat.blt_eq] at e
  obtain ⟨⟨⟨⟨_, hall⟩, hnd⟩, hvl⟩, hol⟩ := e
  obtain ⟨hv, ho⟩ := h
  have hlen : (fndIds n0 s l 0 obs.length).length = obs.length := fndIds_length _ _
  have hlow : ∀ i, i < n0 → rnm (fndIds n0 s l 0 obs.length) i = i := fun i hi => by
    have := fndIds_low (n0 := n0) (s := s) (l := l) obs.length 0 i (by omega) (by omega)
    simpa using this
  generalize fndIds n0 s l 0 obs.length = fs at *
  have hb : ∀ i, i < obs.length → rnm fs i < s.nx := fun i hi => by
    rw [rnm_eq fs i (by omega)]
    exact hall _ (List.getElem_mem _)
  have hob : ∀ i, i < obs.length → isNo (lookO obs i) = true ∨ s.hp (rnm fs i) = renO fs (lookO obs i) := fun i hi => by
    have := eqOs_look obs 0 i ho hi
    simpa using this
  refine ⟨fun i => ρ (rnm fs i), ⟨⟨hs.rel.base, fun i hi => ?_, fun i j hi hj hij g hg hgj => ?_⟩, fun t => ?_, hs.size⟩, fun i hi => by simp only [hlow i hi]⟩
  · have hi' : i < obs.length := hi
    show HR _ obs.length B w (ρ (rnm fs i)) (lookO obs i)
    have h2 := olts_look obs i hol
    rcases hob i hi' with h1 | h1
    · cases h3 : lookO obs i <;> simp [h3, isNo] at h1
      trivial
    · have := hs.rel.obj _ (hb i hi')
      rw [h1] at this
      generalize lookO obs i = o at this h2
      cases o with
      | no => trivial
      | var t cs =>
        obtain ⟨a1, a2, c, a3, a4⟩ := this
        exact ⟨a1, a2, c, a3, RL.ren (fun _ _ => rfl) cs _ a4 h2⟩
      | rv cs =>
        obtain ⟨a2, c, ty, a3, a4⟩ := this
        exact ⟨a2, c, ty, a3, RL.mono (Nat.le_refl 0) (fun i hi => absurd hi (Nat.not_lt_zero i)) cs _ a4⟩
      | ro E l => exact this
      | own t E l => exact this
      | mp ka KE va VE m => exact this
  · have hi' : i < obs.length := hi
    have hj' : j < obs.length := hj
    change wblk (ρ (rnm fs i)) (lookO obs i) = some g at hg
    change ablk (ρ (rnm fs j)) (lookO obs j) = some g at hgj
    have wr : ∀ (b : Bnd) (o : Ob), wblk b (renO fs o) = wblk b o := by intro b o; cases o <;> rfl
    have ar : ∀ (b : Bnd) (o : Ob), ablk b (renO fs o) = ablk b o := by intro b o; cases o <;> rfl
    have ni : isNo (lookO obs i) = false := by
      cases h : lookO obs i <;> first | rfl | (rw [h] at hg; cases hg)
    have nj : isNo (lookO obs j) = false := by
      cases h : lookO obs j <;> first | rfl | (rw [h] at hgj; cases hgj)
    have e1 : wblk (ρ (rnm fs i)) (s.hp (rnm fs i)) = some g := by
      rcases hob i hi' with h1 | h1
      · rw [h1] at ni; cases ni
      · rw [h1, wr]; exact hg
    have e2 : ablk (ρ (rnm fs j)) (s.hp (rnm fs j)) = some g := by
      rcases hob j hj' with h1 | h1
      · rw [h1] at nj; cases nj
      · rw [h1, ar]; exact hgj
    exact hs.rel.sep _ _ (hb i hi') (hb j hj') (fun he => hij (keep_inj fs obs hnd i j hi' hj' (by omega) (by omega) ni nj he)) g e1 e2
  · show R _ obs.length (lookV l t) _
    rcases eqVs_look l t hv hvl with h1 | ⟨h1, h2⟩
    · rw [h1]; simp [R]
    · have := hs.sl t
      rw [h1] at this
      exact R.ren (fun _ _ => rfl) _ _ this h2
/-- A loop, its measure no function of the frame. -/
theorem wp_loopN {P : Program} {Q : Exit → Act → World → Prop} {c : Code} (I : Nat → Act → World → Prop) (round : ∀ m a w, I m a w → c.wp P (Exit.then (fun a' w' => ∃ m', m' < m ∧ I m' a' w') Q) a w)
    {m : Nat} {a : Act} {w : World} (h₀ : I m a w) : (Code.loop c).wp P Q a w := by
  intro b k cs
  have key : ∀ n a w, I n a w → ∃ e a' w', Q e a' w' ∧ Arrives P (lone (b.at a (.code c :: .inLoop c :: k)) cs w) b k cs e a' w' := by
    intro n
    induction n using Nat.strongRecOn with
    | _ n ih =>
      intro a w hI
      obtain ⟨e, a₁, w₁, hq, harr⟩ := round n a w hI b (.inLoop c :: k) cs
      cases e with
      | normal =>
        obtain ⟨m', hlt, hI₁⟩ := hq
        obtain ⟨e₂, a₂, w₂, hq₂, harr₂⟩ := ih m' hlt a₁ w₁ hI₁
        exact ⟨e₂, a₂, w₂, hq₂, .of_steps (Steps.trans harr (.one step_inLoop)) harr₂⟩
      | exit id => exact ⟨_, a₁, w₁, hq, .pass (x := .inLoop c) rfl (fun _ _ => .inl (by simp)) harr⟩
      | goto l => exact ⟨_, a₁, w₁, hq, .pass (x := .inLoop c) rfl (fun _ _ => .inl (by simp)) harr⟩
      | ret => exact ⟨_, a₁, w₁, hq, .pass (x := .inLoop c) rfl (fun _ _ => .inl (by simp)) harr⟩
      | panic ch => exact ⟨_, a₁, w₁, hq, .pass (x := .inLoop c) rfl (fun _ _ => .inl (by simp)) harr⟩
      | outgrown => exact ⟨_, a₁, w₁, hq, .pass (x := .inLoop c) rfl (fun _ _ => .inl (by simp)) harr⟩
  obtain ⟨e, a', w', hq, harr⟩ := key m a w h₀
  exact ⟨e, a', w', hq, .of_steps (.one step_loop) harr⟩
end Go.Proofs.YtbolfnkgbjkbjaaGreat.AM
end
section
set_option linter.unusedVariables false
set_option linter.unusedSimpArgs false
namespace Go.Proofs.YtbolfnkgbjkbjaaGreat.AM
open Go Go.RowKit

def aoSl : AO → List Nat
  | .t n => [n]
  | _ => []
def aosSl : List AO → List Nat
  | [] => []
  | x :: l => aoSl x ++ aosSl l
def partsSl : List (Nat × Nat × AO) → List Nat
  | [] => []
  | (_, _, x) :: l => aoSl x ++ partsSl l
/-- The slots that an operation looks at. -/
def opSl : AOp → List Nat
  | .mv x => aoSl x
  | .mvn _ _ => []
  | .pick c a b => aoSl c ++ (aoSl a ++ aoSl b)
  | .alloc _ _ => []
  | .box _ x => aoSl x
  | .ld _ _ x => aoSl x
  | .st _ a x => aoSl a ++ aoSl x
  | .nck x => aoSl x
  | .bin _ x y => aoSl x ++ aoSl y
  | .binb _ x y => aoSl x ++ aoSl y
  | .eqa _ _ x y => aoSl x ++ aoSl y
  | .not x => aoSl x
  | .neg x => aoSl x
  | .cv _ x => aoSl x
  | .fa x _ => aoSl x
  | .fld x _ _ _ => aoSl x
  | .ia x i _ => aoSl x ++ aoSl i
  | .iaa x i _ _ => aoSl x ++ aoSl i
  | .ixs _ i => aoSl i
  | .ixa x i _ _ _ => aoSl x ++ aoSl i
  | .ext x _ => aoSl x
  | .mkf _ fs cs => aosSl fs ++ aosSl cs
  | .mki _ x => aoSl x
  | .tas _ _ x => aoSl x
  | .ifn _ x => aoSl x
  | .bld _ ps => partsSl ps
  | .bsl _ _ _ _ ps => partsSl ps
  | .msl _ _ _ _ x c => aoSl x ++ aoSl c
  | .slc x lo hi _ => aoSl x ++ (aosSl (optA lo) ++ aosSl (optA hi))
  | .slm x hi _ => aoSl x ++ aoSl hi
  | .len x => aoSl x
  | .app _ _ _ x y => aoSl x ++ aoSl y
  | .mx _ x y => aoSl x ++ aoSl y
  | .mkm _ _ _ _ => []
  | .mlk _ _ _ _ _ x k => aoSl x ++ aoSl k
  | .mup _ _ _ _ x k v => aoSl x ++ (aoSl k ++ aoSl v)
  | .call f args => aoSl f ++ aosSl args
  | .pan x => aoSl x
  | .no => []
def gSl : Option (Nat × Bool) → List Nat
  | none => []
  | some (g, _) => [g]
def looks (o : AOper) : List Nat := opSl o.op ++ gSl o.g
theorem rd_congr {s s' : S} {x : AO} (h : ∀ t ∈ aoSl x, s.sl t = s'.sl t) : rd s x = rd s' x := by
  cases x with
  | t n => exact h n (by simp [aoSl])
  | _ => rfl
theorem rds_congr {s s' : S} : ∀ {l : List AO}, (∀ t ∈ aosSl l, s.sl t = s'.sl t) → l.map (rd s) = l.map (rd s')
  | [], _ => rfl
  | x :: l, h => by
    simp only [List.map_cons]
    rw [rd_congr (s := s) (s' := s') (x := x) (fun t ht => h t (by simp [aosSl, ht])), rds_congr (l := l) (fun t ht => h t (by simp [aosSl, ht]))]
theorem fill_congr {s s' : S} : ∀ {l : List (Nat × Nat × AO)} (z : List V), (∀ t ∈ partsSl l, s.sl t = s'.sl t) → fillV s z l = fillV s' z l
  | [], _, _ => rfl
  | (a, b, x) :: l, z, h => by
    simp only [fillV]
    rw [rd_congr (s := s) (s' := s') (x := x) (fun t ht => h t (by simp [partsSl, ht]))]
    split
    · exact fill_congr _ (fun t ht => h t (by simp [partsSl, ht]))
    · rfl
theorem ldF_congr {h h' : Nat → Ob} {n : Nat} {agg : Bool} {v : V} (hh : ∀ id ∈ idsV v, h id = h' id) : ldF h n agg v = ldF h' n agg v := by
  cases v <;> simp only [ldF]
  rename_i id e z f
  rw [hh id (by simp [idsV])]
theorem stF_congr {h h' : Nat → Ob} {n : Nat} {v : V} {vs : List V} (hh : ∀ id ∈ idsV v, h id = h' id) : stF h n v vs = stF h' n v vs := by
  cases v <;> simp only [stF]
  rename_i id e z f
  rw [hh id (by simp [idsV])]
theorem lenF_congr {h h' : Nat → Ob} {v : V} (hh : ∀ id ∈ idsV v, h id = h' id) : lenF h v = lenF h' v := by
  cases v <;> simp only [lenF]
  rename_i id
  rw [hh id (by simp [idsV])]
theorem lst_congr {E : ET} {h h' : Nat → Ob} {v : V} (hh : ∀ id ∈ idsV v, h id = h' id) : lst E h v = lst E h' v := by
  cases v <;> simp only [lst]
  · rename_i id a b c
    rw [hh id (by simp [idsV])]
  · rename_i id
    rw [hh id (by simp [idsV])]
theorem sbase_congr {h h' : Nat → Ob} {v : V} {z : Nat} (hh : ∀ id ∈ idsV v, h id = h' id) : sbase h v z = sbase h' v z := by
  cases v <;> simp only [sbase]
  rename_i id
  rw [hh id (by simp [idsV])]
theorem appF_congr {h h' : Nat → Ob} {t : Nat} {E : ET} {b : Nat} {x y : V} (hx : ∀ id ∈ idsV x, h id = h' id) (hy : ∀ id ∈ idsV y, h id = h' id) : appF h t E b x y = appF h' t E b x y := by
  unfold appF
  rw [lst_congr hy]
  cases x <;> try rfl
  rename_i id
  simp only [hx id (by simp [idsV])]
theorem opF_congr {s s' : S} (op : AOp) (h : ∀ t ∈ opSl op, s.sl t = s'.sl t) (hh : ∀ id ∈ rdsOf s op, s.hp id = s'.hp id) : opF s op = opF s' op := by
  have r : ∀ x, (∀ t ∈ aoSl x, t ∈ opSl op) → rd s x = rd s' x := fun x hx => rd_congr fun t ht => h t (hx t ht)
  cases op <;> simp only [opF]
  case mv x => rw [r x (by simp [opSl])]
  case pick c x y =>
    rw [r c (fun t ht => by simp [opSl, ht]), r x (fun t ht => by simp [opSl, ht]), r y (fun t ht => by simp [opSl, ht])]
  case box t x => rw [r x (by simp [opSl])]
  case ld n agg x => rw [← r x (by simp [opSl])]; exact ldF_congr hh
  case st n x y =>
    rw [← r x (fun t ht => by simp [opSl, ht]), ← r y (fun t ht => by simp [opSl, ht])]
    exact stF_congr hh
  case nck x => rw [r x (by simp [opSl])]
  case bin b x y => rw [r x (fun t ht => by simp [opSl, ht]), r y (fun t ht => by simp [opSl, ht])]
  case binb b x y => rw [r x (fun t ht => by simp [opSl, ht]), r y (fun t ht => by simp [opSl, ht])]
  case eqa b ks x y => rw [r x (fun t ht => by simp [opSl, ht]), r y (fun t ht => by simp [opSl, ht])]
  case not x => rw [r x (by simp [opSl])]
  case neg x => rw [r x (by simp [opSl])]
  case cv k x => rw [r x (by simp [opSl])]
  case fa x off => rw [r x (by simp [opSl])]
  case fld x a b c => rw [r x (by simp [opSl])]
  case ia x i z =>
    rw [← r x (fun t ht => by simp [opSl, ht]), ← r i (fun t ht => by simp [opSl, ht]), lenF_congr (h := s.hp) (h' := s'.hp) hh]
  case iaa x i l z => rw [r x (fun t ht => by simp [opSl, ht]), r i (fun t ht => by simp [opSl, ht])]
  case ixs l i => rw [r i (by simp [opSl])]
  case ixa x i l z g => rw [r x (fun t ht => by simp [opSl, ht]), r i (fun t ht => by simp [opSl, ht])]
  case ext x i => rw [r x (by simp [opSl])]
  case mkf f fs cs =>
    rw [rds_congr (s := s) (s' := s') (l := fs) (fun t ht => h t (by simp [opSl, ht])), rds_congr (s := s) (s' := s') (l := cs) (fun t ht => h t (by simp [opSl, ht]))]
  case mki t x => rw [r x (by simp [opSl])]
  case tas t zs x => rw [r x (by simp [opSl])]
  case ifn b x => rw [r x (by simp [opSl])]
  case bld z ps => rw [fill_congr (s := s) (s' := s') z (fun t ht => h t (by simpa [opSl] using ht))]
  case bsl t E n z ps => rw [fill_congr (s := s) (s' := s') z (fun t ht => h t (by simpa [opSl] using ht))]
  case msl t E b z x c => rw [r x (fun t ht => by simp [opSl, ht]), r c (fun t ht => by simp [opSl, ht])]
  case slc x lo hi z =>
    have hlo : lo.map (rd s) = lo.map (rd s') := by
      cases lo with
      | none => rfl
      | some y => simp only [Option.map_some]; rw [r y (fun t ht => by simp [opSl, optA, aosSl, ht])]
    have hhi : hi.map (rd s) = hi.map (rd s') := by
      cases hi with
      | none => rfl
      | some y => simp only [Option.map_some]; rw [r y (fun t ht => by simp [opSl, optA, aosSl, ht])]
    rw [← r x (fun t ht => by simp [opSl, ht]), hlo, hhi]
    unfold sliceF
    rw [sbase_congr (h := s.hp) (h' := s'.hp) hh]
  case slm x hi z =>
    rw [← r x (fun t ht => by simp [opSl, ht]), ← r hi (fun t ht => by simp [opSl, ht])]
    simp only [rdsOf] at hh
    generalize hx : rd s x = xv at hh ⊢
    cases xv <;> try rfl
    rename_i id
    have e := hh id (by simp [idsV])
    cases rd s hi <;> first | rfl | (simp only [e])
  case len x => rw [← r x (by simp [opSl]), lenF_congr (h := s.hp) (h' := s'.hp) hh]
  case app t E b x y =>
    rw [← r x (fun t ht => by simp [opSl, ht]), ← r y (fun t ht => by simp [opSl, ht])]
    exact appF_congr (fun id hid => hh id (by simp [rdsOf, hid])) (fun id hid => hh id (by simp [rdsOf, hid]))
  case mlk ka KE va VE ok x k =>
    rw [← r x (fun t ht => by simp [opSl, ht]), ← r k (fun t ht => by simp [opSl, ht])]
    simp only [rdsOf] at hh
    split
    · rename_i id hv
      rw [hv] at hh
      rw [hh id (by simp [idsV])]
    · rfl
    · rfl
  case mup ka KE va VE x k v =>
    rw [← r x (fun t ht => by simp [opSl, ht]), ← r k (fun t ht => by simp [opSl, ht]), ← r v (fun t ht => by simp [opSl, ht])]
    simp only [rdsOf] at hh
    split
    · rename_i id hv
      rw [hv] at hh
      rw [hh id (by simp [idsV])]
    · rfl
  case mx b x y => rw [r x (fun t ht => by simp [opSl, ht]), r y (fun t ht => by simp [opSl, ht])]
mutual
theorem viewV_congr {h h' : Nat → Ob} : ∀ (v : V) (obs : List Ob), (∀ id ∈ idsV v, h id = h' id) → viewV h obs v = viewV h' obs v
  | .osl id, obs, hh => by simp only [viewV]; rw [hh id (by simp [idsV])]
  | .sl id _ _ _, obs, hh => by simp only [viewV]; rw [hh id (by simp [idsV])]
  | .agg cs, obs, hh => by simp only [viewV]; rw [viewL_congr cs obs (by simpa [idsV] using hh)]
  | .int _ _, _, _ => by simp [viewV]
  | .bool _, _, _ => by simp [viewV]
  | .nilp, _, _ => by simp [viewV]
  | .nsl, _, _ => by simp [viewV]
  | .nfn, _, _ => by simp [viewV]
  | .nifc, _, _ => by simp [viewV]
  | .nmp, _, _ => by simp [viewV]
  | .mp _, _, _ => by simp [viewV]
  | .fn _ [] [], _, _ => by simp [viewV]
  | .fn _ (_ :: _) _, _, _ => by simp [viewV]
  | .fn _ [] (_ :: _), _, _ => by simp [viewV]
  | .top, _, _ => by simp [viewV]
  | .ptr id _ _ _, obs, hh => by simp only [viewV]; rw [hh id (by simp [idsV])]
  | .ifc _ _, _, _ => by simp [viewV]
  | .tup _, _, _ => by simp [viewV]
theorem viewL_congr {h h' : Nat → Ob} : ∀ (vs : List V) (obs : List Ob), (∀ id ∈ idsL vs, h id = h' id) → viewL h obs vs = viewL h' obs vs
  | [], _, _ => by simp [viewL]
  | v :: vs, obs, hh => by
    simp only [viewL]
    rw [viewV_congr v obs (fun id hid => hh id (by simp [idsL, hid]))]
    cases viewV h' obs v with
    | none => rfl
    | some p =>
      obtain ⟨c, v', obs'⟩ := p
      simp only []
      rw [viewL_congr vs obs' (fun id hid => hh id (by simp [idsL, hid]))]
end
theorem idsL_append (a b : List V) : idsL (a ++ b) = idsL a ++ idsL b := by
  induction a with
  | nil => simp [idsL]
  | cons x l ih => simp [idsL, ih]
theorem dexec_congr {D : DTab} {k : Nat} {s s' : S} {op : AOp} {K : V → List (Nat × Ob) → Prop} {PQ : V → Prop} (h : ∀ t ∈ opSl op, s.sl t = s'.sl t) (hh : ∀ id ∈ rdsOf s op, s.hp id = s'.hp id)
    (hd : dexec D k op s K PQ) : dexec D k op s' K PQ := by
  have ho := opF_congr op h hh
  cases op
  case call f args =>
    simp only [dexec] at hd ⊢
    have hf : rd s f = rd s' f := rd_congr fun t ht => h t (by simp [opSl, ht])
    have ha : args.map (rd s) = args.map (rd s') := rds_congr fun t ht => h t (by simp [opSl, ht])
    rw [← hf, ← ha]
    simp only [rdsOf] at hh
    split at hd
    · rename_i fi fs cs hfv
      rw [hfv] at hh
      have hsame : ∀ id ∈ idsL (fs ++ args.map (rd s) ++ cs), s.hp id = s'.hp id := (fun id hid => hh id (by
        rw [idsL_append, idsL_append] at hid
        simp only [idsV]
        simp only [List.mem_append] at hid ⊢
        rcases hid with (hid | hid) | hid
        · exact .inl (.inl hid)
        · exact .inr hid
        · exact .inl (.inr hid)))
      split at hd
      · rename_i g hg
        rw [g.same _ _ _ hsame] at hd
        exact hd
      · exact hd.elim
    · exact hd.elim
  case pan => exact hd
  all_goals
    simp only [dexec] at hd ⊢
    rw [← ho]
    exact hd
theorem rdsOf_congr {s s' : S} {op : AOp} (h : ∀ t ∈ opSl op, s.sl t = s'.sl t) : rdsOf s op = rdsOf s' op := by
  have r : ∀ x, (∀ t ∈ aoSl x, t ∈ opSl op) → rd s x = rd s' x := fun x hx => rd_congr fun t ht => h t (hx t ht)
  cases op <;> simp only [rdsOf]
  case ld n agg x => rw [r x (by simp [opSl])]
  case st n x y => rw [r x (fun t ht => by simp [opSl, ht])]
  case ia x i z => rw [r x (fun t ht => by simp [opSl, ht])]
  case slc x lo hi z => rw [r x (fun t ht => by simp [opSl, ht])]
  case slm x hi z => rw [r x (fun t ht => by simp [opSl, ht])]
  case len x => rw [r x (by simp [opSl])]
  case app t E b x y => rw [r x (fun t ht => by simp [opSl, ht]), r y (fun t ht => by simp [opSl, ht])]
  case mlk ka KE va VE ok x k => rw [r x (fun t ht => by simp [opSl, ht])]
  case mup ka KE va VE x k v => rw [r x (fun t ht => by simp [opSl, ht])]
  case call f args =>
    rw [rd_congr (s := s) (s' := s') (x := f) (fun t ht => h t (by simp [opSl, ht])), rds_congr (s := s) (s' := s') (l := args) (fun t ht => h t (by simp [opSl, ht]))]
theorem dexec_mono {D : DTab} {k : Nat} {s : S} {op : AOp} {K K' : V → List (Nat × Ob) → Prop} {PQ PQ' : V → Prop} (hK : ∀ v e, K v e → K' v e) (hP : ∀ v, PQ v → PQ' v) (hd : dexec D k op s K PQ) : dexec D k op s K' PQ' := by
  cases op
  case call f args =>
    simp only [dexec] at hd ⊢
    repeat' (split at hd)
    all_goals first
      | exact ⟨hd.1, (absM_iff _ _ _).2 (hK _ _ ((absM_iff _ _ _).1 hd.2))⟩
      | exact ⟨hd.1, hP _ hd.2⟩
      | exact hd.elim
  case pan => exact hd
  all_goals
    simp only [dexec] at hd ⊢
    split at hd
    all_goals first
      | exact hd.elim
      | (rw [force_iff] at hd ⊢; exact hK _ _ hd)
      | (obtain ⟨h1, h2⟩ := hd; rw [force_iff] at h2; exact ⟨h1, (force_iff _ _).2 (hK _ _ h2)⟩)
      | exact ⟨hd.1, hK _ _ hd.2⟩
/-- One outcome. -/
theorem dexec_det {D : DTab} {k : Nat} {s : S} {op : AOp} {K : V → List (Nat × Ob) → Prop} {PQ : V → Prop} (hd : dexec D k op s K PQ) :
    (∃ v e, K v e ∧ dexec D k op s (fun v' e' => v' = v ∧ e' = e) (fun _ => False)) ∨ (∃ v, PQ v ∧ dexec D k op s (fun _ _ => False) (fun v' => v' = v)) := by
  cases op
  case call f args =>
    simp only [dexec] at hd ⊢
    repeat' (split at hd)
    all_goals first
      | exact .inl ⟨_, _, (absM_iff _ _ _).1 hd.2, hd.1, (absM_iff _ _ _).2 ⟨rfl, rfl⟩⟩
      | exact .inr ⟨_, hd.2, hd.1, rfl⟩
      | exact hd.elim
  case pan => exact hd.elim
  all_goals
    simp only [dexec] at hd ⊢
    split at hd
    all_goals first
      | exact hd.elim
      | (rw [force_iff] at hd; exact .inl ⟨_, _, hd, (force_iff _ _).2 ⟨rfl, rfl⟩⟩)
      | (obtain ⟨h1, h2⟩ := hd; rw [force_iff] at h2; exact .inl ⟨_, _, h2, h1, (force_iff _ _).2 ⟨rfl, rfl⟩⟩)
      | exact .inl ⟨_, _, hd.2, hd.1, rfl, rfl⟩
end Go.Proofs.YtbolfnkgbjkbjaaGreat.AM
end
section
set_option linter.unusedVariables false
set_option linter.unusedSimpArgs false
namespace Go.Proofs.YtbolfnkgbjkbjaaGreat.AM
open Go Go.RowKit

def idsE (effs : List (Nat × Ob)) : List Nat := effs.map (·.1)
theorem memB_iff (i : Nat) : ∀ l, memB i l = true ↔ i ∈ l
  | [] => by simp [memB]
  | j :: l => by
    simp only [memB, Bool.or_eq_true, List.mem_cons, memB_iff i l]
    constructor
    · rintro (h | h)
      · exact .inl (Nat.eq_of_beq_eq_true h).symm
      · exact .inr h
    · rintro (h | h)
      · exact .inl (by subst h; simp)
      · exact .inr h
theorem disj_iff (a b : List Nat) : disj a b = true ↔ ∀ i ∈ a, i ∉ b := by
  simp only [disj, List.all_eq_true, Bool.not_eq_true']
  constructor
  · intro h i hi hb
    have := h i hi
    rw [(memB_iff i b).2 hb] at this
    cases this
  · intro h i hi
    rw [Bool.eq_false_iff]
    intro hb
    exact h i hi ((memB_iff i b).1 hb)
theorem applyE_other : ∀ (e : List (Nat × Ob)) (h : Nat → Ob) (id : Nat), id ∉ idsE e → applyE h e id = h id
  | [], _, _, _ => rfl
  | (i, o) :: l, h, id, hn => by
    simp only [idsE, List.map_cons, List.mem_cons, not_or] at hn
    simp only [applyE]
    rw [applyE_other l _ id hn.2, upd_ne _ _ _ hn.1]
theorem applyE_in : ∀ (e : List (Nat × Ob)) (h h' : Nat → Ob) (id : Nat), id ∈ idsE e → applyE h e id = applyE h' e id
  | [], _, _, _, hn => by simp [idsE] at hn
  | (i, o) :: l, h, h', id, hn => by
    simp only [applyE]
    by_cases hl : id ∈ idsE l
    · exact applyE_in l _ _ id hl
    · simp only [idsE, List.map_cons, List.mem_cons] at hn
      rcases hn with rfl | hn
      · rw [applyE_other l _ _ hl, applyE_other l _ _ hl, upd_same, upd_same]
      · exact absurd hn hl
theorem applyE_mem : ∀ (e : List (Nat × Ob)) (h : Nat → Ob) (id : Nat), applyE h e id = h id ∨ ∃ p ∈ e, p.1 = id ∧ applyE h e id = p.2
  | [], _, _ => .inl rfl
  | (i, o) :: l, h, id => by
    simp only [applyE]
    rcases applyE_mem l (upd h i o) id with h1 | ⟨p, hp, h1, h2⟩
    · by_cases e : id = i
      · subst e
        rw [upd_same] at h1
        exact .inr ⟨(id, o), by simp, rfl, h1⟩
      · rw [upd_ne _ _ _ e] at h1
        exact .inl h1
    · exact .inr ⟨p, by simp [hp], h1, h2⟩
structure Dat where
  v : Nat → V
  e : Nat → List (Nat × Ob)
  r : Nat → List Nat
  d : Nat → Option Nat
def stE (top : Nat) (s0 : S) (A : Dat) (E : Nat → Bool) : Nat → S
  | 0 => s0
  | m + 1 => match E m with
    | true => S.put ⟨(stE top s0 A E m).sl, applyE (stE top s0 A E m).hp (A.e m), top⟩ (A.d m) (A.v m)
    | false => stE top s0 A E m
theorem stE_nx {top : Nat} {s0 : S} {A : Dat} {E : Nat → Bool} (h : s0.nx = top) : ∀ m, (stE top s0 A E m).nx = top
  | 0 => h
  | m + 1 => by
    simp only [stE]
    split
    · rw [S.put_nx]
    · exact stE_nx h m
theorem put_sl (s : S) (d : Option Nat) (v : V) (t : Nat) : (s.put d v).sl t = if d = some t then v else s.sl t := by
  cases d with
  | none => simp [S.put]
  | some d =>
    by_cases e : t = d
    · subst e
      simp [S.put, upd_same]
    · have : ¬ (some d = some t) := by intro h; cases h; exact e rfl
      simp only [S.put, if_neg this]
      exact upd_ne _ _ _ e
theorem put_hp (s : S) (d : Option Nat) (v : V) : (s.put d v).hp = s.hp := by cases d <;> rfl
section
variable {top : Nat} {s0 : S} {A : Dat}
theorem stE_sl (E : Nat → Bool) (m t : Nat) : (stE top s0 A E (m + 1)).sl t = if E m = true ∧ A.d m = some t then A.v m else (stE top s0 A E m).sl t := by
  simp only [stE]
  cases hE : E m with
  | true => simp only [put_sl, true_and]
  | false => simp
theorem stE_hp (E : Nat → Bool) (m id : Nat) : (stE top s0 A E (m + 1)).hp id = if E m = true then applyE (stE top s0 A E m).hp (A.e m) id else (stE top s0 A E m).hp id := by
  simp only [stE]
  cases hE : E m with
  | true => simp only [put_hp, if_true]
  | false => simp
theorem stE_sl_congr {E E' : Nat → Bool} {t : Nat} : ∀ m, (∀ x, x < m → A.d x = some t → E x = E' x) → (stE top s0 A E m).sl t = (stE top s0 A E' m).sl t
  | 0, _ => rfl
  | m + 1, h => by
    rw [stE_sl, stE_sl, stE_sl_congr m (fun x hx => h x (by omega))]
    by_cases hd : A.d m = some t
    · rw [h m (by omega) hd]
    · simp [hd]
theorem stE_hp_congr {E E' : Nat → Bool} {id : Nat} : ∀ m, (∀ x, x < m → id ∈ idsE (A.e x) → E x = E' x) → (stE top s0 A E m).hp id = (stE top s0 A E' m).hp id
  | 0, _ => rfl
  | m + 1, h => by
    rw [stE_hp, stE_hp]
    have ih := stE_hp_congr (E := E) (E' := E') (id := id) m (fun x hx => h x (by omega))
    by_cases hd : id ∈ idsE (A.e m)
    · rw [h m (by omega) hd, applyE_in _ _ (stE top s0 A E' m).hp _ hd, ih]
    · rw [applyE_other _ _ _ hd, applyE_other _ _ _ hd, ih]
      simp
/-- The state in the text's order, as one of a set. -/
theorem stE_lex {j : Nat} : ∀ m, j ≤ m → stE top s0 A (fun x => decide (x < j)) m = stE top s0 A (fun _ => true) j
  | 0, h => by
    have : j = 0 := by omega
    subst this
    rfl
  | m + 1, h => by
    by_cases e : j = m + 1
    · subst e
      have : ∀ k, k ≤ m + 1 → stE top s0 A (fun x => decide (x < m + 1)) k = stE top s0 A (fun _ => true) k := by
        intro k
        induction k with
        | zero => intro _; rfl
        | succ k ih =>
          intro hk
          simp only [stE]
          have : decide (k < m + 1) = true := by simp; omega
          rw [this, ih (by omega)]
      exact this _ (Nat.le_refl _)
    · have hjm : ¬ m < j := by omega
      have ih := stE_lex (j := j) m (by omega)
      simp only [stE]
      have : decide (m < j) = false := by simp; omega
      rw [this]
      exact ih
/-- One more of the set. -/
theorem stE_add {E : Nat → Bool} {j : Nat} (hj0 : E j = false) (hs : ∀ x, E x = true → ∀ t, A.d x = some t → A.d j = some t → x < j) (hh : ∀ x, E x = true → ∀ id ∈ idsE (A.e x), id ∈ idsE (A.e j) → x < j) :
    ∀ m, j < m → (∀ t, (stE top s0 A (upd E j true) m).sl t = (S.put ⟨(stE top s0 A E m).sl, applyE (stE top s0 A E m).hp (A.e j), top⟩ (A.d j) (A.v j)).sl t) ∧
      (∀ id, (stE top s0 A (upd E j true) m).hp id = applyE (stE top s0 A E m).hp (A.e j) id)
  | 0, h => by omega
  | m + 1, h => by
    by_cases e : j = m
    · subst e
      have same : ∀ k, k ≤ j → stE top s0 A (upd E j true) k = stE top s0 A E k := by
        intro k
        induction k with
        | zero => intro _; rfl
        | succ k ih =>
          intro hk
          simp only [stE]
          rw [upd_ne _ _ _ (show k ≠ j by omega), ih (by omega)]
      have sm := same j (Nat.le_refl _)
      refine ⟨fun t => ?_, fun id => ?_⟩
      · rw [stE_sl, upd_same, sm, put_sl]
        have : (stE top s0 A E (j + 1)).sl t = (stE top s0 A E j).sl t := by rw [stE_sl, hj0]; simp
        simp only [this, true_and]
      · rw [stE_hp, upd_same, sm]
        have : (stE top s0 A E (j + 1)).hp = (stE top s0 A E j).hp := by
          funext i
          rw [stE_hp, hj0]
          simp
        rw [this]
        simp
    · have hjm : j < m := by omega
      obtain ⟨i1, i2⟩ := stE_add hj0 hs hh m hjm
      have hu : upd E j true m = E m := upd_ne _ _ _ (by omega)
      refine ⟨fun t => ?_, fun id => ?_⟩
      · rw [stE_sl, hu, i1, put_sl, put_sl]
        have hrec : (stE top s0 A E (m + 1)).sl t = if E m = true ∧ A.d m = some t then A.v m else (stE top s0 A E m).sl t := stE_sl E m t
        simp only [hrec]
        by_cases hm : E m = true ∧ A.d m = some t
        · rw [if_pos hm]
          by_cases hd : A.d j = some t
          · have := hs m hm.1 t hm.2 hd
            omega
          · rw [if_neg hd]
            simp only [hrec, if_pos hm]
        · rw [if_neg hm]
          by_cases hd : A.d j = some t
          · rw [if_pos hd, if_pos hd]
          · rw [if_neg hd, if_neg hd]
            simp only [hrec, if_neg hm]
      · rw [stE_hp, hu]
        have hrec : ∀ i, (stE top s0 A E (m + 1)).hp i = if E m = true then applyE (stE top s0 A E m).hp (A.e m) i else (stE top s0 A E m).hp i := stE_hp E m
        by_cases hm : E m = true
        · rw [if_pos hm]
          by_cases hd : id ∈ idsE (A.e j)
          · rw [applyE_in (A.e j) (stE top s0 A E (m + 1)).hp (stE top s0 A E m).hp id hd, ← i2 id]
            by_cases hm' : id ∈ idsE (A.e m)
            · have := hh m hm id hm' hd
              omega
            · rw [applyE_other _ _ _ hm']
          · rw [applyE_other _ _ _ hd, hrec, if_pos hm]
            by_cases hm' : id ∈ idsE (A.e m)
            · exact applyE_in _ _ _ _ hm'
            · rw [applyE_other _ _ _ hm', applyE_other _ _ _ hm', i2, applyE_other _ _ _ hd]
        · rw [if_neg hm]
          by_cases hd : id ∈ idsE (A.e j)
          · rw [i2]
            exact applyE_in _ _ _ _ hd
          · rw [i2, applyE_other _ _ _ hd, applyE_other _ _ _ hd, hrec, if_neg hm]
theorem stE_dat {A' : Dat} {E : Nat → Bool} : ∀ m, (∀ x, x < m → A.v x = A'.v x ∧ A.e x = A'.e x ∧ A.d x = A'.d x) → stE top s0 A E m = stE top s0 A' E m
  | 0, _ => rfl
  | m + 1, h => by
    simp only [stE]
    obtain ⟨h1, h2, h3⟩ := h m (by omega)
    rw [stE_dat m (fun x hx => h x (by omega)), h1, h2, h3]
end
def StepR (D : DTab) (k : Nat) (o : AOper) (s : S) (v : V) (e : List (Nat × Ob)) (r : List Nat) : Prop := dop D k o s (fun v' e' r' => v' = v ∧ e' = e ∧ r' = r) (fun _ => False)
def StepP (D : DTab) (k : Nat) (o : AOper) (s : S) (v : V) : Prop := dop D k o s (fun _ _ _ => False) (fun v' => v' = v)
theorem dop_det {D : DTab} {k : Nat} {o : AOper} {s : S} {K : V → List (Nat × Ob) → List Nat → Prop} {PQ : V → Prop} (h : dop D k o s K PQ) :
    (∃ v e r, StepR D k o s v e r ∧ K v e r) ∨ (∃ v, StepP D k o s v ∧ PQ v) := by
  unfold dop at h
  unfold StepR StepP dop
  have ex : dexec D k o.op s (fun v e => K v e (rdsOf s o.op)) PQ →
      (∃ v e r, dexec D k o.op s (fun v' e' => v' = v ∧ e' = e ∧ rdsOf s o.op = r) (fun _ => False) ∧ K v e r) ∨ (∃ v, dexec D k o.op s (fun _ _ => False) (fun v' => v' = v) ∧ PQ v) := by
    intro h
    rcases dexec_det h with ⟨v, e, hK, hd⟩ | ⟨v, hP, hd⟩
    · exact .inl ⟨v, e, rdsOf s o.op, dexec_mono (fun v' e' h => ⟨h.1, h.2, rfl⟩) (fun _ h => h) hd, hK⟩
    · exact .inr ⟨v, hd, hP⟩
  split at h
  · rename_i hg
    simp only [hg]
    exact ex h
  · rename_i g want hg
    split at h
    · rename_i b hb
      cases want <;> cases b <;> simp only [bcase] at h <;> simp only [hg, hb, bcase]
      · exact ex h
      · exact .inl ⟨.tup [], [], [], ⟨rfl, rfl, rfl⟩, h⟩
      · exact .inl ⟨.tup [], [], [], ⟨rfl, rfl, rfl⟩, h⟩
      · exact ex h
    · rename_i hb
      simp only [hg, hb]
      exact .inl ⟨.tup [], [], [], ⟨rfl, rfl, rfl⟩, h⟩
    · exact h.elim
theorem stepR_congr {D : DTab} {k : Nat} {o : AOper} {s s' : S} {v : V} {e : List (Nat × Ob)} {r : List Nat} (h : StepR D k o s v e r) (hs : ∀ t ∈ looks o, s.sl t = s'.sl t) (hh : ∀ id ∈ r, s.hp id = s'.hp id) : StepR D k o s' v e r := by
  unfold StepR dop at h ⊢
  have hop : ∀ t ∈ opSl o.op, s.sl t = s'.sl t := fun t ht => hs t (by simp [looks, ht])
  have ex : dexec D k o.op s (fun v' e' => v' = v ∧ e' = e ∧ rdsOf s o.op = r) (fun _ => False) → dexec D k o.op s' (fun v' e' => v' = v ∧ e' = e ∧ rdsOf s' o.op = r) (fun _ => False) := by
    intro h
    have hr : rdsOf s o.op = r := by
      rcases dexec_det h with ⟨_, _, h, _⟩ | ⟨_, h, _⟩
      · exact h.2.2
      · exact h.elim
    rw [← rdsOf_congr hop]
    exact dexec_congr hop (by rw [hr]; exact hh) h
  split at h
  · rename_i hg
    exact ex h
  · rename_i g want hg
    rw [← hs g (by simp [looks, gSl, hg])]
    split at h
    · rename_i b hb
      cases want <;> cases b <;> simp only [bcase] at h ⊢
      · exact ex h
      · exact h
      · exact h
      · exact ex h
    · exact h
    · exact h.elim
theorem stepP_congr {D : DTab} {k : Nat} {o : AOper} {s s' : S} {v : V} (h : StepP D k o s v) (hs : ∀ t ∈ looks o, s.sl t = s'.sl t) (hh : ∀ id, s.hp id = s'.hp id) : StepP D k o s' v := by
  unfold StepP dop at h ⊢
  have hop : ∀ t ∈ opSl o.op, s.sl t = s'.sl t := fun t ht => hs t (by simp [looks, ht])
  split at h
  · rename_i hg
    exact dexec_congr hop (fun id _ => hh id) h
  · rename_i g want hg
    rw [← hs g (by simp [looks, gSl, hg])]
    split at h
    · rename_i b hb
      cases want <;> cases b <;> simp only [bcase] at h ⊢
      all_goals exact dexec_congr hop (fun id _ => hh id) h
    · exact h.elim
    · exact h.elim
/-- What is known of the first m operations. -/
structure Lex (D : DTab) (n0 top : Nat) (L : List (AOper × List Nat)) (s0 : S) (A : Dat) (m : Nat) : Prop where
  le : m ≤ L.length
  dst : ∀ j o p, L[j]? = some (o, p) → A.d j = o.d
  step : ∀ j o p, j < m → L[j]? = some (o, p) → StepR D (n0 + 8 * j) o (stE top s0 A (fun _ => true) j) (A.v j) (A.e j) (A.r j) ∧ okIds n0 j p (A.v j) (A.e j) = true ∧
    ∀ i, i < j → i ∈ p ∨ (disj (idsE (A.e i)) (A.r j) = true ∧ disj (idsE (A.e j)) (A.r i) = true ∧ disj (idsE (A.e j)) (idsE (A.e i)) = true)
def trOf (A : Dat) : Nat → List (Nat × List Nat × List Nat)
  | 0 => []
  | j + 1 => (j, A.r j, idsE (A.e j)) :: trOf A j
theorem okTr_of {preds rds wrs : List Nat} {A : Dat} : ∀ j, okTr preds rds wrs (trOf A j) = true → ∀ i, i < j → i ∈ preds ∨ (disj (idsE (A.e i)) rds = true ∧ disj wrs (A.r i) = true ∧ disj wrs (idsE (A.e i)) = true)
  | 0, _, i, hi => by omega
  | j + 1, h, i, hi => by
    simp only [trOf, okTr, Bool.and_eq_true, Bool.or_eq_true, memB_iff] at h
    by_cases e : i = j
    · subst e
      rcases h.1 with h1 | h1
      · exact .inl h1
      · exact .inr ⟨h1.1.1, h1.1.2, h1.2⟩
    · exact okTr_of j h.2 i (by omega)
theorem effsIn_of {preds : List Nat} {A : Dat} : ∀ j, effsIn preds (trOf A j) = true → ∀ i, i < j → idsE (A.e i) = [] ∨ i ∈ preds
  | 0, _, i, hi => by omega
  | j + 1, h, i, hi => by
    simp only [trOf, effsIn, Bool.and_eq_true, Bool.or_eq_true, memB_iff, List.isEmpty_iff] at h
    by_cases e : i = j
    · subst e
      exact h.1
    · exact effsIn_of j h.2 i (by omega)
theorem trOf_congr {A A' : Dat} : ∀ j, (∀ x, x < j → A.r x = A'.r x ∧ A.e x = A'.e x) → trOf A j = trOf A' j
  | 0, _ => rfl
  | j + 1, h => by
    obtain ⟨h1, h2⟩ := h j (by omega)
    simp only [trOf, h1, h2, trOf_congr j (fun x hx => h x (by omega))]
def Dat.set (A : Dat) (j : Nat) (v : V) (e : List (Nat × Ob)) (r : List Nat) : Dat := ⟨upd A.v j v, upd A.e j e, upd A.r j r, A.d⟩
theorem drun_lex {D : DTab} {n0 top : Nat} {L : List (AOper × List Nat)} {s0 : S} {K : S → Prop} {PQ : V → S → Prop} : ∀ (l : List (AOper × List Nat)) (j : Nat) (A : Dat), L.drop j = l → Lex D n0 top L s0 A j →
    drun D n0 top j l (trOf A j) K PQ (stE top s0 A (fun _ => true) j) →
    ∃ m A', Lex D n0 top L s0 A' m ∧ ((m = L.length ∧ K (stE top s0 A' (fun _ => true) m)) ∨ (∃ o p u, L[m]? = some (o, p) ∧ StepP D (n0 + 8 * m) o (stE top s0 A' (fun _ => true) m) u ∧ allAfter m (L.drop (m + 1)) = true ∧
      (∀ i, i < m → idsE (A'.e i) = [] ∨ i ∈ p) ∧ V.lt 0 u = true ∧ ∀ sl, PQ u ⟨sl, (stE top s0 A' (fun _ => true) m).hp, top⟩))
  | [], j, A, hl, hx, h => by
    have : j = L.length := by
      have := congrArg List.length hl
      simp at this
      have := hx.le
      omega
    exact ⟨j, A, hx, .inl ⟨this, h⟩⟩
  | (o, p) :: l, j, A, hl, hx, h => by
    have hj : L[j]? = some (o, p) := by
      have := congrArg (·[0]?) hl
      simpa using this
    have hjl : j < L.length := (List.getElem?_eq_some_iff.1 hj).1
    have hl' : L.drop (j + 1) = l := by
      have := congrArg (List.drop 1) hl
      simpa [List.drop_drop, Nat.add_comm] using this
    simp only [drun] at h
    rw [splitG_iff] at h
    rcases dop_det h with ⟨v, e, r, hst, hK⟩ | ⟨u, hst, hP⟩
    · simp only [forceV_iff, forceE_iff, forceI_iff, putK_iff] at hK
      split at hK
      · rename_i hok
        simp only [Bool.and_eq_true] at hok
        have same : ∀ x, x < j → A.v x = (A.set j v e r).v x ∧ A.e x = (A.set j v e r).e x ∧ A.d x = (A.set j v e r).d x := fun x hx => ⟨(upd_ne _ _ _ (by omega)).symm, (upd_ne _ _ _ (by omega)).symm, rfl⟩
        have hlex : Lex D n0 top L s0 (A.set j v e r) (j + 1) := by
          refine ⟨hjl, hx.dst, fun i o' p' hi hio => ?_⟩
          by_cases ei : i = j
          · subst ei
            rw [hj] at hio
            cases hio
            refine ⟨?_, ?_, fun i' hi' => ?_⟩
            · rw [← stE_dat i same]
              simpa [Dat.set, upd_same] using hst
            · simpa [Dat.set, upd_same] using hok.2
            · have := okTr_of i hok.1 i' hi'
              simpa [Dat.set, upd_same, upd_ne _ _ _ (show i' ≠ i by omega), idsE] using this
          · obtain ⟨a1, a2, a3⟩ := hx.step i o' p' (by omega) hio
            refine ⟨?_, ?_, fun i' hi' => ?_⟩
            · rw [← stE_dat i (fun x hx => same x (by omega))]
              simpa [Dat.set, upd_ne _ _ _ ei] using a1
            · simpa [Dat.set, upd_ne _ _ _ ei] using a2
            · simpa [Dat.set, upd_ne _ _ _ ei, upd_ne _ _ _ (show i' ≠ j by omega)] using a3 i' hi'
        refine drun_lex l (j + 1) (A.set j v e r) hl' hlex ?_
        have htr : trOf (A.set j v e r) (j + 1) = (j, r, e.map (·.1)) :: trOf A j := by
          simp only [trOf]
          rw [← trOf_congr j (fun x hx => ⟨(upd_ne _ _ _ (by omega)).symm, (upd_ne _ _ _ (by omega)).symm⟩)]
          simp [Dat.set, upd_same, idsE]
        have hst' : stE top s0 (A.set j v e r) (fun _ => true) (j + 1) = S.put ⟨(stE top s0 A (fun _ => true) j).sl, applyE (stE top s0 A (fun _ => true) j).hp e, top⟩ o.d v := by
          simp only [stE]
          rw [← stE_dat j same]
          simp [Dat.set, upd_same, hx.dst j o p hj]
        rw [htr, hst']
        exact hK
      · exact hK.elim
    · split at hP
      · rename_i hok
        simp only [Bool.and_eq_true] at hok
        refine ⟨j, A, hx, .inr ⟨o, p, u, hj, hst, by rw [hl']; exact hok.1.1, effsIn_of j hok.1.2, hok.2, hP⟩⟩
      · exact hP.elim
theorem allAfter_of {m : Nat} : ∀ (l : List (AOper × List Nat)), allAfter m l = true → ∀ (i : Nat) (o : AOper) (p : List Nat), l[i]? = some (o, p) → m ∈ p
  | [], _, i, o, p, h => by simp at h
  | (o', p') :: l, h, 0, o, p, hi => by
    simp only [allAfter, Bool.and_eq_true, memB_iff] at h
    simp at hi
    obtain ⟨rfl, rfl⟩ := hi
    exact h.1
  | (o', p') :: l, h, i + 1, o, p, hi => by
    simp only [allAfter, Bool.and_eq_true] at h
    exact allAfter_of l h.2 i o p (by simpa using hi)
end Go.Proofs.YtbolfnkgbjkbjaaGreat.AM
end
section
set_option linter.unusedVariables false
set_option linter.unusedSimpArgs false
namespace Go.Proofs.YtbolfnkgbjkbjaaGreat.AM
open Go Go.RowKit

abbrev FSpec := List V → List Ob → (Out → List Ob → Prop) → Prop
def liftA (F : FSpec) : Spec := fun args h n K => match viewL h [] args with
  | some (c, args', obs) => c ∧ F args' obs fun out news => match out with
    | .ret v => K (.ret (shV n v)) (addObs h n news) (n + news.length)
    | .pan v => K (.pan v) h n
  | none => False
def ofD (g : GSpec) : FSpec := fun args obs K => match g args obs with
  | some (d, out, news) => d ∧ K out news
  | none => False
def liftG (g : DSpec) : Spec := fun args h n K => match g.g args h with
  | some (d, out, news) => d ∧ (match out with
    | .ret v => K (.ret (shV n v)) (addObs h n news) (n + news.length)
    | .pan v => K (.pan v) h n)
  | none => False
def viewD (g : GSpec) : DSpec := ⟨.no, fun args h => match viewL h [] args with
    | some (c, args', obs) => match g args' obs with
      | some (d, out, news) => some (c ∧ d, out, news)
      | none => none
    | none => none, fun args h h' hh => by rw [viewL_congr args [] hh]⟩
theorem viewD_spec {g : GSpec} {args : List V} {h : Nat → Ob} {n : Nat} {K : Out → (Nat → Ob) → Nat → Prop} (hk : liftG (viewD g) args h n K) : liftA (ofD g) args h n K := by
  unfold liftG viewD at hk
  unfold liftA ofD
  simp only [] at hk
  cases hv : viewL h [] args with
  | none => rw [hv] at hk; exact hk
  | some p =>
    obtain ⟨c, args', obs⟩ := p
    rw [hv] at hk
    simp only [] at hk ⊢
    cases hg : g args' obs with
    | none => rw [hg] at hk; exact hk.elim
    | some q =>
      obtain ⟨d, out, news⟩ := q
      rw [hg] at hk
      exact ⟨hk.1.1, hk.1.2, hk.2⟩
def tabD (D : DTab) : Tab := fun f => match D f with
  | some g => liftG g
  | none => fun _ _ _ _ => False

mutual
theorem R.ids {ρ : Nat → Bnd} {n : Nat} : ∀ (v : V) (x : Value), R ρ n v x → ∀ id ∈ idsV v, id < n
  | .top, _, _, id, hi => by simp [idsV] at hi
  | .int _ _, _, _, id, hi => by simp [idsV] at hi
  | .bool _, _, _, id, hi => by simp [idsV] at hi
  | .nilp, _, _, id, hi => by simp [idsV] at hi
  | .nsl, _, _, id, hi => by simp [idsV] at hi
  | .nfn, _, _, id, hi => by simp [idsV] at hi
  | .nifc, _, _, id, hi => by simp [idsV] at hi
  | .nmp, _, _, id, hi => by simp [idsV] at hi
  | .mp i, _, h, id, hi => by
    simp only [idsV, List.mem_singleton] at hi
    simp only [R] at h
    rw [hi]; exact h.1
  | .ptr i _ _ _, _, h, id, hi => by
    simp only [idsV, List.mem_singleton] at hi
    simp only [R] at h
    rw [hi]; exact h.1
  | .sl i _ _ _, _, h, id, hi => by
    simp only [idsV, List.mem_singleton] at hi
    simp only [R] at h
    rw [hi]; exact h.1
  | .osl i, _, h, id, hi => by
    simp only [idsV, List.mem_singleton] at hi
    simp only [R] at h
    rw [hi]; exact h.1
  | .fn _ a b, _, h, id, hi => by
    simp only [idsV, List.mem_append] at hi
    simp only [R] at h
    obtain ⟨xs, ys, _, h1, h2⟩ := h
    rcases hi with hi | hi
    · exact RL.ids a _ h1 id hi
    · exact RL.ids b _ h2 id hi
  | .ifc _ v, _, h, id, hi => by
    simp only [idsV] at hi
    simp only [R] at h
    obtain ⟨y, _, h1⟩ := h
    exact R.ids v y h1 id hi
  | .agg cs, _, h, id, hi => by
    simp only [idsV] at hi
    simp only [R] at h
    obtain ⟨xs, _, h1⟩ := h
    exact RL.ids cs _ h1 id hi
  | .tup cs, _, h, id, hi => by
    simp only [idsV] at hi
    simp only [R] at h
    obtain ⟨xs, _, h1⟩ := h
    exact RL.ids cs _ h1 id hi
theorem RL.ids {ρ : Nat → Bnd} {n : Nat} : ∀ (vs : List V) (xs : List Value), RL ρ n vs xs → ∀ id ∈ idsL vs, id < n
  | [], _, _, id, hi => by simp [idsL] at hi
  | v :: vs, x :: xs, h, id, hi => by
    simp only [RL] at h
    simp only [idsL, List.mem_append] at hi
    rcases hi with hi | hi
    · exact R.ids v x h.1 id hi
    · exact RL.ids vs xs h.2 id hi
  | _ :: _, [], h, _, _ => by simp [RL] at h
end
mutual
theorem R.remap {ρ ρ' : Nat → Bnd} {n n' : Nat} : ∀ (v : V) (x : Value), R ρ n v x → (∀ id ∈ idsV v, id < n' ∧ ρ' id = ρ id) → R ρ' n' v x
  | .top, _, _, _ => by simp [R]
  | .int _ _, _, h, _ => by simpa [R] using h
  | .bool _, _, h, _ => by simpa [R] using h
  | .nilp, _, h, _ => by simpa [R] using h
  | .nsl, _, h, _ => by simpa [R] using h
  | .nfn, _, h, _ => by simpa [R] using h
  | .nifc, _, h, _ => by simpa [R] using h
  | .nmp, _, h, _ => by simpa [R] using h
  | .mp i, _, h, hi => by
    obtain ⟨h1, h2⟩ := hi i (by simp [idsV])
    simp only [R] at h ⊢
    rw [h2]; exact ⟨h1, h.2⟩
  | .ptr i _ _ _, _, h, hi => by
    obtain ⟨h1, h2⟩ := hi i (by simp [idsV])
    simp only [R] at h ⊢
    rw [h2]; exact ⟨h1, h.2⟩
  | .sl i _ _ _, _, h, hi => by
    obtain ⟨h1, h2⟩ := hi i (by simp [idsV])
    simp only [R] at h ⊢
    rw [h2]; exact ⟨h1, h.2⟩
  | .osl i, _, h, hi => by
    obtain ⟨h1, h2⟩ := hi i (by simp [idsV])
    simp only [R] at h ⊢
    rw [h2]; exact ⟨h1, h.2⟩
  | .fn _ a b, _, h, hi => by
    simp only [R] at h ⊢
    obtain ⟨xs, ys, h0, h1, h2⟩ := h
    exact ⟨xs, ys, h0, RL.remap a _ h1 (fun id hid => hi id (by simp [idsV, hid])), RL.remap b _ h2 (fun id hid => hi id (by simp [idsV, hid]))⟩
  | .ifc _ v, _, h, hi => by
    simp only [R] at h ⊢
    obtain ⟨y, h0, h1⟩ := h
    exact ⟨y, h0, R.remap v y h1 (fun id hid => hi id (by simpa [idsV] using hid))⟩
  | .agg cs, _, h, hi => by
    simp only [R] at h ⊢
    obtain ⟨xs, h0, h1⟩ := h
    exact ⟨xs, h0, RL.remap cs _ h1 (fun id hid => hi id (by simpa [idsV] using hid))⟩
  | .tup cs, _, h, hi => by
    simp only [R] at h ⊢
    obtain ⟨xs, h0, h1⟩ := h
    exact ⟨xs, h0, RL.remap cs _ h1 (fun id hid => hi id (by simpa [idsV] using hid))⟩
theorem RL.remap {ρ ρ' : Nat → Bnd} {n n' : Nat} : ∀ (vs : List V) (xs : List Value), RL ρ n vs xs → (∀ id ∈ idsL vs, id < n' ∧ ρ' id = ρ id) → RL ρ' n' vs xs
  | [], [], _, _ => by simp [RL]
  | v :: vs, x :: xs, h, hi => by
    simp only [RL] at h ⊢
    exact ⟨R.remap v x h.1 (fun id hid => hi id (by simp [idsL, hid])), RL.remap vs xs h.2 (fun id hid => hi id (by simp [idsL, hid]))⟩
  | _ :: _, [], h, _ => by simp [RL] at h
  | [], _ :: _, h, _ => by simp [RL] at h
end
mutual
theorem R.resh {ρ ρ' : Nat → Bnd} {n n' a k : Nat} : ∀ (v : V) (x : Value), R ρ n (shV a v) x → (∀ id, a + id < n → k + id < n' ∧ ρ' (k + id) = ρ (a + id)) → R ρ' n' (shV k v) x
  | .top, _, _, _ => by simp [R, shV]
  | .int _ _, _, h, _ => by simpa [R, shV] using h
  | .bool _, _, h, _ => by simpa [R, shV] using h
  | .nilp, _, h, _ => by simpa [R, shV] using h
  | .nsl, _, h, _ => by simpa [R, shV] using h
  | .nfn, _, h, _ => by simpa [R, shV] using h
  | .nifc, _, h, _ => by simpa [R, shV] using h
  | .nmp, _, h, _ => by simpa [R, shV] using h
  | .mp i, _, h, hi => by
    simp only [R, shV] at h ⊢
    obtain ⟨h1, h2⟩ := hi i h.1
    rw [h2]; exact ⟨h1, h.2⟩
  | .ptr i _ _ _, _, h, hi => by
    simp only [R, shV] at h ⊢
    obtain ⟨h1, h2⟩ := hi i h.1
    rw [h2]; exact ⟨h1, h.2⟩
  | .sl i _ _ _, _, h, hi => by
    simp only [R, shV] at h ⊢
    obtain ⟨h1, h2⟩ := hi i h.1
    rw [h2]; exact ⟨h1, h.2⟩
  | .osl i, _, h, hi => by
    simp only [R, shV] at h ⊢
    obtain ⟨h1, h2⟩ := hi i h.1
    rw [h2]; exact ⟨h1, h.2⟩
  | .fn _ c d, _, h, hi => by
    simp only [R, shV] at h ⊢
    obtain ⟨xs, ys, h0, h1, h2⟩ := h
    exact ⟨xs, ys, h0, RL.resh c _ h1 hi, RL.resh d _ h2 hi⟩
  | .ifc _ v, _, h, hi => by
    simp only [R, shV] at h ⊢
    obtain ⟨y, h0, h1⟩ := h
    exact ⟨y, h0, R.resh v y h1 hi⟩
  | .agg cs, _, h, hi => by
    simp only [R, shV] at h ⊢
    obtain ⟨xs, h0, h1⟩ := h
    exact ⟨xs, h0, RL.resh cs _ h1 hi⟩
  | .tup cs, _, h, hi => by
    simp only [R, shV] at h ⊢
    obtain ⟨xs, h0, h1⟩ := h
    exact ⟨xs, h0, RL.resh cs _ h1 hi⟩
theorem RL.resh {ρ ρ' : Nat → Bnd} {n n' a k : Nat} : ∀ (vs : List V) (xs : List Value), RL ρ n (shL a vs) xs → (∀ id, a + id < n → k + id < n' ∧ ρ' (k + id) = ρ (a + id)) → RL ρ' n' (shL k vs) xs
  | [], [], _, _ => by simp [RL, shL]
  | v :: vs, x :: xs, h, hi => by
    simp only [RL, shL] at h ⊢
    exact ⟨R.resh v x h.1 hi, RL.resh vs xs h.2 hi⟩
  | _ :: _, [], h, _ => by simp [RL, shL] at h
  | [], _ :: _, h, _ => by simp [RL, shL] at h
end
theorem HR.remap {ρ ρ' : Nat → Bnd} {n n' B : Nat} {w : World} {b : Bnd} {o : Ob} (h : HR ρ n B w b o) (hi : ∀ id ∈ idsO o, id < n' ∧ ρ' id = ρ id) : HR ρ' n' B w b o := by
  cases o with
  | no => trivial
  | var t cs =>
    obtain ⟨h1, h2, c, h3, h4⟩ := h
    exact ⟨h1, h2, c, h3, RL.remap cs _ h4 hi⟩
  | rv cs =>
    obtain ⟨h2, c, t, h3, h4⟩ := h
    exact ⟨h2, c, t, h3, RL.mono (Nat.le_refl 0) (fun i hi => by omega) _ _ h4⟩
  | ro E l => exact h
  | own t E l => exact h
  | mp ka KE va VE m => exact h
theorem HR.ids {ρ : Nat → Bnd} {n B : Nat} {w : World} {b : Bnd} {o : Ob} (h : HR ρ n B w b o) : ∀ id ∈ idsO o, id < n := by
  cases o with
  | var t cs =>
    obtain ⟨h1, h2, c, h3, h4⟩ := h
    exact RL.ids cs _ h4
  | _ => intro id hid; simp [idsO] at hid
theorem Rel.map {B n n' : Nat} {ρ ρ' : Nat → Bnd} {h h' : Nat → Ob} {w : World} (hr : Rel B ρ n h w) (f : Nat → Nat) (hf : ∀ i, i < n' → f i < n) (inj : ∀ i j, i < n' → j < n' → f i = f j → i = j)
    (hρ : ∀ i, i < n' → ρ' i = ρ (f i)) (hh : ∀ i, i < n' → h' i = h (f i)) (hid : ∀ i, i < n' → ∀ id ∈ idsO (h' i), id < n' ∧ ρ' id = ρ id) : Rel B ρ' n' h' w := by
  refine ⟨hr.base, fun i hi => ?_, fun i j hi hj hij g hg hgj => ?_⟩
  · rw [hρ i hi]
    have h1 := hr.obj (f i) (hf i hi)
    rw [← hh i hi] at h1
    exact h1.remap (hid i hi)
  · rw [hρ i hi, hh i hi] at hg
    rw [hρ j hj, hh j hj] at hgj
    exact hr.sep (f i) (f j) (hf i hi) (hf j hj) (fun e => hij (inj i j hi hj e)) g hg hgj
theorem addObs_old : ∀ (l : List Ob) (h : Nat → Ob) (n i : Nat), i < n → addObs h n l i = h i
  | [], _, _, _, _ => rfl
  | o :: l, h, n, i, hi => by
    simp only [addObs]
    rw [addObs_old l _ _ _ (by omega), upd_ne _ _ _ (by omega)]
theorem addObs_new : ∀ (l : List Ob) (h : Nat → Ob) (n i : Nat), i < l.length → addObs h n l (n + i) = lookO l i
  | [], _, _, _, hi => by simp at hi
  | o :: l, h, n, 0, _ => by
    simp only [addObs, lookO, Nat.add_zero]
    rw [addObs_old l _ _ _ (by omega), upd_same]
  | o :: l, h, n, i + 1, hi => by
    simp only [addObs, lookO]
    rw [show n + (i + 1) = n + 1 + i by omega]
    exact addObs_new l _ _ i (by simpa using hi)
theorem applyE_numb (h : Nat → Ob) : ∀ (l : List Ob) (k : Nat), applyE h (numb k l) = addObs h k l := by
  intro l
  induction l generalizing h with
  | nil => intro k; rfl
  | cons o l ih => intro k; simp only [numb, applyE, addObs]; exact ih _ _
theorem addObs_far : ∀ (l : List Ob) (h : Nat → Ob) (n i : Nat), n + l.length ≤ i → addObs h n l i = h i
  | [], _, _, _, _ => rfl
  | o :: l, h, n, i, hi => by
    simp only [List.length_cons] at hi
    simp only [addObs]
    rw [addObs_far l _ _ _ (by omega), upd_ne _ _ _ (by omega)]
theorem applyE_append (h : Nat → Ob) : ∀ (a b : List (Nat × Ob)), applyE h (a ++ b) = applyE (applyE h a) b := by
  intro a
  induction a generalizing h with
  | nil => intro b; rfl
  | cons p l ih => intro b; obtain ⟨i, o⟩ := p; simp only [List.cons_append, applyE]; exact ih _ _

/-- What a step's end is, its new blocks on top, of what is written with them in their places. -/
def Ren (σ : S) (top k : Nat) (d : Option Nat) (v : V) (e : List (Nat × Ob)) (s' : S) : Prop :=
  s' = S.put ⟨σ.sl, applyE σ.hp e, top⟩ d v ∨
  ∃ pre news u, v = shV k u ∧ e = pre ++ numb k news ∧ (∀ p ∈ pre, p.2 = Ob.no) ∧ news.length ≤ 8 ∧ s' = S.put ⟨σ.sl, addObs (applyE σ.hp pre) top news, top + news.length⟩ d (shV top u)
theorem or_run {σ : S} {k : Nat} {d : Option Nat} {v : V} {e : List (Nat × Ob)} {X : Prop} (r : OR)
    (h : match r with
    | .val v' => force v' fun v' => v' = v ∧ [] = e ∧ X
    | .chk c v' => c ∧ force v' fun v' => v' = v ∧ [] = e ∧ X
    | .new c o own => c ∧ newV own k = v ∧ [(k, o)] = e ∧ X
    | .put c id o => c ∧ V.top = v ∧ [(id, o)] = e ∧ X
    | .mov c id o => c ∧ V.osl k = v ∧ [(id, Ob.no), (k, o)] = e ∧ X
    | .bad => False) : r.run σ d (Ren σ σ.nx k d v e) := by
  cases r with
  | val v' =>
    simp only [force_iff] at h
    obtain ⟨rfl, rfl, _⟩ := h
    simp only [OR.run, force_iff]
    exact .inl rfl
  | chk c v' =>
    simp only [force_iff] at h
    obtain ⟨hc, rfl, rfl, _⟩ := h
    simp only [OR.run, force_iff]
    exact ⟨hc, .inl rfl⟩
  | new c o own =>
    obtain ⟨hc, rfl, rfl, _⟩ := h
    refine ⟨hc, .inr ⟨[], [o], newV own 0, ?_, rfl, by simp, by simp, ?_⟩⟩
    · cases own <;> rfl
    · cases own <;> rfl
  | put c id o =>
    obtain ⟨hc, rfl, rfl, _⟩ := h
    exact ⟨hc, .inl rfl⟩
  | mov c id o =>
    obtain ⟨hc, rfl, rfl, _⟩ := h
    exact ⟨hc, .inr ⟨[(id, .no)], [o], .osl 0, rfl, rfl, by simp, by simp, rfl⟩⟩
  | bad => exact h
theorem dexec_run {D : DTab} {σ : S} {k : Nat} {o : AOper} {v : V} {e : List (Nat × Ob)} {X : Prop} (h : dexec D k o.op σ (fun v' e' => v' = v ∧ e' = e ∧ X) (fun _ => False)) :
    runOp1 (tabD D) o (Ren σ σ.nx k o.d v e) (fun _ _ => False) σ := by
  obtain ⟨d, op, g⟩ := o
  cases op
  case call f args =>
    simp only [dexec] at h
    simp only [runOp1]
    split at h
    · rename_i fi fs cs hf
      split at h
      · rename_i g' hg
        have ht : tabD D fi = liftG g' := by simp [tabD, hg]
        rw [forceL_iff, forceN_iff, ht]
        unfold liftG
        split at h
        · rename_i d' out news hgo
          simp only [hgo]
          split at h
          · rename_i u
            split at h
            · rename_i hlen
              simp only [Bool.and_eq_true, Nat.ble_eq] at hlen
              obtain ⟨hd, hab⟩ := h
              obtain ⟨rfl, rfl, _⟩ := (absM_iff _ _ _).1 hab
              refine ⟨hd, ?_⟩
              simp only [forceV_iff, putK_iff]
              exact .inr ⟨[], news, u, rfl, rfl, by simp, hlen.1, rfl⟩
            · exact h.elim
          · exact h.2.elim
        · exact h.elim
      · exact h.elim
    · exact h.elim
  case pan => exact h.elim
  case no => exact h.elim
  all_goals
    simp only [dexec] at h
    simp only [runOp1]
    rw [OR.runF_iff]
    exact or_run _ h
theorem dexec_runP {D : DTab} {σ : S} {k : Nat} {o : AOper} {u : V} (h : dexec D k o.op σ (fun _ _ => False) (fun v' => v' = u)) :
    runOp1 (tabD D) o (fun _ => False) (fun v s' => v = u ∧ s' = σ) σ := by
  obtain ⟨d, op, g⟩ := o
  cases op
  case call f args =>
    simp only [dexec] at h
    simp only [runOp1]
    split at h
    · rename_i fi fs cs hf
      split at h
      · rename_i g' hg
        have ht : tabD D fi = liftG g' := by simp [tabD, hg]
        rw [forceL_iff, forceN_iff, ht]
        unfold liftG
        split at h
        · rename_i d' out news hgo
          simp only [hgo]
          split at h
          · rename_i u
            split at h
            · exact ((absM_iff _ _ _).1 h.2).elim
            · exact h.elim
          · obtain ⟨hd, rfl⟩ := h
            exact ⟨hd, by simp⟩
        · exact h.elim
      · exact h.elim
    · exact h.elim
  case pan => exact h.elim
  all_goals
    simp only [dexec] at h
    split at h
    all_goals first
      | exact h.elim
      | (rw [force_iff] at h; exact h.elim)
      | (have h2 := h.2; rw [force_iff] at h2; exact h2.elim)
      | exact h.2.elim
theorem dop_run {D : DTab} {σ : S} {k : Nat} {o : AOper} {v : V} {e : List (Nat × Ob)} {r : List Nat} (h : StepR D k o σ v e r) : runOp (tabD D) o (Ren σ σ.nx k o.d v e) (fun _ _ => False) σ := by
  unfold StepR dop at h
  unfold runOp
  have skip : (V.tup [] = v ∧ [] = e ∧ [] = r) → Ren σ σ.nx k o.d v e (σ.put o.d (.tup [])) := by
    rintro ⟨rfl, rfl, _⟩
    exact .inl rfl
  split at h
  · rename_i hg
    exact dexec_run h
  · rename_i g want hg
    split at h
    · rename_i b hb
      cases want <;> cases b <;> simp only [bcase] at h ⊢
      · rw [st_self σ g _ hb]
        exact dexec_run h
      · rw [upd_self _ _ _ hb]
        exact (putK_iff _ _ _ _ _ _).2 (skip h)
      · rw [upd_self _ _ _ hb]
        exact (putK_iff _ _ _ _ _ _).2 (skip h)
      · rw [st_self σ g _ hb]
        exact dexec_run h
    · exact (putK_iff _ _ _ _ _ _).2 (skip h)
    · exact h.elim
theorem dop_runP {D : DTab} {σ : S} {k : Nat} {o : AOper} {u : V} (h : StepP D k o σ u) : runOp (tabD D) o (fun _ => False) (fun v s' => v = u ∧ s' = σ) σ := by
  unfold StepP dop at h
  unfold runOp
  split at h
  · rename_i hg
    exact dexec_runP h
  · rename_i g want hg
    split at h
    · rename_i b hb
      cases want <;> cases b <;> simp only [bcase] at h ⊢
      all_goals
        rw [st_self σ g _ hb]
        exact dexec_runP h
    · exact h.elim
    · exact h.elim
/-- The new blocks, renamed. -/
theorem ren_ok {N B n0 top k : Nat} {ρ' : Nat → Bnd} {σ s' : S} {a' : Act} {w' : World} {d : Option Nat} {v : V} {e : List (Nat × Ob)} (hs : RelS N B ρ' s' a' w') (hr : Ren σ top k d v e s')
    (hk0 : n0 ≤ k) (hk : k + 8 ≤ top) (hsl : ∀ t, ∀ id ∈ idsV (σ.sl t), id < top ∧ ¬ (k ≤ id ∧ id < k + 8)) (hho : ∀ i, ∀ id ∈ idsO (σ.hp i), id < top ∧ ¬ (k ≤ id ∧ id < k + 8))
    (he : ∀ p ∈ e, ∀ id ∈ idsO p.2, id < top ∧ ¬ (k ≤ id ∧ id < k + 8)) :
    ∃ ρ'', RelS N B ρ'' (S.put ⟨σ.sl, applyE σ.hp e, top⟩ d v) a' w' ∧ Agree ρ' ρ'' n0 := by
  rcases hr with rfl | ⟨pre, news, u, rfl, rfl, hpre, hlen, rfl⟩
  · exact ⟨ρ', hs, fun _ _ => rfl⟩
  · let f : Nat → Nat := fun i => if k ≤ i ∧ i < k + news.length then top + (i - k) else i
    have hnx : (S.put ⟨σ.sl, addObs (applyE σ.hp pre) top news, top + news.length⟩ d (shV top u)).nx = top + news.length := S.put_nx _ _ _
    have fin : ∀ i, k ≤ i ∧ i < k + news.length → f i = top + (i - k) := fun i hi => if_pos hi
    have fout : ∀ i, ¬ (k ≤ i ∧ i < k + news.length) → f i = i := fun i hi => if_neg hi
    have fold : ∀ id, id < top → ¬ (k ≤ id ∧ id < k + 8) → f id = id := fun id _ h2 => fout id (fun h => h2 ⟨h.1, by omega⟩)
    have hap : applyE σ.hp (pre ++ numb k news) = addObs (applyE σ.hp pre) k news := by rw [applyE_append, applyE_numb]
    have hob : ∀ i, i < top → addObs (applyE σ.hp pre) k news i = addObs (applyE σ.hp pre) top news (f i) := by
      intro i hi
      by_cases h : k ≤ i ∧ i < k + news.length
      · rw [fin i h, addObs_new _ _ _ _ (by omega)]
        have := addObs_new news (applyE σ.hp pre) k (i - k) (by omega)
        rw [← this]
        congr 1
        omega
      · rw [fout i h, addObs_old _ _ top i hi]
        by_cases h' : i < k
        · exact addObs_old _ _ _ _ h'
        · exact addObs_far _ _ _ _ (by omega)
    have hrel := hs.rel
    rw [hnx, put_hp] at hrel
    refine ⟨fun i => ρ' (f i), ⟨?_, fun t => ?_, hs.size⟩, fun i hi => ?_⟩
    · rw [S.put_nx, put_hp, hap]
      refine hrel.map f (fun i hi => ?_) (fun i j hi hj hij => ?_) (fun _ _ => rfl) hob (fun i hi id hid => ?_)
      · by_cases h : k ≤ i ∧ i < k + news.length
        · rw [fin i h]; omega
        · rw [fout i h]; replace hi : i < top := hi; omega
      · replace hi : i < top := hi
        replace hj : j < top := hj
        by_cases h : k ≤ i ∧ i < k + news.length
        · by_cases h' : k ≤ j ∧ j < k + news.length
          · rw [fin i h, fin j h'] at hij; omega
          · rw [fin i h, fout j h'] at hij; omega
        · by_cases h' : k ≤ j ∧ j < k + news.length
          · rw [fout i h, fin j h'] at hij; omega
          · rw [fout i h, fout j h'] at hij; exact hij
      · have hmem : ∃ p, (p = σ.hp i ∨ p = .no ∨ ∃ q ∈ pre ++ numb k news, q.2 = p) ∧ addObs (applyE σ.hp pre) k news i = p := by
          rw [← hap]
          rcases applyE_mem (pre ++ numb k news) σ.hp i with h | ⟨p, hp, _, h⟩
          · exact ⟨_, .inl rfl, h⟩
          · exact ⟨_, .inr (.inr ⟨p, hp, rfl⟩), h⟩
        obtain ⟨p, hp, hpe⟩ := hmem
        have hid : id ∈ idsO (addObs (applyE σ.hp pre) k news i) := hid
        rw [hpe] at hid
        have hboth : id < top ∧ ¬ (k ≤ id ∧ id < k + 8) := by
          rcases hp with rfl | rfl | ⟨q, hq, rfl⟩
          · exact hho i id hid
          · simp [idsO] at hid
          · exact he q hq id hid
        exact ⟨hboth.1, by rw [fold id hboth.1 hboth.2]⟩
    · rw [S.put_nx, put_sl]
      have := hs.sl t
      rw [hnx, put_sl] at this
      by_cases hd : d = some t
      · rw [if_pos hd] at this ⊢
        refine R.resh u _ this fun id hid => ?_
        have h1 : k ≤ k + id ∧ k + id < k + news.length := by omega
        refine ⟨show k + id < top by omega, ?_⟩
        show ρ' (f (k + id)) = _
        rw [fin _ h1]
        congr 1
        omega
      · rw [if_neg hd] at this ⊢
        refine R.remap _ _ this fun id hid => ?_
        obtain ⟨h1, h2⟩ := hsl t id hid
        exact ⟨h1, by rw [fold id h1 h2]⟩
    · show ρ' (f i) = ρ' i
      rw [fout i (by omega)]
end Go.Proofs.YtbolfnkgbjkbjaaGreat.AM
end
section
set_option linter.unusedVariables false
set_option linter.unusedSimpArgs false
namespace Go.Proofs.YtbolfnkgbjkbjaaGreat.AM
open Go Go.RowKit

def edges (o : Oper) : List Nat := (o.after.toList.filter (Region.binds .any)).map (·.on)
def apartB (x y : AOper) : Bool := (match x.d with
  | some d => !memB d (looks y) && decide (y.d ≠ some d)
  | none => true) && (match y.d with
  | some d => !memB d (looks x)
  | none => true)
def predsAt (l : List (AOper × List Nat)) (e : Nat) : List Nat := match l[e]? with
  | some (_, q) => q
  | none => []
def chkDrw1 (P : Program) (N : Nat) (ops : Array Oper) (l : List (AOper × List Nat)) (j : Nat) : Bool := match ops[j]?, l[j]? with
  | some o, some (ao, p) => chkOper P ops.toList N o ao && (edges o).all (fun e => Nat.blt e j) && p.all (fun i => (edges o).any fun e => Nat.beq i e || memB i (predsAt l e)) &&
    (List.range j).all fun i => match l[i]? with
      | some (ao', _) => memB i p || apartB ao' ao
      | none => false
  | _, _ => false
def chkDrw (P : Program) (N : Nat) (ops : Array Oper) (l : List (AOper × List Nat)) : Bool :=
  P.follows .mixedOrders && Nat.beq l.length ops.size && (List.range ops.size).all (chkDrw1 P N ops l)
theorem apartB_spec {x y : AOper} (h : apartB x y = true) : (∀ d, x.d = some d → d ∉ looks y ∧ y.d ≠ some d) ∧ (∀ d, y.d = some d → d ∉ looks x) := by
  unfold apartB at h
  simp only [Bool.and_eq_true] at h
  refine ⟨fun d hd => ?_, fun d hd => ?_⟩
  · have := h.1
    rw [hd] at this
    simp only [Bool.and_eq_true, Bool.not_eq_true', decide_eq_true_eq] at this
    refine ⟨fun hm => ?_, this.2⟩
    rw [(memB_iff _ _).2 hm] at this
    exact absurd this.1 (by simp)
  · have := h.2
    rw [hd] at this
    simp only [Bool.not_eq_true'] at this
    intro hm
    rw [(memB_iff _ _).2 hm] at this
    exact absurd this (by simp)
structure DrwOk (P : Program) (N : Nat) (ops : Array Oper) (L : List (AOper × List Nat)) : Prop where
  mo : P.follows .mixedOrders = true
  len : L.length = ops.size
  op : ∀ (j : Nat) (o : Oper) (ao : AOper) (p : List Nat), ops[j]? = some o → L[j]? = some (ao, p) → chkOper P ops.toList N o ao = true
  edge : ∀ (j : Nat) (o : Oper), ops[j]? = some o → ∀ e ∈ o.after, Region.binds .any e = true → e.on < j
  pre : ∀ (j : Nat) (o : Oper) (ao : AOper) (p : List Nat), ops[j]? = some o → L[j]? = some (ao, p) → ∀ i ∈ p, ∃ e ∈ o.after, Region.binds .any e = true ∧ (i = e.on ∨ ∃ (ao' : AOper) (q : List Nat), L[e.on]? = some (ao', q) ∧ i ∈ q)
  pair : ∀ (i j : Nat) (ao : AOper) (p : List Nat) (ao' : AOper) (q : List Nat), i < j → L[j]? = some (ao, p) → L[i]? = some (ao', q) → i ∈ p ∨ apartB ao' ao = true
theorem chkDrw_ok {P : Program} {N : Nat} {ops : Array Oper} {L : List (AOper × List Nat)} (h : chkDrw P N ops L = true) : DrwOk P N ops L := by
  unfold chkDrw at h
  simp only [Bool.and_eq_true, Nat.beq_eq, List.all_eq_true, List.mem_range] at h
  obtain ⟨⟨hm, hl⟩, hall⟩ := h
  have at_ : ∀ (j : Nat) (o : Oper) (ao : AOper) (p : List Nat), ops[j]? = some o → L[j]? = some (ao, p) → chkOper P ops.toList N o ao = true ∧ (∀ e ∈ edges o, e < j) ∧ (∀ i ∈ p, ∃ e ∈ edges o, i = e ∨ i ∈ predsAt L e) ∧
      ∀ i, i < j → ∀ (ao' : AOper) (q : List Nat), L[i]? = some (ao', q) → i ∈ p ∨ apartB ao' ao = true := by
    intro j o ao p ho hL
    have hj : j < ops.size := (Array.getElem?_eq_some_iff.1 ho).1
    have := hall j hj
    unfold chkDrw1 at this
    rw [ho, hL] at this
    simp only [Bool.and_eq_true, List.all_eq_true, List.any_eq_true, Bool.or_eq_true, List.mem_range, Nat.blt_eq, Nat.beq_eq, memB_iff] at this
    obtain ⟨⟨⟨h1, h2⟩, h3⟩, h4⟩ := this
    refine ⟨h1, h2, h3, fun i hi ao' q hq => ?_⟩
    have := h4 i hi
    rw [hq] at this
    simpa [memB_iff] using this
  have has : ∀ (j : Nat) (o : Oper), ops[j]? = some o → ∃ (ao : AOper) (p : List Nat), L[j]? = some (ao, p) := by
    intro j o ho
    have hj : j < ops.size := (Array.getElem?_eq_some_iff.1 ho).1
    exact ⟨_, _, List.getElem?_eq_getElem (by omega)⟩
  have mem : ∀ (o : Oper) (e : Nat), e ∈ edges o ↔ ∃ x ∈ o.after, Region.binds .any x = true ∧ x.on = e := by
    intro o e
    simp only [edges, List.mem_map, List.mem_filter, Array.mem_toList_iff]
    constructor
    · rintro ⟨x, ⟨h1, h2⟩, h3⟩; exact ⟨x, h1, h2, h3⟩
    · rintro ⟨x, h1, h2, h3⟩; exact ⟨x, ⟨h1, h2⟩, h3⟩
  refine ⟨hm, hl, fun j o ao p ho hL => (at_ j o ao p ho hL).1, fun j o ho e he hb => ?_, fun j o ao p ho hL i hi => ?_, fun i j ao p ao' q hij hL hq => ?_⟩
  · obtain ⟨ao, p, hL⟩ := has j o ho
    exact (at_ j o ao p ho hL).2.1 e.on ((mem o e.on).2 ⟨e, he, hb, rfl⟩)
  · obtain ⟨e, he, hor⟩ := (at_ j o ao p ho hL).2.2.1 i hi
    obtain ⟨x, h1, h2, rfl⟩ := (mem o e).1 he
    refine ⟨x, h1, h2, ?_⟩
    rcases hor with h | h
    · exact .inl h
    · right
      unfold predsAt at h
      split at h
      · rename_i ao' q hq
        exact ⟨ao', q, hq, h⟩
      · simp at h
  · have hj : j < L.length := (List.getElem?_eq_some_iff.1 hL).1
    have ho : ops[j]? = some ops[j] := Array.getElem?_eq_getElem (by omega)
    exact (at_ j _ ao p ho hL).2.2.2 i hij ao' q hq

def cnt (E : Nat → Bool) : Nat → Nat
  | 0 => 0
  | n + 1 => cnt E n + (match E n with | true => 1 | false => 0)
theorem cnt_le (E : Nat → Bool) : ∀ n, cnt E n ≤ n
  | 0 => Nat.le_refl _
  | n + 1 => by
    have := cnt_le E n
    simp only [cnt]
    split <;> omega
theorem cnt_full {E : Nat → Bool} : ∀ n, cnt E n = n → ∀ x, x < n → E x = true
  | 0, _, x, hx => by omega
  | n + 1, h, x, hx => by
    simp only [cnt] at h
    have := cnt_le E n
    split at h
    · rename_i he
      by_cases e : x = n
      · subst e; exact he
      · exact cnt_full n (by omega) x (by omega)
    · omega
theorem cnt_upd {E : Nat → Bool} {j : Nat} (hj : E j = false) : ∀ n, cnt (upd E j true) n = cnt E n + (if j < n then 1 else 0)
  | 0 => by simp [cnt]
  | n + 1 => by
    simp only [cnt]
    rw [cnt_upd hj n]
    by_cases e : n = j
    · subst e
      rw [upd_same, hj]
      simp
    · rw [upd_ne _ _ _ e]
      by_cases h : j < n
      · rw [if_pos h, if_pos (by omega)]; omega
      · rw [if_neg h, if_neg (by omega), Nat.add_zero, Nat.add_zero]
def inE (E : Nat → Bool) (n0 n id : Nat) : Prop := id < n0 ∨ ∃ x, E x = true ∧ x < n ∧ n0 + 8 * x ≤ id ∧ id < n0 + 8 * x + 8
theorem okId_in {E : Nat → Bool} {n0 n id : Nat} {js : List Nat} (h : okId n0 js id = true) (hjs : ∀ x ∈ js, E x = true ∧ x < n) : inE E n0 n id := by
  unfold okId at h
  simp only [Bool.or_eq_true, Nat.blt_eq, List.any_eq_true, Bool.and_eq_true, Nat.ble_eq] at h
  rcases h with h | ⟨x, hx, h1, h2⟩
  · exact .inl h
  · exact .inr ⟨x, (hjs x hx).1, (hjs x hx).2, h1, h2⟩
theorem inE_out {E : Nat → Bool} {n0 n id j : Nat} (h : inE E n0 n id) (hj : E j = false) (hjn : j < n) : id < n0 + 8 * n ∧ ¬ (n0 + 8 * j ≤ id ∧ id < n0 + 8 * j + 8) := by
  rcases h with h | ⟨x, hx, h0, h1, h2⟩
  · omega
  · have : x ≠ j := by intro e; subst e; rw [hj] at hx; cases hx
    omega
section
variable {D : DTab} {n0 top : Nat} {L : List (AOper × List Nat)} {s0 : S} {A : Dat} {m : Nat}
theorem stE_ids (hx : Lex D n0 top L s0 A m) {E : Nat → Bool} (hEm : ∀ x, E x = true → x < m) (hcl : ∀ x o p, L[x]? = some (o, p) → E x = true → ∀ i ∈ p, E i = true)
    (h1 : ∀ t, ∀ id ∈ idsV (s0.sl t), id < n0) (h2 : ∀ i, ∀ id ∈ idsO (s0.hp i), id < n0) :
    ∀ k, (∀ t, ∀ id ∈ idsV ((stE top s0 A E k).sl t), inE E n0 L.length id) ∧ (∀ i, ∀ id ∈ idsO ((stE top s0 A E k).hp i), inE E n0 L.length id)
  | 0 => ⟨fun t id hid => .inl (h1 t id hid), fun i id hid => .inl (h2 i id hid)⟩
  | k + 1 => by
    obtain ⟨i1, i2⟩ := stE_ids hx hEm hcl h1 h2 k
    have hm := hx.le
    refine ⟨fun t id hid => ?_, fun i id hid => ?_⟩
    · rw [stE_sl] at hid
      split at hid
      · rename_i hk
        have hkm := hEm k hk.1
        obtain ⟨⟨o, p⟩, hL⟩ : ∃ q, L[k]? = some q := ⟨_, List.getElem?_eq_getElem (by omega)⟩
        obtain ⟨_, hok, _⟩ := hx.step k o p hkm hL
        unfold okIds at hok
        simp only [Bool.and_eq_true, List.all_eq_true] at hok
        refine okId_in (hok.1 id hid) fun x hxm => ?_
        rcases List.mem_cons.1 hxm with rfl | hxm
        · exact ⟨hk.1, by omega⟩
        · have := hcl k o p hL hk.1 x hxm
          exact ⟨this, by have := hEm x this; omega⟩
      · exact i1 t id hid
    · rw [stE_hp] at hid
      split at hid
      · rename_i hk
        have hkm := hEm k hk
        obtain ⟨⟨o, p⟩, hL⟩ : ∃ q, L[k]? = some q := ⟨_, List.getElem?_eq_getElem (by omega)⟩
        obtain ⟨_, hok, _⟩ := hx.step k o p hkm hL
        unfold okIds at hok
        simp only [Bool.and_eq_true, List.all_eq_true] at hok
        rcases applyE_mem (A.e k) (stE top s0 A E k).hp i with h | ⟨q, hq, _, h⟩
        · rw [h] at hid
          exact i2 i id hid
        · rw [h] at hid
          refine okId_in ((hok.2 q hq).2 id hid) fun x hxm => ?_
          have := hcl k o p hL hk x hxm
          exact ⟨this, by have := hEm x this; omega⟩
      · exact i2 i id hid
/-- What an operation looks at is the same in the text's order and where it has its turn. -/
theorem slots_same (hx : Lex D n0 top L s0 A m) {E : Nat → Bool} (hpair : ∀ (i j : Nat) (ao : AOper) (p : List Nat) (ao' : AOper) (q : List Nat), i < j → L[j]? = some (ao, p) → L[i]? = some (ao', q) → i ∈ p ∨ apartB ao' ao = true)
    (hcl : ∀ x o p, L[x]? = some (o, p) → E x = true → ∀ i ∈ p, E i = true) {j : Nat} {o : AOper} {p : List Nat} (hj : L[j]? = some (o, p)) (hjE : E j = false) (hp : ∀ i ∈ p, E i = true) (hjm : j ≤ m) :
    ∀ t ∈ looks o, (stE top s0 A (fun _ => true) j).sl t = (stE top s0 A E m).sl t := by
  intro t ht
  rw [← stE_lex (top := top) (s0 := s0) (A := A) m hjm]
  refine stE_sl_congr m fun x hxm hd => ?_
  have hm := hx.le
  obtain ⟨⟨o', p'⟩, hL⟩ : ∃ q, L[x]? = some q := ⟨_, List.getElem?_eq_getElem (by omega)⟩
  have hd' : o'.d = some t := by rw [← hx.dst x o' p' hL]; exact hd
  rcases Nat.lt_trichotomy x j with h | h | h
  · rcases hpair x j o p o' p' h hj hL with h1 | h1
    · rw [hp x h1]; simp [h]
    · exact absurd ht ((apartB_spec h1).1 t hd').1
  · subst h
    rw [hjE]; simp
  · rcases hpair j x o' p' o p h hL hj with h1 | h1
    · have : E x = false := by
        cases he : E x with
        | false => rfl
        | true => rw [hcl x o' p' hL he j h1] at hjE; cases hjE
      rw [this]; simp; omega
    · exact absurd ht ((apartB_spec h1).2 t hd')
theorem heap_same (hx : Lex D n0 top L s0 A m) {E : Nat → Bool}
    (hcl : ∀ x o p, L[x]? = some (o, p) → E x = true → ∀ i ∈ p, E i = true) {j : Nat} {o : AOper} {p : List Nat} (hj : L[j]? = some (o, p)) (hjE : E j = false) (hp : ∀ i ∈ p, E i = true) (hjm : j < m) :
    ∀ id ∈ A.r j, (stE top s0 A (fun _ => true) j).hp id = (stE top s0 A E m).hp id := by
  intro id hid
  rw [← stE_lex (top := top) (s0 := s0) (A := A) m (Nat.le_of_lt hjm)]
  refine stE_hp_congr m fun x hxm hd => ?_
  have hm := hx.le
  obtain ⟨⟨o', p'⟩, hL⟩ : ∃ q, L[x]? = some q := ⟨_, List.getElem?_eq_getElem (by omega)⟩
  rcases Nat.lt_trichotomy x j with h | h | h
  · rcases (hx.step j o p hjm hj).2.2 x h with h1 | ⟨h1, _, _⟩
    · rw [hp x h1]; simp [h]
    · exact absurd hid ((disj_iff _ _).1 h1 id hd)
  · subst h
    rw [hjE]; simp
  · rcases (hx.step x o' p' hxm hL).2.2 j h with h1 | ⟨_, h1, _⟩
    · have : E x = false := by
        cases he : E x with
        | false => rfl
        | true => rw [hcl x o' p' hL he j h1] at hjE; cases hjE
      rw [this]; simp; omega
    · exact absurd hid ((disj_iff _ _).1 h1 id hd)
end
theorem RelS.congr {N B : Nat} {ρ : Nat → Bnd} {s s' : S} {a : Act} {w : World} (h : RelS N B ρ s a w) (h1 : ∀ t, s'.sl t = s.sl t) (h2 : ∀ i, s'.hp i = s.hp i) (h3 : s'.nx = s.nx) : RelS N B ρ s' a w := by
  obtain ⟨sl, hp, nx⟩ := s
  obtain ⟨sl', hp', nx'⟩ := s'
  have e1 : sl' = sl := funext h1
  have e2 : hp' = hp := funext h2
  subst e1 e2 h3
  exact h
section
variable {P : Program} {D : DTab} {N B : Nat} {ops : Array Oper} {L : List (AOper × List Nat)} {Q : Exit → Act → World → Prop} {K : S → Prop} {PQ : V → S → Prop}
variable {n0 top m : Nat} {s0 : S} {A : Dat} {ρ0 : Nat → Bnd} {a0 : Act} {w0 : World}
theorem any_ok (hc : DrwOk P N ops L) (hT : TabOk P (tabD D)) (htop : top = n0 + 8 * L.length) (hx : Lex D n0 top L s0 A m) (hs0 : s0.nx = top) (h1 : ∀ t, ∀ id ∈ idsV (s0.sl t), id < n0) (h2 : ∀ i, ∀ id ∈ idsO (s0.hp i), id < n0)
    (hend : (m = L.length ∧ K (stE top s0 A (fun _ => true) m)) ∨ (∃ o p u, L[m]? = some (o, p) ∧ StepP D (n0 + 8 * m) o (stE top s0 A (fun _ => true) m) u ∧ allAfter m (L.drop (m + 1)) = true ∧
      (∀ i, i < m → idsE (A.e i) = [] ∨ i ∈ p) ∧ V.lt 0 u = true ∧ ∀ sl, PQ u ⟨sl, (stE top s0 A (fun _ => true) m).hp, top⟩))
    (hK : ∀ ρ' s' a' w', K s' → RelS N B ρ' s' a' w' → ExtR B ρ0 n0 w0 ρ' s'.nx w' → a'.defers = a0.defers → Q .normal a' w')
    (hP : ∀ ρ' s' a' w' v x, PQ v s' → RelS N B ρ' s' a' w' → ExtR B ρ0 n0 w0 ρ' s'.nx w' → a'.defers = a0.defers → R ρ' s'.nx v x → Q (.panic [{ v := x, recovered := false }]) a' w') :
    ∀ (fuel : Nat) (listed : Array Bool) (E : Nat → Bool) (ρ : Nat → Bnd) (a : Act) (w : World), (∀ x, listed.getD x false = E x) → listed.size = ops.size → (∀ x, E x = true → x < m) → (∀ x o p, L[x]? = some (o, p) → E x = true → ∀ i ∈ p, E i = true) →
      cnt E L.length + fuel = L.length → RelS N B ρ (stE top s0 A E m) a w → ExtR B ρ0 n0 w0 ρ top w → a.defers = a0.defers → wpAny P .any ops Q fuel listed a w := by
  have hlen := hc.len
  have hmL := hx.le
  -- all done
  have done : ∀ (listed : Array Bool) (E : Nat → Bool) (ρ : Nat → Bnd) (a : Act) (w : World), (∀ x, E x = true → x < m) → (∀ x, x < L.length → E x = true) →
      RelS N B ρ (stE top s0 A E m) a w → ExtR B ρ0 n0 w0 ρ top w → a.defers = a0.defers → Q .normal a w := by
    intro listed E ρ a w hEm hall hs hxt hd
    rcases hend with ⟨rfl, hk⟩ | ⟨o, p, u, hL, _⟩
    · have hs' : RelS N B ρ (stE top s0 A (fun _ => true) L.length) a w := by
        refine hs.congr (fun t => ?_) (fun i => ?_) ?_
        · exact stE_sl_congr L.length fun x hx _ => (hall x hx).symm
        · exact stE_hp_congr L.length fun x hx _ => (hall x hx).symm
        · rw [stE_nx hs0, stE_nx hs0]
      exact hK ρ _ a w hk hs' (by rw [stE_nx hs0]; exact hxt) hd
    · have hml : m < L.length := (List.getElem?_eq_some_iff.1 hL).1
      have := hEm m (hall m hml)
      omega
  -- none is ready: all are done
  have stuck : ∀ (listed : Array Bool) (E : Nat → Bool), (∀ x, listed.getD x false = E x) → listed.size = ops.size → Region.ready .any ops listed = [] → ∀ x, x < L.length → E x = true := by
    intro listed E hE hsz hr x
    induction x using Nat.strongRecOn with
    | _ x ih =>
      intro hxl
      cases he : E x with
      | true => rfl
      | false =>
        exfalso
        have ho : ops[x]? = some ops[x] := Array.getElem?_eq_getElem (by omega)
        have : x ∈ Region.ready .any ops listed := by
          rw [mem_ready]
          refine ⟨?_, _, ho, fun e hem hb => ?_⟩
          · have h0 := hE x
            rw [he] at h0
            rw [Array.getD_eq_getD_getElem?] at h0 ⊢
            have hsx : x < listed.size := by omega
            simpa [hsx] using h0
          · have hlt := hc.edge x _ ho e hem hb
            rw [hE]
            exact ih e.on hlt (by omega)
        rw [hr] at this
        simp at this
  intro fuel
  induction fuel with
  | zero =>
    intro listed E ρ a w hE hsz hEm hcl hcnt hs hxt hd
    have hall := cnt_full L.length (by omega : cnt E L.length = L.length)
    refine ⟨?_, done listed E ρ a w hEm hall hs hxt hd⟩
    cases hr : Region.ready .any ops listed with
    | nil => rfl
    | cons j l =>
      have : j ∈ Region.ready .any ops listed := by rw [hr]; simp
      rw [mem_ready] at this
      obtain ⟨h0, o, ho, _⟩ := this
      have hj : j < ops.size := (Array.getElem?_eq_some_iff.1 ho).1
      have h3 := hE j
      rw [hall j (by omega)] at h3
      rw [Array.getD_eq_getD_getElem?] at h0 h3
      have hsx : j < listed.size := by omega
      simp [hsx] at h0 h3
      rw [h0] at h3
      cases h3
  | succ fuel ih =>
    intro listed E ρ a w hE hsz hEm hcl hcnt hs hxt hd
    refine ⟨fun hr => done listed E ρ a w hEm (stuck listed E hE hsz hr) hs hxt hd, fun j hj => ?_⟩
    rw [mem_ready] at hj
    obtain ⟨h0, o, ho, hedge⟩ := hj
    have hjs : j < ops.size := (Array.getElem?_eq_some_iff.1 ho).1
    have hjl : j < listed.size := by omega
    have hjE : E j = false := by
      rw [← hE j]
      rw [Array.getD_eq_getD_getElem?] at h0 ⊢
      simpa [hjl] using h0
    obtain ⟨⟨ao, p⟩, hL⟩ : ∃ q, L[j]? = some q := ⟨_, List.getElem?_eq_getElem (by omega)⟩
    have hp : ∀ i ∈ p, E i = true := by
      intro i hi
      obtain ⟨e, he, hb, hor⟩ := hc.pre j o ao p ho hL i hi
      have hon : E e.on = true := by rw [← hE]; exact hedge e he hb
      rcases hor with rfl | ⟨ao', q, hq, hiq⟩
      · exact hon
      · exact hcl e.on ao' q hq hon i hiq
    have hchk := hc.op j o ao p ho hL
    have hσ : (stE top s0 A E m).nx = top := stE_nx hs0 m
    obtain ⟨i1, i2⟩ := stE_ids hx hEm hcl h1 h2 m
    unfold wpOp
    rw [ho]
    simp only []
    by_cases hjm : j < m
    · -- a step
      obtain ⟨hst, hok, htr⟩ := hx.step j ao p hjm hL
      have hst' : StepR D (n0 + 8 * j) ao (stE top s0 A E m) (A.v j) (A.e j) (A.r j) :=
        stepR_congr hst (slots_same hx hc.pair hcl hL hjE hp (Nat.le_of_lt hjm)) (heap_same hx hcl hL hjE hp hjm)
      refine op_ok hT (ops := ops) hs hchk (dop_run hst') (next := _) (Q := Q) ?_ (fun _ _ _ _ _ _ h => h.elim)
      intro ρ' s' a' w' hren hs' hx' hd'
      rw [hσ] at hren
      have hok' := hok
      unfold okIds at hok'
      simp only [Bool.and_eq_true, List.all_eq_true] at hok'
      obtain ⟨ρ'', hs'', hag⟩ := ren_ok (n0 := n0) hs' hren (by omega) (by omega)
        (fun t id hid => by have := inE_out (i1 t id hid) hjE (by omega); rw [htop]; exact this)
        (fun i id hid => by have := inE_out (i2 i id hid) hjE (by omega); rw [htop]; exact this)
        (fun q hq id hid => by
          have h3 : inE E n0 L.length id := okId_in ((hok'.2 q hq).2 id hid) fun x hxm => ⟨hp x hxm, by have := hEm x (hp x hxm); omega⟩
          have := inE_out h3 hjE (by omega)
          rw [htop]
          exact this)
      have hdst := hx.dst j ao p hL
      obtain ⟨j1, j2⟩ := stE_add (top := top) (s0 := s0) (A := A) hjE
        (fun x hxE t ht1 ht2 => by
          rcases Nat.lt_trichotomy x j with h | h | h
          · exact h
          · subst h; rw [hjE] at hxE; cases hxE
          · exfalso
            have hxl := hEm x hxE
            obtain ⟨⟨o', p'⟩, hL'⟩ : ∃ q, L[x]? = some q := ⟨_, List.getElem?_eq_getElem (by omega)⟩
            rcases hc.pair j x o' p' ao p h hL' hL with h3 | h3
            · have := hcl x o' p' hL' hxE j h3
              rw [hjE] at this; cases this
            · refine ((apartB_spec h3).1 t ?_).2 ?_
              · rw [← hdst]; exact ht2
              · rw [← hx.dst x o' p' hL']; exact ht1)
        (fun x hxE id hi1 hi2 => by
          rcases Nat.lt_trichotomy x j with h | h | h
          · exact h
          · subst h; rw [hjE] at hxE; cases hxE
          · exfalso
            have hxl := hEm x hxE
            obtain ⟨⟨o', p'⟩, hL'⟩ : ∃ q, L[x]? = some q := ⟨_, List.getElem?_eq_getElem (by omega)⟩
            rcases (hx.step x o' p' hxl hL').2.2 j h with h3 | ⟨_, _, h3⟩
            · have := hcl x o' p' hL' hxE j h3
              rw [hjE] at this; cases this
            · exact (disj_iff _ _).1 h3 id hi1 hi2) m hjm
      refine ih (listed.setIfInBounds j true) (upd E j true) ρ'' a' w' (fun x => ?_) (by simpa using hsz) (fun x hxE => ?_) (fun x o' p' hL' hxE i hi => ?_) ?_ ?_ ?_ (hd'.trans hd)
      · by_cases e : x = j
        · subst e
          rw [upd_same]
          simp [hjl]
        · rw [upd_ne _ _ _ e, ← hE x]
          exact getD_set_ne false (Ne.symm e)
      · by_cases e : x = j
        · subst e; exact hjm
        · rw [upd_ne _ _ _ e] at hxE; exact hEm x hxE
      · by_cases e : i = j
        · subst e; exact upd_same _ _ _
        · rw [upd_ne _ _ _ e]
          by_cases e' : x = j
          · subst e'
            rw [hL] at hL'
            cases hL'
            exact hp i hi
          · rw [upd_ne _ _ _ e'] at hxE
            exact hcl x o' p' hL' hxE i hi
      · rw [cnt_upd hjE, if_pos (by omega)]
        omega
      · refine hs''.congr (fun t => ?_) (fun i => ?_) ?_
        · rw [j1 t, hdst]
        · rw [j2 i, put_hp]
        · rw [stE_nx hs0, S.put_nx]
      · refine ⟨fun i hi => ?_, hxt.2.1, hxt.2.2.trans hx'.2.2⟩
        rw [hag i hi, hx'.1 i (by rw [hσ]; omega), hxt.1 i hi]
    · -- the panic
      rcases hend with ⟨rfl, _⟩ | ⟨o', p', u, hL', hst, haft, heff, hlt, hpq⟩
      · omega
      · have hmj : m = j := by
          rcases Nat.lt_trichotomy j m with h | h | h
          · exact absurd h hjm
          · exact h.symm
          · exfalso
            have hmp : m ∈ p := allAfter_of (L.drop (m + 1)) haft (j - (m + 1)) ao p (by
              rw [List.getElem?_drop, ← hL]
              congr 1
              omega)
            have := hEm m (hp m hmp)
            omega
        subst hmj
        rw [hL] at hL'
        cases hL'
        have hhp : ∀ id, (stE top s0 A (fun _ => true) m).hp id = (stE top s0 A E m).hp id := by
          intro id
          rw [← stE_lex (top := top) (s0 := s0) (A := A) m (Nat.le_refl _)]
          refine stE_hp_congr m fun x hxm hd => ?_
          rcases heff x hxm with h3 | h3
          · rw [h3] at hd; simp at hd
          · rw [hp x h3]; simp [hxm]
        have hst' := stepP_congr hst (slots_same hx hc.pair hcl hL hjE hp (Nat.le_refl _)) hhp
        refine op_ok hT (ops := ops) hs hchk (dop_runP hst') (next := _) (Q := Q) (fun _ _ _ _ h => h.elim) ?_
        rintro ρ' s' a' w' v x ⟨rfl, rfl⟩ hs' hx' hd' hv
        have heta : (⟨(stE top s0 A E m).sl, (stE top s0 A (fun _ => true) m).hp, top⟩ : S) = stE top s0 A E m := by
          have e1 : (stE top s0 A (fun _ => true) m).hp = (stE top s0 A E m).hp := funext hhp
          rw [e1]
          have eta : ∀ (t : S) (q : Nat), t.nx = q → (⟨t.sl, t.hp, q⟩ : S) = t := by
            intro t q h; subst h; rfl
          exact eta _ _ hσ
        have hpq' := hpq (stE top s0 A E m).sl
        rw [heta] at hpq'
        refine hP ρ' _ a' w' v x hpq' hs' ?_ (hd'.trans hd) hv
        rw [hσ] at hx' ⊢
        have hn : n0 ≤ top := by omega
        exact ⟨fun i hi => (hx'.1 i (by omega)).trans (hxt.1 i hi), hn, hxt.2.2.trans hx'.2.2⟩
/-- A region that draws its order. -/
theorem drw_ok (hc : chkDrw P N ops L = true) (hT : TabOk P (tabD D)) {ρ : Nat → Bnd} {s : S} {a : Act} {w : World} {id : Nat} (hs : RelS N B ρ s a w)
    (h : drun D s.nx (s.nx + 8 * L.length) 0 L [] K PQ ⟨s.sl, clr s.nx s.hp, s.nx + 8 * L.length⟩)
    (hK : ∀ ρ' s' a' w', K s' → RelS N B ρ' s' a' w' → ExtR B ρ s.nx w ρ' s'.nx w' → a'.defers = a.defers → Q .normal a' w')
    (hP : ∀ ρ' s' a' w' v x, PQ v s' → RelS N B ρ' s' a' w' → ExtR B ρ s.nx w ρ' s'.nx w' → a'.defers = a.defers → R ρ' s'.nx v x → Q (.panic [{ v := x, recovered := false }]) a' w') :
    (Code.region id ops true).wp P Q a w := by
  have hc' := chkDrw_ok hc
  refine wp_region_any hc'.mo ?_
  let top := s.nx + 8 * L.length
  let s0 : S := ⟨s.sl, clr s.nx s.hp, top⟩
  let A0 : Dat := ⟨fun _ => .top, fun _ => [], fun _ => [], fun j => match L[j]? with | some (o, _) => o.d | none => none⟩
  obtain ⟨m, A, hlex, hend⟩ := drun_lex (L := L) (top := top) (s0 := s0) L 0 A0 (by simp) ⟨Nat.zero_le _, fun j o p hL => by simp [A0, hL], fun j o p hj => by omega⟩ h
  have hclr : ∀ i, i < s.nx → clr s.nx s.hp i = s.hp i := by
    intro i hi
    have : Nat.blt i s.nx = true := by rw [Nat.blt_eq]; exact hi
    simp [clr, this]
  have hclr' : ∀ i, ¬ i < s.nx → clr s.nx s.hp i = .no := by
    intro i hi
    have : Nat.blt i s.nx = false := by
      rw [Bool.eq_false_iff]
      intro h'
      rw [Nat.blt_eq] at h'
      exact hi h'
    simp [clr, this]
  have hids : ∀ i, ∀ id ∈ idsO (clr s.nx s.hp i), id < s.nx := by
    intro i id hid
    by_cases hi : i < s.nx
    · rw [hclr i hi] at hid
      exact (hs.rel.obj i hi).ids id hid
    · rw [hclr' i hi] at hid
      simp [idsO] at hid
  have hbel : Below B w { w with drawn := w.drawn + 1 } := by
    exact ⟨rfl, rfl, rfl, Nat.le_refl _, fun _ _ => rfl⟩
  have hrel : Rel B ρ top (clr s.nx s.hp) { w with drawn := w.drawn + 1 } := by
    refine ⟨hs.rel.base, fun i hi => ?_, fun i j hi hj hij g hg hgj => ?_⟩
    · by_cases hin : i < s.nx
      · rw [hclr i hin]
        exact (hs.rel.obj i hin).keep (Nat.le_add_right _ _) (fun _ _ => rfl) fun g _ => rfl
      · rw [hclr' i hin]
        trivial
    · by_cases hin : i < s.nx
      · by_cases hjn : j < s.nx
        · rw [hclr i hin] at hg
          rw [hclr j hjn] at hgj
          exact hs.rel.sep i j hin hjn hij g hg hgj
        · rw [hclr' j hjn] at hgj; cases hgj
      · rw [hclr' i hin] at hg; cases hg
  have start := any_ok (P := P) (Q := Q) (K := K) (PQ := PQ) (ρ0 := ρ) (a0 := a) (w0 := w) hc' hT rfl hlex rfl (fun t id hid => R.ids _ _ (hs.sl t) id hid) hids hend
    hK hP ops.size (Array.replicate ops.size false) (fun _ => false) ρ a { w with drawn := w.drawn + 1 }
  refine start (fun x => ?_) (by simp) (fun x hx => by cases hx) (fun x o p _ hx => by cases hx) ?_ ?_ ⟨fun _ _ => rfl, Nat.le_add_right _ _, hbel⟩ rfl
  · rw [Array.getD_eq_getD_getElem?]
    by_cases hx : x < ops.size
    · simp [hx]
    · simp [hx]
  · have : ∀ n, cnt (fun _ => false) n = 0 := by
      intro n
      induction n with
      | zero => rfl
      | succ n ih => simp [cnt, ih]
    rw [this, hc'.len]
    omega
  · have hst : ∀ m, stE top s0 A (fun _ => false) m = s0 := by
      intro m
      induction m with
      | zero => rfl
      | succ m ih => simp only [stE]; exact ih
    rw [hst]
    exact ⟨hrel, fun t => R.mono (Nat.le_add_right _ _) (fun _ _ => rfl) _ _ (hs.sl t), hs.size⟩
end
end Go.Proofs.YtbolfnkgbjkbjaaGreat.AM
end
section
set_option linter.unusedVariables false
set_option linter.unusedSimpArgs false
namespace Go.Proofs.YtbolfnkgbjkbjaaGreat.AM
open Go Go.RowKit
def chkC (P : Program) (N : Nat) : Code → AC → Bool
  | .skip, .skip => true
  | .region _ ops false, .reg l => chkOps P ops.toList N ops.toList l
  | .region _ ops true, .drw l => chkDrw P N ops l
  | .seq a b, .seq a' b' => chkC P N a a' && chkC P N b b'
  | .seq a b, .seqc _ a' b' => chkC P N a a' && chkC P N b b'
  | .cond c a b, .cond c' a' b' => opd c c' && chkC P N a a' && chkC P N b b'
  | .block id c, .blk id' c' => decide (id = id') && chkC P N c c'
  | .loop c, .loop _ c' => chkC P N c c'
  | .loop c, .lpq _ c' => chkC P N c c'
  | .loop c, .unr _ c' => chkC P N c c'
  | .exit id, .exit id' => decide (id = id')
  | .ret, .ret => true
  | .scope c, ac => chkC P N c ac
  | .label _, .skip => true
  | _, _ => false

theorem postx_then {N B : Nat} {ρ : Nat → Bnd} {n : Nat} {w : World} {D : List Deferred} {Q Q1 : AX → S → Prop} {next : Act → World → Prop} (h : ∀ ρ' s' a' w', Q1 .nrm s' → RelS N B ρ' s' a' w' → ExtR B ρ n w ρ' s'.nx w' → a'.defers = D → next a' w')
    (h1 : ∀ e s', e ≠ .nrm → Q1 e s' → Q e s') : ∀ e a' w', PostX N B ρ n w D Q1 e a' w' → Exit.then next (PostX N B ρ n w D Q) e a' w' := by
  rintro e a' w' ⟨ρ', s', ax, hx, hq, hs, he, hd⟩
  cases e with
  | normal =>
    cases ax <;> first | exact hx.elim | exact h ρ' s' a' w' hq hs he hd
  | exit id => exact ⟨ρ', s', ax, hx, h1 _ _ (by cases ax <;> first | exact hx.elim | (intro e; cases e)) hq, hs, he, hd⟩
  | goto l => cases ax <;> exact hx.elim
  | ret => exact ⟨ρ', s', ax, hx, h1 _ _ (by cases ax <;> first | exact hx.elim | (intro e; cases e)) hq, hs, he, hd⟩
  | panic ch => exact ⟨ρ', s', ax, hx, h1 _ _ (by cases ax <;> first | exact hx.elim | (intro e; cases e)) hq, hs, he, hd⟩
  | outgrown => cases ax <;> exact hx.elim
theorem awp_ok {P : Program} {T : Tab} {DT : DTab} {N B n0 : Nat} {Iv : Inv} (hT : TabOk P T) (hD : TabOk P (tabD DT)) : ∀ (c : Code) (ac : AC), chkC P N c ac = true → ∀ {Q : AX → S → Prop} {s : S} {ρ : Nat → Bnd} {a : Act} {w : World}, awp T DT Iv n0 ac Q s → RelS N B ρ s a w → n0 ≤ s.nx →
    c.wp P (PostX N B ρ n0 w a.defers Q) a w
  | .skip, ac, hc, Q, s, ρ, a, w, h, hs, hn => by
    cases ac <;> simp only [chkC] at hc <;> first | (cases hc; done) | skip
    exact wp_skip ⟨ρ, s, .nrm, trivial, h, hs, (ExtR.refl _ _ _ _).less hn, rfl⟩
  | .region id ops d, ac, hc, Q, s, ρ, a, w, h, hs, hn => by
    cases d <;> cases ac <;> simp only [chkC] at hc <;> first | (cases hc; done) | skip
    case true.drw l =>
      simp only [awp, forceN_iff] at h
      exact drw_ok hc hD hs h (fun ρ' s' a' w' hk hs' hx hd => ⟨ρ', s', .nrm, trivial, hk, hs', hx.less hn, hd⟩) (fun ρ' s' a' w' v x hk hs' hx hd hr => ⟨ρ', s', .pan v, ⟨x, rfl, hr⟩, hk, hs', hx.less hn, hd⟩)
    rename_i l
    refine wp_region ?_
    have := ops_ok (P := P) (ops := ops) (N := N) (B := B) hT (Q := PostX N B ρ n0 w a.defers Q) (K := Q .nrm) (PQ := fun v => Q (.pan v)) ops.toList l 0 rfl hc hs h
      (fun ρ' s' a' w' hk hs' hx hd => ⟨ρ', s', .nrm, trivial, hk, hs', hx.less hn, hd⟩) (fun ρ' s' a' w' v x hk hs' hx hd hr => ⟨ρ', s', .pan v, ⟨x, rfl, hr⟩, hk, hs', hx.less hn, hd⟩)
    rw [List.range_eq_range']
    simpa using this
  | .seq x y, ac, hc, Q, s, ρ, a, w, h, hs, hn => by
    cases ac <;> simp only [chkC] at hc <;> first | (cases hc; done) | skip
    case seqc nm x' y' =>
      simp only [Bool.and_eq_true] at hc
      obtain ⟨h1, h2⟩ := h
      refine wp_seq (wp_mono (awp_ok hT hD x x' hc.1 h1 hs hn) (postx_then (fun ρ' s' a' w' hq hs' hx hd => ?_) (fun e s' hne hq => ?_)))
      · obtain ⟨m, l, obs, hi, hsub⟩ := hq
        have := awp_ok hT hD y y' hc.2 (h2 m l obs hi) (sub_rel hs' hsub) hsub.1
        refine wp_mono this fun e a2 w2 hp => ?_
        rw [hd] at hp
        exact PostX.ext (n1 := obs.length) ⟨hx.1, hsub.1, hx.2.2⟩ hp
      · cases e <;> first | exact absurd rfl hne | exact hq
    rename_i x' y'
    simp only [Bool.and_eq_true] at hc
    refine wp_seq (wp_mono (awp_ok hT hD x x' hc.1 h hs hn) (postx_then (fun ρ' s' a' w' hq hs' hx hd => ?_) (fun e s' hne hq => ?_)))
    · have := awp_ok hT hD y y' hc.2 hq hs' hx.2.1
      refine wp_mono this fun e a2 w2 hp => ?_
      rw [hd] at hp
      exact PostX.ext hx hp
    · cases e <;> first | exact absurd rfl hne | exact hq
  | .cond c x y, ac, hc, Q, s, ρ, a, w, h, hs, hn => by
    cases ac <;> simp only [chkC] at hc <;> first | (cases hc; done) | skip
    rename_i c' x' y'
    simp only [Bool.and_eq_true] at hc
    simp only [awp] at h
    split at h
    · rename_i t ht
      have hR := opd_R hs hc.1.1
      rw [ht] at hR
      simp only [R] at hR
      cases t with
      | true => exact wp_cond_true hR (awp_ok hT hD x x' hc.1.2 h hs hn)
      | false => exact wp_cond_false hR (awp_ok hT hD y y' hc.2 h hs hn)
    · exact h.elim
  | .block id c, ac, hc, Q, s, ρ, a, w, h, hs, hn => by
    cases ac <;> simp only [chkC] at hc <;> first | (cases hc; done) | skip
    rename_i id' c'
    simp only [Bool.and_eq_true, decide_eq_true_eq] at hc
    obtain ⟨rfl, hc⟩ := hc
    refine wp_block (wp_mono (awp_ok hT hD c c' hc h hs hn) ?_)
    rintro e a' w' ⟨ρ', s', ax, hx, hq, hs', he, hd⟩
    cases e with
    | normal => cases ax <;> first | exact hx.elim | exact ⟨ρ', s', .nrm, trivial, hq, hs', he, hd⟩
    | exit i =>
      cases ax with
      | ext j =>
        have : j = i := hx
        subst this
        simp only [Exit.inBlock]
        simp only [] at hq
        by_cases e : j = id
        · rw [if_pos e]
          have hb : Nat.beq j id = true := by subst e; simp
          rw [hb] at hq
          exact ⟨ρ', s', .nrm, trivial, hq, hs', he, hd⟩
        · rw [if_neg e]
          have hb : Nat.beq j id = false := by rw [Bool.eq_false_iff]; intro h; exact e (Nat.eq_of_beq_eq_true h)
          rw [hb] at hq
          exact ⟨ρ', s', .ext j, rfl, hq, hs', he, hd⟩
      | _ => exact hx.elim
    | goto l => cases ax <;> exact hx.elim
    | ret => cases ax <;> first | exact hx.elim | exact ⟨ρ', s', .ret, trivial, hq, hs', he, hd⟩
    | panic ch =>
      cases ax with
      | pan v => exact ⟨ρ', s', .pan v, hx, hq, hs', he, hd⟩
      | _ => exact hx.elim
    | outgrown => cases ax <;> exact hx.elim
  | .loop c, ac, hc, Q, s, ρ, a, w, h, hs, hn => by
    cases ac <;> simp only [chkC] at hc <;> first | (cases hc; done) | skip
    case unr k c' =>
      refine wp_loopN (fun m a' w' => ∃ ρ' s', unrR (fun K s => awp T DT Iv n0 c' (fun e s' => match e with
        | .nrm => K s'
        | .ext id => Q (.ext id) s'
        | .ret => Q .ret s'
        | .pan v => Q (.pan v) s') s) m s' ∧ RelS N B ρ' s' a' w' ∧ ExtR B ρ n0 w ρ' s'.nx w' ∧ a'.defers = a.defers) ?_ (m := k) ⟨ρ, s, h, hs, (ExtR.refl _ _ _ _).less hn, rfl⟩
      rintro m a' w' ⟨ρ', s', hi, hs', hx, hd⟩
      cases m with
      | zero => exact hi.elim
      | succ m =>
        refine wp_mono (awp_ok hT hD c c' hc hi hs' hx.2.1) ?_
        rintro e a2 w2 ⟨ρ2, s2, ax, hax, hq, hs2, hx2, hd2⟩
        rw [hd] at hd2
        have hx3 := hx.trans0 hx2
        cases e with
        | normal =>
          cases ax with
          | nrm => exact ⟨m, Nat.lt_succ_self m, ρ2, s2, hq, hs2, hx3, hd2⟩
          | _ => exact hax.elim
        | exit i =>
          cases ax with
          | ext j => exact ⟨ρ2, s2, .ext j, hax, hq, hs2, hx3, hd2⟩
          | _ => exact hax.elim
        | goto l => cases ax <;> exact hax.elim
        | ret =>
          cases ax with
          | ret => exact ⟨ρ2, s2, .ret, hax, hq, hs2, hx3, hd2⟩
          | _ => exact hax.elim
        | panic ch =>
          cases ax with
          | pan v => exact ⟨ρ2, s2, .pan v, hax, hq, hs2, hx3, hd2⟩
          | _ => exact hax.elim
        | outgrown => cases ax <;> exact hax.elim
    case lpq nm c' =>
      obtain ⟨⟨m, l, obs, hi, hsub⟩, round⟩ := h
      refine wp_loopN (fun m a' w' => ∃ ρ' l obs, Iv nm m l obs ∧ RelS N B ρ' (St l obs) a' w' ∧ ExtR B ρ n0 w ρ' obs.length w' ∧ a'.defers = a.defers) ?_ (m := m)
        (by obtain ⟨ρ1, h1, h2⟩ := subq_rel hs hsub; exact ⟨ρ1, l, obs, hi, h1, ⟨h2, subq_n0 hsub, Below.refl _ _⟩, rfl⟩)
      rintro m a' w' ⟨ρ', l, obs, hi, hs', hx, hd⟩
      refine wp_mono (awp_ok hT hD c c' hc (round m l obs hi) hs' hx.2.1) ?_
      rintro e a2 w2 ⟨ρ2, s2, ax, hax, hq, hs2, hx2, hd2⟩
      rw [hd] at hd2
      have hx3 := hx.trans0 hx2
      cases e with
      | normal =>
        cases ax with
        | nrm =>
          obtain ⟨m', l', obs', hlt, hi', hsub'⟩ := hq
          obtain ⟨ρ1, h1, h2⟩ := subq_rel hs2 hsub'
          exact ⟨m', hlt, ρ1, l', obs', hi', h1, ⟨fun i hi => (h2 i hi).trans (hx3.1 i hi), subq_n0 hsub', hx3.2.2⟩, hd2⟩
        | _ => exact hax.elim
      | exit i =>
        cases ax with
        | ext j => exact ⟨ρ2, s2, .ext j, hax, hq, hs2, hx3, hd2⟩
        | _ => exact hax.elim
      | goto l => cases ax <;> exact hax.elim
      | ret =>
        cases ax with
        | ret => exact ⟨ρ2, s2, .ret, hax, hq, hs2, hx3, hd2⟩
        | _ => exact hax.elim
      | panic ch =>
        cases ax with
        | pan v => exact ⟨ρ2, s2, .pan v, hax, hq, hs2, hx3, hd2⟩
        | _ => exact hax.elim
      | outgrown => cases ax <;> exact hax.elim
    rename_i nm c'
    obtain ⟨⟨m, l, obs, hi, hsub⟩, round⟩ := h
    refine wp_loopN (fun m a' w' => ∃ ρ' l obs, Iv nm m l obs ∧ RelS N B ρ' (St l obs) a' w' ∧ ExtR B ρ n0 w ρ' obs.length w' ∧ a'.defers = a.defers) ?_ (m := m)
      ⟨ρ, l, obs, hi, sub_rel hs hsub, ⟨fun _ _ => rfl, hsub.1, Below.refl _ _⟩, rfl⟩
    rintro m a' w' ⟨ρ', l, obs, hi, hs', hx, hd⟩
    refine wp_mono (awp_ok hT hD c c' hc (round m l obs hi) hs' hx.2.1) ?_
    rintro e a2 w2 ⟨ρ2, s2, ax, hax, hq, hs2, hx2, hd2⟩
    rw [hd] at hd2
    have hx3 := hx.trans0 hx2
    cases e with
    | normal =>
      cases ax with
      | nrm =>
        obtain ⟨m', l', obs', hlt, hi', hsub'⟩ := hq
        exact ⟨m', hlt, ρ2, l', obs', hi', sub_rel hs2 hsub', ⟨hx3.1, hsub'.1, hx3.2.2⟩, hd2⟩
      | _ => exact hax.elim
    | exit i =>
      cases ax with
      | ext j => exact ⟨ρ2, s2, .ext j, hax, hq, hs2, hx3, hd2⟩
      | _ => exact hax.elim
    | goto l => cases ax <;> exact hax.elim
    | ret =>
      cases ax with
      | ret => exact ⟨ρ2, s2, .ret, hax, hq, hs2, hx3, hd2⟩
      | _ => exact hax.elim
    | panic ch =>
      cases ax with
      | pan v => exact ⟨ρ2, s2, .pan v, hax, hq, hs2, hx3, hd2⟩
      | _ => exact hax.elim
    | outgrown => cases ax <;> exact hax.elim
  | .exit id, ac, hc, Q, s, ρ, a, w, h, hs, hn => by
    cases ac <;> simp only [chkC] at hc <;> first | (cases hc; done) | skip
    rename_i id'
    simp only [decide_eq_true_eq] at hc
    subst hc
    exact wp_exit ⟨ρ, s, .ext id, rfl, h, hs, (ExtR.refl _ _ _ _).less hn, rfl⟩
  | .ret, ac, hc, Q, s, ρ, a, w, h, hs, hn => by
    cases ac <;> simp only [chkC] at hc <;> first | (cases hc; done) | skip
    exact wp_ret ⟨ρ, s, .ret, trivial, h, hs, (ExtR.refl _ _ _ _).less hn, rfl⟩
  | .rangeFunc _ _ _ _, ac, hc, _, _, _, _, _, _, _, _ => by cases ac <;> simp [chkC] at hc
  | .scope c, ac, hc, Q, s, ρ, a, w, h, hs, hn => by
    refine wp_scope_straight (wp_mono (awp_ok hT hD c ac (by simpa only [chkC] using hc) h hs hn) ?_)
    rintro e a' w' ⟨ρ', s', ax, hx, hq, hs', he, hd⟩
    cases e <;> first | exact ⟨ρ', s', ax, hx, hq, hs', he, hd⟩ | (cases ax <;> exact hx.elim)
  | .label _, ac, hc, Q, s, ρ, a, w, h, hs, hn => by
    cases ac <;> simp only [chkC] at hc <;> first | (cases hc; done) | skip
    exact wp_label ⟨ρ, s, .nrm, trivial, h, hs, (ExtR.refl _ _ _ _).less hn, rfl⟩
  | .goto _, ac, hc, _, _, _, _, _, _, _, _ => by cases ac <;> simp [chkC] at hc
  | .refuse _, ac, hc, _, _, _, _, _, _, _, _ => by cases ac <;> simp [chkC] at hc
end Go.Proofs.YtbolfnkgbjkbjaaGreat.AM
end
section
set_option linter.unusedVariables false
set_option linter.unusedSimpArgs false
namespace Go.Proofs.YtbolfnkgbjkbjaaGreat.AM
open Go Go.RowKit

def chkRes (P : Program) : List ResultVar → List ARes → Bool
  | [], [] => true
  | .tmp t :: r, .tmp t' :: r' => decide (t = t') && chkRes P r r'
  | .cell a t :: r, .cell a' n agg :: r' => decide (a = a') && decide (szOf P t = some n) && decide (aggOf P t = some agg) && (agg || decide (n = 1)) && chkRes P r r'
  | _, _ => false
theorem argSl_get {ρ : Nat → Bnd} {n : Nat} : ∀ (args : List V) (xs : List Value) (i t : Nat), RL ρ n args xs → i ≤ t → R ρ n (argSl args i t) (xs.getD (t - i) undef)
  | [], [], i, t, _, _ => by simp [argSl, R]
  | v :: vs, x :: xs, i, t, h, hit => by
    simp only [RL] at h
    simp only [argSl]
    cases e : Nat.beq t i with
    | true =>
      have := Nat.eq_of_beq_eq_true e
      subst this
      simpa using h.1
    | false =>
      have hne : t ≠ i := by intro e2; subst e2; simp at e
      have := argSl_get vs xs (i + 1) t h.2 (by omega)
      obtain ⟨m, hm⟩ : ∃ m, t - i = m + 1 := ⟨t - i - 1, by omega⟩
      have hm' : t - (i + 1) = m := by omega
      rw [hm, List.getD_cons_succ, ← hm']
      exact this
  | [], _ :: _, _, _, h, _ => by simp [RL] at h
  | _ :: _, [], _, _, h, _ => by simp [RL] at h
section
variable {P : Program} {N B : Nat} {ρ : Nat → Bnd} {s : S} {a : Act} {w : World}
theorem loadVar_run {n : Nat} {agg : Bool} {v u : V} {x : Value} {t : TypeId} (hr : Rel B ρ s.nx s.hp w) (hv : R ρ s.nx v x) (h : ldF s.hp n agg v = .val u) (hsz : szOf P t = some n) (hag : aggOf P t = some agg) (hn : agg = true ∨ n = 1) :
    ∃ ad y, x = .pointer (some ad) ∧ (loadVar t ad).run P w = .ok y w ∧ R ρ s.nx u y := by
  have hrun : (ldF s.hp n agg v).run s (some 0) (fun s' => s'.sl 0 = u) := by
    rw [h]
    simp [OR.run, force_iff, S.put, upd_same]
  obtain ⟨ad, l, xs, he, hl, hRL, hcell, hK⟩ := ldF_cells hr hv hrun
  simp only [S.put, upd_same] at hK
  subst hK
  have hlen := hRL.length
  unfold szOf at hsz
  simp only [Option.map_eq_some_iff] at hsz
  obtain ⟨i, hi, hin⟩ := hsz
  have hload : (loadCells ad n).run P w = .ok xs.toArray w := by
    rw [← hl, hlen]
    exact run_loadCells_list w ad xs hcell
  cases agg with
  | true =>
    have hagg : (isAgg t).run P w = .ok true w := by
      unfold aggOf at hag
      split at hag
      · rename_i fs hu; simp [isAgg, run_underlying hu]
      · rename_i m e hu; simp [isAgg, run_underlying hu]
      · simp at hag
      · simp at hag
    exact ⟨ad, .agg xs.toArray, he, by simp [loadVar, hagg, sizeOf, typeInfo, hi, hin, hload], mkV_R hRL hl⟩
  | false =>
    have hn1 : n = 1 := by simpa using hn
    subst hn1
    have hagg : (isAgg t).run P w = .ok false w := by
      unfold aggOf at hag
      split at hag
      · simp at hag
      · simp at hag
      · rename_i d h1 h2 hu
        cases d <;> first | (simp [isAgg, run_underlying hu]; done) | exact (h1 _ rfl).elim | exact (h2 _ _ rfl).elim
      · simp at hag
    match l, xs, hl, hRL, hcell with
    | [v], [y], _, hRL, hcell =>
      simp only [RL] at hRL
      have := hcell 0 y rfl
      simp only [Addr.add, if_true] at this
      exact ⟨ad, y, he, by simp [loadVar, hagg, this], hRL.1⟩
    | [v], [], _, hRL, _ => simp [RL] at hRL
    | [v], _ :: _ :: _, _, hRL, _ => simp [RL] at hRL
def oneRes (P : Program) (tmps : Array Value) : ResultVar → Sem Value
  | .tmp t => pure (tmps.getD t undef)
  | .cell a t => do loadVar t (← asAddr (tmps.getD a undef))
theorem res_run (hs : RelS N B ρ s a w) : ∀ (r : List ResultVar) (r' : List ARes) (vs : List V), chkRes P r r' = true → resV s r' = some vs →
    ∃ ys, (r.mapM (oneRes P a.tmps)).run P w = .ok ys w ∧ RL ρ s.nx vs ys
  | [], [], vs, _, h => by
    simp only [resV, Option.some.injEq] at h
    subst h
    exact ⟨[], by simp, by simp [RL]⟩
  | .tmp t :: r, .tmp t' :: r', vs, hc, h => by
    simp only [chkRes, Bool.and_eq_true, decide_eq_true_eq] at hc
    obtain ⟨rfl, hc⟩ := hc
    simp only [resV] at h
    split at h
    · rename_i us hu
      cases h
      obtain ⟨ys, h1, h2⟩ := res_run hs r r' us hc hu
      refine ⟨a.tmps.getD t undef :: ys, ?_, by simp only [RL]; exact ⟨hs.sl t, h2⟩⟩
      simp [List.mapM_cons, oneRes, h1]
    · cases h
  | .cell c t :: r, .cell c' n agg :: r', vs, hc, h => by
    simp only [chkRes, Bool.and_eq_true, decide_eq_true_eq, Bool.or_eq_true] at hc
    obtain ⟨⟨⟨⟨rfl, hsz⟩, hag⟩, hn⟩, hc⟩ := hc
    simp only [resV] at h
    split at h
    · rename_i u us hv hu
      cases h
      obtain ⟨ys, h1, h2⟩ := res_run hs r r' us hc hu
      obtain ⟨ad, y, he, hl, hy⟩ := loadVar_run (P := P) hs.rel (hs.sl c) hv hsz hag hn
      refine ⟨y :: ys, ?_, by simp only [RL]; exact ⟨hy, h2⟩⟩
      simp [List.mapM_cons, oneRes, he, asAddr, hl, h1]
    · cases h
  | [], _ :: _, _, hc, _ => by simp [chkRes] at hc
  | .tmp _ :: _, [], _, hc, _ => by simp [chkRes] at hc
  | .cell _ _ :: _, [], _, hc, _ => by simp [chkRes] at hc
  | .tmp _ :: _, .cell _ _ _ :: _, _, hc, _ => by simp [chkRes] at hc
  | .cell _ _ :: _, .tmp _ :: _, _, hc, _ => by simp [chkRes] at hc
theorem results_run (hs : RelS N B ρ s a w) {fn : Func} {r' : List ARes} {vs : List V} (hc : chkRes P fn.results.toList r' = true) (h : resV s r' = some vs) :
    ∃ y, (results fn a.tmps).run P w = .ok y w ∧ R ρ s.nx (tupV vs) y := by
  obtain ⟨ys, h1, h2⟩ := res_run (P := P) hs _ _ _ hc h
  have hl := h2.length
  have hrun : (results fn a.tmps).run P w = .ok (if h : ys.toArray.size = 1 then ys.toArray[0] else .tuple ys.toArray) w := by
    unfold results
    simp only [Sem.run_bind]
    rw [Array.mapM_eq_mapM_toList]
    simp only [Sem.run_map]
    change ((((fn.results.toList.mapM (oneRes P a.tmps)).run P w).andThen _).andThen _) = _
    rw [h1]
    rfl
  refine ⟨_, hrun, ?_⟩
  match vs, ys, h2, hl with
  | [], [], h2, _ => simp only [tupV, R]; exact ⟨#[], rfl, by simp [RL]⟩
  | [v], [y], h2, _ =>
    simp only [RL] at h2
    simpa [tupV] using h2.1
  | v :: v' :: vs, y :: y' :: ys, h2, _ =>
    simp only [tupV, R]
    exact ⟨(y :: y' :: ys).toArray, by simp, h2⟩
  | [], _ :: _, h2, _ => simp [RL] at h2
  | _ :: _, [], h2, _ => simp [RL] at h2
  | [_], _ :: _ :: _, h2, _ => simp [RL] at h2
  | _ :: _ :: _, [_], h2, _ => simp [RL] at h2
end
def chkFn (P : Program) (fn : Func) (afn : AFn) : Bool := match fn.body with
  | some c => chkC P fn.ntmps c afn.body && chkRes P fn.results.toList afn.res && decide (afn.np ≤ fn.ntmps) && !(fn.name == "runtime.NumGoroutine")
  | none => false
theorem fn_entry {P : Program} {T : Tab} {DT : DTab} (hT : TabOk P T) (hD : TabOk P (tabD DT)) (Iv : Inv) {f : Nat} {fn : Func} {afn : AFn} (hf : P.funcs[f]? = some fn) (hc : chkFn P fn afn = true) : EntryOk P f (runFn T DT Iv afn) := by
  intro B ρ n h w args xs K hr hargs hrun
  unfold chkFn at hc
  split at hc
  · rename_i c hb
    simp only [Bool.and_eq_true, decide_eq_true_eq, Bool.not_eq_true'] at hc
    obtain ⟨⟨⟨hcc, hres⟩, hnp⟩, hname⟩ := hc
    unfold runFn at hrun
    split at hrun
    · rename_i hlen
      simp only [decide_eq_true_eq] at hlen
      have hxl := hargs.length
      have hname' : ¬ fn.name = "runtime.NumGoroutine" := by simpa using hname
      refine .inl ⟨by simp [callFunc, hf, hname', hb], ?_⟩
      refine calls_of_wp hf hb ?_
      have hs : RelS fn.ntmps B ρ ⟨argSl args 0, h, n⟩ { tmps := xs.toArray ++ Array.replicate (fn.ntmps - xs.toArray.size) undef, defers := [] } w := by
        refine ⟨hr, fun t => ?_, by simp; omega⟩
        have := argSl_get args xs 0 t hargs (Nat.zero_le _)
        have e : (xs.toArray ++ Array.replicate (fn.ntmps - xs.toArray.size) undef).getD t undef = xs.getD (t - 0) undef := by
          simp only [Nat.sub_zero, Array.getD_eq_getD_getElem?, List.getD_eq_getElem?_getD]
          by_cases ht : t < xs.length
          · rw [Array.getElem?_append_left (by simpa using ht)]
            simp
          · rw [Array.getElem?_append_right (by simp; omega), List.getElem?_eq_none (by omega)]
            simp only [List.size_toArray, Array.getElem?_replicate, Option.getD_none]
            split <;> rfl
        simp only [] at e ⊢
        rw [e]
        exact this
      refine wp_mono (awp_ok hT hD c afn.body hcc hrun hs (Nat.le_refl _)) ?_
      rintro e a' w' ⟨ρ', s', ax, hax, hq, hs', hx, hd⟩
      have hd' : a'.defers = [] := hd
      have ret : fin afn.res K .ret s' → bodyPost P fn (fun e w' => ∃ out ρ' n' h', K out h' n' ∧ OutR ρ' n' out e ∧ Rel B ρ' n' h' w' ∧ ExtR B ρ n w ρ' n' w') .ret a' w' := by
        intro hq
        simp only [fin] at hq
        split at hq
        · rename_i vs hvs
          obtain ⟨y, h1, h2⟩ := results_run hs' hres hvs
          exact ⟨hd', y, h1, _, ρ', s'.nx, s'.hp, hq, h2, hs'.rel, hx⟩
        · exact hq.elim
      cases e with
      | normal =>
        cases ax with
        | nrm => exact ret hq
        | _ => exact hax.elim
      | exit i =>
        cases ax with
        | ext j => exact hq.elim
        | _ => exact hax.elim
      | goto l => cases ax <;> exact hax.elim
      | ret =>
        cases ax with
        | ret => exact ret hq
        | _ => exact hax.elim
      | panic ch =>
        cases ax with
        | pan v => exact ⟨hd', _, ρ', s'.nx, s'.hp, hq, hax, hs'.rel, hx⟩
        | _ => exact hax.elim
      | outgrown => cases ax <;> exact hax.elim
    · exact hrun.elim
  · cases hc
def noTab : Tab := fun _ _ _ _ _ => False
theorem noTab_ok (P : Program) : TabOk P noTab := fun f B ρ n h w args xs K _ _ h0 => h0.elim
def noD : DTab := fun _ => none
theorem noD_ok (P : Program) : TabOk P (tabD noD) := fun f B ρ n h w args xs K _ _ h0 => h0.elim
def DTab.add (D : DTab) (f : Nat) (g : DSpec) : DTab := fun i => match Nat.beq i f with
  | true => some g
  | false => D i
theorem DTab.add_ok {P : Program} {D : DTab} (hD : TabOk P (tabD D)) {f : Nat} {g : DSpec} (hg : EntryOk P f (liftG g)) : TabOk P (tabD (D.add f g)) := by
  intro i
  unfold tabD DTab.add
  cases e : Nat.beq i f with
  | true =>
    have := Nat.eq_of_beq_eq_true e
    subst this
    exact hg
  | false => exact hD i
def Tab.add (T : Tab) (f : Nat) (S : Spec) : Tab := fun g => match Nat.beq g f with
  | true => S
  | false => T g
theorem TabOk.add {P : Program} {T : Tab} (hT : TabOk P T) {f : Nat} {S : Spec} (hS : EntryOk P f S) : TabOk P (T.add f S) := by
  intro g
  unfold Tab.add
  split
  · rename_i e
    have := Nat.eq_of_beq_eq_true e
    subst this
    exact hS
  · exact hT g
theorem EntryOk.weaken {P : Program} {f : Nat} {S S' : Spec} (h : EntryOk P f S) (hs : ∀ args h n K, S' args h n K → S args h n K) : EntryOk P f S' :=
  fun B ρ n hp w args xs K hr ha hk => h B ρ n hp w args xs K hr ha (hs _ _ _ _ hk)
/-- A contract whose result is known by equations alone from here on. -/
def absT (m : Msk) (S : Spec) : Spec := fun args h n K => S args h n fun out h n => match out with
  | .ret v => absM m v fun v => K (.ret v) h n
  | .pan v => K (.pan v) h n
theorem absT_ok {P : Program} {f : Nat} {S : Spec} (m : Msk) (hS : EntryOk P f S) : EntryOk P f (absT m S) := by
  have e : absT m S = S := by
    funext args h n K
    unfold absT
    congr 1
    funext out h n
    cases out with
    | ret v => exact propext (absM_iff m v _)
    | pan v => rfl
  rw [e]
  exact hS
def DSpec.abs (m : Msk) (g : DSpec) : DSpec := ⟨m, g.g, g.same⟩
theorem dabs_ok {P : Program} {f : Nat} {g : DSpec} (m : Msk) (hg : EntryOk P f (liftG g)) : EntryOk P f (liftG (g.abs m)) := hg
end Go.Proofs.YtbolfnkgbjkbjaaGreat.AM
end
section
set_option linter.unusedVariables false
set_option linter.unusedSimpArgs false
namespace Go.Proofs.YtbolfnkgbjkbjaaGreat.AM
open Go Go.RowKit

def Ros (w : World) (ρ : Nat → Bnd) (obs : List Ob) : Prop := ∀ i, i < obs.length → ((∃ E l, lookO obs i = .ro E l) ∨ ∃ cs, lookO obs i = .rv cs) ∧ HR ρ obs.length w.heap.size w (ρ i) (lookO obs i)
theorem lookO_append : ∀ (obs : List Ob) (o : Ob) (i : Nat), lookO (obs ++ [o]) i = if i < obs.length then lookO obs i else if i = obs.length then o else .no
  | [], o, 0 => rfl
  | [], o, i + 1 => by simp [lookO]
  | x :: obs, o, 0 => by simp [lookO]
  | x :: obs, o, i + 1 => by
    have ih := lookO_append obs o i
    simp only [List.cons_append, lookO, List.length_cons]
    rw [ih]
    by_cases h1 : i < obs.length
    · have h1' : i + 1 < obs.length + 1 := by omega
      simp only [h1, h1', if_true]
    · have h1' : ¬ i + 1 < obs.length + 1 := by omega
      by_cases h2 : i = obs.length
      · have h2' : i + 1 = obs.length + 1 := by omega
        simp only [h1, h1', h2, h2', if_true, if_false]
        simp
      · have h2' : ¬ i + 1 = obs.length + 1 := by omega
        simp only [h1, h1', h2, h2', if_false]
theorem Ros.rel {w : World} {ρ : Nat → Bnd} {obs : List Ob} (h : Ros w ρ obs) : Rel w.heap.size ρ obs.length (lookO obs) w :=
  ⟨Nat.le_refl _, fun i hi => (h i hi).2, fun i j hi hj hij g hg => by
    rcases (h i hi).1 with ⟨E, l, he⟩ | ⟨cs, he⟩ <;> rw [he] at hg <;> cases hg⟩
theorem ro_any {ρ ρ' : Nat → Bnd} {n n' B B' : Nat} {w : World} {b : Bnd} {E : ET} {l : List (den E)} (h : HR ρ n B w b (.ro E l)) : HR ρ' n' B' w b (.ro E l) := h
theorem own_ro {ρ : Nat → Bnd} {n B : Nat} {w : World} {b : Bnd} {t : Nat} {E : ET} {l : List (den E)} (h : HR ρ n B w b (.own t E l)) (hE : 0 < E.length) : HR ρ n B w b (.ro E l) := by
  obtain ⟨h1, h2, h3, h4⟩ := h
  rcases h2.2 with ⟨hn, h0⟩ | ⟨g, cap, cur, hsv, _, _, hnc, _⟩
  · have : l = [] := List.eq_nil_of_length_eq_zero h0
    subst this
    exact ⟨hE, h1, by simp, fun h => by simp at h, fun j s hj => by simp [flat] at hj⟩
  · have hg : b.sv.ownBlock = some g := by rw [hsv]; rfl
    have hgb := h4 g hg
    have hsv' := hsv
    unfold Bnd.sv at hsv'
    injection hsv' with e1 e2 e3
    refine ⟨hE, h1, by omega, fun _ => by rw [e1, hgb, h3], fun j s hj => ?_⟩
    have := h2.cells hg j s.val (by rw [List.getElem?_map, hj]; rfl)
    rw [add_lit] at this
    rw [hgb, h3]
    exact this
theorem rv_any {ρ ρ' : Nat → Bnd} {n n' B B' : Nat} {w : World} {b : Bnd} {cs : List V} (h : HR ρ n B w b (.rv cs)) : HR ρ' n' B' w b (.rv cs) := by
  obtain ⟨h2, c, t, h3, h4⟩ := h
  exact ⟨h2, c, t, h3, RL.mono (Nat.le_refl 0) (fun i hi => by omega) _ _ h4⟩
theorem Ros.pushO {w : World} {ρ : Nat → Bnd} {obs : List Ob} (h : Ros w ρ obs) {b : Bnd} {o : Ob} (ho : (∃ E l, o = .ro E l) ∨ ∃ cs, o = .rv cs) (hb : HR ρ 0 0 w b o) : Ros w (upd ρ obs.length b) (obs ++ [o]) := by
  have any : ∀ {o : Ob} {ρ ρ' : Nat → Bnd} {n n' B B' : Nat} {b : Bnd}, ((∃ E l, o = .ro E l) ∨ ∃ cs, o = .rv cs) → HR ρ n B w b o → HR ρ' n' B' w b o := by
    intro o ρ ρ' n n' B B' b ho h
    rcases ho with ⟨E, l, rfl⟩ | ⟨cs, rfl⟩
    · exact ro_any h
    · exact rv_any h
  intro i hi
  rw [lookO_append]
  rw [List.length_append] at hi
  simp only [List.length_cons, List.length_nil] at hi
  by_cases e : i = obs.length
  · subst e
    rw [if_neg (by omega), if_pos rfl, upd_same]
    exact ⟨ho, any ho hb⟩
  · rw [if_pos (by omega), upd_ne _ _ _ e]
    obtain ⟨h1, h2⟩ := h i (by omega)
    exact ⟨h1, any h1 h2⟩
theorem Ros.push {w : World} {ρ : Nat → Bnd} {obs : List Ob} (h : Ros w ρ obs) {b : Bnd} {E : ET} {l : List (den E)} (hb : HR ρ 0 0 w b (.ro E l)) : Ros w (upd ρ obs.length b) (obs ++ [.ro E l]) :=
  h.pushO (.inl ⟨E, l, rfl⟩) hb
section
variable {B n : Nat} {ρ : Nat → Bnd} {h : Nat → Ob} {w : World}
/-- A part of a row, as a row that is read. -/
theorem sub_ro {s : S} {v : V} {x : Value} {E : ET} {id lo len : Nat} {l : List (den E)} {b : Bnd} (hE : 0 < E.length) (hro : HR ρ n B w b (.ro E l)) {ad : Option Addr} {cap : Nat} (hle : lo + len ≤ l.length) (hlc : len ≤ cap)
    (had : 0 < len → ad = some ⟨b.blk, b.off + lo * E.length, none⟩) : HR ρ 0 0 w { blk := b.blk, off := b.off + lo * E.length, a := ad, len := len, cap := cap } (.ro E ((l.drop lo).take len)) := by
  obtain ⟨_, h1, h2, h3, h4⟩ := hro
  have hl : ((l.drop lo).take len).length = len := by simp; omega
  refine ⟨hE, hl.symm, by rw [hl]; exact hlc, fun hp => had (by omega), fun j q hj => ?_⟩
  rw [flat_take, flat_drop, List.getElem?_take] at hj
  split at hj
  · rw [List.getElem?_drop] at hj
    have := h4 _ q hj
    rw [← this]
    congr 2
    simp only []
    omega
  · cases hj
mutual
theorem viewV_ok (hr : Rel B ρ n h w) : ∀ (v : V) (x : Value) (obs : List Ob) (ρ0 : Nat → Bnd) (c : Prop) (v' : V) (obs' : List Ob), viewV h obs v = some (c, v', obs') → c → R ρ n v x → Ros w ρ0 obs →
    ∃ ρ', Agree ρ0 ρ' obs.length ∧ obs.length ≤ obs'.length ∧ Ros w ρ' obs' ∧ R ρ' obs'.length v' x
  | .int k m, x, obs, ρ0, c, v', obs', hv, hc, hx, ho => by
    simp only [viewV, Option.some.injEq, Prod.mk.injEq] at hv
    obtain ⟨_, rfl, rfl⟩ := hv
    exact ⟨ρ0, fun _ _ => rfl, Nat.le_refl _, ho, by simpa [R] using hx⟩
  | .bool b, x, obs, ρ0, c, v', obs', hv, hc, hx, ho => by
    simp only [viewV, Option.some.injEq, Prod.mk.injEq] at hv
    obtain ⟨_, rfl, rfl⟩ := hv
    exact ⟨ρ0, fun _ _ => rfl, Nat.le_refl _, ho, by simpa [R] using hx⟩
  | .nilp, x, obs, ρ0, c, v', obs', hv, hc, hx, ho => by
    simp only [viewV, Option.some.injEq, Prod.mk.injEq] at hv
    obtain ⟨_, rfl, rfl⟩ := hv
    exact ⟨ρ0, fun _ _ => rfl, Nat.le_refl _, ho, by simpa [R] using hx⟩
  | .nsl, x, obs, ρ0, c, v', obs', hv, hc, hx, ho => by
    simp only [viewV, Option.some.injEq, Prod.mk.injEq] at hv
    obtain ⟨_, rfl, rfl⟩ := hv
    exact ⟨ρ0, fun _ _ => rfl, Nat.le_refl _, ho, by simpa [R] using hx⟩
  | .nfn, x, obs, ρ0, c, v', obs', hv, hc, hx, ho => by
    simp only [viewV, Option.some.injEq, Prod.mk.injEq] at hv
    obtain ⟨_, rfl, rfl⟩ := hv
    exact ⟨ρ0, fun _ _ => rfl, Nat.le_refl _, ho, by simpa [R] using hx⟩
  | .nifc, x, obs, ρ0, c, v', obs', hv, hc, hx, ho => by
    simp only [viewV, Option.some.injEq, Prod.mk.injEq] at hv
    obtain ⟨_, rfl, rfl⟩ := hv
    exact ⟨ρ0, fun _ _ => rfl, Nat.le_refl _, ho, by simpa [R] using hx⟩
  | .nmp, x, obs, ρ0, c, v', obs', hv, hc, hx, ho => by
    simp only [viewV, Option.some.injEq, Prod.mk.injEq] at hv
    obtain ⟨_, rfl, rfl⟩ := hv
    exact ⟨ρ0, fun _ _ => rfl, Nat.le_refl _, ho, by simpa [R] using hx⟩
  | .mp _, x, obs, ρ0, c, v', obs', hv, hc, hx, ho => by simp [viewV] at hv
  | .osl id, x, obs, ρ0, c, v', obs', hv, hc, hx, ho => by
    simp only [R] at hx
    have hob := hr.obj id hx.1
    have fin : ∀ (E : ET) (l : List (den E)), HR ρ n B w (ρ id) (.ro E l) → v' = .osl obs.length → obs' = obs ++ [.ro E l] → ∃ ρ', Agree ρ0 ρ' obs.length ∧ obs.length ≤ obs'.length ∧ Ros w ρ' obs' ∧ R ρ' obs'.length v' x := by
      intro E l hro e1 e2
      subst e1 e2
      refine ⟨upd ρ0 obs.length (ρ id), agree_upd _ _ _, by simp, ho.push (ro_any hro), ?_⟩
      simp only [R, upd_same, List.length_append, List.length_cons, List.length_nil]
      exact ⟨by omega, hx.2⟩
    simp only [viewV] at hv
    split at hv
    · rename_i E l he
      simp only [Option.some.injEq, Prod.mk.injEq] at hv
      rw [he] at hob
      exact fin E l hob hv.2.1.symm hv.2.2.symm
    · rename_i t E l he
      split at hv
      · rename_i hE
        simp only [decide_eq_true_eq] at hE
        simp only [Option.some.injEq, Prod.mk.injEq] at hv
        rw [he] at hob
        exact fin E l (own_ro hob hE) hv.2.1.symm hv.2.2.symm
      · cases hv
    · cases hv
  | .sl id lo len z, x, obs, ρ0, c, v', obs', hv, hc, hx, ho => by
    simp only [R] at hx
    obtain ⟨hid, ad, cap, he, hlc, had⟩ := hx
    have hob := hr.obj id hid
    have fin : ∀ (E : ET) (l : List (den E)), HR ρ n B w (ρ id) (.ro E l) → 0 < E.length → z = E.length → lo + len ≤ l.length → v' = .osl obs.length → obs' = obs ++ [.ro E ((l.drop lo).take len)] → ∃ ρ', Agree ρ0 ρ' obs.length ∧ obs.length ≤ obs'.length ∧ Ros w ρ' obs' ∧ R ρ' obs'.length v' x := by
      intro E l hro hE hz hle e1 e2
      subst e1 e2 hz
      refine ⟨upd ρ0 obs.length _, agree_upd _ _ _, by simp, ho.push (ro_any (sub_ro (s := ⟨fun _ => .top, h, 0⟩) (v := .top) (x := x) (id := 0) hE hro hle hlc had)), ?_⟩
      simp only [R, upd_same, List.length_append, List.length_cons, List.length_nil]
      exact ⟨by omega, he⟩
    simp only [viewV] at hv
    split at hv
    · rename_i E l he'
      split at hv
      · rename_i hE
        simp only [decide_eq_true_eq] at hE
        simp only [Option.some.injEq, Prod.mk.injEq] at hv
        rw [he'] at hob
        obtain ⟨rfl, e1, e2⟩ := hv
        exact fin E l hob hE.1 hE.2 hc e1.symm e2.symm
      · cases hv
    · rename_i t E l he'
      split at hv
      · rename_i hE
        simp only [decide_eq_true_eq] at hE
        simp only [Option.some.injEq, Prod.mk.injEq] at hv
        rw [he'] at hob
        obtain ⟨rfl, e1, e2⟩ := hv
        exact fin E l (own_ro hob hE.1) hE.1 hE.2 hc e1.symm e2.symm
      · cases hv
    · cases hv
  | .fn f [] [], x, obs, ρ0, c, v', obs', hv, hc, hx, ho => by
    simp only [viewV, Option.some.injEq, Prod.mk.injEq] at hv
    obtain ⟨_, rfl, rfl⟩ := hv
    refine ⟨ρ0, fun _ _ => rfl, Nat.le_refl _, ho, ?_⟩
    simp only [R] at hx ⊢
    obtain ⟨xs, ys, h0, h1, h2⟩ := hx
    refine ⟨xs, ys, h0, ?_, ?_⟩
    · cases hxs : xs.toList <;> simp_all [RL]
    · cases hys : ys.toList <;> simp_all [RL]
  | .fn f (_ :: _) _, x, obs, ρ0, c, v', obs', hv, _, _, _ => by simp [viewV] at hv
  | .fn f [] (_ :: _), x, obs, ρ0, c, v', obs', hv, _, _, _ => by simp [viewV] at hv
  | .agg cs, x, obs, ρ0, c, v', obs', hv, hc, hx, ho => by
    simp only [viewV] at hv
    split at hv
    · rename_i c' cs' obs1 hl
      simp only [Option.some.injEq, Prod.mk.injEq] at hv
      obtain ⟨rfl, rfl, rfl⟩ := hv
      simp only [R] at hx
      obtain ⟨xs, h0, h1⟩ := hx
      obtain ⟨ρ', a1, a2, a3, a4⟩ := viewL_ok hr cs xs.toList obs ρ0 c' cs' obs1 hl hc h1 ho
      refine ⟨ρ', a1, a2, a3, ?_⟩
      simp only [R]
      exact ⟨xs, h0, a4⟩
    · cases hv
  | .top, x, obs, ρ0, c, v', obs', hv, _, _, _ => by simp [viewV] at hv
  | .ptr id e z f, x, obs, ρ0, c, v', obs', hv, hc, hx, ho => by
    simp only [R] at hx
    have hob := hr.obj id hx.1
    have fin : ∀ (cs : List V), HR ρ n B w (ρ id) (.rv cs) → e * z + f = 0 → v' = .ptr obs.length 0 0 0 → obs' = obs ++ [.rv cs] → ∃ ρ', Agree ρ0 ρ' obs.length ∧ obs.length ≤ obs'.length ∧ Ros w ρ' obs' ∧ R ρ' obs'.length v' x := by
      intro cs hrv h0 e1 e2
      subst e1 e2
      refine ⟨upd ρ0 obs.length (ρ id), agree_upd _ _ _, by simp, ho.pushO (.inr ⟨cs, rfl⟩) (rv_any hrv), ?_⟩
      simp only [R, upd_same, List.length_append, List.length_cons, List.length_nil]
      refine ⟨by omega, ?_⟩
      rw [hx.2, h0]
    simp only [viewV] at hv
    split at hv
    · rename_i hz
      have h0 := Nat.eq_of_beq_eq_true hz
      split at hv
      · rename_i t cs he
        split at hv
        · rename_i hl
          simp only [Option.some.injEq, Prod.mk.injEq] at hv
          rw [he] at hob
          obtain ⟨_, b2, c', b3, b4⟩ := hob
          exact fin cs ⟨b2, c', t, b3, RL.less cs _ b4 hl⟩ h0 hv.2.1.symm hv.2.2.symm
        · cases hv
      · rename_i cs he
        simp only [Option.some.injEq, Prod.mk.injEq] at hv
        rw [he] at hob
        exact fin cs hob h0 hv.2.1.symm hv.2.2.symm
      · cases hv
    · cases hv
  | .ifc _ _, x, obs, ρ0, c, v', obs', hv, _, _, _ => by simp [viewV] at hv
  | .tup _, x, obs, ρ0, c, v', obs', hv, _, _, _ => by simp [viewV] at hv
theorem viewL_ok (hr : Rel B ρ n h w) : ∀ (vs : List V) (xs : List Value) (obs : List Ob) (ρ0 : Nat → Bnd) (c : Prop) (vs' : List V) (obs' : List Ob), viewL h obs vs = some (c, vs', obs') → c → RL ρ n vs xs → Ros w ρ0 obs →
    ∃ ρ', Agree ρ0 ρ' obs.length ∧ obs.length ≤ obs'.length ∧ Ros w ρ' obs' ∧ RL ρ' obs'.length vs' xs
  | [], [], obs, ρ0, c, vs', obs', hv, hc, hx, ho => by
    simp only [viewL, Option.some.injEq, Prod.mk.injEq] at hv
    obtain ⟨_, rfl, rfl⟩ := hv
    exact ⟨ρ0, fun _ _ => rfl, Nat.le_refl _, ho, by simp [RL]⟩
  | v :: vs, x :: xs, obs, ρ0, c, vs', obs', hv, hc, hx, ho => by
    simp only [viewL] at hv
    split at hv
    · rename_i c1 v1 obs1 h1
      split at hv
      · rename_i d vs1 obs2 h2
        simp only [Option.some.injEq, Prod.mk.injEq] at hv
        obtain ⟨rfl, rfl, rfl⟩ := hv
        simp only [RL] at hx
        obtain ⟨ρ1, a1, a2, a3, a4⟩ := viewV_ok hr v x obs ρ0 c1 v1 obs1 h1 hc.1 hx.1 ho
        obtain ⟨ρ2, b1, b2, b3, b4⟩ := viewL_ok hr vs xs obs1 ρ1 d vs1 obs2 h2 hc.2 hx.2 a3
        refine ⟨ρ2, fun i hi => (b1 i (Nat.lt_of_lt_of_le hi a2)).trans (a1 i hi), Nat.le_trans a2 b2, b3, ?_⟩
        simp only [RL]
        exact ⟨R.mono b2 b1 _ _ a4, b4⟩
      · cases hv
    · cases hv
  | [], _ :: _, _, _, _, _, _, _, _, hx, _ => by simp [RL] at hx
  | _ :: _, [], _, _, _, _, _, _, _, hx, _ => by simp [RL] at hx
end
end
def memN (i : Nat) : List (Nat × Ob) → Bool
  | [] => false
  | (j, _) :: l => Nat.beq j i || memN i l
mutual
def expV (h : Nat → Ob) (acc : List (Nat × Ob)) : V → Option (V × List (Nat × Ob))
  | .int k n => some (.int k n, acc)
  | .bool b => some (.bool b, acc)
  | .nilp => some (.nilp, acc)
  | .nsl => some (.nsl, acc)
  | .nfn => some (.nfn, acc)
  | .nifc => some (.nifc, acc)
  | .fn f [] [] => some (.fn f [] [], acc)
  | .osl id => match h id with
    | .own t E l => match memN id acc with
      | false => some (.osl acc.length, acc ++ [(id, .own t E l)])
      | true => none
    | _ => none
  | .agg cs => match expL h acc cs with
    | some (cs', acc') => some (.agg cs', acc')
    | none => none
  | .tup cs => match expL h acc cs with
    | some (cs', acc') => some (.tup cs', acc')
    | none => none
  | _ => none
def expL (h : Nat → Ob) (acc : List (Nat × Ob)) : List V → Option (List V × List (Nat × Ob))
  | [] => some ([], acc)
  | v :: vs => match expV h acc v with
    | some (v', acc') => match expL h acc' vs with
      | some (vs', acc'') => some (v' :: vs', acc'')
      | none => none
    | none => none
end
/-- The objects that are handed back. -/
structure ExpOk (n : Nat) (h : Nat → Ob) (acc : List (Nat × Ob)) : Prop where
  mem : ∀ p, p ∈ acc → p.1 < n ∧ h p.1 = p.2 ∧ ∃ t E l, p.2 = .own t E l
  nodup : (acc.map (·.1)).Nodup
def reix (ρ : Nat → Bnd) (acc : List (Nat × Ob)) : Nat → Bnd := fun i => ρ ((acc.map (·.1)).getD i 0)
theorem memN_iff (i : Nat) : ∀ acc, memN i acc = true ↔ i ∈ acc.map (·.1)
  | [] => by simp [memN]
  | (j, o) :: l => by
    simp only [memN, Bool.or_eq_true, List.map_cons, List.mem_cons, memN_iff i l]
    constructor
    · rintro (h | h)
      · exact .inl (Nat.eq_of_beq_eq_true h).symm
      · exact .inr h
    · rintro (h | h)
      · exact .inl (by subst h; simp)
      · exact .inr h
theorem reix_append (ρ : Nat → Bnd) (acc : List (Nat × Ob)) (p : Nat × Ob) : Agree (reix ρ acc) (reix ρ (acc ++ [p])) acc.length := by
  intro i hi
  simp only [reix, List.map_append]
  congr 1
  simp only [List.getD_eq_getElem?_getD]
  rw [List.getElem?_append_left (by simpa using hi)]
theorem reix_last (ρ : Nat → Bnd) (acc : List (Nat × Ob)) (p : Nat × Ob) : reix ρ (acc ++ [p]) acc.length = ρ p.1 := by
  simp [reix]
mutual
theorem expV_ok {ρ : Nat → Bnd} {n : Nat} {h : Nat → Ob} : ∀ (v : V) (x : Value) (acc : List (Nat × Ob)) (v' : V) (acc' : List (Nat × Ob)), expV h acc v = some (v', acc') → R ρ n v x → ExpOk n h acc →
    ExpOk n h acc' ∧ acc.length ≤ acc'.length ∧ Agree (reix ρ acc) (reix ρ acc') acc.length ∧ R (reix ρ acc') acc'.length v' x
  | .int k m, x, acc, v', acc', hv, hx, ho => by
    simp only [expV, Option.some.injEq, Prod.mk.injEq] at hv
    obtain ⟨rfl, rfl⟩ := hv
    exact ⟨ho, Nat.le_refl _, fun _ _ => rfl, by simpa [R] using hx⟩
  | .bool b, x, acc, v', acc', hv, hx, ho => by
    simp only [expV, Option.some.injEq, Prod.mk.injEq] at hv
    obtain ⟨rfl, rfl⟩ := hv
    exact ⟨ho, Nat.le_refl _, fun _ _ => rfl, by simpa [R] using hx⟩
  | .nilp, x, acc, v', acc', hv, hx, ho => by
    simp only [expV, Option.some.injEq, Prod.mk.injEq] at hv
    obtain ⟨rfl, rfl⟩ := hv
    exact ⟨ho, Nat.le_refl _, fun _ _ => rfl, by simpa [R] using hx⟩
  | .nsl, x, acc, v', acc', hv, hx, ho => by
    simp only [expV, Option.some.injEq, Prod.mk.injEq] at hv
    obtain ⟨rfl, rfl⟩ := hv
    exact ⟨ho, Nat.le_refl _, fun _ _ => rfl, by simpa [R] using hx⟩
  | .nfn, x, acc, v', acc', hv, hx, ho => by
    simp only [expV, Option.some.injEq, Prod.mk.injEq] at hv
    obtain ⟨rfl, rfl⟩ := hv
    exact ⟨ho, Nat.le_refl _, fun _ _ => rfl, by simpa [R] using hx⟩
  | .nifc, x, acc, v', acc', hv, hx, ho => by
    simp only [expV, Option.some.injEq, Prod.mk.injEq] at hv
    obtain ⟨rfl, rfl⟩ := hv
    exact ⟨ho, Nat.le_refl _, fun _ _ => rfl, by simpa [R] using hx⟩
  | .fn f [] [], x, acc, v', acc', hv, hx, ho => by
    simp only [expV, Option.some.injEq, Prod.mk.injEq] at hv
    obtain ⟨rfl, rfl⟩ := hv
    refine ⟨ho, Nat.le_refl _, fun _ _ => rfl, ?_⟩
    simp only [R] at hx ⊢
    obtain ⟨xs, ys, h0, h1, h2⟩ := hx
    refine ⟨xs, ys, h0, ?_, ?_⟩
    · cases hxs : xs.toList <;> simp_all [RL]
    · cases hys : ys.toList <;> simp_all [RL]
  | .fn f (_ :: _) _, x, acc, v', acc', hv, _, _ => by simp [expV] at hv
  | .fn f [] (_ :: _), x, acc, v', acc', hv, _, _ => by simp [expV] at hv
  | .osl id, x, acc, v', acc', hv, hx, ho => by
    simp only [expV] at hv
    split at hv
    · rename_i t E l he
      split at hv
      · rename_i hm
        simp only [Option.some.injEq, Prod.mk.injEq] at hv
        obtain ⟨rfl, rfl⟩ := hv
        simp only [R] at hx
        have hni : id ∉ acc.map (·.1) := by
          intro hmem
          rw [(memN_iff id acc).2 hmem] at hm
          cases hm
        refine ⟨⟨fun p hp => ?_, ?_⟩, by simp, reix_append ρ acc _, ?_⟩
        · rcases List.mem_append.1 hp with hp | hp
          · exact ho.mem p hp
          · simp only [List.mem_singleton] at hp
            subst hp
            exact ⟨hx.1, he, t, E, l, rfl⟩
        · rw [List.map_append, List.nodup_append]
          refine ⟨ho.nodup, by simp, ?_⟩
          intro a ha b hb
          simp at hb
          subst hb
          intro e
          subst e
          exact hni ha
        · simp only [R, reix_last, List.length_append, List.length_cons, List.length_nil]
          exact ⟨by omega, hx.2⟩
      · cases hv
    · cases hv
  | .agg cs, x, acc, v', acc', hv, hx, ho => by
    simp only [expV] at hv
    split at hv
    · rename_i cs' acc1 hl
      simp only [Option.some.injEq, Prod.mk.injEq] at hv
      obtain ⟨rfl, rfl⟩ := hv
      simp only [R] at hx
      obtain ⟨xs, h0, h1⟩ := hx
      obtain ⟨a1, a2, a3, a4⟩ := expL_ok cs xs.toList acc cs' acc1 hl h1 ho
      refine ⟨a1, a2, a3, ?_⟩
      simp only [R]
      exact ⟨xs, h0, a4⟩
    · cases hv
  | .tup cs, x, acc, v', acc', hv, hx, ho => by
    simp only [expV] at hv
    split at hv
    · rename_i cs' acc1 hl
      simp only [Option.some.injEq, Prod.mk.injEq] at hv
      obtain ⟨rfl, rfl⟩ := hv
      simp only [R] at hx
      obtain ⟨xs, h0, h1⟩ := hx
      obtain ⟨a1, a2, a3, a4⟩ := expL_ok cs xs.toList acc cs' acc1 hl h1 ho
      refine ⟨a1, a2, a3, ?_⟩
      simp only [R]
      exact ⟨xs, h0, a4⟩
    · cases hv
  | .top, x, acc, v', acc', hv, _, _ => by simp [expV] at hv
  | .ptr _ _ _ _, x, acc, v', acc', hv, _, _ => by simp [expV] at hv
  | .sl _ _ _ _, x, acc, v', acc', hv, _, _ => by simp [expV] at hv
  | .ifc _ _, x, acc, v', acc', hv, _, _ => by simp [expV] at hv
theorem expL_ok {ρ : Nat → Bnd} {n : Nat} {h : Nat → Ob} : ∀ (vs : List V) (xs : List Value) (acc : List (Nat × Ob)) (vs' : List V) (acc' : List (Nat × Ob)), expL h acc vs = some (vs', acc') → RL ρ n vs xs → ExpOk n h acc →
    ExpOk n h acc' ∧ acc.length ≤ acc'.length ∧ Agree (reix ρ acc) (reix ρ acc') acc.length ∧ RL (reix ρ acc') acc'.length vs' xs
  | [], [], acc, vs', acc', hv, hx, ho => by
    simp only [expL, Option.some.injEq, Prod.mk.injEq] at hv
    obtain ⟨rfl, rfl⟩ := hv
    exact ⟨ho, Nat.le_refl _, fun _ _ => rfl, by simp [RL]⟩
  | v :: vs, x :: xs, acc, vs', acc', hv, hx, ho => by
    simp only [expL] at hv
    split at hv
    · rename_i v1 acc1 h1
      split at hv
      · rename_i vs1 acc2 h2
        simp only [Option.some.injEq, Prod.mk.injEq] at hv
        obtain ⟨rfl, rfl⟩ := hv
        simp only [RL] at hx
        obtain ⟨a1, a2, a3, a4⟩ := expV_ok v x acc v1 acc1 h1 hx.1 ho
        obtain ⟨b1, b2, b3, b4⟩ := expL_ok vs xs acc1 vs1 acc2 h2 hx.2 a1
        refine ⟨b1, Nat.le_trans a2 b2, fun i hi => (b3 i (Nat.lt_of_lt_of_le hi a2)).trans (a3 i hi), ?_⟩
        simp only [RL]
        exact ⟨R.mono b2 b3 _ _ a4, b4⟩
      · cases hv
    · cases hv
  | [], _ :: _, _, _, _, _, hx, _ => by simp [RL] at hx
  | _ :: _, [], _, _, _, _, hx, _ => by simp [RL] at hx
end
theorem lookO_get : ∀ (obs : List Ob) (i : Nat), lookO obs i = (obs[i]?).getD .no
  | [], i => by simp [lookO]
  | o :: l, 0 => rfl
  | o :: l, i + 1 => by simpa [lookO] using lookO_get l i
theorem exp_rel {B n : Nat} {ρ : Nat → Bnd} {h : Nat → Ob} {w : World} {acc : List (Nat × Ob)} (hr : Rel B ρ n h w) (ho : ExpOk n h acc) : Rel B (reix ρ acc) acc.length (lookO (acc.map (·.2))) w := by
  have at_ : ∀ i, i < acc.length → ∃ p, p ∈ acc ∧ acc[i]? = some p ∧ reix ρ acc i = ρ p.1 ∧ lookO (acc.map (·.2)) i = p.2 := by
    intro i hi
    refine ⟨acc[i], List.getElem_mem hi, List.getElem?_eq_getElem hi, ?_, ?_⟩
    · simp [reix, List.getD_eq_getElem?_getD, hi]
    · simp [lookO_get, hi]
  refine ⟨hr.base, fun i hi => ?_, fun i j hi hj hij g hg hgj => ?_⟩
  · obtain ⟨p, hp, _, e1, e2⟩ := at_ i hi
    obtain ⟨h1, h2, t, E, l, h3⟩ := ho.mem p hp
    have := hr.obj p.1 h1
    rw [e1, e2, h3]
    rw [h2, h3] at this
    exact this
  · obtain ⟨p, hp, hpi, e1, e2⟩ := at_ i hi
    obtain ⟨q, hq, hqj, e3, e4⟩ := at_ j hj
    obtain ⟨h1, h2, _⟩ := ho.mem p hp
    obtain ⟨h3, h4, _⟩ := ho.mem q hq
    rw [e1, e2, ← h2] at hg
    rw [e3, e4, ← h4] at hgj
    refine hr.sep p.1 q.1 h1 h3 ?_ g hg hgj
    intro e
    have hnd := ho.nodup
    have hpi' := (List.getElem?_eq_some_iff.1 hpi).2
    have hqj' := (List.getElem?_eq_some_iff.1 hqj).2
    unfold List.Nodup at hnd
    rw [List.pairwise_iff_getElem] at hnd
    rcases Nat.lt_or_gt_of_ne hij with hlt | hlt
    · exact hnd i j (by simpa using hi) (by simpa using hj) hlt (by simp [hpi', hqj', e])
    · exact hnd j i (by simpa using hj) (by simpa using hi) hlt (by simp [hpi', hqj', e])
mutual
theorem shV_R {ρ ρ3 : Nat → Bnd} {n m : Nat} (hρ : ∀ i, i < m → ρ3 (n + i) = ρ i) : ∀ (v : V) (x : Value), R ρ m v x → R ρ3 (n + m) (shV n v) x
  | .osl id, x, h => by
    simp only [R, shV] at h ⊢
    rw [hρ id h.1]
    exact ⟨by omega, h.2⟩
  | .ptr id _ _ _, x, h => by
    simp only [R, shV] at h ⊢
    rw [hρ id h.1]
    exact ⟨by omega, h.2⟩
  | .sl id _ _ _, x, h => by
    simp only [R, shV] at h ⊢
    rw [hρ id h.1]
    exact ⟨by omega, h.2⟩
  | .agg cs, x, h => by
    simp only [R, shV] at h ⊢
    obtain ⟨xs, h0, h1⟩ := h
    exact ⟨xs, h0, shL_R hρ cs _ h1⟩
  | .tup cs, x, h => by
    simp only [R, shV] at h ⊢
    obtain ⟨xs, h0, h1⟩ := h
    exact ⟨xs, h0, shL_R hρ cs _ h1⟩
  | .fn _ a b, x, h => by
    simp only [R, shV] at h ⊢
    obtain ⟨xs, ys, h0, h1, h2⟩ := h
    exact ⟨xs, ys, h0, shL_R hρ a _ h1, shL_R hρ b _ h2⟩
  | .ifc _ v, x, h => by
    simp only [R, shV] at h ⊢
    obtain ⟨y, h0, h1⟩ := h
    exact ⟨y, h0, shV_R hρ v y h1⟩
  | .top, _, _ => by simp [R, shV]
  | .int _ _, _, h => by simpa [R, shV] using h
  | .bool _, _, h => by simpa [R, shV] using h
  | .nilp, _, h => by simpa [R, shV] using h
  | .nsl, _, h => by simpa [R, shV] using h
  | .nfn, _, h => by simpa [R, shV] using h
  | .nifc, _, h => by simpa [R, shV] using h
  | .nmp, _, h => by simpa [R, shV] using h
  | .mp i, _, h => by
    simp only [R, shV] at h ⊢
    rw [hρ i h.1]
    exact ⟨by omega, h.2⟩
theorem shL_R {ρ ρ3 : Nat → Bnd} {n m : Nat} (hρ : ∀ i, i < m → ρ3 (n + i) = ρ i) : ∀ (vs : List V) (xs : List Value), RL ρ m vs xs → RL ρ3 (n + m) (shL n vs) xs
  | [], [], _ => by simp [RL, shL]
  | v :: vs, x :: xs, h => by
    simp only [RL, shL] at h ⊢
    exact ⟨shV_R hρ v x h.1, shL_R hρ vs xs h.2⟩
  | [], _ :: _, h => by simp [RL] at h
  | _ :: _, [], h => by simp [RL] at h
end
/-- What a run in a state of its own has to end in. -/
def closeK (K' : Out → List Ob → Prop) : Out → (Nat → Ob) → Nat → Prop := fun out h _ => match out with
  | .ret v => match expV h [] v with
    | some (v', acc) => K' (.ret v') (acc.map (·.2))
    | none => False
  | .pan v => V.lt 0 v = true ∧ K' (.pan v) []
def FreshOk (P : Program) (f : Nat) (F : FSpec) : Prop := ∀ (args : List V) (obs : List Ob) (K' : Out → List Ob → Prop), F args obs K' → ∀ (w : World) (ρ : Nat → Bnd) (xs : List Value), Ros w ρ obs → RL ρ obs.length args xs →
  Reach P f xs.toArray w fun e w' => ∃ out news ρ', K' out news ∧ OutR ρ' news.length out e ∧ Rel w.heap.size ρ' news.length (lookO news) w' ∧ (∀ i, i < news.length → ∃ t E l, lookO news i = .own t E l) ∧
    (∀ v, out = .pan v → V.lt 0 v = true) ∧ Below w.heap.size w w'
theorem Reach.mono {P : Program} {f : Nat} {xs : Array Value} {w : World} {Q Q' : Ending → World → Prop} (h : Reach P f xs w Q) (hq : ∀ e w', Q e w' → Q' e w') : Reach P f xs w Q' := by
  rcases h with ⟨h1, h2⟩ | ⟨v, w', h1, h2⟩
  · exact .inl ⟨h1, h2.mono hq⟩
  · exact .inr ⟨v, w', h1, hq _ _ h2⟩
/-- A function that is run in a state of its own. -/
theorem fresh_of_run {P : Program} {T : Tab} {DT : DTab} (hT : TabOk P T) (hD : TabOk P (tabD DT)) {f : Nat} {fn : Func} {afn : AFn} {F : FSpec} (Iv : List V → List Ob → Inv) (hf : P.funcs[f]? = some fn) (hc : chkFn P fn afn = true)
    (hF : ∀ args obs K', F args obs K' → runFn T DT (Iv args obs) afn args (lookO obs) obs.length (closeK K')) : FreshOk P f F := by
  intro args obs K' hFa w ρ xs hro hargs
  refine (fn_entry hT hD (Iv args obs) hf hc w.heap.size ρ obs.length (lookO obs) w args xs (closeK K') hro.rel hargs (hF args obs K' hFa)).mono ?_
  rintro e w' ⟨out, ρ', n', h', hk, ho, hr, hx⟩
  cases out with
  | ret v =>
    cases e with
    | returned x =>
      simp only [closeK] at hk
      split at hk
      · rename_i v' acc hv
        obtain ⟨h1, _, _, h4⟩ := expV_ok (ρ := ρ') (n := n') (h := h') v x [] v' acc hv ho ⟨fun p hp => by simp at hp, by simp⟩
        refine ⟨.ret v', acc.map (·.2), reix ρ' acc, hk, ?_, ?_, ?_, (fun v e => by cases e), hx.2.2⟩
        · simpa [OutR] using h4
        · simpa using exp_rel hr h1
        · intro i hi
          have hi' : i < acc.length := by simpa using hi
          obtain ⟨_, _, t, E, l, h3⟩ := h1.mem acc[i] (List.getElem_mem hi')
          exact ⟨t, E, l, by simp [lookO_get, hi', h3]⟩
      · exact hk.elim
    | panicked _ => exact ho.elim
    | outgrown => exact ho.elim
  | pan v =>
    cases e with
    | returned x => exact ho.elim
    | panicked chain =>
      obtain ⟨hl, hk⟩ := hk
      obtain ⟨x, rfl, hx'⟩ := ho
      refine ⟨.pan v, [], ρ', hk, ⟨x, rfl, R.less v x hx' hl⟩, ⟨?_, fun i hi => by simp at hi, fun i j hi => by simp at hi⟩, fun i hi => by simp at hi, (fun u e => by cases e; exact hl), hx.2.2⟩
      have := hr.base
      omega
    | outgrown => exact ho.elim
theorem entry_of_fresh {P : Program} {f : Nat} {F : FSpec} (hF : FreshOk P f F) : EntryOk P f (liftA F) := by
  intro B ρ n h w args xs K hr hargs hs
  unfold liftA at hs
  split at hs
  · rename_i c args' obs hv
    obtain ⟨hc, hFa⟩ := hs
    obtain ⟨ρ1, _, _, hro, ha⟩ := viewL_ok hr args xs [] (fun _ => default) c args' obs hv hc hargs (fun i hi => by simp at hi)
    refine (hF args' obs _ hFa w ρ1 xs hro ha).mono ?_
    rintro e w' ⟨out, news, ρ', hk, ho, hr', hown, hpan, hb⟩
    have hbB : Below B w w' := hb.mono hr.base
    cases out with
    | pan v =>
      cases e with
      | panicked chain =>
        obtain ⟨x, rfl, hx⟩ := ho
        refine ⟨.pan v, ρ, n, h, hk, ⟨x, rfl, ?_⟩, ?_, ⟨fun _ _ => rfl, Nat.le_refl _, hbB⟩⟩
        · have h0 := R.less (n' := 0) v x hx (hpan v rfl)
          exact R.mono (ρ := ρ') (ρ' := ρ) (Nat.zero_le n) (fun i hi => by omega) v x h0
        · exact ⟨Nat.le_trans hr.base hb.size, fun i hi => (hr.obj i hi).keep (Nat.le_refl _) (fun _ _ => rfl) fun g hg => hb.block g ((hr.obj i hi).lt g hg), hr.sep⟩
      | returned _ => exact ho.elim
      | outgrown => exact ho.elim
    | ret v =>
      cases e with
      | returned x =>
        let ρ3 : Nat → Bnd := fun i => if i < n then ρ i else ρ' (i - n)
        have hag : Agree ρ ρ3 n := fun i hi => if_pos hi
        have hnew : ∀ i, ρ3 (n + i) = ρ' i := fun i => by
          show (if n + i < n then ρ (n + i) else ρ' (n + i - n)) = ρ' i
          rw [if_neg (by omega)]
          congr 1
          omega
        have hold : ∀ i, i < n → ∀ g, ablk (ρ3 i) (addObs h n news i) = some g → g < w.heap.size := by
          intro i hi g hg
          rw [hag i hi, addObs_old news h n i hi] at hg
          exact (hr.obj i hi).lt g hg
        have hnw : ∀ i, i < news.length → ∀ g, ablk (ρ3 (n + i)) (addObs h n news (n + i)) = some g → w.heap.size ≤ g := by
          intro i hi g hg
          rw [hnew, addObs_new news h n i hi] at hg
          obtain ⟨t, E, l, he⟩ := hown i hi
          have hob := hr'.obj i hi
          rw [he] at hg hob
          exact (hob.2.1.lt g hg).1
        refine ⟨.ret (shV n v), ρ3, n + news.length, addObs h n news, hk, shV_R (fun i _ => hnew i) v x ho, ⟨Nat.le_trans hr.base hb.size, fun i hi => ?_, fun i j hi hj hij g hg hgj => ?_⟩, ⟨hag, Nat.le_add_right _ _, hbB⟩⟩
        · by_cases hin : i < n
          · rw [hag i hin, addObs_old news h n i hin]
            exact (hr.obj i hin).keep (Nat.le_add_right _ _) hag fun g hg => hb.block g ((hr.obj i hin).lt g hg)
          · obtain ⟨k, rfl⟩ : ∃ k, i = n + k := ⟨i - n, by omega⟩
            have hk' : k < news.length := by omega
            rw [hnew, addObs_new news h n k hk']
            obtain ⟨t, E, l, he⟩ := hown k hk'
            have hob := hr'.obj k hk'
            rw [he] at hob ⊢
            obtain ⟨h1, h2, h3, h4⟩ := hob
            refine ⟨h1, ⟨h2.1, ?_⟩, h3, h4⟩
            rcases h2.2 with h0 | ⟨g, cap, cur, a1, a2, rest⟩
            · exact .inl h0
            · exact .inr ⟨g, cap, cur, a1, Nat.le_trans hr.base a2, rest⟩
        · by_cases hin : i < n
          · by_cases hjn : j < n
            · rw [hag i hin, addObs_old news h n i hin] at hg
              rw [hag j hjn, addObs_old news h n j hjn] at hgj
              exact hr.sep i j hin hjn hij g hg hgj
            · obtain ⟨k, rfl⟩ : ∃ k, j = n + k := ⟨j - n, by omega⟩
              have := hold i hin g (wblk_ablk hg)
              have := hnw k (by omega) g hgj
              omega
          · obtain ⟨k, rfl⟩ : ∃ k, i = n + k := ⟨i - n, by omega⟩
            by_cases hjn : j < n
            · have := hold j hjn g hgj
              have := hnw k (by omega) g (wblk_ablk hg)
              omega
            · obtain ⟨k', rfl⟩ : ∃ k, j = n + k := ⟨j - n, by omega⟩
              rw [hnew, addObs_new news h n k (by omega)] at hg
              rw [hnew, addObs_new news h n k' (by omega)] at hgj
              exact hr'.sep k k' (by omega) (by omega) (by omega) g hg hgj
      | panicked _ => exact ho.elim
      | outgrown => exact ho.elim
  · exact hs.elim
end Go.Proofs.YtbolfnkgbjkbjaaGreat.AM
end
section
set_option linter.unusedVariables false
set_option linter.unusedSimpArgs false
namespace Go.Proofs.YtbolfnkgbjkbjaaGreat.AM
open Go Go.RowKit

/-- The parts of a function that tries, and of what it defers. -/
structure TFn where
  a1 : AC
  g : Nat
  caps : List Nat
  fv : Nat
  a3 : AC
  res : List ARes
  r : Nat
  r2 : Nat
  a4 : AC
def dst0 (t : TFn) (dargs : List V) (v : V) (s : S) : S := S.put (S.put ⟨argSl dargs 0, s.hp, s.nx⟩ (some t.r) v) (some t.r2) v
/-- The deferred closure, and the results behind it. -/
def runDef (T : Tab) (D : DTab) (Iv : Inv) (t : TFn) (dargs : List V) (v : V) (K : Out → (Nat → Ob) → Nat → Prop) (s : S) : Prop :=
  awp T D Iv s.nx t.a4 (fun e2 s2 => match e2 with
    | .nrm => fin t.res K .ret ⟨s.sl, s2.hp, s2.nx⟩
    | .ret => fin t.res K .ret ⟨s.sl, s2.hp, s2.nx⟩
    | .ext _ => False
    | .pan _ => False) (dst0 t dargs v s)
def runTried (T : Tab) (D : DTab) (Iv : Inv) (t : TFn) : Spec := fun args h n K => match args with
  | [x] => awp T D Iv n t.a1 (fun e s => match e with
      | .nrm => awp T D Iv s.nx t.a3 (fun e' s' => match e' with
           | .nrm => runDef T D Iv t (t.caps.map s.sl) .nifc K s'
           | .ret => runDef T D Iv t (t.caps.map s.sl) .nifc K s'
           | .pan v => runDef T D Iv t (t.caps.map s.sl) v K s'
           | .ext _ => False) (s.put (some t.fv) (.fn t.g [] (t.caps.map s.sl)))
      | .ret => False
      | .pan _ => False
      | .ext _ => False) ⟨argSl args 0, h, n⟩
  | _ => False
def chkMid (N : Nat) (t : TFn) : List Oper → Bool
  | [⟨some d, .makeFunc (.func g) fs cs, _, _, _, none⟩, ⟨none, .defer ⟨.value (.tmp d'), as, _⟩, _, _, _, none⟩] =>
    decide (d = t.fv ∧ g = t.g ∧ d' = t.fv ∧ d < N) && decide (fs = #[]) && decide (as = #[]) && opds cs.toList (t.caps.map .t)
  | _ => false
def chkRec (N : Nat) (t : TFn) : List Oper → Bool
  | [⟨some r, .call ⟨.builtin .recover, as, _⟩, _, _, _, none⟩, ⟨some r2, .assign (.tmp r'), _, _, _, none⟩] =>
    decide (r = t.r ∧ r' = t.r ∧ r2 = t.r2 ∧ r < N ∧ r2 < N) && decide (as = #[])
  | _ => false
def chkMain (P : Program) (fn : Func) (t : TFn) : Bool := match fn.body with
  | some (.seq c1 (.seq (.region _ ops false) c3)) => chkC P fn.ntmps c1 t.a1 && chkMid fn.ntmps t ops.toList && chkC P fn.ntmps c3 t.a3 && chkRes P fn.results.toList t.res && decide (1 ≤ fn.ntmps) && !(fn.name == "runtime.NumGoroutine")
  | _ => false
def chkDef (P : Program) (fn : Func) (t : TFn) : Bool := match fn.body with
  | some (.seq (.region _ ops false) c4) => chkRec fn.ntmps t ops.toList && chkC P fn.ntmps c4 t.a4 && chkRes P fn.results.toList [] && decide (t.caps.length ≤ fn.ntmps) && !(fn.name == "runtime.NumGoroutine")
  | _ => false
theorem act0 {B N : Nat} {ρ : Nat → Bnd} {n : Nat} {h : Nat → Ob} {w : World} {args : List V} {xs : Array Value} (hr : Rel B ρ n h w) (hargs : RL ρ n args xs.toList) (hN : args.length ≤ N) :
    RelS N B ρ ⟨argSl args 0, h, n⟩ { tmps := xs ++ Array.replicate (N - xs.size) undef, defers := [] } w := by
  have hxl := hargs.length
  have hxs : xs.toList.length = xs.size := by simp
  refine ⟨hr, fun t => ?_, by simp; omega⟩
  have := argSl_get args xs.toList 0 t hargs (Nat.zero_le _)
  have e : (xs ++ Array.replicate (N - xs.size) undef).getD t undef = xs.toList.getD (t - 0) undef := by
    simp only [Nat.sub_zero, Array.getD_eq_getD_getElem?, List.getD_eq_getElem?_getD]
    by_cases ht : t < xs.size
    · rw [Array.getElem?_append_left ht]
      simp
    · rw [Array.getElem?_append_right (by omega), List.getElem?_eq_none (by simpa using Nat.le_of_not_lt ht)]
      simp only [Array.getElem?_replicate, Option.getD_none]
      split <;> rfl
  simp only [] at e ⊢
  rw [e]
  exact this
theorem caps_RL {N B : Nat} {ρ : Nat → Bnd} {s : S} {a : Act} {w : World} (hs : RelS N B ρ s a w) {cs : List Operand} {caps : List Nat} (h : opds cs (caps.map .t) = true) : RL ρ s.nx (caps.map s.sl) (cs.map a.eval) := by
  have := opds_R hs h
  have e : (caps.map AO.t).map (rd s) = caps.map s.sl := by simp [rd, Function.comp_def]
  rw [e] at this
  exact this
theorem RelS.later {N B : Nat} {ρ ρ2 : Nat → Bnd} {s s2 : S} {a : Act} {w w2 : World} {h2 : Nat → Ob} {n2 : Nat} (hs : RelS N B ρ s a w) (hn : s.nx ≤ n2) (hag : Agree ρ ρ2 s.nx) (hr : Rel B ρ2 n2 h2 w2) : RelS N B ρ2 ⟨s.sl, h2, n2⟩ a w2 :=
  ⟨hr, fun t => R.mono hn hag _ _ (hs.sl t), hs.size⟩
section
variable {P : Program} {T : Tab} {DT : DTab}
/-- What is deferred runs. -/
theorem def_ok (hT : TabOk P T) (hD : TabOk P (tabD DT)) (Iv : Inv) {t : TFn} {fn fn2 : Func} (hg : P.funcs[t.g]? = some fn2) (hc2 : chkDef P fn2 t = true) (hres : chkRes P fn.results.toList t.res = true)
    {N B n : Nat} {ρ ρ0 : Nat → Bnd} {w w0 : World} {s : S} {a : Act} {dargs : List V} {caps : Array Value} {K : Out → (Nat → Ob) → Nat → Prop} {v : V} {u : FrameMode}
    (hs : RelS N B ρ s a w) (hx : ExtR B ρ0 n w0 ρ s.nx w) (hcap : RL ρ s.nx dargs caps.toList) (hlen : dargs.length = t.caps.length) (hd : a.defers = [{ target := .fn (.func t.g) caps, args := #[] }])
    (hu : (u = .returning ∧ v = .nifc) ∨ ∃ x, u = .panicking [{ v := x, recovered := false }] ∧ R ρ s.nx v x) (h : runDef T DT Iv t dargs v K s) :
    Leaves P fn a.tmps (fun e w' => ∃ out ρ' n' h', K out h' n' ∧ OutR ρ' n' out e ∧ Rel B ρ' n' h' w' ∧ ExtR B ρ0 n w0 ρ' n' w') a.defers u w := by
  rw [hd]
  unfold chkDef at hc2
  split at hc2
  · rename_i id ops c4 hb
    simp only [Bool.and_eq_true, decide_eq_true_eq, Bool.not_eq_true'] at hc2
    obtain ⟨⟨⟨⟨hrec, h4⟩, hres2⟩, hnp⟩, hname⟩ := hc2
    have hname' : ¬ fn2.name = "runtime.NumGoroutine" := by simpa using hname
    have hu' : u ≠ .run := by
      rcases hu with ⟨rfl, _⟩ | ⟨x, rfl, _⟩ <;> simp
    refine leaves_cons (f := t.g) (args := caps) hu' (by simp [invoke, callFunc, hg, hname', hb]) ?_
    refine callsD_of_wpS hg hb fun c₀ cs hcm => ?_
    have hs0 := act0 (N := fn2.ntmps) hs.rel hcap (by omega)
    -- the recover, and what is told of it
    unfold chkRec at hrec
    split at hrec
    · rename_i r as at_ ty1 po1 af1 r2 r' ty2 po2 af2 hops
      simp only [Bool.and_eq_true, decide_eq_true_eq] at hrec
      obtain ⟨⟨rfl, rfl, rfl, hrN, hr2N⟩, rfl⟩ := hrec
      have hsz : ops.size = 2 := by
        have := congrArg List.length hops
        simpa using this
      have h0 : ops[0]? = some ⟨some t.r, .call ⟨.builtin .recover, #[], at_⟩, ty1, po1, af1, none⟩ := by
        have := congrArg (·[0]?) hops
        simpa using this
      have h1 : ops[1]? = some ⟨some t.r2, .assign (.tmp t.r), ty2, po2, af2, none⟩ := by
        have := congrArg (·[1]?) hops
        simpa using this
      have key : ∀ (x : Value) (u' : FrameMode) (cs' : List Frame), R ρ s.nx v x → cs' = { c₀ with mode := u' } :: cs → settle u' = .returning →
          Exit.thenS (c4.wpS P (bodyPostS P fn2 c₀ cs fun
            | .returned _, u', w' => Leaves P fn a.tmps (fun e w' => ∃ out ρ' n' h', K out h' n' ∧ OutR ρ' n' out e ∧ Rel B ρ' n' h' w' ∧ ExtR B ρ0 n w0 ρ' n' w') [] (settle u') w'
            | .panicked chain, u', w' => Leaves P fn a.tmps (fun e w' => ∃ out ρ' n' h', K out h' n' ∧ OutR ρ' n' out e ∧ Rel B ρ' n' h' w' ∧ ExtR B ρ0 n w0 ρ' n' w') [] (raised u' chain) w'
            | .outgrown, _, w' => (fun e w' => ∃ out ρ' n' h', K out h' n' ∧ OutR ρ' n' out e ∧ Rel B ρ' n' h' w' ∧ ExtR B ρ0 n w0 ρ' n' w') .outgrown w'))
            (bodyPostS P fn2 c₀ cs fun
            | .returned _, u', w' => Leaves P fn a.tmps (fun e w' => ∃ out ρ' n' h', K out h' n' ∧ OutR ρ' n' out e ∧ Rel B ρ' n' h' w' ∧ ExtR B ρ0 n w0 ρ' n' w') [] (settle u') w'
            | .panicked chain, u', w' => Leaves P fn a.tmps (fun e w' => ∃ out ρ' n' h', K out h' n' ∧ OutR ρ' n' out e ∧ Rel B ρ' n' h' w' ∧ ExtR B ρ0 n w0 ρ' n' w') [] (raised u' chain) w'
            | .outgrown, _, w' => (fun e w' => ∃ out ρ' n' h', K out h' n' ∧ OutR ρ' n' out e ∧ Rel B ρ' n' h' w' ∧ ExtR B ρ0 n w0 ρ' n' w') .outgrown w')
            .normal ((Act.put { tmps := caps ++ Array.replicate (fn2.ntmps - caps.size) undef, defers := [] } (some t.r) x).put (some t.r2) x) cs' w := by
        intro x u' cs' hv hcs hset
        have hs1 : RelS fn2.ntmps B ρ (S.put ⟨argSl dargs 0, s.hp, s.nx⟩ (some t.r) v) (Act.put { tmps := caps ++ Array.replicate (fn2.ntmps - caps.size) undef, defers := [] } (some t.r) x) w :=
          hs0.put (Nat.le_refl _) (fun _ _ => rfl) hs.rel hv (fun e he => by cases he; exact hrN)
        have hs2 : RelS fn2.ntmps B ρ (dst0 t dargs v s) ((Act.put { tmps := caps ++ Array.replicate (fn2.ntmps - caps.size) undef, defers := [] } (some t.r) x).put (some t.r2) x) w :=
          hs1.put (Nat.le_refl _) (fun _ _ => rfl) hs.rel hv (fun e he => by cases he; exact hr2N)
        refine wpS_of_wp (wp_mono (awp_ok hT hD c4 t.a4 h4 h hs2 (Nat.le_refl _)) ?_)
        rintro e a' w' ⟨ρ', s2, ax, hax, hq, hs2', hx2, hd2⟩
        have hd2' : a'.defers = [] := hd2
        have hag : Agree ρ ρ' s.nx := hx2.1
        have fin_ : fin t.res K .ret ⟨s.sl, s2.hp, s2.nx⟩ → ∃ u', cs' = { c₀ with mode := u' } :: cs ∧ ∃ y, (results fn2 a'.tmps).run P w' = .ok y w' ∧
            Leaves P fn a.tmps (fun e w' => ∃ out ρ' n' h', K out h' n' ∧ OutR ρ' n' out e ∧ Rel B ρ' n' h' w' ∧ ExtR B ρ0 n w0 ρ' n' w') [] (settle u') w' := by
          intro hq
          obtain ⟨y, hy, _⟩ := results_run (P := P) hs2' (fn := fn2) hres2 (r' := []) (vs := []) rfl
          refine ⟨u', hcs, y, hy, ?_⟩
          rw [hset]
          simp only [fin] at hq
          split at hq
          · rename_i vs hvs
            have hs3 : RelS N B ρ' ⟨s.sl, s2.hp, s2.nx⟩ a w' := hs.later (s2 := s2) hx2.2.1 hag hs2'.rel
            obtain ⟨z, h1, h2⟩ := results_run hs3 hres hvs
            exact ⟨z, h1, _, ρ', s2.nx, s2.hp, hq, h2, hs2'.rel, hx.trans hx2⟩
          · exact hq.elim
        cases e with
        | normal =>
          cases ax with
          | nrm => exact ⟨hd2', fin_ hq⟩
          | _ => exact hax.elim
        | exit i =>
          cases ax with
          | ext j => exact hq.elim
          | _ => exact hax.elim
        | goto l => cases ax <;> exact hax.elim
        | ret =>
          cases ax with
          | ret => exact ⟨hd2', fin_ hq⟩
          | _ => exact hax.elim
        | panic ch =>
          cases ax with
          | pan v => exact hq.elim
          | _ => exact hax.elim
        | outgrown => cases ax <;> exact hax.elim
      refine wpS_seq (wpS_region ?_)
      rw [hsz]
      have hl : List.range 2 = [0, 1] := rfl
      rw [hl]
      have w0 : ∀ tm, Region.wanted ⟨some t.r, .call ⟨.builtin .recover, #[], at_⟩, ty1, po1, af1, none⟩ (yielded ops tm) = true := fun tm => rfl
      have w1 : ∀ tm, Region.wanted ⟨some t.r2, .assign (.tmp t.r), ty2, po2, af2, none⟩ (yielded ops tm) = true := fun tm => rfl
      have run0 : ∀ (ev : Operand → Value), (execOp ev ⟨some t.r, .call ⟨.builtin .recover, #[], at_⟩, ty1, po1, af1, none⟩).run P w = .ok .recover w := fun ev => by
        simp [execOp, resolve, invoke, builtin]
      have run1 : ∀ (ev : Operand → Value), (execOp ev ⟨some t.r2, .assign (.tmp t.r), ty2, po2, af2, none⟩).run P w = .ok (.value (ev (.tmp t.r))) w := fun ev => by
        simp [execOp]
      have hev : ∀ (x : Value), Act.eval (Act.put { tmps := caps ++ Array.replicate (fn2.ntmps - caps.size) undef, defers := [] } (some t.r) x) (.tmp t.r) = x := by
        intro x
        have hsz0 := hs0.size
        have : t.r < (caps ++ Array.replicate (fn2.ntmps - caps.size) undef).size := by rw [hsz0]; exact hrN
        simp only [Act.eval, Act.put, Array.getD_eq_getD_getElem?]
        rw [Array.getElem?_setIfInBounds_self_of_lt this]
        rfl
      simp only [wpOpsS, h0, h1, w0, w1, if_true, run0, run1]
      rcases hu with ⟨rfl, rfl⟩ | ⟨x, rfl, hx0⟩
      · have hrd : recoverD (c₀ :: cs) = none := by simp [recoverD, hcm]
        rw [hrd]
        simp only [Oper.upon, hev]
        exact key .nilIface .returning (c₀ :: cs) (by simp [R]) (by rw [← hcm]) rfl
      · have hrd : recoverD (c₀ :: cs) = some (x, { c₀ with mode := .panicking [{ v := x, recovered := true }] } :: cs) := by simp [recoverD, hcm]
        rw [hrd]
        simp only [Oper.upon, hev]
        exact key x (.panicking [{ v := x, recovered := true }]) _ hx0 rfl rfl
    · cases hrec
  · cases hc2
/-- A function that tries. -/
theorem tried_entry (hT : TabOk P T) (hD : TabOk P (tabD DT)) (Iv : Inv) {f : Nat} {t : TFn} {fn fn2 : Func} (hf : P.funcs[f]? = some fn) (hg : P.funcs[t.g]? = some fn2) (hc : chkMain P fn t = true) (hc2 : chkDef P fn2 t = true) : EntryOk P f (runTried T DT Iv t) := by
  intro B ρ n h w args xs K hr hargs hrun
  unfold chkMain at hc
  split at hc
  · rename_i c1 id ops c3 hb
    simp only [Bool.and_eq_true, decide_eq_true_eq, Bool.not_eq_true'] at hc
    obtain ⟨⟨⟨⟨⟨h1, hmid⟩, h3⟩, hres⟩, hnp⟩, hname⟩ := hc
    have hname' : ¬ fn.name = "runtime.NumGoroutine" := by simpa using hname
    unfold runTried at hrun
    split at hrun
    · rename_i x0
      refine .inl ⟨by simp [callFunc, hf, hname', hb], ?_⟩
      refine calls_of_wp_defers hf hb ?_
      have hs := act0 (N := fn.ntmps) (xs := xs.toArray) hr (by simpa using hargs) (by simpa using hnp)
      refine wp_seq (wp_mono (awp_ok hT hD c1 t.a1 h1 hrun hs (Nat.le_refl _)) ?_)
      rintro e a1 w1 ⟨ρ1, s1, ax, hax, hq, hs1, hx1, hd1⟩
      have hd1' : a1.defers = [] := hd1
      cases e with
      | normal =>
        cases ax with
        | nrm =>
          unfold chkMid at hmid
          split at hmid
          · rename_i d g fs cs ty1 po1 af1 d' as at_ ty2 po2 af2 hops
            simp only [Bool.and_eq_true, decide_eq_true_eq] at hmid
            obtain ⟨⟨⟨⟨rfl, rfl, rfl, hdN⟩, rfl⟩, rfl⟩, hcs⟩ := hmid
            have hsz : ops.size = 2 := by
              have := congrArg List.length hops
              simpa using this
            have g0 : ops[0]? = some ⟨some t.fv, .makeFunc (.func t.g) #[] cs, ty1, po1, af1, none⟩ := by
              have := congrArg (·[0]?) hops
              simpa using this
            have g1 : ops[1]? = some ⟨none, .defer ⟨.value (.tmp t.fv), #[], at_⟩, ty2, po2, af2, none⟩ := by
              have := congrArg (·[1]?) hops
              simpa using this
            refine wp_seq (wp_region ?_)
            rw [hsz]
            have hl : List.range 2 = [0, 1] := rfl
            rw [hl]
            have hcap := caps_RL hs1 hcs
            let fnv : Value := .func (.func t.g) #[] (cs.map a1.eval)
            have hs2 : RelS fn.ntmps B ρ1 (s1.put (some t.fv) (.fn t.g [] (t.caps.map s1.sl))) (a1.put (some t.fv) fnv) w1 :=
              hs1.put (Nat.le_refl _) (fun _ _ => rfl) hs1.rel (by
                simp only [R]
                exact ⟨#[], cs.map a1.eval, rfl, by simp [RL], by simpa using hcap⟩) (fun e he => by cases he; exact hdN)
            have hev : Act.eval (a1.put (some t.fv) fnv) (.tmp t.fv) = fnv := by
              have hsz0 := hs1.size
              have : t.fv < a1.tmps.size := by rw [hsz0]; exact hdN
              simp only [Act.eval, Act.put, Array.getD_eq_getD_getElem?]
              rw [Array.getElem?_setIfInBounds_self_of_lt this]
              rfl
            have w0 : ∀ tm, Region.wanted ⟨some t.fv, .makeFunc (.func t.g) #[] cs, ty1, po1, af1, none⟩ (yielded ops tm) = true := fun tm => rfl
            have w1' : ∀ tm, Region.wanted ⟨none, .defer ⟨.value (.tmp t.fv), #[], at_⟩, ty2, po2, af2, none⟩ (yielded ops tm) = true := fun tm => rfl
            have run0 : (execOp a1.eval ⟨some t.fv, .makeFunc (.func t.g) #[] cs, ty1, po1, af1, none⟩).run P w1 = .ok (.value fnv) w1 := by
              simp [execOp, Instr.makeFunc, fnv]
            have run1 : (execOp (a1.put (some t.fv) fnv).eval ⟨none, .defer ⟨.value (.tmp t.fv), #[], at_⟩, ty2, po2, af2, none⟩).run P w1 = .ok (.defer { target := .fn (.func t.g) (cs.map a1.eval), args := #[] }) w1 := by
              simp [execOp, resolve, hev, Deferred.ofValue, fnv]
            simp only [wpOps, g0, g1, w0, w1', if_true, Oper.wp, run0, run1, Oper.upon]
            left
            left
            have hs3 : RelS fn.ntmps B ρ1 (s1.put (some t.fv) (.fn t.g [] (t.caps.map s1.sl))) (Act.put { (a1.put (some t.fv) fnv) with defers := { target := .fn (.func t.g) (cs.map a1.eval), args := #[] } :: (a1.put (some t.fv) fnv).defers } none undef) w1 :=
              ⟨hs2.rel, hs2.sl, hs2.size⟩
            refine wp_mono (awp_ok hT hD c3 t.a3 h3 hq hs3 (Nat.le_refl _)) ?_
            rintro e a2 w2 ⟨ρ2, s2, ax2, hax2, hq2, hs4, hx2, hd2⟩
            have hd2' : a2.defers = [{ target := .fn (.func t.g) (cs.map a1.eval), args := #[] }] := by
              rw [hd2]
              show _ :: (a1.put (some t.fv) fnv).defers = _
              rw [put_defers, hd1']
            have hxx : ExtR B ρ n w ρ2 s2.nx w2 := hx1.trans hx2
            have hcap2 : RL ρ2 s2.nx (t.caps.map s1.sl) (cs.map a1.eval).toList := RL.mono hx2.2.1 hx2.1 _ _ (by simpa using hcap)
            cases e with
            | normal =>
              cases ax2 with
              | nrm => exact def_ok hT hD Iv hg hc2 hres hs4 hxx hcap2 (by simp) hd2' (.inl ⟨rfl, rfl⟩) hq2
              | _ => exact hax2.elim
            | exit i =>
              cases ax2 with
              | ext j => exact hq2.elim
              | _ => exact hax2.elim
            | goto l => cases ax2 <;> exact hax2.elim
            | ret =>
              cases ax2 with
              | ret => exact def_ok hT hD Iv hg hc2 hres hs4 hxx hcap2 (by simp) hd2' (.inl ⟨rfl, rfl⟩) hq2
              | _ => exact hax2.elim
            | panic ch =>
              cases ax2 with
              | pan v =>
                obtain ⟨x, rfl, hxv⟩ := hax2
                exact def_ok hT hD Iv hg hc2 hres hs4 hxx hcap2 (by simp) hd2' (.inr ⟨x, rfl, hxv⟩) hq2
              | _ => exact hax2.elim
            | outgrown => cases ax2 <;> exact hax2.elim
          · cases hmid
        | _ => exact hax.elim
      | exit i =>
        cases ax with
        | ext j => exact hq.elim
        | _ => exact hax.elim
      | goto l => cases ax <;> exact hax.elim
      | ret =>
        cases ax with
        | ret => exact hq.elim
        | _ => exact hax.elim
      | panic ch =>
        cases ax with
        | pan v => exact hq.elim
        | _ => exact hax.elim
      | outgrown => cases ax <;> exact hax.elim
    · exact hrun.elim
  · cases hc
end
end Go.Proofs.YtbolfnkgbjkbjaaGreat.AM
end
