/- The abstract machine, part 11: contracts of functions that get values and lists, and give back values and new lists: proved in a state of their own, used in any. -/
import Derived.Test.YtbolfnkgbjkbjaaGreatAm10
set_option linter.unusedVariables false
set_option linter.unusedSimpArgs false
namespace Go.Proofs.YtbolfnkgbjkbjaaGreat.AM
open Go Go.RowKit

/-! ### What a callee sees of its arguments -/
def Ros (w : World) (ρ : Nat → Bnd) (obs : List Ob) : Prop := ∀ i, i < obs.length → ((∃ E l, lookO obs i = .ro E l) ∨ ∃ cs, lookO obs i = .rv cs) ∧ HR ρ obs.length w.heap.size w (ρ i) (lookO obs i)
theorem lookO_append : ∀ (obs : List Ob) (o : Ob) (i : Nat), lookO (obs ++ [o]) i = if i < obs.length then lookO obs i else if i = obs.length then o else .no
  | [], o, 0 => rfl
  | [], o, i + 1 => by simp [lookO]
  | x :: obs, o, 0 => by simp [lookO]
  | x :: obs, o, i + 1 => by
    have ih := lookO_append obs o i
    simp only [List.cons_append, lookO, List.length_cons]
    rw [ih]
    by_cases h1 : i < obs.length
    · have h1' : i + 1 < obs.length + 1 := by omega
      simp only [h1, h1', if_true]
    · have h1' : ¬ i + 1 < obs.length + 1 := by omega
      by_cases h2 : i = obs.length
      · have h2' : i + 1 = obs.length + 1 := by omega
        simp only [h1, h1', h2, h2', if_true, if_false]
        simp
      · have h2' : ¬ i + 1 = obs.length + 1 := by omega
        simp only [h1, h1', h2, h2', if_false]
theorem Ros.rel {w : World} {ρ : Nat → Bnd} {obs : List Ob} (h : Ros w ρ obs) : Rel w.heap.size ρ obs.length (lookO obs) w :=
  ⟨Nat.le_refl _, fun i hi => (h i hi).2, fun i j hi hj hij g hg => by
    rcases (h i hi).1 with ⟨E, l, he⟩ | ⟨cs, he⟩ <;> rw [he] at hg <;> cases hg⟩
theorem ro_any {ρ ρ' : Nat → Bnd} {n n' B B' : Nat} {w : World} {b : Bnd} {E : ET} {l : List (den E)} (h : HR ρ n B w b (.ro E l)) : HR ρ' n' B' w b (.ro E l) := h
theorem own_ro {ρ : Nat → Bnd} {n B : Nat} {w : World} {b : Bnd} {t : Nat} {E : ET} {l : List (den E)} (h : HR ρ n B w b (.own t E l)) (hE : 0 < E.length) : HR ρ n B w b (.ro E l) := by
  obtain ⟨h1, h2, h3, h4⟩ := h
  rcases h2.2 with ⟨hn, h0⟩ | ⟨g, cap, cur, hsv, _, _, hnc, _⟩
  · have : l = [] := List.eq_nil_of_length_eq_zero h0
    subst this
    exact ⟨hE, h1, by simp, fun h => by simp at h, fun j s hj => by simp [flat] at hj⟩
  · have hg : b.sv.ownBlock = some g := by rw [hsv]; rfl
    have hgb := h4 g hg
    have hsv' := hsv
    unfold Bnd.sv at hsv'
    injection hsv' with e1 e2 e3
    refine ⟨hE, h1, by omega, fun _ => by rw [e1, hgb, h3], fun j s hj => ?_⟩
    have := h2.cells hg j s.val (by rw [List.getElem?_map, hj]; rfl)
    rw [add_lit] at this
    rw [hgb, h3]
    exact this
theorem rv_any {ρ ρ' : Nat → Bnd} {n n' B B' : Nat} {w : World} {b : Bnd} {cs : List V} (h : HR ρ n B w b (.rv cs)) : HR ρ' n' B' w b (.rv cs) := by
  obtain ⟨h2, c, t, h3, h4⟩ := h
  exact ⟨h2, c, t, h3, RL.mono (Nat.le_refl 0) (fun i hi => by omega) _ _ h4⟩
theorem Ros.pushO {w : World} {ρ : Nat → Bnd} {obs : List Ob} (h : Ros w ρ obs) {b : Bnd} {o : Ob} (ho : (∃ E l, o = .ro E l) ∨ ∃ cs, o = .rv cs) (hb : HR ρ 0 0 w b o) : Ros w (upd ρ obs.length b) (obs ++ [o]) := by
  have any : ∀ {o : Ob} {ρ ρ' : Nat → Bnd} {n n' B B' : Nat} {b : Bnd}, ((∃ E l, o = .ro E l) ∨ ∃ cs, o = .rv cs) → HR ρ n B w b o → HR ρ' n' B' w b o := by
    intro o ρ ρ' n n' B B' b ho h
    rcases ho with ⟨E, l, rfl⟩ | ⟨cs, rfl⟩
    · exact ro_any h
    · exact rv_any h
  intro i hi
  rw [lookO_append]
  rw [List.length_append] at hi
  simp only [List.length_cons, List.length_nil] at hi
  by_cases e : i = obs.length
  · subst e
    rw [if_neg (by omega), if_pos rfl, upd_same]
    exact ⟨ho, any ho hb⟩
  · rw [if_pos (by omega), upd_ne _ _ _ e]
    obtain ⟨h1, h2⟩ := h i (by omega)
    exact ⟨h1, any h1 h2⟩
theorem Ros.push {w : World} {ρ : Nat → Bnd} {obs : List Ob} (h : Ros w ρ obs) {b : Bnd} {E : ET} {l : List (den E)} (hb : HR ρ 0 0 w b (.ro E l)) : Ros w (upd ρ obs.length b) (obs ++ [.ro E l]) :=
  h.pushO (.inl ⟨E, l, rfl⟩) hb
section
variable {B n : Nat} {ρ : Nat → Bnd} {h : Nat → Ob} {w : World}
/-- A part of a row, as a row that is read. -/
theorem sub_ro {s : S} {v : V} {x : Value} {E : ET} {id lo len : Nat} {l : List (den E)} {b : Bnd} (hE : 0 < E.length) (hro : HR ρ n B w b (.ro E l)) {ad : Option Addr} {cap : Nat} (hle : lo + len ≤ l.length) (hlc : len ≤ cap)
    (had : 0 < len → ad = some ⟨b.blk, b.off + lo * E.length, none⟩) : HR ρ 0 0 w { blk := b.blk, off := b.off + lo * E.length, a := ad, len := len, cap := cap } (.ro E ((l.drop lo).take len)) := by
  obtain ⟨_, h1, h2, h3, h4⟩ := hro
  have hl : ((l.drop lo).take len).length = len := by simp; omega
  refine ⟨hE, hl.symm, by rw [hl]; exact hlc, fun hp => had (by omega), fun j q hj => ?_⟩
  rw [flat_take, flat_drop, List.getElem?_take] at hj
  split at hj
  · rw [List.getElem?_drop] at hj
    have := h4 _ q hj
    rw [← this]
    congr 2
    simp only []
    omega
  · cases hj
mutual
theorem viewV_ok (hr : Rel B ρ n h w) : ∀ (v : V) (x : Value) (obs : List Ob) (ρ0 : Nat → Bnd) (c : Prop) (v' : V) (obs' : List Ob), viewV h obs v = some (c, v', obs') → c → R ρ n v x → Ros w ρ0 obs →
    ∃ ρ', Agree ρ0 ρ' obs.length ∧ obs.length ≤ obs'.length ∧ Ros w ρ' obs' ∧ R ρ' obs'.length v' x
  | .int k m, x, obs, ρ0, c, v', obs', hv, hc, hx, ho => by
    simp only [viewV, Option.some.injEq, Prod.mk.injEq] at hv
    obtain ⟨_, rfl, rfl⟩ := hv
    exact ⟨ρ0, fun _ _ => rfl, Nat.le_refl _, ho, by simpa [R] using hx⟩
  | .bool b, x, obs, ρ0, c, v', obs', hv, hc, hx, ho => by
    simp only [viewV, Option.some.injEq, Prod.mk.injEq] at hv
    obtain ⟨_, rfl, rfl⟩ := hv
    exact ⟨ρ0, fun _ _ => rfl, Nat.le_refl _, ho, by simpa [R] using hx⟩
  | .nilp, x, obs, ρ0, c, v', obs', hv, hc, hx, ho => by
    simp only [viewV, Option.some.injEq, Prod.mk.injEq] at hv
    obtain ⟨_, rfl, rfl⟩ := hv
    exact ⟨ρ0, fun _ _ => rfl, Nat.le_refl _, ho, by simpa [R] using hx⟩
  | .nsl, x, obs, ρ0, c, v', obs', hv, hc, hx, ho => by
    simp only [viewV, Option.some.injEq, Prod.mk.injEq] at hv
    obtain ⟨_, rfl, rfl⟩ := hv
    exact ⟨ρ0, fun _ _ => rfl, Nat.le_refl _, ho, by simpa [R] using hx⟩
  | .nfn, x, obs, ρ0, c, v', obs', hv, hc, hx, ho => by
    simp only [viewV, Option.some.injEq, Prod.mk.injEq] at hv
    obtain ⟨_, rfl, rfl⟩ := hv
    exact ⟨ρ0, fun _ _ => rfl, Nat.le_refl _, ho, by simpa [R] using hx⟩
  | .nifc, x, obs, ρ0, c, v', obs', hv, hc, hx, ho => by
    simp only [viewV, Option.some.injEq, Prod.mk.injEq] at hv
    obtain ⟨_, rfl, rfl⟩ := hv
    exact ⟨ρ0, fun _ _ => rfl, Nat.le_refl _, ho, by simpa [R] using hx⟩
  | .nmp, x, obs, ρ0, c, v', obs', hv, hc, hx, ho => by
    simp only [viewV, Option.some.injEq, Prod.mk.injEq] at hv
    obtain ⟨_, rfl, rfl⟩ := hv
    exact ⟨ρ0, fun _ _ => rfl, Nat.le_refl _, ho, by simpa [R] using hx⟩
  | .mp _, x, obs, ρ0, c, v', obs', hv, hc, hx, ho => by simp [viewV] at hv
  | .osl id, x, obs, ρ0, c, v', obs', hv, hc, hx, ho => by
    simp only [R] at hx
    have hob := hr.obj id hx.1
    have fin : ∀ (E : ET) (l : List (den E)), HR ρ n B w (ρ id) (.ro E l) → v' = .osl obs.length → obs' = obs ++ [.ro E l] → ∃ ρ', Agree ρ0 ρ' obs.length ∧ obs.length ≤ obs'.length ∧ Ros w ρ' obs' ∧ R ρ' obs'.length v' x := by
      intro E l hro e1 e2
      subst e1 e2
      refine ⟨upd ρ0 obs.length (ρ id), agree_upd _ _ _, by simp, ho.push (ro_any hro), ?_⟩
      simp only [R, upd_same, List.length_append, List.length_cons, List.length_nil]
      exact ⟨by omega, hx.2⟩
    simp only [viewV] at hv
    split at hv
    · rename_i E l he
      simp only [Option.some.injEq, Prod.mk.injEq] at hv
      rw [he] at hob
      exact fin E l hob hv.2.1.symm hv.2.2.symm
    · rename_i t E l he
      split at hv
      · rename_i hE
        simp only [decide_eq_true_eq] at hE
        simp only [Option.some.injEq, Prod.mk.injEq] at hv
        rw [he] at hob
        exact fin E l (own_ro hob hE) hv.2.1.symm hv.2.2.symm
      · cases hv
    · cases hv
  | .sl id lo len z, x, obs, ρ0, c, v', obs', hv, hc, hx, ho => by
    simp only [R] at hx
    obtain ⟨hid, ad, cap, he, hlc, had⟩ := hx
    have hob := hr.obj id hid
    have fin : ∀ (E : ET) (l : List (den E)), HR ρ n B w (ρ id) (.ro E l) → 0 < E.length → z = E.length → lo + len ≤ l.length → v' = .osl obs.length → obs' = obs ++ [.ro E ((l.drop lo).take len)] → ∃ ρ', Agree ρ0 ρ' obs.length ∧ obs.length ≤ obs'.length ∧ Ros w ρ' obs' ∧ R ρ' obs'.length v' x := by
      intro E l hro hE hz hle e1 e2
      subst e1 e2 hz
      refine ⟨upd ρ0 obs.length _, agree_upd _ _ _, by simp, ho.push (ro_any (sub_ro (s := ⟨fun _ => .top, h, 0⟩) (v := .top) (x := x) (id := 0) hE hro hle hlc had)), ?_⟩
      simp only [R, upd_same, List.length_append, List.length_cons, List.length_nil]
      exact ⟨by omega, he⟩
    simp only [viewV] at hv
    split at hv
    · rename_i E l he'
      split at hv
      · rename_i hE
        simp only [decide_eq_true_eq] at hE
        simp only [Option.some.injEq, Prod.mk.injEq] at hv
        rw [he'] at hob
        obtain ⟨rfl, e1, e2⟩ := hv
        exact fin E l hob hE.1 hE.2 hc e1.symm e2.symm
      · cases hv
    · rename_i t E l he'
      split at hv
      · rename_i hE
        simp only [decide_eq_true_eq] at hE
        simp only [Option.some.injEq, Prod.mk.injEq] at hv
        rw [he'] at hob
        obtain ⟨rfl, e1, e2⟩ := hv
        exact fin E l (own_ro hob hE.1) hE.1 hE.2 hc e1.symm e2.symm
      · cases hv
    · cases hv
  | .fn f [] [], x, obs, ρ0, c, v', obs', hv, hc, hx, ho => by
    simp only [viewV, Option.some.injEq, Prod.mk.injEq] at hv
    obtain ⟨_, rfl, rfl⟩ := hv
    refine ⟨ρ0, fun _ _ => rfl, Nat.le_refl _, ho, ?_⟩
    simp only [R] at hx ⊢
    obtain ⟨xs, ys, h0, h1, h2⟩ := hx
    refine ⟨xs, ys, h0, ?_, ?_⟩
    · cases hxs : xs.toList <;> simp_all [RL]
    · cases hys : ys.toList <;> simp_all [RL]
  | .fn f (_ :: _) _, x, obs, ρ0, c, v', obs', hv, _, _, _ => by simp [viewV] at hv
  | .fn f [] (_ :: _), x, obs, ρ0, c, v', obs', hv, _, _, _ => by simp [viewV] at hv
  | .agg cs, x, obs, ρ0, c, v', obs', hv, hc, hx, ho => by
    simp only [viewV] at hv
    split at hv
    · rename_i c' cs' obs1 hl
      simp only [Option.some.injEq, Prod.mk.injEq] at hv
      obtain ⟨rfl, rfl, rfl⟩ := hv
      simp only [R] at hx
      obtain ⟨xs, h0, h1⟩ := hx
      obtain ⟨ρ', a1, a2, a3, a4⟩ := viewL_ok hr cs xs.toList obs ρ0 c' cs' obs1 hl hc h1 ho
      refine ⟨ρ', a1, a2, a3, ?_⟩
      simp only [R]
      exact ⟨xs, h0, a4⟩
    · cases hv
  | .top, x, obs, ρ0, c, v', obs', hv, _, _, _ => by simp [viewV] at hv
  | .ptr id e z f, x, obs, ρ0, c, v', obs', hv, hc, hx, ho => by
    simp only [R] at hx
    have hob := hr.obj id hx.1
    have fin : ∀ (cs : List V), HR ρ n B w (ρ id) (.rv cs) → e * z + f = 0 → v' = .ptr obs.length 0 0 0 → obs' = obs ++ [.rv cs] → ∃ ρ', Agree ρ0 ρ' obs.length ∧ obs.length ≤ obs'.length ∧ Ros w ρ' obs' ∧ R ρ' obs'.length v' x := by
      intro cs hrv h0 e1 e2
      subst e1 e2
      refine ⟨upd ρ0 obs.length (ρ id), agree_upd _ _ _, by simp, ho.pushO (.inr ⟨cs, rfl⟩) (rv_any hrv), ?_⟩
      simp only [R, upd_same, List.length_append, List.length_cons, List.length_nil]
      refine ⟨by omega, ?_⟩
      rw [hx.2, h0]
    simp only [viewV] at hv
    split at hv
    · rename_i hz
      have h0 := Nat.eq_of_beq_eq_true hz
      split at hv
      · rename_i t cs he
        split at hv
        · rename_i hl
          simp only [Option.some.injEq, Prod.mk.injEq] at hv
          rw [he] at hob
          obtain ⟨_, b2, c', b3, b4⟩ := hob
          exact fin cs ⟨b2, c', t, b3, RL.less cs _ b4 hl⟩ h0 hv.2.1.symm hv.2.2.symm
        · cases hv
      · rename_i cs he
        simp only [Option.some.injEq, Prod.mk.injEq] at hv
        rw [he] at hob
        exact fin cs hob h0 hv.2.1.symm hv.2.2.symm
      · cases hv
    · cases hv
  | .ifc _ _, x, obs, ρ0, c, v', obs', hv, _, _, _ => by simp [viewV] at hv
  | .tup _, x, obs, ρ0, c, v', obs', hv, _, _, _ => by simp [viewV] at hv
theorem viewL_ok (hr : Rel B ρ n h w) : ∀ (vs : List V) (xs : List Value) (obs : List Ob) (ρ0 : Nat → Bnd) (c : Prop) (vs' : List V) (obs' : List Ob), viewL h obs vs = some (c, vs', obs') → c → RL ρ n vs xs → Ros w ρ0 obs →
    ∃ ρ', Agree ρ0 ρ' obs.length ∧ obs.length ≤ obs'.length ∧ Ros w ρ' obs' ∧ RL ρ' obs'.length vs' xs
  | [], [], obs, ρ0, c, vs', obs', hv, hc, hx, ho => by
    simp only [viewL, Option.some.injEq, Prod.mk.injEq] at hv
    obtain ⟨_, rfl, rfl⟩ := hv
    exact ⟨ρ0, fun _ _ => rfl, Nat.le_refl _, ho, by simp [RL]⟩
  | v :: vs, x :: xs, obs, ρ0, c, vs', obs', hv, hc, hx, ho => by
    simp only [viewL] at hv
    split at hv
    · rename_i c1 v1 obs1 h1
      split at hv
      · rename_i d vs1 obs2 h2
        simp only [Option.some.injEq, Prod.mk.injEq] at hv
        obtain ⟨rfl, rfl, rfl⟩ := hv
        simp only [RL] at hx
        obtain ⟨ρ1, a1, a2, a3, a4⟩ := viewV_ok hr v x obs ρ0 c1 v1 obs1 h1 hc.1 hx.1 ho
        obtain ⟨ρ2, b1, b2, b3, b4⟩ := viewL_ok hr vs xs obs1 ρ1 d vs1 obs2 h2 hc.2 hx.2 a3
        refine ⟨ρ2, fun i hi => (b1 i (Nat.lt_of_lt_of_le hi a2)).trans (a1 i hi), Nat.le_trans a2 b2, b3, ?_⟩
        simp only [RL]
        exact ⟨R.mono b2 b1 _ _ a4, b4⟩
      · cases hv
    · cases hv
  | [], _ :: _, _, _, _, _, _, _, _, hx, _ => by simp [RL] at hx
  | _ :: _, [], _, _, _, _, _, _, _, hx, _ => by simp [RL] at hx
end
end
/-! ### What a callee hands back -/
def memN (i : Nat) : List (Nat × Ob) → Bool
  | [] => false
  | (j, _) :: l => Nat.beq j i || memN i l
mutual
def expV (h : Nat → Ob) (acc : List (Nat × Ob)) : V → Option (V × List (Nat × Ob))
  | .int k n => some (.int k n, acc)
  | .bool b => some (.bool b, acc)
  | .nilp => some (.nilp, acc)
  | .nsl => some (.nsl, acc)
  | .nfn => some (.nfn, acc)
  | .nifc => some (.nifc, acc)
  | .fn f [] [] => some (.fn f [] [], acc)
  | .osl id => match h id with
    | .own t E l => match memN id acc with
      | false => some (.osl acc.length, acc ++ [(id, .own t E l)])
      | true => none
    | _ => none
  | .agg cs => match expL h acc cs with
    | some (cs', acc') => some (.agg cs', acc')
    | none => none
  | .tup cs => match expL h acc cs with
    | some (cs', acc') => some (.tup cs', acc')
    | none => none
  | _ => none
def expL (h : Nat → Ob) (acc : List (Nat × Ob)) : List V → Option (List V × List (Nat × Ob))
  | [] => some ([], acc)
  | v :: vs => match expV h acc v with
    | some (v', acc') => match expL h acc' vs with
      | some (vs', acc'') => some (v' :: vs', acc'')
      | none => none
    | none => none
end
/-- The objects that are handed back. -/
structure ExpOk (n : Nat) (h : Nat → Ob) (acc : List (Nat × Ob)) : Prop where
  mem : ∀ p, p ∈ acc → p.1 < n ∧ h p.1 = p.2 ∧ ∃ t E l, p.2 = .own t E l
  nodup : (acc.map (·.1)).Nodup
def reix (ρ : Nat → Bnd) (acc : List (Nat × Ob)) : Nat → Bnd := fun i => ρ ((acc.map (·.1)).getD i 0)
theorem memN_iff (i : Nat) : ∀ acc, memN i acc = true ↔ i ∈ acc.map (·.1)
  | [] => by simp [memN]
  | (j, o) :: l => by
    simp only [memN, Bool.or_eq_true, List.map_cons, List.mem_cons, memN_iff i l]
    constructor
    · rintro (h | h)
      · exact .inl (Nat.eq_of_beq_eq_true h).symm
      · exact .inr h
    · rintro (h | h)
      · exact .inl (by subst h; simp)
      · exact .inr h
theorem reix_append (ρ : Nat → Bnd) (acc : List (Nat × Ob)) (p : Nat × Ob) : Agree (reix ρ acc) (reix ρ (acc ++ [p])) acc.length := by
  intro i hi
  simp only [reix, List.map_append]
  congr 1
  simp only [List.getD_eq_getElem?_getD]
  rw [List.getElem?_append_left (by simpa using hi)]
theorem reix_last (ρ : Nat → Bnd) (acc : List (Nat × Ob)) (p : Nat × Ob) : reix ρ (acc ++ [p]) acc.length = ρ p.1 := by
  simp [reix]
mutual
theorem expV_ok {ρ : Nat → Bnd} {n : Nat} {h : Nat → Ob} : ∀ (v : V) (x : Value) (acc : List (Nat × Ob)) (v' : V) (acc' : List (Nat × Ob)), expV h acc v = some (v', acc') → R ρ n v x → ExpOk n h acc →
    ExpOk n h acc' ∧ acc.length ≤ acc'.length ∧ Agree (reix ρ acc) (reix ρ acc') acc.length ∧ R (reix ρ acc') acc'.length v' x
  | .int k m, x, acc, v', acc', hv, hx, ho => by
    simp only [expV, Option.some.injEq, Prod.mk.injEq] at hv
    obtain ⟨rfl, rfl⟩ := hv
    exact ⟨ho, Nat.le_refl _, fun _ _ => rfl, by simpa [R] using hx⟩
  | .bool b, x, acc, v', acc', hv, hx, ho => by
    simp only [expV, Option.some.injEq, Prod.mk.injEq] at hv
    obtain ⟨rfl, rfl⟩ := hv
    exact ⟨ho, Nat.le_refl _, fun _ _ => rfl, by simpa [R] using hx⟩
  | .nilp, x, acc, v', acc', hv, hx, ho => by
    simp only [expV, Option.some.injEq, Prod.mk.injEq] at hv
    obtain ⟨rfl, rfl⟩ := hv
    exact ⟨ho, Nat.le_refl _, fun _ _ => rfl, by simpa [R] using hx⟩
  | .nsl, x, acc, v', acc', hv, hx, ho => by
    simp only [expV, Option.some.injEq, Prod.mk.injEq] at hv
    obtain ⟨rfl, rfl⟩ := hv
    exact ⟨ho, Nat.le_refl _, fun _ _ => rfl, by simpa [R] using hx⟩
  | .nfn, x, acc, v', acc', hv, hx, ho => by
    simp only [expV, Option.some.injEq, Prod.mk.injEq] at hv
    obtain ⟨rfl, rfl⟩ := hv
    exact ⟨ho, Nat.le_refl _, fun _ _ => rfl, by simpa [R] using hx⟩
  | .nifc, x, acc, v', acc', hv, hx, ho => by
    simp only [expV, Option.some.injEq, Prod.mk.injEq] at hv
    obtain ⟨rfl, rfl⟩ := hv
    exact ⟨ho, Nat.le_refl _, fun _ _ => rfl, by simpa [R] using hx⟩
  | .fn f [] [], x, acc, v', acc', hv, hx, ho => by
    simp only [expV, Option.some.injEq, Prod.mk.injEq] at hv
    obtain ⟨rfl, rfl⟩ := hv
    refine ⟨ho, Nat.le_refl _, fun _ _ => rfl, ?_⟩
    simp only [R] at hx ⊢
    obtain ⟨xs, ys, h0, h1, h2⟩ := hx
    refine ⟨xs, ys, h0, ?_, ?_⟩
    · cases hxs : xs.toList <;> simp_all [RL]
    · cases hys : ys.toList <;> simp_all [RL]
  | .fn f (_ :: _) _, x, acc, v', acc', hv, _, _ => by simp [expV] at hv
  | .fn f [] (_ :: _), x, acc, v', acc', hv, _, _ => by simp [expV] at hv
  | .osl id, x, acc, v', acc', hv, hx, ho => by
    simp only [expV] at hv
    split at hv
    · rename_i t E l he
      split at hv
      · rename_i hm
        simp only [Option.some.injEq, Prod.mk.injEq] at hv
        obtain ⟨rfl, rfl⟩ := hv
        simp only [R] at hx
        have hni : id ∉ acc.map (·.1) := by
          intro hmem
          rw [(memN_iff id acc).2 hmem] at hm
          cases hm
        refine ⟨⟨fun p hp => ?_, ?_⟩, by simp, reix_append ρ acc _, ?_⟩
        · rcases List.mem_append.1 hp with hp | hp
          · exact ho.mem p hp
          · simp only [List.mem_singleton] at hp
            subst hp
            exact ⟨hx.1, he, t, E, l, rfl⟩
        · rw [List.map_append, List.nodup_append]
          refine ⟨ho.nodup, by simp, ?_⟩
          intro a ha b hb
          simp at hb
          subst hb
          intro e
          subst e
          exact hni ha
        · simp only [R, reix_last, List.length_append, List.length_cons, List.length_nil]
          exact ⟨by omega, hx.2⟩
      · cases hv
    · cases hv
  | .agg cs, x, acc, v', acc', hv, hx, ho => by
    simp only [expV] at hv
    split at hv
    · rename_i cs' acc1 hl
      simp only [Option.some.injEq, Prod.mk.injEq] at hv
      obtain ⟨rfl, rfl⟩ := hv
      simp only [R] at hx
      obtain ⟨xs, h0, h1⟩ := hx
      obtain ⟨a1, a2, a3, a4⟩ := expL_ok cs xs.toList acc cs' acc1 hl h1 ho
      refine ⟨a1, a2, a3, ?_⟩
      simp only [R]
      exact ⟨xs, h0, a4⟩
    · cases hv
  | .tup cs, x, acc, v', acc', hv, hx, ho => by
    simp only [expV] at hv
    split at hv
    · rename_i cs' acc1 hl
      simp only [Option.some.injEq, Prod.mk.injEq] at hv
      obtain ⟨rfl, rfl⟩ := hv
      simp only [R] at hx
      obtain ⟨xs, h0, h1⟩ := hx
      obtain ⟨a1, a2, a3, a4⟩ := expL_ok cs xs.toList acc cs' acc1 hl h1 ho
      refine ⟨a1, a2, a3, ?_⟩
      simp only [R]
      exact ⟨xs, h0, a4⟩
    · cases hv
  | .top, x, acc, v', acc', hv, _, _ => by simp [expV] at hv
  | .ptr _ _ _ _, x, acc, v', acc', hv, _, _ => by simp [expV] at hv
  | .sl _ _ _ _, x, acc, v', acc', hv, _, _ => by simp [expV] at hv
  | .ifc _ _, x, acc, v', acc', hv, _, _ => by simp [expV] at hv
theorem expL_ok {ρ : Nat → Bnd} {n : Nat} {h : Nat → Ob} : ∀ (vs : List V) (xs : List Value) (acc : List (Nat × Ob)) (vs' : List V) (acc' : List (Nat × Ob)), expL h acc vs = some (vs', acc') → RL ρ n vs xs → ExpOk n h acc →
    ExpOk n h acc' ∧ acc.length ≤ acc'.length ∧ Agree (reix ρ acc) (reix ρ acc') acc.length ∧ RL (reix ρ acc') acc'.length vs' xs
  | [], [], acc, vs', acc', hv, hx, ho => by
    simp only [expL, Option.some.injEq, Prod.mk.injEq] at hv
    obtain ⟨rfl, rfl⟩ := hv
    exact ⟨ho, Nat.le_refl _, fun _ _ => rfl, by simp [RL]⟩
  | v :: vs, x :: xs, acc, vs', acc', hv, hx, ho => by
    simp only [expL] at hv
    split at hv
    · rename_i v1 acc1 h1
      split at hv
      · rename_i vs1 acc2 h2
        simp only [Option.some.injEq, Prod.mk.injEq] at hv
        obtain ⟨rfl, rfl⟩ := hv
        simp only [RL] at hx
        obtain ⟨a1, a2, a3, a4⟩ := expV_ok v x acc v1 acc1 h1 hx.1 ho
        obtain ⟨b1, b2, b3, b4⟩ := expL_ok vs xs acc1 vs1 acc2 h2 hx.2 a1
        refine ⟨b1, Nat.le_trans a2 b2, fun i hi => (b3 i (Nat.lt_of_lt_of_le hi a2)).trans (a3 i hi), ?_⟩
        simp only [RL]
        exact ⟨R.mono b2 b3 _ _ a4, b4⟩
      · cases hv
    · cases hv
  | [], _ :: _, _, _, _, _, hx, _ => by simp [RL] at hx
  | _ :: _, [], _, _, _, _, hx, _ => by simp [RL] at hx
end
theorem lookO_get : ∀ (obs : List Ob) (i : Nat), lookO obs i = (obs[i]?).getD .no
  | [], i => by simp [lookO]
  | o :: l, 0 => rfl
  | o :: l, i + 1 => by simpa [lookO] using lookO_get l i
theorem exp_rel {B n : Nat} {ρ : Nat → Bnd} {h : Nat → Ob} {w : World} {acc : List (Nat × Ob)} (hr : Rel B ρ n h w) (ho : ExpOk n h acc) : Rel B (reix ρ acc) acc.length (lookO (acc.map (·.2))) w := by
  have at_ : ∀ i, i < acc.length → ∃ p, p ∈ acc ∧ acc[i]? = some p ∧ reix ρ acc i = ρ p.1 ∧ lookO (acc.map (·.2)) i = p.2 := by
    intro i hi
    refine ⟨acc[i], List.getElem_mem hi, List.getElem?_eq_getElem hi, ?_, ?_⟩
    · simp [reix, List.getD_eq_getElem?_getD, hi]
    · simp [lookO_get, hi]
  refine ⟨hr.base, fun i hi => ?_, fun i j hi hj hij g hg hgj => ?_⟩
  · obtain ⟨p, hp, _, e1, e2⟩ := at_ i hi
    obtain ⟨h1, h2, t, E, l, h3⟩ := ho.mem p hp
    have := hr.obj p.1 h1
    rw [e1, e2, h3]
    rw [h2, h3] at this
    exact this
  · obtain ⟨p, hp, hpi, e1, e2⟩ := at_ i hi
    obtain ⟨q, hq, hqj, e3, e4⟩ := at_ j hj
    obtain ⟨h1, h2, _⟩ := ho.mem p hp
    obtain ⟨h3, h4, _⟩ := ho.mem q hq
    rw [e1, e2, ← h2] at hg
    rw [e3, e4, ← h4] at hgj
    refine hr.sep p.1 q.1 h1 h3 ?_ g hg hgj
    intro e
    have hnd := ho.nodup
    have hpi' := (List.getElem?_eq_some_iff.1 hpi).2
    have hqj' := (List.getElem?_eq_some_iff.1 hqj).2
    unfold List.Nodup at hnd
    rw [List.pairwise_iff_getElem] at hnd
    rcases Nat.lt_or_gt_of_ne hij with hlt | hlt
    · exact hnd i j (by simpa using hi) (by simpa using hj) hlt (by simp [hpi', hqj', e])
    · exact hnd j i (by simpa using hj) (by simpa using hi) hlt (by simp [hpi', hqj', e])
/-! ### Contracts of such functions -/
mutual
theorem shV_R {ρ ρ3 : Nat → Bnd} {n m : Nat} (hρ : ∀ i, i < m → ρ3 (n + i) = ρ i) : ∀ (v : V) (x : Value), R ρ m v x → R ρ3 (n + m) (shV n v) x
  | .osl id, x, h => by
    simp only [R, shV] at h ⊢
    rw [hρ id h.1]
    exact ⟨by omega, h.2⟩
  | .ptr id _ _ _, x, h => by
    simp only [R, shV] at h ⊢
    rw [hρ id h.1]
    exact ⟨by omega, h.2⟩
  | .sl id _ _ _, x, h => by
    simp only [R, shV] at h ⊢
    rw [hρ id h.1]
    exact ⟨by omega, h.2⟩
  | .agg cs, x, h => by
    simp only [R, shV] at h ⊢
    obtain ⟨xs, h0, h1⟩ := h
    exact ⟨xs, h0, shL_R hρ cs _ h1⟩
  | .tup cs, x, h => by
    simp only [R, shV] at h ⊢
    obtain ⟨xs, h0, h1⟩ := h
    exact ⟨xs, h0, shL_R hρ cs _ h1⟩
  | .fn _ a b, x, h => by
    simp only [R, shV] at h ⊢
    obtain ⟨xs, ys, h0, h1, h2⟩ := h
    exact ⟨xs, ys, h0, shL_R hρ a _ h1, shL_R hρ b _ h2⟩
  | .ifc _ v, x, h => by
    simp only [R, shV] at h ⊢
    obtain ⟨y, h0, h1⟩ := h
    exact ⟨y, h0, shV_R hρ v y h1⟩
  | .top, _, _ => by simp [R, shV]
  | .int _ _, _, h => by simpa [R, shV] using h
  | .bool _, _, h => by simpa [R, shV] using h
  | .nilp, _, h => by simpa [R, shV] using h
  | .nsl, _, h => by simpa [R, shV] using h
  | .nfn, _, h => by simpa [R, shV] using h
  | .nifc, _, h => by simpa [R, shV] using h
  | .nmp, _, h => by simpa [R, shV] using h
  | .mp i, _, h => by
    simp only [R, shV] at h ⊢
    rw [hρ i h.1]
    exact ⟨by omega, h.2⟩
theorem shL_R {ρ ρ3 : Nat → Bnd} {n m : Nat} (hρ : ∀ i, i < m → ρ3 (n + i) = ρ i) : ∀ (vs : List V) (xs : List Value), RL ρ m vs xs → RL ρ3 (n + m) (shL n vs) xs
  | [], [], _ => by simp [RL, shL]
  | v :: vs, x :: xs, h => by
    simp only [RL, shL] at h ⊢
    exact ⟨shV_R hρ v x h.1, shL_R hρ vs xs h.2⟩
  | [], _ :: _, h => by simp [RL] at h
  | _ :: _, [], h => by simp [RL] at h
end
/-- What a run in a state of its own has to end in. -/
def closeK (K' : Out → List Ob → Prop) : Out → (Nat → Ob) → Nat → Prop := fun out h _ => match out with
  | .ret v => match expV h [] v with
    | some (v', acc) => K' (.ret v') (acc.map (·.2))
    | none => False
  | .pan v => V.lt 0 v = true ∧ K' (.pan v) []
def FreshOk (P : Program) (f : Nat) (F : FSpec) : Prop := ∀ (args : List V) (obs : List Ob) (K' : Out → List Ob → Prop), F args obs K' → ∀ (w : World) (ρ : Nat → Bnd) (xs : List Value), Ros w ρ obs → RL ρ obs.length args xs →
  Reach P f xs.toArray w fun e w' => ∃ out news ρ', K' out news ∧ OutR ρ' news.length out e ∧ Rel w.heap.size ρ' news.length (lookO news) w' ∧ (∀ i, i < news.length → ∃ t E l, lookO news i = .own t E l) ∧
    (∀ v, out = .pan v → V.lt 0 v = true) ∧ Below w.heap.size w w'
theorem Reach.mono {P : Program} {f : Nat} {xs : Array Value} {w : World} {Q Q' : Ending → World → Prop} (h : Reach P f xs w Q) (hq : ∀ e w', Q e w' → Q' e w') : Reach P f xs w Q' := by
  rcases h with ⟨h1, h2⟩ | ⟨v, w', h1, h2⟩
  · exact .inl ⟨h1, h2.mono hq⟩
  · exact .inr ⟨v, w', h1, hq _ _ h2⟩
/-- A function that is run in a state of its own. -/
theorem fresh_of_run {P : Program} {T : Tab} {DT : DTab} (hT : TabOk P T) (hD : TabOk P (tabD DT)) {f : Nat} {fn : Func} {afn : AFn} {F : FSpec} (Iv : List V → List Ob → Inv) (hf : P.funcs[f]? = some fn) (hc : chkFn P fn afn = true)
    (hF : ∀ args obs K', F args obs K' → runFn T DT (Iv args obs) afn args (lookO obs) obs.length (closeK K')) : FreshOk P f F := by
  intro args obs K' hFa w ρ xs hro hargs
  refine (fn_entry hT hD (Iv args obs) hf hc w.heap.size ρ obs.length (lookO obs) w args xs (closeK K') hro.rel hargs (hF args obs K' hFa)).mono ?_
  rintro e w' ⟨out, ρ', n', h', hk, ho, hr, hx⟩
  cases out with
  | ret v =>
    cases e with
    | returned x =>
      simp only [closeK] at hk
      split at hk
      · rename_i v' acc hv
        obtain ⟨h1, _, _, h4⟩ := expV_ok (ρ := ρ') (n := n') (h := h') v x [] v' acc hv ho ⟨fun p hp => by simp at hp, by simp⟩
        refine ⟨.ret v', acc.map (·.2), reix ρ' acc, hk, ?_, ?_, ?_, (fun v e => by cases e), hx.2.2⟩
        · simpa [OutR] using h4
        · simpa using exp_rel hr h1
        · intro i hi
          have hi' : i < acc.length := by simpa using hi
          obtain ⟨_, _, t, E, l, h3⟩ := h1.mem acc[i] (List.getElem_mem hi')
          exact ⟨t, E, l, by simp [lookO_get, hi', h3]⟩
      · exact hk.elim
    | panicked _ => exact ho.elim
    | outgrown => exact ho.elim
  | pan v =>
    cases e with
    | returned x => exact ho.elim
    | panicked chain =>
      obtain ⟨hl, hk⟩ := hk
      obtain ⟨x, rfl, hx'⟩ := ho
      refine ⟨.pan v, [], ρ', hk, ⟨x, rfl, R.less v x hx' hl⟩, ⟨?_, fun i hi => by simp at hi, fun i j hi => by simp at hi⟩, fun i hi => by simp at hi, (fun u e => by cases e; exact hl), hx.2.2⟩
      have := hr.base
      omega
    | outgrown => exact ho.elim
theorem entry_of_fresh {P : Program} {f : Nat} {F : FSpec} (hF : FreshOk P f F) : EntryOk P f (liftA F) := by
  intro B ρ n h w args xs K hr hargs hs
  unfold liftA at hs
  split at hs
  · rename_i c args' obs hv
    obtain ⟨hc, hFa⟩ := hs
    obtain ⟨ρ1, _, _, hro, ha⟩ := viewL_ok hr args xs [] (fun _ => default) c args' obs hv hc hargs (fun i hi => by simp at hi)
    refine (hF args' obs _ hFa w ρ1 xs hro ha).mono ?_
    rintro e w' ⟨out, news, ρ', hk, ho, hr', hown, hpan, hb⟩
    have hbB : Below B w w' := hb.mono hr.base
    cases out with
    | pan v =>
      cases e with
      | panicked chain =>
        obtain ⟨x, rfl, hx⟩ := ho
        refine ⟨.pan v, ρ, n, h, hk, ⟨x, rfl, ?_⟩, ?_, ⟨fun _ _ => rfl, Nat.le_refl _, hbB⟩⟩
        · have h0 := R.less (n' := 0) v x hx (hpan v rfl)
          exact R.mono (ρ := ρ') (ρ' := ρ) (Nat.zero_le n) (fun i hi => by omega) v x h0
        · exact ⟨Nat.le_trans hr.base hb.size, fun i hi => (hr.obj i hi).keep (Nat.le_refl _) (fun _ _ => rfl) fun g hg => hb.block g ((hr.obj i hi).lt g hg), hr.sep⟩
      | returned _ => exact ho.elim
      | outgrown => exact ho.elim
    | ret v =>
      cases e with
      | returned x =>
        let ρ3 : Nat → Bnd := fun i => if i < n then ρ i else ρ' (i - n)
        have hag : Agree ρ ρ3 n := fun i hi => if_pos hi
        have hnew : ∀ i, ρ3 (n + i) = ρ' i := fun i => by
          show (if n + i < n then ρ (n + i) else ρ' (n + i - n)) = ρ' i
          rw [if_neg (by omega)]
          congr 1
          omega
        have hold : ∀ i, i < n → ∀ g, ablk (ρ3 i) (addObs h n news i) = some g → g < w.heap.size := by
          intro i hi g hg
          rw [hag i hi, addObs_old news h n i hi] at hg
          exact (hr.obj i hi).lt g hg
        have hnw : ∀ i, i < news.length → ∀ g, ablk (ρ3 (n + i)) (addObs h n news (n + i)) = some g → w.heap.size ≤ g := by
          intro i hi g hg
          rw [hnew, addObs_new news h n i hi] at hg
          obtain ⟨t, E, l, he⟩ := hown i hi
          have hob := hr'.obj i hi
          rw [he] at hg hob
          exact (hob.2.1.lt g hg).1
        refine ⟨.ret (shV n v), ρ3, n + news.length, addObs h n news, hk, shV_R (fun i _ => hnew i) v x ho, ⟨Nat.le_trans hr.base hb.size, fun i hi => ?_, fun i j hi hj hij g hg hgj => ?_⟩, ⟨hag, Nat.le_add_right _ _, hbB⟩⟩
        · by_cases hin : i < n
          · rw [hag i hin, addObs_old news h n i hin]
            exact (hr.obj i hin).keep (Nat.le_add_right _ _) hag fun g hg => hb.block g ((hr.obj i hin).lt g hg)
          · obtain ⟨k, rfl⟩ : ∃ k, i = n + k := ⟨i - n, by omega⟩
            have hk' : k < news.length := by omega
            rw [hnew, addObs_new news h n k hk']
            obtain ⟨t, E, l, he⟩ := hown k hk'
            have hob := hr'.obj k hk'
            rw [he] at hob ⊢
            obtain ⟨h1, h2, h3, h4⟩ := hob
            refine ⟨h1, ⟨h2.1, ?_⟩, h3, h4⟩
            rcases h2.2 with h0 | ⟨g, cap, cur, a1, a2, rest⟩
            · exact .inl h0
            · exact .inr ⟨g, cap, cur, a1, Nat.le_trans hr.base a2, rest⟩
        · by_cases hin : i < n
          · by_cases hjn : j < n
            · rw [hag i hin, addObs_old news h n i hin] at hg
              rw [hag j hjn, addObs_old news h n j hjn] at hgj
              exact hr.sep i j hin hjn hij g hg hgj
            · obtain ⟨k, rfl⟩ : ∃ k, j = n + k := ⟨j - n, by omega⟩
              have := hold i hin g (wblk_ablk hg)
              have := hnw k (by omega) g hgj
              omega
          · obtain ⟨k, rfl⟩ : ∃ k, i = n + k := ⟨i - n, by omega⟩
            by_cases hjn : j < n
            · have := hold j hjn g hgj
              have := hnw k (by omega) g (wblk_ablk hg)
              omega
            · obtain ⟨k', rfl⟩ : ∃ k, j = n + k := ⟨j - n, by omega⟩
              rw [hnew, addObs_new news h n k (by omega)] at hg
              rw [hnew, addObs_new news h n k' (by omega)] at hgj
              exact hr'.sep k k' (by omega) (by omega) (by omega) g hg hgj
      | panicked _ => exact ho.elim
      | outgrown => exact ho.elim
  · exact hs.elim
end Go.Proofs.YtbolfnkgbjkbjaaGreat.AM
