/- The abstract machine, part 9g: regions that draw their order: every order. -/
import Derived.Test.YtbolfnkgbjkbjaaGreatAm9f
set_option linter.unusedVariables false
set_option linter.unusedSimpArgs false
namespace Go.Proofs.YtbolfnkgbjkbjaaGreat.AM
open Go Go.RowKit

def edges (o : Oper) : List Nat := (o.after.toList.filter (Region.binds .any)).map (·.on)
def apartB (x y : AOper) : Bool := (match x.d with
  | some d => !memB d (looks y) && decide (y.d ≠ some d)
  | none => true) && (match y.d with
  | some d => !memB d (looks x)
  | none => true)
def predsAt (l : List (AOper × List Nat)) (e : Nat) : List Nat := match l[e]? with
  | some (_, q) => q
  | none => []
def chkDrw1 (P : Program) (N : Nat) (ops : Array Oper) (l : List (AOper × List Nat)) (j : Nat) : Bool := match ops[j]?, l[j]? with
  | some o, some (ao, p) => chkOper P ops.toList N o ao && (edges o).all (fun e => Nat.blt e j) && p.all (fun i => (edges o).any fun e => Nat.beq i e || memB i (predsAt l e)) &&
    (List.range j).all fun i => match l[i]? with
      | some (ao', _) => memB i p || apartB ao' ao
      | none => false
  | _, _ => false
def chkDrw (P : Program) (N : Nat) (ops : Array Oper) (l : List (AOper × List Nat)) : Bool :=
  P.follows .mixedOrders && Nat.beq l.length ops.size && (List.range ops.size).all (chkDrw1 P N ops l)
theorem apartB_spec {x y : AOper} (h : apartB x y = true) : (∀ d, x.d = some d → d ∉ looks y ∧ y.d ≠ some d) ∧ (∀ d, y.d = some d → d ∉ looks x) := by
  unfold apartB at h
  simp only [Bool.and_eq_true] at h
  refine ⟨fun d hd => ?_, fun d hd => ?_⟩
  · have := h.1
    rw [hd] at this
    simp only [Bool.and_eq_true, Bool.not_eq_true', decide_eq_true_eq] at this
    refine ⟨fun hm => ?_, this.2⟩
    rw [(memB_iff _ _).2 hm] at this
    exact absurd this.1 (by simp)
  · have := h.2
    rw [hd] at this
    simp only [Bool.not_eq_true'] at this
    intro hm
    rw [(memB_iff _ _).2 hm] at this
    exact absurd this (by simp)
structure DrwOk (P : Program) (N : Nat) (ops : Array Oper) (L : List (AOper × List Nat)) : Prop where
  mo : P.follows .mixedOrders = true
  len : L.length = ops.size
  op : ∀ (j : Nat) (o : Oper) (ao : AOper) (p : List Nat), ops[j]? = some o → L[j]? = some (ao, p) → chkOper P ops.toList N o ao = true
  edge : ∀ (j : Nat) (o : Oper), ops[j]? = some o → ∀ e ∈ o.after, Region.binds .any e = true → e.on < j
  pre : ∀ (j : Nat) (o : Oper) (ao : AOper) (p : List Nat), ops[j]? = some o → L[j]? = some (ao, p) → ∀ i ∈ p, ∃ e ∈ o.after, Region.binds .any e = true ∧ (i = e.on ∨ ∃ (ao' : AOper) (q : List Nat), L[e.on]? = some (ao', q) ∧ i ∈ q)
  pair : ∀ (i j : Nat) (ao : AOper) (p : List Nat) (ao' : AOper) (q : List Nat), i < j → L[j]? = some (ao, p) → L[i]? = some (ao', q) → i ∈ p ∨ apartB ao' ao = true
theorem chkDrw_ok {P : Program} {N : Nat} {ops : Array Oper} {L : List (AOper × List Nat)} (h : chkDrw P N ops L = true) : DrwOk P N ops L := by
  unfold chkDrw at h
  simp only [Bool.and_eq_true, Nat.beq_eq, List.all_eq_true, List.mem_range] at h
  obtain ⟨⟨hm, hl⟩, hall⟩ := h
  have at_ : ∀ (j : Nat) (o : Oper) (ao : AOper) (p : List Nat), ops[j]? = some o → L[j]? = some (ao, p) → chkOper P ops.toList N o ao = true ∧ (∀ e ∈ edges o, e < j) ∧ (∀ i ∈ p, ∃ e ∈ edges o, i = e ∨ i ∈ predsAt L e) ∧
      ∀ i, i < j → ∀ (ao' : AOper) (q : List Nat), L[i]? = some (ao', q) → i ∈ p ∨ apartB ao' ao = true := by
    intro j o ao p ho hL
    have hj : j < ops.size := (Array.getElem?_eq_some_iff.1 ho).1
    have := hall j hj
    unfold chkDrw1 at this
    rw [ho, hL] at this
    simp only [Bool.and_eq_true, List.all_eq_true, List.any_eq_true, Bool.or_eq_true, List.mem_range, Nat.blt_eq, Nat.beq_eq, memB_iff] at this
    obtain ⟨⟨⟨h1, h2⟩, h3⟩, h4⟩ := this
    refine ⟨h1, h2, h3, fun i hi ao' q hq => ?_⟩
    have := h4 i hi
    rw [hq] at this
    simpa [memB_iff] using this
  have has : ∀ (j : Nat) (o : Oper), ops[j]? = some o → ∃ (ao : AOper) (p : List Nat), L[j]? = some (ao, p) := by
    intro j o ho
    have hj : j < ops.size := (Array.getElem?_eq_some_iff.1 ho).1
    exact ⟨_, _, List.getElem?_eq_getElem (by omega)⟩
  have mem : ∀ (o : Oper) (e : Nat), e ∈ edges o ↔ ∃ x ∈ o.after, Region.binds .any x = true ∧ x.on = e := by
    intro o e
    simp only [edges, List.mem_map, List.mem_filter, Array.mem_toList_iff]
    constructor
    · rintro ⟨x, ⟨h1, h2⟩, h3⟩; exact ⟨x, h1, h2, h3⟩
    · rintro ⟨x, h1, h2, h3⟩; exact ⟨x, ⟨h1, h2⟩, h3⟩
  refine ⟨hm, hl, fun j o ao p ho hL => (at_ j o ao p ho hL).1, fun j o ho e he hb => ?_, fun j o ao p ho hL i hi => ?_, fun i j ao p ao' q hij hL hq => ?_⟩
  · obtain ⟨ao, p, hL⟩ := has j o ho
    exact (at_ j o ao p ho hL).2.1 e.on ((mem o e.on).2 ⟨e, he, hb, rfl⟩)
  · obtain ⟨e, he, hor⟩ := (at_ j o ao p ho hL).2.2.1 i hi
    obtain ⟨x, h1, h2, rfl⟩ := (mem o e).1 he
    refine ⟨x, h1, h2, ?_⟩
    rcases hor with h | h
    · exact .inl h
    · right
      unfold predsAt at h
      split at h
      · rename_i ao' q hq
        exact ⟨ao', q, hq, h⟩
      · simp at h
  · have hj : j < L.length := (List.getElem?_eq_some_iff.1 hL).1
    have ho : ops[j]? = some ops[j] := Array.getElem?_eq_getElem (by omega)
    exact (at_ j _ ao p ho hL).2.2.2 i hij ao' q hq

/-! ### The set of those that are done -/
def cnt (E : Nat → Bool) : Nat → Nat
  | 0 => 0
  | n + 1 => cnt E n + (match E n with | true => 1 | false => 0)
theorem cnt_le (E : Nat → Bool) : ∀ n, cnt E n ≤ n
  | 0 => Nat.le_refl _
  | n + 1 => by
    have := cnt_le E n
    simp only [cnt]
    split <;> omega
theorem cnt_full {E : Nat → Bool} : ∀ n, cnt E n = n → ∀ x, x < n → E x = true
  | 0, _, x, hx => by omega
  | n + 1, h, x, hx => by
    simp only [cnt] at h
    have := cnt_le E n
    split at h
    · rename_i he
      by_cases e : x = n
      · subst e; exact he
      · exact cnt_full n (by omega) x (by omega)
    · omega
theorem cnt_upd {E : Nat → Bool} {j : Nat} (hj : E j = false) : ∀ n, cnt (upd E j true) n = cnt E n + (if j < n then 1 else 0)
  | 0 => by simp [cnt]
  | n + 1 => by
    simp only [cnt]
    rw [cnt_upd hj n]
    by_cases e : n = j
    · subst e
      rw [upd_same, hj]
      simp
    · rw [upd_ne _ _ _ e]
      by_cases h : j < n
      · rw [if_pos h, if_pos (by omega)]; omega
      · rw [if_neg h, if_neg (by omega), Nat.add_zero, Nat.add_zero]
def inE (E : Nat → Bool) (n0 n id : Nat) : Prop := id < n0 ∨ ∃ x, E x = true ∧ x < n ∧ n0 + 8 * x ≤ id ∧ id < n0 + 8 * x + 8
theorem okId_in {E : Nat → Bool} {n0 n id : Nat} {js : List Nat} (h : okId n0 js id = true) (hjs : ∀ x ∈ js, E x = true ∧ x < n) : inE E n0 n id := by
  unfold okId at h
  simp only [Bool.or_eq_true, Nat.blt_eq, List.any_eq_true, Bool.and_eq_true, Nat.ble_eq] at h
  rcases h with h | ⟨x, hx, h1, h2⟩
  · exact .inl h
  · exact .inr ⟨x, (hjs x hx).1, (hjs x hx).2, h1, h2⟩
theorem inE_out {E : Nat → Bool} {n0 n id j : Nat} (h : inE E n0 n id) (hj : E j = false) (hjn : j < n) : id < n0 + 8 * n ∧ ¬ (n0 + 8 * j ≤ id ∧ id < n0 + 8 * j + 8) := by
  rcases h with h | ⟨x, hx, h0, h1, h2⟩
  · omega
  · have : x ≠ j := by intro e; subst e; rw [hj] at hx; cases hx
    omega
section
variable {D : DTab} {n0 top : Nat} {L : List (AOper × List Nat)} {s0 : S} {A : Dat} {m : Nat}
theorem stE_ids (hx : Lex D n0 top L s0 A m) {E : Nat → Bool} (hEm : ∀ x, E x = true → x < m) (hcl : ∀ x o p, L[x]? = some (o, p) → E x = true → ∀ i ∈ p, E i = true)
    (h1 : ∀ t, ∀ id ∈ idsV (s0.sl t), id < n0) (h2 : ∀ i, ∀ id ∈ idsO (s0.hp i), id < n0) :
    ∀ k, (∀ t, ∀ id ∈ idsV ((stE top s0 A E k).sl t), inE E n0 L.length id) ∧ (∀ i, ∀ id ∈ idsO ((stE top s0 A E k).hp i), inE E n0 L.length id)
  | 0 => ⟨fun t id hid => .inl (h1 t id hid), fun i id hid => .inl (h2 i id hid)⟩
  | k + 1 => by
    obtain ⟨i1, i2⟩ := stE_ids hx hEm hcl h1 h2 k
    have hm := hx.le
    refine ⟨fun t id hid => ?_, fun i id hid => ?_⟩
    · rw [stE_sl] at hid
      split at hid
      · rename_i hk
        have hkm := hEm k hk.1
        obtain ⟨⟨o, p⟩, hL⟩ : ∃ q, L[k]? = some q := ⟨_, List.getElem?_eq_getElem (by omega)⟩
        obtain ⟨_, hok, _⟩ := hx.step k o p hkm hL
        unfold okIds at hok
        simp only [Bool.and_eq_true, List.all_eq_true] at hok
        refine okId_in (hok.1 id hid) fun x hxm => ?_
        rcases List.mem_cons.1 hxm with rfl | hxm
        · exact ⟨hk.1, by omega⟩
        · have := hcl k o p hL hk.1 x hxm
          exact ⟨this, by have := hEm x this; omega⟩
      · exact i1 t id hid
    · rw [stE_hp] at hid
      split at hid
      · rename_i hk
        have hkm := hEm k hk
        obtain ⟨⟨o, p⟩, hL⟩ : ∃ q, L[k]? = some q := ⟨_, List.getElem?_eq_getElem (by omega)⟩
        obtain ⟨_, hok, _⟩ := hx.step k o p hkm hL
        unfold okIds at hok
        simp only [Bool.and_eq_true, List.all_eq_true] at hok
        rcases applyE_mem (A.e k) (stE top s0 A E k).hp i with h | ⟨q, hq, _, h⟩
        · rw [h] at hid
          exact i2 i id hid
        · rw [h] at hid
          refine okId_in ((hok.2 q hq).2 id hid) fun x hxm => ?_
          have := hcl k o p hL hk x hxm
          exact ⟨this, by have := hEm x this; omega⟩
      · exact i2 i id hid
/-- What an operation looks at is the same in the text's order and where it has its turn. -/
theorem slots_same (hx : Lex D n0 top L s0 A m) {E : Nat → Bool} (hpair : ∀ (i j : Nat) (ao : AOper) (p : List Nat) (ao' : AOper) (q : List Nat), i < j → L[j]? = some (ao, p) → L[i]? = some (ao', q) → i ∈ p ∨ apartB ao' ao = true)
    (hcl : ∀ x o p, L[x]? = some (o, p) → E x = true → ∀ i ∈ p, E i = true) {j : Nat} {o : AOper} {p : List Nat} (hj : L[j]? = some (o, p)) (hjE : E j = false) (hp : ∀ i ∈ p, E i = true) (hjm : j ≤ m) :
    ∀ t ∈ looks o, (stE top s0 A (fun _ => true) j).sl t = (stE top s0 A E m).sl t := by
  intro t ht
  rw [← stE_lex (top := top) (s0 := s0) (A := A) m hjm]
  refine stE_sl_congr m fun x hxm hd => ?_
  have hm := hx.le
  obtain ⟨⟨o', p'⟩, hL⟩ : ∃ q, L[x]? = some q := ⟨_, List.getElem?_eq_getElem (by omega)⟩
  have hd' : o'.d = some t := by rw [← hx.dst x o' p' hL]; exact hd
  rcases Nat.lt_trichotomy x j with h | h | h
  · rcases hpair x j o p o' p' h hj hL with h1 | h1
    · rw [hp x h1]; simp [h]
    · exact absurd ht ((apartB_spec h1).1 t hd').1
  · subst h
    rw [hjE]; simp
  · rcases hpair j x o' p' o p h hL hj with h1 | h1
    · have : E x = false := by
        cases he : E x with
        | false => rfl
        | true => rw [hcl x o' p' hL he j h1] at hjE; cases hjE
      rw [this]; simp; omega
    · exact absurd ht ((apartB_spec h1).2 t hd')
theorem heap_same (hx : Lex D n0 top L s0 A m) {E : Nat → Bool}
    (hcl : ∀ x o p, L[x]? = some (o, p) → E x = true → ∀ i ∈ p, E i = true) {j : Nat} {o : AOper} {p : List Nat} (hj : L[j]? = some (o, p)) (hjE : E j = false) (hp : ∀ i ∈ p, E i = true) (hjm : j < m) :
    ∀ id ∈ A.r j, (stE top s0 A (fun _ => true) j).hp id = (stE top s0 A E m).hp id := by
  intro id hid
  rw [← stE_lex (top := top) (s0 := s0) (A := A) m (Nat.le_of_lt hjm)]
  refine stE_hp_congr m fun x hxm hd => ?_
  have hm := hx.le
  obtain ⟨⟨o', p'⟩, hL⟩ : ∃ q, L[x]? = some q := ⟨_, List.getElem?_eq_getElem (by omega)⟩
  rcases Nat.lt_trichotomy x j with h | h | h
  · rcases (hx.step j o p hjm hj).2.2 x h with h1 | ⟨h1, _, _⟩
    · rw [hp x h1]; simp [h]
    · exact absurd hid ((disj_iff _ _).1 h1 id hd)
  · subst h
    rw [hjE]; simp
  · rcases (hx.step x o' p' hxm hL).2.2 j h with h1 | ⟨_, h1, _⟩
    · have : E x = false := by
        cases he : E x with
        | false => rfl
        | true => rw [hcl x o' p' hL he j h1] at hjE; cases hjE
      rw [this]; simp; omega
    · exact absurd hid ((disj_iff _ _).1 h1 id hd)
end
theorem RelS.congr {N B : Nat} {ρ : Nat → Bnd} {s s' : S} {a : Act} {w : World} (h : RelS N B ρ s a w) (h1 : ∀ t, s'.sl t = s.sl t) (h2 : ∀ i, s'.hp i = s.hp i) (h3 : s'.nx = s.nx) : RelS N B ρ s' a w := by
  obtain ⟨sl, hp, nx⟩ := s
  obtain ⟨sl', hp', nx'⟩ := s'
  have e1 : sl' = sl := funext h1
  have e2 : hp' = hp := funext h2
  subst e1 e2 h3
  exact h
section
variable {P : Program} {D : DTab} {N B : Nat} {ops : Array Oper} {L : List (AOper × List Nat)} {Q : Exit → Act → World → Prop} {K : S → Prop} {PQ : V → S → Prop}
variable {n0 top m : Nat} {s0 : S} {A : Dat} {ρ0 : Nat → Bnd} {a0 : Act} {w0 : World}
theorem any_ok (hc : DrwOk P N ops L) (hT : TabOk P (tabD D)) (htop : top = n0 + 8 * L.length) (hx : Lex D n0 top L s0 A m) (hs0 : s0.nx = top) (h1 : ∀ t, ∀ id ∈ idsV (s0.sl t), id < n0) (h2 : ∀ i, ∀ id ∈ idsO (s0.hp i), id < n0)
    (hend : (m = L.length ∧ K (stE top s0 A (fun _ => true) m)) ∨ (∃ o p u, L[m]? = some (o, p) ∧ StepP D (n0 + 8 * m) o (stE top s0 A (fun _ => true) m) u ∧ allAfter m (L.drop (m + 1)) = true ∧
      (∀ i, i < m → idsE (A.e i) = [] ∨ i ∈ p) ∧ V.lt 0 u = true ∧ ∀ sl, PQ u ⟨sl, (stE top s0 A (fun _ => true) m).hp, top⟩))
    (hK : ∀ ρ' s' a' w', K s' → RelS N B ρ' s' a' w' → ExtR B ρ0 n0 w0 ρ' s'.nx w' → a'.defers = a0.defers → Q .normal a' w')
    (hP : ∀ ρ' s' a' w' v x, PQ v s' → RelS N B ρ' s' a' w' → ExtR B ρ0 n0 w0 ρ' s'.nx w' → a'.defers = a0.defers → R ρ' s'.nx v x → Q (.panic [{ v := x, recovered := false }]) a' w') :
    ∀ (fuel : Nat) (listed : Array Bool) (E : Nat → Bool) (ρ : Nat → Bnd) (a : Act) (w : World), (∀ x, listed.getD x false = E x) → listed.size = ops.size → (∀ x, E x = true → x < m) → (∀ x o p, L[x]? = some (o, p) → E x = true → ∀ i ∈ p, E i = true) →
      cnt E L.length + fuel = L.length → RelS N B ρ (stE top s0 A E m) a w → ExtR B ρ0 n0 w0 ρ top w → a.defers = a0.defers → wpAny P .any ops Q fuel listed a w := by
  have hlen := hc.len
  have hmL := hx.le
  -- all done
  have done : ∀ (listed : Array Bool) (E : Nat → Bool) (ρ : Nat → Bnd) (a : Act) (w : World), (∀ x, E x = true → x < m) → (∀ x, x < L.length → E x = true) →
      RelS N B ρ (stE top s0 A E m) a w → ExtR B ρ0 n0 w0 ρ top w → a.defers = a0.defers → Q .normal a w := by
    intro listed E ρ a w hEm hall hs hxt hd
    rcases hend with ⟨rfl, hk⟩ | ⟨o, p, u, hL, _⟩
    · have hs' : RelS N B ρ (stE top s0 A (fun _ => true) L.length) a w := by
        refine hs.congr (fun t => ?_) (fun i => ?_) ?_
        · exact stE_sl_congr L.length fun x hx _ => (hall x hx).symm
        · exact stE_hp_congr L.length fun x hx _ => (hall x hx).symm
        · rw [stE_nx hs0, stE_nx hs0]
      exact hK ρ _ a w hk hs' (by rw [stE_nx hs0]; exact hxt) hd
    · have hml : m < L.length := (List.getElem?_eq_some_iff.1 hL).1
      have := hEm m (hall m hml)
      omega
  -- none is ready: all are done
  have stuck : ∀ (listed : Array Bool) (E : Nat → Bool), (∀ x, listed.getD x false = E x) → listed.size = ops.size → Region.ready .any ops listed = [] → ∀ x, x < L.length → E x = true := by
    intro listed E hE hsz hr x
    induction x using Nat.strongRecOn with
    | _ x ih =>
      intro hxl
      cases he : E x with
      | true => rfl
      | false =>
        exfalso
        have ho : ops[x]? = some ops[x] := Array.getElem?_eq_getElem (by omega)
        have : x ∈ Region.ready .any ops listed := by
          rw [mem_ready]
          refine ⟨?_, _, ho, fun e hem hb => ?_⟩
          · have h0 := hE x
            rw [he] at h0
            rw [Array.getD_eq_getD_getElem?] at h0 ⊢
            have hsx : x < listed.size := by omega
            simpa [hsx] using h0
          · have hlt := hc.edge x _ ho e hem hb
            rw [hE]
            exact ih e.on hlt (by omega)
        rw [hr] at this
        simp at this
  intro fuel
  induction fuel with
  | zero =>
    intro listed E ρ a w hE hsz hEm hcl hcnt hs hxt hd
    have hall := cnt_full L.length (by omega : cnt E L.length = L.length)
    refine ⟨?_, done listed E ρ a w hEm hall hs hxt hd⟩
    cases hr : Region.ready .any ops listed with
    | nil => rfl
    | cons j l =>
      have : j ∈ Region.ready .any ops listed := by rw [hr]; simp
      rw [mem_ready] at this
      obtain ⟨h0, o, ho, _⟩ := this
      have hj : j < ops.size := (Array.getElem?_eq_some_iff.1 ho).1
      have h3 := hE j
      rw [hall j (by omega)] at h3
      rw [Array.getD_eq_getD_getElem?] at h0 h3
      have hsx : j < listed.size := by omega
      simp [hsx] at h0 h3
      rw [h0] at h3
      cases h3
  | succ fuel ih =>
    intro listed E ρ a w hE hsz hEm hcl hcnt hs hxt hd
    refine ⟨fun hr => done listed E ρ a w hEm (stuck listed E hE hsz hr) hs hxt hd, fun j hj => ?_⟩
    rw [mem_ready] at hj
    obtain ⟨h0, o, ho, hedge⟩ := hj
    have hjs : j < ops.size := (Array.getElem?_eq_some_iff.1 ho).1
    have hjl : j < listed.size := by omega
    have hjE : E j = false := by
      rw [← hE j]
      rw [Array.getD_eq_getD_getElem?] at h0 ⊢
      simpa [hjl] using h0
    obtain ⟨⟨ao, p⟩, hL⟩ : ∃ q, L[j]? = some q := ⟨_, List.getElem?_eq_getElem (by omega)⟩
    have hp : ∀ i ∈ p, E i = true := by
      intro i hi
      obtain ⟨e, he, hb, hor⟩ := hc.pre j o ao p ho hL i hi
      have hon : E e.on = true := by rw [← hE]; exact hedge e he hb
      rcases hor with rfl | ⟨ao', q, hq, hiq⟩
      · exact hon
      · exact hcl e.on ao' q hq hon i hiq
    have hchk := hc.op j o ao p ho hL
    have hσ : (stE top s0 A E m).nx = top := stE_nx hs0 m
    obtain ⟨i1, i2⟩ := stE_ids hx hEm hcl h1 h2 m
    unfold wpOp
    rw [ho]
    simp only []
    by_cases hjm : j < m
    · -- a step
      obtain ⟨hst, hok, htr⟩ := hx.step j ao p hjm hL
      have hst' : StepR D (n0 + 8 * j) ao (stE top s0 A E m) (A.v j) (A.e j) (A.r j) :=
        stepR_congr hst (slots_same hx hc.pair hcl hL hjE hp (Nat.le_of_lt hjm)) (heap_same hx hcl hL hjE hp hjm)
      refine op_ok hT (ops := ops) hs hchk (dop_run hst') (next := _) (Q := Q) ?_ (fun _ _ _ _ _ _ h => h.elim)
      intro ρ' s' a' w' hren hs' hx' hd'
      rw [hσ] at hren
      have hok' := hok
      unfold okIds at hok'
      simp only [Bool.and_eq_true, List.all_eq_true] at hok'
      obtain ⟨ρ'', hs'', hag⟩ := ren_ok (n0 := n0) hs' hren (by omega) (by omega)
        (fun t id hid => by have := inE_out (i1 t id hid) hjE (by omega); rw [htop]; exact this)
        (fun i id hid => by have := inE_out (i2 i id hid) hjE (by omega); rw [htop]; exact this)
        (fun q hq id hid => by
          have h3 : inE E n0 L.length id := okId_in ((hok'.2 q hq).2 id hid) fun x hxm => ⟨hp x hxm, by have := hEm x (hp x hxm); omega⟩
          have := inE_out h3 hjE (by omega)
          rw [htop]
          exact this)
      have hdst := hx.dst j ao p hL
      obtain ⟨j1, j2⟩ := stE_add (top := top) (s0 := s0) (A := A) hjE
        (fun x hxE t ht1 ht2 => by
          rcases Nat.lt_trichotomy x j with h | h | h
          · exact h
          · subst h; rw [hjE] at hxE; cases hxE
          · exfalso
            have hxl := hEm x hxE
            obtain ⟨⟨o', p'⟩, hL'⟩ : ∃ q, L[x]? = some q := ⟨_, List.getElem?_eq_getElem (by omega)⟩
            rcases hc.pair j x o' p' ao p h hL' hL with h3 | h3
            · have := hcl x o' p' hL' hxE j h3
              rw [hjE] at this; cases this
            · refine ((apartB_spec h3).1 t ?_).2 ?_
              · rw [← hdst]; exact ht2
              · rw [← hx.dst x o' p' hL']; exact ht1)
        (fun x hxE id hi1 hi2 => by
          rcases Nat.lt_trichotomy x j with h | h | h
          · exact h
          · subst h; rw [hjE] at hxE; cases hxE
          · exfalso
            have hxl := hEm x hxE
            obtain ⟨⟨o', p'⟩, hL'⟩ : ∃ q, L[x]? = some q := ⟨_, List.getElem?_eq_getElem (by omega)⟩
            rcases (hx.step x o' p' hxl hL').2.2 j h with h3 | ⟨_, _, h3⟩
            · have := hcl x o' p' hL' hxE j h3
              rw [hjE] at this; cases this
            · exact (disj_iff _ _).1 h3 id hi1 hi2) m hjm
      refine ih (listed.setIfInBounds j true) (upd E j true) ρ'' a' w' (fun x => ?_) (by simpa using hsz) (fun x hxE => ?_) (fun x o' p' hL' hxE i hi => ?_) ?_ ?_ ?_ (hd'.trans hd)
      · by_cases e : x = j
        · subst e
          rw [upd_same]
          simp [hjl]
        · rw [upd_ne _ _ _ e, ← hE x]
          exact getD_set_ne false (Ne.symm e)
      · by_cases e : x = j
        · subst e; exact hjm
        · rw [upd_ne _ _ _ e] at hxE; exact hEm x hxE
      · by_cases e : i = j
        · subst e; exact upd_same _ _ _
        · rw [upd_ne _ _ _ e]
          by_cases e' : x = j
          · subst e'
            rw [hL] at hL'
            cases hL'
            exact hp i hi
          · rw [upd_ne _ _ _ e'] at hxE
            exact hcl x o' p' hL' hxE i hi
      · rw [cnt_upd hjE, if_pos (by omega)]
        omega
      · refine hs''.congr (fun t => ?_) (fun i => ?_) ?_
        · rw [j1 t, hdst]
        · rw [j2 i, put_hp]
        · rw [stE_nx hs0, S.put_nx]
      · refine ⟨fun i hi => ?_, hxt.2.1, hxt.2.2.trans hx'.2.2⟩
        rw [hag i hi, hx'.1 i (by rw [hσ]; omega), hxt.1 i hi]
    · -- the panic
      rcases hend with ⟨rfl, _⟩ | ⟨o', p', u, hL', hst, haft, heff, hlt, hpq⟩
      · omega
      · have hmj : m = j := by
          rcases Nat.lt_trichotomy j m with h | h | h
          · exact absurd h hjm
          · exact h.symm
          · exfalso
            have hmp : m ∈ p := allAfter_of (L.drop (m + 1)) haft (j - (m + 1)) ao p (by
              rw [List.getElem?_drop, ← hL]
              congr 1
              omega)
            have := hEm m (hp m hmp)
            omega
        subst hmj
        rw [hL] at hL'
        cases hL'
        have hhp : ∀ id, (stE top s0 A (fun _ => true) m).hp id = (stE top s0 A E m).hp id := by
          intro id
          rw [← stE_lex (top := top) (s0 := s0) (A := A) m (Nat.le_refl _)]
          refine stE_hp_congr m fun x hxm hd => ?_
          rcases heff x hxm with h3 | h3
          · rw [h3] at hd; simp at hd
          · rw [hp x h3]; simp [hxm]
        have hst' := stepP_congr hst (slots_same hx hc.pair hcl hL hjE hp (Nat.le_refl _)) hhp
        refine op_ok hT (ops := ops) hs hchk (dop_runP hst') (next := _) (Q := Q) (fun _ _ _ _ h => h.elim) ?_
        rintro ρ' s' a' w' v x ⟨rfl, rfl⟩ hs' hx' hd' hv
        have heta : (⟨(stE top s0 A E m).sl, (stE top s0 A (fun _ => true) m).hp, top⟩ : S) = stE top s0 A E m := by
          have e1 : (stE top s0 A (fun _ => true) m).hp = (stE top s0 A E m).hp := funext hhp
          rw [e1]
          have eta : ∀ (t : S) (q : Nat), t.nx = q → (⟨t.sl, t.hp, q⟩ : S) = t := by
            intro t q h; subst h; rfl
          exact eta _ _ hσ
        have hpq' := hpq (stE top s0 A E m).sl
        rw [heta] at hpq'
        refine hP ρ' _ a' w' v x hpq' hs' ?_ (hd'.trans hd) hv
        rw [hσ] at hx' ⊢
        have hn : n0 ≤ top := by omega
        exact ⟨fun i hi => (hx'.1 i (by omega)).trans (hxt.1 i hi), hn, hxt.2.2.trans hx'.2.2⟩
/-- A region that draws its order. -/
theorem drw_ok (hc : chkDrw P N ops L = true) (hT : TabOk P (tabD D)) {ρ : Nat → Bnd} {s : S} {a : Act} {w : World} {id : Nat} (hs : RelS N B ρ s a w)
    (h : drun D s.nx (s.nx + 8 * L.length) 0 L [] K PQ ⟨s.sl, clr s.nx s.hp, s.nx + 8 * L.length⟩)
    (hK : ∀ ρ' s' a' w', K s' → RelS N B ρ' s' a' w' → ExtR B ρ s.nx w ρ' s'.nx w' → a'.defers = a.defers → Q .normal a' w')
    (hP : ∀ ρ' s' a' w' v x, PQ v s' → RelS N B ρ' s' a' w' → ExtR B ρ s.nx w ρ' s'.nx w' → a'.defers = a.defers → R ρ' s'.nx v x → Q (.panic [{ v := x, recovered := false }]) a' w') :
    (Code.region id ops true).wp P Q a w := by
  have hc' := chkDrw_ok hc
  refine wp_region_any hc'.mo ?_
  let top := s.nx + 8 * L.length
  let s0 : S := ⟨s.sl, clr s.nx s.hp, top⟩
  let A0 : Dat := ⟨fun _ => .top, fun _ => [], fun _ => [], fun j => match L[j]? with | some (o, _) => o.d | none => none⟩
  obtain ⟨m, A, hlex, hend⟩ := drun_lex (L := L) (top := top) (s0 := s0) L 0 A0 (by simp) ⟨Nat.zero_le _, fun j o p hL => by simp [A0, hL], fun j o p hj => by omega⟩ h
  have hclr : ∀ i, i < s.nx → clr s.nx s.hp i = s.hp i := by
    intro i hi
    have : Nat.blt i s.nx = true := by rw [Nat.blt_eq]; exact hi
    simp [clr, this]
  have hclr' : ∀ i, ¬ i < s.nx → clr s.nx s.hp i = .no := by
    intro i hi
    have : Nat.blt i s.nx = false := by
      rw [Bool.eq_false_iff]
      intro h'
      rw [Nat.blt_eq] at h'
      exact hi h'
    simp [clr, this]
  have hids : ∀ i, ∀ id ∈ idsO (clr s.nx s.hp i), id < s.nx := by
    intro i id hid
    by_cases hi : i < s.nx
    · rw [hclr i hi] at hid
      exact (hs.rel.obj i hi).ids id hid
    · rw [hclr' i hi] at hid
      simp [idsO] at hid
  have hbel : Below B w { w with drawn := w.drawn + 1 } := by
    exact ⟨rfl, rfl, rfl, Nat.le_refl _, fun _ _ => rfl⟩
  have hrel : Rel B ρ top (clr s.nx s.hp) { w with drawn := w.drawn + 1 } := by
    refine ⟨hs.rel.base, fun i hi => ?_, fun i j hi hj hij g hg hgj => ?_⟩
    · by_cases hin : i < s.nx
      · rw [hclr i hin]
        exact (hs.rel.obj i hin).keep (Nat.le_add_right _ _) (fun _ _ => rfl) fun g _ => rfl
      · rw [hclr' i hin]
        trivial
    · by_cases hin : i < s.nx
      · by_cases hjn : j < s.nx
        · rw [hclr i hin] at hg
          rw [hclr j hjn] at hgj
          exact hs.rel.sep i j hin hjn hij g hg hgj
        · rw [hclr' j hjn] at hgj; cases hgj
      · rw [hclr' i hin] at hg; cases hg
  have start := any_ok (P := P) (Q := Q) (K := K) (PQ := PQ) (ρ0 := ρ) (a0 := a) (w0 := w) hc' hT rfl hlex rfl (fun t id hid => R.ids _ _ (hs.sl t) id hid) hids hend
    hK hP ops.size (Array.replicate ops.size false) (fun _ => false) ρ a { w with drawn := w.drawn + 1 }
  refine start (fun x => ?_) (by simp) (fun x hx => by cases hx) (fun x o p _ hx => by cases hx) ?_ ?_ ⟨fun _ _ => rfl, Nat.le_add_right _ _, hbel⟩ rfl
  · rw [Array.getD_eq_getD_getElem?]
    by_cases hx : x < ops.size
    · simp [hx]
    · simp [hx]
  · have : ∀ n, cnt (fun _ => false) n = 0 := by
      intro n
      induction n with
      | zero => rfl
      | succ n ih => simp [cnt, ih]
    rw [this, hc'.len]
    omega
  · have hst : ∀ m, stE top s0 A (fun _ => false) m = s0 := by
      intro m
      induction m with
      | zero => rfl
      | succ m ih => simp only [stE]; exact ih
    rw [hst]
    exact ⟨hrel, fun t => R.mono (Nat.le_add_right _ _) (fun _ _ => rfl) _ _ (hs.sl t), hs.size⟩
end
end Go.Proofs.YtbolfnkgbjkbjaaGreat.AM
