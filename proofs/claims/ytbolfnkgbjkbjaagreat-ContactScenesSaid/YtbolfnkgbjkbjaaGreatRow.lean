/- The abstract machine, the rows: arguments that are read as data, opened for the machine; a law's row closed. -/
import Derived.Test.YtbolfnkgbjkbjaaGreatAm12
import Derived.ProofKit
import Derived.OpenShut
import Derived.Carry
import Derived.ChangeSame
import Derived.Deep.Slices
set_option linter.unusedVariables false
set_option linter.unusedSimpArgs false
namespace Go.Proofs.YtbolfnkgbjkbjaaGreat.AM
open Go Go.ChangeShapes Go.WideShapes Go.ChangeAt Go.RowKit

/-- The cells of a type: scalars, and rows of scalars. -/
inductive CK where
  | s (k : SK)
  | sl (E : ET)
def seqCk (P : Program) (g : TypeId → Option (List CK)) : Nat → List Field → Option (List CK)
  | _, [] => some []
  | off, f :: fs => match g f.type with
    | some m => match seqCk P g (off + m.length) fs with
      | some r => if f.offset = off ∧ P.cellsOf f.type = m.length then some (m ++ r) else none
      | none => none
    | none => none
def scOnly : List CK → Option ET
  | [] => some []
  | .s k :: r => match scOnly r with
    | some E => some (k :: E)
    | none => none
  | .sl _ :: _ => none
def rdTy (P : Program) : Nat → TypeId → Option (List CK)
  | 0, _ => none
  | d + 1, t => match P.underlying t with
    | some (.int k) => some [.s (.int k)]
    | some .bool => some [.s .bool]
    | some (.struct fs) => match seqCk P (rdTy P d) 0 fs.toList with
      | some l => if P.cellsOf t = l.length then some l else none
      | none => none
    | some (.array n e) => match rdTy P d e with
      | some m => if P.cellsOf e = m.length ∧ P.cellsOf t = n * m.length then some (List.replicate n m).flatten else none
      | none => none
    | some (.slice e) => match rdTy P d e with
      | some m => match scOnly m with
        | some E => if P.cellsOf e = E.length ∧ 0 < E.length then some [.sl E] else none
        | none => none
      | none => none
    | _ => none
/-- What is read. -/
inductive CV where
  | s (x : Sc)
  | sl (E : ET) (l : List (den E))
def kindOk : SK → Sc → Prop
  | .int k, .int k' n => k = k' ∧ (Lit.int k n).wf = true
  | .bool, .bool _ => True
  | _, _ => False
def InR : (E : ET) → den E → Prop
  | [], _ => True
  | [k], x => kindOk k (k.sc x)
  | k :: k' :: r, x => kindOk k (k.sc x.1) ∧ InR (k' :: r) x.2
def CellR (w : World) : List CK → List Value → List CV → Prop
  | [], [], [] => True
  | .s k :: ks, v :: vs, .s x :: cs => (v = x.val ∧ kindOk k x) ∧ CellR w ks vs cs
  | .sl E :: ks, v :: vs, c :: cs => (∃ l : List (den E), c = .sl E l ∧ (∃ b : Bnd, v = b.sv ∧ HR (fun _ => default) 0 0 w b (.ro E l)) ∧ ∀ y ∈ l, InR E y) ∧ CellR w ks vs cs
  | _, _, _ => False
theorem CellR.append {w : World} : ∀ {ks : List CK} {vs : List Value} {cs : List CV}, CellR w ks vs cs → ∀ {ks' : List CK} {vs' : List Value} {cs' : List CV}, CellR w ks' vs' cs' → CellR w (ks ++ ks') (vs ++ vs') (cs ++ cs')
  | [], [], [], _, ks', vs', cs', h' => by simpa using h'
  | .s k :: ks, v :: vs, .s x :: cs, h, ks', vs', cs', h' => by
    simp only [CellR] at h
    simp only [List.cons_append, CellR]
    exact ⟨h.1, CellR.append h.2 h'⟩
  | .sl E :: ks, v :: vs, c :: cs, h, ks', vs', cs', h' => by
    simp only [CellR] at h
    simp only [List.cons_append, CellR]
    exact ⟨h.1, CellR.append h.2 h'⟩
  | [], [], _ :: _, h, _, _, _, _ => by simp [CellR] at h
  | [], _ :: _, _, h, _, _, _, _ => by simp [CellR] at h
  | .s _ :: _, [], _, h, _, _, _, _ => by simp [CellR] at h
  | .s _ :: _, _ :: _, [], h, _, _, _, _ => by simp [CellR] at h
  | .s _ :: _, _ :: _, .sl _ _ :: _, h, _, _, _, _ => by simp [CellR] at h
  | .sl _ :: _, [], _, h, _, _, _, _ => by simp [CellR] at h
  | .sl _ :: _, _ :: _, [], h, _, _, _, _ => by simp [CellR] at h
theorem CellR.length {w : World} : ∀ {ks : List CK} {vs : List Value} {cs : List CV}, CellR w ks vs cs → vs.length = ks.length
  | [], [], [], _ => rfl
  | .s k :: ks, v :: vs, .s x :: cs, h => by simp only [CellR] at h; simp [CellR.length h.2]
  | .sl E :: ks, v :: vs, c :: cs, h => by simp only [CellR] at h; simp [CellR.length h.2]
  | [], [], _ :: _, h => by simp [CellR] at h
  | [], _ :: _, _, h => by simp [CellR] at h
  | .s _ :: _, [], _, h => by simp [CellR] at h
  | .s _ :: _, _ :: _, [], h => by simp [CellR] at h
  | .s _ :: _, _ :: _, .sl _ _ :: _, h => by simp [CellR] at h
  | .sl _ :: _, [], _, h => by simp [CellR] at h
  | .sl _ :: _, _ :: _, [], h => by simp [CellR] at h
/-- Scalars alone: an element. -/
theorem den_of {w : World} : ∀ {ks : List CK} {E : ET} {vs : List Value} {cs : List CV}, scOnly ks = some E → CellR w ks vs cs → ∃ y : den E, vs = (enc E y).map Sc.val ∧ InR E y
  | [], E, [], [], h, _ => by cases h; exact ⟨(), rfl, trivial⟩
  | [.s k], E, v :: vs, .s x :: cs, h, hc => by
    simp only [scOnly, Option.some.injEq] at h
    subst h
    simp only [CellR] at hc
    obtain ⟨⟨hv, hk⟩, hr⟩ := hc
    cases vs with
    | cons _ _ => cases cs <;> simp [CellR] at hr
    | nil =>
      cases k <;> cases x <;> simp only [kindOk] at hk
      · rename_i k k' n
        obtain ⟨rfl, hw⟩ := hk
        exact ⟨n, by simp [enc, SK.sc, hv], ⟨rfl, hw⟩⟩
      · rename_i b
        exact ⟨b, by simp [enc, SK.sc, hv], trivial⟩
  | .s k :: .s k' :: ks, E, v :: vs, .s x :: cs, h, hc => by
    simp only [scOnly] at h
    split at h
    · rename_i E' hE'
      cases h
      simp only [CellR] at hc
      obtain ⟨⟨hv, hk⟩, hr⟩ := hc
      have hE2 : scOnly (.s k' :: ks) = some E' := hE'
      obtain ⟨y, hy, hi⟩ := den_of hE2 hr
      have : ∃ r, E' = k' :: r := by
        simp only [scOnly] at hE2
        split at hE2
        · rename_i r _; cases hE2; exact ⟨r, rfl⟩
        · cases hE2
      obtain ⟨r, rfl⟩ := this
      cases k <;> cases x <;> simp only [kindOk] at hk
      · rename_i k k' n
        obtain ⟨rfl, hw⟩ := hk
        exact ⟨(n, y), by simp [enc, SK.sc, hv, hy], ⟨⟨rfl, hw⟩, hi⟩⟩
      · rename_i b
        exact ⟨(b, y), by simp [enc, SK.sc, hv, hy], ⟨trivial, hi⟩⟩
    · cases h
  | .s k :: .sl _ :: ks, E, _, _, h, _ => by simp [scOnly] at h
  | .sl _ :: _, _, _, _, h, _ => by simp [scOnly] at h
  | [], _, [], _ :: _, _, h => by simp [CellR] at h
  | [], _, _ :: _, _, _, h => by simp [CellR] at h
  | [.s _], _, [], _, _, h => by simp [CellR] at h
  | [.s _], _, _ :: _, [], _, h => by simp [CellR] at h
  | [.s _], _, _ :: _, .sl _ _ :: _, _, h => by simp [CellR] at h
  | .s _ :: .s _ :: _, _, [], _, _, h => by simp [CellR] at h
  | .s _ :: .s _ :: _, _, _ :: _, [], _, h => by simp [CellR] at h
  | .s _ :: .s _ :: _, _, _ :: _, .sl _ _ :: _, _, h => by simp [CellR] at h
theorem seq_cells {H : Type} {enc : TypeId × Value → H} {P : Program} {w : World} {spare : Nat → Bool} {held : Bool} {n : Nat} {g : TypeId → Option (List CK)}
    (ih : ∀ t ks, g t = some ks → ∀ (cs : List Value) x, DataW.trod enc P w 0 spare held n t cs = some x → ∃ cvs, CellR w ks cs cvs) (cs : List Value) :
    ∀ (fs : List Field) (off : Nat) (ks : List CK), seqCk P g off fs = some ks → cs.length = off + ks.length →
      (∀ f ∈ fs, ∃ x, DataW.trod enc P w 0 spare held n f.type ((cs.drop f.offset).take (P.cellsOf f.type)) = some x) → ∃ cvs, CellR w ks (cs.drop off) cvs
  | [], off, ks, h, hl, _ => by
    simp only [seqCk, Option.some.injEq] at h
    subst h
    have : cs.drop off = [] := List.drop_eq_nil_iff.2 (by simp at hl; omega)
    rw [this]
    exact ⟨[], by simp [CellR]⟩
  | f :: fs, off, ks, h, hl, hf => by
    simp only [seqCk] at h
    split at h
    · rename_i m hm
      split at h
      · rename_i r hr
        split at h
        · rename_i hc
          obtain ⟨h1, h2⟩ := hc
          cases h
          obtain ⟨x, hx⟩ := hf f (by simp)
          rw [h1, h2] at hx
          obtain ⟨c1, hc1⟩ := ih _ _ hm _ _ hx
          rw [List.length_append] at hl
          obtain ⟨c2, hc2⟩ := seq_cells ih cs fs (off + m.length) r hr (by omega) (fun f' hf' => hf f' (by simp [hf']))
          refine ⟨c1 ++ c2, ?_⟩
          have e : cs.drop off = (cs.drop off).take m.length ++ cs.drop (off + m.length) := by
            rw [← List.drop_drop, List.take_append_drop]
          rw [e]
          exact hc1.append hc2
        · cases h
      · cases h
    · cases h
theorem arr_cells {w : World} (m : List CK) : ∀ (n : Nat) (cs : List Value), cs.length = n * m.length → (∀ i, i < n → ∃ cvs, CellR w m ((cs.drop (i * m.length)).take m.length) cvs) → ∃ cvs, CellR w (List.replicate n m).flatten cs cvs
  | 0, cs, hl, _ => by
    have : cs = [] := List.length_eq_zero_iff.1 (by simpa using hl)
    subst this
    exact ⟨[], by simp [CellR]⟩
  | n + 1, cs, hl, h => by
    obtain ⟨c1, h1⟩ := h 0 (by omega)
    simp only [Nat.zero_mul, List.drop_zero] at h1
    obtain ⟨c2, h2⟩ := arr_cells m n (cs.drop m.length) (by rw [List.length_drop, hl, Nat.succ_mul]; omega) (fun i hi => by
      obtain ⟨c, hc⟩ := h (i + 1) (by omega)
      refine ⟨c, ?_⟩
      rw [List.drop_drop, show m.length + i * m.length = (i + 1) * m.length by rw [Nat.succ_mul]; omega]
      exact hc)
    refine ⟨c1 ++ c2, ?_⟩
    rw [List.replicate_succ, List.flatten_cons]
    have e : cs = cs.take m.length ++ cs.drop m.length := (List.take_append_drop _ _).symm
    rw [e]
    rw [← e]
    exact (show CellR w (m ++ (List.replicate n m).flatten) (cs.take m.length ++ cs.drop m.length) (c1 ++ c2) from h1.append h2) |> fun h => by rw [List.take_append_drop] at h; exact h
theorem rows_of {w : World} {E : ET} {a : Addr} (hE : 0 < E.length) : ∀ (n : Nat), (∀ i, i < n → ∃ y : den E, (∀ j, j < E.length → w.cell? (a.add (i * E.length + j)) = ((enc E y).map Sc.val)[j]?) ∧ InR E y) →
    ∃ l : List (den E), l.length = n ∧ (∀ y ∈ l, InR E y) ∧ ∀ j s, (flat E l)[j]? = some s → w.cell? (a.add j) = some s.val
  | 0, _ => ⟨[], rfl, by simp, by simp [flat]⟩
  | n + 1, h => by
    obtain ⟨l, hl, hr, hc⟩ := rows_of hE n (fun i hi => h i (by omega))
    obtain ⟨y, hy, hi⟩ := h n (by omega)
    refine ⟨l ++ [y], by simp [hl], ?_, ?_⟩
    · intro z hz
      rw [List.mem_append] at hz
      rcases hz with hz | hz
      · exact hr z hz
      · simp at hz; subst hz; exact hi
    · intro j s hs
      rw [flat_append] at hs
      by_cases hj : j < (flat E l).length
      · rw [List.getElem?_append_left hj] at hs
        exact hc j s hs
      · have hfl := flat_length E l
        rw [List.getElem?_append_right (by omega)] at hs
        have e : flat E [y] = enc E y := by simp [flat]
        rw [e, hfl, hl] at hs
        have hj2 := (List.getElem?_eq_some_iff.1 hs).1
        rw [enc_length] at hj2
        have := hy (j - n * E.length) hj2
        rw [List.getElem?_map, hs] at this
        rw [hfl, hl] at hj
        rw [show n * E.length + (j - n * E.length) = j by omega] at this
        simpa using this
theorem cell_spot {w : World} {a : Addr} {v : Value} (h : w.cell? a = some v) : a.spot = none := by
  unfold World.cell? at h
  split at h
  · split at h
    · cases h
    · rename_i hs; simpa using hs
  · cases h
/-- A value that can be read at such a type. -/
theorem rd_cells {H : Type} {enc : TypeId × Value → H} {P : Program} {w : World} {spare : Nat → Bool} {held : Bool} : ∀ (d : Nat) (t : TypeId) (ks : List CK), rdTy P d t = some ks →
    ∀ (fuel : Nat) (cs : List Value) x, DataW.trod enc P w 0 spare held fuel t cs = some x → ∃ cvs, CellR w ks cs cvs
  | 0, t, ks, h => by simp [rdTy] at h
  | d + 1, t, ks, h => by
    intro fuel cs x hx
    simp only [rdTy] at h
    split at h
    · rename_i k hu
      cases h
      obtain ⟨n, rfl, _, hw⟩ := DataW.trod_int hu hx
      exact ⟨[.s (.int k n)], by simp [CellR, kindOk, Sc.val, hw]⟩
    · rename_i hu
      cases h
      obtain ⟨b, rfl, _⟩ := DataW.trod_bool hu hx
      exact ⟨[.s (.bool b)], by simp [CellR, kindOk, Sc.val]⟩
    · rename_i fs hu
      split at h
      · rename_i l hl
        split at h
        · rename_i hsz
          cases h
          obtain ⟨xs, n, rfl, _, hcl, hxl, hf⟩ := DataW.trod_struct hu hx
          have := seq_cells (n := n) (fun t ks hk cs x hx => rd_cells d t ks hk n cs x hx) cs fs.toList 0 ks hl (by omega) (fun f hf' => by
            obtain ⟨i, hi, rfl⟩ := List.getElem_of_mem hf'
            have hi' : i < fs.size := by simpa using hi
            have h1 := hf i fs[i] (Array.getElem?_eq_getElem hi')
            have h2 : xs[i]? = some (xs[i]'(by omega)) := List.getElem?_eq_getElem (by omega)
            exact ⟨_, by simpa using h1.trans h2⟩)
          simpa using this
        · cases h
      · cases h
    · rename_i n e hu
      split at h
      · rename_i m hm
        split at h
        · rename_i hsz
          cases h
          obtain ⟨xs, k, rfl, _, hcl, hxl, hf⟩ := DataW.trod_array hu hx
          refine arr_cells m n cs (by omega) (fun i hi => ?_)
          have h1 := hf i hi
          rw [hsz.1] at h1
          have h2 : xs[i]? = some (xs[i]'(by omega)) := List.getElem?_eq_getElem (by omega)
          exact rd_cells d e m hm k _ _ (h1.trans h2)
        · cases h
      · cases h
    · rename_i e hu
      split at h
      · rename_i m hm
        split at h
        · rename_i E hE
          split at h
          · rename_i hsz
            cases h
            obtain ⟨hsz, hpos⟩ := hsz
            rcases Go.Deep.open_slice hu hx with ⟨rfl, _⟩ | ⟨a, len, cap, k, n, D, Pl, rfl, _, hlc, _, hk, _, hi⟩
            · refine ⟨[.sl E []], ?_⟩
              simp only [CellR, and_true]
              exact ⟨[], rfl, ⟨⟨0, 0, none, 0, 0⟩, rfl, hpos, rfl, Nat.le_refl _, by simp, by simp [flat]⟩, by simp⟩
            · have hlk : len ≤ k := by rw [hk]; split <;> omega
              obtain ⟨l, hl, hr, hc⟩ := rows_of (w := w) (E := E) (a := a) hpos len (fun i hi' => by
                obtain ⟨cs', h1, h2⟩ := hi i (by omega)
                obtain ⟨_, hcl, hat⟩ := World.cells?_some h1
                obtain ⟨cvs, hcv⟩ := rd_cells d e m hm n cs' _ h2
                obtain ⟨y, hy, hin⟩ := den_of hE hcv
                refine ⟨y, fun j hj => ?_, hin⟩
                have h3 := hat j (by omega)
                rw [← hy, ← h3, hsz]
                rw [Go.Deep.add_add])
              refine ⟨[.sl E l], ?_⟩
              simp only [CellR, and_true]
              refine ⟨l, rfl, ⟨⟨a.block, a.off, some a, len, cap⟩, rfl, hpos, hl.symm, by rw [hl]; exact hlc, ?_, ?_⟩, hr⟩
              · intro h0
                have h00 : 0 < (flat E l).length := by rw [flat_length]; exact Nat.mul_pos h0 hpos
                have h1 := hc 0 ((flat E l)[0]'h00) (by simp)
                have h2 := cell_spot h1
                simp only [Addr.add, if_true] at h2
                obtain ⟨b, o, s⟩ := a
                simp only at h2
                subst h2
                rfl
              · intro j s hs
                have h1 := hc j s hs
                unfold Addr.add at h1
                split at h1
                · rename_i hj0
                  have h2 := cell_spot h1
                  obtain ⟨b, o, sp⟩ := a
                  simp only at h2
                  subst h2 hj0
                  simpa using h1
                · have h2 := cell_spot h1
                  obtain ⟨b, o, sp⟩ := a
                  exact h1
          · cases h
        · cases h
      · cases h
    · cases h
/-! ### Arguments for the machine -/
def opnA : Nat → List CV → List V × List Ob
  | _, [] => ([], [])
  | n, .s x :: r => (x.toV :: (opnA n r).1, (opnA n r).2)
  | n, .sl E l :: r => (.osl n :: (opnA (n + 1) r).1, .ro E l :: (opnA (n + 1) r).2)
def aggV (agg : Bool) (vs : List V) : V := match agg with
  | true => .agg vs
  | false => match vs with
    | [v] => v
    | _ => .top
def opnL : Nat → List (Bool × List CV) → List V × List Ob
  | _, [] => ([], [])
  | n, (agg, c) :: r => (aggV agg (opnA n c).1 :: (opnL (n + (opnA n c).2.length) r).1, (opnA n c).2 ++ (opnL (n + (opnA n c).2.length) r).2)
theorem opnA_ok {w : World} : ∀ {ks : List CK} {vs : List Value} {cs : List CV}, CellR w ks vs cs → ∀ (ρ : Nat → Bnd) (obs : List Ob), Ros w ρ obs →
    ∃ ρ', Agree ρ ρ' obs.length ∧ Ros w ρ' (obs ++ (opnA obs.length cs).2) ∧ RL ρ' (obs.length + (opnA obs.length cs).2.length) (opnA obs.length cs).1 vs
  | [], [], [], _, ρ, obs, ho => ⟨ρ, fun _ _ => rfl, by simpa [opnA] using ho, by simp [opnA, RL]⟩
  | .s k :: ks, v :: vs, .s x :: cs, h, ρ, obs, ho => by
    simp only [CellR] at h
    obtain ⟨ρ', h1, h2, h3⟩ := opnA_ok h.2 ρ obs ho
    refine ⟨ρ', h1, by simpa [opnA] using h2, ?_⟩
    simp only [opnA, RL]
    exact ⟨(R_toV x v).2 h.1.1, h3⟩
  | .sl E :: ks, v :: vs, c :: cs, h, ρ, obs, ho => by
    simp only [CellR] at h
    obtain ⟨⟨l, rfl, ⟨b, rfl, hb⟩, hr⟩, hrest⟩ := h
    have ho1 := ho.push (b := b) (E := E) (l := l) (ro_any hb)
    obtain ⟨ρ', h1, h2, h3⟩ := opnA_ok hrest (upd ρ obs.length b) (obs ++ [.ro E l]) ho1
    simp only [List.length_append, List.length_cons, List.length_nil, Nat.zero_add] at h1 h2 h3
    refine ⟨ρ', fun i hi => ?_, ?_, ?_⟩
    · rw [h1 i (by omega), upd_ne _ _ _ (by omega)]
    · simp only [opnA]
      simpa using h2
    · simp only [opnA, RL, R, List.length_cons]
      refine ⟨⟨by omega, ?_⟩, ?_⟩
      · rw [h1 obs.length (by omega), upd_same]
      · rw [show obs.length + ((opnA (obs.length + 1) cs).2.length + 1) = obs.length + 1 + (opnA (obs.length + 1) cs).2.length by omega]
        exact h3
  | [], [], _ :: _, h, _, _, _ => by simp [CellR] at h
  | [], _ :: _, _, h, _, _, _ => by simp [CellR] at h
  | .s _ :: _, [], _, h, _, _, _ => by simp [CellR] at h
  | .s _ :: _, _ :: _, [], h, _, _, _ => by simp [CellR] at h
  | .s _ :: _, _ :: _, .sl _ _ :: _, h, _, _, _ => by simp [CellR] at h
  | .sl _ :: _, [], _, h, _, _, _ => by simp [CellR] at h
  | .sl _ :: _, _ :: _, [], h, _, _, _ => by simp [CellR] at h
/-- A value and its cells. -/
def ValR (agg : Bool) (v : Value) (cs : List Value) : Prop := match agg with
  | true => v = .agg cs.toArray
  | false => cs = [v]
theorem val_form {P : Program} {W : World} {r : Go.Reach} {b0 d : Nat} {t : TypeId} {ks : List CK} {ag : Bool} {v : Value} (hk : rdTy P d t = some ks) (ha : aggOf P t = some ag) (hv : Value.okWide P W r b0 t v) : ValR ag v v.cells.toList := by
  cases d with
  | zero => simp [rdTy] at hk
  | succ d =>
    simp only [rdTy] at hk
    unfold aggOf at ha
    split at hk
    · rename_i k hu
      simp only [hu, Option.some.injEq] at ha
      subst ha
      simp only [Value.okWide, hu, Cell.okWide] at hv
      cases v <;> simp_all [Cell.ok, ValR, Value.cells]
    · rename_i hu
      simp only [hu, Option.some.injEq] at ha
      subst ha
      simp only [Value.okWide, hu, Cell.okWide] at hv
      cases v <;> simp_all [Cell.ok, ValR, Value.cells]
    · rename_i fs hu
      simp only [hu, Option.some.injEq] at ha
      subst ha
      simp only [Value.okWide, hu] at hv
      obtain ⟨cs, rfl, _⟩ := hv
      simp [ValR, Value.cells]
    · rename_i n e hu
      simp only [hu, Option.some.injEq] at ha
      subst ha
      simp only [Value.okWide, hu] at hv
      obtain ⟨cs, rfl, _⟩ := hv
      simp [ValR, Value.cells]
    · rename_i e hu
      simp only [hu, Option.some.injEq] at ha
      subst ha
      simp only [Value.okWide, hu, Cell.okWide] at hv
      cases v <;> simp_all [Cell.ok, ValR, Value.cells]
    · cases hk
theorem aggV_R {ρ : Nat → Bnd} {n : Nat} {agg : Bool} {v : Value} {cs : List Value} {vs : List V} (hv : ValR agg v cs) (h : RL ρ n vs cs) : R ρ n (aggV agg vs) v := by
  cases agg with
  | true =>
    simp only [ValR] at hv
    subst hv
    simp only [aggV, R]
    exact ⟨_, rfl, by simpa using h⟩
  | false =>
    simp only [ValR] at hv
    subst hv
    match vs, h with
    | [u], h => simp only [RL] at h; exact h.1
    | [], h => simp [RL] at h
    | _ :: _ :: _, h => simp [RL] at h
/-- All arguments. -/
def ArgsR (w : World) : List (Bool × List CK) → List Value → List (Bool × List CV) → Prop
  | [], [], [] => True
  | (ag, ks) :: r, v :: vs, (ag', cs) :: cr => (ag' = ag ∧ CellR w ks v.cells.toList cs ∧ ValR ag v v.cells.toList) ∧ ArgsR w r vs cr
  | _, _, _ => False
theorem opnL_ok {w : World} : ∀ {kss : List (Bool × List CK)} {vs : List Value} {cvs : List (Bool × List CV)}, ArgsR w kss vs cvs → ∀ (ρ : Nat → Bnd) (obs : List Ob), Ros w ρ obs →
    ∃ ρ', Agree ρ ρ' obs.length ∧ Ros w ρ' (obs ++ (opnL obs.length cvs).2) ∧ RL ρ' (obs.length + (opnL obs.length cvs).2.length) (opnL obs.length cvs).1 vs
  | [], [], [], _, ρ, obs, ho => ⟨ρ, fun _ _ => rfl, by simpa [opnL] using ho, by simp [opnL, RL]⟩
  | (ag, ks) :: r, v :: vs, (ag', cs) :: cr, h, ρ, obs, ho => by
    simp only [ArgsR] at h
    obtain ⟨⟨rfl, hc, hv⟩, hr⟩ := h
    obtain ⟨ρ1, h1, h2, h3⟩ := opnA_ok hc ρ obs ho
    obtain ⟨ρ2, g1, g2, g3⟩ := opnL_ok hr ρ1 _ h2
    rw [List.length_append] at g1 g2 g3
    refine ⟨ρ2, fun i hi => by rw [g1 i (by omega), h1 i hi], ?_, ?_⟩
    · simp only [opnL]
      rw [← List.append_assoc]
      exact g2
    · simp only [opnL, RL, List.length_append]
      refine ⟨R.mono (by omega) g1 _ _ (aggV_R hv h3), ?_⟩
      rw [← Nat.add_assoc]
      exact g3
  | [], [], _ :: _, h, _, _, _ => by simp [ArgsR] at h
  | [], _ :: _, _, h, _, _, _ => by simp [ArgsR] at h
  | _ :: _, [], _, h, _, _, _ => by simp [ArgsR] at h
  | _ :: _, _ :: _, [], h, _, _, _ => by simp [ArgsR] at h
/-- The shapes and ranges alone. -/
def KR : List CK → List CV → Prop
  | [], [] => True
  | .s k :: ks, .s x :: cs => kindOk k x ∧ KR ks cs
  | .sl E :: ks, c :: cs => (∃ l : List (den E), c = .sl E l ∧ ∀ y ∈ l, InR E y) ∧ KR ks cs
  | _, _ => False
theorem CellR.kr {w : World} : ∀ {ks : List CK} {vs : List Value} {cs : List CV}, CellR w ks vs cs → KR ks cs
  | [], [], [], _ => trivial
  | .s k :: ks, v :: vs, .s x :: cs, h => by simp only [CellR] at h; exact ⟨h.1.2, CellR.kr h.2⟩
  | .sl E :: ks, v :: vs, c :: cs, h => by
    simp only [CellR] at h
    obtain ⟨⟨l, rfl, _, hr⟩, h2⟩ := h
    exact ⟨⟨l, rfl, hr⟩, CellR.kr h2⟩
  | [], [], _ :: _, h => by simp [CellR] at h
  | [], _ :: _, _, h => by simp [CellR] at h
  | .s _ :: _, [], _, h => by simp [CellR] at h
  | .s _ :: _, _ :: _, [], h => by simp [CellR] at h
  | .s _ :: _, _ :: _, .sl _ _ :: _, h => by simp [CellR] at h
  | .sl _ :: _, [], _, h => by simp [CellR] at h
  | .sl _ :: _, _ :: _, [], h => by simp [CellR] at h
def KRs : List (Bool × List CK) → List (Bool × List CV) → Prop
  | [], [] => True
  | (ag, ks) :: r, (ag', cs) :: cr => (ag' = ag ∧ KR ks cs) ∧ KRs r cr
  | _, _ => False
theorem ArgsR.krs {w : World} : ∀ {kss : List (Bool × List CK)} {vs : List Value} {cvs : List (Bool × List CV)}, ArgsR w kss vs cvs → KRs kss cvs
  | [], [], [], _ => trivial
  | (ag, ks) :: r, v :: vs, (ag', cs) :: cr, h => by simp only [ArgsR] at h; exact ⟨⟨h.1.1, h.1.2.1.kr⟩, ArgsR.krs h.2⟩
  | [], [], _ :: _, h => by simp [ArgsR] at h
  | [], _ :: _, _, h => by simp [ArgsR] at h
  | _ :: _, [], _, h => by simp [ArgsR] at h
  | _ :: _, _ :: _, [], h => by simp [ArgsR] at h
theorem KR.nil {cs : List CV} (h : KR [] cs) : cs = [] := by cases cs with | nil => rfl | cons _ _ => exact h.elim
theorem KR.int {k : IntKind} {ks : List CK} {cs : List CV} (h : KR (.s (.int k) :: ks) cs) : ∃ n r, cs = .s (.int k n) :: r ∧ (Lit.int k n).wf = true ∧ KR ks r := by
  match cs, h with
  | .s (.int k' n) :: r, h => obtain ⟨⟨rfl, hw⟩, h2⟩ := h; exact ⟨n, r, rfl, hw, h2⟩
  | .s (.bool _) :: _, h => exact h.1.elim
  | .sl _ _ :: _, h => exact h.elim
  | [], h => exact h.elim
theorem KR.bool {ks : List CK} {cs : List CV} (h : KR (.s .bool :: ks) cs) : ∃ b r, cs = .s (.bool b) :: r ∧ KR ks r := by
  match cs, h with
  | .s (.bool b) :: r, h => exact ⟨b, r, rfl, h.2⟩
  | .s (.int _ _) :: _, h => exact h.1.elim
  | .sl _ _ :: _, h => exact h.elim
  | [], h => exact h.elim
theorem KR.sl {E : ET} {ks : List CK} {cs : List CV} (h : KR (.sl E :: ks) cs) : ∃ l r, cs = .sl E l :: r ∧ (∀ y ∈ l, InR E y) ∧ KR ks r := by
  match cs, h with
  | c :: r, h => obtain ⟨⟨l, rfl, hl⟩, h2⟩ := h; exact ⟨l, r, rfl, hl, h2⟩
  | [], h => exact h.elim
theorem KRs.nil {cs : List (Bool × List CV)} (h : KRs [] cs) : cs = [] := by cases cs with | nil => rfl | cons _ _ => exact h.elim
theorem KRs.cons {ag : Bool} {ks : List CK} {r : List (Bool × List CK)} {cvs : List (Bool × List CV)} (h : KRs ((ag, ks) :: r) cvs) : ∃ cs cr, cvs = (ag, cs) :: cr ∧ KR ks cs ∧ KRs r cr := by
  match cvs, h with
  | (ag', cs) :: cr, h => obtain ⟨⟨rfl, h1⟩, h2⟩ := h; exact ⟨cs, cr, rfl, h1, h2⟩
  | [], h => exact h.elim
theorem wf64 {n : Int} (h : (Lit.int .i64 n).wf = true) : -9223372036854775808 ≤ n ∧ n ≤ 9223372036854775807 := by
  simp only [Lit.wf, Bool.and_eq_true, decide_eq_true_eq] at h
  exact h
def tyOk (P : Program) : List TypeId → List (Bool × List CK) → Bool
  | [], [] => true
  | t :: ts, (ag, ks) :: r => decide (aggOf P t = some ag) && (match rdTy P 8 t with
    | some ks' => ckEq ks' ks
    | none => false) && tyOk P ts r
  | _, _ => false
  where ckEq : List CK → List CK → Bool
  | [], [] => true
  | .s k :: a, .s k' :: b => decide (k = k') && ckEq a b
  | .sl E :: a, .sl E' :: b => decide (E = E') && ckEq a b
  | _, _ => false
theorem ckEq_eq : ∀ (a b : List CK), tyOk.ckEq a b = true → a = b
  | [], [], _ => rfl
  | .s k :: a, .s k' :: b, h => by
    simp only [tyOk.ckEq, Bool.and_eq_true, decide_eq_true_eq] at h
    rw [h.1, ckEq_eq a b h.2]
  | .sl k :: a, .sl k' :: b, h => by
    simp only [tyOk.ckEq, Bool.and_eq_true, decide_eq_true_eq] at h
    rw [h.1, ckEq_eq a b h.2]
  | [], .s _ :: _, h => by simp [tyOk.ckEq] at h
  | [], .sl _ :: _, h => by simp [tyOk.ckEq] at h
  | .s _ :: _, [], h => by simp [tyOk.ckEq] at h
  | .sl _ :: _, [], h => by simp [tyOk.ckEq] at h
  | .s _ :: _, .sl _ :: _, h => by simp [tyOk.ckEq] at h
  | .sl _ :: _, .s _ :: _, h => by simp [tyOk.ckEq] at h
theorem args_open {H : Type} {enc : TypeId × Value → H} {P : Program} {W : World} {base : Nat} : ∀ (ts : List TypeId) (kss : List (Bool × List CK)) (vs : List Value) (ds : List (DataW H)) (p : List MemPlace), tyOk P ts kss = true →
    DataW.TrodAll enc P W 0 (fun _ => true) true ts vs ds p → (∀ (j : Nat) t v, ts[j]? = some t → vs[j]? = some v → Value.okWide P W .any base t v) → ∃ cvs, ArgsR W kss vs cvs
  | [], [], vs, ds, p, _, h, _ => by
    cases vs with
    | nil => exact ⟨[], trivial⟩
    | cons _ _ => cases ds <;> simp [DataW.TrodAll] at h
  | t :: ts, (ag, ks) :: r, vs, ds, p, hk, h, hok => by
    simp only [tyOk, Bool.and_eq_true, decide_eq_true_eq] at hk
    obtain ⟨⟨ha, hks⟩, hr⟩ := hk
    obtain ⟨v, vs', d, ds', p1, p2, rfl, rfl, _, h1, h2⟩ := trodAll_cons h
    split at hks
    · rename_i ks' hrd
      have := ckEq_eq _ _ hks
      subst this
      obtain ⟨fuel, hf⟩ := h1
      obtain ⟨cs, hc⟩ := rd_cells 8 t _ hrd fuel _ _ hf
      obtain ⟨cr, hcr⟩ := args_open ts r vs' ds' p2 hr h2 (fun j t' v' h3 h4 => hok (j + 1) t' v' (by simpa using h3) (by simpa using h4))
      exact ⟨(ag, cs) :: cr, ⟨rfl, hc, val_form hrd ha (hok 0 t v rfl rfl)⟩, hcr⟩
    · cases hks
  | [], _ :: _, _, _, _, hk, _, _ => by simp [tyOk] at hk
  | _ :: _, [], _, _, _, hk, _, _ => by simp [tyOk] at hk
/-- A law: its call. -/
theorem law_calls {H : Type} {enc : TypeId × Value → H} {P : Program} {f : Nat} {fn : Func} {F : FSpec} (hF : FreshOk P f F) (hf : P.funcs[f]? = some fn) (hb : fn.body.isSome = true) (hname : ¬ fn.name = "runtime.NumGoroutine")
    {W : World} {base : Nat} {args : Array Value} {ds : List (DataW H)} {p : List MemPlace} (kss : List (Bool × List CK)) (hk : tyOk P fn.params.toList kss = true)
    (hA : DataW.TrodAll enc P W 0 (fun _ => true) true fn.params.toList args.toList ds p)
    (hval : ∀ (j : Nat) t v, fn.params[j]? = some t → args[j]? = some v → Value.okWide P W .any base t v)
    (hg : ∀ cvs, KRs kss cvs → F (opnL 0 cvs).1 (opnL 0 cvs).2 (fun out _ => out = .ret (.bool true))) :
    Calls P f args W fun e W' => e = .returned (.bool true) ∧ Below W.heap.size W W' := by
  obtain ⟨cvs, hcv⟩ := args_open fn.params.toList kss args.toList ds p hk hA (fun j t v h1 h2 => hval j t v (by simpa using h1) (by simpa using h2))
  obtain ⟨ρ', _, hro, hRL⟩ := opnL_ok hcv (fun _ => default) [] (fun i hi => by simp at hi)
  simp only [List.length_nil, List.nil_append, Nat.zero_add] at hro hRL
  have h := hF _ _ _ (hg cvs hcv.krs) W ρ' args.toList hro hRL
  have h2 := h.mono (Q' := fun e W' => e = .returned (.bool true) ∧ Below W.heap.size W W') (by
    rintro e w' ⟨out, news, ρ2, rfl, ho, _, _, _, hbe⟩
    cases e <;> simp only [OutR] at ho
    simp only [R] at ho
    exact ⟨by rw [ho], hbe⟩)
  rcases h2 with ⟨_, h3⟩ | ⟨v, w', h3, _⟩
  · exact h3
  · exfalso
    cases hbo : fn.body with
    | none => rw [hbo] at hb; cases hb
    | some c => simp [callFunc, hf, hname, hbo] at h3
section
variable {H : Type} {enc : TypeId × Value → H} {P : Program}
theorem post_of_below {f : Func} {s : ChangeSpec} {apart fresh handsOn again : Bool} {W W' : World} {args : Array Value} {v : Value} {ds gs : List (DataW H)} {before pa pv : List MemPlace}
    (hW : DataW.Whole enc P f.params.toList s.vars apart W args.toList ds gs before)
    (hres : ∀ (b : Nat) (sp : Nat → Bool) (hd : Bool), DataW.TrodAll enc P W' b sp hd f.resultTypes.toList (v.resultList f.resultTypes.size) (s.fn H (ds ++ gs)).results [])
    (hargs : ∀ sp : Nat → Bool, (∀ p ∈ before, sp p.block = true) → DataW.TrodAll enc P W' 0 sp true f.params.toList args.toList (s.fn H (ds ++ gs)).args pa)
    (hvars : ∀ sp : Nat → Bool, (∀ p ∈ before, sp p.block = true) → DataW.TrodVars enc P W' sp s.vars (s.fn H (ds ++ gs)).vars pv)
    (hps : before = pa ++ pv) (hb : Below W.heap.size W W')
    (hok : ∀ (j : Nat) (t : TypeId) (r : Value), f.resultTypes[j]? = some t → (v.resultList f.resultTypes.size)[j]? = some r → Value.okWide P W' .any 0 t r) :
    s.post enc P f apart fresh handsOn again W args v W' := by
  have hlt : ∀ p ∈ before, p.block < W.heap.size := fun p hp => hW.lt p hp
  have hold : ∀ p ∈ before, (fun b => decide (b < W.heap.size)) p.block = true := fun p hp => by simpa using hlt p hp
  refine ⟨ds, gs, before, [], pa, pv, hW, hres _ _ _, hargs _ hold, hvars _ hold, World.keptBut_mono (fun p hp => ⟨hp, ?_⟩) (hb.frame (· ∈ before)), fun _ => ?_⟩
  · rw [hps, List.mem_append] at hp
    exact Or.inr hp
  · obtain ⟨_, _, _, _, _, hz, hn⟩ := hW
    refine ⟨hok, _, _, ([] ++ pa) ++ pv, ⟨[] ++ pa, pv, trodAll_append (hargs _ (fun _ _ => rfl)) (hres _ _ _), hvars _ (fun _ _ => rfl), rfl, ?_, ?_⟩, ?_⟩
    · intro b off hp
      have hin : MemPlace.cell b off ∈ before := by rw [hps]; simpa using hp
      rw [hb.frozen (hlt _ hin)]
      exact hz b off hin
    · intro ha
      have := hn ha
      rw [hps] at this
      simpa using this
    · intro p hp _
      rw [hps]
      simpa using hp
end
/-- Arguments stay as they were. -/
theorem trodAll_stays {H : Type} {enc : TypeId × Value → H} {P : Program} (hl : laidOutB P = true) {W W' : World} (hb : Below W.heap.size W W') {sp : Nat → Bool} :
    ∀ (ts : List TypeId) (vs : List Value) (ds : List (DataW H)) (p : List MemPlace), ts.all (fun t => P.readableRec t && decide (t < P.types.size)) = true → DataW.TrodAll enc P W 0 (fun _ => true) true ts vs ds p →
      (∀ x ∈ p, x.block < W.heap.size) → (∀ x ∈ p, sp x.block = true) → DataW.TrodAll enc P W' 0 sp true ts vs ds p
  | [], vs, ds, p, _, h, _, _ => by
    cases vs <;> cases ds <;> simp_all [DataW.TrodAll]
  | t :: ts, vs, ds, p, hr, h, hlt, hsp => by
    simp only [List.all_cons, Bool.and_eq_true, decide_eq_true_eq] at hr
    obtain ⟨v, vs', d, ds', p1, p2, rfl, rfl, rfl, h1, h2⟩ := trodAll_cons h
    refine trodAll_cons_mk ?_ (trodAll_stays hl hb ts vs' ds' p2 (by simpa using hr.2) h2 (fun x hx => hlt x (by simp [hx])) (fun x hx => hsp x (by simp [hx])))
    exact WideElems.Trod_stays hl hr.1.1 hr.1.2 h1 (fun x hx => hb.same (hlt x (by simp [hx]))) (fun x hx => hsp x (by simp [hx]))
end Go.Proofs.YtbolfnkgbjkbjaaGreat.AM
