/- The abstract machine, part 4: each operation's step is right (plain operations, variables). -/
import Derived.Test.YtbolfnkgbjkbjaaGreatAm3
set_option linter.unusedVariables false
set_option linter.unusedSimpArgs false
namespace Go.Proofs.YtbolfnkgbjkbjaaGreat.AM
open Go Go.RowKit

/-- The goal of each operation. -/
def Good (P : Program) (N B : Nat) (ρ : Nat → Bnd) (s : S) (a : Act) (w : World) (K : S → Prop) (o : Oper) : Prop :=
  ∃ x w', ((execOp a.eval o).run P w = .ok (.value x) w' ∨ ((execOp a.eval o).run P w = .ok .skip w' ∧ x = undef)) ∧ After N B ρ s w K (a.put o.dst x) w'
section
variable {P : Program} {N B : Nat} {ρ : Nat → Bnd} {s : S} {a : Act} {w : World} {K : S → Prop} {o : Oper}
theorem good_val (hs : RelS N B ρ s a w) (hd : ∀ e, o.dst = some e → e < N) {v : V} {x : Value} (hv : R ρ s.nx v x) (hr : (execOp a.eval o).run P w = .ok (.value x) w)
    (h : force v fun v => K (s.put o.dst v)) : Good P N B ρ s a w K o := ⟨x, w, .inl hr, fin_val hs hv hd h⟩
theorem good_ok (hs : RelS N B ρ s a w) (hd : ∀ e, o.dst = some e → e < N) {v : V} {x : Value} (h : (OR.val v).run s o.dst K) (hv : R ρ s.nx v x) (hr : (execOp a.eval o).run P w = .ok (.value x) w) :
    Good P N B ρ s a w K o := ⟨x, w, .inl hr, fin_val hs hv hd h⟩
theorem good_mv {x : AO} (hs : RelS N B ρ s a w) (hd : ∀ e, o.dst = some e → e < N) (hc : chkOp P o.op (.mv x) = true) (h : (opF s (.mv x)).run s o.dst K) : Good P N B ρ s a w K o := by
  simp only [chkOp] at hc
  split at hc
  · rename_i y ho
    exact good_val hs hd (opd_R hs hc) (by simp [execOp, ho]) h
  · rename_i y ho
    exact good_val hs hd (opd_R hs hc) (by simp [execOp, ho]) h
  · cases hc
theorem pickV_R {n : Nat} {c : Bool} {u v : V} {x y : Value} (hu : R ρ n u x) (hv : R ρ n v y) : R ρ n (pickV c u v) (if c then x else y) := by
  unfold pickV
  split
  · simp only [R] at hu hv ⊢
    subst hu hv
    cases c <;> rfl
  · split
    · rename_i h
      simp only [decide_eq_true_eq] at h
      subst h
      simp only [R] at hu hv ⊢
      subst hu hv
      cases c <;> rfl
    · cases c
      · exact hv
      · exact hu
  · cases c
    · exact hv
    · exact hu
theorem good_pick {c x y : AO} (hs : RelS N B ρ s a w) (hd : ∀ e, o.dst = some e → e < N) (hc : chkOp P o.op (.pick c x y) = true) (h : (opF s (.pick c x y)).run s o.dst K) : Good P N B ρ s a w K o := by
  simp only [chkOp] at hc
  split at hc
  · rename_i c' x' y' ho
    simp only [Bool.and_eq_true] at hc
    have h1 := opd_R hs hc.1.1
    simp only [opF] at h
    split at h
    · rename_i b hb
      rw [hb] at h1
      simp only [R] at h1
      exact good_val hs hd (pickV_R (c := b) (opd_R hs hc.1.2) (opd_R hs hc.2)) (by simp [execOp, ho, h1, asBool]) h
    · exact h.elim
  · cases hc
theorem good_alloc {t : Nat} {z : List V} (hs : RelS N B ρ s a w) (hd : ∀ e, o.dst = some e → e < N) (hc : chkOp P o.op (.alloc t z) = true) (h : (opF s (.alloc t z)).run s o.dst K) : Good P N B ρ s a w K o := by
  simp only [chkOp] at hc
  split at hc
  · rename_i t' ho
    simp only [Bool.and_eq_true, decide_eq_true_eq] at hc
    obtain ⟨rfl, hz⟩ := hc
    unfold zeroOk at hz
    split at hz
    · rename_i i hi
      split at hz
      · rename_i v hv
        refine ⟨.pointer (some ⟨w.heap.size, 0, none⟩), w.alloc (.cells v.cells t'), .inl ?_, fin_var hs (cstL_RL hz) hd h.2⟩
        simp [execOp, ho, Instr.alloc, zeroValue, typeInfo, hi, hv, newVar, newRow]
      · cases hz
    · cases hz
  · cases hc
theorem cellsV_R {n : Nat} {v : V} {x : Value} (h : R ρ n v x) (h1 : allOne (cellsV v) = true) : RL ρ n (cellsV v) x.cells.toList := by
  cases v <;> simp only [cellsV, allOne, V.one, Bool.and_true] at h1 ⊢
  case agg cs =>
    simp only [R] at h
    obtain ⟨xs, rfl, h2⟩ := h
    exact h2
  all_goals first
    | (cases h1; done)
    | skip
  all_goals
    have hx : x.cells = #[x] := by
      have := h.one rfl
      cases x <;> first | rfl | (simp [Value.oneCell'] at this; done)
    rw [hx]
    simp only [RL]
    exact ⟨h, trivial⟩
theorem RL_one : ∀ {n : Nat} {vs : List V} {xs : List Value}, RL ρ n vs xs → allOne vs = true → ∀ x ∈ xs, x.oneCell' = true
  | _, [], [], _, _ => by simp
  | _, v :: vs, x :: xs, h, h1 => by
    simp only [RL] at h
    simp only [allOne, Bool.and_eq_true] at h1
    intro y hy
    rcases List.mem_cons.1 hy with rfl | hy
    · exact h.1.one h1.1
    · exact RL_one h.2 h1.2 y hy
  | _, [], _ :: _, h, _ => by simp [RL] at h
  | _, _ :: _, [], h, _ => by simp [RL] at h
theorem good_box {t : Nat} {y : AO} (hs : RelS N B ρ s a w) (hd : ∀ e, o.dst = some e → e < N) (hc : chkOp P o.op (.box t y) = true) (h : (opF s (.box t y)).run s o.dst K) : Good P N B ρ s a w K o := by
  simp only [chkOp] at hc
  split at hc
  · rename_i t' x' ho
    simp only [Bool.and_eq_true, decide_eq_true_eq] at hc
    obtain ⟨rfl, hx⟩ := hc
    simp only [opF] at h
    split at h
    · rename_i h1
      refine ⟨.pointer (some ⟨w.heap.size, 0, none⟩), w.alloc (.cells (a.eval x').cells t'), .inl ?_, fin_var hs (cellsV_R (opd_R hs hx) h1) hd h.2⟩
      simp [execOp, ho, Instr.box, newVar, newRow]
    · exact h.elim
  · cases hc
theorem takeN_eq {α : Type} : ∀ (n : Nat) (l r : List α), takeN n l = some r → r = l.take n ∧ n ≤ l.length
  | 0, l, r, h => by simp [takeN] at h; simp [← h]
  | n + 1, [], r, h => by simp [takeN] at h
  | n + 1, x :: l, r, h => by
    simp only [takeN] at h
    split at h
    · rename_i r' hr
      simp at h
      obtain ⟨h1, h2⟩ := takeN_eq n l r' hr
      subst h1
      simp [← h, h2]
    · cases h
theorem add_lit (b o j : Nat) : (⟨b, o, none⟩ : Addr).add j = ⟨b, o + j, none⟩ := by unfold Addr.add; split <;> simp_all
/-- The cells that a load reads. -/
theorem ldF_cells {n : Nat} {agg : Bool} {v : V} {x : Value} (hr : Rel B ρ s.nx s.hp w) (hv : R ρ s.nx v x) {d : Option Nat} {K : S → Prop} (h : (ldF s.hp n agg v).run s d K) :
    ∃ (ad : Addr) (l : List V) (xs : List Value), x = .pointer (some ad) ∧ l.length = n ∧ RL ρ s.nx l xs ∧ (∀ j u, xs[j]? = some u → w.cell? (ad.add j) = some u) ∧ K (s.put d (mkV agg l)) := by
  have rows : ∀ (E : ET) (l : List (den E)) (id e z f : Nat), id < s.nx → x = .pointer (some ⟨(ρ id).blk, (ρ id).off + (e * z + f), none⟩) →
      (∀ j q, (flat E l)[j]? = some q → w.cell? ⟨(ρ id).blk, (ρ id).off + j, none⟩ = some q.val) → (rowCells E l e z f n agg).run s d K →
      ∃ (ad : Addr) (l : List V) (xs : List Value), x = .pointer (some ad) ∧ l.length = n ∧ RL ρ s.nx l xs ∧ (∀ j u, xs[j]? = some u → w.cell? (ad.add j) = some u) ∧ K (s.put d (mkV agg l)) := by
    intro E l id e z f hid hx hcell h
    unfold rowCells at h
    split at h
    · rename_i hz
      simp only [decide_eq_true_eq] at hz
      obtain ⟨rfl, hf⟩ := hz
      simp only [OR.run, force_iff] at h
      obtain ⟨he, hK⟩ := h
      refine ⟨_, _, ((((enc E (l.getD e (dflt E))).drop f).take n).map Sc.val), hx, ?_, RL_scs _, ?_, hK⟩
      · simp [enc_length]
        omega
      · intro j u hj
        rw [add_lit]
        simp only [List.getElem?_map, Option.map_eq_some_iff] at hj
        obtain ⟨q, hq, rfl⟩ := hj
        rw [List.getElem?_take] at hq
        split at hq
        · rename_i hjn
          rw [List.getElem?_drop] at hq
          have := hcell (e * E.length + (f + j)) q (by rw [flat_get E l e (f + j) (by omega) he]; exact hq)
          rw [← this]
          congr 2
          omega
        · cases hq
    · exact h.elim
  cases v <;> simp only [ldF] at h <;> try exact h.elim
  rename_i id e z f
  simp only [R] at hv
  obtain ⟨hid, hx⟩ := hv
  have hob := hr.obj id hid
  generalize ho : s.hp id = ob at h hob
  cases ob with
  | no => exact h.elim
  | mp ka KE va VE m => exact h.elim
  | var t cs =>
    simp only [] at h
    split at h
    · rename_i l hl
      simp only [OR.run, force_iff] at h
      obtain ⟨rfl, hle⟩ := takeN_eq _ _ _ hl
      obtain ⟨_, h2, c, h3, h4⟩ := hob
      refine ⟨_, _, (c.toList.drop (e * z + f)).take n, hx, by simp at hle ⊢; omega, (h4.drop _).take _, ?_, h⟩
      intro j u hj
      rw [add_lit, h2]
      rw [List.getElem?_take] at hj
      split at hj
      · rw [List.getElem?_drop] at hj
        simp only [World.cell?, h3]
        simpa [Nat.add_assoc] using hj
      · cases hj
    · exact h.elim
  | rv cs =>
    simp only [] at h
    split at h
    · rename_i l hl
      simp only [OR.run, force_iff] at h
      obtain ⟨rfl, hle⟩ := takeN_eq _ _ _ hl
      obtain ⟨h2, c, t, h3, h4⟩ := hob
      have h4 : RL ρ s.nx cs c.toList := RL.mono (Nat.zero_le _) (fun i hi => by omega) _ _ h4
      refine ⟨_, _, (c.toList.drop (e * z + f)).take n, hx, by simp at hle ⊢; omega, (h4.drop _).take _, ?_, h⟩
      intro j u hj
      rw [add_lit, h2]
      rw [List.getElem?_take] at hj
      split at hj
      · rw [List.getElem?_drop] at hj
        simp only [World.cell?, h3]
        simpa [Nat.add_assoc] using hj
      · cases hj
    · exact h.elim
  | ro E l => exact rows E l id e z f hid hx hob.2.2.2.2 h
  | own t E l =>
    refine rows E l id e z f hid hx (fun j q hj => ?_) h
    obtain ⟨h1, h2, h3, h4⟩ := hob
    rcases h2.2 with ⟨hn, hl0⟩ | ⟨g, cap, cur, hv, _⟩
    · have : l = [] := List.eq_nil_of_length_eq_zero hl0
      subst this
      simp [flat] at hj
    · have hg : (ρ id).sv.ownBlock = some g := by rw [hv]; rfl
      have := h2.cells hg j q.val (by rw [List.getElem?_map, hj]; rfl)
      rw [add_lit] at this
      rw [h4 g hg, h3]
      exact this
theorem mkV_R {n m : Nat} {l : List V} {xs : List Value} (h : RL ρ n l xs) (hm : l.length = m) : R ρ n (mkV true l) (.agg xs.toArray) := by
  simp only [mkV, R]
  exact ⟨_, rfl, h⟩
theorem good_ld {n : Nat} {agg : Bool} {y : AO} (hs : RelS N B ρ s a w) (hd : ∀ e, o.dst = some e → e < N) (hc : chkOp P o.op (.ld n agg y) = true) (h : (opF s (.ld n agg y)).run s o.dst K) : Good P N B ρ s a w K o := by
  simp only [chkOp] at hc
  split at hc
  · rename_i t x' ho
    simp only [Bool.and_eq_true, decide_eq_true_eq, Bool.or_eq_true] at hc
    obtain ⟨⟨⟨hx, hsz⟩, hag⟩, hn⟩ := hc
    obtain ⟨ad, l, xs, he, hl, hRL, hcell, hK⟩ := ldF_cells hs.rel (opd_R hs hx) h
    have hlen := hRL.length
    unfold szOf at hsz
    simp only [Option.map_eq_some_iff] at hsz
    obtain ⟨i, hi, hin⟩ := hsz
    have hload : (loadCells ad n).run P w = .ok xs.toArray w := by
      rw [← hl, hlen]
      exact run_loadCells_list w ad xs hcell
    cases agg with
    | true =>
      have hagg : (isAgg t).run P w = .ok true w := by
        unfold aggOf at hag
        split at hag
        · rename_i fs hu; simp [isAgg, run_underlying hu]
        · rename_i m e hu; simp [isAgg, run_underlying hu]
        · simp at hag
        · simp at hag
      refine good_val hs hd (mkV_R hRL hl) ?_ (by rw [force_iff]; exact hK)
      simp [execOp, ho, Instr.loadAt, Instr.sureAddr, he, loadVar, hagg, sizeOf, typeInfo, hi, hin, hload]
    | false =>
      have hn1 : n = 1 := by simpa using hn
      subst hn1
      have hagg : (isAgg t).run P w = .ok false w := by
        unfold aggOf at hag
        split at hag
        · simp at hag
        · simp at hag
        · rename_i d h1 h2 hu
          cases d <;> first | (simp [isAgg, run_underlying hu]; done) | exact (h1 _ rfl).elim | exact (h2 _ _ rfl).elim
        · simp at hag
      match l, xs, hl, hRL, hcell, hK with
      | [v], [u], _, hRL, hcell, hK =>
        simp only [RL] at hRL
        refine good_val hs hd hRL.1 ?_ (by rw [force_iff]; exact hK)
        have := hcell 0 u rfl
        simp only [Addr.add, if_true] at this
        simp [execOp, ho, Instr.loadAt, Instr.sureAddr, he, loadVar, hagg, this]
      | [v], [], _, hRL, _, _ => simp [RL] at hRL
      | [v], _ :: _ :: _, _, hRL, _, _ => simp [RL] at hRL
  · cases hc
theorem good_nck {y : AO} (hs : RelS N B ρ s a w) (hd : ∀ e, o.dst = some e → e < N) (hc : chkOp P o.op (.nck y) = true) (h : (opF s (.nck y)).run s o.dst K) : Good P N B ρ s a w K o := by
  simp only [chkOp] at hc
  split at hc
  · rename_i x' ho
    have h1 := opd_R hs hc
    simp only [opF] at h
    split at h
    · rename_i id e z f hv
      rw [hv] at h1
      have h2 := h1
      simp only [R] at h2
      refine good_val hs hd h1 ?_ h
      simp [execOp, ho, h2.2]
    · rename_i f fs cs hv
      rw [hv] at h1
      have h2 := h1
      simp only [R] at h2
      obtain ⟨xs, ys, h3, _⟩ := h2
      refine good_val hs hd h1 ?_ h
      simp [execOp, ho, h3]
    · exact h.elim
  · cases hc
theorem intCmp_run (op : BinOp) (x y : Int) (w : World) (b : Bool) (h : (op = .eql ∧ b = (x == y)) ∨ (op = .neq ∧ b = (x != y)) ∨ (op = .lss ∧ b = decide (x < y)) ∨ (op = .leq ∧ b = decide (x ≤ y)) ∨ (op = .gtr ∧ b = decide (x > y)) ∨ (op = .geq ∧ b = decide (x ≥ y))) :
    (Op.intCmp op x y).run P w = .ok (.bool b) w := by
  rcases h with ⟨rfl, rfl⟩ | ⟨rfl, rfl⟩ | ⟨rfl, rfl⟩ | ⟨rfl, rfl⟩ | ⟨rfl, rfl⟩ | ⟨rfl, rfl⟩ <;> simp [Op.intCmp]
def tv : V → Value
  | .int k n => .int k n
  | .bool b => .bool b
  | _ => undef
def isS : V → Bool
  | .int _ _ => true
  | .bool _ => true
  | _ => false
theorem tv_R {n : Nat} {v : V} (h : isS v = true) : R ρ n v (tv v) := by cases v <;> simp_all [isS, tv, R]
theorem good_bin {op : BinOp} {x y : AO} (hs : RelS N B ρ s a w) (hd : ∀ e, o.dst = some e → e < N) (hc : chkOp P o.op (.bin op x y) = true) (h : (opF s (.bin op x y)).run s o.dst K) : Good P N B ρ s a w K o := by
  simp only [chkOp] at hc
  split at hc
  · rename_i op' t x' y' ty ho
    simp only [Bool.and_eq_true, decide_eq_true_eq] at hc
    obtain ⟨⟨⟨rfl, hx⟩, hy⟩, _⟩ := hc
    have h1 := opd_R hs hx
    have h2 := opd_R hs hy
    simp only [opF] at h
    unfold binF at h
    split at h
    · rename_i k p k' q hp hq
      rw [hp] at h1
      rw [hq] at h2
      simp only [R] at h1 h2
      have key : ∀ (c : Prop) (v : V), (OR.chk c v).run s o.dst K → (c → (binOp op' t (.int k p) (.int k' q)).run P w = .ok (tv v) w) → isS v = true → Good P N B ρ s a w K o := by
        intro c v hK hrun hz
        refine good_val hs hd (tv_R hz) ?_ hK.2
        have hg : (eqGuard op' t x' y' (.int k p) (.int k' q)).run P w = .ok () w := by
          unfold eqGuard
          cases op' <;> simp
        simp [execOp, ho, h1, h2, hg, hrun hK.1]
      have keyV : ∀ (v : V), (OR.val v).run s o.dst K → (binOp op' t (.int k p) (.int k' q)).run P w = .ok (tv v) w → isS v = true → Good P N B ρ s a w K o := by
        intro v hK hrun hz
        exact key True v ⟨trivial, hK⟩ (fun _ => hrun) hz
      split at h
      · refine key _ _ h (fun hc => ?_) rfl
        have : ¬ q < 0 := by omega
        simp [tv, binOp, Op.shift, this]
      · refine key _ _ h (fun hc => ?_) rfl
        have : ¬ q < 0 := by omega
        simp [tv, binOp, Op.shift, this]
      · rename_i hsl hsr
        split at h
        · rename_i hk
          simp only [decide_eq_true_eq] at hk
          subst hk
          unfold binI at h
          split at h
          · exact keyV _ h (by simp [tv, binOp, Op.intArith]) rfl
          · exact keyV _ h (by simp [tv, binOp, Op.intArith]) rfl
          · exact keyV _ h (by simp [tv, binOp, Op.intArith]) rfl
          · exact key _ _ h (fun hc => by simp [tv, binOp, Op.intDiv, hc]) rfl
          · exact key _ _ h (fun hc => by simp [tv, binOp, Op.intDiv, hc]) rfl
          · exact keyV _ h (by simp [tv, binOp, Op.intCmp]) rfl
          · exact keyV _ h (by simp [tv, binOp, Op.intCmp]) rfl
          · exact keyV _ h (by simp [tv, binOp, Op.intCmp]) rfl
          · exact keyV _ h (by simp [tv, binOp, Op.intCmp]) rfl
          · exact keyV _ h (by simp [tv, binOp, Op.intCmp]) rfl
          · exact keyV _ h (by simp [tv, binOp, Op.intCmp]) rfl
          · exact h.elim
          · exact h.elim
          · split at h
            · rename_i r hr
              refine keyV _ h ?_ rfl
              unfold bitsF at hr
              split at hr <;> first | (cases hr; simp [tv, binOp, Op.intBits]; done) | (simp at hr)
            · exact h.elim
        · exact h.elim
    · exact h.elim
  · cases hc
theorem run_binb (op : BinOp) (t : TypeId) (p q : Bool) (ht : P.underlying t = some .bool) (hop : op = .eql ∨ op = .neq) : (binOp op t (.bool p) (.bool q)).run P w = .ok (.bool (if op = .neq then !(p == q) else p == q)) w := by
  rcases hop with rfl | rfl <;> simp [binOp, run_equal_bool w t p q ht]
theorem boolTy_eq {t : TypeId} (h : boolTy P t = true) : P.underlying t = some .bool := by
  unfold boolTy at h
  split at h
  · assumption
  · cases h
theorem good_binb {neg : Bool} {x y : AO} (hs : RelS N B ρ s a w) (hd : ∀ e, o.dst = some e → e < N) (hc : chkOp P o.op (.binb neg x y) = true) (h : (opF s (.binb neg x y)).run s o.dst K) : Good P N B ρ s a w K o := by
  have key : ∀ (op : BinOp) (t : TypeId) (x' y' : Operand) (ty : TypeId), o.op = .binOp op t x' y' ty → (op = .eql ∧ neg = false ∨ op = .neq ∧ neg = true) → opd x' x = true → opd y' y = true → boolTy P t = true → Good P N B ρ s a w K o := by
    intro op t x' y' ty ho hop hx hy hb
    have h1 := opd_R hs hx
    have h2 := opd_R hs hy
    simp only [opF] at h
    split at h
    · rename_i p q hp hq
      rw [hp] at h1
      rw [hq] at h2
      simp only [R] at h1 h2
      have h : (OR.val (.bool (match neg with | true => !(p == q) | false => p == q))).run s o.dst K := by cases neg <;> exact h
      refine good_ok hs hd (x := .bool (if op = .neq then !(p == q) else p == q)) h ?_ ?_
      · rcases hop with ⟨rfl, rfl⟩ | ⟨rfl, rfl⟩ <;> simp [R]
      · have hg : (eqGuard op t x' y' (.bool p) (.bool q)).run P w = .ok () w := by
          unfold eqGuard
          cases op <;> simp
        have := run_binb (P := P) (w := w) op t p q (boolTy_eq hb) (by rcases hop with ⟨ho1, _⟩ | ⟨ho1, _⟩ <;> simp [ho1])
        simp [execOp, ho, h1, h2, hg, this]
    · exact h.elim
  simp only [chkOp] at hc
  split at hc
  · rename_i t x' y' ty ho
    simp only [Bool.and_eq_true, Bool.not_eq_true'] at hc
    exact key _ _ _ _ _ ho (.inl ⟨rfl, hc.2⟩) hc.1.1.1 hc.1.1.2 hc.1.2
  · rename_i t x' y' ty ho
    simp only [Bool.and_eq_true] at hc
    exact key _ _ _ _ _ ho (.inr ⟨rfl, hc.2⟩) hc.1.1.1 hc.1.1.2 hc.1.2
  · cases hc
theorem good_not {x : AO} (hs : RelS N B ρ s a w) (hd : ∀ e, o.dst = some e → e < N) (hc : chkOp P o.op (.not x) = true) (h : (opF s (.not x)).run s o.dst K) : Good P N B ρ s a w K o := by
  simp only [chkOp] at hc
  split at hc
  · rename_i t x' ho
    have h1 := opd_R hs hc
    simp only [opF] at h
    split at h
    · rename_i b hb
      rw [hb] at h1
      simp only [R] at h1
      exact good_ok hs hd h (tv_R rfl) (by simp [tv, execOp, ho, h1, Op.unary])
    · exact h.elim
  · cases hc
theorem good_neg {x : AO} (hs : RelS N B ρ s a w) (hd : ∀ e, o.dst = some e → e < N) (hc : chkOp P o.op (.neg x) = true) (h : (opF s (.neg x)).run s o.dst K) : Good P N B ρ s a w K o := by
  simp only [chkOp] at hc
  split at hc
  · rename_i t x' ho
    have h1 := opd_R hs hc
    simp only [opF] at h
    split at h
    · rename_i k n hb
      rw [hb] at h1
      simp only [R] at h1
      exact good_ok hs hd (x := .int k (k.wrap (0 - n))) h (by simp only [R]) (by simp [execOp, ho, h1, Op.unary, Op.intArith])
    · exact h.elim
  · cases hc
theorem good_cv {k : IntKind} {x : AO} (hs : RelS N B ρ s a w) (hd : ∀ e, o.dst = some e → e < N) (hc : chkOp P o.op (.cv k x) = true) (h : (opF s (.cv k x)).run s o.dst K) : Good P N B ρ s a w K o := by
  simp only [chkOp] at hc
  split at hc
  · rename_i sr ds x' ho
    simp only [Bool.and_eq_true, decide_eq_true_eq] at hc
    have h1 := opd_R hs hc.1.1
    simp only [opF] at h
    split at h
    · rename_i k' n hb
      rw [hb] at h1
      simp only [R] at h1
      obtain ⟨du, hdu⟩ := Option.isSome_iff_exists.mp hc.2
      have hk := hc.1.2
      unfold intOfType at hk
      split at hk
      · rename_i k2 hu
        cases hk
        refine good_ok hs hd (x := .int k (k.wrap n)) h (by simp only [R]) ?_
        simp [execOp, ho, h1, convert, run_underlying hdu, run_underlying hu, Conv.intToInt]
      · cases hk
    · exact h.elim
  · cases hc
theorem good_fa {x : AO} {off : Nat} (hs : RelS N B ρ s a w) (hd : ∀ e, o.dst = some e → e < N) (hc : chkOp P o.op (.fa x off) = true) (h : (opF s (.fa x off)).run s o.dst K) : Good P N B ρ s a w K o := by
  simp only [chkOp] at hc
  split at hc
  · rename_i st x' f ho
    simp only [Bool.and_eq_true] at hc
    have h1 := opd_R hs hc.1
    simp only [opF] at h
    split at h
    · rename_i id e z g hv
      rw [hv] at h1
      simp only [R] at h1
      have hf := hc.2
      split at hf
      · rename_i fs hu
        split at hf
        · rename_i fl hfl
          simp only [Bool.and_eq_true, decide_eq_true_eq] at hf
          obtain ⟨hoff, hsz⟩ := hf
          unfold szOf at hsz
          split at hsz
          · rename_i n hn
            simp only [Option.map_eq_some_iff] at hn
            obtain ⟨i, hi, hin⟩ := hn
            simp only [ne_eq, decide_eq_true_eq] at hsz
            refine good_ok hs hd (x := .pointer (some ⟨(ρ id).blk, (ρ id).off + (e * z + (g + off)), none⟩)) h (by simp only [R]; exact ⟨h1.1, trivial⟩) ?_
            have hsz' : ¬ i.size = 0 := by rw [hin]; exact hsz
            simp [execOp, ho, h1.2, Instr.fieldAt, run_underlying hu, hfl, Instr.sureAddr, fieldPlace, sizeOf, typeInfo, hi, hsz', add_lit, hoff, Nat.add_assoc]
          · cases hsz
        · cases hf
      · cases hf
    · exact h.elim
  · cases hc
theorem good_ext {x : AO} {i : Nat} (hs : RelS N B ρ s a w) (hd : ∀ e, o.dst = some e → e < N) (hc : chkOp P o.op (.ext x i) = true) (h : (opF s (.ext x i)).run s o.dst K) : Good P N B ρ s a w K o := by
  simp only [chkOp] at hc
  split at hc
  · rename_i x' i' ho
    simp only [Bool.and_eq_true, decide_eq_true_eq] at hc
    obtain ⟨hx, rfl⟩ := hc
    have h1 := opd_R hs hx
    simp only [opF] at h
    split at h
    · rename_i vs hv
      rw [hv] at h1
      simp only [R] at h1
      obtain ⟨xs, he, hl⟩ := h1
      split at h
      · rename_i v hi
        obtain ⟨u, hu, hR⟩ := hl.get _ _ hi
        refine good_val hs hd hR ?_ h
        have : xs[i']? = some u := by simpa using hu
        simp [execOp, ho, he, Instr.extract, this]
      · exact h.elim
    · exact h.elim
  · cases hc
theorem good_mkf {f : Nat} {fs cs : List AO} (hs : RelS N B ρ s a w) (hd : ∀ e, o.dst = some e → e < N) (hc : chkOp P o.op (.mkf f fs cs) = true) (h : (opF s (.mkf f fs cs)).run s o.dst K) : Good P N B ρ s a w K o := by
  simp only [chkOp] at hc
  split at hc
  · rename_i f' fs' cs' ho
    simp only [Bool.and_eq_true, decide_eq_true_eq] at hc
    obtain ⟨⟨rfl, h1⟩, h2⟩ := hc
    refine good_ok hs hd (x := .func (.func f') (fs'.map a.eval) (cs'.map a.eval)) h ?_ (by simp [execOp, ho, Instr.makeFunc])
    simp only [R]
    exact ⟨_, _, rfl, by simpa using opds_R hs h1, by simpa using opds_R hs h2⟩
  · cases hc
theorem good_mki {t : Nat} {x : AO} (hs : RelS N B ρ s a w) (hd : ∀ e, o.dst = some e → e < N) (hc : chkOp P o.op (.mki t x) = true) (h : (opF s (.mki t x)).run s o.dst K) : Good P N B ρ s a w K o := by
  simp only [chkOp] at hc
  split at hc
  · rename_i t' x' ho
    simp only [Bool.and_eq_true, decide_eq_true_eq] at hc
    obtain ⟨⟨rfl, hx⟩, hcn⟩ := hc
    refine good_ok hs hd (x := .iface t' (a.eval x')) h ?_ (by simp [execOp, ho, run_makeInterface w t' _ hcn])
    simp only [R]
    exact ⟨_, rfl, opd_R hs hx⟩
  · cases hc
theorem good_tas {t : Nat} {zs : List V} {x : AO} (hs : RelS N B ρ s a w) (hd : ∀ e, o.dst = some e → e < N) (hc : chkOp P o.op (.tas t zs x) = true) (h : (opF s (.tas t zs x)).run s o.dst K) : Good P N B ρ s a w K o := by
  simp only [chkOp] at hc
  split at hc
  · rename_i x' xt t' ho
    simp only [Bool.and_eq_true, decide_eq_true_eq] at hc
    obtain ⟨⟨⟨hx, rfl⟩, hu⟩, hz⟩ := hc
    have h1 := opd_R hs hx
    simp only [opF] at h
    obtain ⟨fs, hfs⟩ : ∃ fs, P.underlying t' = some (.struct fs) := by
      split at hu
      · rename_i fs hfs; exact ⟨fs, hfs⟩
      · cases hu
    obtain ⟨i, c, hi, hiz, hcs⟩ : ∃ i c, P.info? t' = some i ∧ i.zero = some (.agg c) ∧ cstL c.toList zs = true := by
      split at hz
      · rename_i i hi
        split at hz
        · rename_i c hiz; exact ⟨i, c, hi, hiz, hz⟩
        · cases hz
      · cases hz
    have hzr : (zeroValue t').run P w = .ok (.agg c) w := by simp [zeroValue, typeInfo, hi, hiz]
    have no : ∀ y, a.eval x' = y → (Instr.typeAssert y xt t' true).run P w = .ok (.tuple #[.agg c, .bool false]) w → (OR.val (.tup [.agg zs, .bool false])).run s o.dst K → Good P N B ρ s a w K o := by
      intro y hy hr h
      refine good_ok hs hd h ?_ (x := .tuple #[.agg c, .bool false]) (by simp [execOp, ho, hy, hr])
      simp only [R]
      refine ⟨_, rfl, ?_⟩
      simp only [RL, R]
      exact ⟨⟨c, rfl, cstL_RL hcs⟩, by simp⟩
    split at h
    · rename_i t2 v hv
      rw [hv] at h1
      simp only [R] at h1
      obtain ⟨y, he, hy⟩ := h1
      split at h
      · rename_i hb
        have := Nat.eq_of_beq_eq_true hb
        subst this
        refine good_ok hs hd h (x := .tuple #[y, .bool true]) ?_ (by simp [execOp, ho, he, Instr.typeAssert, run_underlying hfs])
        simp only [R]
        refine ⟨_, rfl, ?_⟩
        simp only [RL, R]
        exact ⟨hy, by simp⟩
      · rename_i hb
        have hne : ¬ t2 = t' := by
          intro e
          subst e
          simp at hb
        exact no _ he (by simp [Instr.typeAssert, run_underlying hfs, hne, hzr]) h
    · rename_i hv
      rw [hv] at h1
      simp only [R] at h1
      exact no _ h1 (by simp [Instr.typeAssert, run_underlying hfs, hzr]) h
    · exact h.elim
  · cases hc
theorem good_ifn {neg : Bool} {x : AO} (hs : RelS N B ρ s a w) (hd : ∀ e, o.dst = some e → e < N) (hc : chkOp P o.op (.ifn neg x) = true) (h : (opF s (.ifn neg x)).run s o.dst K) : Good P N B ρ s a w K o := by
  have eq_if : ∀ {t : TypeId} {ms : Array (String × TypeId)} (u : TypeId) (y : Value), P.underlying t = some (.interface ms) → (Op.equal t (.iface u y) .nilIface).run P w = .ok false w := by
    intro t ms u y hu
    have h : ∀ d : Nat, (Op.equalIn (d + 1) t (.iface u y) .nilIface).run P w = .ok false w := fun d => by simp [Op.equalIn, run_underlying hu]
    simp [Op.equal, Op.maxDepth, h 9999]
  have eq_nil : ∀ {t : TypeId} {ms : Array (String × TypeId)}, P.underlying t = some (.interface ms) → (Op.equal t .nilIface .nilIface).run P w = .ok true w := by
    intro t ms hu
    have h : ∀ d : Nat, (Op.equalIn (d + 1) t .nilIface .nilIface).run P w = .ok true w := fun d => by simp [Op.equalIn, run_underlying hu]
    simp [Op.equal, Op.maxDepth, h 9999]
  have ev : a.eval (.const .nilIface) = .nilIface := rfl
  simp only [chkOp] at hc
  split at hc
  · rename_i t x' yt ho
    simp only [Bool.and_eq_true, Bool.not_eq_true'] at hc
    obtain ⟨⟨hx, rfl⟩, hu⟩ := hc
    obtain ⟨ms, hms⟩ : ∃ ms, P.underlying t = some (.interface ms) := by
      split at hu
      · rename_i ms hms; exact ⟨ms, hms⟩
      · cases hu
    have h1 := opd_R hs hx
    simp only [opF] at h
    split at h
    · rename_i u v hv
      rw [hv] at h1
      simp only [R] at h1
      obtain ⟨y, he, _⟩ := h1
      exact good_ok hs hd h (tv_R rfl) (by simp [tv, execOp, ho, he, ev, binOp, eqGuard, eq_if u y hms])
    · rename_i hv
      rw [hv] at h1
      simp only [R] at h1
      exact good_ok hs hd h (tv_R rfl) (by simp [tv, execOp, ho, h1, ev, binOp, eqGuard, eq_nil hms])
    · exact h.elim
  · rename_i t x' yt ho
    simp only [Bool.and_eq_true, Bool.not_eq_true'] at hc
    obtain ⟨⟨hx, rfl⟩, hu⟩ := hc
    obtain ⟨ms, hms⟩ : ∃ ms, P.underlying t = some (.interface ms) := by
      split at hu
      · rename_i ms hms; exact ⟨ms, hms⟩
      · cases hu
    have h1 := opd_R hs hx
    simp only [opF] at h
    split at h
    · rename_i u v hv
      rw [hv] at h1
      simp only [R] at h1
      obtain ⟨y, he, _⟩ := h1
      exact good_ok hs hd h (tv_R rfl) (by simp [tv, execOp, ho, he, ev, binOp, eqGuard, eq_if u y hms])
    · rename_i hv
      rw [hv] at h1
      simp only [R] at h1
      exact good_ok hs hd h (tv_R rfl) (by simp [tv, execOp, ho, h1, ev, binOp, eqGuard, eq_nil hms])
    · exact h.elim
  · cases hc
end
end Go.Proofs.YtbolfnkgbjkbjaaGreat.AM
