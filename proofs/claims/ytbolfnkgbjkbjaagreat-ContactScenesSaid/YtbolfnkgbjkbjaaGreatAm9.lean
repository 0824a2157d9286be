/- The abstract machine, part 9: lists of operations, code, functions: what runs here, runs so in the model. -/
import Derived.Test.YtbolfnkgbjkbjaaGreatAm8m
set_option linter.unusedVariables false
set_option linter.unusedSimpArgs false
namespace Go.Proofs.YtbolfnkgbjkbjaaGreat.AM
open Go Go.RowKit

/-- What a call comes to, whether the callee has a body or is known to the model. -/
def Reach (P : Program) (f : Nat) (xs : Array Value) (w : World) (Q : Ending → World → Prop) : Prop :=
  ((callFunc f xs).run P w = .ok (.enter f xs) w ∧ Calls P f xs w Q) ∨ (∃ v w', (callFunc f xs).run P w = .ok (.value v) w' ∧ Q (.returned v) w')
def OutR (ρ : Nat → Bnd) (n : Nat) : Out → Ending → Prop
  | .ret v, .returned x => R ρ n v x
  | .pan v, .panicked chain => ∃ x, chain = [{ v := x, recovered := false }] ∧ R ρ n v x
  | _, _ => False
def ExtR (B : Nat) (ρ : Nat → Bnd) (n : Nat) (w : World) (ρ' : Nat → Bnd) (n' : Nat) (w' : World) : Prop := Agree ρ ρ' n ∧ n ≤ n' ∧ Below B w w'
theorem ExtR.refl (B : Nat) (ρ : Nat → Bnd) (n : Nat) (w : World) : ExtR B ρ n w ρ n w := ⟨fun _ _ => rfl, Nat.le_refl _, Below.refl _ _⟩
theorem ExtR.trans {B : Nat} {ρ ρ1 ρ2 : Nat → Bnd} {n n1 n2 : Nat} {w w1 w2 : World} (h : ExtR B ρ n w ρ1 n1 w1) (k : ExtR B ρ1 n1 w1 ρ2 n2 w2) : ExtR B ρ n w ρ2 n2 w2 :=
  ⟨fun i hi => (k.1 i (Nat.lt_of_lt_of_le hi h.2.1)).trans (h.1 i hi), Nat.le_trans h.2.1 k.2.1, h.2.2.trans k.2.2⟩
abbrev Spec := List V → (Nat → Ob) → Nat → (Out → (Nat → Ob) → Nat → Prop) → Prop
def EntryOk (P : Program) (f : Nat) (T : Spec) : Prop := ∀ (B : Nat) (ρ : Nat → Bnd) (n : Nat) (h : Nat → Ob) (w : World) (args : List V) (xs : List Value) (K : Out → (Nat → Ob) → Nat → Prop),
  Rel B ρ n h w → RL ρ n args xs → T args h n K → Reach P f xs.toArray w fun e w' => ∃ out ρ' n' h', K out h' n' ∧ OutR ρ' n' out e ∧ Rel B ρ' n' h' w' ∧ ExtR B ρ n w ρ' n' w'
def TabOk (P : Program) (T : Tab) : Prop := ∀ f, EntryOk P f (T f)
def AxR (ρ : Nat → Bnd) (n : Nat) : AX → Exit → Prop
  | .nrm, .normal => True
  | .ext i, .exit j => i = j
  | .ret, .ret => True
  | .pan v, .panic chain => ∃ x, chain = [{ v := x, recovered := false }] ∧ R ρ n v x
  | _, _ => False
def PostX (N B : Nat) (ρ : Nat → Bnd) (n : Nat) (w : World) (D : List Deferred) (Q : AX → S → Prop) : Exit → Act → World → Prop := fun e a' w' =>
  ∃ ρ' s' ax, AxR ρ' s'.nx ax e ∧ Q ax s' ∧ RelS N B ρ' s' a' w' ∧ ExtR B ρ n w ρ' s'.nx w' ∧ a'.defers = D
theorem ExtR.trans0 {B : Nat} {ρ ρ1 ρ2 : Nat → Bnd} {n n1 n2 : Nat} {w w1 w2 : World} (h : ExtR B ρ n w ρ1 n1 w1) (k : ExtR B ρ1 n w1 ρ2 n2 w2) : ExtR B ρ n w ρ2 n2 w2 :=
  ⟨fun i hi => (k.1 i hi).trans (h.1 i hi), k.2.1, h.2.2.trans k.2.2⟩
theorem ExtR.less {B : Nat} {ρ ρ1 : Nat → Bnd} {n n0 n1 : Nat} {w w1 : World} (hn : n0 ≤ n) (h : ExtR B ρ n w ρ1 n1 w1) : ExtR B ρ n0 w ρ1 n1 w1 :=
  ⟨fun i hi => h.1 i (Nat.lt_of_lt_of_le hi hn), Nat.le_trans hn h.2.1, h.2.2⟩
theorem PostX.ext {N B : Nat} {ρ ρ1 : Nat → Bnd} {n n1 : Nat} {w w1 : World} {D : List Deferred} {Q : AX → S → Prop} (h : ExtR B ρ n w ρ1 n1 w1) {e : Exit} {a' : Act} {w' : World} (hp : PostX N B ρ1 n w1 D Q e a' w') : PostX N B ρ n w D Q e a' w' := by
  obtain ⟨ρ', s', ax, h1, h2, h3, h4, h5⟩ := hp
  exact ⟨ρ', s', ax, h1, h2, h3, h.trans0 h4, h5⟩
theorem put_defers (a : Act) (d : Option Nat) (x : Value) : (a.put d x).defers = a.defers := by cases d <;> rfl
section
variable {P : Program} {T : Tab} {N B : Nat}
/-- One operation that is carried out. -/
theorem op1_ok (hT : TabOk P T) {ρ : Nat → Bnd} {s : S} {a : Act} {w : World} {o : Oper} {ao : AOper} (hs : RelS N B ρ s a w) (hd0 : o.dst = ao.d) (hd : ∀ e, o.dst = some e → e < N) (hc : chkOp P o.op ao.op = true)
    {K : S → Prop} {PQ : V → S → Prop} (h : runOp1 T ao K PQ s) {next : Act → World → Prop} {Q : Exit → Act → World → Prop}
    (hK : ∀ ρ' s' a' w', K s' → RelS N B ρ' s' a' w' → ExtR B ρ s.nx w ρ' s'.nx w' → a'.defers = a.defers → next a' w')
    (hP : ∀ ρ' s' a' w' v x, PQ v s' → RelS N B ρ' s' a' w' → ExtR B ρ s.nx w ρ' s'.nx w' → a'.defers = a.defers → R ρ' s'.nx v x → Q (.panic [{ v := x, recovered := false }]) a' w') :
    o.wp P a w next Q := by
  have plain : (opF s ao.op).runF s ao.d K → o.wp P a w next Q := by
    intro h
    rw [OR.runF_iff] at h
    rw [← hd0] at h
    obtain ⟨x, w', hrun, ρ', s', hk, hr, ha, hn, hb⟩ := op_good hs hd hc h
    unfold Oper.wp
    rcases hrun with hrun | ⟨hrun, rfl⟩
    · rw [hrun]
      exact hK ρ' s' _ w' hk hr ⟨ha, hn, hb⟩ (put_defers _ _ _)
    · rw [hrun]
      exact hK ρ' s' _ w' hk hr ⟨ha, hn, hb⟩ (put_defers _ _ _)
  unfold runOp1 at h
  split at h
  · rename_i f args hop
    rw [hop] at hc
    simp only [chkOp] at hc
    split at hc
    · rename_i c ho
      obtain ⟨callee, cargs, cty⟩ := c
      simp only [] at hc
      split at hc
      · rename_i f'
        simp only [Bool.and_eq_true] at hc
        have hf := opd_R hs hc.1
        have hargs := opds_R hs hc.2
        split at h
        · rename_i fi fs cs hfv
          rw [forceL_iff, forceN_iff] at h
          rw [hfv] at hf
          simp only [R] at hf
          obtain ⟨xs, ys, he, h1, h2⟩ := hf
          have hall := (h1.append hargs).append h2
          have hE := hT fi B ρ s.nx s.hp w _ _ _ hs.rel hall h
          have hres : (execOp a.eval o).run P w = (callFunc fi ((xs.toList ++ cargs.toList.map a.eval ++ ys.toList).toArray)).run P w := by
            have hxs : xs ++ cargs.map a.eval ++ ys = (xs.toList ++ cargs.toList.map a.eval ++ ys.toList).toArray := by
              apply Array.ext'
              simp
            rw [← hxs]
            simp [execOp, ho, resolve, Deferred.ofValue, he, invoke]
          unfold Oper.wp
          rw [hres]
          have fin : ∀ (e : Ending) (w'' : World), (∃ out ρ' n' h', (match out with
              | .ret v => forceV v fun v => putK s.sl h' n' ao.d v K
              | .pan v => PQ v ⟨s.sl, h', n'⟩) ∧ OutR ρ' n' out e ∧ Rel B ρ' n' h' w'' ∧ ExtR B ρ s.nx w ρ' n' w'') →
              (match e with
                | .returned v => next (a.put o.dst v) w''
                | .panicked chain => Q (.panic chain) a w''
                | .outgrown => LetsOut Q) := by
            rintro e w'' ⟨out, ρ', n', h', hk, ho', hr', hx'⟩
            cases out with
            | ret v =>
              cases e with
              | returned x =>
                simp only [forceV_iff, putK_iff] at hk
                rw [← hd0] at hk
                exact hK ρ' _ _ w'' hk (hs.put hx'.2.1 hx'.1 hr' ho' hd) (by rw [S.put_nx]; exact hx') (put_defers _ _ _)
              | panicked _ => exact ho'.elim
              | outgrown => exact ho'.elim
            | pan v =>
              cases e with
              | returned x => exact ho'.elim
              | panicked chain =>
                obtain ⟨x, rfl, hx⟩ := ho'
                exact hP ρ' ⟨s.sl, h', n'⟩ a w'' v x hk ⟨hr', fun t => R.mono hx'.2.1 hx'.1 _ _ (hs.sl t), hs.size⟩ hx' rfl hx
              | outgrown => exact ho'.elim
          rcases hE with ⟨hrun, hcalls⟩ | ⟨v, w', hrun, hq⟩
          · rw [hrun, Oper.upon_enter]
            exact hcalls.mono fun e w'' he => by
              have := fin e w'' he
              cases e <;> exact this
          · rw [hrun]
            exact fin _ _ hq
        · exact h.elim
      · cases hc
    · cases hc
  · rename_i x hop
    rw [hop] at hc
    simp only [chkOp] at hc
    split at hc
    · rename_i x' ho
      have hx := opd_R hs hc
      split at h
      · rename_i t v hv
        rw [hv] at hx
        have hx' := hx
        simp only [R] at hx'
        obtain ⟨y, he, _⟩ := hx'
        have hrun : (execOp a.eval o).run P w = .halt (.panic (a.eval x')) w := by
          simp [execOp, ho, Instr.panic, he]
        unfold Oper.wp
        rw [hrun, Oper.upon_panic]
        exact hP ρ s a w _ _ h hs (ExtR.refl _ _ _ _) rfl hx
      · exact h.elim
    · cases hc
  · exact plain h
/-- An operation with its guard. -/
theorem op_ok (hT : TabOk P T) {ops : Array Oper} {ρ : Nat → Bnd} {s : S} {a : Act} {w : World} {o : Oper} {ao : AOper} (hs : RelS N B ρ s a w) (hc : chkOper P ops.toList N o ao = true)
    {K : S → Prop} {PQ : V → S → Prop} (h : runOp T ao K PQ s) {next : Act → World → Prop} {Q : Exit → Act → World → Prop}
    (hK : ∀ ρ' s' a' w', K s' → RelS N B ρ' s' a' w' → ExtR B ρ s.nx w ρ' s'.nx w' → a'.defers = a.defers → next a' w')
    (hP : ∀ ρ' s' a' w' v x, PQ v s' → RelS N B ρ' s' a' w' → ExtR B ρ s.nx w ρ' s'.nx w' → a'.defers = a.defers → R ρ' s'.nx v x → Q (.panic [{ v := x, recovered := false }]) a' w') :
    if Region.wanted o (yielded ops a.tmps) then o.wp P a w next Q ∨ (o.asks P a w ∧ LetsOut Q) else next (a.put o.dst undef) w := by
  unfold chkOper at hc
  simp only [Bool.and_eq_true, decide_eq_true_eq] at hc
  obtain ⟨⟨⟨hd0, hdN⟩, hop⟩, hg⟩ := hc
  have hd : ∀ e, o.dst = some e → e < N := by
    intro e he
    rw [he] at hdN
    simpa using hdN
  have skip : K (s.put ao.d (.tup [])) → next (a.put o.dst undef) w := fun h =>
    hK ρ (s.put ao.d (.tup [])) _ w h (by rw [← hd0]; exact hs.put (Nat.le_refl _) (fun _ _ => rfl) hs.rel (by simp only [R]; exact ⟨#[], rfl, by simp [RL]⟩) hd) (by rw [S.put_nx]; exact ExtR.refl _ _ _ _) (put_defers _ _ _)
  unfold runOp at h
  cases hgo : o.guard with
  | none =>
    have hga : ao.g = none := by
      rw [hgo] at hg
      cases hga : ao.g with
      | none => rfl
      | some _ => rw [hga] at hg; simp at hg
    rw [hga] at h
    have : Region.wanted o (yielded ops a.tmps) = true := by simp [Region.wanted, hgo]
    rw [if_pos this]
    exact .inl (op1_ok hT hs hd0 hd hop h hK hP)
  | some gw =>
    obtain ⟨j, want⟩ := gw
    rw [hgo] at hg
    cases hga : ao.g with
    | none => rw [hga] at hg; simp at hg
    | some gw' =>
      obtain ⟨g, want'⟩ := gw'
      rw [hga] at hg h
      simp only [Bool.and_eq_true, decide_eq_true_eq] at hg
      obtain ⟨hdst, rfl⟩ := hg
      simp only [] at h
      split at h
      · rename_i b hb
        have hR := hs.sl g
        rw [hb] at hR
        simp only [R] at hR
        have hy : yielded ops a.tmps j = some b := by
          have hdst' : (ops[j]?).bind (·.dst) = some g := by simpa using hdst
          unfold yielded
          rw [hdst']
          have : a.tmps[g]? = some (.bool b) := by
            cases ht : a.tmps[g]? with
            | none => simp [Array.getD_eq_getD_getElem?, ht, undef] at hR
            | some y => simpa [Array.getD_eq_getD_getElem?, ht] using hR
          simp [this]
        have hw : Region.wanted o (yielded ops a.tmps) = (b == want) := by simp [Region.wanted, hgo, hy]
        rw [hw]
        cases want with
        | true =>
          simp only [] at h
          cases b with
          | true =>
            simp only [bcase] at h
            rw [st_self s g _ hb] at h
            exact .inl (op1_ok hT hs hd0 hd hop h hK hP)
          | false =>
            simp only [bcase] at h
            rw [upd_self _ _ _ hb] at h
            exact skip ((putK_iff _ _ _ _ _ _).1 h)
        | false =>
          simp only [] at h
          cases b with
          | true =>
            simp only [bcase] at h
            rw [upd_self _ _ _ hb] at h
            exact skip ((putK_iff _ _ _ _ _ _).1 h)
          | false =>
            simp only [bcase] at h
            rw [st_self s g _ hb] at h
            exact .inl (op1_ok hT hs hd0 hd hop h hK hP)
      · rename_i hb
        have hR := hs.sl g
        rw [hb] at hR
        simp only [R] at hR
        obtain ⟨xs, hR, hxs⟩ := hR
        have hxs : xs = #[] := by
          cases hl : xs.toList with
          | nil => exact Array.toList_eq_nil_iff.mp hl
          | cons _ _ => rw [hl] at hxs; simp [RL] at hxs
        subst hxs
        have hy : yielded ops a.tmps j = none := by
          have hdst' : (ops[j]?).bind (·.dst) = some g := by simpa using hdst
          unfold yielded
          rw [hdst']
          cases ht : a.tmps[g]? with
          | none => simp [ht]
          | some y =>
            have : y = .tuple #[] := by simpa [Array.getD_eq_getD_getElem?, ht] using hR
            simp [ht, this]
        have hw : Region.wanted o (yielded ops a.tmps) = false := by simp [Region.wanted, hgo, hy]
        rw [hw]
        exact skip ((putK_iff _ _ _ _ _ _).1 h)
      · exact h.elim
theorem ops_ok (hT : TabOk P T) {ops : Array Oper} {Q : Exit → Act → World → Prop} {K : S → Prop} {PQ : V → S → Prop} : ∀ (rest : List Oper) (l : List AOper) (i : Nat), ops.toList.drop i = rest → chkOps P ops.toList N rest l = true →
    ∀ {ρ : Nat → Bnd} {s : S} {a : Act} {w : World}, RelS N B ρ s a w → runOps T l K PQ s →
    (∀ ρ' s' a' w', K s' → RelS N B ρ' s' a' w' → ExtR B ρ s.nx w ρ' s'.nx w' → a'.defers = a.defers → Q .normal a' w') →
    (∀ ρ' s' a' w' v x, PQ v s' → RelS N B ρ' s' a' w' → ExtR B ρ s.nx w ρ' s'.nx w' → a'.defers = a.defers → R ρ' s'.nx v x → Q (.panic [{ v := x, recovered := false }]) a' w') →
    wpOps P ops Q (List.range' i rest.length) a w
  | [], [], i, _, _, ρ, s, a, w, hs, h, hK, hP => hK ρ s a w h hs (ExtR.refl _ _ _ _) rfl
  | o :: rest, ao :: l, i, hdr, hc, ρ, s, a, w, hs, h, hK, hP => by
    simp only [chkOps, Bool.and_eq_true] at hc
    have hi : ops[i]? = some o := by
      have : ops.toList[i]? = some o := by
        have := congrArg (·[0]?) hdr
        simpa using this
      simpa using this
    have hdr' : ops.toList.drop (i + 1) = rest := by
      have := congrArg (List.drop 1) hdr
      simpa [List.drop_drop, Nat.add_comm] using this
    simp only [List.length_cons, List.range'_succ, wpOps, hi]
    refine op_ok hT hs hc.1 h (fun ρ' s' a' w' hk hs' hx hd => ?_) hP
    refine ops_ok hT rest l (i + 1) hdr' hc.2 hs' hk (fun ρ2 s2 a2 w2 hk2 hs2 hx2 hd2 => hK ρ2 s2 a2 w2 hk2 hs2 (hx.trans hx2) (hd2.trans hd)) (fun ρ2 s2 a2 w2 v x hk2 hs2 hx2 hd2 hr => hP ρ2 s2 a2 w2 v x hk2 hs2 (hx.trans hx2) (hd2.trans hd) hr)
  | [], _ :: _, _, _, hc, _, _, _, _, _, _, _, _ => by simp [chkOps] at hc
  | _ :: _, [], _, _, hc, _, _, _, _, _, _, _, _ => by simp [chkOps] at hc
end
/-! ### Forgetting -/
mutual
theorem R.less {ρ : Nat → Bnd} {n n' : Nat} : ∀ (v : V) (x : Value), R ρ n v x → V.lt n' v = true → R ρ n' v x
  | .top, _, _, _ => by simp [R]
  | .int _ _, _, h, _ => by simpa [R] using h
  | .bool _, _, h, _ => by simpa [R] using h
  | .ptr id _ _ _, _, h, hl => by
    simp only [R] at h ⊢
    simp only [V.lt, Nat.blt_eq] at hl
    exact ⟨hl, h.2⟩
  | .nilp, _, h, _ => by simpa [R] using h
  | .sl id _ _ _, _, h, hl => by
    simp only [R] at h ⊢
    simp only [V.lt, Nat.blt_eq] at hl
    exact ⟨hl, h.2⟩
  | .osl id, _, h, hl => by
    simp only [R] at h ⊢
    simp only [V.lt, Nat.blt_eq] at hl
    exact ⟨hl, h.2⟩
  | .nsl, _, h, _ => by simpa [R] using h
  | .fn _ fs cs, _, h, hl => by
    simp only [R] at h ⊢
    simp only [V.lt, Bool.and_eq_true] at hl
    obtain ⟨xs, ys, h0, h1, h2⟩ := h
    exact ⟨xs, ys, h0, RL.less fs _ h1 hl.1, RL.less cs _ h2 hl.2⟩
  | .nfn, _, h, _ => by simpa [R] using h
  | .ifc _ v, _, h, hl => by
    simp only [R] at h ⊢
    simp only [V.lt] at hl
    obtain ⟨y, h0, h1⟩ := h
    exact ⟨y, h0, R.less v y h1 hl⟩
  | .nifc, _, h, _ => by simpa [R] using h
  | .nmp, _, h, _ => by simpa [R] using h
  | .mp id, _, h, hl => by
    simp only [R] at h ⊢
    exact ⟨by simpa [V.lt] using hl, h.2⟩
  | .agg cs, _, h, hl => by
    simp only [R] at h ⊢
    simp only [V.lt] at hl
    obtain ⟨xs, h0, h1⟩ := h
    exact ⟨xs, h0, RL.less cs _ h1 hl⟩
  | .tup cs, _, h, hl => by
    simp only [R] at h ⊢
    simp only [V.lt] at hl
    obtain ⟨xs, h0, h1⟩ := h
    exact ⟨xs, h0, RL.less cs _ h1 hl⟩
theorem RL.less {ρ : Nat → Bnd} {n n' : Nat} : ∀ (vs : List V) (xs : List Value), RL ρ n vs xs → V.lts n' vs = true → RL ρ n' vs xs
  | [], [], _, _ => by simp [RL]
  | v :: vs, x :: xs, h, hl => by
    simp only [RL] at h ⊢
    simp only [V.lts, Bool.and_eq_true] at hl
    exact ⟨R.less v x h.1 hl.1, RL.less vs xs h.2 hl.2⟩
  | [], _ :: _, h, _ => by simp [RL] at h
  | _ :: _, [], h, _ => by simp [RL] at h
end
theorem subV_look {s : S} {n : Nat} : ∀ (l : List (Nat × V)) (t : Nat), SubV s n l → lookV l t = .top ∨ (s.sl t = lookV l t ∧ V.lt n (lookV l t) = true)
  | [], t, _ => .inl rfl
  | (i, v) :: l, t, h => by
    simp only [SubV] at h
    simp only [lookV]
    cases e : Nat.beq t i with
    | true =>
      have := Nat.eq_of_beq_eq_true e
      subst this
      exact .inr ⟨h.1.1, h.1.2⟩
    | false => exact subV_look l t h.2
theorem subO_look {s : S} {n : Nat} : ∀ (obs : List Ob) (k i : Nat), SubO s n k obs → i < obs.length → (lookO obs i = .no ∨ s.hp (k + i) = lookO obs i) ∧ ObLt n (lookO obs i)
  | [], _, _, _, h => by simp at h
  | o :: obs, k, 0, h, _ => by
    simp only [SubO] at h
    exact ⟨h.1.1, h.1.2⟩
  | o :: obs, k, i + 1, h, hi => by
    simp only [SubO] at h
    have := subO_look obs (k + 1) i h.2 (by simpa using hi)
    simp only [lookO]
    rw [show k + (i + 1) = k + 1 + i by omega]
    exact this
theorem sub_rel {N B : Nat} {ρ : Nat → Bnd} {s : S} {a : Act} {w : World} (hs : RelS N B ρ s a w) {n0 : Nat} {l : List (Nat × V)} {obs : List Ob} (h : Sub n0 s l obs) : RelS N B ρ (St l obs) a w := by
  obtain ⟨_, hn, hv, ho⟩ := h
  have hob : ∀ i, i < obs.length → (lookO obs i = .no ∨ s.hp i = lookO obs i) ∧ ObLt obs.length (lookO obs i) := by
    intro i hi
    have := subO_look obs 0 i ho hi
    simpa using this
  refine ⟨⟨hs.rel.base, fun i hi => ?_, fun i j hi hj hij g hg hgj => ?_⟩, fun t => ?_, hs.size⟩
  · have hi' : i < obs.length := hi
    obtain ⟨h1, h2⟩ := hob i hi'
    show HR ρ obs.length B w (ρ i) (lookO obs i)
    rcases h1 with h1 | h1
    · rw [h1]; trivial
    · have := hs.rel.obj i (by omega)
      rw [h1] at this
      generalize lookO obs i = o at this h2
      cases o with
      | no => trivial
      | var t cs =>
        obtain ⟨a1, a2, c, a3, a4⟩ := this
        exact ⟨a1, a2, c, a3, RL.less cs _ a4 h2⟩
      | rv cs => exact this
      | ro E l => exact this
      | own t E l => exact this
      | mp ka KE va VE m => exact this
  · have hi' : i < obs.length := hi
    have hj' : j < obs.length := hj
    have e1 : wblk (ρ i) (s.hp i) = some g := by
      change wblk (ρ i) (lookO obs i) = some g at hg
      rcases (hob i hi').1 with h1 | h1
      · rw [h1] at hg; cases hg
      · rw [h1]; exact hg
    have e2 : ablk (ρ j) (s.hp j) = some g := by
      change ablk (ρ j) (lookO obs j) = some g at hgj
      rcases (hob j hj').1 with h1 | h1
      · rw [h1] at hgj; cases hgj
      · rw [h1]; exact hgj
    exact hs.rel.sep i j (by omega) (by omega) hij g e1 e2
  · show R ρ obs.length (lookV l t) _
    rcases subV_look l t hv with h1 | ⟨h1, h2⟩
    · rw [h1]; simp [R]
    · have := hs.sl t
      rw [h1] at this
      exact R.less _ _ this h2
theorem memB_mem (i : Nat) : ∀ l : List Nat, memB i l = true ↔ i ∈ l
  | [] => by simp [memB]
  | j :: l => by
    simp only [memB, Bool.or_eq_true, List.mem_cons, memB_mem i l]
    constructor
    · rintro (h | h)
      · exact .inl (Nat.eq_of_beq_eq_true h).symm
      · exact .inr h
    · rintro (h | h)
      · subst h; exact .inl (by simp)
      · exact .inr h
theorem rnm_eq : ∀ (fs : List Nat) (i : Nat) (h : i < fs.length), rnm fs i = fs[i]
  | k :: l, 0, _ => rfl
  | k :: l, i + 1, h => by simpa [rnm] using rnm_eq l i (by simpa using h)
theorem fndIds_length {n0 : Nat} {s : S} {l : List (Nat × V)} : ∀ n i, (fndIds n0 s l i n).length = n
  | 0, _ => rfl
  | n + 1, i => by simp [fndIds, fndIds_length n (i + 1)]
theorem fndIds_low {n0 : Nat} {s : S} {l : List (Nat × V)} : ∀ n i j, j < n → i + j < n0 → rnm (fndIds n0 s l i n) j = i + j
  | 0, _, _, h, _ => by omega
  | n + 1, i, 0, _, h => by
    have : Nat.blt i n0 = true := by rw [Nat.blt_eq]; omega
    simp [fndIds, rnm, this]
  | n + 1, i, j + 1, h, h2 => by
    show rnm (fndIds n0 s l (i + 1) n) j = i + (j + 1)
    rw [fndIds_low n (i + 1) j (by omega) (by omega)]
    omega
mutual
theorem eqVV_eq : ∀ (v w : V), eqVV v w → v = w
  | .int k a, w, h => by
    cases w <;> simp only [eqVV] at h
    split at h
    · rename_i e; rw [of_decide_eq_true e, h]
    · exact h.elim
  | .bool a, w, h => by cases w <;> simp only [eqVV] at h; rw [h]
  | .agg cs, w, h => by cases w <;> simp only [eqVV] at h; rw [eqVL_eq _ _ h]
  | .tup cs, w, h => by cases w <;> simp only [eqVV] at h; rw [eqVL_eq _ _ h]
  | .ptr i e s f, w, h => by
    cases w <;> simp only [eqVV] at h
    split at h
    · rename_i e
      simp only [Bool.and_eq_true] at e
      rw [Nat.eq_of_beq_eq_true e.1.1, Nat.eq_of_beq_eq_true e.1.2, Nat.eq_of_beq_eq_true e.2, h]
    · exact h.elim
  | .sl i a b s, w, h => by
    cases w <;> simp only [eqVV] at h
    split at h
    · rename_i e
      simp only [Bool.and_eq_true] at e
      rw [Nat.eq_of_beq_eq_true e.1, Nat.eq_of_beq_eq_true e.2, h.1, h.2]
    · exact h.elim
  | .osl i, w, h => by
    cases w <;> simp only [eqVV] at h
    split at h
    · rename_i e; rw [Nat.eq_of_beq_eq_true e]
    · exact h.elim
  | .mp i, w, h => by
    cases w <;> simp only [eqVV] at h
    split at h
    · rename_i e; rw [Nat.eq_of_beq_eq_true e]
    · exact h.elim
  | .fn f a b, w, h => by
    cases w <;> simp only [eqVV] at h
    split at h
    · rename_i e; rw [Nat.eq_of_beq_eq_true e, eqVL_eq _ _ h.1, eqVL_eq _ _ h.2]
    · exact h.elim
  | .ifc t v, w, h => by
    cases w <;> simp only [eqVV] at h
    split at h
    · rename_i e; rw [Nat.eq_of_beq_eq_true e, eqVV_eq _ _ h]
    · exact h.elim
  | .nilp, w, h => by cases w <;> simp only [eqVV] at h; rfl
  | .nsl, w, h => by cases w <;> simp only [eqVV] at h; rfl
  | .nfn, w, h => by cases w <;> simp only [eqVV] at h; rfl
  | .nifc, w, h => by cases w <;> simp only [eqVV] at h; rfl
  | .nmp, w, h => by cases w <;> simp only [eqVV] at h; rfl
  | .top, w, h => by cases w <;> simp only [eqVV] at h; rfl
theorem eqVL_eq : ∀ (v w : List V), eqVL v w → v = w
  | [], w, h => by cases w <;> simp only [eqVL] at h; rfl
  | v :: vs, w, h => by
    cases w <;> simp only [eqVL] at h
    rw [eqVV_eq _ _ h.1, eqVL_eq _ _ h.2]
end
theorem eqOO_eq (o o' : Ob) (h : eqOO o o') : o = o' := by
  cases o <;> cases o' <;> simp only [eqOO] at h
  · split at h
    · rename_i e; rw [Nat.eq_of_beq_eq_true e, eqVL_eq _ _ h]
    · exact h.elim
  · rw [eqVL_eq _ _ h]
  · split at h
    · rename_i e; subst e; rw [← h]; rfl
    · exact h.elim
  · split at h
    · rename_i e
      rw [Nat.eq_of_beq_eq_true e]
      split at h
      · rename_i e2; subst e2; rw [← h]; rfl
      · exact h.elim
    · exact h.elim
  · split at h
    · rename_i m2 e
      subst h
      exact mobj_eq e
    · exact h.elim
section
variable {ρ ρ' : Nat → Bnd} {n n' : Nat} {fs : List Nat}
mutual
theorem R.ren (ha : ∀ i, i < n' → ρ' i = ρ (rnm fs i)) : ∀ (v : V) (x : Value), R ρ n (renV fs v) x → V.lt n' v = true → R ρ' n' v x
  | .top, _, _, _ => by simp [R]
  | .int _ _, _, h, _ => by simpa [R, renV] using h
  | .bool _, _, h, _ => by simpa [R, renV] using h
  | .ptr id _ _ _, _, h, hl => by
    simp only [R, renV] at h ⊢
    simp only [V.lt, Nat.blt_eq] at hl
    rw [ha id hl]
    exact ⟨hl, h.2⟩
  | .nilp, _, h, _ => by simpa [R, renV] using h
  | .sl id _ _ _, _, h, hl => by
    simp only [R, renV] at h ⊢
    simp only [V.lt, Nat.blt_eq] at hl
    rw [ha id hl]
    exact ⟨hl, h.2⟩
  | .osl id, _, h, hl => by
    simp only [R, renV] at h ⊢
    simp only [V.lt, Nat.blt_eq] at hl
    rw [ha id hl]
    exact ⟨hl, h.2⟩
  | .nsl, _, h, _ => by simpa [R, renV] using h
  | .fn _ fs cs, _, h, hl => by
    simp only [R, renV] at h ⊢
    simp only [V.lt, Bool.and_eq_true] at hl
    obtain ⟨xs, ys, h0, h1, h2⟩ := h
    exact ⟨xs, ys, h0, RL.ren ha fs _ h1 hl.1, RL.ren ha cs _ h2 hl.2⟩
  | .nfn, _, h, _ => by simpa [R, renV] using h
  | .ifc _ v, _, h, hl => by
    simp only [R, renV] at h ⊢
    simp only [V.lt] at hl
    obtain ⟨y, h0, h1⟩ := h
    exact ⟨y, h0, R.ren ha v y h1 hl⟩
  | .nifc, _, h, _ => by simpa [R, renV] using h
  | .nmp, _, h, _ => by simpa [R, renV] using h
  | .mp id, _, h, hl => by
    simp only [R, renV] at h ⊢
    simp only [V.lt, Nat.blt_eq] at hl
    rw [ha id hl]
    exact ⟨hl, h.2⟩
  | .agg cs, _, h, hl => by
    simp only [R, renV] at h ⊢
    simp only [V.lt] at hl
    obtain ⟨xs, h0, h1⟩ := h
    exact ⟨xs, h0, RL.ren ha cs _ h1 hl⟩
  | .tup cs, _, h, hl => by
    simp only [R, renV] at h ⊢
    simp only [V.lt] at hl
    obtain ⟨xs, h0, h1⟩ := h
    exact ⟨xs, h0, RL.ren ha cs _ h1 hl⟩
theorem RL.ren (ha : ∀ i, i < n' → ρ' i = ρ (rnm fs i)) : ∀ (vs : List V) (xs : List Value), RL ρ n (renL fs vs) xs → V.lts n' vs = true → RL ρ' n' vs xs
  | [], [], _, _ => by simp [RL]
  | v :: vs, x :: xs, h, hl => by
    simp only [RL, renL] at h ⊢
    simp only [V.lts, Bool.and_eq_true] at hl
    exact ⟨R.ren ha v x h.1 hl.1, RL.ren ha vs xs h.2 hl.2⟩
  | [], _ :: _, h, _ => by simp [RL, renL] at h
  | _ :: _, [], h, _ => by simp [RL, renL] at h
end
end
theorem eqVs_look {s : S} {fs : List Nat} {n : Nat} : ∀ (l : List (Nat × V)) (t : Nat), eqVs s fs l → vltsB n l = true → lookV l t = .top ∨ (s.sl t = renV fs (lookV l t) ∧ V.lt n (lookV l t) = true)
  | [], t, _, _ => .inl rfl
  | (i, v) :: l, t, h, hl => by
    simp only [eqVs] at h
    simp only [vltsB, Bool.and_eq_true] at hl
    simp only [lookV]
    cases e : Nat.beq t i with
    | true =>
      have := Nat.eq_of_beq_eq_true e
      subst this
      exact .inr ⟨eqVV_eq _ _ h.1, hl.1⟩
    | false => exact eqVs_look l t h.2 hl.2
theorem eqOs_look {s : S} {fs : List Nat} : ∀ (obs : List Ob) (k i : Nat), eqOs s fs k obs → i < obs.length → isNo (lookO obs i) = true ∨ s.hp (rnm fs (k + i)) = renO fs (lookO obs i)
  | o :: l, k, 0, h, _ => by
    simp only [lookO]
    simp only [eqOs] at h
    split at h
    · rename_i e; exact .inl e
    · exact .inr (eqOO_eq _ _ h.1)
  | o :: l, k, i + 1, h, hi => by
    simp only [lookO]
    simp only [eqOs] at h
    have h2 : eqOs s fs (k + 1) l := by
      split at h
      · exact h
      · exact h.2
    have := eqOs_look l (k + 1) i h2 (by simpa using hi)
    rwa [show k + 1 + i = k + (i + 1) by omega] at this
theorem olts_look {n : Nat} : ∀ (obs : List Ob) (i : Nat), oltsB n obs = true → oltB n (lookO obs i) = true
  | [], i, _ => by simp [lookO, oltB]
  | o :: l, 0, h => by
    simp only [oltsB, Bool.and_eq_true] at h
    exact h.1
  | o :: l, i + 1, h => by
    simp only [oltsB, Bool.and_eq_true] at h
    exact olts_look l i h.2
theorem keep_mem : ∀ (fs : List Nat) (obs : List Ob) (i : Nat), i < obs.length → i < fs.length → isNo (lookO obs i) = false → rnm fs i ∈ keepB fs obs
  | k :: fs, o :: l, 0, _, _, h => by
    simp only [lookO] at h
    simp [keepB, h, rnm]
  | k :: fs, o :: l, i + 1, h1, h2, h => by
    simp only [lookO] at h
    have := keep_mem fs l i (by simpa using h1) (by simpa using h2) h
    simp only [keepB, rnm]
    cases isNo o
    · exact List.mem_cons_of_mem _ this
    · exact this
  | [], _, _, _, h, _ => by simp at h
  | _ :: _, [], _, h, _, _ => by simp at h
theorem keep_inj : ∀ (fs : List Nat) (obs : List Ob), nodupB (keepB fs obs) = true → ∀ i j, i < obs.length → j < obs.length → i < fs.length → j < fs.length → isNo (lookO obs i) = false → isNo (lookO obs j) = false → rnm fs i = rnm fs j → i = j
  | k :: fs, o :: l, h, 0, 0, _, _, _, _, _, _, _ => rfl
  | k :: fs, o :: l, h, 0, j + 1, _, h2, _, h4, h5, h6, e => by
    simp only [lookO] at h5 h6
    simp only [keepB, h5, cond_false, nodupB, Bool.and_eq_true, Bool.not_eq_true', ← Bool.not_eq_true, memB_mem] at h
    simp only [rnm] at e
    exact (h.1 (e ▸ keep_mem fs l j (by simpa using h2) (by simpa using h4) h6)).elim
  | k :: fs, o :: l, h, i + 1, 0, h1, _, h3, _, h5, h6, e => by
    simp only [lookO] at h5 h6
    simp only [keepB, h6, cond_false, nodupB, Bool.and_eq_true, Bool.not_eq_true', ← Bool.not_eq_true, memB_mem] at h
    simp only [rnm] at e
    exact (h.1 (e ▸ keep_mem fs l i (by simpa using h1) (by simpa using h3) h5)).elim
  | k :: fs, o :: l, h, i + 1, j + 1, h1, h2, h3, h4, h5, h6, e => by
    simp only [lookO] at h5 h6
    simp only [rnm] at e
    have h' : nodupB (keepB fs l) = true := by
      simp only [keepB] at h
      cases ho : isNo o
      · simp only [ho, cond_false, nodupB, Bool.and_eq_true] at h
        exact h.2
      · simpa only [ho, cond_true] using h
    have := keep_inj fs l h' i j (by simpa using h1) (by simpa using h2) (by simpa using h3) (by simpa using h4) h5 h6 e
    omega
  | [], _, _, _, _, _, _, h, _, _, _, _ => by simp at h
  | _ :: _, [], _, _, _, h, _, _, _, _, _, _ => by simp at h
theorem subq_n0 {n0 : Nat} {s : S} {l : List (Nat × V)} {obs : List Ob} (h : SubQ n0 s l obs) : n0 ≤ obs.length := by
  unfold SubQ at h
  rw [forceI_iff] at h
  split at h
  · rename_i e
    simp only [Bool.and_eq_true] at e
    exact Nat.le_of_ble_eq_true e.1.1.1.1
  · exact h.elim
theorem subq_rel {N B : Nat} {ρ : Nat → Bnd} {s : S} {a : Act} {w : World} (hs : RelS N B ρ s a w) {n0 : Nat} {l : List (Nat × V)} {obs : List Ob} (h : SubQ n0 s l obs) : ∃ ρ', RelS N B ρ' (St l obs) a w ∧ Agree ρ ρ' n0 := by
  have hn0 := subq_n0 h
  unfold SubQ at h
  rw [forceI_iff] at h
  split at h
  case h_2 => exact h.elim
  rename_i e
  simp only [Bool.and_eq_true, List.all_eq_true, Nat.blt_eq] at e
  obtain ⟨⟨⟨⟨_, hall⟩, hnd⟩, hvl⟩, hol⟩ := e
  obtain ⟨hv, ho⟩ := h
  have hlen : (fndIds n0 s l 0 obs.length).length = obs.length := fndIds_length _ _
  have hlow : ∀ i, i < n0 → rnm (fndIds n0 s l 0 obs.length) i = i := fun i hi => by
    have := fndIds_low (n0 := n0) (s := s) (l := l) obs.length 0 i (by omega) (by omega)
    simpa using this
  generalize fndIds n0 s l 0 obs.length = fs at *
  have hb : ∀ i, i < obs.length → rnm fs i < s.nx := fun i hi => by
    rw [rnm_eq fs i (by omega)]
    exact hall _ (List.getElem_mem _)
  have hob : ∀ i, i < obs.length → isNo (lookO obs i) = true ∨ s.hp (rnm fs i) = renO fs (lookO obs i) := fun i hi => by
    have := eqOs_look obs 0 i ho hi
    simpa using this
  refine ⟨fun i => ρ (rnm fs i), ⟨⟨hs.rel.base, fun i hi => ?_, fun i j hi hj hij g hg hgj => ?_⟩, fun t => ?_, hs.size⟩, fun i hi => by simp only [hlow i hi]⟩
  · have hi' : i < obs.length := hi
    show HR _ obs.length B w (ρ (rnm fs i)) (lookO obs i)
    have h2 := olts_look obs i hol
    rcases hob i hi' with h1 | h1
    · cases h3 : lookO obs i <;> simp [h3, isNo] at h1
      trivial
    · have := hs.rel.obj _ (hb i hi')
      rw [h1] at this
      generalize lookO obs i = o at this h2
      cases o with
      | no => trivial
      | var t cs =>
        obtain ⟨a1, a2, c, a3, a4⟩ := this
        exact ⟨a1, a2, c, a3, RL.ren (fun _ _ => rfl) cs _ a4 h2⟩
      | rv cs =>
        obtain ⟨a2, c, ty, a3, a4⟩ := this
        exact ⟨a2, c, ty, a3, RL.mono (Nat.le_refl 0) (fun i hi => absurd hi (Nat.not_lt_zero i)) cs _ a4⟩
      | ro E l => exact this
      | own t E l => exact this
      | mp ka KE va VE m => exact this
  · have hi' : i < obs.length := hi
    have hj' : j < obs.length := hj
    change wblk (ρ (rnm fs i)) (lookO obs i) = some g at hg
    change ablk (ρ (rnm fs j)) (lookO obs j) = some g at hgj
    have wr : ∀ (b : Bnd) (o : Ob), wblk b (renO fs o) = wblk b o := by intro b o; cases o <;> rfl
    have ar : ∀ (b : Bnd) (o : Ob), ablk b (renO fs o) = ablk b o := by intro b o; cases o <;> rfl
    have ni : isNo (lookO obs i) = false := by
      cases h : lookO obs i <;> first | rfl | (rw [h] at hg; cases hg)
    have nj : isNo (lookO obs j) = false := by
      cases h : lookO obs j <;> first | rfl | (rw [h] at hgj; cases hgj)
    have e1 : wblk (ρ (rnm fs i)) (s.hp (rnm fs i)) = some g := by
      rcases hob i hi' with h1 | h1
      · rw [h1] at ni; cases ni
      · rw [h1, wr]; exact hg
    have e2 : ablk (ρ (rnm fs j)) (s.hp (rnm fs j)) = some g := by
      rcases hob j hj' with h1 | h1
      · rw [h1] at nj; cases nj
      · rw [h1, ar]; exact hgj
    exact hs.rel.sep _ _ (hb i hi') (hb j hj') (fun he => hij (keep_inj fs obs hnd i j hi' hj' (by omega) (by omega) ni nj he)) g e1 e2
  · show R _ obs.length (lookV l t) _
    rcases eqVs_look l t hv hvl with h1 | ⟨h1, h2⟩
    · rw [h1]; simp [R]
    · have := hs.sl t
      rw [h1] at this
      exact R.ren (fun _ _ => rfl) _ _ this h2
/-- A loop, its measure no function of the frame. -/
theorem wp_loopN {P : Program} {Q : Exit → Act → World → Prop} {c : Code} (I : Nat → Act → World → Prop) (round : ∀ m a w, I m a w → c.wp P (Exit.then (fun a' w' => ∃ m', m' < m ∧ I m' a' w') Q) a w)
    {m : Nat} {a : Act} {w : World} (h₀ : I m a w) : (Code.loop c).wp P Q a w := by
  intro b k cs
  have key : ∀ n a w, I n a w → ∃ e a' w', Q e a' w' ∧ Arrives P (lone (b.at a (.code c :: .inLoop c :: k)) cs w) b k cs e a' w' := by
    intro n
    induction n using Nat.strongRecOn with
    | _ n ih =>
      intro a w hI
      obtain ⟨e, a₁, w₁, hq, harr⟩ := round n a w hI b (.inLoop c :: k) cs
      cases e with
      | normal =>
        obtain ⟨m', hlt, hI₁⟩ := hq
        obtain ⟨e₂, a₂, w₂, hq₂, harr₂⟩ := ih m' hlt a₁ w₁ hI₁
        exact ⟨e₂, a₂, w₂, hq₂, .of_steps (Steps.trans harr (.one step_inLoop)) harr₂⟩
      | exit id => exact ⟨_, a₁, w₁, hq, .pass (x := .inLoop c) rfl (fun _ _ => .inl (by simp)) harr⟩
      | goto l => exact ⟨_, a₁, w₁, hq, .pass (x := .inLoop c) rfl (fun _ _ => .inl (by simp)) harr⟩
      | ret => exact ⟨_, a₁, w₁, hq, .pass (x := .inLoop c) rfl (fun _ _ => .inl (by simp)) harr⟩
      | panic ch => exact ⟨_, a₁, w₁, hq, .pass (x := .inLoop c) rfl (fun _ _ => .inl (by simp)) harr⟩
      | outgrown => exact ⟨_, a₁, w₁, hq, .pass (x := .inLoop c) rfl (fun _ _ => .inl (by simp)) harr⟩
  obtain ⟨e, a', w', hq, harr⟩ := key m a w h₀
  exact ⟨e, a', w', hq, .of_steps (.one step_loop) harr⟩
end Go.Proofs.YtbolfnkgbjkbjaaGreat.AM
