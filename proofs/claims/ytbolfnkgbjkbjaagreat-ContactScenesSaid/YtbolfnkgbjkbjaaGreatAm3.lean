/- The abstract machine, part 3: the check of its code against the model's code; each operation's step is right. -/
import Derived.Test.YtbolfnkgbjkbjaaGreatAm2
set_option linter.unusedVariables false
set_option linter.unusedSimpArgs false
namespace Go.Proofs.YtbolfnkgbjkbjaaGreat.AM
open Go Go.RowKit

/-! ### The check -/
def cst : Value → V → Bool
  | .int k n, .int k' n' => decide (k = k') && decide (n = n')
  | .bool b, .bool b' => b == b'
  | .pointer none, .nilp => true
  | .slice none n c, .nsl => decide (n = 0) && decide (c = 0)
  | .nilFunc, .nfn => true
  | .nilIface, .nifc => true
  | .map none, .nmp => true
  | _, _ => false
theorem cst_R {ρ : Nat → Bnd} {n : Nat} {x : Value} {v : V} (h : cst x v = true) : R ρ n v x := by
  unfold cst at h
  split at h <;> simp [R] at h ⊢
  · exact ⟨h.1.symm ▸ rfl, h.2⟩
  · exact h
  · exact h
def cstL : List Value → List V → Bool
  | [], [] => true
  | x :: xs, v :: vs => cst x v && cstL xs vs
  | _, _ => false
theorem cstL_RL {ρ : Nat → Bnd} {n : Nat} : ∀ {xs : List Value} {vs : List V}, cstL xs vs = true → RL ρ n vs xs
  | [], [], _ => by simp [RL]
  | x :: xs, v :: vs, h => by
    simp only [cstL, Bool.and_eq_true] at h
    simp only [RL]
    exact ⟨cst_R h.1, cstL_RL h.2⟩
  | [], _ :: _, h => by simp [cstL] at h
  | _ :: _, [], h => by simp [cstL] at h
def opd : Operand → AO → Bool
  | .tmp t, .t n => decide (t = n)
  | .const x, .c v => cst x v
  | .const (.agg xs), _ => false
  | .func f, .f n => decide (f = n)
  | _, _ => false
def opds : List Operand → List AO → Bool
  | [], [] => true
  | x :: xs, y :: ys => opd x y && opds xs ys
  | _, _ => false
def szOf (P : Program) (t : TypeId) : Option Nat := (P.info? t).map (·.size)
def aggOf (P : Program) (t : TypeId) : Option Bool := match P.underlying t with
  | some (.struct _) => some true
  | some (.array _ _) => some true
  | some _ => some false
  | none => none
def zeroOk (P : Program) (t : TypeId) (z : List V) : Bool := match P.info? t with
  | some i => match i.zero with
    | some v => cstL v.cells.toList z
    | none => false
  | none => false
def intOfType (P : Program) (t : TypeId) : Option IntKind := match P.underlying t with
  | some (.int k) => some k
  | _ => none
def boolTy (P : Program) (t : TypeId) : Bool := match P.underlying t with
  | some .bool => true
  | _ => false
def sliceElem (P : Program) (t : TypeId) : Option TypeId := match P.underlying t with
  | some (.slice e) => some e
  | _ => none
/-- Where the part number i of a type lies. -/
def placeOf (P : Program) (t : TypeId) (i : Nat) : Option (Nat × Nat) := match P.underlying t with
  | some (.struct fs) => match fs[i]? with
    | some f => match P.info? f.type with
      | some j => some (f.offset, j.size)
      | none => none
    | none => none
  | some (.array _ e) => match P.info? e with
    | some j => some (i * j.size, j.size)
    | none => none
  | some (.slice e) => match P.info? e with
    | some j => some (i * j.size, j.size)
    | none => none
  | _ => none
def fieldsKnown (P : Program) (t : TypeId) : Bool := match P.underlying t with
  | some (.struct fs) => fs.toList.all fun f => (P.info? f.type).isSome
  | some (.array _ e) => (P.info? e).isSome
  | _ => true
def partsOk (P : Program) (t : TypeId) : List (Nat × Operand) → List (Nat × Nat × AO) → Bool
  | [], [] => true
  | (i, x) :: r, (off, size, y) :: r' => decide (placeOf P t i = some (off, size)) && opd x y && partsOk P t r r'
  | _, _ => false
/-- A type of scalars alone, its cells one behind the other. -/
def flatFs (P : Program) (g : TypeId → Option ET) : Nat → List Field → Option ET
  | _, [] => some []
  | off, f :: fs => match g f.type with
    | some m => match flatFs P g (off + m.length) fs with
      | some r => if f.offset = off ∧ f.name ≠ "_" ∧ szOf P f.type = some m.length then some (m ++ r) else none
      | none => none
    | none => none
def flatTy (P : Program) : Nat → TypeId → Option ET
  | 0, _ => none
  | d + 1, t => match P.underlying t with
    | some (.int k) => some [.int k]
    | some .bool => some [.bool]
    | some (.struct fs) => if P.stoodInHeld t = false then flatFs P (flatTy P d) 0 fs.toList else none
    | some (.array n e) => match flatTy P d e with
      | some m => if szOf P e = some m.length then some (List.replicate n m).flatten else none
      | none => none
    | _ => none
def eqOk (P : Program) (t : TypeId) (ks : ET) : Bool := decide (flatTy P 6 t = some ks) && !(P.eqGuardType P.depth t) && decide (aggOf P t = some true)
/-- A map's key and value. -/
def mapOk (P : Program) (t : TypeId) (ka : Bool) (KE : ET) (va : Bool) (VE : ET) : Bool := match P.underlying t with
  | some (.map k e) => decide (flatTy P 6 k = some KE) && decide (aggOf P k = some ka) && decide (aggOf P e = some va) && (match P.info? e with
    | some i => match i.zero with
      | some v => cst v (mkV va ((enc VE (dflt VE)).map Sc.toV))
      | none => false
    | none => false)
  | _ => false
def elemOk (P : Program) (e : TypeId) (E : ET) : Bool := decide (szOf P e = some E.length) && decide (0 < E.length)
def optOpd : Option Operand → Option AO → Bool
  | none, none => true
  | some x, some y => opd x y
  | _, _ => false
def chkOp (P : Program) (op : Op) : AOp → Bool
  | .mv y => match op with
    | .move x => opd x y
    | .assign x => opd x y
    | _ => false
  | .mvn t E => match op with
    | .move (.const (.slice none n c)) => decide (n = 0 ∧ c = 0)
    | .assign (.const (.slice none n c)) => decide (n = 0 ∧ c = 0)
    | _ => false
  | .pick c a b => match op with
    | .pick c' a' b' => opd c' c && opd a' a && opd b' b
    | _ => false
  | .alloc t z => match op with
    | .alloc t' => decide (t' = t) && zeroOk P t z
    | _ => false
  | .box t x => match op with
    | .box t' x' => decide (t' = t) && opd x' x
    | _ => false
  | .ld n agg x => match op with
    | .load t a => opd a x && decide (szOf P t = some n) && decide (aggOf P t = some agg) && (agg || decide (n = 1))
    | _ => false
  | .st n a x => match op with
    | .store t a' x' => opd a' a && opd x' x && decide (szOf P t = some n)
    | _ => false
  | .nck x => match op with
    | .nilCheck x' => opd x' x
    | _ => false
  | .bin o x y => match op with
    | .binOp o' t x' y' _ => decide (o' = o) && opd x' x && opd y' y && (intOfType P t).isSome
    | _ => false
  | .binb neg x y => match op with
    | .binOp .eql t x' y' _ => opd x' x && opd y' y && boolTy P t && !neg
    | .binOp .neq t x' y' _ => opd x' x && opd y' y && boolTy P t && neg
    | _ => false
  | .eqa neg ks x y => match op with
    | .binOp .eql t x' y' _ => opd x' x && opd y' y && eqOk P t ks && !neg
    | .binOp .neq t x' y' _ => opd x' x && opd y' y && eqOk P t ks && neg
    | _ => false
  | .not x => match op with
    | .unOp .not _ x' => opd x' x
    | _ => false
  | .neg x => match op with
    | .unOp .neg _ x' => opd x' x
    | _ => false
  | .cv k x => match op with
    | .convert s d x' => opd x' x && decide (intOfType P d = some k) && (P.underlying s).isSome
    | _ => false
  | .fa x off => match op with
    | .fieldAddr s x' f => opd x' x && (match P.underlying s with
      | some (.struct fs) => match fs[f]? with
        | some fl => decide (fl.offset = off) && (match szOf P fl.type with
          | some n => decide (n ≠ 0)
          | none => false)
        | none => false
      | _ => false)
    | _ => false
  | .fld x off n agg => match op with
    | .field s x' f => opd x' x && (match P.underlying s with
      | some (.struct fs) => match fs[f]? with
        | some fl => decide (fl.offset = off) && decide (szOf P fl.type = some n) && decide (aggOf P fl.type = some agg) && (agg || decide (n = 1))
        | none => false
      | _ => false)
    | _ => false
  | .ia x i z => match op with
    | .indexAddr t x' i' => opd x' x && opd i' i && (match P.underlying t with
      | some (.slice e) => decide (szOf P e = some z)
      | _ => false)
    | _ => false
  | .iaa x i len z => match op with
    | .indexAddr t x' i' => opd x' x && opd i' i && (match P.underlying t with
      | some (.array n e) => decide (n = len) && decide (szOf P e = some z)
      | _ => false)
    | _ => false
  | .ixs l i => match op with
    | .index t (.const (.string b)) i' => opd i' i && (match P.underlying t with
      | some .string => decide (b.data.toList.map UInt8.toNat = l)
      | _ => false)
    | _ => false
  | .ixa x i len z agg => match op with
    | .index t x' i' => opd x' x && opd i' i && (match P.underlying t with
      | some (.array n e) => decide (n = len) && decide (szOf P e = some z) && decide (aggOf P e = some agg) && (agg || decide (z = 1))
      | _ => false)
    | _ => false
  | .ext x i => match op with
    | .extract x' i' => opd x' x && decide (i' = i)
    | _ => false
  | .mkf f fs cs => match op with
    | .makeFunc (.func f') fs' cs' => decide (f' = f) && opds fs'.toList fs && opds cs'.toList cs
    | _ => false
  | .mki t x => match op with
    | .makeInterface t' x' => decide (t' = t) && opd x' x && P.concrete t
    | _ => false
  | .tas t zs x => match op with
    | .typeAssert x' _ t' true => opd x' x && decide (t' = t) && (match P.underlying t with
      | some (.struct _) => true
      | _ => false) && (match P.info? t with
      | some i => match i.zero with
        | some (.agg c) => cstL c.toList zs
        | _ => false
      | none => false)
    | _ => false
  | .ifn neg x => match op with
    | .binOp .eql t x' (.const .nilIface) _ => opd x' x && !neg && (match P.underlying t with
      | some (.interface _) => true
      | _ => false)
    | .binOp .neq t x' (.const .nilIface) _ => opd x' x && neg && (match P.underlying t with
      | some (.interface _) => true
      | _ => false)
    | _ => false
  | .bld z ps => match op with
    | .build t parts => zeroOk P t z && fieldsKnown P t && partsOk P t parts.toList ps && (match P.underlying t with
      | some (.struct _) => true
      | some (.array _ _) => true
      | _ => false)
    | _ => false
  | .bsl t E len z ps => match op with
    | .buildSlice t' len' parts => decide (sliceElem P t' = some t) && elemOk P t E && decide (len' = len) && decide (len * E.length ≤ 1000) && partsOk P t' parts.toList ps &&
      (match P.info? t with
       | some i => match i.zero with
         | some v => cstL ((Array.range (len * E.length)).map (v.cells[· % v.cells.size]!)).toList z
         | none => false
       | none => false)
    | _ => false
  | .msl t E bytes z x c => match op with
    | .makeSlice t' x' c' => decide (sliceElem P t' = some t) && elemOk P t E && opd x' x && opd c' c && (match P.info? t with
       | some i => decide (i.bytes = bytes) && decide (0 < bytes) && (match i.zero with
         | some v => cstL v.cells.toList ((enc E z).map Sc.toV)
         | none => false)
       | none => false)
    | _ => false
  | .slc x lo hi z => match op with
    | .slice t x' lo' hi' none => opd x' x && optOpd lo' lo && optOpd hi' hi && (match P.underlying t with
      | some (.slice e) => decide (szOf P e = some z)
      | _ => false)
    | _ => false
  | .len x => match op with
    | .call c => (match c.callee, c.args.toList, c.argTypes.toList with
      | .builtin .len, [x'], [t] => opd x' x && (sliceElem P t).isSome
      | _, _, _ => false)
    | _ => false
  | .app t E bytes x y => match op with
    | .call c => (match c.callee, c.args.toList, c.argTypes.toList with
      | .builtin .append, [x', y'], [t1, t2] => opd x' x && opd y' y && decide (t1 = t2) && decide (sliceElem P t1 = some t) && elemOk P t E && (match P.info? t with
        | some i => decide (i.bytes = bytes) && decide (0 < bytes) && (match i.zero with
          | some v => decide (v.cells.size = E.length)
          | none => false)
        | none => false)
      | _, _, _ => false)
    | _ => false
  | .mx mn x y => match op with
    | .call c => (match c.callee, c.args.toList with
      | .builtin .max, [x', y'] => opd x' x && opd y' y && !mn
      | .builtin .min, [x', y'] => opd x' x && opd y' y && mn
      | _, _ => false)
    | _ => false
  | .mkm ka KE va VE => match op with
    | .makeMap t none => true
    | _ => false
  | .mlk ka KE va VE ok x k => match op with
    | .lookup t x' k' ok' => opd x' x && opd k' k && decide (ok' = ok) && mapOk P t ka KE va VE
    | _ => false
  | .mup ka KE va VE x k v => match op with
    | .mapUpdate t x' k' v' => opd x' x && opd k' k && opd v' v && mapOk P t ka KE va VE
    | _ => false
  | .call f args => match op with
    | .call c => (match c.callee with
      | .value f' => opd f' f && opds c.args.toList args
      | _ => false)
    | _ => false
  | .pan x => match op with
    | .panic x' => opd x' x
    | _ => false
  | .no => true
def chkOper (P : Program) (ops : List Oper) (N : Nat) (o : Oper) (ao : AOper) : Bool :=
  decide (o.dst = ao.d) && (match o.dst with
    | some d => decide (d < N)
    | none => true) && chkOp P o.op ao.op && (match o.guard, ao.g with
    | none, none => true
    | some (j, want), some (g, want') => decide ((ops[j]?).bind (·.dst) = some g) && decide (want = want')
    | _, _ => false)
def chkOps (P : Program) (ops : List Oper) (N : Nat) : List Oper → List AOper → Bool
  | [], [] => true
  | o :: l, a :: m => chkOper P ops N o a && chkOps P ops N l m
  | _, _ => false

/-! ### States -/
structure RelS (N B : Nat) (ρ : Nat → Bnd) (s : S) (a : Act) (w : World) : Prop where
  rel : Rel B ρ s.nx s.hp w
  sl : ∀ t, R ρ s.nx (s.sl t) (a.tmps.getD t undef)
  size : a.tmps.size = N
theorem opd_R {N B : Nat} {ρ : Nat → Bnd} {s : S} {a : Act} {w : World} (hs : RelS N B ρ s a w) {x : Operand} {y : AO} (h : opd x y = true) : R ρ s.nx (rd s y) (a.eval x) := by
  unfold opd at h
  split at h
  · simp only [decide_eq_true_eq] at h
    subst h
    exact hs.sl _
  · exact cst_R h
  · cases h
  · simp only [decide_eq_true_eq] at h
    subst h
    simp only [rd, Act.eval, R]
    exact ⟨#[], #[], rfl, by simp [RL], by simp [RL]⟩
  · cases h
theorem opds_R {N B : Nat} {ρ : Nat → Bnd} {s : S} {a : Act} {w : World} (hs : RelS N B ρ s a w) : ∀ {xs : List Operand} {ys : List AO}, opds xs ys = true → RL ρ s.nx (ys.map (rd s)) (xs.map a.eval)
  | [], [], _ => by simp [RL]
  | x :: xs, y :: ys, h => by
    simp only [opds, Bool.and_eq_true] at h
    simp only [List.map_cons, RL]
    exact ⟨opd_R hs h.1, opds_R hs h.2⟩
  | [], _ :: _, h => by simp [opds] at h
  | _ :: _, [], h => by simp [opds] at h
/-- A slot is written. -/
theorem RelS.put {N B : Nat} {ρ ρ' : Nat → Bnd} {s : S} {a : Act} {w w' : World} {h' : Nat → Ob} {n' : Nat} (hs : RelS N B ρ s a w) (hn : s.nx ≤ n') (ha : Agree ρ ρ' s.nx)
    (hr : Rel B ρ' n' h' w') {v : V} {x : Value} (hv : R ρ' n' v x) {d : Option Nat} (hd : ∀ e, d = some e → e < N) : RelS N B ρ' (S.put ⟨s.sl, h', n'⟩ d v) (a.put d x) w' := by
  cases d with
  | none => exact ⟨hr, fun t => R.mono hn ha _ _ (hs.sl t), hs.size⟩
  | some d =>
    refine ⟨hr, fun t => ?_, by simpa [Act.put] using hs.size⟩
    simp only [S.put, Act.put]
    by_cases ht : t = d
    · subst ht
      have hlt : t < a.tmps.size := by rw [hs.size]; exact hd t rfl
      simpa [upd_same, Array.getD_eq_getD_getElem?, hlt] using hv
    · rw [upd_ne _ _ _ ht]
      have : (a.tmps.setIfInBounds d x).getD t undef = a.tmps.getD t undef := by
        simp [Array.getD_eq_getD_getElem?, Array.getElem?_setIfInBounds_ne (Ne.symm ht)]
      rw [this]
      exact R.mono hn ha _ _ (hs.sl t)
/-- What a step comes to. -/
def After (N B : Nat) (ρ : Nat → Bnd) (s : S) (w : World) (K : S → Prop) (a' : Act) (w' : World) : Prop :=
  ∃ ρ' s', K s' ∧ RelS N B ρ' s' a' w' ∧ Agree ρ ρ' s.nx ∧ s.nx ≤ s'.nx ∧ Below B w w'
/-- A new block of cells. -/
theorem Rel.alloc {B : Nat} {ρ : Nat → Bnd} {n : Nat} {h : Nat → Ob} {w : World} (hr : Rel B ρ n h w) (obj : Obj) : Rel B ρ n h (w.alloc obj) := by
  refine ⟨?_, fun i hi => ?_, hr.sep⟩
  · have := hr.base
    simp only [World.alloc, Array.size_push]
    omega
  · have hb := hr.obj i hi
    generalize ho : h i = o at hb
    cases o with
    | no => trivial
    | var t cs =>
      obtain ⟨h1, h2, c, h3, h4⟩ := hb
      exact ⟨h1, h2, c, by rw [Below.heap_alloc _ _ _ (Array.getElem?_eq_some_iff.1 h3).1]; exact h3, h4⟩
    | rv cs =>
      obtain ⟨h2, c, t, h3, h4⟩ := hb
      exact ⟨h2, c, t, by rw [Below.heap_alloc _ _ _ (Array.getElem?_eq_some_iff.1 h3).1]; exact h3, h4⟩
    | ro E l =>
      obtain ⟨h0, h1, h2, h3, h4⟩ := hb
      refine ⟨h0, h1, h2, h3, fun j s hj => ?_⟩
      have := h4 j s hj
      rw [← this]
      exact World.cell?_of_block (w := w) (Below.heap_alloc _ _ _ (World.block_lt_of_cell? w _ this))
    | own t E l => exact ⟨hb.1, hb.2.1.alloc obj, hb.2.2⟩
    | mp ka KE va VE m =>
      obtain ⟨h1, es, h3, h4⟩ := hb
      exact ⟨h1, es, by rw [Below.heap_alloc _ _ _ (Array.getElem?_eq_some_iff.1 h3).1]; exact h3, h4⟩
/-- A new object. -/
theorem Rel.new {B : Nat} {ρ : Nat → Bnd} {n : Nat} {h : Nat → Ob} {w w' : World} (hr : Rel B ρ n h w) {b : Bnd} {o : Ob} (hb : HR (upd ρ n b) (n + 1) B w' b o)
    (hsz : w.heap.size ≤ w'.heap.size) (hkeep : ∀ k, k < w.heap.size → w'.heap[k]? = w.heap[k]?) (hf : ∀ g, ablk b o = some g → w.heap.size ≤ g) : Rel B (upd ρ n b) (n + 1) (upd h n o) w' := by
  have hw : ∀ g, wblk b o = some g → w.heap.size ≤ g := by
    intro g hg
    apply hf
    cases o <;> simp_all [wblk, ablk]
  have hlt : ∀ i, i < n → ∀ g, ablk (ρ i) (h i) = some g → g < w.heap.size := fun i hi g hg => (hr.obj i hi).lt g hg
  have hwl : ∀ i, i < n → ∀ g, wblk (ρ i) (h i) = some g → g < w.heap.size := by
    intro i hi g hg
    apply hlt i hi
    generalize h i = o' at hg
    cases o' <;> simp_all [wblk, ablk]
  refine ⟨Nat.le_trans hr.base hsz, fun i hi => ?_, fun i j hi hj hij g hg => ?_⟩
  · by_cases e : i = n
    · subst e
      rw [upd_same, upd_same]
      exact hb
    · rw [upd_ne _ _ _ e, upd_ne _ _ _ e]
      exact (hr.obj i (by omega)).keep (Nat.le_succ n) (agree_upd ρ n b) fun g hg => hkeep g (hlt i (by omega) g hg)
  · by_cases e : i = n
    · subst e
      rw [upd_same, upd_same] at hg
      rw [upd_ne _ _ _ (Ne.symm hij), upd_ne _ _ _ (Ne.symm hij)]
      intro hj'
      have := hlt j (by omega) g hj'
      have := hw g hg
      omega
    · rw [upd_ne _ _ _ e, upd_ne _ _ _ e] at hg
      by_cases e' : j = n
      · subst e'
        rw [upd_same, upd_same]
        intro hj'
        have := hwl i (by omega) g hg
        have := hf g hj'
        omega
      · rw [upd_ne _ _ _ e', upd_ne _ _ _ e']
        exact hr.sep i j (by omega) (by omega) hij g hg
section
variable {P : Program} {N B : Nat} {ρ : Nat → Bnd} {s : S} {a : Act} {w : World} {K : S → Prop}
theorem fin_val (hs : RelS N B ρ s a w) {v : V} {x : Value} (hv : R ρ s.nx v x) {d : Option Nat} (hd : ∀ e, d = some e → e < N) (h : force v fun v => K (s.put d v)) : After N B ρ s w K (a.put d x) w := by
  rw [force_iff] at h
  exact ⟨ρ, s.put d v, h, hs.put (Nat.le_refl _) (fun _ _ => rfl) hs.rel hv hd, fun _ _ => rfl, by cases d <;> exact Nat.le_refl _, Below.refl _ _⟩
theorem S.put_nx (s : S) (d : Option Nat) (v : V) : (s.put d v).nx = s.nx := by cases d <;> rfl
theorem fin_var (hs : RelS N B ρ s a w) {t : Nat} {cs : List V} {c : Array Value} (hc : RL ρ s.nx cs c.toList) {d : Option Nat} (hd : ∀ e, d = some e → e < N)
    (h : K (S.put ⟨s.sl, upd s.hp s.nx (.var t cs), s.nx + 1⟩ d (.ptr s.nx 0 0 0))) : After N B ρ s w K (a.put d (.pointer (some ⟨w.heap.size, 0, none⟩))) (w.alloc (.cells c t)) := by
  let b : Bnd := { blk := w.heap.size, off := 0, a := none, len := 0, cap := 0 }
  have hr : Rel B (upd ρ s.nx b) (s.nx + 1) (upd s.hp s.nx (.var t cs)) (w.alloc (.cells c t)) := by
    refine hs.rel.new (b := b) ⟨hs.rel.base, rfl, c, heap_alloc_new w _, RL.mono (Nat.le_succ _) (agree_upd _ _ _) _ _ hc⟩ (by simp) (fun k hk => Below.heap_alloc _ _ _ hk) ?_
    intro g hg
    simp only [ablk, Option.some.injEq] at hg
    subst hg
    exact Nat.le_refl _
  refine ⟨upd ρ s.nx b, _, h, hs.put (Nat.le_succ _) (agree_upd _ _ _) hr ?_ hd, agree_upd _ _ _, by rw [S.put_nx]; exact Nat.le_succ _, (Below.refl _ _).alloc hs.rel.base _⟩
  simp only [R, upd_same]
  exact ⟨by omega, by simp [b]⟩
end
end Go.Proofs.YtbolfnkgbjkbjaaGreat.AM
