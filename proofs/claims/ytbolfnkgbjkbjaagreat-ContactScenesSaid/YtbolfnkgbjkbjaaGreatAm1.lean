/- The abstract machine, part 1: abstract values and their relation to the model's values; abstract heaps. Generic: nothing of one program stands here. -/
import Derived.WalkKit
import Derived.Laws.AppendOwn
import Derived.Below
import Derived.KernelRfl
set_option linter.unusedVariables false
set_option linter.unusedSimpArgs false
namespace Go.Proofs.YtbolfnkgbjkbjaaGreat.AM
open Go Go.RowKit

/-- A scalar cell. -/
inductive Sc where
  | int (k : IntKind) (n : Int)
  | bool (b : Bool)
def Sc.val : Sc → Value
  | .int k n => .int k n
  | .bool b => .bool b
theorem Sc.val_one (s : Sc) : s.val.oneCell' = true := by cases s <;> rfl

/-- The kind of a scalar cell. -/
inductive SK where
  | int (k : IntKind)
  | bool
  deriving DecidableEq
abbrev SK.den : SK → Type
  | .int _ => Int
  | .bool => Bool
def SK.sc : (k : SK) → k.den → Sc
  | .int k, n => .int k n
  | .bool, b => .bool b
def SK.un : (k : SK) → Sc → Option k.den
  | .int k, .int k' n => if k = k' then some n else none
  | .bool, .bool b => some b
  | _, _ => none
def SK.dflt : (k : SK) → k.den
  | .int _ => (0 : Int)
  | .bool => false
theorem SK.sc_un (k : SK) (s : Sc) (x : k.den) (h : k.un s = some x) : k.sc x = s := by
  cases k <;> cases s <;> simp [SK.un] at h
  · obtain ⟨h1, rfl⟩ := h
    simp [SK.sc, h1]
  · subst h
    rfl

/-- An element's type: its cells' kinds. -/
abbrev ET := List SK
abbrev den : ET → Type
  | [] => Unit
  | [k] => k.den
  | k :: k' :: r => k.den × den (k' :: r)
def enc : (E : ET) → den E → List Sc
  | [], _ => []
  | [k], x => [k.sc x]
  | k :: k' :: r, x => k.sc x.1 :: enc (k' :: r) x.2
def dec : (E : ET) → List Sc → Option (den E)
  | [], [] => some ()
  | [k], [s] => k.un s
  | k :: k' :: r, s :: ss => match k.un s, dec (k' :: r) ss with
    | some a, some b => some (a, b)
    | _, _ => none
  | _, _ => none
def dflt : (E : ET) → den E
  | [] => ()
  | [k] => k.dflt
  | k :: k' :: r => (k.dflt, dflt (k' :: r))
theorem enc_length : ∀ (E : ET) (x : den E), (enc E x).length = E.length
  | [], _ => rfl
  | [k], _ => rfl
  | k :: k' :: r, x => by simp [enc, enc_length (k' :: r) x.2]
theorem enc_dec : ∀ (E : ET) (ss : List Sc) (x : den E), dec E ss = some x → enc E x = ss
  | [], [], x, _ => rfl
  | [k], [s], x, h => by simp only [dec] at h; simp [enc, SK.sc_un k s x h]
  | k :: k' :: r, s :: ss, x, h => by
    simp only [dec] at h
    split at h
    · rename_i a b ha hb
      cases h
      simp only [enc]
      rw [SK.sc_un k s _ ha, enc_dec (k' :: r) ss _ hb]
    · cases h
  | [], _ :: _, _, h => by simp [dec] at h
  | [_], [], _, h => by simp [dec] at h
  | [_], _ :: _ :: _, _, h => by simp [dec] at h
  | _ :: _ :: _, [], _, h => by simp [dec] at h

/-- The cells of a row. -/
def flat (E : ET) (l : List (den E)) : List Sc := l.flatMap (enc E)
theorem flat_length (E : ET) (l : List (den E)) : (flat E l).length = l.length * E.length := by
  induction l with
  | nil => simp [flat]
  | cons x l ih => simp only [flat, List.flatMap_cons, List.length_append, List.length_cons] at *; rw [ih, enc_length, Nat.add_mul]; omega
theorem flat_append (E : ET) (l m : List (den E)) : flat E (l ++ m) = flat E l ++ flat E m := by simp [flat]
theorem flat_get (E : ET) : ∀ (l : List (den E)) (e f : Nat), f < E.length → e < l.length → (flat E l)[e * E.length + f]? = (enc E (l.getD e (dflt E)))[f]?
  | [], _, _, _, h => by simp at h
  | x :: l, 0, f, hf, _ => by
    simp only [flat, List.flatMap_cons, Nat.zero_mul, Nat.zero_add, List.getD_cons_zero]
    rw [List.getElem?_append_left (by rw [enc_length]; exact hf)]
  | x :: l, e + 1, f, hf, h => by
    simp only [flat, List.flatMap_cons, List.getD_cons_succ]
    rw [List.getElem?_append_right (by rw [enc_length, Nat.add_mul]; omega), enc_length]
    have := flat_get E l e f hf (by simpa using h)
    rw [← this]
    simp only [flat]
    congr 1
    rw [Nat.add_mul]
    omega

/-- Abstract values. Blocks are named by numbers of our own. -/
inductive V where
  | top
  | int (k : IntKind) (n : Int)
  | bool (b : Bool)
  | ptr (id e s f : Nat)
  | nilp
  | sl (id lo len s : Nat)
  | osl (id : Nat)
  | nsl
  | fn (f : Nat) (fs cs : List V)
  | nfn
  | ifc (t : Nat) (v : V)
  | nifc
  | agg (cs : List V)
  | tup (cs : List V)
  | mp (id : Nat)
  | nmp
  deriving Inhabited
def Sc.toV : Sc → V
  | .int k n => .int k n
  | .bool b => .bool b
/-- What a block of ours is, in the model's memory: where it begins, and (of a slice) its value. -/
structure Bnd where
  blk : Nat
  off : Nat
  a : Option Addr
  len : Nat
  cap : Nat
  deriving Inhabited
def Bnd.sv (b : Bnd) : Value := .slice b.a b.len b.cap
mutual
def R (ρ : Nat → Bnd) (n : Nat) : V → Value → Prop
  | .top, _ => True
  | .int k i, x => x = .int k i
  | .bool b, x => x = .bool b
  | .ptr id e s f, x => id < n ∧ x = .pointer (some ⟨(ρ id).blk, (ρ id).off + (e * s + f), none⟩)
  | .nilp, x => x = .pointer none
  | .sl id lo len s, x => id < n ∧ ∃ a cap, x = .slice a len cap ∧ len ≤ cap ∧ (0 < len → a = some ⟨(ρ id).blk, (ρ id).off + lo * s, none⟩)
  | .osl id, x => id < n ∧ x = (ρ id).sv
  | .nsl, x => x = .slice none 0 0
  | .fn f fs cs, x => ∃ xs ys : Array Value, x = .func (.func f) xs ys ∧ RL ρ n fs xs.toList ∧ RL ρ n cs ys.toList
  | .nfn, x => x = .nilFunc
  | .ifc t v, x => ∃ y, x = .iface t y ∧ R ρ n v y
  | .nifc, x => x = .nilIface
  | .agg cs, x => ∃ xs : Array Value, x = .agg xs ∧ RL ρ n cs xs.toList
  | .tup cs, x => ∃ xs : Array Value, x = .tuple xs ∧ RL ρ n cs xs.toList
  | .mp id, x => id < n ∧ x = .map (some (ρ id).blk)
  | .nmp, x => x = .map none
def RL (ρ : Nat → Bnd) (n : Nat) : List V → List Value → Prop
  | [], [] => True
  | v :: vs, x :: xs => R ρ n v x ∧ RL ρ n vs xs
  | _, _ => False
end
def Agree (ρ ρ' : Nat → Bnd) (n : Nat) : Prop := ∀ i, i < n → ρ' i = ρ i
mutual
theorem R.mono {ρ ρ' : Nat → Bnd} {n n' : Nat} (hn : n ≤ n') (ha : Agree ρ ρ' n) : ∀ (v : V) (x : Value), R ρ n v x → R ρ' n' v x
  | .top, _, _ => by simp [R]
  | .int _ _, _, h => by simpa [R] using h
  | .bool _, _, h => by simpa [R] using h
  | .ptr id _ _ _, _, h => by
    simp only [R] at h ⊢
    rw [ha id h.1]
    exact ⟨Nat.lt_of_lt_of_le h.1 hn, h.2⟩
  | .nilp, _, h => by simpa [R] using h
  | .sl id _ _ _, _, h => by
    simp only [R] at h ⊢
    rw [ha id h.1]
    exact ⟨Nat.lt_of_lt_of_le h.1 hn, h.2⟩
  | .osl id, _, h => by
    simp only [R] at h ⊢
    rw [ha id h.1]
    exact ⟨Nat.lt_of_lt_of_le h.1 hn, h.2⟩
  | .nsl, _, h => by simpa [R] using h
  | .fn _ fs cs, _, h => by
    simp only [R] at h ⊢
    obtain ⟨xs, ys, h0, h1, h2⟩ := h
    exact ⟨xs, ys, h0, RL.mono hn ha fs _ h1, RL.mono hn ha cs _ h2⟩
  | .nfn, _, h => by simpa [R] using h
  | .ifc _ v, _, h => by
    simp only [R] at h ⊢
    obtain ⟨y, h0, h1⟩ := h
    exact ⟨y, h0, R.mono hn ha v y h1⟩
  | .nifc, _, h => by simpa [R] using h
  | .agg cs, _, h => by
    simp only [R] at h ⊢
    obtain ⟨xs, h0, h1⟩ := h
    exact ⟨xs, h0, RL.mono hn ha cs _ h1⟩
  | .tup cs, _, h => by
    simp only [R] at h ⊢
    obtain ⟨xs, h0, h1⟩ := h
    exact ⟨xs, h0, RL.mono hn ha cs _ h1⟩
  | .mp id, _, h => by
    simp only [R] at h ⊢
    rw [ha id h.1]
    exact ⟨Nat.lt_of_lt_of_le h.1 hn, h.2⟩
  | .nmp, _, h => by simpa [R] using h
theorem RL.mono {ρ ρ' : Nat → Bnd} {n n' : Nat} (hn : n ≤ n') (ha : Agree ρ ρ' n) : ∀ (vs : List V) (xs : List Value), RL ρ n vs xs → RL ρ' n' vs xs
  | [], [], _ => by simp [RL]
  | v :: vs, x :: xs, h => by
    simp only [RL] at h ⊢
    exact ⟨R.mono hn ha v x h.1, RL.mono hn ha vs xs h.2⟩
  | [], _ :: _, h => by simp [RL] at h
  | _ :: _, [], h => by simp [RL] at h
end
theorem RL.length {ρ : Nat → Bnd} {n : Nat} : ∀ {vs : List V} {xs : List Value}, RL ρ n vs xs → vs.length = xs.length
  | [], [], _ => rfl
  | _ :: vs, _ :: xs, h => by simp only [RL] at h; simp [RL.length h.2]
  | [], _ :: _, h => by simp [RL] at h
  | _ :: _, [], h => by simp [RL] at h
theorem RL.get {ρ : Nat → Bnd} {n : Nat} : ∀ {vs : List V} {xs : List Value}, RL ρ n vs xs → ∀ (i : Nat) (v : V), vs[i]? = some v → ∃ x, xs[i]? = some x ∧ R ρ n v x
  | [], [], _, i, v, h => by simp at h
  | v :: vs, x :: xs, h, 0, u, hu => by
    simp only [RL] at h
    simp at hu
    subst hu
    exact ⟨x, rfl, h.1⟩
  | v :: vs, x :: xs, h, i + 1, u, hu => by
    simp only [RL] at h
    exact RL.get h.2 i u (by simpa using hu)
  | [], _ :: _, h, _, _, _ => by simp [RL] at h
  | _ :: _, [], h, _, _, _ => by simp [RL] at h
theorem RL.append {ρ : Nat → Bnd} {n : Nat} : ∀ {vs : List V} {xs : List Value}, RL ρ n vs xs → ∀ {us : List V} {ys : List Value}, RL ρ n us ys → RL ρ n (vs ++ us) (xs ++ ys)
  | [], [], _, us, ys, h => by simpa using h
  | v :: vs, x :: xs, h, us, ys, h' => by
    simp only [RL] at h
    simp only [List.cons_append, RL]
    exact ⟨h.1, RL.append h.2 h'⟩
  | [], _ :: _, h, _, _, _ => by simp [RL] at h
  | _ :: _, [], h, _, _, _ => by simp [RL] at h
theorem RL.drop {ρ : Nat → Bnd} {n : Nat} : ∀ {vs : List V} {xs : List Value}, RL ρ n vs xs → ∀ (k : Nat), RL ρ n (vs.drop k) (xs.drop k)
  | _, _, h, 0 => by simpa using h
  | [], [], _, k + 1 => by simp [RL]
  | v :: vs, x :: xs, h, k + 1 => by
    simp only [RL] at h
    simpa using RL.drop h.2 k
  | [], _ :: _, h, _ + 1 => by simp [RL] at h
  | _ :: _, [], h, _ + 1 => by simp [RL] at h
theorem RL.take {ρ : Nat → Bnd} {n : Nat} : ∀ {vs : List V} {xs : List Value}, RL ρ n vs xs → ∀ (k : Nat), RL ρ n (vs.take k) (xs.take k)
  | _, _, _, 0 => by simp [RL]
  | [], [], _, k + 1 => by simp [RL]
  | v :: vs, x :: xs, h, k + 1 => by
    simp only [RL] at h
    simp only [List.take_succ_cons, RL]
    exact ⟨h.1, RL.take h.2 k⟩
  | [], _ :: _, h, _ + 1 => by simp [RL] at h
  | _ :: _, [], h, _ + 1 => by simp [RL] at h
theorem RL.set {ρ : Nat → Bnd} {n : Nat} : ∀ {vs : List V} {xs : List Value}, RL ρ n vs xs → ∀ (k : Nat) {v : V} {x : Value}, R ρ n v x → RL ρ n (vs.set k v) (xs.set k x)
  | [], [], _, _, _, _, _ => by simp [RL]
  | v :: vs, x :: xs, h, 0, u, y, hu => by
    simp only [RL] at h
    simp only [List.set_cons_zero, RL]
    exact ⟨hu, h.2⟩
  | v :: vs, x :: xs, h, k + 1, u, y, hu => by
    simp only [RL] at h
    simp only [List.set_cons_succ, RL]
    exact ⟨h.1, RL.set h.2 k hu⟩
  | [], _ :: _, h, _, _, _, _ => by simp [RL] at h
  | _ :: _, [], h, _, _, _, _ => by simp [RL] at h
theorem R_toV {ρ : Nat → Bnd} {n : Nat} (s : Sc) (x : Value) : R ρ n s.toV x ↔ x = s.val := by
  cases s <;> simp [Sc.toV, Sc.val, R]
theorem RL_scs {ρ : Nat → Bnd} {n : Nat} : ∀ (ss : List Sc), RL ρ n (ss.map Sc.toV) (ss.map Sc.val)
  | [] => by simp [RL]
  | s :: ss => by simp only [List.map_cons, RL]; exact ⟨(R_toV s _).2 rfl, RL_scs ss⟩
/-- Not an aggregate: one cell. -/
def V.one : V → Bool
  | .agg _ | .tup _ | .top => false
  | _ => true
theorem R.one {ρ : Nat → Bnd} {n : Nat} {v : V} {x : Value} (h : R ρ n v x) (h1 : v.one = true) : x.oneCell' = true := by
  cases v <;> simp only [V.one, R] at h h1 <;> first
    | (cases h1; done)
    | (obtain ⟨_, a, cap, rfl, _⟩ := h; rfl)
    | (obtain ⟨_, rfl⟩ := h; rfl)
    | (obtain ⟨_, rfl⟩ := h; unfold Bnd.sv; rfl)
    | (obtain ⟨_, _, rfl, _⟩ := h; rfl)
    | (obtain ⟨_, rfl, _⟩ := h; rfl)
    | (subst h; rfl)

/-- A key, a map's value. -/
def valE (ag : Bool) (E : ET) (x : den E) : Value := match ag with
  | true => .agg ((enc E x).map Sc.val).toArray
  | false => ((enc E x).map Sc.val).headD .nilFunc
/-- Abstract objects: a variable of our own, a row that is only read, a row of our own. -/
inductive Ob where
  | no
  | var (t : Nat) (cs : List V)
  | rv (cs : List V)
  | ro (E : ET) (l : List (den E))
  | own (t : Nat) (E : ET) (l : List (den E))
  | mp (ka : Bool) (KE : ET) (va : Bool) (VE : ET) (m : List (den KE × den VE))
def HR (ρ : Nat → Bnd) (n B : Nat) (w : World) (b : Bnd) : Ob → Prop
  | .no => True
  | .var t cs => B ≤ b.blk ∧ b.off = 0 ∧ ∃ c : Array Value, w.heap[b.blk]? = some (.cells c t (0, 0)) ∧ RL ρ n cs c.toList
  | .rv cs => b.off = 0 ∧ ∃ (c : Array Value) (t : TypeId), w.heap[b.blk]? = some (.cells c t (0, 0)) ∧ RL ρ 0 cs c.toList
  | .ro E l => 0 < E.length ∧ b.len = l.length ∧ l.length ≤ b.cap ∧ (0 < l.length → b.a = some ⟨b.blk, b.off, none⟩) ∧ ∀ j s, (flat E l)[j]? = some s → w.cell? ⟨b.blk, b.off + j, none⟩ = some s.val
  | .own t E l => b.len = l.length ∧ w.ownsRow B t E.length b.sv l.length ((flat E l).map Sc.val) ∧ b.off = 0 ∧ (∀ g, b.sv.ownBlock = some g → b.blk = g)
  | .mp ka KE va VE m => B ≤ b.blk ∧ ∃ es : Array MapEntry, w.heap[b.blk]? = some (.map es es.size) ∧ es.toList.map (fun e => (e.key, e.val)) = m.map (fun p => (valE ka KE p.1, valE va VE p.2)) ∧ ∀ (i : Nat) (e : MapEntry), es[i]? = some e → e.born = i
/-- The block that may be written; the block that is read. -/
def wblk (b : Bnd) : Ob → Option Nat
  | .var _ _ => some b.blk
  | .own _ _ _ => b.sv.ownBlock
  | .mp _ _ _ _ _ => some b.blk
  | _ => none
def ablk (b : Bnd) : Ob → Option Nat
  | .no => none
  | .var _ _ => some b.blk
  | .rv _ => some b.blk
  | .own _ _ _ => b.sv.ownBlock
  | .mp _ _ _ _ _ => some b.blk
  | .ro _ l => if l.length = 0 then none else some b.blk
structure Rel (B : Nat) (ρ : Nat → Bnd) (n : Nat) (h : Nat → Ob) (w : World) : Prop where
  base : B ≤ w.heap.size
  obj : ∀ i, i < n → HR ρ n B w (ρ i) (h i)
  sep : ∀ i j, i < n → j < n → i ≠ j → ∀ g, wblk (ρ i) (h i) = some g → ablk (ρ j) (h j) ≠ some g
def upd {α : Type} (f : Nat → α) (i : Nat) (x : α) : Nat → α := fun j => bif Nat.beq j i then x else f j
theorem upd_same {α : Type} (f : Nat → α) (i : Nat) (x : α) : upd f i x i = x := by simp [upd]
theorem upd_ne {α : Type} (f : Nat → α) (i : Nat) (x : α) {j : Nat} (h : j ≠ i) : upd f i x j = f j := by
  have : Nat.beq j i = false := by rw [Bool.eq_false_iff]; intro e; exact h (Nat.eq_of_beq_eq_true e)
  simp [upd, this]
theorem agree_upd (ρ : Nat → Bnd) (n : Nat) (b : Bnd) : Agree ρ (upd ρ n b) n := fun i hi => upd_ne _ _ _ (by omega)
/-- A block of the model that an object reads lies there. -/
theorem HR.lt {ρ : Nat → Bnd} {n B : Nat} {w : World} {b : Bnd} {o : Ob} (h : HR ρ n B w b o) : ∀ g, ablk b o = some g → g < w.heap.size := by
  intro g hg
  cases o with
  | no => simp [ablk] at hg
  | var t cs =>
    simp only [ablk, Option.some.injEq] at hg
    subst hg
    obtain ⟨_, _, c, hc, _⟩ := h
    exact (Array.getElem?_eq_some_iff.1 hc).1
  | rv cs =>
    simp only [ablk, Option.some.injEq] at hg
    subst hg
    obtain ⟨_, c, t, hc, _⟩ := h
    exact (Array.getElem?_eq_some_iff.1 hc).1
  | ro E l =>
    simp only [ablk] at hg
    split at hg
    · cases hg
    · rename_i hl
      simp only [Option.some.injEq] at hg
      subst hg
      obtain ⟨hE, _, _, _, h4⟩ := h
      have h0 : 0 < (flat E l).length := by rw [flat_length]; exact Nat.mul_pos (by omega) hE
      have := h4 0 ((flat E l)[0]'h0) (by simp)
      exact World.block_lt_of_cell? w _ this
  | own t E l => exact (h.2.1.lt g hg).2
  | mp ka KE va VE m =>
    simp only [ablk, Option.some.injEq] at hg
    subst hg
    obtain ⟨_, es, hc, _⟩ := h
    exact (Array.getElem?_eq_some_iff.1 hc).1
/-- What an object says stays, where its block stays. -/
theorem HR.keep {ρ ρ' : Nat → Bnd} {n n' B : Nat} {w w' : World} {b : Bnd} {o : Ob} (h : HR ρ n B w b o) (hn : n ≤ n') (ha : Agree ρ ρ' n)
    (hb : ∀ g, ablk b o = some g → w'.heap[g]? = w.heap[g]?) : HR ρ' n' B w' b o := by
  cases o with
  | no => trivial
  | var t cs =>
    obtain ⟨h1, h2, c, h3, h4⟩ := h
    exact ⟨h1, h2, c, by rw [hb _ rfl]; exact h3, RL.mono hn ha _ _ h4⟩
  | rv cs =>
    obtain ⟨h2, c, t, h3, h4⟩ := h
    exact ⟨h2, c, t, by rw [hb _ rfl]; exact h3, RL.mono (Nat.le_refl 0) (fun i hi => by omega) _ _ h4⟩
  | ro E l =>
    obtain ⟨h0, h1, h2, h3, h4⟩ := h
    refine ⟨h0, h1, h2, h3, fun j s hj => ?_⟩
    have hl : l.length ≠ 0 := by
      intro e
      have : (flat E l).length = 0 := by rw [flat_length, e]; simp
      have hj' := (List.getElem?_eq_some_iff.1 hj).1
      omega
    have := h4 j s hj
    rw [← this]
    exact World.cell?_of_block (w := w) (hb b.blk (by simp [ablk, hl]))
  | mp ka KE va VE m =>
    obtain ⟨h1, es, h3, h4⟩ := h
    exact ⟨h1, es, by rw [hb _ rfl]; exact h3, h4⟩
  | own t E l =>
    obtain ⟨h1, h2, h3, h4⟩ := h
    refine ⟨h1, ?_, h3, h4⟩
    refine ⟨h2.1, ?_⟩
    rcases h2.2 with hn0 | ⟨g, cap, cur, hv, hb0, hg, rest⟩
    · exact .inl hn0
    · refine .inr ⟨g, cap, cur, hv, hb0, ?_, rest⟩
      rw [hb g (by simp [ablk, hv, Value.ownBlock])]
      exact hg
end Go.Proofs.YtbolfnkgbjkbjaaGreat.AM
