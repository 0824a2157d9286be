/- ContactPairs: what its proof stands on, part 1. -/
import Derived.WalkKit
import Derived.Laws.AppendOwn
import Derived.Below
import Derived.KernelRfl
import Derived.Laws.MakeOwn
import Derived.Laws.StructEq
import Derived.Maps.AppendAt
import Derived.Laws.Slices
import Derived.ChangeKeysEq
import Derived.MapKept
import Derived.WideKeyRuns
section
set_option linter.unusedVariables false
set_option linter.unusedSimpArgs false
namespace Go.Proofs.YtbolfnkgbjkbjaaGreat.AM
open Go Go.RowKit

/-- A scalar cell. -/
inductive Sc where
  | int (k : IntKind) (n : Int)
  | bool (b : Bool)
def Sc.val : Sc → Value
  | .int k n => .int k n
  | .bool b => .bool b
theorem Sc.val_one (s : Sc) : s.val.oneCell' = true := by cases s <;> rfl

/-- The kind of a scalar cell. -/
inductive SK where
  | int (k : IntKind)
  | bool
  deriving DecidableEq
abbrev SK.den : SK → Type
  | .int _ => Int
  | .bool => Bool
def SK.sc : (k : SK) → k.den → Sc
  | .int k, n => .int k n
  | .bool, b => .bool b
def SK.un : (k : SK) → Sc → Option k.den
  | .int k, .int k' n => if k = k' then some n else none
  | .bool, .bool b => some b
  | _, _ => none
def SK.dflt : (k : SK) → k.den
  | .int _ => (0 : Int)
  | .bool => false
theorem SK.sc_un (k : SK) (s : Sc) (x : k.den) (h : k.un s = some x) : k.sc x = s := by
  cases k <;> cases s <;> simp [SK.un] at h
  · obtain ⟨h1, rfl⟩ := h
    simp [SK.sc, h1]
  · subst h
    rfl

/-- An element's type: its cells' kinds. -/
abbrev ET := List SK
abbrev den : ET → Type
  | [] => Unit
  | [k] => k.den
  | k :: k' :: r => k.den × den (k' :: r)
def enc : (E : ET) → den E → List Sc
  | [], _ => []
  | [k], x => [k.sc x]
  | k :: k' :: r, x => k.sc x.1 :: enc (k' :: r) x.2
def dec : (E : ET) → List Sc → Option (den E)
  | [], [] => some ()
  | [k], [s] => k.un s
  | k :: k' :: r, s :: ss => match k.un s, dec (k' :: r) ss with
    | some a, some b => some (a, b)
    | _, _ => none
  | _, _ => none
def dflt : (E : ET) → den E
  | [] => ()
  | [k] => k.dflt
  | k :: k' :: r => (k.dflt, dflt (k' :: r))
theorem enc_length : ∀ (E : ET) (x : den E), (enc E x).length = E.length
  | [], _ => rfl
  | [k], _ => rfl
  | k :: k' :: r, x => by simp [enc, enc_length (k' :: r) x.2]
theorem enc_dec : ∀ (E : ET) (ss : List Sc) (x : den E), dec E ss = some x → enc E x = ss
  | [], [], x, _ => rfl
  | [k], [s], x, h => by simp only [dec] at h; simp [enc, SK.sc_un k s x h]
  | k :: k' :: r, s :: ss, x, h => by
    simp only [dec] at h
    split at h
    · rename_i a b ha hb
      cases h
      simp only [enc]
      rw [SK.sc_un k s _ ha, enc_dec (k' :: r) ss _ hb]
    · cases h
  | [], _ :: _, _, h => by simp [dec] at h
  | [_], [], _, h => by simp [dec] at h
  | [_], _ :: _ :: _, _, h => by simp [dec] at h
  | _ :: _ :: _, [], _, h => by simp [dec] at h

/-- The cells of a row. -/
def flat (E : ET) (l : List (den E)) : List Sc := l.flatMap (enc E)
theorem flat_length (E : ET) (l : List (den E)) : (flat E l).length = l.length * E.length := by
  induction l with
  | nil => simp [flat]
  | cons x l ih => simp only [flat, List.flatMap_cons, List.length_append, List.length_cons] at *; rw [ih, enc_length, Nat.add_mul]; omega
theorem flat_append (E : ET) (l m : List (den E)) : flat E (l ++ m) = flat E l ++ flat E m := by simp [flat]
theorem flat_get (E : ET) : ∀ (l : List (den E)) (e f : Nat), f < E.length → e < l.length → (flat E l)[e * E.length + f]? = (enc E (l.getD e (dflt E)))[f]?
  | [], _, _, _, h => by simp at h
  | x :: l, 0, f, hf, _ => by
    simp only [flat, List.flatMap_cons, Nat.zero_mul, Nat.zero_add, List.getD_cons_zero]
    rw [List.getElem?_append_left (by rw [enc_length]; exact hf)]
  | x :: l, e + 1, f, hf, h => by
    simp only [flat, List.flatMap_cons, List.getD_cons_succ]
    rw [List.getElem?_append_right (by rw [enc_length, Nat.add_mul]; omega), enc_length]
    have := flat_get E l e f hf (by simpa using h)
    rw [← this]
    simp only [flat]
    congr 1
    rw [Nat.add_mul]
    omega

/-- Abstract values. Blocks are named by numbers of our own. -/
inductive V where
  | top
  | int (k : IntKind) (n : Int)
  | bool (b : Bool)
  | ptr (id e s f : Nat)
  | nilp
  | sl (id lo len s : Nat)
  | osl (id : Nat)
  | nsl
  | fn (f : Nat) (fs cs : List V)
  | nfn
  | ifc (t : Nat) (v : V)
  | nifc
  | agg (cs : List V)
  | tup (cs : List V)
  | mp (id : Nat)
  | nmp
  deriving Inhabited
def Sc.toV : Sc → V
  | .int k n => .int k n
  | .bool b => .bool b
/-- What a block of ours is, in the model's memory: where it begins, and (of a slice) its value. -/
structure Bnd where
  blk : Nat
  off : Nat
  a : Option Addr
  len : Nat
  cap : Nat
  deriving Inhabited
def Bnd.sv (b : Bnd) : Value := .slice b.a b.len b.cap
mutual
def R (ρ : Nat → Bnd) (n : Nat) : V → Value → Prop
  | .top, _ => True
  | .int k i, x => x = .int k i
  | .bool b, x => x = .bool b
  | .ptr id e s f, x => id < n ∧ x = .pointer (some ⟨(ρ id).blk, (ρ id).off + (e * s + f), none⟩)
  | .nilp, x => x = .pointer none
  | .sl id lo len s, x => id < n ∧ ∃ a cap, x = .slice a len cap ∧ len ≤ cap ∧ (0 < len → a = some ⟨(ρ id).blk, (ρ id).off + lo * s, none⟩)
  | .osl id, x => id < n ∧ x = (ρ id).sv
  | .nsl, x => x = .slice none 0 0
  | .fn f fs cs, x => ∃ xs ys : Array Value, x = .func (.func f) xs ys ∧ RL ρ n fs xs.toList ∧ RL ρ n cs ys.toList
  | .nfn, x => x = .nilFunc
  | .ifc t v, x => ∃ y, x = .iface t y ∧ R ρ n v y
  | .nifc, x => x = .nilIface
  | .agg cs, x => ∃ xs : Array Value, x = .agg xs ∧ RL ρ n cs xs.toList
  | .tup cs, x => ∃ xs : Array Value, x = .tuple xs ∧ RL ρ n cs xs.toList
  | .mp id, x => id < n ∧ x = .map (some (ρ id).blk)
  | .nmp, x => x = .map none
def RL (ρ : Nat → Bnd) (n : Nat) : List V → List Value → Prop
  | [], [] => True
  | v :: vs, x :: xs => R ρ n v x ∧ RL ρ n vs xs
  | _, _ => False
end
def Agree (ρ ρ' : Nat → Bnd) (n : Nat) : Prop := ∀ i, i < n → ρ' i = ρ i
mutual
theorem R.mono {ρ ρ' : Nat → Bnd} {n n' : Nat} (hn : n ≤ n') (ha : Agree ρ ρ' n) : ∀ (v : V) (x : Value), R ρ n v x → R ρ' n' v x
  | .top, _, _ => by simp [R]
  | .int _ _, _, h => by simpa [R] using h
  | .bool _, _, h => by simpa [R] using h
  | .ptr id _ _ _, _, h => by
    simp only [R] at h ⊢
    rw [ha id h.1]
    exact ⟨Nat.lt_of_lt_of_le h.1 hn, h.2⟩
  | .nilp, _, h => by simpa [R] using h
  | .sl id _ _ _, _, h => by
    simp only [R] at h ⊢
    rw [ha id h.1]
    exact ⟨Nat.lt_of_lt_of_le h.1 hn, h.2⟩
  | .osl id, _, h => by
    simp only [R] at h ⊢
    rw [ha id h.1]
    exact ⟨Nat.lt_of_lt_of_le h.1 hn, h.2⟩
  | .nsl, _, h => by simpa [R] using h
  | .fn _ fs cs, _, h => by
    simp only [R] at h ⊢
    obtain ⟨xs, ys, h0, h1, h2⟩ := h
    exact ⟨xs, ys, h0, RL.mono hn ha fs _ h1, RL.mono hn ha cs _ h2⟩
  | .nfn, _, h => by simpa [R] using h
  | .ifc _ v, _, h => by
    simp only [R] at h ⊢
    obtain ⟨y, h0, h1⟩ := h
    exact ⟨y, h0, R.mono hn ha v y h1⟩
  | .nifc, _, h => by simpa [R] using h
  | .agg cs, _, h => by
    simp only [R] at h ⊢
    obtain ⟨xs, h0, h1⟩ := h
    exact ⟨xs, h0, RL.mono hn ha cs _ h1⟩
  | .tup cs, _, h => by
    simp only [R] at h ⊢
    obtain ⟨xs, h0, h1⟩ := h
    exact ⟨xs, h0, RL.mono hn ha cs _ h1⟩
  | .mp id, _, h => by
    simp only [R] at h ⊢
    rw [ha id h.1]
    exact ⟨Nat.lt_of_lt_of_le h.1 hn, h.2⟩
  | .nmp, _, h => by simpa [R] using h
theorem RL.mono {ρ ρ' : Nat → Bnd} {n n' : Nat} (hn : n ≤ n') (ha : Agree ρ ρ' n) : ∀ (vs : List V) (xs : List Value), RL ρ n vs xs → RL ρ' n' vs xs
  | [], [], _ => by simp [RL]
  | v :: vs, x :: xs, h => by
    simp only [RL] at h ⊢
    exact ⟨R.mono hn ha v x h.1, RL.mono hn ha vs xs h.2⟩
  | [], _ :: _, h => by simp [RL] at h
  | _ :: _, [], h => by simp [RL] at h
end
theorem RL.length {ρ : Nat → Bnd} {n : Nat} : ∀ {vs : List V} {xs : List Value}, RL ρ n vs xs → vs.length = xs.length
  | [], [], _ => rfl
  | _ :: vs, _ :: xs, h => by simp only [RL] at h; simp [RL.length h.2]
  | [], _ :: _, h => by simp [RL] at h
  | _ :: _, [], h => by simp [RL] at h
theorem RL.get {ρ : Nat → Bnd} {n : Nat} : ∀ {vs : List V} {xs : List Value}, RL ρ n vs xs → ∀ (i : Nat) (v : V), vs[i]? = some v → ∃ x, xs[i]? = some x ∧ R ρ n v x
  | [], [], _, i, v, h => by simp at h
  | v :: vs, x :: xs, h, 0, u, hu => by
    simp only [RL] at h
    simp at hu
    subst hu
    exact ⟨x, rfl, h.1⟩
  | v :: vs, x :: xs, h, i + 1, u, hu => by
    simp only [RL] at h
    exact RL.get h.2 i u (by simpa using hu)
  | [], _ :: _, h, _, _, _ => by simp [RL] at h
  | _ :: _, [], h, _, _, _ => by simp [RL] at h
theorem RL.append {ρ : Nat → Bnd} {n : Nat} : ∀ {vs : List V} {xs : List Value}, RL ρ n vs xs → ∀ {us : List V} {ys : List Value}, RL ρ n us ys → RL ρ n (vs ++ us) (xs ++ ys)
  | [], [], _, us, ys, h => by simpa using h
  | v :: vs, x :: xs, h, us, ys, h' => by
    simp only [RL] at h
    simp only [List.cons_append, RL]
    exact ⟨h.1, RL.append h.2 h'⟩
  | [], _ :: _, h, _, _, _ => by simp [RL] at h
  | _ :: _, [], h, _, _, _ => by simp [RL] at h
theorem RL.drop {ρ : Nat → Bnd} {n : Nat} : ∀ {vs : List V} {xs : List Value}, RL ρ n vs xs → ∀ (k : Nat), RL ρ n (vs.drop k) (xs.drop k)
  | _, _, h, 0 => by simpa using h
  | [], [], _, k + 1 => by simp [RL]
  | v :: vs, x :: xs, h, k + 1 => by
    simp only [RL] at h
    simpa using RL.drop h.2 k
  | [], _ :: _, h, _ + 1 => by simp [RL] at h
  | _ :: _, [], h, _ + 1 => by simp [RL] at h
theorem RL.take {ρ : Nat → Bnd} {n : Nat} : ∀ {vs : List V} {xs : List Value}, RL ρ n vs xs → ∀ (k : Nat), RL ρ n (vs.take k) (xs.take k)
  | _, _, _, 0 => by simp [RL]
  | [], [], _, k + 1 => by simp [RL]
  | v :: vs, x :: xs, h, k + 1 => by
    simp only [RL] at h
    simp only [List.take_succ_cons, RL]
    exact ⟨h.1, RL.take h.2 k⟩
  | [], _ :: _, h, _ + 1 => by simp [RL] at h
  | _ :: _, [], h, _ + 1 => by simp [RL] at h
theorem RL.set {ρ : Nat → Bnd} {n : Nat} : ∀ {vs : List V} {xs : List Value}, RL ρ n vs xs → ∀ (k : Nat) {v : V} {x : Value}, R ρ n v x → RL ρ n (vs.set k v) (xs.set k x)
  | [], [], _, _, _, _, _ => by simp [RL]
  | v :: vs, x :: xs, h, 0, u, y, hu => by
    simp only [RL] at h
    simp only [List.set_cons_zero, RL]
    exact ⟨hu, h.2⟩
  | v :: vs, x :: xs, h, k + 1, u, y, hu => by
    simp only [RL] at h
    simp only [List.set_cons_succ, RL]
    exact ⟨h.1, RL.set h.2 k hu⟩
  | [], _ :: _, h, _, _, _, _ => by simp [RL] at h
  | _ :: _, [], h, _, _, _, _ => by simp [RL] at h
theorem R_toV {ρ : Nat → Bnd} {n : Nat} (s : Sc) (x : Value) : R ρ n s.toV x ↔ x = s.val := by
  cases s <;> simp [Sc.toV, Sc.val, R]
theorem RL_scs {ρ : Nat → Bnd} {n : Nat} : ∀ (ss : List Sc), RL ρ n (ss.map Sc.toV) (ss.map Sc.val)
  | [] => by simp [RL]
  | s :: ss => by simp only [List.map_cons, RL]; exact ⟨(R_toV s _).2 rfl, RL_scs ss⟩
/-- Not an aggregate: one cell. -/
def V.one : V → Bool
  | .agg _ | .tup _ | .top => false
  | _ => true
theorem R.one {ρ : Nat → Bnd} {n : Nat} {v : V} {x : Value} (h : R ρ n v x) (h1 : v.one = true) : x.oneCell' = true := by
  cases v <;> simp only [V.one, R] at h h1 <;> first
    | (cases h1; done)
    | (obtain ⟨_, a, cap, rfl, _⟩ := h; rfl)
    | (obtain ⟨_, rfl⟩ := h; rfl)
    | (obtain ⟨_, rfl⟩ := h; unfold Bnd.sv; rfl)
    | (obtain ⟨_, _, rfl, _⟩ := h; rfl)
    | (obtain ⟨_, rfl, _⟩ := h; rfl)
    | (subst h; rfl)

/-- A key, a map's value. -/
def valE (ag : Bool) (E : ET) (x : den E) : Value := match ag with
  | true => .agg ((enc E x).map Sc.val).toArray
  | false => ((enc E x).map Sc.val).headD .nilFunc
/-- Abstract objects: a variable of our own, a row that is only read, a row of our own. -/
inductive Ob where
  | no
  | var (t : Nat) (cs : List V)
  | rv (cs : List V)
  | ro (E : ET) (l : List (den E))
  | own (t : Nat) (E : ET) (l : List (den E))
  | mp (ka : Bool) (KE : ET) (va : Bool) (VE : ET) (m : List (den KE × den VE))
def HR (ρ : Nat → Bnd) (n B : Nat) (w : World) (b : Bnd) : Ob → Prop
  | .no => True
  | .var t cs => B ≤ b.blk ∧ b.off = 0 ∧ ∃ c : Array Value, w.heap[b.blk]? = some (.cells c t (0, 0)) ∧ RL ρ n cs c.toList
  | .rv cs => b.off = 0 ∧ ∃ (c : Array Value) (t : TypeId), w.heap[b.blk]? = some (.cells c t (0, 0)) ∧ RL ρ 0 cs c.toList
  | .ro E l => 0 < E.length ∧ b.len = l.length ∧ l.length ≤ b.cap ∧ (0 < l.length → b.a = some ⟨b.blk, b.off, none⟩) ∧ ∀ j s, (flat E l)[j]? = some s → w.cell? ⟨b.blk, b.off + j, none⟩ = some s.val
  | .own t E l => b.len = l.length ∧ w.ownsRow B t E.length b.sv l.length ((flat E l).map Sc.val) ∧ b.off = 0 ∧ (∀ g, b.sv.ownBlock = some g → b.blk = g)
  | .mp ka KE va VE m => B ≤ b.blk ∧ ∃ es : Array MapEntry, w.heap[b.blk]? = some (.map es es.size) ∧ es.toList.map (fun e => (e.key, e.val)) = m.map (fun p => (valE ka KE p.1, valE va VE p.2)) ∧ ∀ (i : Nat) (e : MapEntry), es[i]? = some e → e.born = i
/-- The block that may be written; the block that is read. -/
def wblk (b : Bnd) : Ob → Option Nat
  | .var _ _ => some b.blk
  | .own _ _ _ => b.sv.ownBlock
  | .mp _ _ _ _ _ => some b.blk
  | _ => none
def ablk (b : Bnd) : Ob → Option Nat
  | .no => none
  | .var _ _ => some b.blk
  | .rv _ => some b.blk
  | .own _ _ _ => b.sv.ownBlock
  | .mp _ _ _ _ _ => some b.blk
  | .ro _ l => if l.length = 0 then none else some b.blk
structure Rel (B : Nat) (ρ : Nat → Bnd) (n : Nat) (h : Nat → Ob) (w : World) : Prop where
  base : B ≤ w.heap.size
  obj : ∀ i, i < n → HR ρ n B w (ρ i) (h i)
  sep : ∀ i j, i < n → j < n → i ≠ j → ∀ g, wblk (ρ i) (h i) = some g → ablk (ρ j) (h j) ≠ some g
def upd {α : Type} (f : Nat → α) (i : Nat) (x : α) : Nat → α := fun j => bif Nat.beq j i then x else f j
theorem upd_same {α : Type} (f : Nat → α) (i : Nat) (x : α) : upd f i x i = x := by simp [upd]
theorem upd_ne {α : Type} (f : Nat → α) (i : Nat) (x : α) {j : Nat} (h : j ≠ i) : upd f i x j = f j := by
  have : Nat.beq j i = false := by rw [Bool.eq_false_iff]; intro e; exact h (Nat.eq_of_beq_eq_true e)
  simp [upd, this]
theorem agree_upd (ρ : Nat → Bnd) (n : Nat) (b : Bnd) : Agree ρ (upd ρ n b) n := fun i hi => upd_ne _ _ _ (by omega)
/-- A block of the model that an object reads lies there. -/
theorem HR.lt {ρ : Nat → Bnd} {n B : Nat} {w : World} {b : Bnd} {o : Ob} (h : HR ρ n B w b o) : ∀ g, ablk b o = some g → g < w.heap.size := by
  intro g hg
  cases o with
  | no => simp [ablk] at hg
  | var t cs =>
    simp only [ablk, Option.some.injEq] at hg
    subst hg
    obtain ⟨_, _, c, hc, _⟩ := h
    exact (Array.getElem?_eq_some_iff.1 hc).1
  | rv cs =>
    simp only [ablk, Option.some.injEq] at hg
    subst hg
    obtain ⟨_, c, t, hc, _⟩ := h
    exact (Array.getElem?_eq_some_iff.1 hc).1
  | ro E l =>
    simp only [ablk] at hg
    split at hg
    · cases hg
    · rename_i hl
      simp only [Option.some.injEq] at hg
      subst hg
      obtain ⟨hE, _, _, _, h4⟩ := h
      have h0 : 0 < (flat E l).length := by rw [flat_length]; exact Nat.mul_pos (by omega) hE
      have := h4 0 ((flat E l)[0]'h0) (by simp)
      exact World.block_lt_of_cell? w _ this
  | own t E l => exact (h.2.1.lt g hg).2
  | mp ka KE va VE m =>
    simp only [ablk, Option.some.injEq] at hg
    subst hg
    obtain ⟨_, es, hc, _⟩ := h
    exact (Array.getElem?_eq_some_iff.1 hc).1
/-- What an object says stays, where its block stays. -/
theorem HR.keep {ρ ρ' : Nat → Bnd} {n n' B : Nat} {w w' : World} {b : Bnd} {o : Ob} (h : HR ρ n B w b o) (hn : n ≤ n') (ha : Agree ρ ρ' n)
    (hb : ∀ g, ablk b o = some g → w'.heap[g]? = w.heap[g]?) : HR ρ' n' B w' b o := by
  cases o with
  | no => trivial
  | var t cs =>
    obtain ⟨h1, h2, c, h3, h4⟩ := h
    exact ⟨h1, h2, c, by rw [hb _ rfl]; exact h3, RL.mono hn ha _ _ h4⟩
  | rv cs =>
    obtain ⟨h2, c, t, h3, h4⟩ := h
    exact ⟨h2, c, t, by rw [hb _ rfl]; exact h3, RL.mono (Nat.le_refl 0) (fun i hi => by omega) _ _ h4⟩
  | ro E l =>
    obtain ⟨h0, h1, h2, h3, h4⟩ := h
    refine ⟨h0, h1, h2, h3, fun j s hj => ?_⟩
    have hl : l.length ≠ 0 := by
      intro e
      have : (flat E l).length = 0 := by rw [flat_length, e]; simp
      have hj' := (List.getElem?_eq_some_iff.1 hj).1
      omega
    have := h4 j s hj
    rw [← this]
    exact World.cell?_of_block (w := w) (hb b.blk (by simp [ablk, hl]))
  | mp ka KE va VE m =>
    obtain ⟨h1, es, h3, h4⟩ := h
    exact ⟨h1, es, by rw [hb _ rfl]; exact h3, h4⟩
  | own t E l =>
    obtain ⟨h1, h2, h3, h4⟩ := h
    refine ⟨h1, ?_, h3, h4⟩
    refine ⟨h2.1, ?_⟩
    rcases h2.2 with hn0 | ⟨g, cap, cur, hv, hb0, hg, rest⟩
    · exact .inl hn0
    · refine .inr ⟨g, cap, cur, hv, hb0, ?_, rest⟩
      rw [hb g (by simp [ablk, hv, Value.ownBlock])]
      exact hg
end Go.Proofs.YtbolfnkgbjkbjaaGreat.AM
end
section
set_option linter.unusedVariables false
set_option linter.unusedSimpArgs false
namespace Go.Proofs.YtbolfnkgbjkbjaaGreat.AM
open Go Go.RowKit

inductive AO where
  | t (n : Nat)
  | c (v : V)
  | f (n : Nat)
inductive AOp where
  | mv (x : AO)
  | mvn (t : Nat) (E : ET)
  | pick (c a b : AO)
  | alloc (t : Nat) (z : List V)
  | box (t : Nat) (x : AO)
  | ld (n : Nat) (agg : Bool) (x : AO)
  | st (n : Nat) (a x : AO)
  | nck (x : AO)
  | bin (op : BinOp) (x y : AO)
  | binb (neg : Bool) (x y : AO)
  | eqa (neg : Bool) (ks : ET) (x y : AO)
  | not (x : AO)
  | neg (x : AO)
  | cv (k : IntKind) (x : AO)
  | fa (x : AO) (off : Nat)
  | fld (x : AO) (off n : Nat) (agg : Bool)
  | ia (x i : AO) (s : Nat)
  | iaa (x i : AO) (len s : Nat)
  | ixs (l : List Nat) (i : AO)
  | ixa (x i : AO) (len z : Nat) (agg : Bool)
  | ext (x : AO) (i : Nat)
  | mkf (f : Nat) (fs cs : List AO)
  | mki (t : Nat) (x : AO)
  | tas (t : Nat) (zs : List V) (x : AO)
  | ifn (neg : Bool) (x : AO)
  | bld (z : List V) (parts : List (Nat × Nat × AO))
  | bsl (t : Nat) (E : ET) (len : Nat) (z : List V) (parts : List (Nat × Nat × AO))
  | msl (t : Nat) (E : ET) (bytes : Nat) (z : den E) (x c : AO)
  | slc (x : AO) (lo hi : Option AO) (s : Nat)
  | slm (x hi : AO) (s : Nat)
  | len (x : AO)
  | app (t : Nat) (E : ET) (bytes : Nat) (x y : AO)
  | mx (mn : Bool) (x y : AO)
  | mkm (ka : Bool) (KE : ET) (va : Bool) (VE : ET)
  | mlk (ka : Bool) (KE : ET) (va : Bool) (VE : ET) (ok : Bool) (x k : AO)
  | mup (ka : Bool) (KE : ET) (va : Bool) (VE : ET) (x k v : AO)
  | call (f : AO) (args : List AO)
  | pan (x : AO)
  | no
structure AOper where
  d : Option Nat
  op : AOp
  g : Option (Nat × Bool)
inductive AC where
  | skip
  | reg (l : List AOper)
  | drw (l : List (AOper × List Nat))
  | seq (a b : AC)
  | seqc (nm : Nat) (a b : AC)
  | cond (x : AO) (a b : AC)
  | blk (id : Nat) (c : AC)
  | loop (nm : Nat) (c : AC)
  | lpq (nm : Nat) (c : AC)
  | unr (k : Nat) (c : AC)
  | exit (id : Nat)
  | ret

structure S where
  sl : Nat → V
  hp : Nat → Ob
  nx : Nat
def S.put (s : S) (d : Option Nat) (v : V) : S := match d with
  | some d => ⟨upd s.sl d v, s.hp, s.nx⟩
  | none => s
def rd (s : S) : AO → V
  | .t n => s.sl n
  | .c v => v
  | .f n => .fn n [] []
/-- A value, its head laid open. -/
def force (v : V) (K : V → Prop) : Prop := match v with
  | .top => K .top
  | .int k n => K (.int k n)
  | .bool b => K (.bool b)
  | .ptr id e s f => K (.ptr id e s f)
  | .nilp => K .nilp
  | .sl id lo len s => K (.sl id lo len s)
  | .osl id => K (.osl id)
  | .nsl => K .nsl
  | .fn f fs cs => K (.fn f fs cs)
  | .nfn => K .nfn
  | .ifc t v => K (.ifc t v)
  | .nifc => K .nifc
  | .agg cs => K (.agg cs)
  | .tup cs => K (.tup cs)
  | .mp id => K (.mp id)
  | .nmp => K .nmp
theorem force_iff (v : V) (K : V → Prop) : force v K ↔ K v := by cases v <;> rfl
/-- A number, laid open: what is handed on names no variable. -/
def forceN (n : Nat) (K : Nat → Prop) : Prop := match n with
  | 0 => K 0
  | 1 => K 1
  | 2 => K 2
  | 3 => K 3
  | 4 => K 4
  | 5 => K 5
  | 6 => K 6
  | 7 => K 7
  | 8 => K 8
  | 9 => K 9
  | 10 => K 10
  | 11 => K 11
  | 12 => K 12
  | 13 => K 13
  | 14 => K 14
  | 15 => K 15
  | n + 16 => forceN n fun m => K (m + 16)
theorem forceN_iff (n : Nat) : ∀ (K : Nat → Prop), forceN n K ↔ K n := by
  induction n using Nat.strongRecOn with
  | _ n ih =>
    intro K
    unfold forceN
    split <;> try exact Iff.rfl
    rename_i n
    exact ih n (by omega) _
def bcase (b : Bool) (A B : Prop) : Prop := match b with
  | true => A
  | false => B
theorem bcase_i {b : Bool} {A B : Prop} (h1 : b = true → A) (h2 : b = false → B) : bcase b A B := by
  cases b
  · exact h2 rfl
  · exact h1 rfl
theorem bcase_t {b : Bool} {A B : Prop} (h : b = true) (h1 : A) : bcase b A B := by subst h; exact h1
theorem bcase_f {b : Bool} {A B : Prop} (h : b = false) (h1 : B) : bcase b A B := by subst h; exact h1

/-- What a new block is: a variable, a row, a map. -/
inductive NK where
  | p
  | o
  | m
inductive OR where
  | val (v : V)
  | chk (c : Prop) (v : V)
  | new (c : Prop) (o : Ob) (own : NK)
  | put (c : Prop) (id : Nat) (o : Ob)
  | mov (c : Prop) (id : Nat) (o : Ob)
  | bad
def newV (own : NK) (n : Nat) : V := match own with
  | .o => .osl n
  | .p => .ptr n 0 0 0
  | .m => .mp n
def OR.run (r : OR) (s : S) (d : Option Nat) (K : S → Prop) : Prop := match r with
  | .val v => force v fun v => K (s.put d v)
  | .chk c v => c ∧ force v fun v => K (s.put d v)
  | .new c o own => c ∧ K (S.put ⟨s.sl, upd s.hp s.nx o, s.nx + 1⟩ d (newV own s.nx))
  | .put c id o => c ∧ K (S.put ⟨s.sl, upd s.hp id o, s.nx⟩ d .top)
  | .mov c id o => c ∧ K (S.put ⟨s.sl, upd (upd s.hp id .no) s.nx o, s.nx + 1⟩ d (.osl s.nx))
  | .bad => False

mutual
/-- A value, laid open down to its cells. -/
def forceV : V → (V → Prop) → Prop
  | .top, K => K .top
  | .int k n, K => K (.int k n)
  | .bool b, K => K (.bool b)
  | .ptr id e s f, K => K (.ptr id e s f)
  | .nilp, K => K .nilp
  | .sl id lo len s, K => K (.sl id lo len s)
  | .osl id, K => K (.osl id)
  | .nsl, K => K .nsl
  | .fn f fs cs, K => forceL fs fun fs => forceL cs fun cs => K (.fn f fs cs)
  | .nfn, K => K .nfn
  | .ifc t v, K => forceV v fun v => K (.ifc t v)
  | .nifc, K => K .nifc
  | .agg cs, K => forceL cs fun cs => K (.agg cs)
  | .tup cs, K => forceL cs fun cs => K (.tup cs)
  | .mp id, K => K (.mp id)
  | .nmp, K => K .nmp
def forceL : List V → (List V → Prop) → Prop
  | [], K => K []
  | v :: vs, K => forceV v fun v => forceL vs fun vs => K (v :: vs)
end
mutual
theorem forceV_iff : ∀ (v : V) (K : V → Prop), forceV v K ↔ K v
  | .fn f fs cs, K => by simp only [forceV]; rw [forceL_iff fs, forceL_iff cs]
  | .ifc t v, K => by simp only [forceV]; rw [forceV_iff v]
  | .agg cs, K => by simp only [forceV]; rw [forceL_iff cs]
  | .tup cs, K => by simp only [forceV]; rw [forceL_iff cs]
  | .top, K => by simp only [forceV]
  | .int k n, K => by simp only [forceV]
  | .bool b, K => by simp only [forceV]
  | .ptr id e s f, K => by simp only [forceV]
  | .nilp, K => by simp only [forceV]
  | .sl id lo len s, K => by simp only [forceV]
  | .osl id, K => by simp only [forceV]
  | .nsl, K => by simp only [forceV]
  | .nfn, K => by simp only [forceV]
  | .nifc, K => by simp only [forceV]
  | .mp id, K => by simp only [forceV]
  | .nmp, K => by simp only [forceV]
theorem forceL_iff : ∀ (vs : List V) (K : List V → Prop), forceL vs K ↔ K vs
  | [], K => by simp only [forceL]
  | v :: vs, K => by simp only [forceL]; rw [forceV_iff v, forceL_iff vs]
end
def forceO (o : Ob) (K : Ob → Prop) : Prop := match o with
  | .no => K .no
  | .var t cs => forceL cs fun cs => K (.var t cs)
  | .rv cs => K (.rv cs)
  | .ro E l => K (.ro E l)
  | .own t E l => K (.own t E l)
  | .mp ka KE va VE m => K (.mp ka KE va VE m)
theorem forceO_iff (o : Ob) (K : Ob → Prop) : forceO o K ↔ K o := by
  cases o <;> simp only [forceO]
  exact forceL_iff _ _
def forceE : List (Nat × Ob) → (List (Nat × Ob) → Prop) → Prop
  | [], K => K []
  | (i, o) :: l, K => forceN i fun i => forceO o fun o => forceE l fun l => K ((i, o) :: l)
theorem forceE_iff : ∀ (l : List (Nat × Ob)) (K : List (Nat × Ob) → Prop), forceE l K ↔ K l
  | [], K => by simp only [forceE]
  | (i, o) :: l, K => by simp only [forceE]; rw [forceN_iff, forceO_iff, forceE_iff l]
def forceI : List Nat → (List Nat → Prop) → Prop
  | [], K => K []
  | i :: l, K => forceN i fun i => forceI l fun l => K (i :: l)
theorem forceI_iff : ∀ (l : List Nat) (K : List Nat → Prop), forceI l K ↔ K l
  | [], K => by simp only [forceI]
  | i :: l, K => by simp only [forceI]; rw [forceN_iff, forceI_iff l]
def putK (sl : Nat → V) (hp : Nat → Ob) (nx : Nat) (d : Option Nat) (v : V) (K : S → Prop) : Prop := match d with
  | some d => K ⟨upd sl d v, hp, nx⟩
  | none => K ⟨sl, hp, nx⟩
theorem putK_iff (sl : Nat → V) (hp : Nat → Ob) (nx : Nat) (d : Option Nat) (v : V) (K : S → Prop) : putK sl hp nx d v K ↔ K (S.put ⟨sl, hp, nx⟩ d v) := by cases d <;> exact Iff.rfl
def OR.runF (r : OR) (s : S) (d : Option Nat) (K : S → Prop) : Prop := match s with
  | ⟨sl, hp, nx⟩ => match r with
    | .val v => forceV v fun v => putK sl hp nx d v K
    | .chk c v => c ∧ forceV v fun v => putK sl hp nx d v K
    | .new c o own => c ∧ forceO o fun o => forceN nx fun n => putK sl (upd hp n o) (n + 1) d (newV own n) K
    | .put c id o => c ∧ forceO o fun o => putK sl (upd hp id o) nx d .top K
    | .mov c id o => c ∧ forceO o fun o => forceN nx fun n => putK sl (upd (upd hp id .no) n o) (n + 1) d (.osl n) K
    | .bad => False
theorem OR.runF_iff (r : OR) (s : S) (d : Option Nat) (K : S → Prop) : r.runF s d K ↔ r.run s d K := by
  obtain ⟨sl, hp, nx⟩ := s
  cases r <;> simp only [OR.runF, OR.run, forceN_iff, forceV_iff, forceO_iff, force_iff, putK_iff]
def cellsV : V → List V
  | .agg cs => cs
  | v => [v]
def V.sc : V → Option Sc
  | .int k n => some (.int k n)
  | .bool b => some (.bool b)
  | _ => none
def scs : List V → Option (List Sc)
  | [] => some []
  | v :: vs => match v.sc, scs vs with
    | some a, some b => some (a :: b)
    | _, _ => none
def takeN {α : Type} : Nat → List α → Option (List α)
  | 0, _ => some []
  | _ + 1, [] => none
  | n + 1, x :: l => match takeN n l with
    | some r => some (x :: r)
    | none => none
def setR {α : Type} (cs : List α) (k : Nat) (vs : List α) : List α := cs.take k ++ vs ++ cs.drop (k + vs.length)
def allOne : List V → Bool
  | [] => true
  | v :: vs => v.one && allOne vs
def mkV (agg : Bool) (l : List V) : V := match agg with
  | true => .agg l
  | false => match l with
    | [v] => v
    | _ => .top
/-- The cells of a row's element, from a place on. -/
def rowCells (E : ET) (l : List (den E)) (e s f n : Nat) (agg : Bool) : OR :=
  match decide (s = E.length ∧ f + n ≤ E.length) with
  | true => .chk (e < l.length) (mkV agg ((((enc E (l.getD e (dflt E))).drop f).take n).map Sc.toV))
  | false => .bad
def ldF (h : Nat → Ob) (n : Nat) (agg : Bool) : V → OR
  | .ptr id e s f => match h id with
    | .var _ cs => match takeN n (cs.drop (e * s + f)) with
      | some l => .val (mkV agg l)
      | none => .bad
    | .rv cs => match takeN n (cs.drop (e * s + f)) with
      | some l => .val (mkV agg l)
      | none => .bad
    | .ro E l => rowCells E l e s f n agg
    | .own _ E l => rowCells E l e s f n agg
    | _ => .bad
  | _ => .bad
def stF (h : Nat → Ob) (n : Nat) (a : V) (vs : List V) : OR := match a with
  | .ptr id e s f => match h id with
    | .var t cs => match decide (vs.length = n ∧ e * s + f + n ≤ cs.length) && allOne vs with
      | true => .put True id (.var t (setR cs (e * s + f) vs))
      | false => .bad
    | .own t E l => match decide (vs.length = n ∧ s = E.length ∧ f + n ≤ E.length), scs vs with
      | true, some ss => match dec E (setR (enc E (l.getD e (dflt E))) f ss) with
        | some y => .put (e < l.length) id (.own t E (l.set e y))
        | none => .bad
      | _, _ => .bad
    | _ => .bad
  | _ => .bad
def eqL : ET → List V → List V → Option Bool
  | [], [], [] => some true
  | .int k :: ks, .int k1 a :: xs, .int k2 b :: ys => match decide (k1 = k ∧ k2 = k), eqL ks xs ys with
    | true, some r => some ((a == b) && r)
    | _, _ => none
  | .bool :: ks, .bool a :: xs, .bool b :: ys => match eqL ks xs ys with
    | some r => some ((a == b) && r)
    | none => none
  | _, _, _ => none
def bitsF (k : IntKind) (op : BinOp) (a b : Int) : Option Int :=
  match op with
  | .and => some (k.wrap (BitVec.ofInt k.bits a &&& BitVec.ofInt k.bits b).toNat)
  | .or => some (k.wrap (BitVec.ofInt k.bits a ||| BitVec.ofInt k.bits b).toNat)
  | .xor => some (k.wrap (BitVec.ofInt k.bits a ^^^ BitVec.ofInt k.bits b).toNat)
  | _ => none
def binI (op : BinOp) (k : IntKind) (a b : Int) : OR :=
  match op with
  | .add => .val (.int k (k.wrap (a + b)))
  | .sub => .val (.int k (k.wrap (a - b)))
  | .mul => .val (.int k (k.wrap (a * b)))
  | .quo => .chk (b ≠ 0) (.int k (k.wrap (a.tdiv b)))
  | .rem => .chk (b ≠ 0) (.int k (a.tmod b))
  | .eql => .val (.bool (a == b))
  | .neq => .val (.bool (a != b))
  | .lss => .val (.bool (decide (a < b)))
  | .leq => .val (.bool (decide (a ≤ b)))
  | .gtr => .val (.bool (decide (a > b)))
  | .geq => .val (.bool (decide (a ≥ b)))
  | .shl => .bad
  | .shr => .bad
  | op => match bitsF k op a b with
    | some n => .val (.int k n)
    | none => .bad
def binF (op : BinOp) : V → V → OR
  | .int k a, .int k' b => match op with
    | .shl => .chk (0 ≤ b) (.int k (k.wrap (a * 2 ^ (min b.toNat k.bits))))
    | .shr => .chk (0 ≤ b) (.int k (a.fdiv (2 ^ (min b.toNat k.bits))))
    | op => match decide (k = k') with
      | true => binI op k a b
      | false => .bad
  | _, _ => .bad
def lenF (h : Nat → Ob) : V → Option Nat
  | .nsl => some 0
  | .sl _ _ len _ => some len
  | .osl id => match h id with
    | .ro _ l => some l.length
    | .own _ _ l => some l.length
    | _ => none
  | _ => none
def pickV (c : Bool) : V → V → V
  | .bool x, .bool y => .bool (bif c then x else y)
  | .int k x, .int k' y => match decide (k = k') with
    | true => .int k (bif c then x else y)
    | false => bif c then .int k x else .int k' y
  | x, y => bif c then x else y
/-- Parts laid into cells. -/
def fillV (s : S) : List V → List (Nat × Nat × AO) → Option (List V)
  | cs, [] => some cs
  | cs, (off, size, x) :: r => match decide ((cellsV (rd s x)).length = size ∧ off + size ≤ cs.length) && allOne (cellsV (rd s x)) with
    | true => fillV s (setR cs off (cellsV (rd s x))) r
    | false => none
def chunks (E : ET) : Nat → List V → Option (List (den E))
  | 0, [] => some []
  | 0, _ => none
  | n + 1, vs => match takeN E.length vs with
    | some c => match scs c with
      | some ss => match dec E ss, chunks E n (vs.drop E.length) with
        | some x, some r => some (x :: r)
        | _, _ => none
      | none => none
    | none => none
/-- A list that a value reads as, and on what condition. -/
def castL {E E' : ET} (e : E' = E) (l : List (den E')) : List (den E) := e ▸ l
def lst (E : ET) (h : Nat → Ob) : V → Option (Prop × List (den E))
  | .nsl => some (True, [])
  | .osl id => match h id with
    | .ro E' l => if e : E' = E then some (True, castL e l) else none
    | .own _ E' l => if e : E' = E then some (True, castL e l) else none
    | _ => none
  | .sl id lo len s => match h id with
    | .ro E' l => if e : E' = E then match decide (s = E.length) with | true => some (lo + len ≤ l.length, ((castL e l).drop lo).take len) | false => none else none
    | .own _ E' l => if e : E' = E then match decide (s = E.length) with | true => some (lo + len ≤ l.length, ((castL e l).drop lo).take len) | false => none else none
    | _ => none
  | _ => none
def appF (h : Nat → Ob) (t : Nat) (E : ET) (bytes : Nat) (x y : V) : OR :=
  match lst E h y with
  | none => .bad
  | some (c, m) => match x with
    | .nsl => .new (c ∧ m.length * bytes ≤ 140737488355328) (.own t E m) .o
    | .osl id => match h id with
      | .own t' E' l => if e : E' = E then match decide (t' = t) with
          | true => .mov (c ∧ (l.length + m.length) * bytes ≤ 140737488355328) id (.own t E (castL e l ++ m))
          | false => .bad
        else .bad
      | _ => .bad
    | _ => .bad
def sbase (h : Nat → Ob) (x : V) (s : Nat) : Option (Nat × Nat × Nat) :=
  match x with
  | .osl id => match h id with
    | .ro E l => match decide (E.length = s) with
      | true => some (id, 0, l.length)
      | false => none
    | .own _ E l => match decide (E.length = s) with
      | true => some (id, 0, l.length)
      | false => none
    | _ => none
  | .sl id l n s' => match decide (s' = s) with
    | true => some (id, l, n)
    | false => none
  | _ => none
def sliceF (h : Nat → Ob) (x : V) (lo hi : Option V) (s : Nat) : OR :=
  match sbase h x s with
  | none => .bad
  | some (id, l, n) => match lo, hi with
    | none, some (.int _ b) => .chk (0 ≤ b ∧ b ≤ (n : Int)) (.sl id l b.toNat s)
    | some (.int _ a), none => .chk (0 ≤ a ∧ a ≤ (n : Int)) (.sl id (l + a.toNat) (n - a.toNat) s)
    | some (.int _ a), some (.int _ b) => .chk (0 ≤ a ∧ a ≤ b ∧ b ≤ (n : Int)) (.sl id (l + a.toNat) (b.toNat - a.toNat) s)
    | _, _ => .bad
/-- Keys. -/
def denB : (E : ET) → den E → den E → Bool
  | [], _, _ => true
  | [.int _], x, y => (show Int from x) == (show Int from y)
  | [.bool], x, y => (show Bool from x) == (show Bool from y)
  | .int _ :: k' :: r, x, y => (show Int from x.1) == (show Int from y.1) && denB (k' :: r) x.2 y.2
  | .bool :: k' :: r, x, y => (show Bool from x.1) == (show Bool from y.1) && denB (k' :: r) x.2 y.2
def mget {α : Type} (KE : ET) (k : den KE) : List (den KE × α) → Option α
  | [] => none
  | p :: r => bif denB KE k p.1 then some p.2 else mget KE k r
def mput {α : Type} (KE : ET) (k : den KE) (v : α) : List (den KE × α) → List (den KE × α)
  | [] => [(k, v)]
  | p :: r => bif denB KE k p.1 then (k, v) :: r else p :: mput KE k v r
def keyD (ag : Bool) (E : ET) (v : V) : Option (den E) := match ag with
  | true => match v with
    | .agg cs => match scs cs with
      | some ss => dec E ss
      | none => none
    | _ => none
  | false => match v.sc with
    | some x => dec E [x]
    | none => none
def mlkV (va : Bool) (VE : ET) (ok : Bool) (r : Option (den VE)) : V := match ok with
  | true => .tup [mkV va ((enc VE (r.getD (dflt VE))).map Sc.toV), .bool r.isSome]
  | false => mkV va ((enc VE (r.getD (dflt VE))).map Sc.toV)
/-- A map of such types. -/
def castM {KE VE KE' VE' : ET} (e : KE' = KE ∧ VE' = VE) (m : List (den KE' × den VE')) : List (den KE × den VE) := e.1 ▸ e.2 ▸ m
def mobj (ka : Bool) (KE : ET) (va : Bool) (VE : ET) : Ob → Option (List (den KE × den VE))
  | .mp ka' KE' va' VE' m => match decide (ka' = ka ∧ va' = va) with
    | true => if e : KE' = KE ∧ VE' = VE then some (castM e m) else none
    | false => none
  | _ => none
def opF (s : S) : AOp → OR
  | .mv x => .val (rd s x)
  | .mvn t E => .new True (.own t E []) .o
  | .pick c a b => match rd s c with
    | .bool c => .val (pickV c (rd s a) (rd s b))
    | _ => .bad
  | .alloc t z => .new True (.var t z) .p
  | .box t x => match allOne (cellsV (rd s x)) with
    | true => .new True (.var t (cellsV (rd s x))) .p
    | false => .bad
  | .ld n agg x => ldF s.hp n agg (rd s x)
  | .st n a x => stF s.hp n (rd s a) (cellsV (rd s x))
  | .nck x => match rd s x with
    | .ptr id e z f => .val (.ptr id e z f)
    | .fn f fs cs => .val (.fn f fs cs)
    | _ => .bad
  | .bin op x y => binF op (rd s x) (rd s y)
  | .binb neg x y => match rd s x, rd s y with
    | .bool a, .bool b => match neg with
      | true => .val (.bool (!(a == b)))
      | false => .val (.bool (a == b))
    | _, _ => .bad
  | .eqa neg ks x y => match rd s x, rd s y with
    | .agg xs, .agg ys => match eqL ks xs ys with
      | some b => match neg with
        | true => .val (.bool (!b))
        | false => .val (.bool b)
      | none => .bad
    | _, _ => .bad
  | .not x => match rd s x with
    | .bool b => .val (.bool (!b))
    | _ => .bad
  | .neg x => match rd s x with
    | .int k n => .val (.int k (k.wrap (0 - n)))
    | _ => .bad
  | .cv k x => match rd s x with
    | .int _ n => .val (.int k (k.wrap n))
    | _ => .bad
  | .fa x off => match rd s x with
    | .ptr id e z f => .val (.ptr id e z (f + off))
    | _ => .bad
  | .fld x off n agg => match rd s x with
    | .agg cs => match takeN n (cs.drop off) with
      | some l => .val (mkV agg l)
      | none => .bad
    | _ => .bad
  | .ia x i z => match rd s x, lenF s.hp (rd s x), rd s i with
    | .osl id, some n, .int _ i => .chk (0 ≤ i ∧ i < (n : Int)) (.ptr id i.toNat z 0)
    | .sl id lo _ z', some n, .int _ i => match decide (z' = z) with
      | true => .chk (0 ≤ i ∧ i < (n : Int)) (.ptr id (lo + i.toNat) z 0)
      | false => .bad
    | _, _, _ => .bad
  | .iaa x i len z => match rd s x, rd s i with
    | .ptr id e z' f, .int _ i => .chk (0 ≤ i ∧ i < (len : Int)) (.ptr id e z' (f + i.toNat * z))
    | _, _ => .bad
  | .ixs l i => match rd s i with
    | .int _ i => .chk (0 ≤ i ∧ i < (l.length : Int)) (.int .u8 ((l.getD i.toNat 0 : Nat) : Int))
    | _ => .bad
  | .ixa x i len z agg => match rd s x, rd s i with
    | .agg cs, .int _ i => match i with
      | .ofNat i => match takeN z (cs.drop (i * z)) with
        | some l => .chk (i < len) (mkV agg l)
        | none => .bad
      | _ => .bad
    | _, _ => .bad
  | .ext x i => match rd s x with
    | .tup vs => match vs[i]? with
      | some v => .val v
      | none => .bad
    | _ => .bad
  | .mkf f fs cs => .val (.fn f (fs.map (rd s)) (cs.map (rd s)))
  | .mki t x => .val (.ifc t (rd s x))
  | .tas t zs x => match rd s x with
    | .ifc t' v => match Nat.beq t' t with
      | true => .val (.tup [v, .bool true])
      | false => .val (.tup [.agg zs, .bool false])
    | .nifc => .val (.tup [.agg zs, .bool false])
    | _ => .bad
  | .ifn neg x => match rd s x with
    | .ifc _ _ => .val (.bool neg)
    | .nifc => .val (.bool (!neg))
    | _ => .bad
  | .bld z parts => match fillV s z parts with
    | some cs => .val (.agg cs)
    | none => .bad
  | .bsl t E len z parts => match fillV s z parts with
    | some cs => match chunks E len cs with
      | some l => .new True (.own t E l) .o
      | none => .bad
    | none => .bad
  | .msl t E bytes z x c => match rd s x, rd s c with
    | .int .i64 a, .int .i64 b => .new (a = b ∧ 0 ≤ a ∧ a * bytes ≤ 140737488355328) (.own t E (List.replicate a.toNat z)) .o
    | _, _ => .bad
  | .slc x lo hi z => sliceF s.hp (rd s x) (lo.map (rd s)) (hi.map (rd s)) z
  | .slm x hi z => match rd s x, rd s hi with
    | .osl id, .int _ b => match s.hp id with
      | .own t E l => match decide (E.length = z) with
        | true => .mov (0 ≤ b ∧ b ≤ (l.length : Int)) id (.own t E (l.take b.toNat))
        | false => .bad
      | _ => .bad
    | _, _ => .bad
  | .len x => match lenF s.hp (rd s x) with
    | some n => .val (.int .i64 (n : Int))
    | none => .bad
  | .app t E bytes x y => appF s.hp t E bytes (rd s x) (rd s y)
  | .mx mn x y => match rd s x, rd s y with
    | .int k a, .int k' b => match decide (k = k') with
      | true => match mn with
        | true => .val (.int k (if b < a then b else a))
        | false => .val (.int k (if b > a then b else a))
      | false => .bad
    | _, _ => .bad
  | .mkm ka KE va VE => .new True (.mp ka KE va VE []) .m
  | .mlk ka KE va VE ok x k => match rd s x with
    | .mp id => match mobj ka KE va VE (s.hp id), keyD ka KE (rd s k) with
      | some m, some key => .val (mlkV va VE ok (mget KE key m))
      | _, _ => .bad
    | .nmp => match keyD ka KE (rd s k) with
      | some key => .val (mlkV va VE ok none)
      | none => .bad
    | _ => .bad
  | .mup ka KE va VE x k v => match rd s x with
    | .mp id => match mobj ka KE va VE (s.hp id), keyD ka KE (rd s k), keyD va VE (rd s v) with
      | some m, some key, some val => .put True id (.mp ka KE va VE (mput KE key val m))
      | _, _, _ => .bad
    | _ => .bad
  | .call _ _ => .bad
  | .pan _ => .bad
  | .no => .bad

inductive Out where
  | ret (v : V)
  | pan (v : V)
abbrev Tab := Nat → List V → (Nat → Ob) → Nat → (Out → (Nat → Ob) → Nat → Prop) → Prop
def runOp1 (T : Tab) (o : AOper) (K : S → Prop) (PQ : V → S → Prop) (s : S) : Prop :=
  match o.op with
  | .call f args => match rd s f with
    | .fn fi fs cs => forceL (fs ++ args.map (rd s) ++ cs) fun xs => forceN s.nx fun n => T fi xs s.hp n fun out h n => match out with
      | .ret v => forceV v fun v => putK s.sl h n o.d v K
      | .pan v => PQ v ⟨s.sl, h, n⟩
    | _ => False
  | .pan x => match rd s x with
    | .ifc t v => PQ (.ifc t v) s
    | _ => False
  | op => (opF s op).runF s o.d K
def runOp (T : Tab) (o : AOper) (K : S → Prop) (PQ : V → S → Prop) (s : S) : Prop :=
  match o.g with
  | none => runOp1 T o K PQ s
  | some (g, want) => match s.sl g with
    | .bool b => match want with
      | true => bcase b (runOp1 T o K PQ ⟨upd s.sl g (.bool true), s.hp, s.nx⟩) (putK (upd s.sl g (.bool false)) s.hp s.nx o.d (.tup []) K)
      | false => bcase b (putK (upd s.sl g (.bool true)) s.hp s.nx o.d (.tup []) K) (runOp1 T o K PQ ⟨upd s.sl g (.bool false), s.hp, s.nx⟩)
    | .tup [] => putK s.sl s.hp s.nx o.d (.tup []) K
    | _ => False
theorem upd_self {α : Type} (f : Nat → α) (i : Nat) (x : α) (h : f i = x) : upd f i x = f := by
  funext j
  by_cases e : j = i
  · subst e; rw [upd_same]; exact h.symm
  · exact upd_ne _ _ _ e
theorem st_self (s : S) (g : Nat) (x : V) (h : s.sl g = x) : (⟨upd s.sl g x, s.hp, s.nx⟩ : S) = s := by rw [upd_self _ _ _ h]
def runOps (T : Tab) : List AOper → (S → Prop) → (V → S → Prop) → S → Prop
  | [], K, _, s => K s
  | o :: l, K, PQ, s => runOp T o (runOps T l K PQ) PQ s

mutual
def V.lt (n : Nat) : V → Bool
  | .mp id => Nat.blt id n
  | .ptr id _ _ _ => Nat.blt id n
  | .sl id _ _ _ => Nat.blt id n
  | .osl id => Nat.blt id n
  | .fn _ fs cs => V.lts n fs && V.lts n cs
  | .ifc _ v => V.lt n v
  | .agg cs => V.lts n cs
  | .tup cs => V.lts n cs
  | _ => true
def V.lts (n : Nat) : List V → Bool
  | [] => true
  | v :: vs => V.lt n v && V.lts n vs
end
/-- What a function that gives back values and new lists comes to: on what condition, what, and the new lists. -/
abbrev GSpec := List V → List Ob → Option (Prop × Out × List Ob)
mutual
def viewV (h : Nat → Ob) (obs : List Ob) : V → Option (Prop × V × List Ob)
  | .int k n => some (True, .int k n, obs)
  | .bool b => some (True, .bool b, obs)
  | .nilp => some (True, .nilp, obs)
  | .nsl => some (True, .nsl, obs)
  | .nfn => some (True, .nfn, obs)
  | .nifc => some (True, .nifc, obs)
  | .nmp => some (True, .nmp, obs)
  | .osl id => match h id with
    | .ro E l => some (True, .osl obs.length, obs ++ [.ro E l])
    | .own _ E l => match decide (0 < E.length) with
      | true => some (True, .osl obs.length, obs ++ [.ro E l])
      | false => none
    | _ => none
  | .sl id lo len s => match h id with
    | .ro E l => match decide (0 < E.length ∧ s = E.length) with
      | true => some (lo + len ≤ l.length, .osl obs.length, obs ++ [.ro E ((l.drop lo).take len)])
      | false => none
    | .own _ E l => match decide (0 < E.length ∧ s = E.length) with
      | true => some (lo + len ≤ l.length, .osl obs.length, obs ++ [.ro E ((l.drop lo).take len)])
      | false => none
    | _ => none
  | .ptr id e s f => match Nat.beq (e * s + f) 0 with
    | true => match h id with
      | .var _ cs => match V.lts 0 cs with
        | true => some (True, .ptr obs.length 0 0 0, obs ++ [.rv cs])
        | false => none
      | .rv cs => some (True, .ptr obs.length 0 0 0, obs ++ [.rv cs])
      | _ => none
    | false => none
  | .fn f [] [] => some (True, .fn f [] [], obs)
  | .agg cs => match viewL h obs cs with
    | some (c, cs', obs') => some (c, .agg cs', obs')
    | none => none
  | _ => none
def viewL (h : Nat → Ob) (obs : List Ob) : List V → Option (Prop × List V × List Ob)
  | [] => some (True, [], obs)
  | v :: vs => match viewV h obs v with
    | some (c, v', obs') => match viewL h obs' vs with
      | some (d, vs', obs'') => some (c ∧ d, v' :: vs', obs'')
      | none => none
    | none => none
end
mutual
def shV (n : Nat) : V → V
  | .osl id => .osl (n + id)
  | .agg cs => .agg (shL n cs)
  | .tup cs => .tup (shL n cs)
  | .int k m => .int k m
  | .bool b => .bool b
  | .nilp => .nilp
  | .nsl => .nsl
  | .nfn => .nfn
  | .nifc => .nifc
  | .mp id => .mp (n + id)
  | .nmp => .nmp
  | .fn f a b => .fn f (shL n a) (shL n b)
  | .ifc t v => .ifc t (shV n v)
  | .top => .top
  | .ptr a b c d => .ptr (n + a) b c d
  | .sl a b c d => .sl (n + a) b c d
def shL (n : Nat) : List V → List V
  | [] => []
  | v :: vs => shV n v :: shL n vs
end
def addObs (h : Nat → Ob) (n : Nat) : List Ob → Nat → Ob
  | [] => h
  | o :: l => addObs (upd h n o) (n + 1) l
mutual
def idsV : V → List Nat
  | .ptr id _ _ _ => [id]
  | .sl id _ _ _ => [id]
  | .osl id => [id]
  | .mp id => [id]
  | .fn _ a b => idsL a ++ idsL b
  | .ifc _ v => idsV v
  | .agg cs => idsL cs
  | .tup cs => idsL cs
  | _ => []
def idsL : List V → List Nat
  | [] => []
  | v :: vs => idsV v ++ idsL vs
end
/-- Which parts of a value are known by an equation alone, from here on. -/
inductive Msk where
  | no
  | all
  | l (ms : List Msk)
mutual
def absV : V → (V → Prop) → Prop
  | .int k n, K => ∀ m, m = n → K (.int k m)
  | .bool b, K => ∀ c, c = b → K (.bool c)
  | .agg cs, K => absL cs fun cs => K (.agg cs)
  | .tup cs, K => absL cs fun cs => K (.tup cs)
  | .top, K => K .top
  | .ptr id e s f, K => K (.ptr id e s f)
  | .nilp, K => K .nilp
  | .sl id lo len s, K => K (.sl id lo len s)
  | .osl id, K => K (.osl id)
  | .nsl, K => K .nsl
  | .fn f fs cs, K => K (.fn f fs cs)
  | .nfn, K => K .nfn
  | .ifc t v, K => K (.ifc t v)
  | .nifc, K => K .nifc
  | .mp id, K => K (.mp id)
  | .nmp, K => K .nmp
def absL : List V → (List V → Prop) → Prop
  | [], K => K []
  | v :: vs, K => absV v fun v => absL vs fun vs => K (v :: vs)
end
mutual
theorem absV_iff : ∀ (v : V) (K : V → Prop), absV v K ↔ K v
  | .int k n, K => by simp only [absV]; exact ⟨fun h => h _ rfl, fun h m e => by rw [e]; exact h⟩
  | .bool b, K => by simp only [absV]; exact ⟨fun h => h _ rfl, fun h m e => by rw [e]; exact h⟩
  | .agg cs, K => by simp only [absV]; rw [absL_iff cs]
  | .tup cs, K => by simp only [absV]; rw [absL_iff cs]
  | .top, K => by simp only [absV]
  | .ptr id e s f, K => by simp only [absV]
  | .nilp, K => by simp only [absV]
  | .sl id lo len s, K => by simp only [absV]
  | .osl id, K => by simp only [absV]
  | .nsl, K => by simp only [absV]
  | .fn f fs cs, K => by simp only [absV]
  | .nfn, K => by simp only [absV]
  | .ifc t v, K => by simp only [absV]
  | .nifc, K => by simp only [absV]
  | .mp id, K => by simp only [absV]
  | .nmp, K => by simp only [absV]
theorem absL_iff : ∀ (vs : List V) (K : List V → Prop), absL vs K ↔ K vs
  | [], K => by simp only [absL]
  | v :: vs, K => by simp only [absL]; rw [absV_iff v, absL_iff vs]
end
mutual
def absM : Msk → V → (V → Prop) → Prop
  | .no, v, K => K v
  | .all, v, K => absV v K
  | .l ms, v, K => match v with
    | .agg cs => absML ms cs fun cs => K (.agg cs)
    | .tup cs => absML ms cs fun cs => K (.tup cs)
    | v => K v
def absML : List Msk → List V → (List V → Prop) → Prop
  | m :: ms, v :: vs, K => absM m v fun v => absML ms vs fun vs => K (v :: vs)
  | [], vs, K => K vs
  | _ :: _, [], K => K []
end
mutual
theorem absM_iff : ∀ (m : Msk) (v : V) (K : V → Prop), absM m v K ↔ K v
  | .no, v, K => by simp only [absM]
  | .all, v, K => by simp only [absM]; exact absV_iff v K
  | .l ms, v, K => by
    simp only [absM]
    split
    · rw [absML_iff ms]
    · rw [absML_iff ms]
    · exact Iff.rfl
theorem absML_iff : ∀ (ms : List Msk) (vs : List V) (K : List V → Prop), absML ms vs K ↔ K vs
  | m :: ms, v :: vs, K => by simp only [absML]; rw [absM_iff m, absML_iff ms]
  | [], vs, K => by cases vs <;> simp only [absML]
  | _ :: _, [], K => by simp only [absML]
end
/-- The same, of a heap of which only what the arguments name is looked at. -/
structure DSpec where
  ab : Msk := .no
  g : List V → (Nat → Ob) → Option (Prop × Out × List Ob)
  same : ∀ (args : List V) (h h' : Nat → Ob), (∀ id ∈ idsL args, h id = h' id) → g args h = g args h'
abbrev DTab := Nat → Option DSpec
def idsO : Ob → List Nat
  | .var _ cs => idsL cs
  | _ => []
/-- Rows alone. -/
def flatObs : List Ob → Bool
  | [] => true
  | .ro _ _ :: l => flatObs l
  | .own _ _ _ :: l => flatObs l
  | _ => false
def optA : Option AO → List AO
  | none => []
  | some x => [x]
/-- The blocks that an operation looks into. -/
def rdsOf (s : S) : AOp → List Nat
  | .ld _ _ x => idsV (rd s x)
  | .st _ x _ => idsV (rd s x)
  | .ia x _ _ => idsV (rd s x)
  | .slc x _ _ _ => idsV (rd s x)
  | .slm x _ _ => idsV (rd s x)
  | .len x => idsV (rd s x)
  | .app _ _ _ x y => idsV (rd s x) ++ idsV (rd s y)
  | .mlk _ _ _ _ _ x _ => idsV (rd s x)
  | .mup _ _ _ _ x _ _ => idsV (rd s x)
  | .call f args => idsV (rd s f) ++ idsL (args.map (rd s))
  | _ => []
def numb (k : Nat) : List Ob → List (Nat × Ob)
  | [] => []
  | o :: l => (k, o) :: numb (k + 1) l
def applyE (h : Nat → Ob) : List (Nat × Ob) → Nat → Ob
  | [] => h
  | (i, o) :: l => applyE (upd h i o) l
/-- An operation of such a region, its new blocks numbered from k on: its value, what it turns. -/
def dexec (D : DTab) (k : Nat) (op : AOp) (s : S) (K : V → List (Nat × Ob) → Prop) (PQ : V → Prop) : Prop :=
  match op with
  | .call f args => match rd s f with
    | .fn fi fs cs => match D fi with
      | some g => match g.g (fs ++ args.map (rd s) ++ cs) s.hp with
        | some (d, out, news) => match out with
          | .ret v => match Nat.ble news.length 8 && flatObs news with
            | true => d ∧ absM g.ab (shV k v) fun v => K v (numb k news)
            | false => False
          | .pan v => d ∧ PQ v
        | none => False
      | none => False
    | _ => False
  | .pan _ => False
  | op => match opF s op with
    | .val v => force v fun v => K v []
    | .chk c v => c ∧ force v fun v => K v []
    | .new c o own => c ∧ K (newV own k) [(k, o)]
    | .put c id o => c ∧ K .top [(id, o)]
    | .mov c id o => c ∧ K (.osl k) [(id, .no), (k, o)]
    | .bad => False
def dop (D : DTab) (k : Nat) (o : AOper) (s : S) (K : V → List (Nat × Ob) → List Nat → Prop) (PQ : V → Prop) : Prop :=
  match o.g with
  | none => dexec D k o.op s (fun v e => K v e (rdsOf s o.op)) PQ
  | some (g, want) => match s.sl g with
    | .bool b => match want with
      | true => bcase b (dexec D k o.op s (fun v e => K v e (rdsOf s o.op)) PQ) (K (.tup []) [] [])
      | false => bcase b (K (.tup []) [] []) (dexec D k o.op s (fun v e => K v e (rdsOf s o.op)) PQ)
    | .tup [] => K (.tup []) [] []
    | _ => False
def memB (i : Nat) : List Nat → Bool
  | [] => false
  | j :: l => Nat.beq j i || memB i l
def disj (a b : List Nat) : Bool := a.all fun i => !memB i b
/-- An operation and those before it: what one turns, no other looks at, or they have their order. -/
def okTr (preds rds wrs : List Nat) : List (Nat × List Nat × List Nat) → Bool
  | [] => true
  | (i, rds', wrs') :: l => (memB i preds || (disj wrs' rds && disj wrs rds' && disj wrs wrs')) && okTr preds rds wrs l
/-- The blocks that are named: old ones, or made by this operation or by those before it. -/
def okId (n0 : Nat) (js : List Nat) (id : Nat) : Bool := Nat.blt id n0 || js.any fun j => Nat.ble (n0 + 8 * j) id && Nat.blt id (n0 + 8 * j + 8)
def okIds (n0 j : Nat) (ps : List Nat) (v : V) (effs : List (Nat × Ob)) : Bool := (idsV v).all (okId n0 (j :: ps)) && effs.all fun p => (okId n0 (j :: ps) p.1) && (idsO p.2).all (okId n0 ps)
def allAfter (j : Nat) : List (AOper × List Nat) → Bool
  | [] => true
  | (_, preds) :: l => memB j preds && allAfter j l
def effsIn (preds : List Nat) : List (Nat × List Nat × List Nat) → Bool
  | [] => true
  | (i, _, wrs) :: l => (wrs.isEmpty || memB i preds) && effsIn preds l
/-- A guard, asked once. -/
def splitG (g : Option (Nat × Bool)) (s : S) (K : S → Prop) : Prop := match g with
  | none => K s
  | some (g, _) => match s.sl g with
    | .bool b => bcase b (K ⟨upd s.sl g (.bool true), s.hp, s.nx⟩) (K ⟨upd s.sl g (.bool false), s.hp, s.nx⟩)
    | _ => K s
theorem splitG_iff (g : Option (Nat × Bool)) (s : S) (K : S → Prop) : splitG g s K ↔ K s := by
  unfold splitG
  split
  · exact Iff.rfl
  · split
    · rename_i b hb
      cases b
      · rw [st_self s _ _ hb]; exact Iff.rfl
      · rw [st_self s _ _ hb]; exact Iff.rfl
    · exact Iff.rfl
def drun (D : DTab) (n0 top : Nat) : Nat → List (AOper × List Nat) → List (Nat × List Nat × List Nat) → (S → Prop) → (V → S → Prop) → S → Prop
  | _, [], _, K, _, s => K s
  | j, (o, preds) :: l, tr, K, PQ, s => splitG o.g s fun s => dop D (n0 + 8 * j) o s
      (fun v effs rds => forceV v fun v => forceE effs fun effs => forceI rds fun rds => match okTr preds rds (effs.map (·.1)) tr && okIds n0 j preds v effs with
        | true => putK s.sl (applyE s.hp effs) top o.d v (drun D n0 top (j + 1) l ((j, rds, effs.map (·.1)) :: tr) K PQ)
        | false => False)
      (fun v => match allAfter j l && effsIn preds tr && V.lt 0 v with
        | true => ∀ sl, PQ v ⟨sl, s.hp, top⟩
        | false => False)
def clr (n0 : Nat) (h : Nat → Ob) : Nat → Ob := fun i => bif Nat.blt i n0 then h i else .no
inductive AX where
  | nrm
  | ext (id : Nat)
  | ret
  | pan (v : V)
/-- A state written out. -/
def lookV : List (Nat × V) → Nat → V
  | [], _ => .top
  | (i, v) :: l, j => bif Nat.beq j i then v else lookV l j
def lookO : List Ob → Nat → Ob
  | [], _ => .no
  | o :: l, i => match i with
    | 0 => o
    | i + 1 => lookO l i
def St (l : List (Nat × V)) (obs : List Ob) : S := ⟨lookV l, lookO obs, obs.length⟩
/-- From a state to one that is written out, in which the rest is forgotten. -/
def SubV (s : S) (n : Nat) : List (Nat × V) → Prop
  | [] => True
  | (i, v) :: l => (s.sl i = v ∧ V.lt n v = true) ∧ SubV s n l
def ObLt (n : Nat) : Ob → Prop
  | .var _ cs => V.lts n cs = true
  | _ => True
def SubO (s : S) (n : Nat) : Nat → List Ob → Prop
  | _, [] => True
  | i, o :: l => ((o = .no ∨ s.hp i = o) ∧ ObLt n o) ∧ SubO s n (i + 1) l
def Sub (n0 : Nat) (s : S) (l : List (Nat × V)) (obs : List Ob) : Prop := n0 ≤ obs.length ∧ obs.length ≤ s.nx ∧ SubV s obs.length l ∧ SubO s obs.length 0 obs
def headId : V → Option Nat
  | .osl id => some id
  | .ptr id _ _ _ => some id
  | .sl id _ _ _ => some id
  | .mp id => some id
  | _ => none
def fndId (s : S) (i : Nat) : List (Nat × V) → Nat
  | [] => i
  | (t, v) :: l => match headId v with
    | some j => match Nat.beq j i with
      | true => match headId (s.sl t) with
        | some k => k
        | none => i
      | false => fndId s i l
    | none => fndId s i l
def fndIds (n0 : Nat) (s : S) (l : List (Nat × V)) : Nat → Nat → List Nat
  | _, 0 => []
  | i, n + 1 => (bif Nat.blt i n0 then i else fndId s i l) :: fndIds n0 s l (i + 1) n
def rnm : List Nat → Nat → Nat
  | [], i => i
  | k :: l, i => match i with
    | 0 => k
    | i + 1 => rnm l i
mutual
def renV (fs : List Nat) : V → V
  | .osl id => .osl (rnm fs id)
  | .ptr id e s f => .ptr (rnm fs id) e s f
  | .sl id lo len s => .sl (rnm fs id) lo len s
  | .mp id => .mp (rnm fs id)
  | .agg cs => .agg (renL fs cs)
  | .tup cs => .tup (renL fs cs)
  | .fn f a b => .fn f (renL fs a) (renL fs b)
  | .ifc t v => .ifc t (renV fs v)
  | .int k m => .int k m
  | .bool b => .bool b
  | .nilp => .nilp
  | .nsl => .nsl
  | .nfn => .nfn
  | .nifc => .nifc
  | .nmp => .nmp
  | .top => .top
def renL (fs : List Nat) : List V → List V
  | [] => []
  | v :: vs => renV fs v :: renL fs vs
end
def renO (fs : List Nat) : Ob → Ob
  | .var t cs => .var t (renL fs cs)
  | o => o
mutual
def eqVV : V → V → Prop
  | .int k a, .int k' b => match decide (k = k') with
    | true => a = b
    | false => False
  | .bool a, .bool b => a = b
  | .agg cs, .agg ds => eqVL cs ds
  | .tup cs, .tup ds => eqVL cs ds
  | .ptr i e s f, .ptr i' e' s' f' => match Nat.beq i i' && Nat.beq s s' && Nat.beq f f' with
    | true => e = e'
    | false => False
  | .sl i a b s, .sl i' a' b' s' => match Nat.beq i i' && Nat.beq s s' with
    | true => a = a' ∧ b = b'
    | false => False
  | .osl i, .osl i' => match Nat.beq i i' with
    | true => True
    | false => False
  | .mp i, .mp i' => match Nat.beq i i' with
    | true => True
    | false => False
  | .fn f a b, .fn f' a' b' => match Nat.beq f f' with
    | true => eqVL a a' ∧ eqVL b b'
    | false => False
  | .ifc t v, .ifc t' v' => match Nat.beq t t' with
    | true => eqVV v v'
    | false => False
  | .nilp, .nilp => True
  | .nsl, .nsl => True
  | .nfn, .nfn => True
  | .nifc, .nifc => True
  | .nmp, .nmp => True
  | .top, .top => True
  | _, _ => False
def eqVL : List V → List V → Prop
  | [], [] => True
  | v :: vs, w :: ws => eqVV v w ∧ eqVL vs ws
  | _, _ => False
end
def eqOO : Ob → Ob → Prop
  | .var t cs, .var t' ds => match Nat.beq t t' with
    | true => eqVL cs ds
    | false => False
  | .rv cs, .rv ds => eqVL cs ds
  | .ro E l, .ro E' l' => if e : E = E' then castL e l = l' else False
  | .own t E l, .own t' E' l' => match Nat.beq t t' with
    | true => if e : E = E' then castL e l = l' else False
    | false => False
  | .mp ka KE va VE m, .mp ka' KE' va' VE' m' => match mobj ka' KE' va' VE' (.mp ka KE va VE m) with
    | some m2 => m2 = m'
    | none => False
  | _, _ => False
def isNo : Ob → Bool
  | .no => true
  | _ => false
def keepB : List Nat → List Ob → List Nat
  | k :: fs, o :: os => bif isNo o then keepB fs os else k :: keepB fs os
  | _, _ => []
def nodupB : List Nat → Bool
  | [] => true
  | k :: l => !memB k l && nodupB l
def vltsB (n : Nat) : List (Nat × V) → Bool
  | [] => true
  | (_, v) :: l => V.lt n v && vltsB n l
def oltB (n : Nat) : Ob → Bool
  | .var _ cs => V.lts n cs
  | _ => true
def oltsB (n : Nat) : List Ob → Bool
  | [] => true
  | o :: l => oltB n o && oltsB n l
def eqVs (s : S) (fs : List Nat) : List (Nat × V) → Prop
  | [] => True
  | (t, v) :: l => eqVV (s.sl t) (renV fs v) ∧ eqVs s fs l
def eqOs (s : S) (fs : List Nat) : Nat → List Ob → Prop
  | _, [] => True
  | i, o :: l => match isNo o with
    | true => eqOs s fs (i + 1) l
    | false => eqOO (s.hp (rnm fs i)) (renO fs o) ∧ eqOs s fs (i + 1) l
def SubQ (n0 : Nat) (s : S) (l : List (Nat × V)) (obs : List Ob) : Prop := forceI (fndIds n0 s l 0 obs.length) fun fs =>
  match Nat.ble n0 obs.length && fs.all (fun k => Nat.blt k s.nx) && nodupB (keepB fs obs) && vltsB obs.length l && oltsB obs.length obs with
  | true => eqVs s fs l ∧ eqOs s fs 0 obs
  | false => False
/-- What holds at a loop's head: by the loop's name, a measure. -/
abbrev Inv := Nat → Nat → List (Nat × V) → List Ob → Prop
/-- So many rounds at most. -/
def unrR (F : (S → Prop) → S → Prop) : Nat → S → Prop
  | 0 => fun _ => False
  | k + 1 => F (unrR F k)
def awp (T : Tab) (D : DTab) (Iv : Inv) (n0 : Nat) : AC → (AX → S → Prop) → S → Prop
  | .skip, Q, s => Q .nrm s
  | .reg l, Q, s => runOps T l (Q .nrm) (fun v => Q (.pan v)) s
  | .drw l, Q, s => forceN s.nx fun n0 => forceN (n0 + 8 * l.length) fun top => drun D n0 top 0 l [] (Q .nrm) (fun v => Q (.pan v)) ⟨s.sl, clr n0 s.hp, top⟩
  | .seq a b, Q, s => awp T D Iv n0 a (fun e s' => match e with
      | .nrm => awp T D Iv n0 b Q s'
      | .ext id => Q (.ext id) s'
      | .ret => Q .ret s'
      | .pan v => Q (.pan v) s') s
  | .seqc nm a b, Q, s => awp T D Iv n0 a (fun e s' => match e with
      | .nrm => ∃ m l obs, Iv nm m l obs ∧ Sub n0 s' l obs
      | .ext id => Q (.ext id) s'
      | .ret => Q .ret s'
      | .pan v => Q (.pan v) s') s ∧ ∀ m l obs, Iv nm m l obs → awp T D Iv n0 b Q (St l obs)
  | .cond x a b, Q, s => match rd s x with
    | .bool t => bcase t (awp T D Iv n0 a Q s) (awp T D Iv n0 b Q s)
    | _ => False
  | .blk id c, Q, s => awp T D Iv n0 c (fun e s' => match e with
      | .nrm => Q .nrm s'
      | .ext id' => bif Nat.beq id' id then Q .nrm s' else Q (.ext id') s'
      | .ret => Q .ret s'
      | .pan v => Q (.pan v) s') s
  | .loop nm c, Q, s => (∃ m l obs, Iv nm m l obs ∧ Sub n0 s l obs) ∧
      ∀ m l obs, Iv nm m l obs → awp T D Iv n0 c (fun e s' => match e with
        | .nrm => ∃ m' l' obs', m' < m ∧ Iv nm m' l' obs' ∧ Sub n0 s' l' obs'
        | .ext id => Q (.ext id) s'
        | .ret => Q .ret s'
        | .pan v => Q (.pan v) s') (St l obs)
  | .lpq nm c, Q, s => (∃ m l obs, Iv nm m l obs ∧ SubQ n0 s l obs) ∧
      ∀ m l obs, Iv nm m l obs → awp T D Iv n0 c (fun e s' => match e with
        | .nrm => ∃ m' l' obs', m' < m ∧ Iv nm m' l' obs' ∧ SubQ n0 s' l' obs'
        | .ext id => Q (.ext id) s'
        | .ret => Q .ret s'
        | .pan v => Q (.pan v) s') (St l obs)
  | .unr k c, Q, s => unrR (fun K s => awp T D Iv n0 c (fun e s' => match e with
        | .nrm => K s'
        | .ext id => Q (.ext id) s'
        | .ret => Q .ret s'
        | .pan v => Q (.pan v) s') s) k s
  | .exit id, Q, s => Q (.ext id) s
  | .ret, Q, s => Q .ret s

/-- A function's results. -/
inductive ARes where
  | tmp (t : Nat)
  | cell (a n : Nat) (agg : Bool)
def resV (s : S) : List ARes → Option (List V)
  | [] => some []
  | .tmp t :: r => match resV s r with
    | some vs => some (s.sl t :: vs)
    | none => none
  | .cell a n agg :: r => match ldF s.hp n agg (s.sl a), resV s r with
    | .val v, some vs => some (v :: vs)
    | _, _ => none
def tupV : List V → V
  | [v] => v
  | vs => .tup vs
def fin (res : List ARes) (K : Out → (Nat → Ob) → Nat → Prop) (e : AX) (s : S) : Prop :=
  match e with
  | .nrm => match resV s res with
    | some vs => K (.ret (tupV vs)) s.hp s.nx
    | none => False
  | .ret => match resV s res with
    | some vs => K (.ret (tupV vs)) s.hp s.nx
    | none => False
  | .pan v => K (.pan v) s.hp s.nx
  | .ext _ => False
def argSl : List V → Nat → Nat → V
  | [], _, _ => .top
  | v :: vs, i, j => bif Nat.beq j i then v else argSl vs (i + 1) j
structure AFn where
  np : Nat
  body : AC
  res : List ARes
def runFn (T : Tab) (D : DTab) (Iv : Inv) (fn : AFn) (args : List V) (h : Nat → Ob) (n : Nat) (K : Out → (Nat → Ob) → Nat → Prop) : Prop :=
  match decide (args.length = fn.np) with
  | true => awp T D Iv n fn.body (fin fn.res K) ⟨argSl args 0, h, n⟩
  | false => False
/-- Each loop so many rounds at most. -/
def AC.unroll (k : Nat) : AC → AC
  | .seq a b => .seq (a.unroll k) (b.unroll k)
  | .seqc nm a b => .seqc nm (a.unroll k) (b.unroll k)
  | .cond x a b => .cond x (a.unroll k) (b.unroll k)
  | .blk id c => .blk id (c.unroll k)
  | .loop _ c => .unr k (c.unroll k)
  | .lpq _ c => .unr k (c.unroll k)
  | .unr _ c => .unr k (c.unroll k)
  | .skip => .skip
  | .reg l => .reg l
  | .drw l => .drw l
  | .exit id => .exit id
  | .ret => .ret
/-- The part of a code at a path. -/
def AC.at : List Nat → AC → AC
  | [], c => c
  | 0 :: p, .seq a _ => a.at p
  | _ :: p, .seq _ b => b.at p
  | 0 :: p, .seqc _ a _ => a.at p
  | _ :: p, .seqc _ _ b => b.at p
  | 0 :: p, .cond _ a _ => a.at p
  | _ :: p, .cond _ _ b => b.at p
  | p, .blk _ c => c.at p
  | p, .loop _ c => c.at p
  | p, .lpq _ c => c.at p
  | p, .unr _ c => c.at p
  | _, c => c
/-- A cut behind the first part of the sequence at a path (left 0, right 1; into a branch, a block, a loop 0 or 1). -/
def AC.cutP (nm : Nat) : List Nat → AC → AC
  | [], .seq a b => .seqc nm a b
  | 0 :: p, .seq a b => .seq (a.cutP nm p) b
  | _ :: p, .seq a b => .seq a (b.cutP nm p)
  | 0 :: p, .seqc n a b => .seqc n (a.cutP nm p) b
  | _ :: p, .seqc n a b => .seqc n a (b.cutP nm p)
  | 0 :: p, .cond x a b => .cond x (a.cutP nm p) b
  | _ :: p, .cond x a b => .cond x a (b.cutP nm p)
  | p, .blk id c => .blk id (c.cutP nm p)
  | p, .loop n c => .loop n (c.cutP nm p)
  | p, .lpq n c => .lpq n (c.cutP nm p)
  | p, .unr n c => .unr n (c.cutP nm p)
  | _, c => c
def AFn.cutP (nm : Nat) (p : List Nat) (f : AFn) : AFn := ⟨f.np, f.body.cutP nm p, f.res⟩
/-- Each loop with what holds at its head told as equations. -/
def AC.lq : AC → AC
  | .seq a b => .seq a.lq b.lq
  | .seqc nm a b => .seqc nm a.lq b.lq
  | .cond x a b => .cond x a.lq b.lq
  | .blk id c => .blk id c.lq
  | .loop nm c => .lpq nm c.lq
  | .lpq nm c => .lpq nm c.lq
  | .unr k c => .unr k c.lq
  | .skip => .skip
  | .reg l => .reg l
  | .drw l => .drw l
  | .exit id => .exit id
  | .ret => .ret
def AFn.lq (f : AFn) : AFn := ⟨f.np, f.body.lq, f.res⟩
def AFn.unroll (k : Nat) (f : AFn) : AFn := ⟨f.np, f.body.unroll k, f.res⟩
end Go.Proofs.YtbolfnkgbjkbjaaGreat.AM
end
section
set_option linter.unusedVariables false
set_option linter.unusedSimpArgs false
namespace Go.Proofs.YtbolfnkgbjkbjaaGreat.AM
open Go Go.RowKit

def cst : Value → V → Bool
  | .int k n, .int k' n' => decide (k = k') && decide (n = n')
  | .bool b, .bool b' => b == b'
  | .pointer none, .nilp => true
  | .slice none n c, .nsl => decide (n = 0) && decide (c = 0)
  | .nilFunc, .nfn => true
  | .nilIface, .nifc => true
  | .map none, .nmp => true
  | _, _ => false
theorem cst_R {ρ : Nat → Bnd} {n : Nat} {x : Value} {v : V} (h : cst x v = true) : R ρ n v x := by
  unfold cst at h
  split at h <;> simp [R] at h ⊢
  · exact ⟨h.1.symm ▸ rfl, h.2⟩
  · exact h
  · exact h
def cstL : List Value → List V → Bool
  | [], [] => true
  | x :: xs, v :: vs => cst x v && cstL xs vs
  | _, _ => false
theorem cstL_RL {ρ : Nat → Bnd} {n : Nat} : ∀ {xs : List Value} {vs : List V}, cstL xs vs = true → RL ρ n vs xs
  | [], [], _ => by simp [RL]
  | x :: xs, v :: vs, h => by
    simp only [cstL, Bool.and_eq_true] at h
    simp only [RL]
    exact ⟨cst_R h.1, cstL_RL h.2⟩
  | [], _ :: _, h => by simp [cstL] at h
  | _ :: _, [], h => by simp [cstL] at h
def opd : Operand → AO → Bool
  | .tmp t, .t n => decide (t = n)
  | .const x, .c v => cst x v
  | .const (.agg xs), _ => false
  | .func f, .f n => decide (f = n)
  | _, _ => false
def opds : List Operand → List AO → Bool
  | [], [] => true
  | x :: xs, y :: ys => opd x y && opds xs ys
  | _, _ => false
def szOf (P : Program) (t : TypeId) : Option Nat := (P.info? t).map (·.size)
def aggOf (P : Program) (t : TypeId) : Option Bool := match P.underlying t with
  | some (.struct _) => some true
  | some (.array _ _) => some true
  | some _ => some false
  | none => none
def zeroOk (P : Program) (t : TypeId) (z : List V) : Bool := match P.info? t with
  | some i => match i.zero with
    | some v => cstL v.cells.toList z
    | none => false
  | none => false
def intOfType (P : Program) (t : TypeId) : Option IntKind := match P.underlying t with
  | some (.int k) => some k
  | _ => none
def boolTy (P : Program) (t : TypeId) : Bool := match P.underlying t with
  | some .bool => true
  | _ => false
def sliceElem (P : Program) (t : TypeId) : Option TypeId := match P.underlying t with
  | some (.slice e) => some e
  | _ => none
/-- Where the part number i of a type lies. -/
def placeOf (P : Program) (t : TypeId) (i : Nat) : Option (Nat × Nat) := match P.underlying t with
  | some (.struct fs) => match fs[i]? with
    | some f => match P.info? f.type with
      | some j => some (f.offset, j.size)
      | none => none
    | none => none
  | some (.array _ e) => match P.info? e with
    | some j => some (i * j.size, j.size)
    | none => none
  | some (.slice e) => match P.info? e with
    | some j => some (i * j.size, j.size)
    | none => none
  | _ => none
def fieldsKnown (P : Program) (t : TypeId) : Bool := match P.underlying t with
  | some (.struct fs) => fs.toList.all fun f => (P.info? f.type).isSome
  | some (.array _ e) => (P.info? e).isSome
  | _ => true
def partsOk (P : Program) (t : TypeId) : List (Nat × Operand) → List (Nat × Nat × AO) → Bool
  | [], [] => true
  | (i, x) :: r, (off, size, y) :: r' => decide (placeOf P t i = some (off, size)) && opd x y && partsOk P t r r'
  | _, _ => false
/-- A type of scalars alone, its cells one behind the other. -/
def flatFs (P : Program) (g : TypeId → Option ET) : Nat → List Field → Option ET
  | _, [] => some []
  | off, f :: fs => match g f.type with
    | some m => match flatFs P g (off + m.length) fs with
      | some r => if f.offset = off ∧ f.name ≠ "_" ∧ szOf P f.type = some m.length then some (m ++ r) else none
      | none => none
    | none => none
def flatTy (P : Program) : Nat → TypeId → Option ET
  | 0, _ => none
  | d + 1, t => match P.underlying t with
    | some (.int k) => some [.int k]
    | some .bool => some [.bool]
    | some (.struct fs) => if P.stoodInHeld t = false then flatFs P (flatTy P d) 0 fs.toList else none
    | some (.array n e) => match flatTy P d e with
      | some m => if szOf P e = some m.length then some (List.replicate n m).flatten else none
      | none => none
    | _ => none
def eqOk (P : Program) (t : TypeId) (ks : ET) : Bool := decide (flatTy P 6 t = some ks) && !(P.eqGuardType P.depth t) && decide (aggOf P t = some true)
/-- A map's key and value. -/
def mapOk (P : Program) (t : TypeId) (ka : Bool) (KE : ET) (va : Bool) (VE : ET) : Bool := match P.underlying t with
  | some (.map k e) => decide (flatTy P 6 k = some KE) && decide (aggOf P k = some ka) && decide (aggOf P e = some va) && (match P.info? e with
    | some i => match i.zero with
      | some v => cst v (mkV va ((enc VE (dflt VE)).map Sc.toV))
      | none => false
    | none => false)
  | _ => false
def elemOk (P : Program) (e : TypeId) (E : ET) : Bool := decide (szOf P e = some E.length) && decide (0 < E.length)
def optOpd : Option Operand → Option AO → Bool
  | none, none => true
  | some x, some y => opd x y
  | _, _ => false
def chkOp (P : Program) (op : Op) : AOp → Bool
  | .mv y => match op with
    | .move x => opd x y
    | .assign x => opd x y
    | _ => false
  | .mvn t E => match op with
    | .move (.const (.slice none n c)) => decide (n = 0 ∧ c = 0)
    | .assign (.const (.slice none n c)) => decide (n = 0 ∧ c = 0)
    | _ => false
  | .pick c a b => match op with
    | .pick c' a' b' => opd c' c && opd a' a && opd b' b
    | _ => false
  | .alloc t z => match op with
    | .alloc t' => decide (t' = t) && zeroOk P t z
    | _ => false
  | .box t x => match op with
    | .box t' x' => decide (t' = t) && opd x' x
    | _ => false
  | .ld n agg x => match op with
    | .load t a => opd a x && decide (szOf P t = some n) && decide (aggOf P t = some agg) && (agg || decide (n = 1))
    | _ => false
  | .st n a x => match op with
    | .store t a' x' => opd a' a && opd x' x && decide (szOf P t = some n)
    | _ => false
  | .nck x => match op with
    | .nilCheck x' => opd x' x
    | _ => false
  | .bin o x y => match op with
    | .binOp o' t x' y' _ => decide (o' = o) && opd x' x && opd y' y && (intOfType P t).isSome
    | _ => false
  | .binb neg x y => match op with
    | .binOp .eql t x' y' _ => opd x' x && opd y' y && boolTy P t && !neg
    | .binOp .neq t x' y' _ => opd x' x && opd y' y && boolTy P t && neg
    | _ => false
  | .eqa neg ks x y => match op with
    | .binOp .eql t x' y' _ => opd x' x && opd y' y && eqOk P t ks && !neg
    | .binOp .neq t x' y' _ => opd x' x && opd y' y && eqOk P t ks && neg
    | _ => false
  | .not x => match op with
    | .unOp .not _ x' => opd x' x
    | _ => false
  | .neg x => match op with
    | .unOp .neg _ x' => opd x' x
    | _ => false
  | .cv k x => match op with
    | .convert s d x' => opd x' x && decide (intOfType P d = some k) && (P.underlying s).isSome
    | _ => false
  | .fa x off => match op with
    | .fieldAddr s x' f => opd x' x && (match P.underlying s with
      | some (.struct fs) => match fs[f]? with
        | some fl => decide (fl.offset = off) && (match szOf P fl.type with
          | some n => decide (n ≠ 0)
          | none => false)
        | none => false
      | _ => false)
    | _ => false
  | .fld x off n agg => match op with
    | .field s x' f => opd x' x && (match P.underlying s with
      | some (.struct fs) => match fs[f]? with
        | some fl => decide (fl.offset = off) && decide (szOf P fl.type = some n) && decide (aggOf P fl.type = some agg) && (agg || decide (n = 1))
        | none => false
      | _ => false)
    | _ => false
  | .ia x i z => match op with
    | .indexAddr t x' i' => opd x' x && opd i' i && (match P.underlying t with
      | some (.slice e) => decide (szOf P e = some z)
      | _ => false)
    | _ => false
  | .iaa x i len z => match op with
    | .indexAddr t x' i' => opd x' x && opd i' i && (match P.underlying t with
      | some (.array n e) => decide (n = len) && decide (szOf P e = some z)
      | _ => false)
    | _ => false
  | .ixs l i => match op with
    | .index t (.const (.string b)) i' => opd i' i && (match P.underlying t with
      | some .string => decide (b.data.toList.map UInt8.toNat = l)
      | _ => false)
    | _ => false
  | .ixa x i len z agg => match op with
    | .index t x' i' => opd x' x && opd i' i && (match P.underlying t with
      | some (.array n e) => decide (n = len) && decide (szOf P e = some z) && decide (aggOf P e = some agg) && (agg || decide (z = 1))
      | _ => false)
    | _ => false
  | .ext x i => match op with
    | .extract x' i' => opd x' x && decide (i' = i)
    | _ => false
  | .mkf f fs cs => match op with
    | .makeFunc (.func f') fs' cs' => decide (f' = f) && opds fs'.toList fs && opds cs'.toList cs
    | _ => false
  | .mki t x => match op with
    | .makeInterface t' x' => decide (t' = t) && opd x' x && P.concrete t
    | _ => false
  | .tas t zs x => match op with
    | .typeAssert x' _ t' true => opd x' x && decide (t' = t) && (match P.underlying t with
      | some (.struct _) => true
      | _ => false) && (match P.info? t with
      | some i => match i.zero with
        | some (.agg c) => cstL c.toList zs
        | _ => false
      | none => false)
    | _ => false
  | .ifn neg x => match op with
    | .binOp .eql t x' (.const .nilIface) _ => opd x' x && !neg && (match P.underlying t with
      | some (.interface _) => true
      | _ => false)
    | .binOp .neq t x' (.const .nilIface) _ => opd x' x && neg && (match P.underlying t with
      | some (.interface _) => true
      | _ => false)
    | _ => false
  | .bld z ps => match op with
    | .build t parts => zeroOk P t z && fieldsKnown P t && partsOk P t parts.toList ps && (match P.underlying t with
      | some (.struct _) => true
      | some (.array _ _) => true
      | _ => false)
    | _ => false
  | .bsl t E len z ps => match op with
    | .buildSlice t' len' parts => decide (sliceElem P t' = some t) && elemOk P t E && decide (len' = len) && decide (len * E.length ≤ 1000) && partsOk P t' parts.toList ps &&
      (match P.info? t with
       | some i => match i.zero with
         | some v => cstL ((Array.range (len * E.length)).map (v.cells[· % v.cells.size]!)).toList z
         | none => false
       | none => false)
    | _ => false
  | .msl t E bytes z x c => match op with
    | .makeSlice t' x' c' => decide (sliceElem P t' = some t) && elemOk P t E && opd x' x && opd c' c && (match P.info? t with
       | some i => decide (i.bytes = bytes) && decide (0 < bytes) && (match i.zero with
         | some v => cstL v.cells.toList ((enc E z).map Sc.toV)
         | none => false)
       | none => false)
    | _ => false
  | .slc x lo hi z => match op with
    | .slice t x' lo' hi' none => opd x' x && optOpd lo' lo && optOpd hi' hi && (match P.underlying t with
      | some (.slice e) => decide (szOf P e = some z)
      | _ => false)
    | _ => false
  | .slm x hi z => match op with
    | .slice t x' none (some hi') none => opd x' x && opd hi' hi && (match P.underlying t with
      | some (.slice e) => decide (szOf P e = some z)
      | _ => false)
    | _ => false
  | .len x => match op with
    | .call c => (match c.callee, c.args.toList, c.argTypes.toList with
      | .builtin .len, [x'], [t] => opd x' x && (sliceElem P t).isSome
      | _, _, _ => false)
    | _ => false
  | .app t E bytes x y => match op with
    | .call c => (match c.callee, c.args.toList, c.argTypes.toList with
      | .builtin .append, [x', y'], [t1, t2] => opd x' x && opd y' y && decide (t1 = t2) && decide (sliceElem P t1 = some t) && elemOk P t E && (match P.info? t with
        | some i => decide (i.bytes = bytes) && decide (0 < bytes) && (match i.zero with
          | some v => decide (v.cells.size = E.length)
          | none => false)
        | none => false)
      | _, _, _ => false)
    | _ => false
  | .mx mn x y => match op with
    | .call c => (match c.callee, c.args.toList with
      | .builtin .max, [x', y'] => opd x' x && opd y' y && !mn
      | .builtin .min, [x', y'] => opd x' x && opd y' y && mn
      | _, _ => false)
    | _ => false
  | .mkm ka KE va VE => match op with
    | .makeMap t none => true
    | _ => false
  | .mlk ka KE va VE ok x k => match op with
    | .lookup t x' k' ok' => opd x' x && opd k' k && decide (ok' = ok) && mapOk P t ka KE va VE
    | _ => false
  | .mup ka KE va VE x k v => match op with
    | .mapUpdate t x' k' v' => opd x' x && opd k' k && opd v' v && mapOk P t ka KE va VE
    | _ => false
  | .call f args => match op with
    | .call c => (match c.callee with
      | .value f' => opd f' f && opds c.args.toList args
      | _ => false)
    | _ => false
  | .pan x => match op with
    | .panic x' => opd x' x
    | _ => false
  | .no => true
def chkOper (P : Program) (ops : List Oper) (N : Nat) (o : Oper) (ao : AOper) : Bool :=
  decide (o.dst = ao.d) && (match o.dst with
    | some d => decide (d < N)
    | none => true) && chkOp P o.op ao.op && (match o.guard, ao.g with
    | none, none => true
    | some (j, want), some (g, want') => decide ((ops[j]?).bind (·.dst) = some g) && decide (want = want')
    | _, _ => false)
def chkOps (P : Program) (ops : List Oper) (N : Nat) : List Oper → List AOper → Bool
  | [], [] => true
  | o :: l, a :: m => chkOper P ops N o a && chkOps P ops N l m
  | _, _ => false

structure RelS (N B : Nat) (ρ : Nat → Bnd) (s : S) (a : Act) (w : World) : Prop where
  rel : Rel B ρ s.nx s.hp w
  sl : ∀ t, R ρ s.nx (s.sl t) (a.tmps.getD t undef)
  size : a.tmps.size = N
theorem opd_R {N B : Nat} {ρ : Nat → Bnd} {s : S} {a : Act} {w : World} (hs : RelS N B ρ s a w) {x : Operand} {y : AO} (h : opd x y = true) : R ρ s.nx (rd s y) (a.eval x) := by
  unfold opd at h
  split at h
  · simp only [decide_eq_true_eq] at h
    subst h
    exact hs.sl _
  · exact cst_R h
  · cases h
  · simp only [decide_eq_true_eq] at h
    subst h
    simp only [rd, Act.eval, R]
    exact ⟨#[], #[], rfl, by simp [RL], by simp [RL]⟩
  · cases h
theorem opds_R {N B : Nat} {ρ : Nat → Bnd} {s : S} {a : Act} {w : World} (hs : RelS N B ρ s a w) : ∀ {xs : List Operand} {ys : List AO}, opds xs ys = true → RL ρ s.nx (ys.map (rd s)) (xs.map a.eval)
  | [], [], _ => by simp [RL]
  | x :: xs, y :: ys, h => by
    simp only [opds, Bool.and_eq_true] at h
    simp only [List.map_cons, RL]
    exact ⟨opd_R hs h.1, opds_R hs h.2⟩
  | [], _ :: _, h => by simp [opds] at h
  | _ :: _, [], h => by simp [opds] at h
/-- A slot is written. -/
theorem RelS.put {N B : Nat} {ρ ρ' : Nat → Bnd} {s : S} {a : Act} {w w' : World} {h' : Nat → Ob} {n' : Nat} (hs : RelS N B ρ s a w) (hn : s.nx ≤ n') (ha : Agree ρ ρ' s.nx)
    (hr : Rel B ρ' n' h' w') {v : V} {x : Value} (hv : R ρ' n' v x) {d : Option Nat} (hd : ∀ e, d = some e → e < N) : RelS N B ρ' (S.put ⟨s.sl, h', n'⟩ d v) (a.put d x) w' := by
  cases d with
  | none => exact ⟨hr, fun t => R.mono hn ha _ _ (hs.sl t), hs.size⟩
  | some d =>
    refine ⟨hr, fun t => ?_, by simpa [Act.put] using hs.size⟩
    simp only [S.put, Act.put]
    by_cases ht : t = d
    · subst ht
      have hlt : t < a.tmps.size := by rw [hs.size]; exact hd t rfl
      simpa [upd_same, Array.getD_eq_getD_getElem?, hlt] using hv
    · rw [upd_ne _ _ _ ht]
      have : (a.tmps.setIfInBounds d x).getD t undef = a.tmps.getD t undef := by
        simp [Array.getD_eq_getD_getElem?, Array.getElem?_setIfInBounds_ne (Ne.symm ht)]
      rw [this]
      exact R.mono hn ha _ _ (hs.sl t)
/-- What a step comes to. -/
def After (N B : Nat) (ρ : Nat → Bnd) (s : S) (w : World) (K : S → Prop) (a' : Act) (w' : World) : Prop :=
  ∃ ρ' s', K s' ∧ RelS N B ρ' s' a' w' ∧ Agree ρ ρ' s.nx ∧ s.nx ≤ s'.nx ∧ Below B w w'
/-- A new block of cells. -/
theorem Rel.alloc {B : Nat} {ρ : Nat → Bnd} {n : Nat} {h : Nat → Ob} {w : World} (hr : Rel B ρ n h w) (obj : Obj) : Rel B ρ n h (w.alloc obj) := by
  refine ⟨?_, fun i hi => ?_, hr.sep⟩
  · have := hr.base
    simp only [World.alloc, Array.size_push]
    omega
  · have hb := hr.obj i hi
    generalize ho : h i = o at hb
    cases o with
    | no => trivial
    | var t cs =>
      obtain ⟨h1, h2, c, h3, h4⟩ := hb
      exact ⟨h1, h2, c, by rw [Below.heap_alloc _ _ _ (Array.getElem?_eq_some_iff.1 h3).1]; exact h3, h4⟩
    | rv cs =>
      obtain ⟨h2, c, t, h3, h4⟩ := hb
      exact ⟨h2, c, t, by rw [Below.heap_alloc _ _ _ (Array.getElem?_eq_some_iff.1 h3).1]; exact h3, h4⟩
    | ro E l =>
      obtain ⟨h0, h1, h2, h3, h4⟩ := hb
      refine ⟨h0, h1, h2, h3, fun j s hj => ?_⟩
      have := h4 j s hj
      rw [← this]
      exact World.cell?_of_block (w := w) (Below.heap_alloc _ _ _ (World.block_lt_of_cell? w _ this))
    | own t E l => exact ⟨hb.1, hb.2.1.alloc obj, hb.2.2⟩
    | mp ka KE va VE m =>
      obtain ⟨h1, es, h3, h4⟩ := hb
      exact ⟨h1, es, by rw [Below.heap_alloc _ _ _ (Array.getElem?_eq_some_iff.1 h3).1]; exact h3, h4⟩
/-- A new object. -/
theorem Rel.new {B : Nat} {ρ : Nat → Bnd} {n : Nat} {h : Nat → Ob} {w w' : World} (hr : Rel B ρ n h w) {b : Bnd} {o : Ob} (hb : HR (upd ρ n b) (n + 1) B w' b o)
    (hsz : w.heap.size ≤ w'.heap.size) (hkeep : ∀ k, k < w.heap.size → w'.heap[k]? = w.heap[k]?) (hf : ∀ g, ablk b o = some g → w.heap.size ≤ g) : Rel B (upd ρ n b) (n + 1) (upd h n o) w' := by
  have hw : ∀ g, wblk b o = some g → w.heap.size ≤ g := by
    intro g hg
    apply hf
    cases o <;> simp_all [wblk, ablk]
  have hlt : ∀ i, i < n → ∀ g, ablk (ρ i) (h i) = some g → g < w.heap.size := fun i hi g hg => (hr.obj i hi).lt g hg
  have hwl : ∀ i, i < n → ∀ g, wblk (ρ i) (h i) = some g → g < w.heap.size := by
    intro i hi g hg
    apply hlt i hi
    generalize h i = o' at hg
    cases o' <;> simp_all [wblk, ablk]
  refine ⟨Nat.le_trans hr.base hsz, fun i hi => ?_, fun i j hi hj hij g hg => ?_⟩
  · by_cases e : i = n
    · subst e
      rw [upd_same, upd_same]
      exact hb
    · rw [upd_ne _ _ _ e, upd_ne _ _ _ e]
      exact (hr.obj i (by omega)).keep (Nat.le_succ n) (agree_upd ρ n b) fun g hg => hkeep g (hlt i (by omega) g hg)
  · by_cases e : i = n
    · subst e
      rw [upd_same, upd_same] at hg
      rw [upd_ne _ _ _ (Ne.symm hij), upd_ne _ _ _ (Ne.symm hij)]
      intro hj'
      have := hlt j (by omega) g hj'
      have := hw g hg
      omega
    · rw [upd_ne _ _ _ e, upd_ne _ _ _ e] at hg
      by_cases e' : j = n
      · subst e'
        rw [upd_same, upd_same]
        intro hj'
        have := hwl i (by omega) g hg
        have := hf g hj'
        omega
      · rw [upd_ne _ _ _ e', upd_ne _ _ _ e']
        exact hr.sep i j (by omega) (by omega) hij g hg
section
variable {P : Program} {N B : Nat} {ρ : Nat → Bnd} {s : S} {a : Act} {w : World} {K : S → Prop}
theorem fin_val (hs : RelS N B ρ s a w) {v : V} {x : Value} (hv : R ρ s.nx v x) {d : Option Nat} (hd : ∀ e, d = some e → e < N) (h : force v fun v => K (s.put d v)) : After N B ρ s w K (a.put d x) w := by
  rw [force_iff] at h
  exact ⟨ρ, s.put d v, h, hs.put (Nat.le_refl _) (fun _ _ => rfl) hs.rel hv hd, fun _ _ => rfl, by cases d <;> exact Nat.le_refl _, Below.refl _ _⟩
theorem S.put_nx (s : S) (d : Option Nat) (v : V) : (s.put d v).nx = s.nx := by cases d <;> rfl
theorem fin_var (hs : RelS N B ρ s a w) {t : Nat} {cs : List V} {c : Array Value} (hc : RL ρ s.nx cs c.toList) {d : Option Nat} (hd : ∀ e, d = some e → e < N)
    (h : K (S.put ⟨s.sl, upd s.hp s.nx (.var t cs), s.nx + 1⟩ d (.ptr s.nx 0 0 0))) : After N B ρ s w K (a.put d (.pointer (some ⟨w.heap.size, 0, none⟩))) (w.alloc (.cells c t)) := by
  let b : Bnd := { blk := w.heap.size, off := 0, a := none, len := 0, cap := 0 }
  have hr : Rel B (upd ρ s.nx b) (s.nx + 1) (upd s.hp s.nx (.var t cs)) (w.alloc (.cells c t)) := by
    refine hs.rel.new (b := b) ⟨hs.rel.base, rfl, c, heap_alloc_new w _, RL.mono (Nat.le_succ _) (agree_upd _ _ _) _ _ hc⟩ (by simp) (fun k hk => Below.heap_alloc _ _ _ hk) ?_
    intro g hg
    simp only [ablk, Option.some.injEq] at hg
    subst hg
    exact Nat.le_refl _
  refine ⟨upd ρ s.nx b, _, h, hs.put (Nat.le_succ _) (agree_upd _ _ _) hr ?_ hd, agree_upd _ _ _, by rw [S.put_nx]; exact Nat.le_succ _, (Below.refl _ _).alloc hs.rel.base _⟩
  simp only [R, upd_same]
  exact ⟨by omega, by simp [b]⟩
end
end Go.Proofs.YtbolfnkgbjkbjaaGreat.AM
end
section
set_option linter.unusedVariables false
set_option linter.unusedSimpArgs false
namespace Go.Proofs.YtbolfnkgbjkbjaaGreat.AM
open Go Go.RowKit

/-- The goal of each operation. -/
def Good (P : Program) (N B : Nat) (ρ : Nat → Bnd) (s : S) (a : Act) (w : World) (K : S → Prop) (o : Oper) : Prop :=
  ∃ x w', ((execOp a.eval o).run P w = .ok (.value x) w' ∨ ((execOp a.eval o).run P w = .ok .skip w' ∧ x = undef)) ∧ After N B ρ s w K (a.put o.dst x) w'
section
variable {P : Program} {N B : Nat} {ρ : Nat → Bnd} {s : S} {a : Act} {w : World} {K : S → Prop} {o : Oper}
theorem good_val (hs : RelS N B ρ s a w) (hd : ∀ e, o.dst = some e → e < N) {v : V} {x : Value} (hv : R ρ s.nx v x) (hr : (execOp a.eval o).run P w = .ok (.value x) w)
    (h : force v fun v => K (s.put o.dst v)) : Good P N B ρ s a w K o := ⟨x, w, .inl hr, fin_val hs hv hd h⟩
theorem good_ok (hs : RelS N B ρ s a w) (hd : ∀ e, o.dst = some e → e < N) {v : V} {x : Value} (h : (OR.val v).run s o.dst K) (hv : R ρ s.nx v x) (hr : (execOp a.eval o).run P w = .ok (.value x) w) :
    Good P N B ρ s a w K o := ⟨x, w, .inl hr, fin_val hs hv hd h⟩
theorem good_mv {x : AO} (hs : RelS N B ρ s a w) (hd : ∀ e, o.dst = some e → e < N) (hc : chkOp P o.op (.mv x) = true) (h : (opF s (.mv x)).run s o.dst K) : Good P N B ρ s a w K o := by
  simp only [chkOp] at hc
  split at hc
  · rename_i y ho
    exact good_val hs hd (opd_R hs hc) (by simp [execOp, ho]) h
  · rename_i y ho
    exact good_val hs hd (opd_R hs hc) (by simp [execOp, ho]) h
  · cases hc
theorem pickV_R {n : Nat} {c : Bool} {u v : V} {x y : Value} (hu : R ρ n u x) (hv : R ρ n v y) : R ρ n (pickV c u v) (if c then x else y) := by
  unfold pickV
  split
  · simp only [R] at hu hv ⊢
    subst hu hv
    cases c <;> rfl
  · split
    · rename_i h
      simp only [decide_eq_true_eq] at h
      subst h
      simp only [R] at hu hv ⊢
      subst hu hv
      cases c <;> rfl
    · cases c
      · exact hv
      · exact hu
  · cases c
    · exact hv
    · exact hu
theorem good_pick {c x y : AO} (hs : RelS N B ρ s a w) (hd : ∀ e, o.dst = some e → e < N) (hc : chkOp P o.op (.pick c x y) = true) (h : (opF s (.pick c x y)).run s o.dst K) : Good P N B ρ s a w K o := by
  simp only [chkOp] at hc
  split at hc
  · rename_i c' x' y' ho
    simp only [Bool.and_eq_true] at hc
    have h1 := opd_R hs hc.1.1
    simp only [opF] at h
    split at h
    · rename_i b hb
      rw [hb] at h1
      simp only [R] at h1
      exact good_val hs hd (pickV_R (c := b) (opd_R hs hc.1.2) (opd_R hs hc.2)) (by simp [execOp, ho, h1, asBool]) h
    · exact h.elim
  · cases hc
theorem good_alloc {t : Nat} {z : List V} (hs : RelS N B ρ s a w) (hd : ∀ e, o.dst = some e → e < N) (hc : chkOp P o.op (.alloc t z) = true) (h : (opF s (.alloc t z)).run s o.dst K) : Good P N B ρ s a w K o := by
  simp only [chkOp] at hc
  split at hc
  · rename_i t' ho
    simp only [Bool.and_eq_true, decide_eq_true_eq] at hc
    obtain ⟨rfl, hz⟩ := hc
    unfold zeroOk at hz
    split at hz
    · rename_i i hi
      split at hz
      · rename_i v hv
        refine ⟨.pointer (some ⟨w.heap.size, 0, none⟩), w.alloc (.cells v.cells t'), .inl ?_, fin_var hs (cstL_RL hz) hd h.2⟩
        simp [execOp, ho, Instr.alloc, zeroValue, typeInfo, hi, hv, newVar, newRow]
      · cases hz
    · cases hz
  · cases hc
theorem cellsV_R {n : Nat} {v : V} {x : Value} (h : R ρ n v x) (h1 : allOne (cellsV v) = true) : RL ρ n (cellsV v) x.cells.toList := by
  cases v <;> simp only [cellsV, allOne, V.one, Bool.and_true] at h1 ⊢
  case agg cs =>
    simp only [R] at h
    obtain ⟨xs, rfl, h2⟩ := h
    exact h2
  all_goals first
    | (cases h1; done)
    | skip
  all_goals
    have hx : x.cells = #[x] := by
      have := h.one rfl
      cases x <;> first | rfl | (simp [Value.oneCell'] at this; done)
    rw [hx]
    simp only [RL]
    exact ⟨h, trivial⟩
theorem RL_one : ∀ {n : Nat} {vs : List V} {xs : List Value}, RL ρ n vs xs → allOne vs = true → ∀ x ∈ xs, x.oneCell' = true
  | _, [], [], _, _ => by simp
  | _, v :: vs, x :: xs, h, h1 => by
    simp only [RL] at h
    simp only [allOne, Bool.and_eq_true] at h1
    intro y hy
    rcases List.mem_cons.1 hy with rfl | hy
    · exact h.1.one h1.1
    · exact RL_one h.2 h1.2 y hy
  | _, [], _ :: _, h, _ => by simp [RL] at h
  | _, _ :: _, [], h, _ => by simp [RL] at h
theorem good_box {t : Nat} {y : AO} (hs : RelS N B ρ s a w) (hd : ∀ e, o.dst = some e → e < N) (hc : chkOp P o.op (.box t y) = true) (h : (opF s (.box t y)).run s o.dst K) : Good P N B ρ s a w K o := by
  simp only [chkOp] at hc
  split at hc
  · rename_i t' x' ho
    simp only [Bool.and_eq_true, decide_eq_true_eq] at hc
    obtain ⟨rfl, hx⟩ := hc
    simp only [opF] at h
    split at h
    · rename_i h1
      refine ⟨.pointer (some ⟨w.heap.size, 0, none⟩), w.alloc (.cells (a.eval x').cells t'), .inl ?_, fin_var hs (cellsV_R (opd_R hs hx) h1) hd h.2⟩
      simp [execOp, ho, Instr.box, newVar, newRow]
    · exact h.elim
  · cases hc
theorem takeN_eq {α : Type} : ∀ (n : Nat) (l r : List α), takeN n l = some r → r = l.take n ∧ n ≤ l.length
  | 0, l, r, h => by simp [takeN] at h; simp [← h]
  | n + 1, [], r, h => by simp [takeN] at h
  | n + 1, x :: l, r, h => by
    simp only [takeN] at h
    split at h
    · rename_i r' hr
      simp at h
      obtain ⟨h1, h2⟩ := takeN_eq n l r' hr
      subst h1
      simp [← h, h2]
    · cases h
theorem add_lit (b o j : Nat) : (⟨b, o, none⟩ : Addr).add j = ⟨b, o + j, none⟩ := by unfold Addr.add; split <;> simp_all
/-- The cells that a load reads. -/
theorem ldF_cells {n : Nat} {agg : Bool} {v : V} {x : Value} (hr : Rel B ρ s.nx s.hp w) (hv : R ρ s.nx v x) {d : Option Nat} {K : S → Prop} (h : (ldF s.hp n agg v).run s d K) :
    ∃ (ad : Addr) (l : List V) (xs : List Value), x = .pointer (some ad) ∧ l.length = n ∧ RL ρ s.nx l xs ∧ (∀ j u, xs[j]? = some u → w.cell? (ad.add j) = some u) ∧ K (s.put d (mkV agg l)) := by
  have rows : ∀ (E : ET) (l : List (den E)) (id e z f : Nat), id < s.nx → x = .pointer (some ⟨(ρ id).blk, (ρ id).off + (e * z + f), none⟩) →
      (∀ j q, (flat E l)[j]? = some q → w.cell? ⟨(ρ id).blk, (ρ id).off + j, none⟩ = some q.val) → (rowCells E l e z f n agg).run s d K →
      ∃ (ad : Addr) (l : List V) (xs : List Value), x = .pointer (some ad) ∧ l.length = n ∧ RL ρ s.nx l xs ∧ (∀ j u, xs[j]? = some u → w.cell? (ad.add j) = some u) ∧ K (s.put d (mkV agg l)) := by
    intro E l id e z f hid hx hcell h
    unfold rowCells at h
    split at h
    · rename_i hz
      simp only [decide_eq_true_eq] at hz
      obtain ⟨rfl, hf⟩ := hz
      simp only [OR.run, force_iff] at h
      obtain ⟨he, hK⟩ := h
      refine ⟨_, _, ((((enc E (l.getD e (dflt E))).drop f).take n).map Sc.val), hx, ?_, RL_scs _, ?_, hK⟩
      · simp [enc_length]
        omega
      · intro j u hj
        rw [add_lit]
        simp only [List.getElem?_map, Option.map_eq_some_iff] at hj
        obtain ⟨q, hq, rfl⟩ := hj
        rw [List.getElem?_take] at hq
        split at hq
        · rename_i hjn
          rw [List.getElem?_drop] at hq
          have := hcell (e * E.length + (f + j)) q (by rw [flat_get E l e (f + j) (by omega) he]; exact hq)
          rw [← this]
          congr 2
          omega
        · cases hq
    · exact h.elim
  cases v <;> simp only [ldF] at h <;> try exact h.elim
  rename_i id e z f
  simp only [R] at hv
  obtain ⟨hid, hx⟩ := hv
  have hob := hr.obj id hid
  generalize ho : s.hp id = ob at h hob
  cases ob with
  | no => exact h.elim
  | mp ka KE va VE m => exact h.elim
  | var t cs =>
    simp only [] at h
    split at h
    · rename_i l hl
      simp only [OR.run, force_iff] at h
      obtain ⟨rfl, hle⟩ := takeN_eq _ _ _ hl
      obtain ⟨_, h2, c, h3, h4⟩ := hob
      refine ⟨_, _, (c.toList.drop (e * z + f)).take n, hx, by simp at hle ⊢; omega, (h4.drop _).take _, ?_, h⟩
      intro j u hj
      rw [add_lit, h2]
      rw [List.getElem?_take] at hj
      split at hj
      · rw [List.getElem?_drop] at hj
        simp only [World.cell?, h3]
        simpa [Nat.add_assoc] using hj
      · cases hj
    · exact h.elim
  | rv cs =>
    simp only [] at h
    split at h
    · rename_i l hl
      simp only [OR.run, force_iff] at h
      obtain ⟨rfl, hle⟩ := takeN_eq _ _ _ hl
      obtain ⟨h2, c, t, h3, h4⟩ := hob
      have h4 : RL ρ s.nx cs c.toList := RL.mono (Nat.zero_le _) (fun i hi => by omega) _ _ h4
      refine ⟨_, _, (c.toList.drop (e * z + f)).take n, hx, by simp at hle ⊢; omega, (h4.drop _).take _, ?_, h⟩
      intro j u hj
      rw [add_lit, h2]
      rw [List.getElem?_take] at hj
      split at hj
      · rw [List.getElem?_drop] at hj
        simp only [World.cell?, h3]
        simpa [Nat.add_assoc] using hj
      · cases hj
    · exact h.elim
  | ro E l => exact rows E l id e z f hid hx hob.2.2.2.2 h
  | own t E l =>
    refine rows E l id e z f hid hx (fun j q hj => ?_) h
    obtain ⟨h1, h2, h3, h4⟩ := hob
    rcases h2.2 with ⟨hn, hl0⟩ | ⟨g, cap, cur, hv, _⟩
    · have : l = [] := List.eq_nil_of_length_eq_zero hl0
      subst this
      simp [flat] at hj
    · have hg : (ρ id).sv.ownBlock = some g := by rw [hv]; rfl
      have := h2.cells hg j q.val (by rw [List.getElem?_map, hj]; rfl)
      rw [add_lit] at this
      rw [h4 g hg, h3]
      exact this
theorem mkV_R {n m : Nat} {l : List V} {xs : List Value} (h : RL ρ n l xs) (hm : l.length = m) : R ρ n (mkV true l) (.agg xs.toArray) := by
  simp only [mkV, R]
  exact ⟨_, rfl, h⟩
theorem good_ld {n : Nat} {agg : Bool} {y : AO} (hs : RelS N B ρ s a w) (hd : ∀ e, o.dst = some e → e < N) (hc : chkOp P o.op (.ld n agg y) = true) (h : (opF s (.ld n agg y)).run s o.dst K) : Good P N B ρ s a w K o := by
  simp only [chkOp] at hc
  split at hc
  · rename_i t x' ho
    simp only [Bool.and_eq_true, decide_eq_true_eq, Bool.or_eq_true] at hc
    obtain ⟨⟨⟨hx, hsz⟩, hag⟩, hn⟩ := hc
    obtain ⟨ad, l, xs, he, hl, hRL, hcell, hK⟩ := ldF_cells hs.rel (opd_R hs hx) h
    have hlen := hRL.length
    unfold szOf at hsz
    simp only [Option.map_eq_some_iff] at hsz
    obtain ⟨i, hi, hin⟩ := hsz
    have hload : (loadCells ad n).run P w = .ok xs.toArray w := by
      rw [← hl, hlen]
      exact run_loadCells_list w ad xs hcell
    cases agg with
    | true =>
      have hagg : (isAgg t).run P w = .ok true w := by
        unfold aggOf at hag
        split at hag
        · rename_i fs hu; simp [isAgg, run_underlying hu]
        · rename_i m e hu; simp [isAgg, run_underlying hu]
        · simp at hag
        · simp at hag
      refine good_val hs hd (mkV_R hRL hl) ?_ (by rw [force_iff]; exact hK)
      simp [execOp, ho, Instr.loadAt, Instr.sureAddr, he, loadVar, hagg, sizeOf, typeInfo, hi, hin, hload]
    | false =>
      have hn1 : n = 1 := by simpa using hn
      subst hn1
      have hagg : (isAgg t).run P w = .ok false w := by
        unfold aggOf at hag
        split at hag
        · simp at hag
        · simp at hag
        · rename_i d h1 h2 hu
          cases d <;> first | (simp [isAgg, run_underlying hu]; done) | exact (h1 _ rfl).elim | exact (h2 _ _ rfl).elim
        · simp at hag
      match l, xs, hl, hRL, hcell, hK with
      | [v], [u], _, hRL, hcell, hK =>
        simp only [RL] at hRL
        refine good_val hs hd hRL.1 ?_ (by rw [force_iff]; exact hK)
        have := hcell 0 u rfl
        simp only [Addr.add, if_true] at this
        simp [execOp, ho, Instr.loadAt, Instr.sureAddr, he, loadVar, hagg, this]
      | [v], [], _, hRL, _, _ => simp [RL] at hRL
      | [v], _ :: _ :: _, _, hRL, _, _ => simp [RL] at hRL
  · cases hc
theorem good_nck {y : AO} (hs : RelS N B ρ s a w) (hd : ∀ e, o.dst = some e → e < N) (hc : chkOp P o.op (.nck y) = true) (h : (opF s (.nck y)).run s o.dst K) : Good P N B ρ s a w K o := by
  simp only [chkOp] at hc
  split at hc
  · rename_i x' ho
    have h1 := opd_R hs hc
    simp only [opF] at h
    split at h
    · rename_i id e z f hv
      rw [hv] at h1
      have h2 := h1
      simp only [R] at h2
      refine good_val hs hd h1 ?_ h
      simp [execOp, ho, h2.2]
    · rename_i f fs cs hv
      rw [hv] at h1
      have h2 := h1
      simp only [R] at h2
      obtain ⟨xs, ys, h3, _⟩ := h2
      refine good_val hs hd h1 ?_ h
      simp [execOp, ho, h3]
    · exact h.elim
  · cases hc
def tv : V → Value
  | .int k n => .int k n
  | .bool b => .bool b
  | _ => undef
def isS : V → Bool
  | .int _ _ => true
  | .bool _ => true
  | _ => false
theorem tv_R {n : Nat} {v : V} (h : isS v = true) : R ρ n v (tv v) := by cases v <;> simp_all [isS, tv, R]
theorem good_bin {op : BinOp} {x y : AO} (hs : RelS N B ρ s a w) (hd : ∀ e, o.dst = some e → e < N) (hc : chkOp P o.op (.bin op x y) = true) (h : (opF s (.bin op x y)).run s o.dst K) : Good P N B ρ s a w K o := by
  simp only [chkOp] at hc
  split at hc
  · rename_i op' t x' y' ty ho
    simp only [Bool.and_eq_true, decide_eq_true_eq] at hc
    obtain ⟨⟨⟨rfl, hx⟩, hy⟩, _⟩ := hc
    have h1 := opd_R hs hx
    have h2 := opd_R hs hy
    simp only [opF] at h
    unfold binF at h
    split at h
    · rename_i k p k' q hp hq
      rw [hp] at h1
      rw [hq] at h2
      simp only [R] at h1 h2
      have key : ∀ (c : Prop) (v : V), (OR.chk c v).run s o.dst K → (c → (binOp op' t (.int k p) (.int k' q)).run P w = .ok (tv v) w) → isS v = true → Good P N B ρ s a w K o := by
        intro c v hK hrun hz
        refine good_val hs hd (tv_R hz) ?_ hK.2
        have hg : (eqGuard op' t x' y' (.int k p) (.int k' q)).run P w = .ok () w := by
          unfold eqGuard
          cases op' <;> simp
        simp [execOp, ho, h1, h2, hg, hrun hK.1]
      have keyV : ∀ (v : V), (OR.val v).run s o.dst K → (binOp op' t (.int k p) (.int k' q)).run P w = .ok (tv v) w → isS v = true → Good P N B ρ s a w K o := by
        intro v hK hrun hz
        exact key True v ⟨trivial, hK⟩ (fun _ => hrun) hz
      split at h
      · refine key _ _ h (fun hc => ?_) rfl
        have : ¬ q < 0 := by omega
        simp [tv, binOp, Op.shift, this]
      · refine key _ _ h (fun hc => ?_) rfl
        have : ¬ q < 0 := by omega
        simp [tv, binOp, Op.shift, this]
      · rename_i hsl hsr
        split at h
        · rename_i hk
          simp only [decide_eq_true_eq] at hk
          subst hk
          unfold binI at h
          split at h
          · exact keyV _ h (by simp [tv, binOp, Op.intArith]) rfl
          · exact keyV _ h (by simp [tv, binOp, Op.intArith]) rfl
          · exact keyV _ h (by simp [tv, binOp, Op.intArith]) rfl
          · exact key _ _ h (fun hc => by simp [tv, binOp, Op.intDiv, hc]) rfl
          · exact key _ _ h (fun hc => by simp [tv, binOp, Op.intDiv, hc]) rfl
          · exact keyV _ h (by simp [tv, binOp, Op.intCmp]) rfl
          · exact keyV _ h (by simp [tv, binOp, Op.intCmp]) rfl
          · exact keyV _ h (by simp [tv, binOp, Op.intCmp]) rfl
          · exact keyV _ h (by simp [tv, binOp, Op.intCmp]) rfl
          · exact keyV _ h (by simp [tv, binOp, Op.intCmp]) rfl
          · exact keyV _ h (by simp [tv, binOp, Op.intCmp]) rfl
          · exact h.elim
          · exact h.elim
          · split at h
            · rename_i r hr
              refine keyV _ h ?_ rfl
              unfold bitsF at hr
              split at hr <;> first | (cases hr; simp [tv, binOp, Op.intBits]; done) | (simp at hr)
            · exact h.elim
        · exact h.elim
    · exact h.elim
  · cases hc
theorem run_binb (op : BinOp) (t : TypeId) (p q : Bool) (ht : P.underlying t = some .bool) (hop : op = .eql ∨ op = .neq) : (binOp op t (.bool p) (.bool q)).run P w = .ok (.bool (if op = .neq then !(p == q) else p == q)) w := by
  rcases hop with rfl | rfl <;> simp [binOp, run_equal_bool w t p q ht]
theorem boolTy_eq {t : TypeId} (h : boolTy P t = true) : P.underlying t = some .bool := by
  unfold boolTy at h
  split at h
  · assumption
  · cases h
theorem good_binb {neg : Bool} {x y : AO} (hs : RelS N B ρ s a w) (hd : ∀ e, o.dst = some e → e < N) (hc : chkOp P o.op (.binb neg x y) = true) (h : (opF s (.binb neg x y)).run s o.dst K) : Good P N B ρ s a w K o := by
  have key : ∀ (op : BinOp) (t : TypeId) (x' y' : Operand) (ty : TypeId), o.op = .binOp op t x' y' ty → (op = .eql ∧ neg = false ∨ op = .neq ∧ neg = true) → opd x' x = true → opd y' y = true → boolTy P t = true → Good P N B ρ s a w K o := by
    intro op t x' y' ty ho hop hx hy hb
    have h1 := opd_R hs hx
    have h2 := opd_R hs hy
    simp only [opF] at h
    split at h
    · rename_i p q hp hq
      rw [hp] at h1
      rw [hq] at h2
      simp only [R] at h1 h2
      have h : (OR.val (.bool (match neg with | true => !(p == q) | false => p == q))).run s o.dst K := by cases neg <;> exact h
      refine good_ok hs hd (x := .bool (if op = .neq then !(p == q) else p == q)) h ?_ ?_
      · rcases hop with ⟨rfl, rfl⟩ | ⟨rfl, rfl⟩ <;> simp [R]
      · have hg : (eqGuard op t x' y' (.bool p) (.bool q)).run P w = .ok () w := by
          unfold eqGuard
          cases op <;> simp
        have := run_binb (P := P) (w := w) op t p q (boolTy_eq hb) (by rcases hop with ⟨ho1, _⟩ | ⟨ho1, _⟩ <;> simp [ho1])
        simp [execOp, ho, h1, h2, hg, this]
    · exact h.elim
  simp only [chkOp] at hc
  split at hc
  · rename_i t x' y' ty ho
    simp only [Bool.and_eq_true, Bool.not_eq_true'] at hc
    exact key _ _ _ _ _ ho (.inl ⟨rfl, hc.2⟩) hc.1.1.1 hc.1.1.2 hc.1.2
  · rename_i t x' y' ty ho
    simp only [Bool.and_eq_true] at hc
    exact key _ _ _ _ _ ho (.inr ⟨rfl, hc.2⟩) hc.1.1.1 hc.1.1.2 hc.1.2
  · cases hc
theorem good_not {x : AO} (hs : RelS N B ρ s a w) (hd : ∀ e, o.dst = some e → e < N) (hc : chkOp P o.op (.not x) = true) (h : (opF s (.not x)).run s o.dst K) : Good P N B ρ s a w K o := by
  simp only [chkOp] at hc
  split at hc
  · rename_i t x' ho
    have h1 := opd_R hs hc
    simp only [opF] at h
    split at h
    · rename_i b hb
      rw [hb] at h1
      simp only [R] at h1
      exact good_ok hs hd h (tv_R rfl) (by simp [tv, execOp, ho, h1, Op.unary])
    · exact h.elim
  · cases hc
theorem good_neg {x : AO} (hs : RelS N B ρ s a w) (hd : ∀ e, o.dst = some e → e < N) (hc : chkOp P o.op (.neg x) = true) (h : (opF s (.neg x)).run s o.dst K) : Good P N B ρ s a w K o := by
  simp only [chkOp] at hc
  split at hc
  · rename_i t x' ho
    have h1 := opd_R hs hc
    simp only [opF] at h
    split at h
    · rename_i k n hb
      rw [hb] at h1
      simp only [R] at h1
      exact good_ok hs hd (x := .int k (k.wrap (0 - n))) h (by simp only [R]) (by simp [execOp, ho, h1, Op.unary, Op.intArith])
    · exact h.elim
  · cases hc
theorem good_cv {k : IntKind} {x : AO} (hs : RelS N B ρ s a w) (hd : ∀ e, o.dst = some e → e < N) (hc : chkOp P o.op (.cv k x) = true) (h : (opF s (.cv k x)).run s o.dst K) : Good P N B ρ s a w K o := by
  simp only [chkOp] at hc
  split at hc
  · rename_i sr ds x' ho
    simp only [Bool.and_eq_true, decide_eq_true_eq] at hc
    have h1 := opd_R hs hc.1.1
    simp only [opF] at h
    split at h
    · rename_i k' n hb
      rw [hb] at h1
      simp only [R] at h1
      obtain ⟨du, hdu⟩ := Option.isSome_iff_exists.mp hc.2
      have hk := hc.1.2
      unfold intOfType at hk
      split at hk
      · rename_i k2 hu
        cases hk
        refine good_ok hs hd (x := .int k (k.wrap n)) h (by simp only [R]) ?_
        simp [execOp, ho, h1, convert, run_underlying hdu, run_underlying hu, Conv.intToInt]
      · cases hk
    · exact h.elim
  · cases hc
theorem good_fa {x : AO} {off : Nat} (hs : RelS N B ρ s a w) (hd : ∀ e, o.dst = some e → e < N) (hc : chkOp P o.op (.fa x off) = true) (h : (opF s (.fa x off)).run s o.dst K) : Good P N B ρ s a w K o := by
  simp only [chkOp] at hc
  split at hc
  · rename_i st x' f ho
    simp only [Bool.and_eq_true] at hc
    have h1 := opd_R hs hc.1
    simp only [opF] at h
    split at h
    · rename_i id e z g hv
      rw [hv] at h1
      simp only [R] at h1
      have hf := hc.2
      split at hf
      · rename_i fs hu
        split at hf
        · rename_i fl hfl
          simp only [Bool.and_eq_true, decide_eq_true_eq] at hf
          obtain ⟨hoff, hsz⟩ := hf
          unfold szOf at hsz
          split at hsz
          · rename_i n hn
            simp only [Option.map_eq_some_iff] at hn
            obtain ⟨i, hi, hin⟩ := hn
            simp only [ne_eq, decide_eq_true_eq] at hsz
            refine good_ok hs hd (x := .pointer (some ⟨(ρ id).blk, (ρ id).off + (e * z + (g + off)), none⟩)) h (by simp only [R]; exact ⟨h1.1, trivial⟩) ?_
            have hsz' : ¬ i.size = 0 := by rw [hin]; exact hsz
            simp [execOp, ho, h1.2, Instr.fieldAt, run_underlying hu, hfl, Instr.sureAddr, fieldPlace, sizeOf, typeInfo, hi, hsz', add_lit, hoff, Nat.add_assoc]
          · cases hsz
        · cases hf
      · cases hf
    · exact h.elim
  · cases hc
theorem good_ext {x : AO} {i : Nat} (hs : RelS N B ρ s a w) (hd : ∀ e, o.dst = some e → e < N) (hc : chkOp P o.op (.ext x i) = true) (h : (opF s (.ext x i)).run s o.dst K) : Good P N B ρ s a w K o := by
  simp only [chkOp] at hc
  split at hc
  · rename_i x' i' ho
    simp only [Bool.and_eq_true, decide_eq_true_eq] at hc
    obtain ⟨hx, rfl⟩ := hc
    have h1 := opd_R hs hx
    simp only [opF] at h
    split at h
    · rename_i vs hv
      rw [hv] at h1
      simp only [R] at h1
      obtain ⟨xs, he, hl⟩ := h1
      split at h
      · rename_i v hi
        obtain ⟨u, hu, hR⟩ := hl.get _ _ hi
        refine good_val hs hd hR ?_ h
        have : xs[i']? = some u := by simpa using hu
        simp [execOp, ho, he, Instr.extract, this]
      · exact h.elim
    · exact h.elim
  · cases hc
theorem good_mkf {f : Nat} {fs cs : List AO} (hs : RelS N B ρ s a w) (hd : ∀ e, o.dst = some e → e < N) (hc : chkOp P o.op (.mkf f fs cs) = true) (h : (opF s (.mkf f fs cs)).run s o.dst K) : Good P N B ρ s a w K o := by
  simp only [chkOp] at hc
  split at hc
  · rename_i f' fs' cs' ho
    simp only [Bool.and_eq_true, decide_eq_true_eq] at hc
    obtain ⟨⟨rfl, h1⟩, h2⟩ := hc
    refine good_ok hs hd (x := .func (.func f') (fs'.map a.eval) (cs'.map a.eval)) h ?_ (by simp [execOp, ho, Instr.makeFunc])
    simp only [R]
    exact ⟨_, _, rfl, by simpa using opds_R hs h1, by simpa using opds_R hs h2⟩
  · cases hc
theorem good_mki {t : Nat} {x : AO} (hs : RelS N B ρ s a w) (hd : ∀ e, o.dst = some e → e < N) (hc : chkOp P o.op (.mki t x) = true) (h : (opF s (.mki t x)).run s o.dst K) : Good P N B ρ s a w K o := by
  simp only [chkOp] at hc
  split at hc
  · rename_i t' x' ho
    simp only [Bool.and_eq_true, decide_eq_true_eq] at hc
    obtain ⟨⟨rfl, hx⟩, hcn⟩ := hc
    refine good_ok hs hd (x := .iface t' (a.eval x')) h ?_ (by simp [execOp, ho, run_makeInterface w t' _ hcn])
    simp only [R]
    exact ⟨_, rfl, opd_R hs hx⟩
  · cases hc
theorem good_tas {t : Nat} {zs : List V} {x : AO} (hs : RelS N B ρ s a w) (hd : ∀ e, o.dst = some e → e < N) (hc : chkOp P o.op (.tas t zs x) = true) (h : (opF s (.tas t zs x)).run s o.dst K) : Good P N B ρ s a w K o := by
  simp only [chkOp] at hc
  split at hc
  · rename_i x' xt t' ho
    simp only [Bool.and_eq_true, decide_eq_true_eq] at hc
    obtain ⟨⟨⟨hx, rfl⟩, hu⟩, hz⟩ := hc
    have h1 := opd_R hs hx
    simp only [opF] at h
    obtain ⟨fs, hfs⟩ : ∃ fs, P.underlying t' = some (.struct fs) := by
      split at hu
      · rename_i fs hfs; exact ⟨fs, hfs⟩
      · cases hu
    obtain ⟨i, c, hi, hiz, hcs⟩ : ∃ i c, P.info? t' = some i ∧ i.zero = some (.agg c) ∧ cstL c.toList zs = true := by
      split at hz
      · rename_i i hi
        split at hz
        · rename_i c hiz; exact ⟨i, c, hi, hiz, hz⟩
        · cases hz
      · cases hz
    have hzr : (zeroValue t').run P w = .ok (.agg c) w := by simp [zeroValue, typeInfo, hi, hiz]
    have no : ∀ y, a.eval x' = y → (Instr.typeAssert y xt t' true).run P w = .ok (.tuple #[.agg c, .bool false]) w → (OR.val (.tup [.agg zs, .bool false])).run s o.dst K → Good P N B ρ s a w K o := by
      intro y hy hr h
      refine good_ok hs hd h ?_ (x := .tuple #[.agg c, .bool false]) (by simp [execOp, ho, hy, hr])
      simp only [R]
      refine ⟨_, rfl, ?_⟩
      simp only [RL, R]
      exact ⟨⟨c, rfl, cstL_RL hcs⟩, by simp⟩
    split at h
    · rename_i t2 v hv
      rw [hv] at h1
      simp only [R] at h1
      obtain ⟨y, he, hy⟩ := h1
      split at h
      · rename_i hb
        have := Nat.eq_of_beq_eq_true hb
        subst this
        refine good_ok hs hd h (x := .tuple #[y, .bool true]) ?_ (by simp [execOp, ho, he, Instr.typeAssert, run_underlying hfs])
        simp only [R]
        refine ⟨_, rfl, ?_⟩
        simp only [RL, R]
        exact ⟨hy, by simp⟩
      · rename_i hb
        have hne : ¬ t2 = t' := by
          intro e
          subst e
          simp at hb
        exact no _ he (by simp [Instr.typeAssert, run_underlying hfs, hne, hzr]) h
    · rename_i hv
      rw [hv] at h1
      simp only [R] at h1
      exact no _ h1 (by simp [Instr.typeAssert, run_underlying hfs, hzr]) h
    · exact h.elim
  · cases hc
theorem good_ifn {neg : Bool} {x : AO} (hs : RelS N B ρ s a w) (hd : ∀ e, o.dst = some e → e < N) (hc : chkOp P o.op (.ifn neg x) = true) (h : (opF s (.ifn neg x)).run s o.dst K) : Good P N B ρ s a w K o := by
  have eq_if : ∀ {t : TypeId} {ms : Array (String × TypeId)} (u : TypeId) (y : Value), P.underlying t = some (.interface ms) → (Op.equal t (.iface u y) .nilIface).run P w = .ok false w := by
    intro t ms u y hu
    have h : ∀ d : Nat, (Op.equalIn (d + 1) t (.iface u y) .nilIface).run P w = .ok false w := fun d => by simp [Op.equalIn, run_underlying hu]
    simp [Op.equal, Op.maxDepth, h 9999]
  have eq_nil : ∀ {t : TypeId} {ms : Array (String × TypeId)}, P.underlying t = some (.interface ms) → (Op.equal t .nilIface .nilIface).run P w = .ok true w := by
    intro t ms hu
    have h : ∀ d : Nat, (Op.equalIn (d + 1) t .nilIface .nilIface).run P w = .ok true w := fun d => by simp [Op.equalIn, run_underlying hu]
    simp [Op.equal, Op.maxDepth, h 9999]
  have ev : a.eval (.const .nilIface) = .nilIface := rfl
  simp only [chkOp] at hc
  split at hc
  · rename_i t x' yt ho
    simp only [Bool.and_eq_true, Bool.not_eq_true'] at hc
    obtain ⟨⟨hx, rfl⟩, hu⟩ := hc
    obtain ⟨ms, hms⟩ : ∃ ms, P.underlying t = some (.interface ms) := by
      split at hu
      · rename_i ms hms; exact ⟨ms, hms⟩
      · cases hu
    have h1 := opd_R hs hx
    simp only [opF] at h
    split at h
    · rename_i u v hv
      rw [hv] at h1
      simp only [R] at h1
      obtain ⟨y, he, _⟩ := h1
      exact good_ok hs hd h (tv_R rfl) (by simp [tv, execOp, ho, he, ev, binOp, eqGuard, eq_if u y hms])
    · rename_i hv
      rw [hv] at h1
      simp only [R] at h1
      exact good_ok hs hd h (tv_R rfl) (by simp [tv, execOp, ho, h1, ev, binOp, eqGuard, eq_nil hms])
    · exact h.elim
  · rename_i t x' yt ho
    simp only [Bool.and_eq_true, Bool.not_eq_true'] at hc
    obtain ⟨⟨hx, rfl⟩, hu⟩ := hc
    obtain ⟨ms, hms⟩ : ∃ ms, P.underlying t = some (.interface ms) := by
      split at hu
      · rename_i ms hms; exact ⟨ms, hms⟩
      · cases hu
    have h1 := opd_R hs hx
    simp only [opF] at h
    split at h
    · rename_i u v hv
      rw [hv] at h1
      simp only [R] at h1
      obtain ⟨y, he, _⟩ := h1
      exact good_ok hs hd h (tv_R rfl) (by simp [tv, execOp, ho, he, ev, binOp, eqGuard, eq_if u y hms])
    · rename_i hv
      rw [hv] at h1
      simp only [R] at h1
      exact good_ok hs hd h (tv_R rfl) (by simp [tv, execOp, ho, h1, ev, binOp, eqGuard, eq_nil hms])
    · exact h.elim
  · cases hc
end
end Go.Proofs.YtbolfnkgbjkbjaaGreat.AM
end
section
set_option linter.unusedVariables false
set_option linter.unusedSimpArgs false
namespace Go.Proofs.YtbolfnkgbjkbjaaGreat.AM
open Go Go.RowKit
section
variable {P : Program} {N B : Nat} {ρ : Nat → Bnd} {s : S} {a : Act} {w : World} {K : S → Prop} {o : Oper}
theorem wblk_ablk {b : Bnd} {o : Ob} {g : Nat} (h : wblk b o = some g) : ablk b o = some g := by
  cases o <;> first | (cases h; done) | exact h
/-- One object's block is written over; the object is another then. -/
theorem Rel.setRow {n : Nat} {h : Nat → Ob} (hr : Rel B ρ n h w) {id g : Nat} (hid : id < n) {o' : Ob} {cs : Array Value} (hw : wblk (ρ id) (h id) = some g)
    (hb : HR ρ n B (w.setRow g cs) (ρ id) o') (ha : ∀ k, ablk (ρ id) o' = some k → k = g) : Rel B ρ n (upd h id o') (w.setRow g cs) := by
  refine ⟨by simpa using hr.base, fun i hi => ?_, fun i j hi hj hij k hk => ?_⟩
  · by_cases e : i = id
    · subst e
      rw [upd_same]
      exact hb
    · rw [upd_ne _ _ _ e]
      refine (hr.obj i hi).keep (Nat.le_refl _) (fun _ _ => rfl) fun k hk => setRow_other w g k cs ?_
      intro e2
      subst e2
      exact hr.sep id i hid hi (Ne.symm e) k hw hk
  · by_cases e : i = id
    · subst e
      rw [upd_same] at hk
      rw [upd_ne _ _ _ (Ne.symm hij)]
      have : k = g := ha k (wblk_ablk hk)
      subst this
      exact hr.sep i j hi hj hij k hw
    · rw [upd_ne _ _ _ e] at hk
      by_cases e2 : j = id
      · subst e2
        rw [upd_same]
        intro hj'
        have := ha k hj'
        subst this
        exact hr.sep i j hi hj hij k hk (wblk_ablk hw)
      · rw [upd_ne _ _ _ e2]
        exact hr.sep i j hi hj hij k hk
theorem below_setRow {g : Nat} {cs : Array Value} (hg : B ≤ g) : Below B w (w.setRow g cs) :=
  ⟨rfl, rfl, rfl, by simp, fun k hk => setRow_other w g k cs (by omega)⟩
theorem scs_eq : ∀ (vs : List V) (ss : List Sc), scs vs = some ss → vs = ss.map Sc.toV
  | [], ss, h => by simp [scs] at h; subst h; rfl
  | v :: vs, ss, h => by
    simp only [scs] at h
    split at h
    · rename_i x y hx hy
      cases h
      rw [List.map_cons, ← scs_eq vs y hy]
      congr 1
      unfold V.sc at hx
      split at hx <;> first | (cases hx; rfl) | (cases hx)
    · cases h
theorem RL_toV {n : Nat} {ss : List Sc} {xs : List Value} (h : RL ρ n (ss.map Sc.toV) xs) : xs = ss.map Sc.val := by
  induction ss generalizing xs with
  | nil => cases xs <;> simp_all [RL]
  | cons q ss ih =>
    cases xs with
    | nil => simp [RL] at h
    | cons x xs =>
      simp only [List.map_cons, RL] at h
      rw [(R_toV q x).1 h.1, ih h.2, List.map_cons]
theorem cells_of {n : Nat} {v : V} {x : Value} {vs : List V} (h : R ρ n v x) (hvs : vs = cellsV v) (h1 : allOne vs = true) : RL ρ n vs x.cells.toList ∧ (∀ u ∈ x.cells.toList, u.oneCell' = true) := by
  subst hvs
  have := cellsV_R h h1
  exact ⟨this, RL_one this h1⟩
theorem allOne_toV : ∀ (ss : List Sc), allOne (ss.map Sc.toV) = true
  | [] => rfl
  | q :: ss => by simp only [List.map_cons, allOne, Bool.and_eq_true]; exact ⟨by cases q <;> rfl, allOne_toV ss⟩
theorem setR_get {α : Type} (cs : List α) (k : Nat) (vs : List α) (h : k + vs.length ≤ cs.length) (j : Nat) :
    (setR cs k vs)[j]? = if k ≤ j ∧ j < k + vs.length then vs[j - k]? else cs[j]? := by
  unfold setR
  by_cases h1 : j < k
  · rw [List.getElem?_append_left (by simp; omega), List.getElem?_append_left (by simp; omega), List.getElem?_take, if_pos h1, if_neg (by omega)]
  · by_cases h2 : j < k + vs.length
    · rw [List.getElem?_append_left (by simp; omega), List.getElem?_append_right (by simp; omega), if_pos ⟨by omega, h2⟩]
      simp
      rw [Nat.min_eq_left (by omega)]
    · rw [List.getElem?_append_right (by simp; omega), if_neg (by omega), List.getElem?_drop]
      congr 1
      simp
      rw [Nat.min_eq_left (by omega)]
      omega
theorem RL_setR {n : Nat} {cs vs : List V} {xs ys : List Value} (h : RL ρ n cs xs) (hv : RL ρ n vs ys) (k : Nat) : RL ρ n (setR cs k vs) (setR xs k ys) := by
  unfold setR
  rw [hv.length]
  exact ((h.take k).append hv).append (h.drop _)
theorem flat_set (E : ET) : ∀ (l : List (den E)) (e : Nat) (y : den E), e < l.length → flat E (l.set e y) = setR (flat E l) (e * E.length) (enc E y)
  | [], e, y, h => by simp at h
  | x :: l, 0, y, _ => by
    simp only [List.set_cons_zero, flat, List.flatMap_cons, setR, Nat.zero_mul, List.take_zero, List.nil_append, Nat.zero_add]
    rw [enc_length, List.drop_left' (enc_length E x)]
  | x :: l, e + 1, y, h => by
    simp only [List.set_cons_succ, flat, List.flatMap_cons]
    have ih := flat_set E l e y (by simpa using h)
    simp only [flat] at ih
    rw [ih]
    unfold setR
    have e1 : (e + 1) * E.length = (enc E x).length + e * E.length := by rw [enc_length, Nat.add_mul]; omega
    rw [e1, List.take_length_add_append, Nat.add_assoc, List.drop_length_add_append]
    simp
theorem setR_length {α : Type} (cs : List α) (k : Nat) (vs : List α) (h : k + vs.length ≤ cs.length) : (setR cs k vs).length = cs.length := by
  simp [setR]
  omega
theorem setR_map {α β : Type} (f : α → β) (cs : List α) (k : Nat) (vs : List α) : (setR cs k vs).map f = setR (cs.map f) k (vs.map f) := by
  simp [setR]
theorem setR_in {E : ET} (l : List (den E)) (e f : Nat) (ss : List Sc) (he : e < l.length) (hf : f + ss.length ≤ E.length) :
    setR (flat E l) (e * E.length) (setR (enc E (l.getD e (dflt E))) f ss) = setR (flat E l) (e * E.length + f) ss := by
  have hle : e * E.length + E.length ≤ (flat E l).length := by
    rw [flat_length, ← Nat.succ_mul]
    exact Nat.mul_le_mul_right _ he
  have hen := enc_length E (l.getD e (dflt E))
  apply List.ext_getElem?
  intro j
  have e1 := setR_get (flat E l) (e * E.length) (setR (enc E (l.getD e (dflt E))) f ss) (by rw [setR_length _ _ _ (by omega)]; omega) j
  have e2 := setR_get (flat E l) (e * E.length + f) ss (by omega) j
  rw [setR_length _ _ _ (by omega), hen] at e1
  rw [e1, e2]
  by_cases h1 : e * E.length ≤ j ∧ j < e * E.length + E.length
  · rw [if_pos h1, setR_get _ _ _ (by omega)]
    by_cases h2 : f ≤ j - e * E.length ∧ j - e * E.length < f + ss.length
    · rw [if_pos h2, if_pos (by omega)]
      congr 1
      omega
    · rw [if_neg h2, if_neg (by omega)]
      rw [← flat_get E l e (j - e * E.length) (by omega) he]
      congr 1
      omega
  · rw [if_neg h1, if_neg (by omega)]
theorem setR_take {α : Type} (cs : List α) (k m : Nat) (vs : List α) (h : k + vs.length ≤ m) (hm : m ≤ cs.length) : (setR cs k vs).take m = setR (cs.take m) k vs := by
  apply List.ext_getElem?
  intro j
  have e1 := setR_get cs k vs (by omega) j
  have e2 := setR_get (cs.take m) k vs (by rw [List.length_take]; omega) j
  rw [List.getElem?_take, e1, e2]
  by_cases h1 : j < m
  · rw [if_pos h1]
    split
    · rfl
    · rw [List.getElem?_take, if_pos h1]
  · rw [if_neg h1, if_neg (by omega), List.getElem?_take, if_neg h1]
theorem stF_good {n : Nat} {v : V} {vs : List V} {x : Value} {ys : List Value} (hs : RelS N B ρ s a w) (hd : ∀ e, o.dst = some e → e < N) (hv : R ρ s.nx v x) (hy : RL ρ s.nx vs ys)
    (h : (stF s.hp n v vs).run s o.dst K) : ∃ (g k : Nat) (c : Array Value) (t : Nat), x = .pointer (some ⟨g, k, none⟩) ∧ w.heap[g]? = some (.cells c t (0, 0)) ∧ ys.length = n ∧ k + ys.length ≤ c.size ∧ (∀ u ∈ ys, u.oneCell' = true) ∧
      After N B ρ s w K (a.put o.dst undef) (w.setRow g (setR c.toList k ys).toArray) := by
  have hlen := hy.length
  cases v <;> simp only [stF] at h <;> try exact h.elim
  rename_i id e z f
  simp only [R] at hv
  obtain ⟨hid, hx⟩ := hv
  have hob := hs.rel.obj id hid
  generalize ho : s.hp id = ob at h hob
  have fin : ∀ (g : Nat) (cs : Array Value) (o' : Ob), wblk (ρ id) ob = some g → B ≤ g → HR ρ s.nx B (w.setRow g cs) (ρ id) o' → (∀ k, ablk (ρ id) o' = some k → k = g) →
      K (S.put ⟨s.sl, upd s.hp id o', s.nx⟩ o.dst .top) → After N B ρ s w K (a.put o.dst undef) (w.setRow g cs) := by
    intro g cs o' h1 h2 h3 h4 h5
    have hr := hs.rel.setRow hid (o' := o') (cs := cs) (by rw [ho]; exact h1) h3 h4
    exact ⟨ρ, _, h5, hs.put (Nat.le_refl _) (fun _ _ => rfl) hr (v := .top) (by simp [R]) hd, fun _ _ => rfl, by rw [S.put_nx]; exact Nat.le_refl _, below_setRow h2⟩
  cases ob with
  | no => exact h.elim
  | var t cs =>
    simp only [] at h
    split at h
    · rename_i hc
      simp only [Bool.and_eq_true, decide_eq_true_eq] at hc
      obtain ⟨⟨hn, hle⟩, h1⟩ := hc
      obtain ⟨hB, h2, c, h3, h4⟩ := hob
      have hcl := h4.length
      simp only [Array.length_toList] at hcl
      refine ⟨(ρ id).blk, e * z + f, c, t, by rw [hx, h2, Nat.zero_add], h3, by omega, by omega, RL_one hy h1, ?_⟩
      refine fin _ _ (.var t (setR cs (e * z + f) vs)) rfl hB ⟨hB, h2, _, setRow_heap _ _ _ _ _ _ h3, ?_⟩ (fun k hk => by simpa [ablk] using hk.symm) h.2
      simpa using RL_setR h4 hy _
    · exact h.elim
  | ro E l => exact h.elim
  | rv cs => exact h.elim
  | mp ka KE va VE m => exact h.elim
  | own t E l =>
    simp only [] at h
    split at h
    · rename_i ss hc hss
      simp only [decide_eq_true_eq] at hc
      obtain ⟨hn, rfl, hf⟩ := hc
      split at h
      · rename_i y hy'
        obtain ⟨he, hK⟩ := h
        have henc := enc_dec E _ _ hy'
        have hvs := scs_eq _ _ hss
        subst hvs
        have hys := RL_toV hy
        subst hys
        obtain ⟨h1, h2, h3, h4⟩ := hob
        rcases h2.2 with ⟨_, hl0⟩ | ⟨g, cap, cur, hsv, hb, hg, hnc, hcm, hcs, htake⟩
        · omega
        · have hgb : (ρ id).blk = g := h4 g (by rw [hsv]; rfl)
          have hss' : ss.length = n := by simpa using hn
          have hkl : e * E.length + f + ss.length ≤ l.length * E.length := by
            have : (e + 1) * E.length ≤ l.length * E.length := Nat.mul_le_mul_right _ he
            rw [Nat.add_mul] at this
            omega
          have hcl : l.length * E.length ≤ cur.size := by rw [hcs]; exact Nat.mul_le_mul_right _ hnc
          refine ⟨g, e * E.length + f, cur, t, by rw [hx, h3, hgb, Nat.zero_add], hg, by simpa using hss', by simp; omega, ?_, ?_⟩
          · intro u hu
            obtain ⟨q, _, rfl⟩ := List.mem_map.1 hu
            exact q.val_one
          · refine fin g _ (.own t E (l.set e y)) (by simp only [wblk]; rw [hsv]; rfl) hb ⟨by rw [h1, List.length_set], ⟨?_, .inr ⟨g, cap, _, ?_, hb, setRow_heap _ _ _ _ _ _ hg, ?_, hcm, ?_, ?_⟩⟩, h3, h4⟩ ?_ hK
            · simp [flat_length]
            · rw [List.length_set]; exact hsv
            · rw [List.length_set]; exact hnc
            · simp only [List.size_toArray]
              rw [setR_length _ _ _ (by simp; omega)]
              simpa using hcs
            · rw [List.length_set]
              simp only []
              rw [setR_take _ _ _ _ (by simpa using hkl) (by simpa using hcl), htake, flat_set E l e y he, henc, setR_in l e f ss he (by omega), setR_map]
            · intro k hk
              simp only [ablk] at hk
              rw [hsv] at hk
              simpa [Value.ownBlock] using hk.symm
      · exact h.elim
    · exact h.elim
theorem stF_one {n : Nat} {v : V} {vs : List V} {d : Option Nat} (h : (stF s.hp n v vs).run s d K) : allOne vs = true := by
  cases v <;> simp only [stF] at h <;> try exact h.elim
  rename_i id e z f
  generalize s.hp id = ob at h
  cases ob with
  | no => exact h.elim
  | var t cs =>
    simp only [] at h
    split at h
    · rename_i hc
      simp only [Bool.and_eq_true, decide_eq_true_eq] at hc
      exact hc.2
    · exact h.elim
  | ro E l => exact h.elim
  | rv cs => exact h.elim
  | mp ka KE va VE m => exact h.elim
  | own t E l =>
    simp only [] at h
    split at h
    · rename_i ss hc hss
      rw [scs_eq _ _ hss]
      exact allOne_toV ss
    · exact h.elim
theorem good_st {n : Nat} {x y : AO} (hs : RelS N B ρ s a w) (hd : ∀ e, o.dst = some e → e < N) (hc : chkOp P o.op (.st n x y) = true) (h : (opF s (.st n x y)).run s o.dst K) : Good P N B ρ s a w K o := by
  simp only [chkOp] at hc
  split at hc
  · rename_i t a' x' ho
    simp only [Bool.and_eq_true, decide_eq_true_eq] at hc
    obtain ⟨⟨hx, hy⟩, hsz⟩ := hc
    simp only [opF] at h
    obtain ⟨hcl, hone⟩ := cells_of (opd_R hs hy) rfl (stF_one h)
    obtain ⟨g, k, c, t', he, hg, hn, hle, h1, haf⟩ := stF_good hs hd (opd_R hs hx) hcl h
    unfold szOf at hsz
    simp only [Option.map_eq_some_iff] at hsz
    obtain ⟨i, hi, hin⟩ := hsz
    have hst := run_storeCells_at P g k t' (a.eval x').cells.toList 0 c w hg (by omega) h1
    refine ⟨undef, _, .inr ⟨?_, rfl⟩, haf⟩
    have hsize : (a.eval x').cells.size = i.size := by rw [hin, ← hn]; simp
    simp only [Nat.add_zero] at hst
    simp [execOp, ho, Instr.storeAt, Instr.sureAddr, he, storeVar, sizeOf, typeInfo, hi, hsize, hst, setR]
  · cases hc
theorem part_run {t : TypeId} {n off : Nat} {agg : Bool} {cs : List V} {xs : Array Value} {l : List V} (hR : RL ρ s.nx cs xs.toList) (hsz : szOf P t = some n) (hag : aggOf P t = some agg) (hn : agg = true ∨ n = 1)
    (hl : takeN n (cs.drop off) = some l) : ∃ x, (part t xs off).run P w = .ok x w ∧ R ρ s.nx (mkV agg l) x := by
  obtain ⟨rfl, hle⟩ := takeN_eq _ _ _ hl
  unfold szOf at hsz
  simp only [Option.map_eq_some_iff] at hsz
  obtain ⟨i, hi, hin⟩ := hsz
  have hlen := hR.length
  simp only [Array.length_toList] at hlen
  simp only [List.length_drop] at hle
  cases agg with
  | true =>
    have hagg : (isAgg t).run P w = .ok true w := by
      unfold aggOf at hag
      split at hag
      · rename_i fs hu; simp [isAgg, run_underlying hu]
      · rename_i m e hu; simp [isAgg, run_underlying hu]
      · simp at hag
      · simp at hag
    refine ⟨.agg (xs.extract off (off + n)), by simp [part, hagg, sizeOf, typeInfo, hi, hin], ?_⟩
    simp only [mkV, R]
    refine ⟨_, rfl, ?_⟩
    have := (hR.drop off).take n
    simpa [Array.toList_extract, List.extract_eq_take_drop] using this
  | false =>
    have hn1 : n = 1 := by simpa using hn
    subst hn1
    have hagg : (isAgg t).run P w = .ok false w := by
      unfold aggOf at hag
      split at hag
      · simp at hag
      · simp at hag
      · rename_i d h1 h2 hu
        cases d <;> first | (simp [isAgg, run_underlying hu]; done) | exact (h1 _ rfl).elim | exact (h2 _ _ rfl).elim
      · simp at hag
    have ho : off < cs.length := by omega
    obtain ⟨x, hx, hxR⟩ := hR.get off (cs[off]) (List.getElem?_eq_getElem ho)
    refine ⟨x, ?_, ?_⟩
    · have : xs[off]? = some x := by simpa using hx
      simp [part, hagg, this]
    · rw [List.drop_eq_getElem_cons ho]
      exact hxR
theorem good_fld {x : AO} {off n : Nat} {agg : Bool} (hs : RelS N B ρ s a w) (hd : ∀ e, o.dst = some e → e < N) (hc : chkOp P o.op (.fld x off n agg) = true) (h : (opF s (.fld x off n agg)).run s o.dst K) : Good P N B ρ s a w K o := by
  simp only [chkOp] at hc
  split at hc
  · rename_i st x' f ho
    simp only [Bool.and_eq_true] at hc
    have h1 := opd_R hs hc.1
    simp only [opF] at h
    split at h
    · rename_i cs hv
      rw [hv] at h1
      simp only [R] at h1
      obtain ⟨xs, he, hR⟩ := h1
      have hf := hc.2
      split at hf
      · rename_i fs hu
        split at hf
        · rename_i fl hfl
          simp only [Bool.and_eq_true, decide_eq_true_eq, Bool.or_eq_true] at hf
          obtain ⟨⟨⟨hoff, hsz⟩, hag⟩, hn⟩ := hf
          split at h
          · rename_i l hl
            obtain ⟨u, hrun, hu'⟩ := part_run (P := P) (w := w) (s := s) hR hsz hag hn hl
            refine good_ok hs hd h hu' ?_
            simp [execOp, ho, he, Instr.field, run_underlying hu, hfl, asAgg, hoff, hrun]
          · exact h.elim
        · cases hf
      · cases hf
    · exact h.elim
  · cases hc
theorem lenF_slice {v : V} {x : Value} {n : Nat} (hr : Rel B ρ s.nx s.hp w) (hv : R ρ s.nx v x) (hl : lenF s.hp v = some n) : ∃ ad cap, x = .slice ad n cap ∧ n ≤ cap := by
  unfold lenF at hl
  split at hl
  · cases hl
    simp only [R] at hv
    exact ⟨none, 0, hv, Nat.le_refl _⟩
  · cases hl
    simp only [R] at hv
    obtain ⟨_, ad, cap, h1, h2, _⟩ := hv
    exact ⟨ad, cap, h1, h2⟩
  · rename_i id
    simp only [R] at hv
    have hob := hr.obj id hv.1
    split at hl
    · rename_i E l ho
      cases hl
      rw [ho] at hob
      obtain ⟨_, h1, h2, _⟩ := hob
      exact ⟨_, _, by rw [hv.2, Bnd.sv, h1], h2⟩
    · rename_i t E l ho
      cases hl
      rw [ho] at hob
      obtain ⟨h1, h2, _⟩ := hob
      refine ⟨_, _, by rw [hv.2, Bnd.sv, h1], ?_⟩
      rcases h2.2 with ⟨hn, h0⟩ | ⟨g, cap, cur, hsv, _, _, hnc, _⟩
      · omega
      · unfold Bnd.sv at hsv
        injection hsv with e1 e2 e3
        omega
    · cases hl
  · cases hl
theorem good_len {x : AO} (hs : RelS N B ρ s a w) (hd : ∀ e, o.dst = some e → e < N) (hc : chkOp P o.op (.len x) = true) (h : (opF s (.len x)).run s o.dst K) : Good P N B ρ s a w K o := by
  simp only [chkOp] at hc
  split at hc
  · rename_i c ho
    obtain ⟨callee, args, argTypes⟩ := c
    simp only [] at hc
    split at hc
    · rename_i x' t h2 h3
      simp only [Bool.and_eq_true] at hc
      obtain ⟨hx, ht⟩ := hc
      simp only [opF] at h
      split at h
      · rename_i n hn
        obtain ⟨ad, cap, he, _⟩ := lenF_slice hs.rel (opd_R hs hx) hn
        unfold sliceElem at ht
        split at ht
        · rename_i e hu
          obtain rfl : args = #[x'] := by cases args; simp at h2; subst h2; rfl
          obtain rfl : argTypes = #[t] := by cases argTypes; simp at h3; subst h3; rfl
          refine good_ok hs hd h (x := goInt n) (by simp [R, goInt]) ?_
          simp [execOp, ho, resolve, invoke, builtin, Builtin.len_, run_underlying hu, he]
        · cases ht
      · exact h.elim
    · cases hc
  · cases hc
theorem good_mx {mn : Bool} {x y : AO} (hs : RelS N B ρ s a w) (hd : ∀ e, o.dst = some e → e < N) (hc : chkOp P o.op (.mx mn x y) = true) (h : (opF s (.mx mn x y)).run s o.dst K) : Good P N B ρ s a w K o := by
  simp only [chkOp] at hc
  split at hc
  · rename_i c ho
    obtain ⟨callee, args, argTypes⟩ := c
    simp only [] at hc
    have key : ∀ (x' y' : Operand), args.toList = [x', y'] → opd x' x = true → opd y' y = true → (callee = .builtin .max ∧ mn = false ∨ callee = .builtin .min ∧ mn = true) → Good P N B ρ s a w K o := by
      intro x' y' h2 hx hy hm
      obtain rfl : args = #[x', y'] := by cases args; simp at h2; subst h2; rfl
      have h1 := opd_R hs hx
      have h2 := opd_R hs hy
      simp only [opF] at h
      split at h
      · rename_i k p k' q hp hq
        rw [hp] at h1
        rw [hq] at h2
        simp only [R] at h1 h2
        split at h
        · rename_i hk
          simp only [decide_eq_true_eq] at hk
          subst hk
          rcases hm with ⟨rfl, rfl⟩ | ⟨rfl, rfl⟩
          · refine good_ok hs hd h (tv_R rfl) ?_
            simp [tv, execOp, ho, resolve, invoke, builtin, Builtin.max_, Builtin.max2, h1, h2]
          · refine good_ok hs hd h (tv_R rfl) ?_
            simp [tv, execOp, ho, resolve, invoke, builtin, Builtin.min_, Builtin.min2, h1, h2]
        · exact h.elim
      · exact h.elim
    split at hc
    · rename_i x' y' h2
      simp only [Bool.and_eq_true, Bool.not_eq_true'] at hc
      exact key x' y' h2 hc.1.1 hc.1.2 (.inl ⟨rfl, hc.2⟩)
    · rename_i x' y' h2
      simp only [Bool.and_eq_true] at hc
      exact key x' y' h2 hc.1.1 hc.1.2 (.inr ⟨rfl, hc.2⟩)
    · cases hc
  · cases hc
theorem good_ia {x i : AO} {z : Nat} (hs : RelS N B ρ s a w) (hd : ∀ e, o.dst = some e → e < N) (hc : chkOp P o.op (.ia x i z) = true) (h : (opF s (.ia x i z)).run s o.dst K) : Good P N B ρ s a w K o := by
  simp only [chkOp] at hc
  split at hc
  · rename_i t x' i' ho
    simp only [Bool.and_eq_true] at hc
    obtain ⟨⟨hx, hi⟩, ht⟩ := hc
    have h1 := opd_R hs hx
    have h2 := opd_R hs hi
    split at ht
    · rename_i e hu
      simp only [decide_eq_true_eq] at ht
      unfold szOf at ht
      simp only [Option.map_eq_some_iff] at ht
      obtain ⟨ie, hie, hiz⟩ := ht
      have fin : ∀ (n : Nat) (k : IntKind) (j : Int) (g off cap : Nat) (v : V), a.eval i' = .int k j → a.eval x' = .slice (some ⟨g, off, none⟩) n cap → 0 ≤ j → j < (n : Int) →
          R ρ s.nx v (.pointer (some ⟨g, off + j.toNat * z, none⟩)) → K (s.put o.dst v) → Good P N B ρ s a w K o := by
        intro n k j g off cap v e1 e2 h0 hj hR hK
        refine good_val hs hd hR ?_ (by rw [force_iff]; exact hK)
        simp [execOp, ho, e1, e2, Instr.indexAt, asIntOf, run_underlying hu, h0, hj, sizeOf, typeInfo, hie, hiz, add_lit]
      simp only [opF] at h
      split at h
      · rename_i id n k j hv hn hj
        rw [hj] at h2
        simp only [R] at h2
        simp only [OR.run, force_iff] at h
        obtain ⟨⟨h0, hlt⟩, hK⟩ := h
        rw [hv] at h1 hn
        have h1' := h1
        simp only [R] at h1'
        have hob := hs.rel.obj id h1'.1
        simp only [lenF] at hn
        cases ho' : s.hp id with
        | no => simp [ho'] at hn
        | var _ _ => simp [ho'] at hn
        | rv _ => simp [ho'] at hn
        | mp _ _ _ _ _ => simp [ho'] at hn
        | ro E l =>
          rw [ho'] at hob
          simp only [ho', Option.some.injEq] at hn
          obtain ⟨_, hl1, hl2, hl3, _⟩ := hob
          have ha := hl3 (by omega)
          refine fin n k j _ _ (ρ id).cap _ h2 (by rw [h1'.2, Bnd.sv, ha, hl1, hn]) h0 hlt ?_ hK
          simp only [R]
          exact ⟨h1'.1, by simp⟩
        | own t' E l =>
          rw [ho'] at hob
          simp only [ho', Option.some.injEq] at hn
          obtain ⟨hl1, hl2, hl3, hl4⟩ := hob
          rcases hl2.2 with ⟨_, h00⟩ | ⟨g, cap, cur, hsv, _⟩
          · omega
          · have hgb : (ρ id).blk = g := hl4 g (by rw [hsv]; rfl)
            refine fin n k j g 0 cap _ h2 (by rw [h1'.2, hsv, hn]) h0 hlt ?_ hK
            simp only [R]
            exact ⟨h1'.1, by rw [hgb, hl3]; simp⟩
      · rename_i id lo len z' n k j hv hn hj
        split at h
        · rename_i hz
          simp only [decide_eq_true_eq] at hz
          subst hz
          rw [hj] at h2
          simp only [R] at h2
          simp only [OR.run, force_iff] at h
          obtain ⟨⟨h0, hlt⟩, hK⟩ := h
          rw [hv] at h1 hn
          have h1' := h1
          simp only [R] at h1'
          simp only [lenF, Option.some.injEq] at hn
          obtain ⟨hid, ad, cap, he, hlc, had⟩ := h1'
          refine fin n k j _ _ cap _ h2 (by rw [he, had (by omega), hn]) h0 hlt ?_ hK
          simp only [R]
          exact ⟨hid, by rw [Nat.add_mul, Nat.add_assoc, Nat.add_zero]⟩
        · exact h.elim
      · exact h.elim
    · cases ht
  · cases hc
theorem good_iaa {x i : AO} {len z : Nat} (hs : RelS N B ρ s a w) (hd : ∀ e, o.dst = some e → e < N) (hc : chkOp P o.op (.iaa x i len z) = true) (h : (opF s (.iaa x i len z)).run s o.dst K) : Good P N B ρ s a w K o := by
  simp only [chkOp] at hc
  split at hc
  · rename_i t x' i' ho
    simp only [Bool.and_eq_true] at hc
    obtain ⟨⟨hx, hi⟩, ht⟩ := hc
    have h1 := opd_R hs hx
    have h2 := opd_R hs hi
    split at ht
    · rename_i n e hu
      simp only [Bool.and_eq_true, decide_eq_true_eq] at ht
      obtain ⟨rfl, ht⟩ := ht
      unfold szOf at ht
      simp only [Option.map_eq_some_iff] at ht
      obtain ⟨ie, hie, hiz⟩ := ht
      simp only [opF] at h
      split at h
      · rename_i id e' z' f k j hv hj
        rw [hv] at h1
        rw [hj] at h2
        simp only [R] at h1 h2
        simp only [OR.run, force_iff] at h
        obtain ⟨⟨h0, hlt⟩, hK⟩ := h
        refine good_val hs hd (v := .ptr id e' z' (f + j.toNat * z)) (x := .pointer (some ⟨(ρ id).blk, (ρ id).off + (e' * z' + (f + j.toNat * z)), none⟩)) (by simp only [R]; exact ⟨h1.1, trivial⟩) ?_ (by rw [force_iff]; exact hK)
        simp [execOp, ho, h1.2, h2, Instr.indexAt, Instr.sureAddr, asIntOf, run_underlying hu, h0, hlt, sizeOf, typeInfo, hie, hiz, add_lit, Nat.add_assoc]
      · exact h.elim
    · cases ht
  · cases hc
theorem good_ixs {l : List Nat} {i : AO} (hs : RelS N B ρ s a w) (hd : ∀ e, o.dst = some e → e < N) (hc : chkOp P o.op (.ixs l i) = true) (h : (opF s (.ixs l i)).run s o.dst K) : Good P N B ρ s a w K o := by
  simp only [chkOp] at hc
  split at hc
  · rename_i t b i' ho
    simp only [Bool.and_eq_true] at hc
    obtain ⟨hi, ht⟩ := hc
    have h2 := opd_R hs hi
    split at ht
    · rename_i hu
      simp only [decide_eq_true_eq] at ht
      simp only [opF] at h
      split at h
      · rename_i k j hj
        rw [hj] at h2
        simp only [R] at h2
        simp only [OR.run, force_iff] at h
        obtain ⟨⟨h0, hlt⟩, hK⟩ := h
        have hl : l.length = b.size := by rw [← ht]; simp
        have hb : j.toNat < b.size := by omega
        have hg : l.getD j.toNat 0 = b[j.toNat].toNat := by
          rw [← ht]
          rw [List.getD_eq_getElem?_getD, List.getElem?_map]
          have : b.data.toList[j.toNat]? = some b[j.toNat] := by
            rw [List.getElem?_eq_getElem (by simpa using hb)]
            rfl
          rw [this]
          rfl
        refine good_val hs hd (v := .int .u8 ((l.getD j.toNat 0 : Nat) : Int)) (x := .int .u8 b[j.toNat].toNat) (by simp only [R]; rw [hg]) ?_ (by rw [force_iff]; exact hK)
        have hb' : b[j.toNat]? = some b[j.toNat] := by simp [hb]
        have hcv : a.eval (.const (.string b)) = .string b := rfl
        simp [execOp, ho, hcv, h2, Instr.index, asIntOf, run_underlying hu, h0, hb']
      · exact h.elim
    · cases ht
  · cases hc
theorem good_ixa {x i : AO} {len z : Nat} {agg : Bool} (hs : RelS N B ρ s a w) (hd : ∀ e, o.dst = some e → e < N) (hc : chkOp P o.op (.ixa x i len z agg) = true) (h : (opF s (.ixa x i len z agg)).run s o.dst K) : Good P N B ρ s a w K o := by
  simp only [chkOp] at hc
  split at hc
  · rename_i t x' i' ho
    simp only [Bool.and_eq_true] at hc
    obtain ⟨⟨hx, hi⟩, ht⟩ := hc
    have h1 := opd_R hs hx
    have h2 := opd_R hs hi
    split at ht
    · rename_i n e hu
      simp only [Bool.and_eq_true, decide_eq_true_eq, Bool.or_eq_true] at ht
      obtain ⟨⟨⟨rfl, hz⟩, hag⟩, hn⟩ := ht
      simp only [opF] at h
      split at h
      · rename_i cs k j hv hj
        rw [hv] at h1
        rw [hj] at h2
        simp only [R] at h1 h2
        obtain ⟨xs, he, hR⟩ := h1
        split at h
        · rename_i j
          split at h
          · rename_i l hl
            simp only [OR.run, force_iff] at h
            obtain ⟨hlt, hK⟩ := h
            obtain ⟨u, hrun, hu'⟩ := part_run (P := P) (w := w) (s := s) hR hz hag hn hl
            refine good_val hs hd hu' ?_ (by rw [force_iff]; exact hK)
            unfold szOf at hz
            simp only [Option.map_eq_some_iff] at hz
            obtain ⟨ie, hie, hiz⟩ := hz
            have hj0 : (0 : Int) ≤ Int.ofNat j := Int.natCast_nonneg j
            have hj1 : (Int.ofNat j) < (n : Int) := by show ((j : Nat) : Int) < _; omega
            have hj2 : (Int.ofNat j).toNat = j := rfl
            simp only [Int.ofNat_eq_natCast] at h2 hj0 hj1 hj2
            simp [execOp, ho, he, h2, Instr.index, asIntOf, run_underlying hu, hlt, sizeOf, typeInfo, hie, hiz, hrun]
          · exact h.elim
        · exact h.elim
      · exact h.elim
    · cases ht
  · cases hc
end
end Go.Proofs.YtbolfnkgbjkbjaaGreat.AM
end
section
set_option linter.unusedVariables false
set_option linter.unusedSimpArgs false
namespace Go.Proofs.YtbolfnkgbjkbjaaGreat.AM
open Go Go.RowKit
section
variable {P : Program} {N B : Nat} {ρ : Nat → Bnd} {s : S} {a : Act} {w : World} {K : S → Prop} {o : Oper}
theorem fold_set (off : Nat) : ∀ (vs : List Value) (k : Nat) (cs : Array Value), off + k + vs.length ≤ cs.size →
    ((vs.zipIdx k).foldl (fun (cs : Array Value) (p : Value × Nat) => cs.setIfInBounds (off + p.2) p.1) cs).toList = setR cs.toList (off + k) vs
  | [], k, cs, h => by simp [setR]
  | v :: vs, k, cs, h => by
    simp only [List.zipIdx_cons, List.foldl_cons]
    rw [fold_set off vs (k + 1) _ (by simp at h ⊢; omega)]
    apply List.ext_getElem?
    intro j
    have e1 := setR_get (cs.setIfInBounds (off + k) v).toList (off + (k + 1)) vs (by simp at h ⊢; omega) j
    have e2 := setR_get cs.toList (off + k) (v :: vs) (by simp at h ⊢; omega) j
    rw [e1, e2]
    simp only [List.length_cons]
    by_cases h1 : off + (k + 1) ≤ j ∧ j < off + (k + 1) + vs.length
    · rw [if_pos h1, if_pos (by omega)]
      obtain ⟨m, hm⟩ : ∃ m, j - (off + k) = m + 1 := ⟨j - (off + k) - 1, by omega⟩
      rw [hm, List.getElem?_cons_succ]
      congr 1
      omega
    · rw [if_neg h1]
      by_cases h2 : j = off + k
      · subst h2
        rw [if_pos (by omega)]
        have : off + k < cs.size := by simp at h; omega
        simp [this]
      · rw [if_neg (by omega)]
        simp only [Array.toList_setIfInBounds]
        rw [List.getElem?_set_ne (Ne.symm h2)]
theorem fill_ok {place : Nat → Option (Nat × Nat)} {t : TypeId} (hp : ∀ i x, placeOf P t i = some x → place i = some x) (hs : RelS N B ρ s a w) : ∀ (parts : List (Nat × Operand)) (ps : List (Nat × Nat × AO)) (z cs : List V) (cells : Array Value),
    partsOk P t parts ps = true → fillV s z ps = some cs → RL ρ s.nx z cells.toList →
    ∃ cells', Instr.fill place cells (parts.map fun p => (p.1, a.eval p.2)) = some cells' ∧ RL ρ s.nx cs cells'.toList ∧ cs.length = z.length
  | [], [], z, cs, cells, _, h, hR => by
    simp only [fillV, Option.some.injEq] at h
    subst h
    exact ⟨cells, rfl, hR, rfl⟩
  | (i, x) :: parts, (off, size, y) :: ps, z, cs, cells, hc, h, hR => by
    simp only [partsOk, Bool.and_eq_true, decide_eq_true_eq] at hc
    obtain ⟨⟨hpl, hx⟩, hc'⟩ := hc
    simp only [fillV] at h
    split at h
    · rename_i hcond
      simp only [Bool.and_eq_true, decide_eq_true_eq] at hcond
      obtain ⟨⟨hl, hle⟩, h1⟩ := hcond
      obtain ⟨hcl, _⟩ := cells_of (opd_R hs hx) rfl h1
      have hcz := hcl.length
      have hzl := hR.length
      simp only [Array.length_toList] at hcz hzl
      have hset : (((a.eval x).cells.zipIdx.foldl (fun (cs : Array Value) (p : Value × Nat) => cs.setIfInBounds (off + p.2) p.1) cells)).toList = setR cells.toList off (a.eval x).cells.toList := by
        rw [← Array.foldl_toList, Array.toList_zipIdx, fold_set off _ 0 cells (by simp; omega)]
        rfl
      obtain ⟨cells', h2, h3, h4⟩ := fill_ok hp hs parts ps _ cs _ hc' h (by rw [hset]; exact RL_setR hR hcl off)
      refine ⟨cells', ?_, h3, by rw [h4, setR_length _ _ _ (by omega)]⟩
      simp only [List.map_cons, Instr.fill, hp i _ hpl]
      rw [if_neg]
      · exact h2
      · simp
        omega
    · cases h
  | [], _ :: _, _, _, _, hc, _, _ => by simp [partsOk] at hc
  | _ :: _, [], _, _, _, hc, _, _ => by simp [partsOk] at hc
theorem mapM_places : ∀ (fs : List Field), (fs.all fun f => (P.info? f.type).isSome) = true →
    ∃ places, fs.mapM (fun f => (P.info? f.type).map fun i => (f.offset, i.size)) = some places ∧ ∀ (i : Nat), places[i]? = (fs[i]?).bind fun (f : Field) => (P.info? f.type).map fun j => (f.offset, j.size)
  | [], _ => ⟨[], by simp, by simp⟩
  | f :: fs, h => by
    simp only [List.all_cons, Bool.and_eq_true] at h
    obtain ⟨j, hj⟩ := Option.isSome_iff_exists.1 h.1
    obtain ⟨ps, h1, h2⟩ := mapM_places fs h.2
    refine ⟨(f.offset, j.size) :: ps, by simp [List.mapM_cons, hj, h1], fun i => ?_⟩
    cases i with
    | zero => simp [hj]
    | succ i => simpa using h2 i
theorem good_bld {z : List V} {ps : List (Nat × Nat × AO)} (hs : RelS N B ρ s a w) (hd : ∀ e, o.dst = some e → e < N) (hc : chkOp P o.op (.bld z ps) = true) (h : (opF s (.bld z ps)).run s o.dst K) : Good P N B ρ s a w K o := by
  simp only [chkOp] at hc
  split at hc
  · rename_i t parts ho
    simp only [Bool.and_eq_true] at hc
    obtain ⟨⟨⟨hz, hk⟩, hpt⟩, hty⟩ := hc
    simp only [opF] at h
    split at h
    · rename_i cs hcs
      unfold zeroOk at hz
      split at hz
      · rename_i it hit
        split at hz
        · rename_i zv hzv
          have hmap : ((parts.map fun (p : Nat × Operand) => (p.1, a.eval p.2)).toList) = parts.toList.map fun p => (p.1, a.eval p.2) := by simp
          have key : ∃ cells', P.built t (parts.map fun (p : Nat × Operand) => (p.1, a.eval p.2)).toList = some cells' ∧ RL ρ s.nx cs cells'.toList := by
            split at hty
            · rename_i fs hu
              unfold fieldsKnown at hk
              rw [hu] at hk
              obtain ⟨places, hpl, hget⟩ := mapM_places (P := P) fs.toList hk
              obtain ⟨cells', h1, h2, _⟩ := fill_ok (place := (places.toArray[·]?)) (t := t) (fun i x hx => by
                unfold placeOf at hx
                rw [hu] at hx
                simp only [List.getElem?_toArray, hget, Array.getElem?_toList]
                simp only [] at hx
                split at hx
                · rename_i f hf
                  split at hx
                  · rename_i j hj
                    rw [hf]
                    simpa [hj] using hx
                  · cases hx
                · cases hx) hs parts.toList ps z cs zv.cells hpt hcs (cstL_RL hz)
              refine ⟨cells', ?_, h2⟩
              rw [hmap]
              simp only [Program.built, hit, hu, hzv, hpl]
              exact h1
            · rename_i n e hu
              unfold fieldsKnown at hk
              rw [hu] at hk
              obtain ⟨ie, hie⟩ := Option.isSome_iff_exists.1 hk
              obtain ⟨cells', h1, h2, _⟩ := fill_ok (place := fun i => some (i * ie.size, ie.size)) (t := t) (fun i x hx => by
                  unfold placeOf at hx
                  rw [hu] at hx
                  simp only [hie] at hx
                  exact hx) hs parts.toList ps z cs zv.cells hpt hcs (cstL_RL hz)
              refine ⟨cells', ?_, h2⟩
              rw [hmap]
              simp only [Program.built, hit, hu, hzv, hie]
              exact h1
            · cases hty
          obtain ⟨cells', h1, h2⟩ := key
          refine good_ok hs hd h (x := .agg cells') (by simp only [R]; exact ⟨_, rfl, h2⟩) ?_
          simp [execOp, ho, run_build w t _ cells' h1]
        · cases hz
      · cases hz
    · exact h.elim
  · cases hc
theorem fin_own (hs : RelS N B ρ s a w) {t : Nat} {E : ET} {l : List (den E)} {c : Array Value} (hc : c.toList = (flat E l).map Sc.val) (hm : l.length ≤ maxLen) {d : Option Nat} (hd : ∀ e, d = some e → e < N)
    (h : K (S.put ⟨s.sl, upd s.hp s.nx (.own t E l), s.nx + 1⟩ d (.osl s.nx))) : After N B ρ s w K (a.put d (.slice (some ⟨w.heap.size, 0, none⟩) l.length l.length)) (w.alloc (.cells c t)) := by
  let b : Bnd := { blk := w.heap.size, off := 0, a := some ⟨w.heap.size, 0, none⟩, len := l.length, cap := l.length }
  have hsz : c.size = l.length * E.length := by rw [← Array.length_toList, hc, List.length_map, flat_length]
  have hr : Rel B (upd ρ s.nx b) (s.nx + 1) (upd s.hp s.nx (.own t E l)) (w.alloc (.cells c t)) := by
    refine hs.rel.new (b := b) ⟨rfl, ⟨by rw [List.length_map, flat_length], .inr ⟨w.heap.size, l.length, c, rfl, hs.rel.base, heap_alloc_new w _, Nat.le_refl _, hm, hsz, ?_⟩⟩, rfl, ?_⟩ (by simp) (fun k hk => Below.heap_alloc _ _ _ hk) ?_
    · rw [hc, List.take_of_length_le (by rw [List.length_map, flat_length]; exact Nat.le_refl _)]
    · intro g hg
      simpa [b, Bnd.sv, Value.ownBlock] using hg
    · intro g hg
      simp only [ablk, b, Bnd.sv, Value.ownBlock, Option.some.injEq] at hg
      omega
  refine ⟨upd ρ s.nx b, _, h, hs.put (Nat.le_succ _) (agree_upd _ _ _) hr ?_ hd, agree_upd _ _ _, by rw [S.put_nx]; exact Nat.le_succ _, (Below.refl _ _).alloc hs.rel.base _⟩
  simp only [R, upd_same]
  exact ⟨by omega, by simp [b, Bnd.sv]⟩
theorem good_mvn {t : Nat} {E : ET} (hs : RelS N B ρ s a w) (hd : ∀ e, o.dst = some e → e < N) (hc : chkOp P o.op (.mvn t E) = true) (h : (opF s (.mvn t E)).run s o.dst K) : Good P N B ρ s a w K o := by
  have fin : (execOp a.eval o).run P w = .ok (.value (.slice none 0 0)) w → Good P N B ρ s a w K o := by
    intro hrun
    refine ⟨_, _, .inl hrun, ?_⟩
    let b : Bnd := { blk := 0, off := 0, a := none, len := 0, cap := 0 }
    have hr : Rel B (upd ρ s.nx b) (s.nx + 1) (upd s.hp s.nx (.own t E [])) w := by
      refine hs.rel.new (b := b) ⟨rfl, ?_, rfl, ?_⟩ (Nat.le_refl _) (fun _ _ => rfl) ?_
      · show w.ownsRow B t E.length (.slice none 0 0) 0 ((flat E []).map Sc.val)
        simpa [flat] using World.ownsRow_nil w B t E.length
      · intro g hg
        simp [b, Bnd.sv, Value.ownBlock] at hg
      · intro g hg
        simp [ablk, b, Bnd.sv, Value.ownBlock] at hg
    refine ⟨upd ρ s.nx b, _, h.2, hs.put (Nat.le_succ _) (agree_upd _ _ _) hr ?_ hd, agree_upd _ _ _, by rw [S.put_nx]; exact Nat.le_succ _, Below.refl _ _⟩
    show R _ _ (.osl s.nx) _
    simp only [R, upd_same]
    exact ⟨by omega, rfl⟩
  simp only [chkOp] at hc
  split at hc
  · rename_i n c ho
    simp only [decide_eq_true_eq] at hc
    obtain ⟨rfl, rfl⟩ := hc
    exact fin (by simp [execOp, ho, Act.eval])
  · rename_i n c ho
    simp only [decide_eq_true_eq] at hc
    obtain ⟨rfl, rfl⟩ := hc
    exact fin (by simp [execOp, ho, Act.eval])
  · cases hc
theorem chunks_eq (E : ET) : ∀ (n : Nat) (vs : List V) (l : List (den E)), chunks E n vs = some l → vs = (flat E l).map Sc.toV ∧ l.length = n
  | 0, [], l, h => by simp [chunks] at h; subst h; simp [flat]
  | 0, _ :: _, l, h => by simp [chunks] at h
  | n + 1, vs, l, h => by
    simp only [chunks] at h
    split at h
    · rename_i c hc
      split at h
      · rename_i ss hss
        split at h
        · rename_i x r hx hr
          cases h
          obtain ⟨h1, h2⟩ := chunks_eq E n _ r hr
          obtain ⟨h3, h4⟩ := takeN_eq _ _ _ hc
          have h5 := scs_eq _ _ hss
          have h6 := enc_dec E _ _ hx
          refine ⟨?_, by simp [h2]⟩
          rw [← List.take_append_drop E.length vs, h1, ← h3, h5, ← h6]
          simp [flat]
        · cases h
      · cases h
    · cases h
theorem toV_val {n : Nat} {ss : List Sc} {c : Array Value} (h : RL ρ n (ss.map Sc.toV) c.toList) : c.toList = ss.map Sc.val := RL_toV h
theorem sliceElem_eq {t e : TypeId} (h : sliceElem P t = some e) : P.underlying t = some (.slice e) := by
  unfold sliceElem at h
  split at h
  · rename_i e' hu
    cases h
    exact hu
  · cases h
theorem good_bsl {t : Nat} {E : ET} {len : Nat} {z : List V} {ps : List (Nat × Nat × AO)} (hs : RelS N B ρ s a w) (hd : ∀ e, o.dst = some e → e < N) (hc : chkOp P o.op (.bsl t E len z ps) = true) (h : (opF s (.bsl t E len z ps)).run s o.dst K) : Good P N B ρ s a w K o := by
  simp only [chkOp] at hc
  split at hc
  · rename_i t' len' parts ho
    simp only [Bool.and_eq_true, decide_eq_true_eq] at hc
    obtain ⟨⟨⟨⟨⟨ht, hE⟩, rfl⟩, hbig⟩, hpt⟩, hz⟩ := hc
    unfold elemOk at hE
    simp only [Bool.and_eq_true, decide_eq_true_eq] at hE
    obtain ⟨hsz, hpos⟩ := hE
    have hu := sliceElem_eq ht
    simp only [opF] at h
    split at h
    · rename_i cs hcs
      split at h
      · rename_i l hl
        obtain ⟨h1, h2⟩ := chunks_eq E _ _ _ hl
        split at hz
        · rename_i it hit
          have hits : it.size = E.length := by unfold szOf at hsz; simpa [hit] using hsz
          split at hz
          · rename_i zv hzv
            obtain ⟨cells', h3, h4, _⟩ := fill_ok (place := fun i => some (i * it.size, it.size)) (t := t') (fun i x hx => by
                unfold placeOf at hx
                rw [hu] at hx
                simp only [hit] at hx
                exact hx) hs parts.toList ps z cs ((Array.range (len' * E.length)).map (zv.cells[· % zv.cells.size]!)) hpt hcs (cstL_RL hz)
            rw [h1] at h4
            have h5 := toV_val h4
            have hlm : l.length ≤ maxLen := by
              have : l.length * 1 ≤ len' * E.length := by rw [h2]; exact Nat.mul_le_mul_left _ hpos
              simp only [maxLen]
              omega
            refine ⟨_, _, .inl ?_, fin_own hs (t := t) h5 hlm hd h.2⟩
            have hn1 : ¬ (2 ^ 24 < len' * it.size) := by rw [hits]; omega
            have hmap : ((parts.map fun (p : Nat × Operand) => (p.1, a.eval p.2)).toList) = parts.toList.map fun p => (p.1, a.eval p.2) := by simp
            by_cases h0 : len' * it.size = 0
            · have hl0 : len' = 0 := by
                rcases Nat.mul_eq_zero.1 h0 with h | h
                · exact h
                · omega
              subst hl0
              simp [Array.range_zero'] at h3
              simp [execOp, ho, Instr.buildSlice, run_underlying hu, sizeOf, typeInfo, hit, newRow, h2, Array.range_zero', h3]
            · rw [← hits] at h3
              simp [execOp, ho, Instr.buildSlice, run_underlying hu, sizeOf, typeInfo, hit, newRow, h2, h0, hn1, zeroValue, hzv, h3]
          · cases hz
        · cases hz
      · exact h.elim
    · exact h.elim
  · cases hc
theorem flat_replicate (E : ET) (m : Nat) (x : den E) (hE : 0 < E.length) (z : Array Value) (hz : z.toList = (enc E x).map Sc.val) : (madeCells z (m * E.length)).toList = (flat E (List.replicate m x)).map Sc.val := by
  have hzs : z.size = E.length := by rw [← Array.length_toList, hz, List.length_map, enc_length]
  apply List.ext_getElem?
  intro j
  by_cases hj : j < m * E.length
  · have hdiv : j / E.length < m := by rw [Nat.div_lt_iff_lt_mul hE]; exact hj
    have hmod := Nat.mod_lt j hE
    have e1 := flat_get E (List.replicate m x) (j / E.length) (j % E.length) hmod (by simpa using hdiv)
    have e2 : j / E.length * E.length + j % E.length = j := by rw [Nat.mul_comm]; exact Nat.div_add_mod j E.length
    rw [e2] at e1
    rw [List.getElem?_map, e1]
    have e3 : (List.replicate m x).getD (j / E.length) (dflt E) = x := by simp [List.getD, hdiv]
    rw [e3, ← List.getElem?_map, ← hz]
    have hlt : j % E.length < z.size := by omega
    simp [madeCells, hj, hzs, hlt, Array.getElem!_eq_getD, Array.getD]
    rw [dif_pos hmod]
    simp [hlt]
  · rw [List.getElem?_eq_none (by simpa [madeCells] using hj), List.getElem?_eq_none]
    rw [List.length_map, flat_length]
    simp
    omega
theorem good_msl {t : Nat} {E : ET} {bytes : Nat} {z : den E} {x c : AO} (hs : RelS N B ρ s a w) (hd : ∀ e, o.dst = some e → e < N) (hc : chkOp P o.op (.msl t E bytes z x c) = true) (h : (opF s (.msl t E bytes z x c)).run s o.dst K) : Good P N B ρ s a w K o := by
  simp only [chkOp] at hc
  split at hc
  · rename_i t' x' c' ho
    simp only [Bool.and_eq_true, decide_eq_true_eq] at hc
    obtain ⟨⟨⟨⟨ht, hE⟩, hx⟩, hcc⟩, hz⟩ := hc
    unfold elemOk at hE
    simp only [Bool.and_eq_true, decide_eq_true_eq] at hE
    obtain ⟨hsz, hpos⟩ := hE
    have hu := sliceElem_eq ht
    have h1 := opd_R hs hx
    have h2 := opd_R hs hcc
    simp only [opF] at h
    split at h
    · rename_i p q hp hq
      rw [hp] at h1
      rw [hq] at h2
      simp only [R] at h1 h2
      obtain ⟨⟨rfl, h0, hb⟩, hK⟩ := h
      split at hz
      · rename_i it hit
        simp only [Bool.and_eq_true, decide_eq_true_eq] at hz
        obtain ⟨⟨hby, hbp⟩, hz⟩ := hz
        have hits : it.size = E.length := by unfold szOf at hsz; simpa [hit] using hsz
        split at hz
        · rename_i zv hzv
          have hcv := toV_val (cstL_RL (ρ := ρ) (n := 0) hz)
          have hple : p ≤ 140737488355328 := by
            have : p * 1 ≤ p * (bytes : Int) := Int.mul_le_mul_of_nonneg_left (by omega) h0
            omega
          have hr := run_make (P := P) w t' t it zv hu hit hzv .i64 .i64 p p h0 (Int.le_refl _) (by rw [hby, Int.mul_comm]; omega) (by omega)
          have hlm : (List.replicate p.toNat z).length ≤ maxLen := by simp only [List.length_replicate, maxLen]; omega
          have hfl := flat_replicate E p.toNat z hpos zv.cells hcv
          rw [hits] at hr
          have hf := fin_own hs (t := t) hfl hlm hd hK
          rw [List.length_replicate] at hf
          refine ⟨_, _, .inl ?_, hf⟩
          simp [execOp, ho, h1, h2, hr]
        · cases hz
      · cases hz
    · exact h.elim
  · cases hc
theorem sbase_R {v : V} {x : Value} {z id l n : Nat} (hr : Rel B ρ s.nx s.hp w) (hv : R ρ s.nx v x) (h : sbase s.hp v z = some (id, l, n)) :
    id < s.nx ∧ ∃ ad cap, x = .slice ad n cap ∧ n ≤ cap ∧ (0 < n → ad = some ⟨(ρ id).blk, (ρ id).off + l * z, none⟩) := by
  unfold sbase at h
  split at h
  · rename_i id'
    simp only [R] at hv
    have hob := hr.obj id' hv.1
    split at h
    · rename_i E m ho
      rw [ho] at hob
      split at h
      · simp only [Option.some.injEq, Prod.mk.injEq] at h
        obtain ⟨rfl, rfl, rfl⟩ := h
        obtain ⟨_, h1, h2, h3, _⟩ := hob
        exact ⟨hv.1, _, _, by rw [hv.2, Bnd.sv, h1], h2, fun hp => by simpa using h3 hp⟩
      · cases h
    · rename_i t E m ho
      rw [ho] at hob
      split at h
      · simp only [Option.some.injEq, Prod.mk.injEq] at h
        obtain ⟨rfl, rfl, rfl⟩ := h
        obtain ⟨h1, h2, h3, h4⟩ := hob
        rcases h2.2 with ⟨hn, h0⟩ | ⟨g, cap, cur, hsv, _, _, hnc, _⟩
        · exact ⟨hv.1, none, 0, by rw [hv.2, hn, h0], by omega, fun hp => by omega⟩
        · have hgb := h4 g (by rw [hsv]; rfl)
          exact ⟨hv.1, _, cap, by rw [hv.2, hsv], hnc, fun _ => by rw [hgb, h3]; simp⟩
      · cases h
    · cases h
  · rename_i id' l' n' s'
    split at h
    · rename_i hz
      simp only [decide_eq_true_eq] at hz
      simp only [Option.some.injEq, Prod.mk.injEq] at h
      obtain ⟨rfl, rfl, rfl⟩ := h
      subst hz
      simp only [R] at hv
      exact hv
    · cases h
  · cases h
theorem good_slc {x : AO} {lo hi : Option AO} {z : Nat} (hs : RelS N B ρ s a w) (hd : ∀ e, o.dst = some e → e < N) (hc : chkOp P o.op (.slc x lo hi z) = true) (h : (opF s (.slc x lo hi z)).run s o.dst K) : Good P N B ρ s a w K o := by
  simp only [chkOp] at hc
  split at hc
  · rename_i t x' lo' hi' ho
    simp only [Bool.and_eq_true] at hc
    obtain ⟨⟨⟨hx, hlo⟩, hhi⟩, ht⟩ := hc
    split at ht
    · rename_i e hu
      simp only [decide_eq_true_eq] at ht
      unfold szOf at ht
      simp only [Option.map_eq_some_iff] at ht
      obtain ⟨ie, hie, hiz⟩ := ht
      have hel : P.elem t = e := by simp [Program.elem, hu]
      have hu' : P.underlying t = some (.slice (P.elem t)) := by rw [hel]; exact hu
      have hsz : (sizeOf (P.elem t)).run P w = .ok z w := by rw [hel]; simp [sizeOf, typeInfo, hie, hiz]
      simp only [opF, sliceF] at h
      split at h
      · exact h.elim
      · rename_i id l n hb
        obtain ⟨hid, ad, cap, he, hnc, had⟩ := sbase_R hs.rel (opd_R hs hx) hb
        -- the new slice, from p on, q long
        have fin : ∀ (p q : Nat), p + q ≤ n → R ρ s.nx (.sl id (l + p) q z) (sliced ad p (p + q) cap z) := by
          intro p q hpq
          simp only [R]
          refine ⟨hid, (if cap = p then ad else ad.map (·.add (p * z))), cap - p, by unfold sliced; rw [Nat.add_sub_cancel_left], by omega, fun hq => ?_⟩
          rw [if_neg (by omega), had (by omega)]
          simp [add_lit, Nat.add_mul, Nat.add_assoc]
        split at h
        · rename_i lo1 hi1 k b hl1 hh1
          obtain ⟨⟨h0, hle⟩, hK⟩ := h
          have e1 : lo = none := by cases lo <;> simp_all
          subst e1
          cases lo' with
          | some _ => simp [optOpd] at hlo
          | none =>
            cases hi with
            | none => simp at hh1
            | some hi =>
              cases hi' with
              | none => simp [optOpd] at hhi
              | some hi' =>
                simp only [optOpd] at hhi
                have h2 := opd_R hs hhi
                simp only [Option.map_some, Option.some.injEq] at hh1
                rw [hh1] at h2
                simp only [R] at h2
                have hf := fin 0 b.toNat (by omega)
                simp only [Nat.add_zero, Nat.zero_add] at hf
                refine good_val hs hd hf ?_ hK
                simp [execOp, ho, he, h2, run_sliceAt_slice w t _ _ _ _ hu', run_slice_h w t ad n cap hu' k b h0 (by omega), hsz]
        · rename_i lo1 hi1 k p hl1 hh1
          obtain ⟨⟨h0, hle⟩, hK⟩ := h
          have e1 : hi = none := by cases hi <;> simp_all
          subst e1
          cases hi' with
          | some _ => simp [optOpd] at hhi
          | none =>
            cases lo with
            | none => simp at hl1
            | some lo =>
              cases lo' with
              | none => simp [optOpd] at hlo
              | some lo' =>
                simp only [optOpd] at hlo
                have h2 := opd_R hs hlo
                simp only [Option.map_some, Option.some.injEq] at hl1
                rw [hl1] at h2
                simp only [R] at h2
                have hf := fin p.toNat (n - p.toNat) (by omega)
                rw [show p.toNat + (n - p.toNat) = n by omega] at hf
                refine good_val hs hd hf ?_ hK
                simp [execOp, ho, he, h2, run_sliceAt_slice w t _ _ _ _ hu', run_slice_l w t ad n cap hu' k p h0 hle, hsz]
        · rename_i lo1 hi1 k p k' q hl1 hh1
          obtain ⟨⟨h0, h1, hle⟩, hK⟩ := h
          cases lo with
          | none => simp at hl1
          | some lo =>
            cases lo' with
            | none => simp [optOpd] at hlo
            | some lo' =>
              cases hi with
              | none => simp at hh1
              | some hi =>
                cases hi' with
                | none => simp [optOpd] at hhi
                | some hi' =>
                  simp only [optOpd] at hlo hhi
                  have h2 := opd_R hs hlo
                  have h3 := opd_R hs hhi
                  simp only [Option.map_some, Option.some.injEq] at hl1 hh1
                  rw [hl1] at h2
                  rw [hh1] at h3
                  simp only [R] at h2 h3
                  have hf := fin p.toNat (q.toNat - p.toNat) (by omega)
                  rw [show p.toNat + (q.toNat - p.toNat) = q.toNat by omega] at hf
                  refine good_val hs hd hf ?_ hK
                  simp [execOp, ho, he, h2, h3, run_sliceAt_slice w t _ _ _ _ hu', run_slice_lh w t ad n cap hu' k k' p q h0 h1 (by omega), hsz]
        · exact h.elim
    · cases ht
  · cases hc
end
end Go.Proofs.YtbolfnkgbjkbjaaGreat.AM
end
section
set_option linter.unusedVariables false
set_option linter.unusedSimpArgs false
namespace Go.Proofs.YtbolfnkgbjkbjaaGreat.AM
open Go Go.RowKit
section
variable {P : Program} {N B : Nat} {ρ : Nat → Bnd} {s : S} {a : Act} {w : World} {K : S → Prop} {o : Oper}
theorem flat_drop (E : ET) : ∀ (l : List (den E)) (k : Nat), flat E (l.drop k) = (flat E l).drop (k * E.length)
  | l, 0 => by simp
  | [], k + 1 => by simp [flat]
  | x :: l, k + 1 => by
    simp only [List.drop_succ_cons]
    rw [flat_drop E l k]
    simp only [flat, List.flatMap_cons]
    rw [show (k + 1) * E.length = (enc E x).length + k * E.length by rw [enc_length, Nat.add_mul]; omega, List.drop_length_add_append]
theorem flat_take (E : ET) : ∀ (l : List (den E)) (k : Nat), flat E (l.take k) = (flat E l).take (k * E.length)
  | l, 0 => by simp [flat]
  | [], k + 1 => by simp [flat]
  | x :: l, k + 1 => by
    simp only [List.take_succ_cons]
    have ih := flat_take E l k
    simp only [flat, List.flatMap_cons] at ih ⊢
    rw [ih, show (k + 1) * E.length = (enc E x).length + k * E.length by rw [enc_length, Nat.add_mul]; omega, List.take_length_add_append]
theorem lst_R {E : ET} {v : V} {y : Value} {c : Prop} {m : List (den E)} (hr : Rel B ρ s.nx s.hp w) (hv : R ρ s.nx v y) (h : lst E s.hp v = some (c, m)) (hc : c) :
    ∃ ad cap, y = .slice ad m.length cap ∧ m.length ≤ cap ∧ (ad = none → m.length = 0) ∧ ∀ A, ad = some A → ∀ j u, ((flat E m).map Sc.val)[j]? = some u → w.cell? (A.add j) = some u := by
  have whole : ∀ (id : Nat) (E' : ET) (l : List (den E')), id < s.nx → (s.hp id = .ro E' l ∨ ∃ t, s.hp id = .own t E' l) →
      ∃ ad cap, (ρ id).sv = .slice ad l.length cap ∧ l.length ≤ cap ∧ (0 < l.length → ad = some ⟨(ρ id).blk, (ρ id).off, none⟩) ∧ (0 < l.length → ∀ j u, ((flat E' l).map Sc.val)[j]? = some u → w.cell? ⟨(ρ id).blk, (ρ id).off + j, none⟩ = some u) := by
    intro id E' l hid ho
    have hob := hr.obj id hid
    rcases ho with ho | ⟨t, ho⟩
    · rw [ho] at hob
      obtain ⟨_, h1, h2, h3, h4⟩ := hob
      refine ⟨_, _, by rw [Bnd.sv, h1], h2, h3, fun _ j u hu => ?_⟩
      rw [List.getElem?_map, Option.map_eq_some_iff] at hu
      obtain ⟨q, hq, rfl⟩ := hu
      exact h4 j q hq
    · rw [ho] at hob
      obtain ⟨h1, h2, h3, h4⟩ := hob
      rcases h2.2 with ⟨hn, h0⟩ | ⟨g, cap, cur, hsv, _, _, hnc, _⟩
      · exact ⟨none, 0, by rw [hn, h0], by omega, fun hp => by omega, fun hp => by omega⟩
      · have hg : (ρ id).sv.ownBlock = some g := by rw [hsv]; rfl
        have hgb := h4 g hg
        refine ⟨_, cap, hsv, hnc, fun _ => by rw [hgb, h3], fun _ j u hu => ?_⟩
        have := h2.cells hg j u hu
        rw [add_lit] at this
        rw [hgb, h3]
        exact this
  unfold lst at h
  split at h
  · simp only [Option.some.injEq, Prod.mk.injEq] at h
    obtain ⟨_, rfl⟩ := h
    simp only [R] at hv
    exact ⟨none, 0, hv, Nat.le_refl _, fun _ => rfl, fun A hA => by cases hA⟩
  · rename_i id
    simp only [R] at hv
    have fin : ∀ (l : List (den E)), (s.hp id = .ro E l ∨ ∃ t, s.hp id = .own t E l) → ∃ ad cap, y = .slice ad l.length cap ∧ l.length ≤ cap ∧ (ad = none → l.length = 0) ∧ ∀ A, ad = some A → ∀ j u, ((flat E l).map Sc.val)[j]? = some u → w.cell? (A.add j) = some u := by
      intro l ho
      obtain ⟨ad, cap, h1, h2, h3, h4⟩ := whole id E l hv.1 ho
      refine ⟨ad, cap, by rw [hv.2, h1], h2, fun hn => ?_, fun A hA j u hu => ?_⟩
      · rcases Nat.eq_zero_or_pos l.length with h | h
        · exact h
        · rw [h3 h] at hn
          cases hn
      · have hp : 0 < l.length := by
          rcases Nat.eq_zero_or_pos l.length with h | h
          · rw [List.eq_nil_of_length_eq_zero h] at hu
            simp [flat] at hu
          · exact h
        have := h3 hp
        rw [hA] at this
        cases this
        rw [add_lit]
        exact h4 hp j u hu
    split at h
    · rename_i E' l ho
      split at h
      · rename_i e
        subst e
        simp only [Option.some.injEq, Prod.mk.injEq] at h
        obtain ⟨_, rfl⟩ := h
        exact fin l (.inl ho)
      · cases h
    · rename_i t E' l ho
      split at h
      · rename_i e
        subst e
        simp only [Option.some.injEq, Prod.mk.injEq] at h
        obtain ⟨_, rfl⟩ := h
        exact fin l (.inr ⟨t, ho⟩)
      · cases h
    · cases h
  · rename_i id lo len z
    simp only [R] at hv
    obtain ⟨hid, ad, cap, he, hlc, had⟩ := hv
    have fin : ∀ (l : List (den E)), (s.hp id = .ro E l ∨ ∃ t, s.hp id = .own t E l) → z = E.length → lo + len ≤ l.length →
        ∃ ad cap, y = .slice ad ((l.drop lo).take len).length cap ∧ ((l.drop lo).take len).length ≤ cap ∧ (ad = none → ((l.drop lo).take len).length = 0) ∧ ∀ A, ad = some A → ∀ j u, ((flat E ((l.drop lo).take len)).map Sc.val)[j]? = some u → w.cell? (A.add j) = some u := by
      intro l ho hz hle
      have hl : ((l.drop lo).take len).length = len := by simp; omega
      obtain ⟨_, _, _, _, _, h4⟩ := whole id E l hid ho
      rw [hl]
      refine ⟨ad, cap, he, hlc, fun hn => ?_, fun A hA j u hu => ?_⟩
      · rcases Nat.eq_zero_or_pos len with h | h
        · exact h
        · rw [had h] at hn
          cases hn
      · rcases Nat.eq_zero_or_pos len with h0 | h0
        · subst h0
          simp [flat] at hu
        · have := had h0
          rw [hA] at this
          cases this
          rw [flat_take, flat_drop, List.map_take, List.map_drop, List.getElem?_take] at hu
          split at hu
          · rw [List.getElem?_drop] at hu
            rw [add_lit, Nat.add_assoc, hz]
            exact h4 (by omega) _ u hu
          · cases hu
    split at h
    · rename_i E' l ho
      split at h
      · rename_i e
        subst e
        split at h
        · rename_i hz
          simp only [decide_eq_true_eq] at hz
          simp only [Option.some.injEq, Prod.mk.injEq] at h
          obtain ⟨rfl, rfl⟩ := h
          exact fin l (.inl ho) hz hc
        · cases h
      · cases h
    · rename_i t E' l ho
      split at h
      · rename_i e
        subst e
        split at h
        · rename_i hz
          simp only [decide_eq_true_eq] at hz
          simp only [Option.some.injEq, Prod.mk.injEq] at h
          obtain ⟨rfl, rfl⟩ := h
          exact fin l (.inr ⟨t, ho⟩) hz hc
        · cases h
      · cases h
    · cases h
  · cases h
def kill (h : Nat → Ob) : Option Nat → Nat → Ob
  | some id => upd h id .no
  | none => h
/-- What is appended to is given up; a new object stands for what is there then. -/
theorem Rel.moved {n : Nat} {h : Nat → Ob} {w' : World} (hr : Rel B ρ n h w) {old : Option Nat} {row : Option Nat} (hold : ∀ id, old = some id → id < n) (hrow : ∀ g, row = some g → ∃ id, old = some id ∧ wblk (ρ id) (h id) = some g)
    (hg : w.grownBy w' row) {b : Bnd} {o : Ob} (hb : HR (upd ρ n b) (n + 1) B w' b o) (hf : ∀ g, ablk b o = some g → row = some g ∨ g = w.heap.size) :
    Rel B (upd ρ n b) (n + 1) (upd (kill h old) n o) w' := by
  have hlt : ∀ i, i < n → ∀ g, ablk (ρ i) (h i) = some g → g < w.heap.size := fun i hi g hg => (hr.obj i hi).lt g hg
  have hh : ∀ i, i < n → (kill h old) i = h i ∨ (old = some i ∧ (kill h old) i = .no) := by
    intro i hi
    cases old with
    | none => exact .inl rfl
    | some id =>
      by_cases e : i = id
      · subst e
        exact .inr ⟨rfl, upd_same _ _ _⟩
      · exact .inl (upd_ne _ _ _ e)
  -- an object that is left does not lie in the row
  have hnr : ∀ i, i < n → old ≠ some i → ∀ g, ablk (ρ i) (h i) = some g → some g ≠ row := by
    intro i hi hne g hga e
    obtain ⟨id, ho, hwb⟩ := hrow g e.symm
    have : id ≠ i := fun e => hne (by rw [ho, e])
    exact hr.sep id i (hold id ho) hi this g hwb hga
  refine ⟨Nat.le_trans hr.base hg.size, fun i hi => ?_, fun i j hi hj hij g hgi => ?_⟩
  · by_cases e : i = n
    · subst e
      rw [upd_same, upd_same]
      exact hb
    · rw [upd_ne _ _ _ e, upd_ne _ _ _ e]
      rcases hh i (by omega) with h1 | ⟨h1, h2⟩
      · by_cases ho : old = some i
        · subst ho
          simp only [kill, upd_same]
          trivial
        · rw [h1]
          exact (hr.obj i (by omega)).keep (Nat.le_succ n) (agree_upd ρ n b) fun g hga => hg.block g (hlt i (by omega) g hga) (hnr i (by omega) ho g hga)
      · rw [h2]
        trivial
  · have left : ∀ k, k < n → ∀ g, ablk (upd ρ n b k) (upd (kill h old) n o k) = some g → old ≠ some k ∧ ablk (ρ k) (h k) = some g := by
      intro k hk g hgk
      rw [upd_ne _ _ _ (by omega), upd_ne _ _ _ (by omega)] at hgk
      rcases hh k hk with h1 | ⟨h1, h2⟩
      · by_cases ho : old = some k
        · subst ho
          simp only [kill, upd_same] at hgk
          cases hgk
        · rw [h1] at hgk
          exact ⟨ho, hgk⟩
      · rw [h2] at hgk
        cases hgk
    intro hgj
    by_cases ei : i = n
    · subst ei
      have hwi := wblk_ablk hgi
      rw [upd_same, upd_same] at hwi
      obtain ⟨hne, hga⟩ := left j (by omega) g hgj
      rcases hf g hwi with h1 | h1
      · exact hnr j (by omega) hne g hga h1.symm
      · have := hlt j (by omega) g hga
        omega
    · obtain ⟨hne, hga⟩ := left i (by omega) g (wblk_ablk hgi)
      by_cases ej : j = n
      · subst ej
        rw [upd_same, upd_same] at hgj
        rcases hf g hgj with h1 | h1
        · exact hnr i (by omega) hne g hga h1.symm
        · have := hlt i (by omega) g hga
          omega
      · obtain ⟨hne', hga'⟩ := left j (by omega) g hgj
        have hwi : wblk (ρ i) (h i) = some g := by
          rw [upd_ne _ _ _ ei, upd_ne _ _ _ ei] at hgi
          rcases hh i (by omega) with h1 | ⟨h1, h2⟩
          · rw [h1] at hgi
            exact hgi
          · exact absurd h1 hne
        exact hr.sep i j (by omega) (by omega) hij g hwi hga'
theorem sv_of {v : Value} {B' : Nat} {e : TypeId} {size n : Nat} {xs : List Value} (h : w.ownsRow B' e size v n xs) : ∃ b : Bnd, b.sv = v ∧ b.len = n ∧ b.off = 0 ∧ (∀ g, v.ownBlock = some g → b.blk = g) := by
  rcases h.2 with ⟨rfl, rfl⟩ | ⟨g, cap, cur, rfl, _⟩
  · exact ⟨⟨0, 0, none, 0, 0⟩, rfl, rfl, rfl, fun g hg => by simp [Value.ownBlock] at hg⟩
  · exact ⟨⟨g, 0, some ⟨g, 0, none⟩, n, cap⟩, rfl, rfl, rfl, fun k hk => by simpa [Value.ownBlock] using hk⟩
theorem run_append_none {t ty e : TypeId} {i : TypeInfo} (ht : P.underlying t = some (.slice e)) (hi : P.info? e = some i) {v : Value} {n size c : Nat} {xs : List Value} (hown : w.ownsRow B e size v n xs) :
    (Builtin.append_ #[t, t] ty #[v, .slice none 0 c]).run P w = .ok v w := by
  rcases hown.2 with ⟨rfl, rfl⟩ | ⟨g, cap, cur, rfl, _, _, hnc, _⟩
  · simp [Builtin.append_, run_underlying ht, sizeOf, typeInfo, hi, Builtin.lenOf, Builtin.firstCells]
  · simp [Builtin.append_, run_underlying ht, sizeOf, typeInfo, hi, Builtin.lenOf, Builtin.firstCells, hnc, storeCells]
/-- Append: the slice's value, and what is appended, are known. -/
theorem append_core (hs : RelS N B ρ s a w) {t ty e : TypeId} {i : TypeInfo} {z : Value} {E : ET} (ht : P.underlying t = some (.slice e)) (hi : P.info? e = some i) (hz : i.zero = some z)
    (hsize : i.size = E.length) (hzs : z.cells.size = E.length) (hsz : 0 < E.length) (hbp : 0 < i.bytes) {x y : Value} {l m : List (den E)} (hown : w.ownsRow B e E.length x l.length ((flat E l).map Sc.val))
    {ad : Option Addr} {cap : Nat} (hy : y = .slice ad m.length cap) (hn0 : ad = none → m.length = 0) (hcell : ∀ A, ad = some A → ∀ j u, ((flat E m).map Sc.val)[j]? = some u → w.cell? (A.add j) = some u)
    (hb : (l.length + m.length) * i.bytes ≤ 140737488355328) {old : Option Nat} (hold : ∀ id, old = some id → id < s.nx) (hrow : ∀ g, x.ownBlock = some g → ∃ id, old = some id ∧ wblk (ρ id) (s.hp id) = some g)
    {d : Option Nat} (hd : ∀ e, d = some e → e < N) (hK : K (S.put ⟨s.sl, upd (kill s.hp old) s.nx (.own e E (l ++ m)), s.nx + 1⟩ d (.osl s.nx))) :
    ∃ x' w', (Builtin.append_ #[t, t] ty #[x, y]).run P w = .ok x' w' ∧ After N B ρ s w K (a.put d x') w' := by
  have hlm : l.length + m.length ≤ 140737488355328 := by
    have : (l.length + m.length) * 1 ≤ (l.length + m.length) * i.bytes := Nat.mul_le_mul_left _ hbp
    omega
  have fin : ∀ (x' : Value) (w' : World), w'.ownsRow B e E.length x' (l.length + m.length) (((flat E l).map Sc.val) ++ ((flat E m).map Sc.val)) → w.grownBy w' x.ownBlock → (x'.ownBlock = x.ownBlock ∨ x'.ownBlock = some w.heap.size) →
      After N B ρ s w K (a.put d x') w' := by
    intro x' w' h1 h2 h3
    obtain ⟨b, hb1, hb2, hb3, hb4⟩ := sv_of h1
    have hob : HR (upd ρ s.nx b) (s.nx + 1) B w' b (.own e E (l ++ m)) := by
      refine ⟨by rw [hb2, List.length_append], ?_, hb3, fun g hg => hb4 g (by rw [← hb1]; exact hg)⟩
      rw [hb1, List.length_append, flat_append, List.map_append]
      exact h1
    have hr := hs.rel.moved (old := old) (row := x.ownBlock) hold hrow h2 (b := b) (o := .own e E (l ++ m)) hob (fun g hg => by
      simp only [ablk] at hg
      rw [hb1] at hg
      rcases h3 with h3 | h3
      · exact .inl (by rw [← h3]; exact hg)
      · rw [h3] at hg
        exact .inr (by simpa using hg.symm))
    refine ⟨upd ρ s.nx b, _, hK, hs.put (Nat.le_succ _) (agree_upd _ _ _) hr ?_ hd, agree_upd _ _ _, by rw [S.put_nx]; exact Nat.le_succ _, (Below.refl _ _).grown h2 hs.rel.base fun g hg => ?_⟩
    · simp only [R, upd_same]
      exact ⟨by omega, hb1.symm⟩
    · exact (hown.lt g hg).1
  cases ad with
  | none =>
    have hm0 := hn0 rfl
    have hm : m = [] := List.eq_nil_of_length_eq_zero hm0
    subst hm
    refine ⟨x, w, by rw [hy]; exact run_append_none ht hi hown, fin x w ?_ ⟨rfl, rfl, rfl, Nat.le_refl _, fun _ _ _ => rfl⟩ (.inl rfl)⟩
    simpa [flat] using hown
  | some A =>
    obtain ⟨x', w', hr, h1, h2, _, h3⟩ := run_append_own_at (P := P) w B t ty e i z E.length i.bytes ht hi hz hsize rfl hzs hsz x l.length _ hown A m.length cap ((flat E m).map Sc.val) (by rw [List.length_map, flat_length])
      (hcell A rfl) (fun u hu => by obtain ⟨q, _, rfl⟩ := List.mem_map.1 hu; exact q.val_one) (by simp only [maxLen]; omega) hb hs.rel.base
    exact ⟨x', w', by rw [hy]; exact hr, fin x' w' h1 h2 h3⟩
theorem good_app {t : Nat} {E : ET} {bytes : Nat} {x y : AO} (hs : RelS N B ρ s a w) (hd : ∀ e, o.dst = some e → e < N) (hc : chkOp P o.op (.app t E bytes x y) = true) (h : (opF s (.app t E bytes x y)).run s o.dst K) : Good P N B ρ s a w K o := by
  simp only [chkOp] at hc
  split at hc
  · rename_i c ho
    obtain ⟨callee, args, argTypes⟩ := c
    simp only [] at hc
    split at hc
    · rename_i x' y' t1 t2 h2 h3
      simp only [Bool.and_eq_true, decide_eq_true_eq] at hc
      obtain ⟨⟨⟨⟨⟨hx, hy⟩, rfl⟩, ht⟩, hE⟩, hz⟩ := hc
      unfold elemOk at hE
      simp only [Bool.and_eq_true, decide_eq_true_eq] at hE
      obtain ⟨hsz, hpos⟩ := hE
      have hu := sliceElem_eq ht
      split at hz
      · rename_i it hit
        simp only [Bool.and_eq_true, decide_eq_true_eq] at hz
        obtain ⟨⟨rfl, hbp⟩, hz⟩ := hz
        have hits : it.size = E.length := by unfold szOf at hsz; simpa [hit] using hsz
        split at hz
        · rename_i zv hzv
          simp only [decide_eq_true_eq] at hz
          obtain rfl : args = #[x', y'] := by cases args; simp at h2; subst h2; rfl
          obtain rfl : argTypes = #[t1, t1] := by cases argTypes; simp at h3; subst h3; rfl
          have close : (∃ v w', (Builtin.append_ #[t1, t1] o.type #[a.eval x', a.eval y']).run P w = .ok v w' ∧ After N B ρ s w K (a.put o.dst v) w') → Good P N B ρ s a w K o := by
            rintro ⟨v, w', hrun, haf⟩
            refine ⟨v, w', .inl ?_, haf⟩
            simp [execOp, ho, resolve, invoke, builtin, hrun]
          simp only [opF, appF] at h
          split at h
          · exact h.elim
          · rename_i c m hl
            split at h
            · rename_i hxv
              obtain ⟨⟨hc, hb⟩, hK⟩ := h
              obtain ⟨ad, cap, e1, e2, e3, e4⟩ := lst_R hs.rel (opd_R hs hy) hl hc
              have h1 := opd_R hs hx
              rw [hxv] at h1
              simp only [R] at h1
              refine close (append_core hs hu hit hzv hits hz hpos hbp (l := []) (m := m) (x := a.eval x') (by rw [h1]; exact World.ownsRow_nil _ _ _ _) e1 e3 e4 (by simpa using hb) (old := none) (fun id h => by cases h) (fun g hg => by rw [h1] at hg; simp [Value.ownBlock] at hg) hd ?_)
              exact hK
            · rename_i id hxv
              split at h
              · rename_i t' E' l ho'
                split at h
                · rename_i e
                  subst e
                  split at h
                  · rename_i htt
                    simp only [decide_eq_true_eq] at htt
                    subst htt
                    obtain ⟨⟨hc, hb⟩, hK⟩ := h
                    obtain ⟨ad, cap, e1, e2, e3, e4⟩ := lst_R hs.rel (opd_R hs hy) hl hc
                    have h1 := opd_R hs hx
                    rw [hxv] at h1
                    simp only [R] at h1
                    have hob := hs.rel.obj id h1.1
                    rw [ho'] at hob
                    refine close (append_core hs hu hit hzv hits hz hpos hbp (l := l) (m := m) (x := a.eval x') (by rw [h1.2]; exact hob.2.1) e1 e3 e4 hb (old := some id) (fun id' h => by cases h; exact h1.1) (fun g hg => ⟨id, rfl, by rw [ho', wblk]; rw [h1.2] at hg; exact hg⟩) hd ?_)
                    exact hK
                  · exact h.elim
                · exact h.elim
              · exact h.elim
            · exact h.elim
        · cases hz
      · cases hz
    · cases hc
  · cases hc
/-- A slice of our own, shortened in its place. -/
theorem good_slm {x hi : AO} {z : Nat} (hs : RelS N B ρ s a w) (hd : ∀ e, o.dst = some e → e < N) (hc : chkOp P o.op (.slm x hi z) = true) (h : (opF s (.slm x hi z)).run s o.dst K) : Good P N B ρ s a w K o := by
  simp only [chkOp] at hc
  split at hc
  · rename_i t x' hi' ho
    simp only [Bool.and_eq_true] at hc
    obtain ⟨⟨hx, hhi⟩, ht⟩ := hc
    split at ht
    · rename_i e hu
      simp only [decide_eq_true_eq] at ht
      unfold szOf at ht
      simp only [Option.map_eq_some_iff] at ht
      obtain ⟨ie, hie, hiz⟩ := ht
      have hel : P.elem t = e := by simp [Program.elem, hu]
      have hu' : P.underlying t = some (.slice (P.elem t)) := by rw [hel]; exact hu
      have hsz : (sizeOf (P.elem t)).run P w = .ok z w := by rw [hel]; simp [sizeOf, typeInfo, hie, hiz]
      simp only [opF] at h
      split at h
      · rename_i id k b hxv hhv
        split at h
        · rename_i t' E l hob
          split at h
          · rename_i hz
            simp only [decide_eq_true_eq] at hz
            subst hz
            obtain ⟨⟨h0, hle⟩, hK⟩ := h
            have h1 := opd_R hs hx
            rw [hxv] at h1
            simp only [R] at h1
            have h2 := opd_R hs hhi
            rw [hhv] at h2
            simp only [R] at h2
            have hobj := hs.rel.obj id h1.1
            rw [hob] at hobj
            obtain ⟨hlen, hown, hoff, hblk⟩ := hobj
            have he : a.eval x' = .slice (ρ id).a l.length (ρ id).cap := by rw [h1.2, ← hlen]; rfl
            have hcap : l.length ≤ (ρ id).cap := by
              rcases hown.2 with ⟨hv, hn⟩ | ⟨g, cap, cur, hv, _, _, hb3, _⟩
              · omega
              · simp only [Bnd.sv, Value.slice.injEq] at hv
                omega
            have hval : sliced (ρ id).a 0 b.toNat (ρ id).cap E.length = .slice (ρ id).a b.toNat (ρ id).cap := by
              unfold sliced
              simp only [Nat.sub_zero, Value.slice.injEq, and_true]
              split
              · rfl
              · cases (ρ id).a with
                | none => rfl
                | some A => simp [Addr.add]
            have hown' : w.ownsRow B t' E.length (.slice (ρ id).a b.toNat (ρ id).cap) b.toNat ((flat E (l.take b.toNat)).map Sc.val) := by
              refine ⟨by rw [List.length_map, flat_length, List.length_take, Nat.min_eq_left (by omega)], ?_⟩
              rcases hown.2 with ⟨hv, hn⟩ | ⟨g, cap, cur, hv, hb1, hb2, hb3, hb4, hb5, hb6⟩
              · simp only [Bnd.sv, Value.slice.injEq] at hv
                exact .inl ⟨by rw [hv.1, hv.2.2, show b.toNat = 0 by omega], by omega⟩
              · simp only [Bnd.sv, Value.slice.injEq] at hv
                refine .inr ⟨g, cap, cur, by rw [hv.1, hv.2.2], hb1, hb2, by omega, hb4, hb5, ?_⟩
                rw [flat_take, List.map_take, ← hb6, List.take_take, Nat.min_eq_left (Nat.mul_le_mul_right _ (by omega))]
            let b' : Bnd := { ρ id with len := b.toNat }
            have hsv : b'.sv = .slice (ρ id).a b.toNat (ρ id).cap := rfl
            have hblk' : b'.sv.ownBlock = (ρ id).sv.ownBlock := by
              show Value.ownBlock (.slice (ρ id).a b.toNat (ρ id).cap) = Value.ownBlock (.slice (ρ id).a (ρ id).len (ρ id).cap)
              cases (ρ id).a <;> rfl
            have hob' : HR (upd ρ s.nx b') (s.nx + 1) B w b' (.own t' E (l.take b.toNat)) := by
              refine ⟨by rw [List.length_take, Nat.min_eq_left (by omega)], ?_, hoff, fun g hg => ?_⟩
              · rw [hsv, List.length_take, Nat.min_eq_left (by omega)]; exact hown'
              · rw [hblk'] at hg; exact hblk g hg
            have hr := hs.rel.moved (old := some id) (row := (ρ id).sv.ownBlock) (fun i hi => by cases hi; exact h1.1) (fun g hg => ⟨id, rfl, by rw [hob]; exact hg⟩) ⟨rfl, rfl, rfl, Nat.le_refl _, fun _ _ _ => rfl⟩ (b := b') (o := .own t' E (l.take b.toNat)) hob' (fun g hg => .inl (by
              simp only [ablk] at hg
              rw [hblk'] at hg
              exact hg.symm ▸ rfl))
            refine ⟨.slice (ρ id).a b.toNat (ρ id).cap, w, .inl ?_, upd ρ s.nx b', _, hK, hs.put (Nat.le_succ _) (agree_upd _ _ _) hr ?_ hd, agree_upd _ _ _, by rw [S.put_nx]; exact Nat.le_succ _, Below.refl _ _⟩
            · rw [← hval]
              simp [execOp, ho, he, h2, run_sliceAt_slice w t _ _ _ _ hu', run_slice_h w t (ρ id).a l.length (ρ id).cap hu' k b h0 (by omega), hsz]
            · simp only [R, upd_same]
              exact ⟨by omega, rfl⟩
          · exact h.elim
        · exact h.elim
      · exact h.elim
    · cases ht
  · cases hc
end
end Go.Proofs.YtbolfnkgbjkbjaaGreat.AM
end
section
set_option linter.unusedVariables false
set_option linter.unusedSimpArgs false
namespace Go.Proofs.YtbolfnkgbjkbjaaGreat.AM
open Go Go.RowKit
section
variable {P : Program} {N B : Nat} {ρ : Nat → Bnd} {s : S} {a : Act} {w : World} {K : S → Prop} {o : Oper}
theorem eqL_len : ∀ (ks : ET) (xs ys : List V) (b : Bool), eqL ks xs ys = some b → xs.length = ks.length ∧ ys.length = ks.length
  | [], [], [], _, _ => ⟨rfl, rfl⟩
  | k :: ks, x :: xs, y :: ys, b, h => by
    have : ∃ r, eqL ks xs ys = some r := by
      cases k <;> cases x <;> cases y <;> simp only [eqL] at h <;> first | (cases h; done) | skip
      · split at h
        · rename_i r _ hr; exact ⟨r, hr⟩
        · cases h
      · split at h
        · rename_i r hr; exact ⟨r, hr⟩
        · cases h
    obtain ⟨r, hr⟩ := this
    have := eqL_len ks xs ys r hr
    simp [this.1, this.2]
  | [], _ :: _, _, _, h => by simp [eqL] at h
  | [], [], _ :: _, _, h => by simp [eqL] at h
  | _ :: _, [], _, _, h => by simp [eqL] at h
  | _ :: _, _ :: _, [], _, h => by simp [eqL] at h
theorem eqL_split : ∀ (k1 k2 : ET) (cs ds : List V) (b : Bool), eqL (k1 ++ k2) cs ds = some b →
    ∃ b1 b2, eqL k1 (cs.take k1.length) (ds.take k1.length) = some b1 ∧ eqL k2 (cs.drop k1.length) (ds.drop k1.length) = some b2 ∧ b = (b1 && b2)
  | [], k2, cs, ds, b, h => ⟨true, b, rfl, h, by simp⟩
  | k :: k1, k2, [], ds, b, h => by simp [eqL] at h
  | k :: k1, k2, _ :: _, [], b, h => by simp [eqL] at h
  | k :: k1, k2, c :: cs, d :: ds, b, h => by
    simp only [List.cons_append] at h
    have step : ∃ e r, eqL (k1 ++ k2) cs ds = some r ∧ b = (e && r) ∧ ∀ ks xs ys r, eqL ks xs ys = some r → eqL (k :: ks) (c :: xs) (d :: ys) = some (e && r) := by
      cases k <;> cases c <;> cases d <;> simp only [eqL] at h <;> first | (cases h; done) | skip
      · rename_i k k1 a k2 a'
        split at h
        · rename_i r hk hr
          refine ⟨a == a', r, hr, by simpa using h.symm, fun ks xs ys r hr => ?_⟩
          simp only [eqL, hk, hr]
        · cases h
      · rename_i a a'
        split at h
        · rename_i r hr
          refine ⟨a == a', r, hr, by simpa using h.symm, fun ks xs ys r hr => ?_⟩
          simp only [eqL, hr]
        · cases h
    obtain ⟨e, r, hr, rfl, hst⟩ := step
    obtain ⟨b1, b2, e1, e2, rfl⟩ := eqL_split k1 k2 cs ds r hr
    refine ⟨e && b1, b2, ?_, by simpa using e2, by rw [Bool.and_assoc]⟩
    simp only [List.length_cons, List.take_succ_cons]
    exact hst _ _ _ _ e1
def valOf (P : Program) (t : TypeId) (xs : List Value) : Value := match aggOf P t with
  | some true => .agg xs.toArray
  | _ => xs.headD undef
theorem aggOf_struct {t : TypeId} {fs : Array Field} (h : P.underlying t = some (.struct fs)) : aggOf P t = some true := by simp [aggOf, h]
theorem part_val {t : TypeId} {xs : Array Value} {off m : Nat} {w : World} (hsz : szOf P t = some m) (hag : aggOf P t = some true ∨ (aggOf P t = some false ∧ m = 1)) (hle : m = 0 ∨ off + m ≤ xs.size) :
    (part t xs off).run P w = .ok (valOf P t ((xs.toList.drop off).take m)) w := by
  unfold szOf at hsz
  simp only [Option.map_eq_some_iff] at hsz
  obtain ⟨i, hi, hin⟩ := hsz
  rcases hag with hag | ⟨hag, rfl⟩
  · have hagg : (isAgg t).run P w = .ok true w := by
      have h2 := hag
      unfold aggOf at h2
      split at h2
      · rename_i fs hu; simp [isAgg, run_underlying hu]
      · rename_i m e hu; simp [isAgg, run_underlying hu]
      · simp at h2
      · simp at h2
    simp [part, hagg, sizeOf, typeInfo, hi, hin, valOf, hag]
    apply Array.ext'
    simp [Array.toList_extract, List.extract_eq_take_drop]
  · have hagg : (isAgg t).run P w = .ok false w := by
      have h2 := hag
      unfold aggOf at h2
      split at h2
      · simp at h2
      · simp at h2
      · rename_i d h1 h2 hu
        cases d <;> first | (simp [isAgg, run_underlying hu]; done) | exact (h1 _ rfl).elim | exact (h2 _ _ rfl).elim
      · simp at h2
    have hlt : off < xs.size := by omega
    have hd : xs.toList.drop off = xs[off] :: xs.toList.drop (off + 1) := by
      rw [List.drop_eq_getElem_cons (by simpa using hlt)]
      simp
    simp [part, hagg, hlt, valOf, hag, hd]
theorem flat_agg {d : Nat} {t : TypeId} {ks : ET} (h : flatTy P d t = some ks) : aggOf P t = some true ∨ (aggOf P t = some false ∧ ks.length = 1) := by
  cases d with
  | zero => simp [flatTy] at h
  | succ d =>
    simp only [flatTy] at h
    split at h
    · rename_i k hu; cases h; exact .inr ⟨by simp [aggOf, hu], rfl⟩
    · rename_i hu; cases h; exact .inr ⟨by simp [aggOf, hu], rfl⟩
    · rename_i fs hu; exact .inl (aggOf_struct hu)
    · rename_i n e hu; exact .inl (by simp [aggOf, hu])
    · cases h
theorem fields_flat {n d d' : Nat} (ih : ∀ (t : TypeId) (ks : ET), flatTy P d t = some ks → ∀ (cs ds : List V) (xs ys : List Value) (b : Bool) (w : World), RL ρ n cs xs → RL ρ n ds ys → eqL ks cs ds = some b →
      (Op.equalIn d' t (valOf P t xs) (valOf P t ys)).run P w = .ok b w) (cs ds : List V) (xs ys : Array Value) (hx : RL ρ n cs xs.toList) (hy : RL ρ n ds ys.toList) (w : World) :
    ∀ (fs : List Field) (off : Nat) (ks : ET) (b : Bool), flatFs P (flatTy P d) off fs = some ks → eqL ks (cs.drop off) (ds.drop off) = some b → (Op.eqFields d' xs ys fs).run P w = .ok b w
  | [], off, ks, b, h, heq => by
    simp only [flatFs, Option.some.injEq] at h
    subst h
    cases hc : cs.drop off <;> cases hd : ds.drop off <;> rw [hc, hd] at heq <;> simp [eqL] at heq
    subst heq
    simp [Op.eqFields]
  | f :: fs, off, ks, b, h, heq => by
    simp only [flatFs] at h
    split at h
    · rename_i m hm
      split at h
      · rename_i r hr
        split at h
        · rename_i hc
          obtain ⟨hoff, hname, hsz⟩ := hc
          simp only [Option.some.injEq] at h
          subst h
          obtain ⟨b1, b2, e1, e2, rfl⟩ := eqL_split m r _ _ b heq
          have hl := eqL_len _ _ _ _ e1
          simp only [List.length_take, List.length_drop] at hl
          have hxl := hx.length
          have hyl := hy.length
          simp only [Array.length_toList] at hxl hyl
          have hag : aggOf P f.type = some true ∨ (aggOf P f.type = some false ∧ m.length = 1) := flat_agg hm
          have p1 := part_val (P := P) (xs := xs) (off := off) (w := w) hsz hag (by omega)
          have p2 := part_val (P := P) (xs := ys) (off := off) (w := w) hsz hag (by omega)
          have q := ih f.type m hm _ _ _ _ b1 w ((hx.drop off).take m.length) ((hy.drop off).take m.length) e1
          rw [List.drop_drop, List.drop_drop] at e2
          have rest := fields_flat ih cs ds xs ys hx hy w fs (off + m.length) r b2 hr e2
          simp only [Op.eqFields, if_pos hname, Sem.run_bind, hoff, p1, p2, Result.andThen_ok, q]
          cases b1 with
          | true => simpa using rest
          | false => simp
        · cases h
      · cases h
    · cases h
theorem items_flat {n d' : Nat} {e : TypeId} {m : ET} (hsz : szOf P e = some m.length) (hag : aggOf P e = some true ∨ (aggOf P e = some false ∧ m.length = 1))
    (ih : ∀ (cs ds : List V) (xs ys : List Value) (b : Bool) (w : World), RL ρ n cs xs → RL ρ n ds ys → eqL m cs ds = some b → (Op.equalIn d' e (valOf P e xs) (valOf P e ys)).run P w = .ok b w)
    (cs ds : List V) (xs ys : Array Value) (hx : RL ρ n cs xs.toList) (hy : RL ρ n ds ys.toList) (w : World) :
    ∀ (k st : Nat) (b : Bool), eqL (List.replicate k m).flatten (cs.drop (st * m.length)) (ds.drop (st * m.length)) = some b → (Op.eqItems d' e (P.cellsOf e) xs ys (List.range' st k)).run P w = .ok b w
  | 0, st, b, heq => by
    simp only [List.replicate_zero, List.flatten_nil] at heq
    cases hc : cs.drop (st * m.length) <;> cases hd : ds.drop (st * m.length) <;> rw [hc, hd] at heq <;> simp [eqL] at heq
    subst heq
    simp [Op.eqItems]
  | k + 1, st, b, heq => by
    rw [List.replicate_succ, List.flatten_cons] at heq
    obtain ⟨b1, b2, e1, e2, rfl⟩ := eqL_split m _ _ _ b heq
    have hl := eqL_len _ _ _ _ e1
    simp only [List.length_take, List.length_drop] at hl
    have hxl := hx.length
    have hyl := hy.length
    simp only [Array.length_toList] at hxl hyl
    have hc : P.cellsOf e = m.length := by
      unfold szOf at hsz
      simp only [Program.cellsOf, hsz, Option.getD_some]
    have p1 := part_val (P := P) (xs := xs) (off := st * m.length) (w := w) hsz hag (by omega)
    have p2 := part_val (P := P) (xs := ys) (off := st * m.length) (w := w) hsz hag (by omega)
    have q := ih _ _ _ _ b1 w ((hx.drop (st * m.length)).take m.length) ((hy.drop (st * m.length)).take m.length) e1
    rw [List.drop_drop, List.drop_drop, show st * m.length + m.length = (st + 1) * m.length by rw [Nat.succ_mul]] at e2
    have rest := items_flat hsz hag ih cs ds xs ys hx hy w k (st + 1) b2 e2
    simp only [List.range'_succ, Op.eqItems, Sem.run_bind, hc, p1, p2, Result.andThen_ok, q]
    cases b1 with
    | true => simpa [hc] using rest
    | false => simp
theorem eqIn_flat {n : Nat} : ∀ (d : Nat) (t : TypeId) (ks : ET), flatTy P d t = some ks → ∀ (d' : Nat), d ≤ d' → ∀ (cs ds : List V) (xs ys : List Value) (b : Bool) (w : World), RL ρ n cs xs → RL ρ n ds ys →
    eqL ks cs ds = some b → (Op.equalIn d' t (valOf P t xs) (valOf P t ys)).run P w = .ok b w
  | 0, t, ks, h => by simp [flatTy] at h
  | d + 1, t, ks, h => by
    intro d' hd cs ds xs ys b w hx hy heq
    obtain ⟨d', rfl⟩ : ∃ m, d' = m + 1 := ⟨d' - 1, by omega⟩
    simp only [flatTy] at h
    split at h
    · rename_i k hu
      cases h
      obtain ⟨h1, h2⟩ := eqL_len _ _ _ _ heq
      obtain ⟨c, rfl⟩ := List.length_eq_one_iff.1 h1
      obtain ⟨e, rfl⟩ := List.length_eq_one_iff.1 h2
      obtain ⟨x, rfl⟩ := List.length_eq_one_iff.1 (hx.length.symm.trans h1)
      obtain ⟨y, rfl⟩ := List.length_eq_one_iff.1 (hy.length.symm.trans h2)
      simp only [RL, and_true] at hx hy
      have ha : aggOf P t = some false := by simp [aggOf, hu]
      simp only [valOf, ha, List.headD_cons]
      cases c <;> cases e <;> simp only [eqL] at heq <;> first | (cases heq; done) | skip
      rename_i k1 p k2 q
      split at heq
      · rename_i r hk hr
        simp only [decide_eq_true_eq] at hk
        obtain ⟨rfl, rfl⟩ := hk
        simp only [Option.some.injEq] at hr heq
        simp only [R] at hx hy
        rw [hx, hy, run_equalIn_int w d' t k2 k2 p q hu, ← heq, ← hr]
        simp
      · cases heq
    · rename_i hu
      cases h
      obtain ⟨h1, h2⟩ := eqL_len _ _ _ _ heq
      obtain ⟨c, rfl⟩ := List.length_eq_one_iff.1 h1
      obtain ⟨e, rfl⟩ := List.length_eq_one_iff.1 h2
      obtain ⟨x, rfl⟩ := List.length_eq_one_iff.1 (hx.length.symm.trans h1)
      obtain ⟨y, rfl⟩ := List.length_eq_one_iff.1 (hy.length.symm.trans h2)
      simp only [RL, and_true] at hx hy
      have ha : aggOf P t = some false := by simp [aggOf, hu]
      simp only [valOf, ha, List.headD_cons]
      cases c <;> cases e <;> simp only [eqL] at heq <;> first | (cases heq; done) | skip
      simp only [Option.some.injEq] at heq
      simp only [R] at hx hy
      rw [hx, hy, run_equalIn_bool w d' t _ _ hu, ← heq]
      simp
    · rename_i fs hu
      split at h
      · rename_i hst
        have hf : P.fieldsOf t = fs := by simp [Program.fieldsOf, hu]
        simp only [valOf, aggOf_struct hu]
        rw [run_equalIn_struct w d' t _ _ (by rw [hf]; exact hu) hst, hf]
        exact fields_flat (n := n) (d := d) (fun t ks h cs ds xs ys b w h1 h2 h3 => eqIn_flat d t ks h d' (by omega) cs ds xs ys b w h1 h2 h3) cs ds _ _ (by simpa using hx) (by simpa using hy) w fs.toList 0 ks b h (by simpa using heq)
      · cases h
    · rename_i k e hu
      split at h
      · rename_i m hm
        split at h
        · rename_i hsz
          cases h
          have ha : aggOf P t = some true := by simp [aggOf, hu]
          have hi : ∃ i, P.info? e = some i := by
            unfold szOf at hsz
            simp only [Option.map_eq_some_iff] at hsz
            obtain ⟨i, hi, _⟩ := hsz
            exact ⟨i, hi⟩
          obtain ⟨i, hi⟩ := hi
          simp only [valOf, ha]
          rw [run_equalIn_array w d' _ _ hu hi, List.range_eq_range']
          exact items_flat hsz (flat_agg hm) (fun cs ds xs ys b w h1 h2 h3 => eqIn_flat d e m hm d' (by omega) cs ds xs ys b w h1 h2 h3) cs ds _ _ (by simpa using hx) (by simpa using hy) w k 0 b (by simpa using heq)
        · cases h
      · cases h
    · cases h
theorem good_eqa {neg : Bool} {ks : ET} {x y : AO} (hs : RelS N B ρ s a w) (hd : ∀ e, o.dst = some e → e < N) (hc : chkOp P o.op (.eqa neg ks x y) = true) (h : (opF s (.eqa neg ks x y)).run s o.dst K) : Good P N B ρ s a w K o := by
  have key : ∀ (op : BinOp) (t : TypeId) (x' y' : Operand) (ty : TypeId), o.op = .binOp op t x' y' ty → (op = .eql ∧ neg = false ∨ op = .neq ∧ neg = true) → opd x' x = true → opd y' y = true → eqOk P t ks = true → Good P N B ρ s a w K o := by
    intro op t x' y' ty ho hop hx hy hb
    have h1 := opd_R hs hx
    have h2 := opd_R hs hy
    unfold eqOk at hb
    simp only [Bool.and_eq_true, decide_eq_true_eq, Bool.not_eq_true'] at hb
    obtain ⟨⟨hfl, hgu⟩, hag⟩ := hb
    simp only [opF] at h
    split at h
    · rename_i cs ds hp hq
      rw [hp] at h1
      rw [hq] at h2
      simp only [R] at h1 h2
      obtain ⟨xs, e1, hx1⟩ := h1
      obtain ⟨ys, e2, hy1⟩ := h2
      split at h
      · rename_i b hb
        have hrun := eqIn_flat (P := P) (n := s.nx) 6 t ks hfl 10000 (by omega) cs ds xs.toList ys.toList b w hx1 hy1 hb
        simp only [valOf, hag, Array.toArray_toList] at hrun
        have hg := run_eqGuard_agg (P := P) w op t x' y' xs ys hgu
        have h : (OR.val (.bool (match neg with | true => !b | false => b))).run s o.dst K := by cases neg <;> exact h
        refine good_ok hs hd h (tv_R rfl) ?_
        rcases hop with ⟨rfl, rfl⟩ | ⟨rfl, rfl⟩
        · simp [tv, execOp, ho, e1, e2, hg, run_eql_struct, hrun]
        · simp [tv, execOp, ho, e1, e2, hg, run_neq_struct, hrun]
      · exact h.elim
    · exact h.elim
  simp only [chkOp] at hc
  split at hc
  · rename_i t x' y' ty ho
    simp only [Bool.and_eq_true, Bool.not_eq_true'] at hc
    exact key _ _ _ _ _ ho (.inl ⟨rfl, hc.2⟩) hc.1.1.1 hc.1.1.2 hc.1.2
  · rename_i t x' y' ty ho
    simp only [Bool.and_eq_true] at hc
    exact key _ _ _ _ _ ho (.inr ⟨rfl, hc.2⟩) hc.1.1.1 hc.1.1.2 hc.1.2
  · cases hc
end
end Go.Proofs.YtbolfnkgbjkbjaaGreat.AM
end
