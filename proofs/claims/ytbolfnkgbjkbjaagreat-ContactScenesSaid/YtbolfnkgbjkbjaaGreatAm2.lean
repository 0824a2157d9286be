/- The abstract machine, part 2: its code, its steps, and what is held against the model's code. -/
import Derived.Test.YtbolfnkgbjkbjaaGreatAm1
set_option linter.unusedVariables false
set_option linter.unusedSimpArgs false
namespace Go.Proofs.YtbolfnkgbjkbjaaGreat.AM
open Go Go.RowKit

inductive AO where
  | t (n : Nat)
  | c (v : V)
  | f (n : Nat)
inductive AOp where
  | mv (x : AO)
  | mvn (t : Nat) (E : ET)
  | pick (c a b : AO)
  | alloc (t : Nat) (z : List V)
  | box (t : Nat) (x : AO)
  | ld (n : Nat) (agg : Bool) (x : AO)
  | st (n : Nat) (a x : AO)
  | nck (x : AO)
  | bin (op : BinOp) (x y : AO)
  | binb (neg : Bool) (x y : AO)
  | eqa (neg : Bool) (ks : ET) (x y : AO)
  | not (x : AO)
  | neg (x : AO)
  | cv (k : IntKind) (x : AO)
  | fa (x : AO) (off : Nat)
  | fld (x : AO) (off n : Nat) (agg : Bool)
  | ia (x i : AO) (s : Nat)
  | iaa (x i : AO) (len s : Nat)
  | ixs (l : List Nat) (i : AO)
  | ixa (x i : AO) (len z : Nat) (agg : Bool)
  | ext (x : AO) (i : Nat)
  | mkf (f : Nat) (fs cs : List AO)
  | mki (t : Nat) (x : AO)
  | tas (t : Nat) (zs : List V) (x : AO)
  | ifn (neg : Bool) (x : AO)
  | bld (z : List V) (parts : List (Nat × Nat × AO))
  | bsl (t : Nat) (E : ET) (len : Nat) (z : List V) (parts : List (Nat × Nat × AO))
  | msl (t : Nat) (E : ET) (bytes : Nat) (z : den E) (x c : AO)
  | slc (x : AO) (lo hi : Option AO) (s : Nat)
  | len (x : AO)
  | app (t : Nat) (E : ET) (bytes : Nat) (x y : AO)
  | mx (mn : Bool) (x y : AO)
  | mkm (ka : Bool) (KE : ET) (va : Bool) (VE : ET)
  | mlk (ka : Bool) (KE : ET) (va : Bool) (VE : ET) (ok : Bool) (x k : AO)
  | mup (ka : Bool) (KE : ET) (va : Bool) (VE : ET) (x k v : AO)
  | call (f : AO) (args : List AO)
  | pan (x : AO)
  | no
structure AOper where
  d : Option Nat
  op : AOp
  g : Option (Nat × Bool)
inductive AC where
  | skip
  | reg (l : List AOper)
  | drw (l : List (AOper × List Nat))
  | seq (a b : AC)
  | seqc (nm : Nat) (a b : AC)
  | cond (x : AO) (a b : AC)
  | blk (id : Nat) (c : AC)
  | loop (nm : Nat) (c : AC)
  | lpq (nm : Nat) (c : AC)
  | unr (k : Nat) (c : AC)
  | exit (id : Nat)
  | ret

structure S where
  sl : Nat → V
  hp : Nat → Ob
  nx : Nat
def S.put (s : S) (d : Option Nat) (v : V) : S := match d with
  | some d => ⟨upd s.sl d v, s.hp, s.nx⟩
  | none => s
def rd (s : S) : AO → V
  | .t n => s.sl n
  | .c v => v
  | .f n => .fn n [] []
/-- A value, its head laid open. -/
def force (v : V) (K : V → Prop) : Prop := match v with
  | .top => K .top
  | .int k n => K (.int k n)
  | .bool b => K (.bool b)
  | .ptr id e s f => K (.ptr id e s f)
  | .nilp => K .nilp
  | .sl id lo len s => K (.sl id lo len s)
  | .osl id => K (.osl id)
  | .nsl => K .nsl
  | .fn f fs cs => K (.fn f fs cs)
  | .nfn => K .nfn
  | .ifc t v => K (.ifc t v)
  | .nifc => K .nifc
  | .agg cs => K (.agg cs)
  | .tup cs => K (.tup cs)
  | .mp id => K (.mp id)
  | .nmp => K .nmp
theorem force_iff (v : V) (K : V → Prop) : force v K ↔ K v := by cases v <;> rfl
/-- A number, laid open: what is handed on names no variable. -/
def forceN (n : Nat) (K : Nat → Prop) : Prop := match n with
  | 0 => K 0
  | 1 => K 1
  | 2 => K 2
  | 3 => K 3
  | 4 => K 4
  | 5 => K 5
  | 6 => K 6
  | 7 => K 7
  | 8 => K 8
  | 9 => K 9
  | 10 => K 10
  | 11 => K 11
  | 12 => K 12
  | 13 => K 13
  | 14 => K 14
  | 15 => K 15
  | n + 16 => forceN n fun m => K (m + 16)
theorem forceN_iff (n : Nat) : ∀ (K : Nat → Prop), forceN n K ↔ K n := by
  induction n using Nat.strongRecOn with
  | _ n ih =>
    intro K
    unfold forceN
    split <;> try exact Iff.rfl
    rename_i n
    exact ih n (by omega) _
def bcase (b : Bool) (A B : Prop) : Prop := match b with
  | true => A
  | false => B
theorem bcase_i {b : Bool} {A B : Prop} (h1 : b = true → A) (h2 : b = false → B) : bcase b A B := by
  cases b
  · exact h2 rfl
  · exact h1 rfl
theorem bcase_t {b : Bool} {A B : Prop} (h : b = true) (h1 : A) : bcase b A B := by subst h; exact h1
theorem bcase_f {b : Bool} {A B : Prop} (h : b = false) (h1 : B) : bcase b A B := by subst h; exact h1

/-- What a new block is: a variable, a row, a map. -/
inductive NK where
  | p
  | o
  | m
inductive OR where
  | val (v : V)
  | chk (c : Prop) (v : V)
  | new (c : Prop) (o : Ob) (own : NK)
  | put (c : Prop) (id : Nat) (o : Ob)
  | mov (c : Prop) (id : Nat) (o : Ob)
  | bad
def newV (own : NK) (n : Nat) : V := match own with
  | .o => .osl n
  | .p => .ptr n 0 0 0
  | .m => .mp n
def OR.run (r : OR) (s : S) (d : Option Nat) (K : S → Prop) : Prop := match r with
  | .val v => force v fun v => K (s.put d v)
  | .chk c v => c ∧ force v fun v => K (s.put d v)
  | .new c o own => c ∧ K (S.put ⟨s.sl, upd s.hp s.nx o, s.nx + 1⟩ d (newV own s.nx))
  | .put c id o => c ∧ K (S.put ⟨s.sl, upd s.hp id o, s.nx⟩ d .top)
  | .mov c id o => c ∧ K (S.put ⟨s.sl, upd (upd s.hp id .no) s.nx o, s.nx + 1⟩ d (.osl s.nx))
  | .bad => False

mutual
/-- A value, laid open down to its cells. -/
def forceV : V → (V → Prop) → Prop
  | .top, K => K .top
  | .int k n, K => K (.int k n)
  | .bool b, K => K (.bool b)
  | .ptr id e s f, K => K (.ptr id e s f)
  | .nilp, K => K .nilp
  | .sl id lo len s, K => K (.sl id lo len s)
  | .osl id, K => K (.osl id)
  | .nsl, K => K .nsl
  | .fn f fs cs, K => forceL fs fun fs => forceL cs fun cs => K (.fn f fs cs)
  | .nfn, K => K .nfn
  | .ifc t v, K => forceV v fun v => K (.ifc t v)
  | .nifc, K => K .nifc
  | .agg cs, K => forceL cs fun cs => K (.agg cs)
  | .tup cs, K => forceL cs fun cs => K (.tup cs)
  | .mp id, K => K (.mp id)
  | .nmp, K => K .nmp
def forceL : List V → (List V → Prop) → Prop
  | [], K => K []
  | v :: vs, K => forceV v fun v => forceL vs fun vs => K (v :: vs)
end
mutual
theorem forceV_iff : ∀ (v : V) (K : V → Prop), forceV v K ↔ K v
  | .fn f fs cs, K => by simp only [forceV]; rw [forceL_iff fs, forceL_iff cs]
  | .ifc t v, K => by simp only [forceV]; rw [forceV_iff v]
  | .agg cs, K => by simp only [forceV]; rw [forceL_iff cs]
  | .tup cs, K => by simp only [forceV]; rw [forceL_iff cs]
  | .top, K => by simp only [forceV]
  | .int k n, K => by simp only [forceV]
  | .bool b, K => by simp only [forceV]
  | .ptr id e s f, K => by simp only [forceV]
  | .nilp, K => by simp only [forceV]
  | .sl id lo len s, K => by simp only [forceV]
  | .osl id, K => by simp only [forceV]
  | .nsl, K => by simp only [forceV]
  | .nfn, K => by simp only [forceV]
  | .nifc, K => by simp only [forceV]
  | .mp id, K => by simp only [forceV]
  | .nmp, K => by simp only [forceV]
theorem forceL_iff : ∀ (vs : List V) (K : List V → Prop), forceL vs K ↔ K vs
  | [], K => by simp only [forceL]
  | v :: vs, K => by simp only [forceL]; rw [forceV_iff v, forceL_iff vs]
end
def forceO (o : Ob) (K : Ob → Prop) : Prop := match o with
  | .no => K .no
  | .var t cs => forceL cs fun cs => K (.var t cs)
  | .rv cs => K (.rv cs)
  | .ro E l => K (.ro E l)
  | .own t E l => K (.own t E l)
  | .mp ka KE va VE m => K (.mp ka KE va VE m)
theorem forceO_iff (o : Ob) (K : Ob → Prop) : forceO o K ↔ K o := by
  cases o <;> simp only [forceO]
  exact forceL_iff _ _
def forceE : List (Nat × Ob) → (List (Nat × Ob) → Prop) → Prop
  | [], K => K []
  | (i, o) :: l, K => forceN i fun i => forceO o fun o => forceE l fun l => K ((i, o) :: l)
theorem forceE_iff : ∀ (l : List (Nat × Ob)) (K : List (Nat × Ob) → Prop), forceE l K ↔ K l
  | [], K => by simp only [forceE]
  | (i, o) :: l, K => by simp only [forceE]; rw [forceN_iff, forceO_iff, forceE_iff l]
def forceI : List Nat → (List Nat → Prop) → Prop
  | [], K => K []
  | i :: l, K => forceN i fun i => forceI l fun l => K (i :: l)
theorem forceI_iff : ∀ (l : List Nat) (K : List Nat → Prop), forceI l K ↔ K l
  | [], K => by simp only [forceI]
  | i :: l, K => by simp only [forceI]; rw [forceN_iff, forceI_iff l]
def putK (sl : Nat → V) (hp : Nat → Ob) (nx : Nat) (d : Option Nat) (v : V) (K : S → Prop) : Prop := match d with
  | some d => K ⟨upd sl d v, hp, nx⟩
  | none => K ⟨sl, hp, nx⟩
theorem putK_iff (sl : Nat → V) (hp : Nat → Ob) (nx : Nat) (d : Option Nat) (v : V) (K : S → Prop) : putK sl hp nx d v K ↔ K (S.put ⟨sl, hp, nx⟩ d v) := by cases d <;> exact Iff.rfl
def OR.runF (r : OR) (s : S) (d : Option Nat) (K : S → Prop) : Prop := match s with
  | ⟨sl, hp, nx⟩ => match r with
    | .val v => forceV v fun v => putK sl hp nx d v K
    | .chk c v => c ∧ forceV v fun v => putK sl hp nx d v K
    | .new c o own => c ∧ forceO o fun o => forceN nx fun n => putK sl (upd hp n o) (n + 1) d (newV own n) K
    | .put c id o => c ∧ forceO o fun o => putK sl (upd hp id o) nx d .top K
    | .mov c id o => c ∧ forceO o fun o => forceN nx fun n => putK sl (upd (upd hp id .no) n o) (n + 1) d (.osl n) K
    | .bad => False
theorem OR.runF_iff (r : OR) (s : S) (d : Option Nat) (K : S → Prop) : r.runF s d K ↔ r.run s d K := by
  obtain ⟨sl, hp, nx⟩ := s
  cases r <;> simp only [OR.runF, OR.run, forceN_iff, forceV_iff, forceO_iff, force_iff, putK_iff]
def cellsV : V → List V
  | .agg cs => cs
  | v => [v]
def V.sc : V → Option Sc
  | .int k n => some (.int k n)
  | .bool b => some (.bool b)
  | _ => none
def scs : List V → Option (List Sc)
  | [] => some []
  | v :: vs => match v.sc, scs vs with
    | some a, some b => some (a :: b)
    | _, _ => none
def takeN {α : Type} : Nat → List α → Option (List α)
  | 0, _ => some []
  | _ + 1, [] => none
  | n + 1, x :: l => match takeN n l with
    | some r => some (x :: r)
    | none => none
def setR {α : Type} (cs : List α) (k : Nat) (vs : List α) : List α := cs.take k ++ vs ++ cs.drop (k + vs.length)
def allOne : List V → Bool
  | [] => true
  | v :: vs => v.one && allOne vs
def mkV (agg : Bool) (l : List V) : V := match agg with
  | true => .agg l
  | false => match l with
    | [v] => v
    | _ => .top
/-- The cells of a row's element, from a place on. -/
def rowCells (E : ET) (l : List (den E)) (e s f n : Nat) (agg : Bool) : OR :=
  match decide (s = E.length ∧ f + n ≤ E.length) with
  | true => .chk (e < l.length) (mkV agg ((((enc E (l.getD e (dflt E))).drop f).take n).map Sc.toV))
  | false => .bad
def ldF (h : Nat → Ob) (n : Nat) (agg : Bool) : V → OR
  | .ptr id e s f => match h id with
    | .var _ cs => match takeN n (cs.drop (e * s + f)) with
      | some l => .val (mkV agg l)
      | none => .bad
    | .rv cs => match takeN n (cs.drop (e * s + f)) with
      | some l => .val (mkV agg l)
      | none => .bad
    | .ro E l => rowCells E l e s f n agg
    | .own _ E l => rowCells E l e s f n agg
    | _ => .bad
  | _ => .bad
def stF (h : Nat → Ob) (n : Nat) (a : V) (vs : List V) : OR := match a with
  | .ptr id e s f => match h id with
    | .var t cs => match decide (vs.length = n ∧ e * s + f + n ≤ cs.length) && allOne vs with
      | true => .put True id (.var t (setR cs (e * s + f) vs))
      | false => .bad
    | .own t E l => match decide (vs.length = n ∧ s = E.length ∧ f + n ≤ E.length), scs vs with
      | true, some ss => match dec E (setR (enc E (l.getD e (dflt E))) f ss) with
        | some y => .put (e < l.length) id (.own t E (l.set e y))
        | none => .bad
      | _, _ => .bad
    | _ => .bad
  | _ => .bad
def eqL : ET → List V → List V → Option Bool
  | [], [], [] => some true
  | .int k :: ks, .int k1 a :: xs, .int k2 b :: ys => match decide (k1 = k ∧ k2 = k), eqL ks xs ys with
    | true, some r => some ((a == b) && r)
    | _, _ => none
  | .bool :: ks, .bool a :: xs, .bool b :: ys => match eqL ks xs ys with
    | some r => some ((a == b) && r)
    | none => none
  | _, _, _ => none
def bitsF (k : IntKind) (op : BinOp) (a b : Int) : Option Int :=
  match op with
  | .and => some (k.wrap (BitVec.ofInt k.bits a &&& BitVec.ofInt k.bits b).toNat)
  | .or => some (k.wrap (BitVec.ofInt k.bits a ||| BitVec.ofInt k.bits b).toNat)
  | .xor => some (k.wrap (BitVec.ofInt k.bits a ^^^ BitVec.ofInt k.bits b).toNat)
  | _ => none
def binI (op : BinOp) (k : IntKind) (a b : Int) : OR :=
  match op with
  | .add => .val (.int k (k.wrap (a + b)))
  | .sub => .val (.int k (k.wrap (a - b)))
  | .mul => .val (.int k (k.wrap (a * b)))
  | .quo => .chk (b ≠ 0) (.int k (k.wrap (a.tdiv b)))
  | .rem => .chk (b ≠ 0) (.int k (a.tmod b))
  | .eql => .val (.bool (a == b))
  | .neq => .val (.bool (a != b))
  | .lss => .val (.bool (decide (a < b)))
  | .leq => .val (.bool (decide (a ≤ b)))
  | .gtr => .val (.bool (decide (a > b)))
  | .geq => .val (.bool (decide (a ≥ b)))
  | .shl => .bad
  | .shr => .bad
  | op => match bitsF k op a b with
    | some n => .val (.int k n)
    | none => .bad
def binF (op : BinOp) : V → V → OR
  | .int k a, .int k' b => match op with
    | .shl => .chk (0 ≤ b) (.int k (k.wrap (a * 2 ^ (min b.toNat k.bits))))
    | .shr => .chk (0 ≤ b) (.int k (a.fdiv (2 ^ (min b.toNat k.bits))))
    | op => match decide (k = k') with
      | true => binI op k a b
      | false => .bad
  | _, _ => .bad
def lenF (h : Nat → Ob) : V → Option Nat
  | .nsl => some 0
  | .sl _ _ len _ => some len
  | .osl id => match h id with
    | .ro _ l => some l.length
    | .own _ _ l => some l.length
    | _ => none
  | _ => none
def pickV (c : Bool) : V → V → V
  | .bool x, .bool y => .bool (bif c then x else y)
  | .int k x, .int k' y => match decide (k = k') with
    | true => .int k (bif c then x else y)
    | false => bif c then .int k x else .int k' y
  | x, y => bif c then x else y
/-- Parts laid into cells. -/
def fillV (s : S) : List V → List (Nat × Nat × AO) → Option (List V)
  | cs, [] => some cs
  | cs, (off, size, x) :: r => match decide ((cellsV (rd s x)).length = size ∧ off + size ≤ cs.length) && allOne (cellsV (rd s x)) with
    | true => fillV s (setR cs off (cellsV (rd s x))) r
    | false => none
def chunks (E : ET) : Nat → List V → Option (List (den E))
  | 0, [] => some []
  | 0, _ => none
  | n + 1, vs => match takeN E.length vs with
    | some c => match scs c with
      | some ss => match dec E ss, chunks E n (vs.drop E.length) with
        | some x, some r => some (x :: r)
        | _, _ => none
      | none => none
    | none => none
/-- A list that a value reads as, and on what condition. -/
def castL {E E' : ET} (e : E' = E) (l : List (den E')) : List (den E) := e ▸ l
def lst (E : ET) (h : Nat → Ob) : V → Option (Prop × List (den E))
  | .nsl => some (True, [])
  | .osl id => match h id with
    | .ro E' l => if e : E' = E then some (True, castL e l) else none
    | .own _ E' l => if e : E' = E then some (True, castL e l) else none
    | _ => none
  | .sl id lo len s => match h id with
    | .ro E' l => if e : E' = E then match decide (s = E.length) with | true => some (lo + len ≤ l.length, ((castL e l).drop lo).take len) | false => none else none
    | .own _ E' l => if e : E' = E then match decide (s = E.length) with | true => some (lo + len ≤ l.length, ((castL e l).drop lo).take len) | false => none else none
    | _ => none
  | _ => none
def appF (h : Nat → Ob) (t : Nat) (E : ET) (bytes : Nat) (x y : V) : OR :=
  match lst E h y with
  | none => .bad
  | some (c, m) => match x with
    | .nsl => .new (c ∧ m.length * bytes ≤ 140737488355328) (.own t E m) .o
    | .osl id => match h id with
      | .own t' E' l => if e : E' = E then match decide (t' = t) with
          | true => .mov (c ∧ (l.length + m.length) * bytes ≤ 140737488355328) id (.own t E (castL e l ++ m))
          | false => .bad
        else .bad
      | _ => .bad
    | _ => .bad
def sbase (h : Nat → Ob) (x : V) (s : Nat) : Option (Nat × Nat × Nat) :=
  match x with
  | .osl id => match h id with
    | .ro E l => match decide (E.length = s) with
      | true => some (id, 0, l.length)
      | false => none
    | .own _ E l => match decide (E.length = s) with
      | true => some (id, 0, l.length)
      | false => none
    | _ => none
  | .sl id l n s' => match decide (s' = s) with
    | true => some (id, l, n)
    | false => none
  | _ => none
def sliceF (h : Nat → Ob) (x : V) (lo hi : Option V) (s : Nat) : OR :=
  match sbase h x s with
  | none => .bad
  | some (id, l, n) => match lo, hi with
    | none, some (.int _ b) => .chk (0 ≤ b ∧ b ≤ (n : Int)) (.sl id l b.toNat s)
    | some (.int _ a), none => .chk (0 ≤ a ∧ a ≤ (n : Int)) (.sl id (l + a.toNat) (n - a.toNat) s)
    | some (.int _ a), some (.int _ b) => .chk (0 ≤ a ∧ a ≤ b ∧ b ≤ (n : Int)) (.sl id (l + a.toNat) (b.toNat - a.toNat) s)
    | _, _ => .bad
/-- Keys. -/
def denB : (E : ET) → den E → den E → Bool
  | [], _, _ => true
  | [.int _], x, y => (show Int from x) == (show Int from y)
  | [.bool], x, y => (show Bool from x) == (show Bool from y)
  | .int _ :: k' :: r, x, y => (show Int from x.1) == (show Int from y.1) && denB (k' :: r) x.2 y.2
  | .bool :: k' :: r, x, y => (show Bool from x.1) == (show Bool from y.1) && denB (k' :: r) x.2 y.2
def mget {α : Type} (KE : ET) (k : den KE) : List (den KE × α) → Option α
  | [] => none
  | p :: r => bif denB KE k p.1 then some p.2 else mget KE k r
def mput {α : Type} (KE : ET) (k : den KE) (v : α) : List (den KE × α) → List (den KE × α)
  | [] => [(k, v)]
  | p :: r => bif denB KE k p.1 then (k, v) :: r else p :: mput KE k v r
def keyD (ag : Bool) (E : ET) (v : V) : Option (den E) := match ag with
  | true => match v with
    | .agg cs => match scs cs with
      | some ss => dec E ss
      | none => none
    | _ => none
  | false => match v.sc with
    | some x => dec E [x]
    | none => none
def mlkV (va : Bool) (VE : ET) (ok : Bool) (r : Option (den VE)) : V := match ok with
  | true => .tup [mkV va ((enc VE (r.getD (dflt VE))).map Sc.toV), .bool r.isSome]
  | false => mkV va ((enc VE (r.getD (dflt VE))).map Sc.toV)
/-- A map of such types. -/
def castM {KE VE KE' VE' : ET} (e : KE' = KE ∧ VE' = VE) (m : List (den KE' × den VE')) : List (den KE × den VE) := e.1 ▸ e.2 ▸ m
def mobj (ka : Bool) (KE : ET) (va : Bool) (VE : ET) : Ob → Option (List (den KE × den VE))
  | .mp ka' KE' va' VE' m => match decide (ka' = ka ∧ va' = va) with
    | true => if e : KE' = KE ∧ VE' = VE then some (castM e m) else none
    | false => none
  | _ => none
def opF (s : S) : AOp → OR
  | .mv x => .val (rd s x)
  | .mvn t E => .new True (.own t E []) .o
  | .pick c a b => match rd s c with
    | .bool c => .val (pickV c (rd s a) (rd s b))
    | _ => .bad
  | .alloc t z => .new True (.var t z) .p
  | .box t x => match allOne (cellsV (rd s x)) with
    | true => .new True (.var t (cellsV (rd s x))) .p
    | false => .bad
  | .ld n agg x => ldF s.hp n agg (rd s x)
  | .st n a x => stF s.hp n (rd s a) (cellsV (rd s x))
  | .nck x => match rd s x with
    | .ptr id e z f => .val (.ptr id e z f)
    | .fn f fs cs => .val (.fn f fs cs)
    | _ => .bad
  | .bin op x y => binF op (rd s x) (rd s y)
  | .binb neg x y => match rd s x, rd s y with
    | .bool a, .bool b => match neg with
      | true => .val (.bool (!(a == b)))
      | false => .val (.bool (a == b))
    | _, _ => .bad
  | .eqa neg ks x y => match rd s x, rd s y with
    | .agg xs, .agg ys => match eqL ks xs ys with
      | some b => match neg with
        | true => .val (.bool (!b))
        | false => .val (.bool b)
      | none => .bad
    | _, _ => .bad
  | .not x => match rd s x with
    | .bool b => .val (.bool (!b))
    | _ => .bad
  | .neg x => match rd s x with
    | .int k n => .val (.int k (k.wrap (0 - n)))
    | _ => .bad
  | .cv k x => match rd s x with
    | .int _ n => .val (.int k (k.wrap n))
    | _ => .bad
  | .fa x off => match rd s x with
    | .ptr id e z f => .val (.ptr id e z (f + off))
    | _ => .bad
  | .fld x off n agg => match rd s x with
    | .agg cs => match takeN n (cs.drop off) with
      | some l => .val (mkV agg l)
      | none => .bad
    | _ => .bad
  | .ia x i z => match rd s x, lenF s.hp (rd s x), rd s i with
    | .osl id, some n, .int _ i => .chk (0 ≤ i ∧ i < (n : Int)) (.ptr id i.toNat z 0)
    | .sl id lo _ z', some n, .int _ i => match decide (z' = z) with
      | true => .chk (0 ≤ i ∧ i < (n : Int)) (.ptr id (lo + i.toNat) z 0)
      | false => .bad
    | _, _, _ => .bad
  | .iaa x i len z => match rd s x, rd s i with
    | .ptr id e z' f, .int _ i => .chk (0 ≤ i ∧ i < (len : Int)) (.ptr id e z' (f + i.toNat * z))
    | _, _ => .bad
  | .ixs l i => match rd s i with
    | .int _ i => .chk (0 ≤ i ∧ i < (l.length : Int)) (.int .u8 ((l.getD i.toNat 0 : Nat) : Int))
    | _ => .bad
  | .ixa x i len z agg => match rd s x, rd s i with
    | .agg cs, .int _ i => match i with
      | .ofNat i => match takeN z (cs.drop (i * z)) with
        | some l => .chk (i < len) (mkV agg l)
        | none => .bad
      | _ => .bad
    | _, _ => .bad
  | .ext x i => match rd s x with
    | .tup vs => match vs[i]? with
      | some v => .val v
      | none => .bad
    | _ => .bad
  | .mkf f fs cs => .val (.fn f (fs.map (rd s)) (cs.map (rd s)))
  | .mki t x => .val (.ifc t (rd s x))
  | .tas t zs x => match rd s x with
    | .ifc t' v => match Nat.beq t' t with
      | true => .val (.tup [v, .bool true])
      | false => .val (.tup [.agg zs, .bool false])
    | .nifc => .val (.tup [.agg zs, .bool false])
    | _ => .bad
  | .ifn neg x => match rd s x with
    | .ifc _ _ => .val (.bool neg)
    | .nifc => .val (.bool (!neg))
    | _ => .bad
  | .bld z parts => match fillV s z parts with
    | some cs => .val (.agg cs)
    | none => .bad
  | .bsl t E len z parts => match fillV s z parts with
    | some cs => match chunks E len cs with
      | some l => .new True (.own t E l) .o
      | none => .bad
    | none => .bad
  | .msl t E bytes z x c => match rd s x, rd s c with
    | .int .i64 a, .int .i64 b => .new (a = b ∧ 0 ≤ a ∧ a * bytes ≤ 140737488355328) (.own t E (List.replicate a.toNat z)) .o
    | _, _ => .bad
  | .slc x lo hi z => sliceF s.hp (rd s x) (lo.map (rd s)) (hi.map (rd s)) z
  | .len x => match lenF s.hp (rd s x) with
    | some n => .val (.int .i64 (n : Int))
    | none => .bad
  | .app t E bytes x y => appF s.hp t E bytes (rd s x) (rd s y)
  | .mx mn x y => match rd s x, rd s y with
    | .int k a, .int k' b => match decide (k = k') with
      | true => match mn with
        | true => .val (.int k (if b < a then b else a))
        | false => .val (.int k (if b > a then b else a))
      | false => .bad
    | _, _ => .bad
  | .mkm ka KE va VE => .new True (.mp ka KE va VE []) .m
  | .mlk ka KE va VE ok x k => match rd s x with
    | .mp id => match mobj ka KE va VE (s.hp id), keyD ka KE (rd s k) with
      | some m, some key => .val (mlkV va VE ok (mget KE key m))
      | _, _ => .bad
    | .nmp => match keyD ka KE (rd s k) with
      | some key => .val (mlkV va VE ok none)
      | none => .bad
    | _ => .bad
  | .mup ka KE va VE x k v => match rd s x with
    | .mp id => match mobj ka KE va VE (s.hp id), keyD ka KE (rd s k), keyD va VE (rd s v) with
      | some m, some key, some val => .put True id (.mp ka KE va VE (mput KE key val m))
      | _, _, _ => .bad
    | _ => .bad
  | .call _ _ => .bad
  | .pan _ => .bad
  | .no => .bad

inductive Out where
  | ret (v : V)
  | pan (v : V)
abbrev Tab := Nat → List V → (Nat → Ob) → Nat → (Out → (Nat → Ob) → Nat → Prop) → Prop
def runOp1 (T : Tab) (o : AOper) (K : S → Prop) (PQ : V → S → Prop) (s : S) : Prop :=
  match o.op with
  | .call f args => match rd s f with
    | .fn fi fs cs => forceL (fs ++ args.map (rd s) ++ cs) fun xs => forceN s.nx fun n => T fi xs s.hp n fun out h n => match out with
      | .ret v => forceV v fun v => putK s.sl h n o.d v K
      | .pan v => PQ v ⟨s.sl, h, n⟩
    | _ => False
  | .pan x => match rd s x with
    | .ifc t v => PQ (.ifc t v) s
    | _ => False
  | op => (opF s op).runF s o.d K
def runOp (T : Tab) (o : AOper) (K : S → Prop) (PQ : V → S → Prop) (s : S) : Prop :=
  match o.g with
  | none => runOp1 T o K PQ s
  | some (g, want) => match s.sl g with
    | .bool b => match want with
      | true => bcase b (runOp1 T o K PQ ⟨upd s.sl g (.bool true), s.hp, s.nx⟩) (putK (upd s.sl g (.bool false)) s.hp s.nx o.d (.tup []) K)
      | false => bcase b (putK (upd s.sl g (.bool true)) s.hp s.nx o.d (.tup []) K) (runOp1 T o K PQ ⟨upd s.sl g (.bool false), s.hp, s.nx⟩)
    | .tup [] => putK s.sl s.hp s.nx o.d (.tup []) K
    | _ => False
theorem upd_self {α : Type} (f : Nat → α) (i : Nat) (x : α) (h : f i = x) : upd f i x = f := by
  funext j
  by_cases e : j = i
  · subst e; rw [upd_same]; exact h.symm
  · exact upd_ne _ _ _ e
theorem st_self (s : S) (g : Nat) (x : V) (h : s.sl g = x) : (⟨upd s.sl g x, s.hp, s.nx⟩ : S) = s := by rw [upd_self _ _ _ h]
def runOps (T : Tab) : List AOper → (S → Prop) → (V → S → Prop) → S → Prop
  | [], K, _, s => K s
  | o :: l, K, PQ, s => runOp T o (runOps T l K PQ) PQ s

mutual
def V.lt (n : Nat) : V → Bool
  | .mp id => Nat.blt id n
  | .ptr id _ _ _ => Nat.blt id n
  | .sl id _ _ _ => Nat.blt id n
  | .osl id => Nat.blt id n
  | .fn _ fs cs => V.lts n fs && V.lts n cs
  | .ifc _ v => V.lt n v
  | .agg cs => V.lts n cs
  | .tup cs => V.lts n cs
  | _ => true
def V.lts (n : Nat) : List V → Bool
  | [] => true
  | v :: vs => V.lt n v && V.lts n vs
end
/-! ### Regions that draw their order -/
/-- What a function that gives back values and new lists comes to: on what condition, what, and the new lists. -/
abbrev GSpec := List V → List Ob → Option (Prop × Out × List Ob)
mutual
def viewV (h : Nat → Ob) (obs : List Ob) : V → Option (Prop × V × List Ob)
  | .int k n => some (True, .int k n, obs)
  | .bool b => some (True, .bool b, obs)
  | .nilp => some (True, .nilp, obs)
  | .nsl => some (True, .nsl, obs)
  | .nfn => some (True, .nfn, obs)
  | .nifc => some (True, .nifc, obs)
  | .nmp => some (True, .nmp, obs)
  | .osl id => match h id with
    | .ro E l => some (True, .osl obs.length, obs ++ [.ro E l])
    | .own _ E l => match decide (0 < E.length) with
      | true => some (True, .osl obs.length, obs ++ [.ro E l])
      | false => none
    | _ => none
  | .sl id lo len s => match h id with
    | .ro E l => match decide (0 < E.length ∧ s = E.length) with
      | true => some (lo + len ≤ l.length, .osl obs.length, obs ++ [.ro E ((l.drop lo).take len)])
      | false => none
    | .own _ E l => match decide (0 < E.length ∧ s = E.length) with
      | true => some (lo + len ≤ l.length, .osl obs.length, obs ++ [.ro E ((l.drop lo).take len)])
      | false => none
    | _ => none
  | .ptr id e s f => match Nat.beq (e * s + f) 0 with
    | true => match h id with
      | .var _ cs => match V.lts 0 cs with
        | true => some (True, .ptr obs.length 0 0 0, obs ++ [.rv cs])
        | false => none
      | .rv cs => some (True, .ptr obs.length 0 0 0, obs ++ [.rv cs])
      | _ => none
    | false => none
  | .fn f [] [] => some (True, .fn f [] [], obs)
  | .agg cs => match viewL h obs cs with
    | some (c, cs', obs') => some (c, .agg cs', obs')
    | none => none
  | _ => none
def viewL (h : Nat → Ob) (obs : List Ob) : List V → Option (Prop × List V × List Ob)
  | [] => some (True, [], obs)
  | v :: vs => match viewV h obs v with
    | some (c, v', obs') => match viewL h obs' vs with
      | some (d, vs', obs'') => some (c ∧ d, v' :: vs', obs'')
      | none => none
    | none => none
end
mutual
def shV (n : Nat) : V → V
  | .osl id => .osl (n + id)
  | .agg cs => .agg (shL n cs)
  | .tup cs => .tup (shL n cs)
  | .int k m => .int k m
  | .bool b => .bool b
  | .nilp => .nilp
  | .nsl => .nsl
  | .nfn => .nfn
  | .nifc => .nifc
  | .mp id => .mp (n + id)
  | .nmp => .nmp
  | .fn f a b => .fn f (shL n a) (shL n b)
  | .ifc t v => .ifc t (shV n v)
  | .top => .top
  | .ptr a b c d => .ptr (n + a) b c d
  | .sl a b c d => .sl (n + a) b c d
def shL (n : Nat) : List V → List V
  | [] => []
  | v :: vs => shV n v :: shL n vs
end
def addObs (h : Nat → Ob) (n : Nat) : List Ob → Nat → Ob
  | [] => h
  | o :: l => addObs (upd h n o) (n + 1) l
mutual
def idsV : V → List Nat
  | .ptr id _ _ _ => [id]
  | .sl id _ _ _ => [id]
  | .osl id => [id]
  | .mp id => [id]
  | .fn _ a b => idsL a ++ idsL b
  | .ifc _ v => idsV v
  | .agg cs => idsL cs
  | .tup cs => idsL cs
  | _ => []
def idsL : List V → List Nat
  | [] => []
  | v :: vs => idsV v ++ idsL vs
end
/-- Which parts of a value are known by an equation alone, from here on. -/
inductive Msk where
  | no
  | all
  | l (ms : List Msk)
mutual
def absV : V → (V → Prop) → Prop
  | .int k n, K => ∀ m, m = n → K (.int k m)
  | .bool b, K => ∀ c, c = b → K (.bool c)
  | .agg cs, K => absL cs fun cs => K (.agg cs)
  | .tup cs, K => absL cs fun cs => K (.tup cs)
  | .top, K => K .top
  | .ptr id e s f, K => K (.ptr id e s f)
  | .nilp, K => K .nilp
  | .sl id lo len s, K => K (.sl id lo len s)
  | .osl id, K => K (.osl id)
  | .nsl, K => K .nsl
  | .fn f fs cs, K => K (.fn f fs cs)
  | .nfn, K => K .nfn
  | .ifc t v, K => K (.ifc t v)
  | .nifc, K => K .nifc
  | .mp id, K => K (.mp id)
  | .nmp, K => K .nmp
def absL : List V → (List V → Prop) → Prop
  | [], K => K []
  | v :: vs, K => absV v fun v => absL vs fun vs => K (v :: vs)
end
mutual
theorem absV_iff : ∀ (v : V) (K : V → Prop), absV v K ↔ K v
  | .int k n, K => by simp only [absV]; exact ⟨fun h => h _ rfl, fun h m e => by rw [e]; exact h⟩
  | .bool b, K => by simp only [absV]; exact ⟨fun h => h _ rfl, fun h m e => by rw [e]; exact h⟩
  | .agg cs, K => by simp only [absV]; rw [absL_iff cs]
  | .tup cs, K => by simp only [absV]; rw [absL_iff cs]
  | .top, K => by simp only [absV]
  | .ptr id e s f, K => by simp only [absV]
  | .nilp, K => by simp only [absV]
  | .sl id lo len s, K => by simp only [absV]
  | .osl id, K => by simp only [absV]
  | .nsl, K => by simp only [absV]
  | .fn f fs cs, K => by simp only [absV]
  | .nfn, K => by simp only [absV]
  | .ifc t v, K => by simp only [absV]
  | .nifc, K => by simp only [absV]
  | .mp id, K => by simp only [absV]
  | .nmp, K => by simp only [absV]
theorem absL_iff : ∀ (vs : List V) (K : List V → Prop), absL vs K ↔ K vs
  | [], K => by simp only [absL]
  | v :: vs, K => by simp only [absL]; rw [absV_iff v, absL_iff vs]
end
mutual
def absM : Msk → V → (V → Prop) → Prop
  | .no, v, K => K v
  | .all, v, K => absV v K
  | .l ms, v, K => match v with
    | .agg cs => absML ms cs fun cs => K (.agg cs)
    | .tup cs => absML ms cs fun cs => K (.tup cs)
    | v => K v
def absML : List Msk → List V → (List V → Prop) → Prop
  | m :: ms, v :: vs, K => absM m v fun v => absML ms vs fun vs => K (v :: vs)
  | [], vs, K => K vs
  | _ :: _, [], K => K []
end
mutual
theorem absM_iff : ∀ (m : Msk) (v : V) (K : V → Prop), absM m v K ↔ K v
  | .no, v, K => by simp only [absM]
  | .all, v, K => by simp only [absM]; exact absV_iff v K
  | .l ms, v, K => by
    simp only [absM]
    split
    · rw [absML_iff ms]
    · rw [absML_iff ms]
    · exact Iff.rfl
theorem absML_iff : ∀ (ms : List Msk) (vs : List V) (K : List V → Prop), absML ms vs K ↔ K vs
  | m :: ms, v :: vs, K => by simp only [absML]; rw [absM_iff m, absML_iff ms]
  | [], vs, K => by cases vs <;> simp only [absML]
  | _ :: _, [], K => by simp only [absML]
end
/-- The same, of a heap of which only what the arguments name is looked at. -/
structure DSpec where
  ab : Msk := .no
  g : List V → (Nat → Ob) → Option (Prop × Out × List Ob)
  same : ∀ (args : List V) (h h' : Nat → Ob), (∀ id ∈ idsL args, h id = h' id) → g args h = g args h'
abbrev DTab := Nat → Option DSpec
def idsO : Ob → List Nat
  | .var _ cs => idsL cs
  | _ => []
/-- Rows alone. -/
def flatObs : List Ob → Bool
  | [] => true
  | .ro _ _ :: l => flatObs l
  | .own _ _ _ :: l => flatObs l
  | _ => false
def optA : Option AO → List AO
  | none => []
  | some x => [x]
/-- The blocks that an operation looks into. -/
def rdsOf (s : S) : AOp → List Nat
  | .ld _ _ x => idsV (rd s x)
  | .st _ x _ => idsV (rd s x)
  | .ia x _ _ => idsV (rd s x)
  | .slc x _ _ _ => idsV (rd s x)
  | .len x => idsV (rd s x)
  | .app _ _ _ x y => idsV (rd s x) ++ idsV (rd s y)
  | .mlk _ _ _ _ _ x _ => idsV (rd s x)
  | .mup _ _ _ _ x _ _ => idsV (rd s x)
  | .call f args => idsV (rd s f) ++ idsL (args.map (rd s))
  | _ => []
def numb (k : Nat) : List Ob → List (Nat × Ob)
  | [] => []
  | o :: l => (k, o) :: numb (k + 1) l
def applyE (h : Nat → Ob) : List (Nat × Ob) → Nat → Ob
  | [] => h
  | (i, o) :: l => applyE (upd h i o) l
/-- An operation of such a region, its new blocks numbered from k on: its value, what it turns. -/
def dexec (D : DTab) (k : Nat) (op : AOp) (s : S) (K : V → List (Nat × Ob) → Prop) (PQ : V → Prop) : Prop :=
  match op with
  | .call f args => match rd s f with
    | .fn fi fs cs => match D fi with
      | some g => match g.g (fs ++ args.map (rd s) ++ cs) s.hp with
        | some (d, out, news) => match out with
          | .ret v => match Nat.ble news.length 8 && flatObs news with
            | true => d ∧ absM g.ab (shV k v) fun v => K v (numb k news)
            | false => False
          | .pan v => d ∧ PQ v
        | none => False
      | none => False
    | _ => False
  | .pan _ => False
  | op => match opF s op with
    | .val v => force v fun v => K v []
    | .chk c v => c ∧ force v fun v => K v []
    | .new c o own => c ∧ K (newV own k) [(k, o)]
    | .put c id o => c ∧ K .top [(id, o)]
    | .mov c id o => c ∧ K (.osl k) [(id, .no), (k, o)]
    | .bad => False
def dop (D : DTab) (k : Nat) (o : AOper) (s : S) (K : V → List (Nat × Ob) → List Nat → Prop) (PQ : V → Prop) : Prop :=
  match o.g with
  | none => dexec D k o.op s (fun v e => K v e (rdsOf s o.op)) PQ
  | some (g, want) => match s.sl g with
    | .bool b => match want with
      | true => bcase b (dexec D k o.op s (fun v e => K v e (rdsOf s o.op)) PQ) (K (.tup []) [] [])
      | false => bcase b (K (.tup []) [] []) (dexec D k o.op s (fun v e => K v e (rdsOf s o.op)) PQ)
    | .tup [] => K (.tup []) [] []
    | _ => False
def memB (i : Nat) : List Nat → Bool
  | [] => false
  | j :: l => Nat.beq j i || memB i l
def disj (a b : List Nat) : Bool := a.all fun i => !memB i b
/-- An operation and those before it: what one turns, no other looks at, or they have their order. -/
def okTr (preds rds wrs : List Nat) : List (Nat × List Nat × List Nat) → Bool
  | [] => true
  | (i, rds', wrs') :: l => (memB i preds || (disj wrs' rds && disj wrs rds' && disj wrs wrs')) && okTr preds rds wrs l
/-- The blocks that are named: old ones, or made by this operation or by those before it. -/
def okId (n0 : Nat) (js : List Nat) (id : Nat) : Bool := Nat.blt id n0 || js.any fun j => Nat.ble (n0 + 8 * j) id && Nat.blt id (n0 + 8 * j + 8)
def okIds (n0 j : Nat) (ps : List Nat) (v : V) (effs : List (Nat × Ob)) : Bool := (idsV v).all (okId n0 (j :: ps)) && effs.all fun p => (okId n0 (j :: ps) p.1) && (idsO p.2).all (okId n0 ps)
def allAfter (j : Nat) : List (AOper × List Nat) → Bool
  | [] => true
  | (_, preds) :: l => memB j preds && allAfter j l
def effsIn (preds : List Nat) : List (Nat × List Nat × List Nat) → Bool
  | [] => true
  | (i, _, wrs) :: l => (wrs.isEmpty || memB i preds) && effsIn preds l
/-- A guard, asked once. -/
def splitG (g : Option (Nat × Bool)) (s : S) (K : S → Prop) : Prop := match g with
  | none => K s
  | some (g, _) => match s.sl g with
    | .bool b => bcase b (K ⟨upd s.sl g (.bool true), s.hp, s.nx⟩) (K ⟨upd s.sl g (.bool false), s.hp, s.nx⟩)
    | _ => K s
theorem splitG_iff (g : Option (Nat × Bool)) (s : S) (K : S → Prop) : splitG g s K ↔ K s := by
  unfold splitG
  split
  · exact Iff.rfl
  · split
    · rename_i b hb
      cases b
      · rw [st_self s _ _ hb]; exact Iff.rfl
      · rw [st_self s _ _ hb]; exact Iff.rfl
    · exact Iff.rfl
def drun (D : DTab) (n0 top : Nat) : Nat → List (AOper × List Nat) → List (Nat × List Nat × List Nat) → (S → Prop) → (V → S → Prop) → S → Prop
  | _, [], _, K, _, s => K s
  | j, (o, preds) :: l, tr, K, PQ, s => splitG o.g s fun s => dop D (n0 + 8 * j) o s
      (fun v effs rds => forceV v fun v => forceE effs fun effs => forceI rds fun rds => match okTr preds rds (effs.map (·.1)) tr && okIds n0 j preds v effs with
        | true => putK s.sl (applyE s.hp effs) top o.d v (drun D n0 top (j + 1) l ((j, rds, effs.map (·.1)) :: tr) K PQ)
        | false => False)
      (fun v => match allAfter j l && effsIn preds tr && V.lt 0 v with
        | true => ∀ sl, PQ v ⟨sl, s.hp, top⟩
        | false => False)
def clr (n0 : Nat) (h : Nat → Ob) : Nat → Ob := fun i => bif Nat.blt i n0 then h i else .no
inductive AX where
  | nrm
  | ext (id : Nat)
  | ret
  | pan (v : V)
/-- A state written out. -/
def lookV : List (Nat × V) → Nat → V
  | [], _ => .top
  | (i, v) :: l, j => bif Nat.beq j i then v else lookV l j
def lookO : List Ob → Nat → Ob
  | [], _ => .no
  | o :: l, i => match i with
    | 0 => o
    | i + 1 => lookO l i
def St (l : List (Nat × V)) (obs : List Ob) : S := ⟨lookV l, lookO obs, obs.length⟩
/-- From a state to one that is written out, in which the rest is forgotten. -/
def SubV (s : S) (n : Nat) : List (Nat × V) → Prop
  | [] => True
  | (i, v) :: l => (s.sl i = v ∧ V.lt n v = true) ∧ SubV s n l
def ObLt (n : Nat) : Ob → Prop
  | .var _ cs => V.lts n cs = true
  | _ => True
def SubO (s : S) (n : Nat) : Nat → List Ob → Prop
  | _, [] => True
  | i, o :: l => ((o = .no ∨ s.hp i = o) ∧ ObLt n o) ∧ SubO s n (i + 1) l
def Sub (n0 : Nat) (s : S) (l : List (Nat × V)) (obs : List Ob) : Prop := n0 ≤ obs.length ∧ obs.length ≤ s.nx ∧ SubV s obs.length l ∧ SubO s obs.length 0 obs
/-! ### From a state to one that is written out: blocks renamed, the rest forgotten, what is left told as equations -/
def headId : V → Option Nat
  | .osl id => some id
  | .ptr id _ _ _ => some id
  | .sl id _ _ _ => some id
  | .mp id => some id
  | _ => none
def fndId (s : S) (i : Nat) : List (Nat × V) → Nat
  | [] => i
  | (t, v) :: l => match headId v with
    | some j => match Nat.beq j i with
      | true => match headId (s.sl t) with
        | some k => k
        | none => i
      | false => fndId s i l
    | none => fndId s i l
def fndIds (n0 : Nat) (s : S) (l : List (Nat × V)) : Nat → Nat → List Nat
  | _, 0 => []
  | i, n + 1 => (bif Nat.blt i n0 then i else fndId s i l) :: fndIds n0 s l (i + 1) n
def rnm : List Nat → Nat → Nat
  | [], i => i
  | k :: l, i => match i with
    | 0 => k
    | i + 1 => rnm l i
mutual
def renV (fs : List Nat) : V → V
  | .osl id => .osl (rnm fs id)
  | .ptr id e s f => .ptr (rnm fs id) e s f
  | .sl id lo len s => .sl (rnm fs id) lo len s
  | .mp id => .mp (rnm fs id)
  | .agg cs => .agg (renL fs cs)
  | .tup cs => .tup (renL fs cs)
  | .fn f a b => .fn f (renL fs a) (renL fs b)
  | .ifc t v => .ifc t (renV fs v)
  | .int k m => .int k m
  | .bool b => .bool b
  | .nilp => .nilp
  | .nsl => .nsl
  | .nfn => .nfn
  | .nifc => .nifc
  | .nmp => .nmp
  | .top => .top
def renL (fs : List Nat) : List V → List V
  | [] => []
  | v :: vs => renV fs v :: renL fs vs
end
def renO (fs : List Nat) : Ob → Ob
  | .var t cs => .var t (renL fs cs)
  | o => o
mutual
def eqVV : V → V → Prop
  | .int k a, .int k' b => match decide (k = k') with
    | true => a = b
    | false => False
  | .bool a, .bool b => a = b
  | .agg cs, .agg ds => eqVL cs ds
  | .tup cs, .tup ds => eqVL cs ds
  | .ptr i e s f, .ptr i' e' s' f' => match Nat.beq i i' && Nat.beq s s' && Nat.beq f f' with
    | true => e = e'
    | false => False
  | .sl i a b s, .sl i' a' b' s' => match Nat.beq i i' && Nat.beq s s' with
    | true => a = a' ∧ b = b'
    | false => False
  | .osl i, .osl i' => match Nat.beq i i' with
    | true => True
    | false => False
  | .mp i, .mp i' => match Nat.beq i i' with
    | true => True
    | false => False
  | .fn f a b, .fn f' a' b' => match Nat.beq f f' with
    | true => eqVL a a' ∧ eqVL b b'
    | false => False
  | .ifc t v, .ifc t' v' => match Nat.beq t t' with
    | true => eqVV v v'
    | false => False
  | .nilp, .nilp => True
  | .nsl, .nsl => True
  | .nfn, .nfn => True
  | .nifc, .nifc => True
  | .nmp, .nmp => True
  | .top, .top => True
  | _, _ => False
def eqVL : List V → List V → Prop
  | [], [] => True
  | v :: vs, w :: ws => eqVV v w ∧ eqVL vs ws
  | _, _ => False
end
def eqOO : Ob → Ob → Prop
  | .var t cs, .var t' ds => match Nat.beq t t' with
    | true => eqVL cs ds
    | false => False
  | .rv cs, .rv ds => eqVL cs ds
  | .ro E l, .ro E' l' => if e : E = E' then castL e l = l' else False
  | .own t E l, .own t' E' l' => match Nat.beq t t' with
    | true => if e : E = E' then castL e l = l' else False
    | false => False
  | .mp ka KE va VE m, .mp ka' KE' va' VE' m' => match mobj ka' KE' va' VE' (.mp ka KE va VE m) with
    | some m2 => m2 = m'
    | none => False
  | _, _ => False
def isNo : Ob → Bool
  | .no => true
  | _ => false
def keepB : List Nat → List Ob → List Nat
  | k :: fs, o :: os => bif isNo o then keepB fs os else k :: keepB fs os
  | _, _ => []
def nodupB : List Nat → Bool
  | [] => true
  | k :: l => !memB k l && nodupB l
def vltsB (n : Nat) : List (Nat × V) → Bool
  | [] => true
  | (_, v) :: l => V.lt n v && vltsB n l
def oltB (n : Nat) : Ob → Bool
  | .var _ cs => V.lts n cs
  | _ => true
def oltsB (n : Nat) : List Ob → Bool
  | [] => true
  | o :: l => oltB n o && oltsB n l
def eqVs (s : S) (fs : List Nat) : List (Nat × V) → Prop
  | [] => True
  | (t, v) :: l => eqVV (s.sl t) (renV fs v) ∧ eqVs s fs l
def eqOs (s : S) (fs : List Nat) : Nat → List Ob → Prop
  | _, [] => True
  | i, o :: l => match isNo o with
    | true => eqOs s fs (i + 1) l
    | false => eqOO (s.hp (rnm fs i)) (renO fs o) ∧ eqOs s fs (i + 1) l
def SubQ (n0 : Nat) (s : S) (l : List (Nat × V)) (obs : List Ob) : Prop := forceI (fndIds n0 s l 0 obs.length) fun fs =>
  match Nat.ble n0 obs.length && fs.all (fun k => Nat.blt k s.nx) && nodupB (keepB fs obs) && vltsB obs.length l && oltsB obs.length obs with
  | true => eqVs s fs l ∧ eqOs s fs 0 obs
  | false => False
/-- What holds at a loop's head: by the loop's name, a measure. -/
abbrev Inv := Nat → Nat → List (Nat × V) → List Ob → Prop
/-- So many rounds at most. -/
def unrR (F : (S → Prop) → S → Prop) : Nat → S → Prop
  | 0 => fun _ => False
  | k + 1 => F (unrR F k)
def awp (T : Tab) (D : DTab) (Iv : Inv) (n0 : Nat) : AC → (AX → S → Prop) → S → Prop
  | .skip, Q, s => Q .nrm s
  | .reg l, Q, s => runOps T l (Q .nrm) (fun v => Q (.pan v)) s
  | .drw l, Q, s => forceN s.nx fun n0 => forceN (n0 + 8 * l.length) fun top => drun D n0 top 0 l [] (Q .nrm) (fun v => Q (.pan v)) ⟨s.sl, clr n0 s.hp, top⟩
  | .seq a b, Q, s => awp T D Iv n0 a (fun e s' => match e with
      | .nrm => awp T D Iv n0 b Q s'
      | .ext id => Q (.ext id) s'
      | .ret => Q .ret s'
      | .pan v => Q (.pan v) s') s
  | .seqc nm a b, Q, s => awp T D Iv n0 a (fun e s' => match e with
      | .nrm => ∃ m l obs, Iv nm m l obs ∧ Sub n0 s' l obs
      | .ext id => Q (.ext id) s'
      | .ret => Q .ret s'
      | .pan v => Q (.pan v) s') s ∧ ∀ m l obs, Iv nm m l obs → awp T D Iv n0 b Q (St l obs)
  | .cond x a b, Q, s => match rd s x with
    | .bool t => bcase t (awp T D Iv n0 a Q s) (awp T D Iv n0 b Q s)
    | _ => False
  | .blk id c, Q, s => awp T D Iv n0 c (fun e s' => match e with
      | .nrm => Q .nrm s'
      | .ext id' => bif Nat.beq id' id then Q .nrm s' else Q (.ext id') s'
      | .ret => Q .ret s'
      | .pan v => Q (.pan v) s') s
  | .loop nm c, Q, s => (∃ m l obs, Iv nm m l obs ∧ Sub n0 s l obs) ∧
      ∀ m l obs, Iv nm m l obs → awp T D Iv n0 c (fun e s' => match e with
        | .nrm => ∃ m' l' obs', m' < m ∧ Iv nm m' l' obs' ∧ Sub n0 s' l' obs'
        | .ext id => Q (.ext id) s'
        | .ret => Q .ret s'
        | .pan v => Q (.pan v) s') (St l obs)
  | .lpq nm c, Q, s => (∃ m l obs, Iv nm m l obs ∧ SubQ n0 s l obs) ∧
      ∀ m l obs, Iv nm m l obs → awp T D Iv n0 c (fun e s' => match e with
        | .nrm => ∃ m' l' obs', m' < m ∧ Iv nm m' l' obs' ∧ SubQ n0 s' l' obs'
        | .ext id => Q (.ext id) s'
        | .ret => Q .ret s'
        | .pan v => Q (.pan v) s') (St l obs)
  | .unr k c, Q, s => unrR (fun K s => awp T D Iv n0 c (fun e s' => match e with
        | .nrm => K s'
        | .ext id => Q (.ext id) s'
        | .ret => Q .ret s'
        | .pan v => Q (.pan v) s') s) k s
  | .exit id, Q, s => Q (.ext id) s
  | .ret, Q, s => Q .ret s

/-- A function's results. -/
inductive ARes where
  | tmp (t : Nat)
  | cell (a n : Nat) (agg : Bool)
def resV (s : S) : List ARes → Option (List V)
  | [] => some []
  | .tmp t :: r => match resV s r with
    | some vs => some (s.sl t :: vs)
    | none => none
  | .cell a n agg :: r => match ldF s.hp n agg (s.sl a), resV s r with
    | .val v, some vs => some (v :: vs)
    | _, _ => none
def tupV : List V → V
  | [v] => v
  | vs => .tup vs
def fin (res : List ARes) (K : Out → (Nat → Ob) → Nat → Prop) (e : AX) (s : S) : Prop :=
  match e with
  | .nrm => match resV s res with
    | some vs => K (.ret (tupV vs)) s.hp s.nx
    | none => False
  | .ret => match resV s res with
    | some vs => K (.ret (tupV vs)) s.hp s.nx
    | none => False
  | .pan v => K (.pan v) s.hp s.nx
  | .ext _ => False
def argSl : List V → Nat → Nat → V
  | [], _, _ => .top
  | v :: vs, i, j => bif Nat.beq j i then v else argSl vs (i + 1) j
structure AFn where
  np : Nat
  body : AC
  res : List ARes
def runFn (T : Tab) (D : DTab) (Iv : Inv) (fn : AFn) (args : List V) (h : Nat → Ob) (n : Nat) (K : Out → (Nat → Ob) → Nat → Prop) : Prop :=
  match decide (args.length = fn.np) with
  | true => awp T D Iv n fn.body (fin fn.res K) ⟨argSl args 0, h, n⟩
  | false => False
/-- Each loop so many rounds at most. -/
def AC.unroll (k : Nat) : AC → AC
  | .seq a b => .seq (a.unroll k) (b.unroll k)
  | .seqc nm a b => .seqc nm (a.unroll k) (b.unroll k)
  | .cond x a b => .cond x (a.unroll k) (b.unroll k)
  | .blk id c => .blk id (c.unroll k)
  | .loop _ c => .unr k (c.unroll k)
  | .lpq _ c => .unr k (c.unroll k)
  | .unr _ c => .unr k (c.unroll k)
  | .skip => .skip
  | .reg l => .reg l
  | .drw l => .drw l
  | .exit id => .exit id
  | .ret => .ret
/-- The part of a code at a path. -/
def AC.at : List Nat → AC → AC
  | [], c => c
  | 0 :: p, .seq a _ => a.at p
  | _ :: p, .seq _ b => b.at p
  | 0 :: p, .seqc _ a _ => a.at p
  | _ :: p, .seqc _ _ b => b.at p
  | 0 :: p, .cond _ a _ => a.at p
  | _ :: p, .cond _ _ b => b.at p
  | p, .blk _ c => c.at p
  | p, .loop _ c => c.at p
  | p, .lpq _ c => c.at p
  | p, .unr _ c => c.at p
  | _, c => c
/-- A cut behind the first part of the sequence at a path (left 0, right 1; into a branch, a block, a loop 0 or 1). -/
def AC.cutP (nm : Nat) : List Nat → AC → AC
  | [], .seq a b => .seqc nm a b
  | 0 :: p, .seq a b => .seq (a.cutP nm p) b
  | _ :: p, .seq a b => .seq a (b.cutP nm p)
  | 0 :: p, .seqc n a b => .seqc n (a.cutP nm p) b
  | _ :: p, .seqc n a b => .seqc n a (b.cutP nm p)
  | 0 :: p, .cond x a b => .cond x (a.cutP nm p) b
  | _ :: p, .cond x a b => .cond x a (b.cutP nm p)
  | p, .blk id c => .blk id (c.cutP nm p)
  | p, .loop n c => .loop n (c.cutP nm p)
  | p, .lpq n c => .lpq n (c.cutP nm p)
  | p, .unr n c => .unr n (c.cutP nm p)
  | _, c => c
def AFn.cutP (nm : Nat) (p : List Nat) (f : AFn) : AFn := ⟨f.np, f.body.cutP nm p, f.res⟩
/-- Each loop with what holds at its head told as equations. -/
def AC.lq : AC → AC
  | .seq a b => .seq a.lq b.lq
  | .seqc nm a b => .seqc nm a.lq b.lq
  | .cond x a b => .cond x a.lq b.lq
  | .blk id c => .blk id c.lq
  | .loop nm c => .lpq nm c.lq
  | .lpq nm c => .lpq nm c.lq
  | .unr k c => .unr k c.lq
  | .skip => .skip
  | .reg l => .reg l
  | .drw l => .drw l
  | .exit id => .exit id
  | .ret => .ret
def AFn.lq (f : AFn) : AFn := ⟨f.np, f.body.lq, f.res⟩
def AFn.unroll (k : Nat) (f : AFn) : AFn := ⟨f.np, f.body.unroll k, f.res⟩
end Go.Proofs.YtbolfnkgbjkbjaaGreat.AM
