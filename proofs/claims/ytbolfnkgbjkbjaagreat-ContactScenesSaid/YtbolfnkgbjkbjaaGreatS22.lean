/- Contracts, part 22: contacts. -/
import Derived.Test.YtbolfnkgbjkbjaaGreatS21
set_option linter.unusedVariables false
set_option linter.unusedSimpArgs false
namespace Go.Proofs.YtbolfnkgbjkbjaaGreat.AM
open Go Go.RowKit
set_option maxRecDepth 100000

/-- A body: team, number, place, speed, spin, out. -/
abbrev Bd := Int × Int × Int × Int × Int × Int × Int × Bool
abbrev bdOk (b : Bd) : Prop := BodyOk b.1 b.2.1 b.2.2.1 b.2.2.2.1 b.2.2.2.2.1 b.2.2.2.2.2.1 b.2.2.2.2.2.2.1
abbrev bdv (b : Bd) : V := .agg [i64 b.1, i64 b.2.1, i64 b.2.2.1, i64 b.2.2.2.1, i64 b.2.2.2.2.1, i64 b.2.2.2.2.2.1, i64 b.2.2.2.2.2.2.1, .bool b.2.2.2.2.2.2.2]
abbrev bdTouch (a b : Bd) : Prop := TouchP a.2.2.1 a.2.2.2.1 b.2.2.1 b.2.2.2.1 a.2.2.2.2.2.2.2 b.2.2.2.2.2.2.2
/-- The unit vector of a difference. -/
def unitX (dx dy : Int) : Int := shareS dx (dx * dx + dy * dy)
def unitY (dx dy : Int) : Int := shareS dy (dx * dx + dy * dy)
/-- How fast two bodies come together; what they exchange. -/
def closeJ (dx dy rx ry : Int) : Int := (rx * unitX dx dy + ry * unitY dx dy) / 65536
def pushI (j el : Int) : Int := (j * (1000 + el)).tdiv 2000
def pushX (dx dy rx ry el : Int) : Int := (unitX dx dy * pushI (closeJ dx dy rx ry) el).tdiv 65536
def pushY (dx dy rx ry el : Int) : Int := (unitY dx dy * pushI (closeJ dx dy rx ry) el).tdiv 65536
def bdPush (b : Bd) (x y : Int) : Bd := (b.1, b.2.1, b.2.2.1, b.2.2.2.1, b.2.2.2.2.1 + x, b.2.2.2.2.2.1 + y, b.2.2.2.2.2.2.1, b.2.2.2.2.2.2.2)
/-- Two valid bodies that touch, after a contact; none: out of range. -/
def meetB (a b : Bd) (el : Int) : Option (Bd × Bd × Bool) :=
  if closeJ (b.2.2.1 - a.2.2.1) (b.2.2.2.1 - a.2.2.2.1) (a.2.2.2.2.1 - b.2.2.2.2.1) (a.2.2.2.2.2.1 - b.2.2.2.2.2.1) ≤ 0 then some (a, b, false)
  else if ¬ bdOk (bdPush a (-(pushX (b.2.2.1 - a.2.2.1) (b.2.2.2.1 - a.2.2.2.1) (a.2.2.2.2.1 - b.2.2.2.2.1) (a.2.2.2.2.2.1 - b.2.2.2.2.2.1) el)) (-(pushY (b.2.2.1 - a.2.2.1) (b.2.2.2.1 - a.2.2.2.1) (a.2.2.2.2.1 - b.2.2.2.2.1) (a.2.2.2.2.2.1 - b.2.2.2.2.2.1) el))) then none
  else if ¬ bdOk (bdPush b (pushX (b.2.2.1 - a.2.2.1) (b.2.2.2.1 - a.2.2.2.1) (a.2.2.2.2.1 - b.2.2.2.2.1) (a.2.2.2.2.2.1 - b.2.2.2.2.2.1) el) (pushY (b.2.2.1 - a.2.2.1) (b.2.2.2.1 - a.2.2.2.1) (a.2.2.2.2.1 - b.2.2.2.2.1) (a.2.2.2.2.2.1 - b.2.2.2.2.2.1) el)) then none
  else some (bdPush a (-(pushX (b.2.2.1 - a.2.2.1) (b.2.2.2.1 - a.2.2.2.1) (a.2.2.2.2.1 - b.2.2.2.2.1) (a.2.2.2.2.2.1 - b.2.2.2.2.2.1) el)) (-(pushY (b.2.2.1 - a.2.2.1) (b.2.2.2.1 - a.2.2.2.1) (a.2.2.2.2.1 - b.2.2.2.2.1) (a.2.2.2.2.2.1 - b.2.2.2.2.2.1) el)),
    bdPush b (pushX (b.2.2.1 - a.2.2.1) (b.2.2.2.1 - a.2.2.2.1) (a.2.2.2.2.1 - b.2.2.2.2.1) (a.2.2.2.2.2.1 - b.2.2.2.2.2.1) el) (pushY (b.2.2.1 - a.2.2.1) (b.2.2.2.1 - a.2.2.2.1) (a.2.2.2.2.1 - b.2.2.2.2.1) (a.2.2.2.2.2.1 - b.2.2.2.2.2.1) el), true)
def bdZero : Bd := (0, 0, 0, 0, 0, 0, 0, false)
/-- contact.Meet: two bodies, whether they met, the error. -/
def meetT (a b : Bd) (el : Int) : Bd × Bd × Bool × Int :=
  if ¬ bdOk a then (bdZero, bdZero, false, 2) else if ¬ bdOk b then (bdZero, bdZero, false, 2) else if ¬ (0 ≤ el ∧ el ≤ 1000) then (bdZero, bdZero, false, 2)
  else if bdTouch a b then match meetB a b el with
    | some (x, y, m) => (x, y, m, 0)
    | none => (bdZero, bdZero, false, 4)
  else (a, b, false, 0)
theorem meetB_eq (a b : Bd) (el j px py : Int) (hj : closeJ (b.2.2.1 - a.2.2.1) (b.2.2.2.1 - a.2.2.2.1) (a.2.2.2.2.1 - b.2.2.2.2.1) (a.2.2.2.2.2.1 - b.2.2.2.2.2.1) = j)
    (hx : pushX (b.2.2.1 - a.2.2.1) (b.2.2.2.1 - a.2.2.2.1) (a.2.2.2.2.1 - b.2.2.2.2.1) (a.2.2.2.2.2.1 - b.2.2.2.2.2.1) el = px) (hy : pushY (b.2.2.1 - a.2.2.1) (b.2.2.2.1 - a.2.2.2.1) (a.2.2.2.2.1 - b.2.2.2.2.1) (a.2.2.2.2.2.1 - b.2.2.2.2.2.1) el = py) :
    meetB a b el = if j ≤ 0 then some (a, b, false) else if ¬ bdOk (bdPush a (-px) (-py)) then none else if ¬ bdOk (bdPush b px py) then none else some (bdPush a (-px) (-py), bdPush b px py, true) := by
  subst hj hx hy
  rfl
theorem meetT_a (a b : Bd) (el : Int) (h : ¬ bdOk a) : meetT a b el = (bdZero, bdZero, false, 2) := by unfold meetT; rw [if_pos h]
theorem meetT_b (a b : Bd) (el : Int) (h : ¬ bdOk b) : meetT a b el = (bdZero, bdZero, false, 2) := by
  by_cases ha : bdOk a
  · unfold meetT
    rw [if_neg (fun hh => hh ha), if_pos h]
  · exact meetT_a a b el ha
theorem meetT_l (a b : Bd) (el : Int) (h : ¬ (0 ≤ el ∧ el ≤ 1000)) : meetT a b el = (bdZero, bdZero, false, 2) := by
  by_cases ha : bdOk a
  · by_cases hb : bdOk b
    · unfold meetT
      rw [if_neg (fun hh => hh ha), if_neg (fun hh => hh hb), if_pos h]
    · exact meetT_b a b el hb
  · exact meetT_a a b el ha
theorem meetT_far (a b : Bd) (el : Int) (ha : bdOk a) (hb : bdOk b) (hl : 0 ≤ el ∧ el ≤ 1000) (h : ¬ bdTouch a b) : meetT a b el = (a, b, false, 0) := by
  unfold meetT
  rw [if_neg (fun hh => hh ha), if_neg (fun hh => hh hb), if_neg (fun hh => hh hl), if_neg h]
theorem meetT_near (a b : Bd) (el : Int) (ha : bdOk a) (hb : bdOk b) (hl : 0 ≤ el ∧ el ≤ 1000) (h : bdTouch a b) : meetT a b el = match meetB a b el with
    | some (x, y, m) => (x, y, m, 0)
    | none => (bdZero, bdZero, false, 4) := by
  unfold meetT
  rw [if_neg (fun hh => hh ha), if_neg (fun hh => hh hb), if_neg (fun hh => hh hl), if_pos h]
theorem shareS_le (x s : Int) : -65536 ≤ shareS x s ∧ shareS x s ≤ 65536 := by
  have h := shGo_le x.natAbs s 17 0 (Nat.zero_le _)
  unfold shareS
  split <;> omega
theorem mul_bnd (a b A B : Int) (ha : -A ≤ a ∧ a ≤ A) (hb : -B ≤ b ∧ b ≤ B) : 0 ≤ (a.natAbs : Int) * (b.natAbs : Int) ∧ (a.natAbs : Int) * (b.natAbs : Int) ≤ A * B := by
  have h1 : (a.natAbs : Int) ≤ A := by omega
  have h2 : (b.natAbs : Int) ≤ B := by omega
  exact ⟨Int.mul_nonneg (by omega) (by omega), Int.mul_le_mul h1 h2 (by omega) (by omega)⟩
theorem mul_bnd2 (a b A B : Int) (ha : -A ≤ a ∧ a ≤ A) (hb : -B ≤ b ∧ b ≤ B) : -(A * B) ≤ a * b ∧ a * b ≤ A * B := by
  have h := (mul_bnd a b A B ha hb).2
  have e : ((a * b).natAbs : Int) = (a.natAbs : Int) * (b.natAbs : Int) := by rw [Int.natAbs_mul]; exact Int.natCast_mul _ _
  rw [← e] at h
  omega
theorem tdiv_bnd (n d B : Int) (hd : 0 < d) (h : -(B * d) ≤ n ∧ n ≤ B * d) : -B ≤ n.tdiv d ∧ n.tdiv d ≤ B := by
  rcases Int.le_total 0 n with h0 | h0
  · rw [Int.tdiv_eq_ediv_of_nonneg h0]
    have h1 : n / d ≤ B := Int.ediv_le_of_le_mul hd h.2
    have h2 : 0 ≤ n / d := Int.ediv_nonneg h0 (by omega)
    omega
  · have e : n.tdiv d = -((-n) / d) := by
      rw [← Int.tdiv_eq_ediv_of_nonneg (show 0 ≤ -n by omega), Int.neg_tdiv, Int.neg_neg]
    rw [e]
    have h1 : (-n) / d ≤ B := Int.ediv_le_of_le_mul hd (by omega)
    have h2 : 0 ≤ (-n) / d := Int.ediv_nonneg (by omega) (by omega)
    omega
/-- What keeps a contact within the numbers. -/
theorem meet_facts (ux uy rx ry el : Int) (hux : -65536 ≤ ux ∧ ux ≤ 65536) (huy : -65536 ≤ uy ∧ uy ≤ 65536) (hrx : -131072000 ≤ rx ∧ rx ≤ 131072000) (hry : -131072000 ≤ ry ∧ ry ≤ 131072000) (hel : 0 ≤ el ∧ el ≤ 1000) :
    (0 ≤ ((rx.natAbs : Int) * (ux.natAbs : Int) + (ry.natAbs : Int) * (uy.natAbs : Int)) ∧ ((rx.natAbs : Int) * (ux.natAbs : Int) + (ry.natAbs : Int) * (uy.natAbs : Int)) ≤ 17179869184000) ∧
    ∀ j, j = (rx * ux + ry * uy) / 65536 → (-262144000 ≤ j ∧ j ≤ 262144000) ∧ (0 ≤ (j.natAbs : Int) * ((1000 + el).natAbs : Int) ∧ (j.natAbs : Int) * ((1000 + el).natAbs : Int) ≤ 524288000000) ∧
    ∀ i, i = (j * (1000 + el)).tdiv 2000 → (-262144000 ≤ i ∧ i ≤ 262144000) ∧ (0 ≤ (ux.natAbs : Int) * (i.natAbs : Int) ∧ (ux.natAbs : Int) * (i.natAbs : Int) ≤ 17179869184000) ∧ (0 ≤ (uy.natAbs : Int) * (i.natAbs : Int) ∧ (uy.natAbs : Int) * (i.natAbs : Int) ≤ 17179869184000) ∧
      (-262144000 ≤ (ux * i).tdiv 65536 ∧ (ux * i).tdiv 65536 ≤ 262144000) ∧ (-262144000 ≤ (uy * i).tdiv 65536 ∧ (uy * i).tdiv 65536 ≤ 262144000) := by
  have a1 := mul_bnd rx ux 131072000 65536 hrx hux
  have a2 := mul_bnd ry uy 131072000 65536 hry huy
  have b1 := mul_bnd2 rx ux 131072000 65536 hrx hux
  have b2 := mul_bnd2 ry uy 131072000 65536 hry huy
  refine ⟨by omega, ?_⟩
  intro j hj
  have hj1 : -262144000 ≤ j ∧ j ≤ 262144000 := by omega
  have c1 := mul_bnd j (1000 + el) 262144000 2000 hj1 (by omega)
  have c2 := mul_bnd2 j (1000 + el) 262144000 2000 hj1 (by omega)
  refine ⟨hj1, by omega, ?_⟩
  intro i hi
  have hi1 : -262144000 ≤ i ∧ i ≤ 262144000 := by rw [hi]; exact tdiv_bnd _ 2000 _ (by decide) (by omega)
  have d1 := mul_bnd ux i 65536 262144000 hux hi1
  have d2 := mul_bnd uy i 65536 262144000 huy hi1
  have e1 := mul_bnd2 ux i 65536 262144000 hux hi1
  have e2 := mul_bnd2 uy i 65536 262144000 huy hi1
  exact ⟨hi1, by omega, by omega, tdiv_bnd _ 65536 _ (by decide) (by omega), tdiv_bnd _ 65536 _ (by decide) (by omega)⟩
theorem sum_sq_pos (x y : Int) (h : x ≠ 0 ∨ y ≠ 0) : 0 < x * x + y * y := by
  have hx : 0 ≤ x * x := by
    rcases Int.le_total 0 x with h | h
    · exact Int.mul_nonneg h h
    · rw [← Int.neg_mul_neg]; exact Int.mul_nonneg (by omega) (by omega)
  have hy : 0 ≤ y * y := by
    rcases Int.le_total 0 y with h | h
    · exact Int.mul_nonneg h h
    · rw [← Int.neg_mul_neg]; exact Int.mul_nonneg (by omega) (by omega)
  have hx2 : x * x = 0 → x = 0 := fun e => by rcases Int.mul_eq_zero.1 e with e | e <;> exact e
  have hy2 : y * y = 0 → y = 0 := fun e => by rcases Int.mul_eq_zero.1 e with e | e <;> exact e
  by_cases e : x * x = 0
  · by_cases e2 : y * y = 0
    · have := hx2 e; have := hy2 e2; omega
    · omega
  · omega

def T22a_0 : Tab := T21.add 45 (absT .all (liftA (ofD g45)))
def T22a_1 : Tab := T22a_0.add 81 (runFn T22a_0 noD noIv a81)
def T22a_2 : Tab := T22a_1.add 83 (runFn T22a_1 noD noIv a83)
def T22a_3 : Tab := T22a_2.add 84 (absT (.l [.all, .no]) (liftA (ofD g84)))
def T22a_4 : Tab := T22a_3.add 57 (absT (.l [.all, .no]) (liftA (ofD g57)))
def T22a_5 : Tab := T22a_4.add 82 (absT (.l [.all, .no]) (liftA (ofD g82)))
def T22a : Tab := T22a_5.add 85 (absT (.l [.all, .no]) (liftA (ofD g85)))
theorem T22a_0_ok : TabOk Tryz.prog T22a_0 := T21_ok.add (absT_ok .all (entry_of_fresh r45))
theorem T22a_1_ok : TabOk Tryz.prog T22a_1 := T22a_0_ok.add (fn_entry T22a_0_ok (noD_ok _) noIv Tryz.func81 c81)
theorem T22a_2_ok : TabOk Tryz.prog T22a_2 := T22a_1_ok.add (fn_entry T22a_1_ok (noD_ok _) noIv Tryz.func83 c83)
theorem T22a_3_ok : TabOk Tryz.prog T22a_3 := T22a_2_ok.add (absT_ok (.l [.all, .no]) (entry_of_fresh r84))
theorem T22a_4_ok : TabOk Tryz.prog T22a_4 := T22a_3_ok.add (absT_ok (.l [.all, .no]) (entry_of_fresh r57))
theorem T22a_5_ok : TabOk Tryz.prog T22a_5 := T22a_4_ok.add (absT_ok (.l [.all, .no]) (entry_of_fresh r82))
theorem T22a_ok : TabOk Tryz.prog T22a := T22a_5_ok.add (absT_ok (.l [.all, .no]) (entry_of_fresh r85))
def D22 : DTab := (((((((D19).add 76 ((viewD g76).abs (.l [.all, .no]))).add 81 (viewD g81)).add 82 ((viewD g82).abs (.l [.all, .no]))).add 83 (viewD g83)).add 85 ((viewD g85).abs (.l [.all, .no]))).add 86 ((viewD g86_0).abs (.l [.all, .no]))).add 57 ((viewD g57).abs (.l [.all, .no]))
theorem D22_ok : TabOk Tryz.prog (tabD D22) := DTab.add_ok (DTab.add_ok (DTab.add_ok (DTab.add_ok (DTab.add_ok (DTab.add_ok (DTab.add_ok (D19_ok) (dabs_ok (.l [.all, .no]) (dok r76))) (dok r81)) (dabs_ok (.l [.all, .no]) (dok r82))) (dok r83)) (dabs_ok (.l [.all, .no]) (dok r85))) (dabs_ok (.l [.all, .no]) (dok r86_0))) (dabs_ok (.l [.all, .no]) (dok r57))
def T22_0 : Tab := T22a.add 53 (runFn T22a D22 noIv a53)
def T22_1 : Tab := T22_0.add 52 (runFn T22_0 D22 noIv a52)
def T22 : Tab := T22_1.add 51 (runTried T22_1 D22 noIv a51)
theorem T22_0_ok : TabOk Tryz.prog T22_0 := T22a_ok.add (fn_entry T22a_ok D22_ok noIv Tryz.func53 c53)
theorem T22_1_ok : TabOk Tryz.prog T22_1 := T22_0_ok.add (fn_entry T22_0_ok D22_ok noIv Tryz.func52 c52)
theorem T22_ok : TabOk Tryz.prog T22 := T22_1_ok.add (tried_entry T22_1_ok D22_ok noIv Tryz.func51 Tryz.func80 c51 d51)
/-- contact.Meet -/
def g17 : GSpec := fun args obs => match args, obs with
  | [.agg [.int .i64 t1, .int .i64 n1, .int .i64 ax, .int .i64 ay, .int .i64 sx, .int .i64 sy, .int .i64 sp, .bool o1], .agg [.int .i64 t2, .int .i64 n2, .int .i64 bx, .int .i64 cy, .int .i64 ux, .int .i64 uy, .int .i64 up, .bool o2], .int .i64 el], [] => some (True, .ret (.tup [bdv (meetT (t1, n1, ax, ay, sx, sy, sp, o1) (t2, n2, bx, cy, ux, uy, up, o2) el).1, bdv (meetT (t1, n1, ax, ay, sx, sy, sp, o1) (t2, n2, bx, cy, ux, uy, up, o2) el).2.1, .bool (meetT (t1, n1, ax, ay, sx, sy, sp, o1) (t2, n2, bx, cy, ux, uy, up, o2) el).2.2.1, i64 (meetT (t1, n1, ax, ay, sx, sy, sp, o1) (t2, n2, bx, cy, ux, uy, up, o2) el).2.2.2]), [])
  | _, _ => none
theorem k17 (t1 n1 ax ay sx sy sp : Int) (o1 : Bool) (t2 n2 bx cy ux uy up : Int) (o2 : Bool) (el : Int) (K' : Out → List Ob → Prop) : runFn (T22) (D22) noIv a17 [.agg [.int .i64 t1, .int .i64 n1, .int .i64 ax, .int .i64 ay, .int .i64 sx, .int .i64 sy, .int .i64 sp, .bool o1], .agg [.int .i64 t2, .int .i64 n2, .int .i64 bx, .int .i64 cy, .int .i64 ux, .int .i64 uy, .int .i64 up, .bool o2], .int .i64 el] (lookO []) 0 (closeK K') =
    ((True) ∧
    (True) ∧
    (True) ∧
    (True) ∧
    (True) ∧
    (True) ∧
    (True) ∧
    (True) ∧
    (True) ∧
    ((True ∧ True ∧ True ∧ True ∧ True ∧ True ∧ True ∧ True ∧ True) ∧ True) ∧
    (True) ∧
    bcase (!decide (BodyOk t1 n1 ax ay sx sy sp))
     ((True) ∧
     (True) ∧
     K'
  (Out.ret
    (V.tup
      [V.agg
          [V.int IntKind.i64 (0 : Int), V.int IntKind.i64 (0 : Int), V.int IntKind.i64 (0 : Int),
            V.int IntKind.i64 (0 : Int), V.int IntKind.i64 (0 : Int), V.int IntKind.i64 (0 : Int),
            V.int IntKind.i64 (0 : Int), V.bool false],
        V.agg
          [V.int IntKind.i64 (0 : Int), V.int IntKind.i64 (0 : Int), V.int IntKind.i64 (0 : Int),
            V.int IntKind.i64 (0 : Int), V.int IntKind.i64 (0 : Int), V.int IntKind.i64 (0 : Int),
            V.int IntKind.i64 (0 : Int), V.bool false],
        V.bool false, V.int IntKind.i64 (2 : Int)]))
  [])
     (((True ∧ True ∧ True ∧ True ∧ True ∧ True ∧ True ∧ True ∧ True) ∧ True) ∧
     (True) ∧
     bcase (bif false then true else !decide (BodyOk t2 n2 bx cy ux uy up))
      ((True) ∧
      (True) ∧
      K'
  (Out.ret
    (V.tup
      [V.agg
          [V.int IntKind.i64 (0 : Int), V.int IntKind.i64 (0 : Int), V.int IntKind.i64 (0 : Int),
            V.int IntKind.i64 (0 : Int), V.int IntKind.i64 (0 : Int), V.int IntKind.i64 (0 : Int),
            V.int IntKind.i64 (0 : Int), V.bool false],
        V.agg
          [V.int IntKind.i64 (0 : Int), V.int IntKind.i64 (0 : Int), V.int IntKind.i64 (0 : Int),
            V.int IntKind.i64 (0 : Int), V.int IntKind.i64 (0 : Int), V.int IntKind.i64 (0 : Int),
            V.int IntKind.i64 (0 : Int), V.bool false],
        V.bool false, V.int IntKind.i64 (2 : Int)]))
  [])
      ((True ∧ True ∧ True ∧ True) ∧
      (True) ∧
      bcase (bif false then true else !decide ((0 : Int) ≤ el ∧ el ≤ (1000 : Int)))
       ((True) ∧
       (True) ∧
       K'
  (Out.ret
    (V.tup
      [V.agg
          [V.int IntKind.i64 (0 : Int), V.int IntKind.i64 (0 : Int), V.int IntKind.i64 (0 : Int),
            V.int IntKind.i64 (0 : Int), V.int IntKind.i64 (0 : Int), V.int IntKind.i64 (0 : Int),
            V.int IntKind.i64 (0 : Int), V.bool false],
        V.agg
          [V.int IntKind.i64 (0 : Int), V.int IntKind.i64 (0 : Int), V.int IntKind.i64 (0 : Int),
            V.int IntKind.i64 (0 : Int), V.int IntKind.i64 (0 : Int), V.int IntKind.i64 (0 : Int),
            V.int IntKind.i64 (0 : Int), V.bool false],
        V.bool false, V.int IntKind.i64 (2 : Int)]))
  [])
       ((True) ∧
       (True) ∧
       (True) ∧
       ((True ∧ True ∧ True ∧ True ∧ True ∧ True ∧ True ∧ True ∧ True) ∧
  (True ∧ True ∧ True ∧ True ∧ True ∧ True ∧ True ∧ True ∧ True) ∧ True) ∧
       ((((-6553600000 : Int) ≤ ax ∧ ax ≤ (6553600000 : Int)) ∧ (-6553600000 : Int) ≤ ay ∧ ay ≤ (6553600000 : Int)) ∧
  ((-6553600000 : Int) ≤ bx ∧ bx ≤ (6553600000 : Int)) ∧ (-6553600000 : Int) ≤ cy ∧ cy ≤ (6553600000 : Int)) ∧
       (∀ (z0 : Bool),
       ((z0 = decide (TouchP ax ay bx cy o1 o2)) →
       bcase (z0)
        ((((True ∧ True ∧ True) ∧ (True ∧ True ∧ True) ∧ True) ∧
  (fixOk bx ∧ fixOk cy ∧ fixOk ax ∧ fixOk ay) ∧ fixOk (bx - ax) ∧ fixOk (cy - ay)) ∧
        (∀ (z2 : Int),
        ((z2 = bx - ax) →
        (∀ (z4 : Int),
        ((z4 = cy - ay) →
        (((True ∧ True ∧ True) ∧ True ∧ True) ∧ (0 : Int) = (0 : Int)) ∧
        (((True ∧ True ∧ True) ∧ True) ∧ fixOk z2 ∧ fixOk z4 ∧ (0 : Int) < z2 * z2 + z4 * z4) ∧
        (∀ (z6 : Int),
        ((z6 = shareS z2 (z2 * z2 + z4 * z4)) →
        (∀ (z8 : Int),
        ((z8 = shareS z4 (z2 * z2 + z4 * z4)) →
        (((True ∧ True ∧ True) ∧ True ∧ True) ∧ (0 : Int) = (0 : Int)) ∧
        (True) ∧
        (True) ∧
        (((True ∧ True ∧ True) ∧ (True ∧ True ∧ True) ∧ True) ∧
  (fixOk sx ∧ fixOk sy ∧ fixOk ux ∧ fixOk uy) ∧ fixOk (sx - ux) ∧ fixOk (sy - uy)) ∧
        (∀ (z10 : Int),
        ((z10 = sx - ux) →
        (∀ (z12 : Int),
        ((z12 = sy - uy) →
        (((True ∧ True ∧ True) ∧ True ∧ True) ∧ (0 : Int) = (0 : Int)) ∧
        (True) ∧
        (True) ∧
        ((True ∧ True ∧ True) ∧ (True ∧ True ∧ True) ∧ True ∧ True) ∧
        ((fixOk z10 ∧ fixOk z12 ∧ fixOk z6 ∧ fixOk z8) ∧
  (↑z10.natAbs * ↑z6.natAbs + ↑z12.natAbs * ↑z8.natAbs) / (65536 : Int) < (70368744177664 : Int)) ∧
        (∀ (z14 : Int),
        ((z14 = (z10 * z6 + z12 * z8) / (65536 : Int)) →
        bcase (decide (z14 ≤ (0 : Int)))
         ((True) ∧
         (True) ∧
         (True) ∧
         (True) ∧
         (True) ∧
         (True) ∧
         K'
  (Out.ret
    (V.tup
      [V.agg
          [V.int IntKind.i64 t1, V.int IntKind.i64 n1, V.int IntKind.i64 ax, V.int IntKind.i64 ay, V.int IntKind.i64 sx,
            V.int IntKind.i64 sy, V.int IntKind.i64 sp, V.bool o1],
        V.agg
          [V.int IntKind.i64 t2, V.int IntKind.i64 n2, V.int IntKind.i64 bx, V.int IntKind.i64 cy, V.int IntKind.i64 ux,
            V.int IntKind.i64 uy, V.int IntKind.i64 up, V.bool o2],
        V.bool (bif true then false else false), V.int IntKind.i64 (0 : Int)]))
  [])
         (((True ∧ True ∧ True ∧ True ∧ True) ∧
  fixOk z14 ∧
    ((-2147483648 : Int) ≤ IntKind.i64.wrap ((1000 : Int) + el) ∧
        IntKind.i64.wrap ((1000 : Int) + el) ≤ (2147483648 : Int)) ∧
      ((0 : Int) < (2000 : Int) ∧ (2000 : Int) ≤ (2147483648 : Int)) ∧
        ↑z14.natAbs * ↑(IntKind.i64.wrap ((1000 : Int) + el)).natAbs / (2000 : Int) < (70368744177664 : Int)) ∧
         (∀ (z16 : Int),
         ((z16 = (z14 * IntKind.i64.wrap ((1000 : Int) + el)).tdiv (2000 : Int)) →
         ((True ∧ True ∧ True) ∧ (0 : Int) = (0 : Int)) ∧
         (((True ∧ True ∧ True) ∧ True ∧ True ∧ True) ∧
  (fixOk z6 ∧ fixOk z8 ∧ fixOk z16) ∧
    ↑z6.natAbs * ↑z16.natAbs / (65536 : Int) < (70368744177664 : Int) ∧
      ↑z8.natAbs * ↑z16.natAbs / (65536 : Int) < (70368744177664 : Int)) ∧
         (∀ (z18 : Int),
         ((z18 = (z6 * z16).tdiv (65536 : Int)) →
         (∀ (z20 : Int),
         ((z20 = (z8 * z16).tdiv (65536 : Int)) →
         (((True ∧ True ∧ True) ∧ True ∧ True) ∧ (0 : Int) = (0 : Int)) ∧
         (True) ∧
         (True) ∧
         (((True ∧ True ∧ True) ∧ (True ∧ True ∧ True) ∧ True) ∧
  (fixOk sx ∧ fixOk sy ∧ fixOk z18 ∧ fixOk z20) ∧ fixOk (sx - z18) ∧ fixOk (sy - z20)) ∧
         (∀ (z22 : Int),
         ((z22 = sx - z18) →
         (∀ (z24 : Int),
         ((z24 = sy - z20) →
         (((True ∧ True ∧ True) ∧ True ∧ True) ∧ (0 : Int) = (0 : Int)) ∧
         (True) ∧
         (((True ∧ True ∧ True) ∧ (True ∧ True ∧ True) ∧ True) ∧
  (fixOk ux ∧ fixOk uy ∧ fixOk z18 ∧ fixOk z20) ∧ fixOk (ux + z18) ∧ fixOk (uy + z20)) ∧
         (∀ (z26 : Int),
         ((z26 = ux + z18) →
         (∀ (z28 : Int),
         ((z28 = uy + z20) →
         (((True ∧ True ∧ True) ∧ True ∧ True) ∧ (0 : Int) = (0 : Int)) ∧
         (True) ∧
         ((True ∧ True ∧ True ∧ True ∧ True ∧ True ∧ True ∧ True ∧ True) ∧ True) ∧
         (True) ∧
         bcase (!decide (BodyOk t1 n1 ax ay z22 z24 sp))
          ((True) ∧
          (True) ∧
          (True) ∧
          (True) ∧
          (True) ∧
          K'
  (Out.ret
    (V.tup
      [V.agg
          [V.int IntKind.i64 (0 : Int), V.int IntKind.i64 (0 : Int), V.int IntKind.i64 (0 : Int),
            V.int IntKind.i64 (0 : Int), V.int IntKind.i64 (0 : Int), V.int IntKind.i64 (0 : Int),
            V.int IntKind.i64 (0 : Int), V.bool false],
        V.agg
          [V.int IntKind.i64 (0 : Int), V.int IntKind.i64 (0 : Int), V.int IntKind.i64 (0 : Int),
            V.int IntKind.i64 (0 : Int), V.int IntKind.i64 (0 : Int), V.int IntKind.i64 (0 : Int),
            V.int IntKind.i64 (0 : Int), V.bool false],
        V.bool false, V.int IntKind.i64 (4 : Int)]))
  [])
          (((True ∧ True ∧ True ∧ True ∧ True ∧ True ∧ True ∧ True ∧ True) ∧ True) ∧
          (True) ∧
          bcase (bif false then true else !decide (BodyOk t2 n2 bx cy z26 z28 up))
           ((True) ∧
           (True) ∧
           (True) ∧
           (True) ∧
           (True) ∧
           K'
  (Out.ret
    (V.tup
      [V.agg
          [V.int IntKind.i64 (0 : Int), V.int IntKind.i64 (0 : Int), V.int IntKind.i64 (0 : Int),
            V.int IntKind.i64 (0 : Int), V.int IntKind.i64 (0 : Int), V.int IntKind.i64 (0 : Int),
            V.int IntKind.i64 (0 : Int), V.bool false],
        V.agg
          [V.int IntKind.i64 (0 : Int), V.int IntKind.i64 (0 : Int), V.int IntKind.i64 (0 : Int),
            V.int IntKind.i64 (0 : Int), V.int IntKind.i64 (0 : Int), V.int IntKind.i64 (0 : Int),
            V.int IntKind.i64 (0 : Int), V.bool false],
        V.bool false, V.int IntKind.i64 (4 : Int)]))
  [])
           ((True) ∧
           (True) ∧
           (True) ∧
           (True) ∧
           (True) ∧
           (True) ∧
           K'
  (Out.ret
    (V.tup
      [V.agg
          [V.int IntKind.i64 t1, V.int IntKind.i64 n1, V.int IntKind.i64 ax, V.int IntKind.i64 ay,
            V.int IntKind.i64 z22, V.int IntKind.i64 z24, V.int IntKind.i64 sp, V.bool o1],
        V.agg
          [V.int IntKind.i64 t2, V.int IntKind.i64 n2, V.int IntKind.i64 bx, V.int IntKind.i64 cy,
            V.int IntKind.i64 z26, V.int IntKind.i64 z28, V.int IntKind.i64 up, V.bool o2],
        V.bool (bif true then true else false), V.int IntKind.i64 (0 : Int)]))
  []))))))))))))))))))))))))))))))))
        ((True) ∧
        (True) ∧
        (True) ∧
        (True) ∧
        (True) ∧
        (True) ∧
        K'
  (Out.ret
    (V.tup
      [V.agg
          [V.int IntKind.i64 t1, V.int IntKind.i64 n1, V.int IntKind.i64 ax, V.int IntKind.i64 ay, V.int IntKind.i64 sx,
            V.int IntKind.i64 sy, V.int IntKind.i64 sp, V.bool o1],
        V.agg
          [V.int IntKind.i64 t2, V.int IntKind.i64 n2, V.int IntKind.i64 bx, V.int IntKind.i64 cy, V.int IntKind.i64 ux,
            V.int IntKind.i64 uy, V.int IntKind.i64 up, V.bool o2],
        V.bool false, V.int IntKind.i64 (0 : Int)]))
  []))))))) := by kernel_rfl
theorem r17 : FreshOk Tryz.prog 17 (ofD g17) := by
  refine fresh_of_run T22_ok D22_ok (fun _ _ => noIv) Tryz.func17 c17 fun args obs K' hk => ?_
  unfold ofD g17 at hk
  split at hk
  · rename_i d_ out news hg
    split at hg
    · rename_i t1 n1 ax ay sx sy sp o1 t2 n2 bx cy ux uy up o2 el
      cases hg
      obtain ⟨hc, hk⟩ := hk
      refine Eq.mpr (k17 t1 n1 ax ay sx sy sp o1 t2 n2 bx cy ux uy up o2 el K') ⟨trivial, trivial, trivial, trivial, trivial, trivial, trivial, trivial, trivial, ⟨⟨trivial, ⟨trivial, ⟨trivial, ⟨trivial, ⟨trivial, ⟨trivial, ⟨trivial, ⟨trivial, trivial⟩⟩⟩⟩⟩⟩⟩⟩, trivial⟩, trivial, ?_⟩
      · refine bcase_i (fun h => ?_) (fun h => ?_)
        · have h : ¬ BodyOk t1 n1 ax ay sx sy sp := fun hh => by simp [hh] at h
          rw [meetT_a (t1, n1, ax, ay, sx, sy, sp, o1) (t2, n2, bx, cy, ux, uy, up, o2) el h] at hk
          repeat refine And.intro True.intro ?_
          exact hk
        have h : BodyOk t1 n1 ax ay sx sy sp := Decidable.of_not_not fun hh => by simp [hh] at h
        refine And.intro (by first | omega | (simp only [true_and, and_true]; done) | (simp only [true_and, and_true]; omega)) (And.intro (by first | omega | (simp only [true_and, and_true]; done) | (simp only [true_and, and_true]; omega)) ?_)
        refine bcase_i (fun h' => ?_) (fun h' => ?_)
        · have h' : ¬ BodyOk t2 n2 bx cy ux uy up := fun hh => by simp [hh] at h'
          rw [meetT_b (t1, n1, ax, ay, sx, sy, sp, o1) (t2, n2, bx, cy, ux, uy, up, o2) el h'] at hk
          repeat refine And.intro True.intro ?_
          exact hk
        have h' : BodyOk t2 n2 bx cy ux uy up := Decidable.of_not_not fun hh => by simp [hh] at h'
        refine And.intro (by first | omega | (simp only [true_and, and_true]; done) | (simp only [true_and, and_true]; omega)) (And.intro (by first | omega | (simp only [true_and, and_true]; done) | (simp only [true_and, and_true]; omega)) ?_)
        refine bcase_i (fun hl => ?_) (fun hl => ?_)
        · have hl : ¬ (0 ≤ el ∧ el ≤ 1000) := fun hh => by simp [hh] at hl
          rw [meetT_l (t1, n1, ax, ay, sx, sy, sp, o1) (t2, n2, bx, cy, ux, uy, up, o2) el hl] at hk
          repeat refine And.intro True.intro ?_
          exact hk
        have hl : 0 ≤ el ∧ el ≤ 1000 := Decidable.of_not_not fun hh => by simp [hh] at hl
        have ew : IntKind.i64.wrap (1000 + el) = 1000 + el := IntWalk.i64_in _ (by omega)
        repeat refine And.intro True.intro ?_
        refine And.intro (by first | omega | (simp only [true_and, and_true]; done) | (simp only [true_and, and_true]; omega)) (And.intro (by first | omega | (simp only [true_and, and_true]; done) | (simp only [true_and, and_true]; omega)) ?_)
        intro z0 e0
        refine bcase_i (fun ht => ?_) (fun ht => ?_)
        rotate_left
        · have ht : ¬ TouchP ax ay bx cy o1 o2 := fun hh => by simp [e0, hh] at ht
          rw [meetT_far (t1, n1, ax, ay, sx, sy, sp, o1) (t2, n2, bx, cy, ux, uy, up, o2) el h h' hl ht] at hk
          repeat refine And.intro True.intro ?_
          exact hk
        have ht : TouchP ax ay bx cy o1 o2 := Decidable.of_not_not fun hh => by simp [e0, hh] at ht
        rw [meetT_near (t1, n1, ax, ay, sx, sy, sp, o1) (t2, n2, bx, cy, ux, uy, up, o2) el h h' hl ht] at hk
        refine And.intro (by first | omega | (simp only [true_and, and_true]; done) | (simp only [true_and, and_true]; omega)) ?_
        intro z2 e2 z4 e4
        have hS := sum_sq_pos (bx - ax) (cy - ay) ht.2.2
        rw [← e2, ← e4] at hS
        refine And.intro (by first | omega | (simp only [true_and, and_true]; done) | (simp only [true_and, and_true]; omega)) (And.intro ⟨⟨⟨trivial, trivial, trivial⟩, trivial⟩, by omega, by omega, hS⟩ ?_)
        intro z6 e6 z8 e8
        have b6 := shareS_le z2 (z2 * z2 + z4 * z4)
        have b8 := shareS_le z4 (z2 * z2 + z4 * z4)
        rw [← e6] at b6
        rw [← e8] at b8
        refine And.intro (by first | omega | (simp only [true_and, and_true]; done) | (simp only [true_and, and_true]; omega)) ?_
        repeat refine And.intro True.intro ?_
        refine And.intro (by first | omega | (simp only [true_and, and_true]; done) | (simp only [true_and, and_true]; omega)) ?_
        intro z10 e10 z12 e12
        obtain ⟨f1, f2⟩ := meet_facts z6 z8 z10 z12 el b6 b8 (by omega) (by omega) hl
        refine And.intro (by first | omega | (simp only [true_and, and_true]; done) | (simp only [true_and, and_true]; omega)) ?_
        repeat refine And.intro True.intro ?_
        refine And.intro (by first | omega | (simp only [true_and, and_true]; done) | (simp only [true_and, and_true]; omega)) (And.intro ⟨by omega, by clear hk f2; generalize (z10.natAbs : Int) * (z6.natAbs : Int) + (z12.natAbs : Int) * (z8.natAbs : Int) = p at *; omega⟩ ?_)
        intro z14 e14
        obtain ⟨g1, g2, g3⟩ := f2 z14 e14
        have ej : closeJ (bx - ax) (cy - ay) (sx - ux) (sy - uy) = z14 := by
          subst e2 e4 e6 e8 e10 e12 e14
          rfl
        refine bcase_i (fun hj => ?_) (fun hj => ?_)
        · have hj := of_decide_eq_true hj
          rw [meetB_eq (t1, n1, ax, ay, sx, sy, sp, o1) (t2, n2, bx, cy, ux, uy, up, o2) el z14 _ _ ej rfl rfl, if_pos hj] at hk
          repeat refine And.intro True.intro ?_
          exact hk
        have hj := of_decide_eq_false hj
        simp only [ew]
        refine And.intro ⟨⟨trivial, trivial, trivial, trivial, trivial⟩, by omega, by omega, by omega, by clear hk g3 f1; generalize (z14.natAbs : Int) * ((1000 + el).natAbs : Int) = p at *; omega⟩ ?_
        intro z16 e16
        obtain ⟨i1, i2, i3, i4, i5⟩ := g3 z16 e16
        refine And.intro (by first | omega | (simp only [true_and, and_true]; done) | (simp only [true_and, and_true]; omega)) (And.intro ⟨⟨⟨trivial, trivial, trivial⟩, trivial, trivial, trivial⟩, by omega, by clear hk g3 f1 g2 i3; generalize (z6.natAbs : Int) * (z16.natAbs : Int) = p at *; omega, by clear hk g3 f1 g2 i2; generalize (z8.natAbs : Int) * (z16.natAbs : Int) = p at *; omega⟩ ?_)
        intro z18 e18 z20 e20
        have epx : pushX (bx - ax) (cy - ay) (sx - ux) (sy - uy) el = z18 := by
          subst e18 e16
          subst e2 e4 e6 e8 e10 e12 e14
          rfl
        have epy : pushY (bx - ax) (cy - ay) (sx - ux) (sy - uy) el = z20 := by
          subst e20 e16
          subst e2 e4 e6 e8 e10 e12 e14
          rfl
        rw [meetB_eq (t1, n1, ax, ay, sx, sy, sp, o1) (t2, n2, bx, cy, ux, uy, up, o2) el z14 z18 z20 ej epx epy, if_neg hj] at hk
        rw [← e18] at i4
        rw [← e20] at i5
        clear i2 i3 g2 f1 g3
        refine And.intro (by first | omega | (simp only [true_and, and_true]; done) | (simp only [true_and, and_true]; omega)) ?_
        repeat refine And.intro True.intro ?_
        refine And.intro (by first | omega | (simp only [true_and, and_true]; done) | (simp only [true_and, and_true]; omega)) ?_
        intro z22 e22 z24 e24
        have p22 : sx + -z18 = z22 := by omega
        have p24 : sy + -z20 = z24 := by omega
        refine And.intro (by first | omega | (simp only [true_and, and_true]; done) | (simp only [true_and, and_true]; omega)) ?_
        repeat refine And.intro True.intro ?_
        refine And.intro (by first | omega | (simp only [true_and, and_true]; done) | (simp only [true_and, and_true]; omega)) ?_
        intro z26 e26 z28 e28
        have p26 : ux + z18 = z26 := by omega
        have p28 : uy + z20 = z28 := by omega
        have q1 : bdPush (t1, n1, ax, ay, sx, sy, sp, o1) (-z18) (-z20) = (t1, n1, ax, ay, z22, z24, sp, o1) := by rw [← p22, ← p24]; rfl
        have q2 : bdPush (t2, n2, bx, cy, ux, uy, up, o2) z18 z20 = (t2, n2, bx, cy, z26, z28, up, o2) := by rw [← p26, ← p28]; rfl
        rw [q1, q2] at hk
        refine And.intro (by first | omega | (simp only [true_and, and_true]; done) | (simp only [true_and, and_true]; omega)) ?_
        repeat refine And.intro True.intro ?_
        refine And.intro (by first | omega | (simp only [true_and, and_true]; done) | (simp only [true_and, and_true]; omega)) (And.intro True.intro ?_)
        refine bcase_i (fun hm => ?_) (fun hm => ?_)
        · have hm : ¬ BodyOk t1 n1 ax ay z22 z24 sp := fun hh => by simp [hh] at hm
          rw [if_pos hm] at hk
          repeat refine And.intro True.intro ?_
          exact hk
        have hm : BodyOk t1 n1 ax ay z22 z24 sp := Decidable.of_not_not fun hh => by simp [hh] at hm
        rw [if_neg (fun hh => hh hm)] at hk
        refine And.intro (by first | omega | (simp only [true_and, and_true]; done) | (simp only [true_and, and_true]; omega)) (And.intro True.intro ?_)
        refine bcase_i (fun hq => ?_) (fun hq => ?_)
        · have hq : ¬ BodyOk t2 n2 bx cy z26 z28 up := fun hh => by simp [hh] at hq
          rw [if_pos hq] at hk
          repeat refine And.intro True.intro ?_
          exact hk
        have hq : BodyOk t2 n2 bx cy z26 z28 up := Decidable.of_not_not fun hh => by simp [hh] at hq
        rw [if_neg (fun hh => hh hq)] at hk
        repeat refine And.intro True.intro ?_
        exact hk
    · cases hg
  · exact hk.elim

end Go.Proofs.YtbolfnkgbjkbjaaGreat.AM
