/- ContactPairs: the statement answers true. Conditions: none. -/
import Derived.ProofKit
import Derived.OpenShut
import Derived.Carry
import Derived.ChangeSame
import Derived.Deep.Slices
import Derived.Test.YtbolfnkgbjkbjaaGreatRows
import Derived.Test.YtbolfnkgbjkbjaaGreatKCp5
section
set_option linter.unusedVariables false
set_option linter.unusedSimpArgs false
namespace Go.Proofs.YtbolfnkgbjkbjaaGreat.AM
open Go Go.RowKit
set_option maxRecDepth 100000

def Z16 : Tab := ((noTab.add 46 (liftA (ofD g46))).add 47 (liftA (ofD g47))).add 49 (liftA (ofD g49))
theorem Z16_ok : TabOk Tryz.prog Z16 := (((noTab_ok _).add (entry_of_fresh r46)).add (entry_of_fresh r47)).add (entry_of_fresh r49)
/-- Touch -/
def g14 : GSpec := fun args obs => match args, obs with
  | [.agg [.int .i64 t1, .int .i64 n1, .int .i64 ax, .int .i64 ay, .int .i64 sx, .int .i64 sy, .int .i64 sp, .bool o1], .agg [.int .i64 t2, .int .i64 n2, .int .i64 bx, .int .i64 cy, .int .i64 ux, .int .i64 uy, .int .i64 up, .bool o2]], [] => some (True, .ret (.tup [.bool (decide (BodyOk t1 n1 ax ay sx sy sp ∧ BodyOk t2 n2 bx cy ux uy up ∧ TouchP ax ay bx cy o1 o2)), i64 (if BodyOk t1 n1 ax ay sx sy sp ∧ BodyOk t2 n2 bx cy ux uy up then 0 else 2)]), [])
  | _, _ => none
theorem k14 (t1 n1 ax ay sx sy sp : Int) (o1 : Bool) (t2 n2 bx cy ux uy up : Int) (o2 : Bool) (K' : Out → List Ob → Prop) : runFn (Z16) (noD) noIv a14 [.agg [.int .i64 t1, .int .i64 n1, .int .i64 ax, .int .i64 ay, .int .i64 sx, .int .i64 sy, .int .i64 sp, .bool o1], .agg [.int .i64 t2, .int .i64 n2, .int .i64 bx, .int .i64 cy, .int .i64 ux, .int .i64 uy, .int .i64 up, .bool o2]] (lookO []) 0 (closeK K') =
    ((True) ∧
    (True) ∧
    ((True ∧ True ∧ True ∧ True ∧ True ∧ True ∧ True ∧ True ∧ True) ∧ True) ∧
    (True) ∧
    ((True ∧ True ∧ True ∧ True ∧ True ∧ True ∧ True ∧ True ∧ True) ∧ True) ∧
    (True) ∧
    bcase (!decide (BodyOk t1 n1 ax ay sx sy sp))
     (K' (Out.ret (V.tup [V.bool false, V.int IntKind.i64 (2 : Int)])) [])
     (bcase (bif false then true else !decide (BodyOk t2 n2 bx cy ux uy up))
      (K' (Out.ret (V.tup [V.bool false, V.int IntKind.i64 (2 : Int)])) [])
      (((True ∧ True ∧ True ∧ True ∧ True ∧ True ∧ True ∧ True ∧ True) ∧
  (True ∧ True ∧ True ∧ True ∧ True ∧ True ∧ True ∧ True ∧ True) ∧ True) ∧
      (BodyOk t1 n1 ax ay sx sy sp ∧ BodyOk t2 n2 bx cy ux uy up) ∧
      K' (Out.ret (V.tup [V.bool (decide (TouchP ax ay bx cy o1 o2)), V.int IntKind.i64 (0 : Int)])) []))) := by kernel_rfl
theorem r14 : FreshOk Tryz.prog 14 (ofD g14) := by
  refine fresh_of_run Z16_ok (noD_ok _) (fun _ _ => noIv) Tryz.func14 c14 fun args obs K' hk => ?_
  unfold ofD g14 at hk
  split at hk
  · rename_i d_ out news hg
    split at hg
    · rename_i t1 n1 ax ay sx sy sp o1 t2 n2 bx cy ux uy up o2
      cases hg
      obtain ⟨hc, hk⟩ := hk
      refine Eq.mpr (k14 t1 n1 ax ay sx sy sp o1 t2 n2 bx cy ux uy up o2 K') ⟨trivial, trivial, ⟨⟨trivial, ⟨trivial, ⟨trivial, ⟨trivial, ⟨trivial, ⟨trivial, ⟨trivial, ⟨trivial, trivial⟩⟩⟩⟩⟩⟩⟩⟩, trivial⟩, trivial, ⟨⟨trivial, ⟨trivial, ⟨trivial, ⟨trivial, ⟨trivial, ⟨trivial, ⟨trivial, ⟨trivial, trivial⟩⟩⟩⟩⟩⟩⟩⟩, trivial⟩, trivial, ?_⟩
      · by_cases h1 : BodyOk t1 n1 ax ay sx sy sp
        · by_cases h2 : BodyOk t2 n2 bx cy ux uy up
          · refine bcase_f (bF h1) (bcase_f (bF h2) ⟨⟨⟨trivial, trivial, trivial, trivial, trivial, trivial, trivial, trivial, trivial⟩, ⟨trivial, trivial, trivial, trivial, trivial, trivial, trivial, trivial, trivial⟩, trivial⟩, ⟨h1, h2⟩, ?_⟩)
            exact lfbi hk (decide_eq_decide.2 ⟨fun hh => ⟨h1, h2, hh⟩, fun hh => hh.2.2⟩) (by rw [if_pos ⟨h1, h2⟩])
          · refine bcase_f (bF h1) (bcase_t (by rw [decide_eq_false h2]; rfl) ?_)
            exact lfbi hk (decide_eq_false (fun hh => h2 hh.2.1)).symm (by rw [if_neg (fun hh => h2 hh.2)])
        · refine bcase_t (by rw [decide_eq_false h1]; rfl) ?_
          exact lfbi hk (decide_eq_false (fun hh => h1 hh.1)).symm (by rw [if_neg (fun hh => h1 hh.1)])
    · cases hg
  · exact hk.elim
/-- Gone -/
def g16 : GSpec := fun args obs => match args, obs with
  | [.agg [.int .i64 t1, .int .i64 n1, .int .i64 ax, .int .i64 ay, .int .i64 sx, .int .i64 sy, .int .i64 sp, .bool o1]], [] => some (True, .ret (.tup [.bool (decide (BodyOk t1 n1 ax ay sx sy sp ∧ ((146145280 ≤ ax ∨ ax ≤ -146145280) ∨ 129368064 < ay ∨ ay < -1977417728))), i64 (if BodyOk t1 n1 ax ay sx sy sp then 0 else 2)]), [])
  | _, _ => none
theorem k16 (t1 n1 ax ay sx sy sp : Int) (o1 : Bool) (K' : Out → List Ob → Prop) : runFn (Z16) (noD) noIv a16 [.agg [.int .i64 t1, .int .i64 n1, .int .i64 ax, .int .i64 ay, .int .i64 sx, .int .i64 sy, .int .i64 sp, .bool o1]] (lookO []) 0 (closeK K') =
    ((True) ∧
    ((True ∧ True ∧ True ∧ True ∧ True ∧ True ∧ True ∧ True ∧ True) ∧ True) ∧
    (True) ∧
    bcase (!decide (BodyOk t1 n1 ax ay sx sy sp))
     (K' (Out.ret (V.tup [V.bool false, V.int IntKind.i64 (2 : Int)])) [])
     (((True ∧ True ∧ True ∧ True ∧ True ∧ True ∧ True ∧ True ∧ True) ∧ True) ∧
     (True) ∧
     K'
  (Out.ret
    (V.tup
      [V.bool
          (decide
            (((146145280 : Int) ≤ ax ∨ ax ≤ (-146145280 : Int)) ∨ (129368064 : Int) < ay ∨ ay < (-1977417728 : Int))),
        V.int IntKind.i64 (0 : Int)]))
  [])) := by kernel_rfl
theorem r16 : FreshOk Tryz.prog 16 (ofD g16) := by
  refine fresh_of_run Z16_ok (noD_ok _) (fun _ _ => noIv) Tryz.func16 c16 fun args obs K' hk => ?_
  unfold ofD g16 at hk
  split at hk
  · rename_i d_ out news hg
    split at hg
    · rename_i t1 n1 ax ay sx sy sp o1
      cases hg
      obtain ⟨hc, hk⟩ := hk
      refine Eq.mpr (k16 t1 n1 ax ay sx sy sp o1 K') ⟨trivial, ⟨⟨trivial, ⟨trivial, ⟨trivial, ⟨trivial, ⟨trivial, ⟨trivial, ⟨trivial, ⟨trivial, trivial⟩⟩⟩⟩⟩⟩⟩⟩, trivial⟩, trivial, ?_⟩
      · by_cases h1 : BodyOk t1 n1 ax ay sx sy sp
        · refine bcase_f (bF h1) ⟨⟨⟨trivial, trivial, trivial, trivial, trivial, trivial, trivial, trivial, trivial⟩, trivial⟩, trivial, ?_⟩
          exact lfbi hk (decide_eq_decide.2 ⟨fun hh => ⟨h1, hh⟩, fun hh => hh.2⟩) (by rw [if_pos h1])
        · refine bcase_t (by rw [decide_eq_false h1]; rfl) ?_
          exact lfbi hk (decide_eq_false (fun hh => h1 hh.1)).symm (by rw [if_neg h1])
    · cases hg
  · exact hk.elim

end Go.Proofs.YtbolfnkgbjkbjaaGreat.AM
end
section
set_option linter.unusedVariables false
set_option linter.unusedSimpArgs false
namespace Go.Proofs.YtbolfnkgbjkbjaaGreat.AM
open Go Go.RowKit
set_option maxRecDepth 100000

/-- contact.Gone -/
def g15 : GSpec := fun args obs => match args, obs with
  | [.agg [.int .i64 t1, .int .i64 n1, .int .i64 ax, .int .i64 ay, .int .i64 sx, .int .i64 sy, .int .i64 sp, .bool o1]], [] => some (True, .ret (.tup [.bool (decide (BodyOk t1 n1 ax ay sx sy sp ∧ ((146145280 ≤ ax ∨ ax ≤ -146145280) ∨ 129368064 < ay ∨ ay < -1977417728))), i64 (if BodyOk t1 n1 ax ay sx sy sp then 0 else 2)]), [])
  | _, _ => none
theorem k15 (t1 n1 ax ay sx sy sp : Int) (o1 : Bool) (K' : Out → List Ob → Prop) : runFn (T20d) (noD) noIv a15 [.agg [.int .i64 t1, .int .i64 n1, .int .i64 ax, .int .i64 ay, .int .i64 sx, .int .i64 sy, .int .i64 sp, .bool o1]] (lookO []) 0 (closeK K') =
    ((True) ∧
    (True) ∧
    (True) ∧
    ((True ∧ True ∧ True ∧ True ∧ True ∧ True ∧ True ∧ True ∧ True) ∧ True) ∧
    (True) ∧
    bcase (!decide (BodyOk t1 n1 ax ay sx sy sp))
     (K' (Out.ret (V.tup [V.bool false, V.int IntKind.i64 (2 : Int)])) [])
     (((True ∧ True ∧ True ∧ True ∧ True ∧ True ∧ True ∧ True ∧ True) ∧ True) ∧
     ((-6553600000 : Int) ≤ ax ∧ ax ≤ (6553600000 : Int)) ∧
     K'
  (Out.ret
    (V.tup
      [V.bool
          (decide
            (((146145280 : Int) ≤ ax ∨ ax ≤ (-146145280 : Int)) ∨ (129368064 : Int) < ay ∨ ay < (-1977417728 : Int))),
        V.int IntKind.i64 (0 : Int)]))
  [])) := by kernel_rfl
theorem r15 : FreshOk Tryz.prog 15 (ofD g15) := by
  refine fresh_of_run T20d_ok (noD_ok _) (fun _ _ => noIv) Tryz.func15 c15 fun args obs K' hk => ?_
  unfold ofD g15 at hk
  split at hk
  · rename_i d_ out news hg
    split at hg
    · rename_i t1 n1 ax ay sx sy sp o1
      cases hg
      obtain ⟨hc, hk⟩ := hk
      refine Eq.mpr (k15 t1 n1 ax ay sx sy sp o1 K') ⟨trivial, trivial, trivial, ⟨⟨trivial, ⟨trivial, ⟨trivial, ⟨trivial, ⟨trivial, ⟨trivial, ⟨trivial, ⟨trivial, trivial⟩⟩⟩⟩⟩⟩⟩⟩, trivial⟩, trivial, ?_⟩
      · by_cases h1 : BodyOk t1 n1 ax ay sx sy sp
        · refine bcase_f (bF h1) ⟨⟨⟨trivial, trivial, trivial, trivial, trivial, trivial, trivial, trivial, trivial⟩, trivial⟩, h1.2.2.1.1, ?_⟩
          exact lfbi hk (decide_eq_decide.2 ⟨fun hh => ⟨h1, hh⟩, fun hh => hh.2⟩) (by rw [if_pos h1])
        · refine bcase_t (by rw [decide_eq_false h1]; rfl) ?_
          exact lfbi hk (decide_eq_false (fun hh => h1 hh.1)).symm (by rw [if_neg h1])
    · cases hg
  · exact hk.elim

end Go.Proofs.YtbolfnkgbjkbjaaGreat.AM
end
section
set_option linter.unusedVariables false
set_option linter.unusedSimpArgs false
namespace Go.Proofs.YtbolfnkgbjkbjaaGreat.AM
open Go Go.RowKit
set_option maxRecDepth 100000

theorem mul_sgn (a b : Int) : a * b = if (decide (a < 0) != decide (b < 0)) = true then -((a.natAbs * b.natAbs : Nat) : Int) else ((a.natAbs * b.natAbs : Nat) : Int) := by
  rw [Int.natCast_mul]
  by_cases ha : a < 0 <;> by_cases hb : b < 0
  · have e1 : (a.natAbs : Int) = -a := by omega
    have e2 : (b.natAbs : Int) = -b := by omega
    rw [if_neg (by simp [ha, hb]), e1, e2, Int.neg_mul_neg]
  · have e1 : (a.natAbs : Int) = -a := by omega
    have e2 : (b.natAbs : Int) = b := by omega
    rw [if_pos (by simp [ha, hb]), e1, e2, Int.neg_mul, Int.neg_neg]
  · have e1 : (a.natAbs : Int) = a := by omega
    have e2 : (b.natAbs : Int) = -b := by omega
    rw [if_pos (by simp [ha, hb]), e1, e2, Int.mul_neg, Int.neg_neg]
  · have e1 : (a.natAbs : Int) = a := by omega
    have e2 : (b.natAbs : Int) = b := by omega
    rw [if_neg (by simp [ha, hb]), e1, e2]
theorem rndC_tdiv (a b : Int) (d : Nat) : rndC (decide (a < 0) != decide (b < 0)) (a.natAbs * b.natAbs) d = (a * b).tdiv d := by
  rw [mul_sgn a b]
  unfold rndC
  generalize a.natAbs * b.natAbs = n
  generalize (decide (a < 0) != decide (b < 0)) = s
  have e : ((n : Nat) : Int).tdiv (d : Int) = ((n / d : Nat) : Int) := rfl
  cases s
  · rw [if_neg (by decide), e]; rfl
  · rw [if_pos rfl, Int.neg_tdiv, e]; rfl
theorem rndC_pos (a n : Int) (d : Nat) (hn : 0 ≤ n) : rndC (decide (a < 0)) (a.natAbs * n.natAbs) d = (a * n).tdiv d := by
  rw [← rndC_tdiv]
  have e : decide (n < 0) = false := decide_eq_false (by omega)
  rw [e, Bool.bne_false]
theorem natSum (x y : Int) : ((x.natAbs * x.natAbs + y.natAbs * y.natAbs : Nat) : Int) = x * x + y * y := by
  rw [Int.natCast_add, Int.natCast_mul, Int.natCast_mul, Int.natAbs_mul_self', Int.natAbs_mul_self']
/-- Two bodies after a contact, whether they met, the error. -/
def meetR (a b : Bd) (el : Int) : Bd × Bd × Bool × Int := match meetB a b el with
  | some (x, y, m) => (x, y, m, 0)
  | none => (bdZero, bdZero, false, 4)
abbrev pairV (r : Bd × Bd × Bool × Int) : V := .agg [i64 r.1.1, i64 r.1.2.1, i64 r.1.2.2.1, i64 r.1.2.2.2.1, i64 r.1.2.2.2.2.1, i64 r.1.2.2.2.2.2.1, i64 r.1.2.2.2.2.2.2.1, .bool r.1.2.2.2.2.2.2.2,
  i64 r.2.1.1, i64 r.2.1.2.1, i64 r.2.1.2.2.1, i64 r.2.1.2.2.2.1, i64 r.2.1.2.2.2.2.1, i64 r.2.1.2.2.2.2.2.1, i64 r.2.1.2.2.2.2.2.2.1, .bool r.2.1.2.2.2.2.2.2.2, .bool r.2.2.1]
theorem meetR_none (a b : Bd) (el : Int) (h : meetB a b el = none) : meetR a b el = (bdZero, bdZero, false, 4) := by unfold meetR; rw [h]
theorem meetR_some (a b x y : Bd) (m : Bool) (el : Int) (h : meetB a b el = some (x, y, m)) : meetR a b el = (x, y, m, 0) := by unfold meetR; rw [h]

def Z18 : Tab := ((((noTab.add 46 (liftA (ofD g46))).add 88 (absT (.l [.all, .no]) (liftA (ofD g88)))).add 89 (absT (.l [.all, .no]) (liftA (ofD g89)))).add 90 (absT (.l [.all, .no]) (liftA (ofD g90)))).add 91 (absT (.l [.all, .no]) (liftA (ofD g91)))
theorem Z18_ok : TabOk Tryz.prog Z18 := (((((noTab_ok _).add (entry_of_fresh r46)).add (absT_ok (.l [.all, .no]) (entry_of_fresh r88))).add (absT_ok (.l [.all, .no]) (entry_of_fresh r89))).add (absT_ok (.l [.all, .no]) (entry_of_fresh r90))).add (absT_ok (.l [.all, .no]) (entry_of_fresh r91))
/-- meet -/
def g55 : GSpec := fun args obs => match args, obs with
  | [.agg [.int .i64 t1, .int .i64 n1, .int .i64 ax, .int .i64 ay, .int .i64 sx, .int .i64 sy, .int .i64 sp, .bool o1], .agg [.int .i64 t2, .int .i64 n2, .int .i64 bx, .int .i64 cy, .int .i64 ux, .int .i64 uy, .int .i64 up, .bool o2], .int .i64 el], [] => some ((BodyOk t1 n1 ax ay sx sy sp ∧ BodyOk t2 n2 bx cy ux uy up) ∧ (bx - ax ≠ 0 ∨ cy - ay ≠ 0) ∧ 0 ≤ el ∧ el ≤ 1000, .ret (.tup [pairV (meetR (t1, n1, ax, ay, sx, sy, sp, o1) (t2, n2, bx, cy, ux, uy, up, o2) el), i64 (meetR (t1, n1, ax, ay, sx, sy, sp, o1) (t2, n2, bx, cy, ux, uy, up, o2) el).2.2.2]), [])
  | _, _ => none
theorem k55 (t1 n1 ax ay sx sy sp : Int) (o1 : Bool) (t2 n2 bx cy ux uy up : Int) (o2 : Bool) (el : Int) (K' : Out → List Ob → Prop) : runFn (Z18) (noD) noIv a55 [.agg [.int .i64 t1, .int .i64 n1, .int .i64 ax, .int .i64 ay, .int .i64 sx, .int .i64 sy, .int .i64 sp, .bool o1], .agg [.int .i64 t2, .int .i64 n2, .int .i64 bx, .int .i64 cy, .int .i64 ux, .int .i64 uy, .int .i64 up, .bool o2], .int .i64 el] (lookO []) 0 (closeK K') =
    ((True) ∧
    (True) ∧
    (True) ∧
    ((True ∧ True ∧ True) ∧ True) ∧
    ((fixOk (IntKind.i64.wrap (bx - ax)) ∧ fixOk (IntKind.i64.wrap (cy - ay))) ∧
  (0 : Nat) <
    (IntKind.i64.wrap (bx - ax)).natAbs * (IntKind.i64.wrap (bx - ax)).natAbs +
      (IntKind.i64.wrap (cy - ay)).natAbs * (IntKind.i64.wrap (cy - ay)).natAbs) ∧
    (∀ (z0 : Int),
    ((z0 =
  shareS (IntKind.i64.wrap (bx - ax))
    (↑((IntKind.i64.wrap (bx - ax)).natAbs * (IntKind.i64.wrap (bx - ax)).natAbs +
          (IntKind.i64.wrap (cy - ay)).natAbs * (IntKind.i64.wrap (cy - ay)).natAbs) :
      Int)) →
    (∀ (z2 : Int),
    ((z2 =
  shareS (IntKind.i64.wrap (cy - ay))
    (↑((IntKind.i64.wrap (bx - ax)).natAbs * (IntKind.i64.wrap (bx - ax)).natAbs +
          (IntKind.i64.wrap (cy - ay)).natAbs * (IntKind.i64.wrap (cy - ay)).natAbs) :
      Int)) →
    (True) ∧
    (True) ∧
    (True) ∧
    (True) ∧
    ((True ∧ True ∧ True) ∧ (True ∧ True ∧ True) ∧ True ∧ True) ∧
    (fixOk (IntKind.i64.wrap (sx - ux)) ∧
  fixOk (IntKind.i64.wrap (sy - uy)) ∧
    fixOk z0 ∧ fixOk z2 ∧ fixOk ((IntKind.i64.wrap (sx - ux) * z0 + IntKind.i64.wrap (sy - uy) * z2) / (65536 : Int))) ∧
    (∀ (z4 : Int),
    ((z4 = (IntKind.i64.wrap (sx - ux) * z0 + IntKind.i64.wrap (sy - uy) * z2) / (65536 : Int)) →
    bcase (decide (z4 ≤ (0 : Int)))
     ((True) ∧
     K'
  (Out.ret
    (V.tup
      [V.agg
          [V.int IntKind.i64 t1, V.int IntKind.i64 n1, V.int IntKind.i64 ax, V.int IntKind.i64 ay, V.int IntKind.i64 sx,
            V.int IntKind.i64 sy, V.int IntKind.i64 sp, V.bool o1, V.int IntKind.i64 t2, V.int IntKind.i64 n2,
            V.int IntKind.i64 bx, V.int IntKind.i64 cy, V.int IntKind.i64 ux, V.int IntKind.i64 uy,
            V.int IntKind.i64 up, V.bool o2, V.bool false],
        V.int IntKind.i64 (0 : Int)]))
  [])
     ((True ∧ True ∧ True ∧ True ∧ True) ∧
     (fixOk z4 ∧
  ((0 : Int) ≤ IntKind.i64.wrap ((1000 : Int) + el) ∧ IntKind.i64.wrap ((1000 : Int) + el) ≤ (2147483648 : Int)) ∧
    ((0 : Int) < (2000 : Int) ∧ (2000 : Int) ≤ (2147483648 : Int)) ∧
      fixOk
        (rndC (decide (z4 < (0 : Int))) (z4.natAbs * (IntKind.i64.wrap ((1000 : Int) + el)).natAbs)
          (Int.natAbs (2000 : Int)))) ∧
     (∀ (z6 : Int),
     ((z6 =
  rndC (decide (z4 < (0 : Int))) (z4.natAbs * (IntKind.i64.wrap ((1000 : Int) + el)).natAbs) (Int.natAbs (2000 : Int))) →
     ((True ∧ True ∧ True) ∧ True ∧ True ∧ True) ∧
     ((fixOk z0 ∧ fixOk z2 ∧ fixOk z6) ∧
  fixOk (rndC (decide (z0 < (0 : Int)) != decide (z6 < (0 : Int))) (z0.natAbs * z6.natAbs) (65536 : Nat)) ∧
    fixOk (rndC (decide (z2 < (0 : Int)) != decide (z6 < (0 : Int))) (z2.natAbs * z6.natAbs) (65536 : Nat))) ∧
     (∀ (z8 : Int),
     ((z8 = rndC (decide (z0 < (0 : Int)) != decide (z6 < (0 : Int))) (z0.natAbs * z6.natAbs) (65536 : Nat)) →
     (∀ (z10 : Int),
     ((z10 = rndC (decide (z2 < (0 : Int)) != decide (z6 < (0 : Int))) (z2.natAbs * z6.natAbs) (65536 : Nat)) →
     (True) ∧
     (True) ∧
     (True) ∧
     (True) ∧
     ((True ∧ True ∧ True ∧ True ∧ True ∧ True ∧ True ∧ True ∧ True) ∧ True) ∧
     (True) ∧
     ((True ∧ True ∧ True ∧ True ∧ True ∧ True ∧ True ∧ True ∧ True) ∧ True) ∧
     (True) ∧
     bcase (!decide (BodyOk t1 n1 ax ay (IntKind.i64.wrap (sx - z8)) (IntKind.i64.wrap (sy - z10)) sp))
      ((True) ∧
      K'
  (Out.ret
    (V.tup
      [V.agg
          [V.int IntKind.i64 (0 : Int), V.int IntKind.i64 (0 : Int), V.int IntKind.i64 (0 : Int),
            V.int IntKind.i64 (0 : Int), V.int IntKind.i64 (0 : Int), V.int IntKind.i64 (0 : Int),
            V.int IntKind.i64 (0 : Int), V.bool false, V.int IntKind.i64 (0 : Int), V.int IntKind.i64 (0 : Int),
            V.int IntKind.i64 (0 : Int), V.int IntKind.i64 (0 : Int), V.int IntKind.i64 (0 : Int),
            V.int IntKind.i64 (0 : Int), V.int IntKind.i64 (0 : Int), V.bool false, V.bool false],
        V.int IntKind.i64 (4 : Int)]))
  [])
      (bcase (bif false then true else !decide (BodyOk t2 n2 bx cy (IntKind.i64.wrap (ux + z8)) (IntKind.i64.wrap (uy + z10)) up))
       ((True) ∧
       K'
  (Out.ret
    (V.tup
      [V.agg
          [V.int IntKind.i64 (0 : Int), V.int IntKind.i64 (0 : Int), V.int IntKind.i64 (0 : Int),
            V.int IntKind.i64 (0 : Int), V.int IntKind.i64 (0 : Int), V.int IntKind.i64 (0 : Int),
            V.int IntKind.i64 (0 : Int), V.bool false, V.int IntKind.i64 (0 : Int), V.int IntKind.i64 (0 : Int),
            V.int IntKind.i64 (0 : Int), V.int IntKind.i64 (0 : Int), V.int IntKind.i64 (0 : Int),
            V.int IntKind.i64 (0 : Int), V.int IntKind.i64 (0 : Int), V.bool false, V.bool false],
        V.int IntKind.i64 (4 : Int)]))
  [])
       ((True) ∧
       K'
  (Out.ret
    (V.tup
      [V.agg
          [V.int IntKind.i64 t1, V.int IntKind.i64 n1, V.int IntKind.i64 ax, V.int IntKind.i64 ay,
            V.int IntKind.i64 (IntKind.i64.wrap (sx - z8)), V.int IntKind.i64 (IntKind.i64.wrap (sy - z10)),
            V.int IntKind.i64 sp, V.bool o1, V.int IntKind.i64 t2, V.int IntKind.i64 n2, V.int IntKind.i64 bx,
            V.int IntKind.i64 cy, V.int IntKind.i64 (IntKind.i64.wrap (ux + z8)),
            V.int IntKind.i64 (IntKind.i64.wrap (uy + z10)), V.int IntKind.i64 up, V.bool o2, V.bool true],
        V.int IntKind.i64 (0 : Int)]))
  [])))))))))))))))) := by kernel_rfl
theorem r55 : FreshOk Tryz.prog 55 (ofD g55) := by
  refine fresh_of_run Z18_ok (noD_ok _) (fun _ _ => noIv) Tryz.func55 c55 fun args obs K' hk => ?_
  unfold ofD g55 at hk
  split at hk
  · rename_i d_ out news hg
    split at hg
    · rename_i t1 n1 ax ay sx sy sp o1 t2 n2 bx cy ux uy up o2 el
      cases hg
      obtain ⟨hc, hk⟩ := hk
      refine Eq.mpr (k55 t1 n1 ax ay sx sy sp o1 t2 n2 bx cy ux uy up o2 el K') ⟨trivial, trivial, trivial, ⟨⟨trivial, ⟨trivial, trivial⟩⟩, trivial⟩, ?_, ?_⟩
      · obtain ⟨⟨h, h'⟩, ht, hl⟩ := hc
        have w1 : IntKind.i64.wrap (bx - ax) = bx - ax := IntWalk.i64_in _ (by omega)
        have w2 : IntKind.i64.wrap (cy - ay) = cy - ay := IntWalk.i64_in _ (by omega)
        have w3 : IntKind.i64.wrap (sx - ux) = sx - ux := IntWalk.i64_in _ (by omega)
        have w4 : IntKind.i64.wrap (sy - uy) = sy - uy := IntWalk.i64_in _ (by omega)
        have w5 : IntKind.i64.wrap (1000 + el) = 1000 + el := IntWalk.i64_in _ (by omega)
        have hS := sum_sq_pos (bx - ax) (cy - ay) ht
        have eN := natSum (bx - ax) (cy - ay)
        rw [w1, w2]
        exact ⟨⟨by omega, by omega⟩, Int.natCast_pos.1 (eN ▸ hS)⟩
      · obtain ⟨⟨h, h'⟩, ht, hl⟩ := hc
        have w1 : IntKind.i64.wrap (bx - ax) = bx - ax := IntWalk.i64_in _ (by omega)
        have w2 : IntKind.i64.wrap (cy - ay) = cy - ay := IntWalk.i64_in _ (by omega)
        have w3 : IntKind.i64.wrap (sx - ux) = sx - ux := IntWalk.i64_in _ (by omega)
        have w4 : IntKind.i64.wrap (sy - uy) = sy - uy := IntWalk.i64_in _ (by omega)
        have w5 : IntKind.i64.wrap (1000 + el) = 1000 + el := IntWalk.i64_in _ (by omega)
        have hS := sum_sq_pos (bx - ax) (cy - ay) ht
        have eN := natSum (bx - ax) (cy - ay)
        rw [w1, w2, w3, w4, w5, eN]
        intro z0 e0 z2 e2
        have b6 := shareS_le (bx - ax) ((bx - ax) * (bx - ax) + (cy - ay) * (cy - ay))
        have b8 := shareS_le (cy - ay) ((bx - ax) * (bx - ax) + (cy - ay) * (cy - ay))
        rw [← e0] at b6
        rw [← e2] at b8
        obtain ⟨f1, f2⟩ := meet_facts z0 z2 (sx - ux) (sy - uy) el b6 b8 (by omega) (by omega) hl
        repeat refine And.intro True.intro ?_
        obtain ⟨g1, g2, g3⟩ := f2 _ rfl
        refine And.intro ⟨⟨trivial, trivial, trivial⟩, ⟨trivial, trivial, trivial⟩, trivial, trivial⟩ (And.intro ⟨by omega, by omega, by omega, by omega, ⟨by omega, by omega⟩⟩ ?_)
        intro z4 e4
        rw [← e4] at g1 g2 g3
        have ej : closeJ (bx - ax) (cy - ay) (sx - ux) (sy - uy) = z4 := by
          subst e0 e2 e4
          rfl
        refine bcase_i (fun hj => ?_) (fun hj => ?_)
        · have hj := of_decide_eq_true hj
          rw [meetR_some _ _ _ _ _ _ ((meetB_eq (t1, n1, ax, ay, sx, sy, sp, o1) (t2, n2, bx, cy, ux, uy, up, o2) el z4 _ _ ej rfl rfl).trans (if_pos hj))] at hk
          exact ⟨trivial, hk⟩
        have hj := of_decide_eq_false hj
        have e6 : rndC (decide (z4 < 0)) (z4.natAbs * (1000 + el).natAbs) (Int.natAbs 2000) = (z4 * (1000 + el)).tdiv 2000 := rndC_pos z4 (1000 + el) 2000 (by omega)
        rw [e6]
        obtain ⟨i1, i2, i3, i4, i5⟩ := g3 _ rfl
        refine And.intro ⟨trivial, trivial, trivial, trivial, trivial⟩ (And.intro ⟨by omega, ⟨by omega, by omega⟩, by omega, ⟨by omega, by omega⟩⟩ ?_)
        intro z6 e6
        rw [← e6] at i1 i2 i3 i4 i5
        have e8 : rndC (decide (z0 < 0) != decide (z6 < 0)) (z0.natAbs * z6.natAbs) 65536 = (z0 * z6).tdiv 65536 := rndC_tdiv z0 z6 65536
        have e10 : rndC (decide (z2 < 0) != decide (z6 < 0)) (z2.natAbs * z6.natAbs) 65536 = (z2 * z6).tdiv 65536 := rndC_tdiv z2 z6 65536
        rw [e8, e10]
        refine And.intro ⟨⟨trivial, trivial, trivial⟩, trivial, trivial, trivial⟩ (And.intro ⟨⟨by omega, by omega, by omega⟩, ⟨by omega, by omega⟩, ⟨by omega, by omega⟩⟩ ?_)
        clear e8 e10
        intro z8 e8 z10 e10
        have epx : pushX (bx - ax) (cy - ay) (sx - ux) (sy - uy) el = z8 := by
          subst e8 e6
          subst e0 e2 e4
          rfl
        have epy : pushY (bx - ax) (cy - ay) (sx - ux) (sy - uy) el = z10 := by
          subst e10 e6
          subst e0 e2 e4
          rfl
        have hm := (meetB_eq (t1, n1, ax, ay, sx, sy, sp, o1) (t2, n2, bx, cy, ux, uy, up, o2) el z4 z8 z10 ej epx epy).trans (if_neg hj)
        rw [← e8] at i4
        rw [← e10] at i5
        clear i2 i3 g2 f1 g3 f2 e8 e10 e6 e4 e0 e2
        have v1 : IntKind.i64.wrap (sx - z8) = sx + -z8 := by rw [IntWalk.i64_in _ (by omega)]; omega
        have v2 : IntKind.i64.wrap (sy - z10) = sy + -z10 := by rw [IntWalk.i64_in _ (by omega)]; omega
        have v3 : IntKind.i64.wrap (ux + z8) = ux + z8 := IntWalk.i64_in _ (by omega)
        have v4 : IntKind.i64.wrap (uy + z10) = uy + z10 := IntWalk.i64_in _ (by omega)
        rw [v1, v2, v3, v4]
        repeat refine And.intro True.intro ?_
        refine And.intro ⟨⟨trivial, trivial, trivial, trivial, trivial, trivial, trivial, trivial, trivial⟩, trivial⟩ (And.intro trivial (And.intro ⟨⟨trivial, trivial, trivial, trivial, trivial, trivial, trivial, trivial, trivial⟩, trivial⟩ (And.intro trivial ?_)))
        by_cases k1 : BodyOk t1 n1 ax ay (sx + -z8) (sy + -z10) sp
        · have hm := hm.trans (if_neg (fun hh => hh k1))
          by_cases k2 : BodyOk t2 n2 bx cy (ux + z8) (uy + z10) up
          · have hm := hm.trans (if_neg (fun hh => hh k2))
            rw [meetR_some _ _ _ _ _ _ hm] at hk
            exact bcase_f (bF k1) (bcase_f (bF k2) ⟨trivial, hk⟩)
          · have hm := hm.trans (if_pos k2)
            rw [meetR_none _ _ _ hm] at hk
            exact bcase_f (bF k1) (bcase_t (by rw [decide_eq_false k2]; rfl) ⟨trivial, hk⟩)
        · have hm := hm.trans (if_pos k1)
          rw [meetR_none _ _ _ hm] at hk
          exact bcase_t (by rw [decide_eq_false k1]; rfl) ⟨trivial, hk⟩
    · cases hg
  · exact hk.elim

end Go.Proofs.YtbolfnkgbjkbjaaGreat.AM
end
section
set_option linter.unusedVariables false
set_option linter.unusedSimpArgs false
namespace Go.Proofs.YtbolfnkgbjkbjaaGreat.AM
open Go Go.RowKit
set_option maxRecDepth 100000

def Z19 : Tab := (Z16.add 55 (liftA (ofD g55))).add 54 (liftA (ofD g54))
theorem Z19_ok : TabOk Tryz.prog Z19 := (Z16_ok.add (entry_of_fresh r55)).add (entry_of_fresh r54)
/-- Meet -/
def g18 : GSpec := fun args obs => match args, obs with
  | [.agg [.int .i64 t1, .int .i64 n1, .int .i64 ax, .int .i64 ay, .int .i64 sx, .int .i64 sy, .int .i64 sp, .bool o1], .agg [.int .i64 t2, .int .i64 n2, .int .i64 bx, .int .i64 cy, .int .i64 ux, .int .i64 uy, .int .i64 up, .bool o2], .int .i64 el], [] => some (True, .ret (.tup [pairV (meetT (t1, n1, ax, ay, sx, sy, sp, o1) (t2, n2, bx, cy, ux, uy, up, o2) el), i64 (meetT (t1, n1, ax, ay, sx, sy, sp, o1) (t2, n2, bx, cy, ux, uy, up, o2) el).2.2.2]), [])
  | _, _ => none
theorem k18 (t1 n1 ax ay sx sy sp : Int) (o1 : Bool) (t2 n2 bx cy ux uy up : Int) (o2 : Bool) (el : Int) (K' : Out → List Ob → Prop) : runFn (Z19) (noD) noIv a18 [.agg [.int .i64 t1, .int .i64 n1, .int .i64 ax, .int .i64 ay, .int .i64 sx, .int .i64 sy, .int .i64 sp, .bool o1], .agg [.int .i64 t2, .int .i64 n2, .int .i64 bx, .int .i64 cy, .int .i64 ux, .int .i64 uy, .int .i64 up, .bool o2], .int .i64 el] (lookO []) 0 (closeK K') =
    ((True) ∧
    (True) ∧
    (True) ∧
    ((True ∧ True ∧ True ∧ True ∧ True ∧ True ∧ True ∧ True ∧ True) ∧ True) ∧
    (True) ∧
    ((True ∧ True ∧ True ∧ True ∧ True ∧ True ∧ True ∧ True ∧ True) ∧ True) ∧
    (True) ∧
    bcase (!decide (BodyOk t1 n1 ax ay sx sy sp))
     ((True) ∧
     K'
  (Out.ret
    (V.tup
      [V.agg
          [V.int IntKind.i64 (0 : Int), V.int IntKind.i64 (0 : Int), V.int IntKind.i64 (0 : Int),
            V.int IntKind.i64 (0 : Int), V.int IntKind.i64 (0 : Int), V.int IntKind.i64 (0 : Int),
            V.int IntKind.i64 (0 : Int), V.bool false, V.int IntKind.i64 (0 : Int), V.int IntKind.i64 (0 : Int),
            V.int IntKind.i64 (0 : Int), V.int IntKind.i64 (0 : Int), V.int IntKind.i64 (0 : Int),
            V.int IntKind.i64 (0 : Int), V.int IntKind.i64 (0 : Int), V.bool false, V.bool false],
        V.int IntKind.i64 (2 : Int)]))
  [])
     (bcase (bif false then true else !decide (BodyOk t2 n2 bx cy ux uy up))
      ((True) ∧
      K'
  (Out.ret
    (V.tup
      [V.agg
          [V.int IntKind.i64 (0 : Int), V.int IntKind.i64 (0 : Int), V.int IntKind.i64 (0 : Int),
            V.int IntKind.i64 (0 : Int), V.int IntKind.i64 (0 : Int), V.int IntKind.i64 (0 : Int),
            V.int IntKind.i64 (0 : Int), V.bool false, V.int IntKind.i64 (0 : Int), V.int IntKind.i64 (0 : Int),
            V.int IntKind.i64 (0 : Int), V.int IntKind.i64 (0 : Int), V.int IntKind.i64 (0 : Int),
            V.int IntKind.i64 (0 : Int), V.int IntKind.i64 (0 : Int), V.bool false, V.bool false],
        V.int IntKind.i64 (2 : Int)]))
  [])
      ((True ∧ True ∧ True ∧ True) ∧
      (True) ∧
      bcase (bif false then true else !decide ((0 : Int) ≤ el ∧ el ≤ (1000 : Int)))
       ((True) ∧
       K'
  (Out.ret
    (V.tup
      [V.agg
          [V.int IntKind.i64 (0 : Int), V.int IntKind.i64 (0 : Int), V.int IntKind.i64 (0 : Int),
            V.int IntKind.i64 (0 : Int), V.int IntKind.i64 (0 : Int), V.int IntKind.i64 (0 : Int),
            V.int IntKind.i64 (0 : Int), V.bool false, V.int IntKind.i64 (0 : Int), V.int IntKind.i64 (0 : Int),
            V.int IntKind.i64 (0 : Int), V.int IntKind.i64 (0 : Int), V.int IntKind.i64 (0 : Int),
            V.int IntKind.i64 (0 : Int), V.int IntKind.i64 (0 : Int), V.bool false, V.bool false],
        V.int IntKind.i64 (2 : Int)]))
  [])
       (((True ∧ True ∧ True ∧ True ∧ True ∧ True ∧ True ∧ True ∧ True) ∧
  (True ∧ True ∧ True ∧ True ∧ True ∧ True ∧ True ∧ True ∧ True) ∧ True) ∧
       (BodyOk t1 n1 ax ay sx sy sp ∧ BodyOk t2 n2 bx cy ux uy up) ∧
       bcase (!decide (TouchP ax ay bx cy o1 o2))
        ((True) ∧
        K'
  (Out.ret
    (V.tup
      [V.agg
          [V.int IntKind.i64 t1, V.int IntKind.i64 n1, V.int IntKind.i64 ax, V.int IntKind.i64 ay, V.int IntKind.i64 sx,
            V.int IntKind.i64 sy, V.int IntKind.i64 sp, V.bool o1, V.int IntKind.i64 t2, V.int IntKind.i64 n2,
            V.int IntKind.i64 bx, V.int IntKind.i64 cy, V.int IntKind.i64 ux, V.int IntKind.i64 uy,
            V.int IntKind.i64 up, V.bool o2, V.bool false],
        V.int IntKind.i64 (0 : Int)]))
  [])
        (((True ∧ True ∧ True ∧ True ∧ True ∧ True ∧ True ∧ True ∧ True) ∧
  (True ∧ True ∧ True ∧ True ∧ True ∧ True ∧ True ∧ True ∧ True) ∧ True ∧ True) ∧
        ((BodyOk t1 n1 ax ay sx sy sp ∧ BodyOk t2 n2 bx cy ux uy up) ∧
  (bx - ax ≠ (0 : Int) ∨ cy - ay ≠ (0 : Int)) ∧ (0 : Int) ≤ el ∧ el ≤ (1000 : Int)) ∧
        (True) ∧
        K'
  (Out.ret
    (V.tup
      [V.agg
          [V.int IntKind.i64 (meetR (t1, n1, ax, ay, sx, sy, sp, o1) (t2, n2, bx, cy, ux, uy, up, o2) el).fst.fst,
            V.int IntKind.i64 (meetR (t1, n1, ax, ay, sx, sy, sp, o1) (t2, n2, bx, cy, ux, uy, up, o2) el).fst.snd.fst,
            V.int IntKind.i64
              (meetR (t1, n1, ax, ay, sx, sy, sp, o1) (t2, n2, bx, cy, ux, uy, up, o2) el).fst.snd.snd.fst,
            V.int IntKind.i64
              (meetR (t1, n1, ax, ay, sx, sy, sp, o1) (t2, n2, bx, cy, ux, uy, up, o2) el).fst.snd.snd.snd.fst,
            V.int IntKind.i64
              (meetR (t1, n1, ax, ay, sx, sy, sp, o1) (t2, n2, bx, cy, ux, uy, up, o2) el).fst.snd.snd.snd.snd.fst,
            V.int IntKind.i64
              (meetR (t1, n1, ax, ay, sx, sy, sp, o1) (t2, n2, bx, cy, ux, uy, up, o2) el).fst.snd.snd.snd.snd.snd.fst,
            V.int IntKind.i64
              (meetR (t1, n1, ax, ay, sx, sy, sp, o1) (t2, n2, bx, cy, ux, uy, up, o2)
                                el).fst.snd.snd.snd.snd.snd.snd.fst,
            V.bool
              (meetR (t1, n1, ax, ay, sx, sy, sp, o1) (t2, n2, bx, cy, ux, uy, up, o2)
                                el).fst.snd.snd.snd.snd.snd.snd.snd,
            V.int IntKind.i64 (meetR (t1, n1, ax, ay, sx, sy, sp, o1) (t2, n2, bx, cy, ux, uy, up, o2) el).snd.fst.fst,
            V.int IntKind.i64
              (meetR (t1, n1, ax, ay, sx, sy, sp, o1) (t2, n2, bx, cy, ux, uy, up, o2) el).snd.fst.snd.fst,
            V.int IntKind.i64
              (meetR (t1, n1, ax, ay, sx, sy, sp, o1) (t2, n2, bx, cy, ux, uy, up, o2) el).snd.fst.snd.snd.fst,
            V.int IntKind.i64
              (meetR (t1, n1, ax, ay, sx, sy, sp, o1) (t2, n2, bx, cy, ux, uy, up, o2) el).snd.fst.snd.snd.snd.fst,
            V.int IntKind.i64
              (meetR (t1, n1, ax, ay, sx, sy, sp, o1) (t2, n2, bx, cy, ux, uy, up, o2) el).snd.fst.snd.snd.snd.snd.fst,
            V.int IntKind.i64
              (meetR (t1, n1, ax, ay, sx, sy, sp, o1) (t2, n2, bx, cy, ux, uy, up, o2)
                                el).snd.fst.snd.snd.snd.snd.snd.fst,
            V.int IntKind.i64
              (meetR (t1, n1, ax, ay, sx, sy, sp, o1) (t2, n2, bx, cy, ux, uy, up, o2)
                                  el).snd.fst.snd.snd.snd.snd.snd.snd.fst,
            V.bool
              (meetR (t1, n1, ax, ay, sx, sy, sp, o1) (t2, n2, bx, cy, ux, uy, up, o2)
                                  el).snd.fst.snd.snd.snd.snd.snd.snd.snd,
            V.bool (meetR (t1, n1, ax, ay, sx, sy, sp, o1) (t2, n2, bx, cy, ux, uy, up, o2) el).snd.snd.fst],
        V.int IntKind.i64 (meetR (t1, n1, ax, ay, sx, sy, sp, o1) (t2, n2, bx, cy, ux, uy, up, o2) el).snd.snd.snd]))
  []))))) := by kernel_rfl
theorem r18 : FreshOk Tryz.prog 18 (ofD g18) := by
  refine fresh_of_run Z19_ok (noD_ok _) (fun _ _ => noIv) Tryz.func18 c18 fun args obs K' hk => ?_
  unfold ofD g18 at hk
  split at hk
  · rename_i d_ out news hg
    split at hg
    · rename_i t1 n1 ax ay sx sy sp o1 t2 n2 bx cy ux uy up o2 el
      cases hg
      obtain ⟨hc, hk⟩ := hk
      refine Eq.mpr (k18 t1 n1 ax ay sx sy sp o1 t2 n2 bx cy ux uy up o2 el K') ⟨trivial, trivial, trivial, ⟨⟨trivial, ⟨trivial, ⟨trivial, ⟨trivial, ⟨trivial, ⟨trivial, ⟨trivial, ⟨trivial, trivial⟩⟩⟩⟩⟩⟩⟩⟩, trivial⟩, trivial, ⟨⟨trivial, ⟨trivial, ⟨trivial, ⟨trivial, ⟨trivial, ⟨trivial, ⟨trivial, ⟨trivial, trivial⟩⟩⟩⟩⟩⟩⟩⟩, trivial⟩, trivial, ?_⟩
      · by_cases h : BodyOk t1 n1 ax ay sx sy sp
        · by_cases h' : BodyOk t2 n2 bx cy ux uy up
          · by_cases hl : 0 ≤ el ∧ el ≤ 1000
            · by_cases ht : TouchP ax ay bx cy o1 o2
              · rw [show meetT (t1, n1, ax, ay, sx, sy, sp, o1) (t2, n2, bx, cy, ux, uy, up, o2) el = meetR (t1, n1, ax, ay, sx, sy, sp, o1) (t2, n2, bx, cy, ux, uy, up, o2) el from meetT_near _ _ el h h' hl ht] at hk
                have hd : bx - ax ≠ 0 ∨ cy - ay ≠ 0 := ht.2.2
                exact bcase_f (bF h) (bcase_f (bF h') ⟨⟨trivial, trivial, trivial, trivial⟩, trivial, bcase_f (bF hl) ⟨⟨⟨trivial, trivial, trivial, trivial, trivial, trivial, trivial, trivial, trivial⟩, ⟨trivial, trivial, trivial, trivial, trivial, trivial, trivial, trivial, trivial⟩, trivial⟩, ⟨h, h'⟩, bcase_f (bF ht) ⟨⟨⟨trivial, trivial, trivial, trivial, trivial, trivial, trivial, trivial, trivial⟩, ⟨trivial, trivial, trivial, trivial, trivial, trivial, trivial, trivial, trivial⟩, trivial, trivial⟩, ⟨⟨h, h'⟩, hd, hl⟩, trivial, hk⟩⟩⟩)
              · rw [meetT_far (t1, n1, ax, ay, sx, sy, sp, o1) (t2, n2, bx, cy, ux, uy, up, o2) el h h' hl ht] at hk
                exact bcase_f (bF h) (bcase_f (bF h') ⟨⟨trivial, trivial, trivial, trivial⟩, trivial, bcase_f (bF hl) ⟨⟨⟨trivial, trivial, trivial, trivial, trivial, trivial, trivial, trivial, trivial⟩, ⟨trivial, trivial, trivial, trivial, trivial, trivial, trivial, trivial, trivial⟩, trivial⟩, ⟨h, h'⟩, bcase_t (by rw [decide_eq_false ht]; rfl) ⟨trivial, hk⟩⟩⟩)
            · rw [meetT_l (t1, n1, ax, ay, sx, sy, sp, o1) (t2, n2, bx, cy, ux, uy, up, o2) el hl] at hk
              exact bcase_f (bF h) (bcase_f (bF h') ⟨⟨trivial, trivial, trivial, trivial⟩, trivial, bcase_t (by rw [decide_eq_false hl]; rfl) ⟨trivial, hk⟩⟩)
          · rw [meetT_b (t1, n1, ax, ay, sx, sy, sp, o1) (t2, n2, bx, cy, ux, uy, up, o2) el h'] at hk
            exact bcase_f (bF h) (bcase_t (by rw [decide_eq_false h']; rfl) ⟨trivial, hk⟩)
        · rw [meetT_a (t1, n1, ax, ay, sx, sy, sp, o1) (t2, n2, bx, cy, ux, uy, up, o2) el h] at hk
          exact bcase_t (by rw [decide_eq_false h]; rfl) ⟨trivial, hk⟩
    · cases hg
  · exact hk.elim
def Z19b : Tab := ((((((noTab.add 13 (liftA (ofD g13))).add 14 (liftA (ofD g14))).add 15 (liftA (ofD g15))).add 16 (liftA (ofD g16))).add 17 (liftA (ofD g17))).add 18 (liftA (ofD g18))).add 19 (liftA (ofD g19))
theorem Z19b_ok : TabOk Tryz.prog Z19b := ((((((noTab_ok _).add (entry_of_fresh r13)).add (entry_of_fresh r14)).add (entry_of_fresh r15)).add (entry_of_fresh r16)).add (entry_of_fresh r17)).add (entry_of_fresh r18) |>.add (entry_of_fresh r19)

end Go.Proofs.YtbolfnkgbjkbjaaGreat.AM
end
section
set_option linter.unusedVariables false
set_option linter.unusedSimpArgs false
namespace Go.Proofs.YtbolfnkgbjkbjaaGreat.AM
open Go Go.RowKit
set_option maxRecDepth 100000

/-- ContactPairs -/
def g3 : GSpec := fun args obs => match args, obs with
  | [.agg [.int .i64 t1, .int .i64 n1, .int .i64 ax, .int .i64 ay, .int .i64 sx, .int .i64 sy, .int .i64 sp, .bool o1], .agg [.int .i64 t2, .int .i64 n2, .int .i64 bx, .int .i64 cy, .int .i64 ux, .int .i64 uy, .int .i64 up, .bool o2], .int .i64 el], [] => some (True, .ret (.bool true), [])
  | _, _ => none
theorem k3 (t1 n1 ax ay sx sy sp : Int) (o1 : Bool) (t2 n2 bx cy ux uy up : Int) (o2 : Bool) (el : Int) (K' : Out → List Ob → Prop) : runFn (Z19b) (noD) noIv a3 [.agg [.int .i64 t1, .int .i64 n1, .int .i64 ax, .int .i64 ay, .int .i64 sx, .int .i64 sy, .int .i64 sp, .bool o1], .agg [.int .i64 t2, .int .i64 n2, .int .i64 bx, .int .i64 cy, .int .i64 ux, .int .i64 uy, .int .i64 up, .bool o2], .int .i64 el] (lookO []) 0 (closeK K') =
    ((True) ∧
    (True) ∧
    ((True ∧ True ∧ True ∧ True ∧ True ∧ True ∧ True ∧ True ∧ True) ∧
  (True ∧ True ∧ True ∧ True ∧ True ∧ True ∧ True ∧ True ∧ True) ∧ True) ∧
    (True) ∧
    ((True ∧ True ∧ True ∧ True ∧ True ∧ True ∧ True ∧ True ∧ True) ∧
  (True ∧ True ∧ True ∧ True ∧ True ∧ True ∧ True ∧ True ∧ True) ∧ True) ∧
    (True) ∧
    ((True ∧ True ∧ True ∧ True ∧ True ∧ True ∧ True ∧ True ∧ True) ∧ True) ∧
    (True) ∧
    ((True ∧ True ∧ True ∧ True ∧ True ∧ True ∧ True ∧ True ∧ True) ∧ True) ∧
    (True) ∧
    ((True ∧ True ∧ True ∧ True ∧ True ∧ True ∧ True ∧ True ∧ True) ∧
  (True ∧ True ∧ True ∧ True ∧ True ∧ True ∧ True ∧ True ∧ True) ∧ True ∧ True) ∧
    (True) ∧
    (True) ∧
    (True) ∧
    (True) ∧
    (True) ∧
    ((True ∧ True ∧ True ∧ True ∧ True ∧ True ∧ True ∧ True ∧ True) ∧
  (True ∧ True ∧ True ∧ True ∧ True ∧ True ∧ True ∧ True ∧ True) ∧ True ∧ True) ∧
    (True) ∧
    (True) ∧
    (True) ∧
    bcase (decide (BodyOk t1 n1 ax ay sx sy sp ∧ BodyOk t2 n2 bx cy ux uy up ∧ TouchP ax ay bx cy o1 o2) ==
  decide (BodyOk t1 n1 ax ay sx sy sp ∧ BodyOk t2 n2 bx cy ux uy up ∧ TouchP ax ay bx cy o1 o2))
     (bcase (bif true then
  (if BodyOk t1 n1 ax ay sx sy sp ∧ BodyOk t2 n2 bx cy ux uy up then (0 : Int) else (2 : Int)) ==
    if BodyOk t1 n1 ax ay sx sy sp ∧ BodyOk t2 n2 bx cy ux uy up then (0 : Int) else (2 : Int)
  else false)
      (bcase (bif true then
  decide
      (BodyOk t1 n1 ax ay sx sy sp ∧
        (((146145280 : Int) ≤ ax ∨ ax ≤ (-146145280 : Int)) ∨ (129368064 : Int) < ay ∨ ay < (-1977417728 : Int))) ==
    decide
      (BodyOk t1 n1 ax ay sx sy sp ∧
        (((146145280 : Int) ≤ ax ∨ ax ≤ (-146145280 : Int)) ∨ (129368064 : Int) < ay ∨ ay < (-1977417728 : Int)))
  else false)
       (bcase (bif true then
  (if BodyOk t1 n1 ax ay sx sy sp then (0 : Int) else (2 : Int)) ==
    if BodyOk t1 n1 ax ay sx sy sp then (0 : Int) else (2 : Int)
  else false)
        (bcase (bif true then
  (meetT (t1, n1, ax, ay, sx, sy, sp, o1) (t2, n2, bx, cy, ux, uy, up, o2) el).fst.fst ==
      (meetT (t1, n1, ax, ay, sx, sy, sp, o1) (t2, n2, bx, cy, ux, uy, up, o2) el).fst.fst &&
    ((meetT (t1, n1, ax, ay, sx, sy, sp, o1) (t2, n2, bx, cy, ux, uy, up, o2) el).fst.snd.fst ==
        (meetT (t1, n1, ax, ay, sx, sy, sp, o1) (t2, n2, bx, cy, ux, uy, up, o2) el).fst.snd.fst &&
      ((meetT (t1, n1, ax, ay, sx, sy, sp, o1) (t2, n2, bx, cy, ux, uy, up, o2) el).fst.snd.snd.fst ==
          (meetT (t1, n1, ax, ay, sx, sy, sp, o1) (t2, n2, bx, cy, ux, uy, up, o2) el).fst.snd.snd.fst &&
        ((meetT (t1, n1, ax, ay, sx, sy, sp, o1) (t2, n2, bx, cy, ux, uy, up, o2) el).fst.snd.snd.snd.fst ==
            (meetT (t1, n1, ax, ay, sx, sy, sp, o1) (t2, n2, bx, cy, ux, uy, up, o2) el).fst.snd.snd.snd.fst &&
          ((meetT (t1, n1, ax, ay, sx, sy, sp, o1) (t2, n2, bx, cy, ux, uy, up, o2) el).fst.snd.snd.snd.snd.fst ==
              (meetT (t1, n1, ax, ay, sx, sy, sp, o1) (t2, n2, bx, cy, ux, uy, up, o2) el).fst.snd.snd.snd.snd.fst &&
            ((meetT (t1, n1, ax, ay, sx, sy, sp, o1) (t2, n2, bx, cy, ux, uy, up, o2) el).fst.snd.snd.snd.snd.snd.fst ==
                (meetT (t1, n1, ax, ay, sx, sy, sp, o1) (t2, n2, bx, cy, ux, uy, up, o2)
                                el).fst.snd.snd.snd.snd.snd.fst &&
              ((meetT (t1, n1, ax, ay, sx, sy, sp, o1) (t2, n2, bx, cy, ux, uy, up, o2)
                                    el).fst.snd.snd.snd.snd.snd.snd.fst ==
                  (meetT (t1, n1, ax, ay, sx, sy, sp, o1) (t2, n2, bx, cy, ux, uy, up, o2)
                                    el).fst.snd.snd.snd.snd.snd.snd.fst &&
                ((meetT (t1, n1, ax, ay, sx, sy, sp, o1) (t2, n2, bx, cy, ux, uy, up, o2)
                                      el).fst.snd.snd.snd.snd.snd.snd.snd ==
                    (meetT (t1, n1, ax, ay, sx, sy, sp, o1) (t2, n2, bx, cy, ux, uy, up, o2)
                                      el).fst.snd.snd.snd.snd.snd.snd.snd &&
                  true)))))))
  else false)
         (bcase (bif true then
  (meetT (t1, n1, ax, ay, sx, sy, sp, o1) (t2, n2, bx, cy, ux, uy, up, o2) el).snd.fst.fst ==
      (meetT (t1, n1, ax, ay, sx, sy, sp, o1) (t2, n2, bx, cy, ux, uy, up, o2) el).snd.fst.fst &&
    ((meetT (t1, n1, ax, ay, sx, sy, sp, o1) (t2, n2, bx, cy, ux, uy, up, o2) el).snd.fst.snd.fst ==
        (meetT (t1, n1, ax, ay, sx, sy, sp, o1) (t2, n2, bx, cy, ux, uy, up, o2) el).snd.fst.snd.fst &&
      ((meetT (t1, n1, ax, ay, sx, sy, sp, o1) (t2, n2, bx, cy, ux, uy, up, o2) el).snd.fst.snd.snd.fst ==
          (meetT (t1, n1, ax, ay, sx, sy, sp, o1) (t2, n2, bx, cy, ux, uy, up, o2) el).snd.fst.snd.snd.fst &&
        ((meetT (t1, n1, ax, ay, sx, sy, sp, o1) (t2, n2, bx, cy, ux, uy, up, o2) el).snd.fst.snd.snd.snd.fst ==
            (meetT (t1, n1, ax, ay, sx, sy, sp, o1) (t2, n2, bx, cy, ux, uy, up, o2) el).snd.fst.snd.snd.snd.fst &&
          ((meetT (t1, n1, ax, ay, sx, sy, sp, o1) (t2, n2, bx, cy, ux, uy, up, o2) el).snd.fst.snd.snd.snd.snd.fst ==
              (meetT (t1, n1, ax, ay, sx, sy, sp, o1) (t2, n2, bx, cy, ux, uy, up, o2)
                              el).snd.fst.snd.snd.snd.snd.fst &&
            ((meetT (t1, n1, ax, ay, sx, sy, sp, o1) (t2, n2, bx, cy, ux, uy, up, o2)
                                  el).snd.fst.snd.snd.snd.snd.snd.fst ==
                (meetT (t1, n1, ax, ay, sx, sy, sp, o1) (t2, n2, bx, cy, ux, uy, up, o2)
                                  el).snd.fst.snd.snd.snd.snd.snd.fst &&
              ((meetT (t1, n1, ax, ay, sx, sy, sp, o1) (t2, n2, bx, cy, ux, uy, up, o2)
                                      el).snd.fst.snd.snd.snd.snd.snd.snd.fst ==
                  (meetT (t1, n1, ax, ay, sx, sy, sp, o1) (t2, n2, bx, cy, ux, uy, up, o2)
                                      el).snd.fst.snd.snd.snd.snd.snd.snd.fst &&
                ((meetT (t1, n1, ax, ay, sx, sy, sp, o1) (t2, n2, bx, cy, ux, uy, up, o2)
                                        el).snd.fst.snd.snd.snd.snd.snd.snd.snd ==
                    (meetT (t1, n1, ax, ay, sx, sy, sp, o1) (t2, n2, bx, cy, ux, uy, up, o2)
                                        el).snd.fst.snd.snd.snd.snd.snd.snd.snd &&
                  true)))))))
  else false)
          (bcase (bif true then
  (meetT (t1, n1, ax, ay, sx, sy, sp, o1) (t2, n2, bx, cy, ux, uy, up, o2) el).snd.snd.fst ==
    (meetT (t1, n1, ax, ay, sx, sy, sp, o1) (t2, n2, bx, cy, ux, uy, up, o2) el).snd.snd.fst
  else false)
           (bcase (bif true then
  (meetT (t1, n1, ax, ay, sx, sy, sp, o1) (t2, n2, bx, cy, ux, uy, up, o2) el).snd.snd.snd ==
    (meetT (t1, n1, ax, ay, sx, sy, sp, o1) (t2, n2, bx, cy, ux, uy, up, o2) el).snd.snd.snd
  else false)
            ((True) ∧
            (True) ∧
            K' (Out.ret (V.bool (bif true then true else false))) [])
            (K' (Out.ret (V.bool false)) []))
           (K' (Out.ret (V.bool false)) []))
          (K' (Out.ret (V.bool false)) []))
         (K' (Out.ret (V.bool false)) []))
        (K' (Out.ret (V.bool false)) []))
       (K' (Out.ret (V.bool false)) []))
      (K' (Out.ret (V.bool false)) []))
     (K' (Out.ret (V.bool false)) [])) := by kernel_rfl
theorem r3 : FreshOk Tryz.prog 3 (ofD g3) := by
  refine fresh_of_run Z19b_ok (noD_ok _) (fun _ _ => noIv) Tryz.func3 c3 fun args obs K' hk => ?_
  unfold ofD g3 at hk
  split at hk
  · rename_i d_ out news hg
    split at hg
    · rename_i t1 n1 ax ay sx sy sp o1 t2 n2 bx cy ux uy up o2 el
      cases hg
      obtain ⟨hc, hk⟩ := hk
      refine Eq.mpr (k3 t1 n1 ax ay sx sy sp o1 t2 n2 bx cy ux uy up o2 el K') ⟨trivial, trivial, ⟨⟨trivial, ⟨trivial, ⟨trivial, ⟨trivial, ⟨trivial, ⟨trivial, ⟨trivial, ⟨trivial, trivial⟩⟩⟩⟩⟩⟩⟩⟩, ⟨⟨trivial, ⟨trivial, ⟨trivial, ⟨trivial, ⟨trivial, ⟨trivial, ⟨trivial, ⟨trivial, trivial⟩⟩⟩⟩⟩⟩⟩⟩, trivial⟩⟩, trivial, ⟨⟨trivial, ⟨trivial, ⟨trivial, ⟨trivial, ⟨trivial, ⟨trivial, ⟨trivial, ⟨trivial, trivial⟩⟩⟩⟩⟩⟩⟩⟩, ⟨⟨trivial, ⟨trivial, ⟨trivial, ⟨trivial, ⟨trivial, ⟨trivial, ⟨trivial, ⟨trivial, trivial⟩⟩⟩⟩⟩⟩⟩⟩, trivial⟩⟩, trivial, ⟨⟨trivial, ⟨trivial, ⟨trivial, ⟨trivial, ⟨trivial, ⟨trivial, ⟨trivial, ⟨trivial, trivial⟩⟩⟩⟩⟩⟩⟩⟩, trivial⟩, trivial, ⟨⟨trivial, ⟨trivial, ⟨trivial, ⟨trivial, ⟨trivial, ⟨trivial, ⟨trivial, ⟨trivial, trivial⟩⟩⟩⟩⟩⟩⟩⟩, trivial⟩, trivial, ⟨⟨trivial, ⟨trivial, ⟨trivial, ⟨trivial, ⟨trivial, ⟨trivial, ⟨trivial, ⟨trivial, trivial⟩⟩⟩⟩⟩⟩⟩⟩, ⟨⟨trivial, ⟨trivial, ⟨trivial, ⟨trivial, ⟨trivial, ⟨trivial, ⟨trivial, ⟨trivial, trivial⟩⟩⟩⟩⟩⟩⟩⟩, ⟨trivial, trivial⟩⟩⟩, trivial, trivial, trivial, trivial, trivial, ⟨⟨trivial, ⟨trivial, ⟨trivial, ⟨trivial, ⟨trivial, ⟨trivial, ⟨trivial, ⟨trivial, trivial⟩⟩⟩⟩⟩⟩⟩⟩, ⟨⟨trivial, ⟨trivial, ⟨trivial, ⟨trivial, ⟨trivial, ⟨trivial, ⟨trivial, ⟨trivial, trivial⟩⟩⟩⟩⟩⟩⟩⟩, ⟨trivial, trivial⟩⟩⟩, trivial, trivial, trivial, ?_⟩
      · repeat' first | (refine bcase_t (by simp) ?_) | exact hk | (refine And.intro True.intro ?_)
    · cases hg
  · exact hk.elim

end Go.Proofs.YtbolfnkgbjkbjaaGreat.AM
end
section
set_option linter.unusedVariables false
set_option linter.unusedSimpArgs false
namespace Go.Proofs.YtbolfnkgbjkbjaaGreat.AM
open Go Go.ChangeShapes Go.WideShapes Go.ChangeAt Go.RowKit

/-- The cells of a type: scalars, and rows of scalars. -/
inductive CK where
  | s (k : SK)
  | sl (E : ET)
def seqCk (P : Program) (g : TypeId → Option (List CK)) : Nat → List Field → Option (List CK)
  | _, [] => some []
  | off, f :: fs => match g f.type with
    | some m => match seqCk P g (off + m.length) fs with
      | some r => if f.offset = off ∧ P.cellsOf f.type = m.length then some (m ++ r) else none
      | none => none
    | none => none
def scOnly : List CK → Option ET
  | [] => some []
  | .s k :: r => match scOnly r with
    | some E => some (k :: E)
    | none => none
  | .sl _ :: _ => none
def rdTy (P : Program) : Nat → TypeId → Option (List CK)
  | 0, _ => none
  | d + 1, t => match P.underlying t with
    | some (.int k) => some [.s (.int k)]
    | some .bool => some [.s .bool]
    | some (.struct fs) => match seqCk P (rdTy P d) 0 fs.toList with
      | some l => if P.cellsOf t = l.length then some l else none
      | none => none
    | some (.array n e) => match rdTy P d e with
      | some m => if P.cellsOf e = m.length ∧ P.cellsOf t = n * m.length then some (List.replicate n m).flatten else none
      | none => none
    | some (.slice e) => match rdTy P d e with
      | some m => match scOnly m with
        | some E => if P.cellsOf e = E.length ∧ 0 < E.length then some [.sl E] else none
        | none => none
      | none => none
    | _ => none
/-- What is read. -/
inductive CV where
  | s (x : Sc)
  | sl (E : ET) (l : List (den E))
def kindOk : SK → Sc → Prop
  | .int k, .int k' n => k = k' ∧ (Lit.int k n).wf = true
  | .bool, .bool _ => True
  | _, _ => False
def InR : (E : ET) → den E → Prop
  | [], _ => True
  | [k], x => kindOk k (k.sc x)
  | k :: k' :: r, x => kindOk k (k.sc x.1) ∧ InR (k' :: r) x.2
def CellR (w : World) : List CK → List Value → List CV → Prop
  | [], [], [] => True
  | .s k :: ks, v :: vs, .s x :: cs => (v = x.val ∧ kindOk k x) ∧ CellR w ks vs cs
  | .sl E :: ks, v :: vs, c :: cs => (∃ l : List (den E), c = .sl E l ∧ (∃ b : Bnd, v = b.sv ∧ HR (fun _ => default) 0 0 w b (.ro E l)) ∧ ∀ y ∈ l, InR E y) ∧ CellR w ks vs cs
  | _, _, _ => False
theorem CellR.append {w : World} : ∀ {ks : List CK} {vs : List Value} {cs : List CV}, CellR w ks vs cs → ∀ {ks' : List CK} {vs' : List Value} {cs' : List CV}, CellR w ks' vs' cs' → CellR w (ks ++ ks') (vs ++ vs') (cs ++ cs')
  | [], [], [], _, ks', vs', cs', h' => by simpa using h'
  | .s k :: ks, v :: vs, .s x :: cs, h, ks', vs', cs', h' => by
    simp only [CellR] at h
    simp only [List.cons_append, CellR]
    exact ⟨h.1, CellR.append h.2 h'⟩
  | .sl E :: ks, v :: vs, c :: cs, h, ks', vs', cs', h' => by
    simp only [CellR] at h
    simp only [List.cons_append, CellR]
    exact ⟨h.1, CellR.append h.2 h'⟩
  | [], [], _ :: _, h, _, _, _, _ => by simp [CellR] at h
  | [], _ :: _, _, h, _, _, _, _ => by simp [CellR] at h
  | .s _ :: _, [], _, h, _, _, _, _ => by simp [CellR] at h
  | .s _ :: _, _ :: _, [], h, _, _, _, _ => by simp [CellR] at h
  | .s _ :: _, _ :: _, .sl _ _ :: _, h, _, _, _, _ => by simp [CellR] at h
  | .sl _ :: _, [], _, h, _, _, _, _ => by simp [CellR] at h
  | .sl _ :: _, _ :: _, [], h, _, _, _, _ => by simp [CellR] at h
theorem CellR.length {w : World} : ∀ {ks : List CK} {vs : List Value} {cs : List CV}, CellR w ks vs cs → vs.length = ks.length
  | [], [], [], _ => rfl
  | .s k :: ks, v :: vs, .s x :: cs, h => by simp only [CellR] at h; simp [CellR.length h.2]
  | .sl E :: ks, v :: vs, c :: cs, h => by simp only [CellR] at h; simp [CellR.length h.2]
  | [], [], _ :: _, h => by simp [CellR] at h
  | [], _ :: _, _, h => by simp [CellR] at h
  | .s _ :: _, [], _, h => by simp [CellR] at h
  | .s _ :: _, _ :: _, [], h => by simp [CellR] at h
  | .s _ :: _, _ :: _, .sl _ _ :: _, h => by simp [CellR] at h
  | .sl _ :: _, [], _, h => by simp [CellR] at h
  | .sl _ :: _, _ :: _, [], h => by simp [CellR] at h
/-- Scalars alone: an element. -/
theorem den_of {w : World} : ∀ {ks : List CK} {E : ET} {vs : List Value} {cs : List CV}, scOnly ks = some E → CellR w ks vs cs → ∃ y : den E, vs = (enc E y).map Sc.val ∧ InR E y
  | [], E, [], [], h, _ => by cases h; exact ⟨(), rfl, trivial⟩
  | [.s k], E, v :: vs, .s x :: cs, h, hc => by
    simp only [scOnly, Option.some.injEq] at h
    subst h
    simp only [CellR] at hc
    obtain ⟨⟨hv, hk⟩, hr⟩ := hc
    cases vs with
    | cons _ _ => cases cs <;> simp [CellR] at hr
    | nil =>
      cases k <;> cases x <;> simp only [kindOk] at hk
      · rename_i k k' n
        obtain ⟨rfl, hw⟩ := hk
        exact ⟨n, by simp [enc, SK.sc, hv], ⟨rfl, hw⟩⟩
      · rename_i b
        exact ⟨b, by simp [enc, SK.sc, hv], trivial⟩
  | .s k :: .s k' :: ks, E, v :: vs, .s x :: cs, h, hc => by
    simp only [scOnly] at h
    split at h
    · rename_i E' hE'
      cases h
      simp only [CellR] at hc
      obtain ⟨⟨hv, hk⟩, hr⟩ := hc
      have hE2 : scOnly (.s k' :: ks) = some E' := hE'
      obtain ⟨y, hy, hi⟩ := den_of hE2 hr
      have : ∃ r, E' = k' :: r := by
        simp only [scOnly] at hE2
        split at hE2
        · rename_i r _; cases hE2; exact ⟨r, rfl⟩
        · cases hE2
      obtain ⟨r, rfl⟩ := this
      cases k <;> cases x <;> simp only [kindOk] at hk
      · rename_i k k' n
        obtain ⟨rfl, hw⟩ := hk
        exact ⟨(n, y), by simp [enc, SK.sc, hv, hy], ⟨⟨rfl, hw⟩, hi⟩⟩
      · rename_i b
        exact ⟨(b, y), by simp [enc, SK.sc, hv, hy], ⟨trivial, hi⟩⟩
    · cases h
  | .s k :: .sl _ :: ks, E, _, _, h, _ => by simp [scOnly] at h
  | .sl _ :: _, _, _, _, h, _ => by simp [scOnly] at h
  | [], _, [], _ :: _, _, h => by simp [CellR] at h
  | [], _, _ :: _, _, _, h => by simp [CellR] at h
  | [.s _], _, [], _, _, h => by simp [CellR] at h
  | [.s _], _, _ :: _, [], _, h => by simp [CellR] at h
  | [.s _], _, _ :: _, .sl _ _ :: _, _, h => by simp [CellR] at h
  | .s _ :: .s _ :: _, _, [], _, _, h => by simp [CellR] at h
  | .s _ :: .s _ :: _, _, _ :: _, [], _, h => by simp [CellR] at h
  | .s _ :: .s _ :: _, _, _ :: _, .sl _ _ :: _, _, h => by simp [CellR] at h
theorem seq_cells {H : Type} {enc : TypeId × Value → H} {P : Program} {w : World} {spare : Nat → Bool} {held : Bool} {n : Nat} {g : TypeId → Option (List CK)}
    (ih : ∀ t ks, g t = some ks → ∀ (cs : List Value) x, DataW.trod enc P w 0 spare held n t cs = some x → ∃ cvs, CellR w ks cs cvs) (cs : List Value) :
    ∀ (fs : List Field) (off : Nat) (ks : List CK), seqCk P g off fs = some ks → cs.length = off + ks.length →
      (∀ f ∈ fs, ∃ x, DataW.trod enc P w 0 spare held n f.type ((cs.drop f.offset).take (P.cellsOf f.type)) = some x) → ∃ cvs, CellR w ks (cs.drop off) cvs
  | [], off, ks, h, hl, _ => by
    simp only [seqCk, Option.some.injEq] at h
    subst h
    have : cs.drop off = [] := List.drop_eq_nil_iff.2 (by simp at hl; omega)
    rw [this]
    exact ⟨[], by simp [CellR]⟩
  | f :: fs, off, ks, h, hl, hf => by
    simp only [seqCk] at h
    split at h
    · rename_i m hm
      split at h
      · rename_i r hr
        split at h
        · rename_i hc
          obtain ⟨h1, h2⟩ := hc
          cases h
          obtain ⟨x, hx⟩ := hf f (by simp)
          rw [h1, h2] at hx
          obtain ⟨c1, hc1⟩ := ih _ _ hm _ _ hx
          rw [List.length_append] at hl
          obtain ⟨c2, hc2⟩ := seq_cells ih cs fs (off + m.length) r hr (by omega) (fun f' hf' => hf f' (by simp [hf']))
          refine ⟨c1 ++ c2, ?_⟩
          have e : cs.drop off = (cs.drop off).take m.length ++ cs.drop (off + m.length) := by
            rw [← List.drop_drop, List.take_append_drop]
          rw [e]
          exact hc1.append hc2
        · cases h
      · cases h
    · cases h
theorem arr_cells {w : World} (m : List CK) : ∀ (n : Nat) (cs : List Value), cs.length = n * m.length → (∀ i, i < n → ∃ cvs, CellR w m ((cs.drop (i * m.length)).take m.length) cvs) → ∃ cvs, CellR w (List.replicate n m).flatten cs cvs
  | 0, cs, hl, _ => by
    have : cs = [] := List.length_eq_zero_iff.1 (by simpa using hl)
    subst this
    exact ⟨[], by simp [CellR]⟩
  | n + 1, cs, hl, h => by
    obtain ⟨c1, h1⟩ := h 0 (by omega)
    simp only [Nat.zero_mul, List.drop_zero] at h1
    obtain ⟨c2, h2⟩ := arr_cells m n (cs.drop m.length) (by rw [List.length_drop, hl, Nat.succ_mul]; omega) (fun i hi => by
      obtain ⟨c, hc⟩ := h (i + 1) (by omega)
      refine ⟨c, ?_⟩
      rw [List.drop_drop, show m.length + i * m.length = (i + 1) * m.length by rw [Nat.succ_mul]; omega]
      exact hc)
    refine ⟨c1 ++ c2, ?_⟩
    rw [List.replicate_succ, List.flatten_cons]
    have e : cs = cs.take m.length ++ cs.drop m.length := (List.take_append_drop _ _).symm
    rw [e]
    rw [← e]
    exact (show CellR w (m ++ (List.replicate n m).flatten) (cs.take m.length ++ cs.drop m.length) (c1 ++ c2) from h1.append h2) |> fun h => by rw [List.take_append_drop] at h; exact h
theorem rows_of {w : World} {E : ET} {a : Addr} (hE : 0 < E.length) : ∀ (n : Nat), (∀ i, i < n → ∃ y : den E, (∀ j, j < E.length → w.cell? (a.add (i * E.length + j)) = ((enc E y).map Sc.val)[j]?) ∧ InR E y) →
    ∃ l : List (den E), l.length = n ∧ (∀ y ∈ l, InR E y) ∧ ∀ j s, (flat E l)[j]? = some s → w.cell? (a.add j) = some s.val
  | 0, _ => ⟨[], rfl, by simp, by simp [flat]⟩
  | n + 1, h => by
    obtain ⟨l, hl, hr, hc⟩ := rows_of hE n (fun i hi => h i (by omega))
    obtain ⟨y, hy, hi⟩ := h n (by omega)
    refine ⟨l ++ [y], by simp [hl], ?_, ?_⟩
    · intro z hz
      rw [List.mem_append] at hz
      rcases hz with hz | hz
      · exact hr z hz
      · simp at hz; subst hz; exact hi
    · intro j s hs
      rw [flat_append] at hs
      by_cases hj : j < (flat E l).length
      · rw [List.getElem?_append_left hj] at hs
        exact hc j s hs
      · have hfl := flat_length E l
        rw [List.getElem?_append_right (by omega)] at hs
        have e : flat E [y] = enc E y := by simp [flat]
        rw [e, hfl, hl] at hs
        have hj2 := (List.getElem?_eq_some_iff.1 hs).1
        rw [enc_length] at hj2
        have := hy (j - n * E.length) hj2
        rw [List.getElem?_map, hs] at this
        rw [hfl, hl] at hj
        rw [show n * E.length + (j - n * E.length) = j by omega] at this
        simpa using this
theorem cell_spot {w : World} {a : Addr} {v : Value} (h : w.cell? a = some v) : a.spot = none := by
  unfold World.cell? at h
  split at h
  · split at h
    · cases h
    · rename_i hs; simpa using hs
  · cases h
/-- A value that can be read at such a type. -/
theorem rd_cells {H : Type} {enc : TypeId × Value → H} {P : Program} {w : World} {spare : Nat → Bool} {held : Bool} : ∀ (d : Nat) (t : TypeId) (ks : List CK), rdTy P d t = some ks →
    ∀ (fuel : Nat) (cs : List Value) x, DataW.trod enc P w 0 spare held fuel t cs = some x → ∃ cvs, CellR w ks cs cvs
  | 0, t, ks, h => by simp [rdTy] at h
  | d + 1, t, ks, h => by
    intro fuel cs x hx
    simp only [rdTy] at h
    split at h
    · rename_i k hu
      cases h
      obtain ⟨n, rfl, _, hw⟩ := DataW.trod_int hu hx
      exact ⟨[.s (.int k n)], by simp [CellR, kindOk, Sc.val, hw]⟩
    · rename_i hu
      cases h
      obtain ⟨b, rfl, _⟩ := DataW.trod_bool hu hx
      exact ⟨[.s (.bool b)], by simp [CellR, kindOk, Sc.val]⟩
    · rename_i fs hu
      split at h
      · rename_i l hl
        split at h
        · rename_i hsz
          cases h
          obtain ⟨xs, n, rfl, _, hcl, hxl, hf⟩ := DataW.trod_struct hu hx
          have := seq_cells (n := n) (fun t ks hk cs x hx => rd_cells d t ks hk n cs x hx) cs fs.toList 0 ks hl (by omega) (fun f hf' => by
            obtain ⟨i, hi, rfl⟩ := List.getElem_of_mem hf'
            have hi' : i < fs.size := by simpa using hi
            have h1 := hf i fs[i] (Array.getElem?_eq_getElem hi')
            have h2 : xs[i]? = some (xs[i]'(by omega)) := List.getElem?_eq_getElem (by omega)
            exact ⟨_, by simpa using h1.trans h2⟩)
          simpa using this
        · cases h
      · cases h
    · rename_i n e hu
      split at h
      · rename_i m hm
        split at h
        · rename_i hsz
          cases h
          obtain ⟨xs, k, rfl, _, hcl, hxl, hf⟩ := DataW.trod_array hu hx
          refine arr_cells m n cs (by omega) (fun i hi => ?_)
          have h1 := hf i hi
          rw [hsz.1] at h1
          have h2 : xs[i]? = some (xs[i]'(by omega)) := List.getElem?_eq_getElem (by omega)
          exact rd_cells d e m hm k _ _ (h1.trans h2)
        · cases h
      · cases h
    · rename_i e hu
      split at h
      · rename_i m hm
        split at h
        · rename_i E hE
          split at h
          · rename_i hsz
            cases h
            obtain ⟨hsz, hpos⟩ := hsz
            rcases Go.Deep.open_slice hu hx with ⟨rfl, _⟩ | ⟨a, len, cap, k, n, D, Pl, rfl, _, hlc, _, hk, _, hi⟩
            · refine ⟨[.sl E []], ?_⟩
              simp only [CellR, and_true]
              exact ⟨[], rfl, ⟨⟨0, 0, none, 0, 0⟩, rfl, hpos, rfl, Nat.le_refl _, by simp, by simp [flat]⟩, by simp⟩
            · have hlk : len ≤ k := by rw [hk]; split <;> omega
              obtain ⟨l, hl, hr, hc⟩ := rows_of (w := w) (E := E) (a := a) hpos len (fun i hi' => by
                obtain ⟨cs', h1, h2⟩ := hi i (by omega)
                obtain ⟨_, hcl, hat⟩ := World.cells?_some h1
                obtain ⟨cvs, hcv⟩ := rd_cells d e m hm n cs' _ h2
                obtain ⟨y, hy, hin⟩ := den_of hE hcv
                refine ⟨y, fun j hj => ?_, hin⟩
                have h3 := hat j (by omega)
                rw [← hy, ← h3, hsz]
                rw [Go.Deep.add_add])
              refine ⟨[.sl E l], ?_⟩
              simp only [CellR, and_true]
              refine ⟨l, rfl, ⟨⟨a.block, a.off, some a, len, cap⟩, rfl, hpos, hl.symm, by rw [hl]; exact hlc, ?_, ?_⟩, hr⟩
              · intro h0
                have h00 : 0 < (flat E l).length := by rw [flat_length]; exact Nat.mul_pos h0 hpos
                have h1 := hc 0 ((flat E l)[0]'h00) (by simp)
                have h2 := cell_spot h1
                simp only [Addr.add, if_true] at h2
                obtain ⟨b, o, s⟩ := a
                simp only at h2
                subst h2
                rfl
              · intro j s hs
                have h1 := hc j s hs
                unfold Addr.add at h1
                split at h1
                · rename_i hj0
                  have h2 := cell_spot h1
                  obtain ⟨b, o, sp⟩ := a
                  simp only at h2
                  subst h2 hj0
                  simpa using h1
                · have h2 := cell_spot h1
                  obtain ⟨b, o, sp⟩ := a
                  exact h1
          · cases h
        · cases h
      · cases h
    · cases h
def opnA : Nat → List CV → List V × List Ob
  | _, [] => ([], [])
  | n, .s x :: r => (x.toV :: (opnA n r).1, (opnA n r).2)
  | n, .sl E l :: r => (.osl n :: (opnA (n + 1) r).1, .ro E l :: (opnA (n + 1) r).2)
def aggV (agg : Bool) (vs : List V) : V := match agg with
  | true => .agg vs
  | false => match vs with
    | [v] => v
    | _ => .top
def opnL : Nat → List (Bool × List CV) → List V × List Ob
  | _, [] => ([], [])
  | n, (agg, c) :: r => (aggV agg (opnA n c).1 :: (opnL (n + (opnA n c).2.length) r).1, (opnA n c).2 ++ (opnL (n + (opnA n c).2.length) r).2)
theorem opnA_ok {w : World} : ∀ {ks : List CK} {vs : List Value} {cs : List CV}, CellR w ks vs cs → ∀ (ρ : Nat → Bnd) (obs : List Ob), Ros w ρ obs →
    ∃ ρ', Agree ρ ρ' obs.length ∧ Ros w ρ' (obs ++ (opnA obs.length cs).2) ∧ RL ρ' (obs.length + (opnA obs.length cs).2.length) (opnA obs.length cs).1 vs
  | [], [], [], _, ρ, obs, ho => ⟨ρ, fun _ _ => rfl, by simpa [opnA] using ho, by simp [opnA, RL]⟩
  | .s k :: ks, v :: vs, .s x :: cs, h, ρ, obs, ho => by
    simp only [CellR] at h
    obtain ⟨ρ', h1, h2, h3⟩ := opnA_ok h.2 ρ obs ho
    refine ⟨ρ', h1, by simpa [opnA] using h2, ?_⟩
    simp only [opnA, RL]
    exact ⟨(R_toV x v).2 h.1.1, h3⟩
  | .sl E :: ks, v :: vs, c :: cs, h, ρ, obs, ho => by
    simp only [CellR] at h
    obtain ⟨⟨l, rfl, ⟨b, rfl, hb⟩, hr⟩, hrest⟩ := h
    have ho1 := ho.push (b := b) (E := E) (l := l) (ro_any hb)
    obtain ⟨ρ', h1, h2, h3⟩ := opnA_ok hrest (upd ρ obs.length b) (obs ++ [.ro E l]) ho1
    simp only [List.length_append, List.length_cons, List.length_nil, Nat.zero_add] at h1 h2 h3
    refine ⟨ρ', fun i hi => ?_, ?_, ?_⟩
    · rw [h1 i (by omega), upd_ne _ _ _ (by omega)]
    · simp only [opnA]
      simpa using h2
    · simp only [opnA, RL, R, List.length_cons]
      refine ⟨⟨by omega, ?_⟩, ?_⟩
      · rw [h1 obs.length (by omega), upd_same]
      · rw [show obs.length + ((opnA (obs.length + 1) cs).2.length + 1) = obs.length + 1 + (opnA (obs.length + 1) cs).2.length by omega]
        exact h3
  | [], [], _ :: _, h, _, _, _ => by simp [CellR] at h
  | [], _ :: _, _, h, _, _, _ => by simp [CellR] at h
  | .s _ :: _, [], _, h, _, _, _ => by simp [CellR] at h
  | .s _ :: _, _ :: _, [], h, _, _, _ => by simp [CellR] at h
  | .s _ :: _, _ :: _, .sl _ _ :: _, h, _, _, _ => by simp [CellR] at h
  | .sl _ :: _, [], _, h, _, _, _ => by simp [CellR] at h
  | .sl _ :: _, _ :: _, [], h, _, _, _ => by simp [CellR] at h
/-- A value and its cells. -/
def ValR (agg : Bool) (v : Value) (cs : List Value) : Prop := match agg with
  | true => v = .agg cs.toArray
  | false => cs = [v]
theorem val_form {P : Program} {W : World} {r : Go.Reach} {b0 d : Nat} {t : TypeId} {ks : List CK} {ag : Bool} {v : Value} (hk : rdTy P d t = some ks) (ha : aggOf P t = some ag) (hv : Value.okWide P W r b0 t v) : ValR ag v v.cells.toList := by
  cases d with
  | zero => simp [rdTy] at hk
  | succ d =>
    simp only [rdTy] at hk
    unfold aggOf at ha
    split at hk
    · rename_i k hu
      simp only [hu, Option.some.injEq] at ha
      subst ha
      simp only [Value.okWide, hu, Cell.okWide] at hv
      cases v <;> simp_all [Cell.ok, ValR, Value.cells]
    · rename_i hu
      simp only [hu, Option.some.injEq] at ha
      subst ha
      simp only [Value.okWide, hu, Cell.okWide] at hv
      cases v <;> simp_all [Cell.ok, ValR, Value.cells]
    · rename_i fs hu
      simp only [hu, Option.some.injEq] at ha
      subst ha
      simp only [Value.okWide, hu] at hv
      obtain ⟨cs, rfl, _⟩ := hv
      simp [ValR, Value.cells]
    · rename_i n e hu
      simp only [hu, Option.some.injEq] at ha
      subst ha
      simp only [Value.okWide, hu] at hv
      obtain ⟨cs, rfl, _⟩ := hv
      simp [ValR, Value.cells]
    · rename_i e hu
      simp only [hu, Option.some.injEq] at ha
      subst ha
      simp only [Value.okWide, hu, Cell.okWide] at hv
      cases v <;> simp_all [Cell.ok, ValR, Value.cells]
    · cases hk
theorem aggV_R {ρ : Nat → Bnd} {n : Nat} {agg : Bool} {v : Value} {cs : List Value} {vs : List V} (hv : ValR agg v cs) (h : RL ρ n vs cs) : R ρ n (aggV agg vs) v := by
  cases agg with
  | true =>
    simp only [ValR] at hv
    subst hv
    simp only [aggV, R]
    exact ⟨_, rfl, by simpa using h⟩
  | false =>
    simp only [ValR] at hv
    subst hv
    match vs, h with
    | [u], h => simp only [RL] at h; exact h.1
    | [], h => simp [RL] at h
    | _ :: _ :: _, h => simp [RL] at h
/-- All arguments. -/
def ArgsR (w : World) : List (Bool × List CK) → List Value → List (Bool × List CV) → Prop
  | [], [], [] => True
  | (ag, ks) :: r, v :: vs, (ag', cs) :: cr => (ag' = ag ∧ CellR w ks v.cells.toList cs ∧ ValR ag v v.cells.toList) ∧ ArgsR w r vs cr
  | _, _, _ => False
theorem opnL_ok {w : World} : ∀ {kss : List (Bool × List CK)} {vs : List Value} {cvs : List (Bool × List CV)}, ArgsR w kss vs cvs → ∀ (ρ : Nat → Bnd) (obs : List Ob), Ros w ρ obs →
    ∃ ρ', Agree ρ ρ' obs.length ∧ Ros w ρ' (obs ++ (opnL obs.length cvs).2) ∧ RL ρ' (obs.length + (opnL obs.length cvs).2.length) (opnL obs.length cvs).1 vs
  | [], [], [], _, ρ, obs, ho => ⟨ρ, fun _ _ => rfl, by simpa [opnL] using ho, by simp [opnL, RL]⟩
  | (ag, ks) :: r, v :: vs, (ag', cs) :: cr, h, ρ, obs, ho => by
    simp only [ArgsR] at h
    obtain ⟨⟨rfl, hc, hv⟩, hr⟩ := h
    obtain ⟨ρ1, h1, h2, h3⟩ := opnA_ok hc ρ obs ho
    obtain ⟨ρ2, g1, g2, g3⟩ := opnL_ok hr ρ1 _ h2
    rw [List.length_append] at g1 g2 g3
    refine ⟨ρ2, fun i hi => by rw [g1 i (by omega), h1 i hi], ?_, ?_⟩
    · simp only [opnL]
      rw [← List.append_assoc]
      exact g2
    · simp only [opnL, RL, List.length_append]
      refine ⟨R.mono (by omega) g1 _ _ (aggV_R hv h3), ?_⟩
      rw [← Nat.add_assoc]
      exact g3
  | [], [], _ :: _, h, _, _, _ => by simp [ArgsR] at h
  | [], _ :: _, _, h, _, _, _ => by simp [ArgsR] at h
  | _ :: _, [], _, h, _, _, _ => by simp [ArgsR] at h
  | _ :: _, _ :: _, [], h, _, _, _ => by simp [ArgsR] at h
/-- The shapes and ranges alone. -/
def KR : List CK → List CV → Prop
  | [], [] => True
  | .s k :: ks, .s x :: cs => kindOk k x ∧ KR ks cs
  | .sl E :: ks, c :: cs => (∃ l : List (den E), c = .sl E l ∧ ∀ y ∈ l, InR E y) ∧ KR ks cs
  | _, _ => False
theorem CellR.kr {w : World} : ∀ {ks : List CK} {vs : List Value} {cs : List CV}, CellR w ks vs cs → KR ks cs
  | [], [], [], _ => trivial
  | .s k :: ks, v :: vs, .s x :: cs, h => by simp only [CellR] at h; exact ⟨h.1.2, CellR.kr h.2⟩
  | .sl E :: ks, v :: vs, c :: cs, h => by
    simp only [CellR] at h
    obtain ⟨⟨l, rfl, _, hr⟩, h2⟩ := h
    exact ⟨⟨l, rfl, hr⟩, CellR.kr h2⟩
  | [], [], _ :: _, h => by simp [CellR] at h
  | [], _ :: _, _, h => by simp [CellR] at h
  | .s _ :: _, [], _, h => by simp [CellR] at h
  | .s _ :: _, _ :: _, [], h => by simp [CellR] at h
  | .s _ :: _, _ :: _, .sl _ _ :: _, h => by simp [CellR] at h
  | .sl _ :: _, [], _, h => by simp [CellR] at h
  | .sl _ :: _, _ :: _, [], h => by simp [CellR] at h
def KRs : List (Bool × List CK) → List (Bool × List CV) → Prop
  | [], [] => True
  | (ag, ks) :: r, (ag', cs) :: cr => (ag' = ag ∧ KR ks cs) ∧ KRs r cr
  | _, _ => False
theorem ArgsR.krs {w : World} : ∀ {kss : List (Bool × List CK)} {vs : List Value} {cvs : List (Bool × List CV)}, ArgsR w kss vs cvs → KRs kss cvs
  | [], [], [], _ => trivial
  | (ag, ks) :: r, v :: vs, (ag', cs) :: cr, h => by simp only [ArgsR] at h; exact ⟨⟨h.1.1, h.1.2.1.kr⟩, ArgsR.krs h.2⟩
  | [], [], _ :: _, h => by simp [ArgsR] at h
  | [], _ :: _, _, h => by simp [ArgsR] at h
  | _ :: _, [], _, h => by simp [ArgsR] at h
  | _ :: _, _ :: _, [], h => by simp [ArgsR] at h
theorem KR.nil {cs : List CV} (h : KR [] cs) : cs = [] := by cases cs with | nil => rfl | cons _ _ => exact h.elim
theorem KR.int {k : IntKind} {ks : List CK} {cs : List CV} (h : KR (.s (.int k) :: ks) cs) : ∃ n r, cs = .s (.int k n) :: r ∧ (Lit.int k n).wf = true ∧ KR ks r := by
  match cs, h with
  | .s (.int k' n) :: r, h => obtain ⟨⟨rfl, hw⟩, h2⟩ := h; exact ⟨n, r, rfl, hw, h2⟩
  | .s (.bool _) :: _, h => exact h.1.elim
  | .sl _ _ :: _, h => exact h.elim
  | [], h => exact h.elim
theorem KR.bool {ks : List CK} {cs : List CV} (h : KR (.s .bool :: ks) cs) : ∃ b r, cs = .s (.bool b) :: r ∧ KR ks r := by
  match cs, h with
  | .s (.bool b) :: r, h => exact ⟨b, r, rfl, h.2⟩
  | .s (.int _ _) :: _, h => exact h.1.elim
  | .sl _ _ :: _, h => exact h.elim
  | [], h => exact h.elim
theorem KR.sl {E : ET} {ks : List CK} {cs : List CV} (h : KR (.sl E :: ks) cs) : ∃ l r, cs = .sl E l :: r ∧ (∀ y ∈ l, InR E y) ∧ KR ks r := by
  match cs, h with
  | c :: r, h => obtain ⟨⟨l, rfl, hl⟩, h2⟩ := h; exact ⟨l, r, rfl, hl, h2⟩
  | [], h => exact h.elim
theorem KRs.nil {cs : List (Bool × List CV)} (h : KRs [] cs) : cs = [] := by cases cs with | nil => rfl | cons _ _ => exact h.elim
theorem KRs.cons {ag : Bool} {ks : List CK} {r : List (Bool × List CK)} {cvs : List (Bool × List CV)} (h : KRs ((ag, ks) :: r) cvs) : ∃ cs cr, cvs = (ag, cs) :: cr ∧ KR ks cs ∧ KRs r cr := by
  match cvs, h with
  | (ag', cs) :: cr, h => obtain ⟨⟨rfl, h1⟩, h2⟩ := h; exact ⟨cs, cr, rfl, h1, h2⟩
  | [], h => exact h.elim
def tyOk (P : Program) : List TypeId → List (Bool × List CK) → Bool
  | [], [] => true
  | t :: ts, (ag, ks) :: r => decide (aggOf P t = some ag) && (match rdTy P 8 t with
    | some ks' => ckEq ks' ks
    | none => false) && tyOk P ts r
  | _, _ => false
  where ckEq : List CK → List CK → Bool
  | [], [] => true
  | .s k :: a, .s k' :: b => decide (k = k') && ckEq a b
  | .sl E :: a, .sl E' :: b => decide (E = E') && ckEq a b
  | _, _ => false
theorem ckEq_eq : ∀ (a b : List CK), tyOk.ckEq a b = true → a = b
  | [], [], _ => rfl
  | .s k :: a, .s k' :: b, h => by
    simp only [tyOk.ckEq, Bool.and_eq_true, decide_eq_true_eq] at h
    rw [h.1, ckEq_eq a b h.2]
  | .sl k :: a, .sl k' :: b, h => by
    simp only [tyOk.ckEq, Bool.and_eq_true, decide_eq_true_eq] at h
    rw [h.1, ckEq_eq a b h.2]
  | [], .s _ :: _, h => by simp [tyOk.ckEq] at h
  | [], .sl _ :: _, h => by simp [tyOk.ckEq] at h
  | .s _ :: _, [], h => by simp [tyOk.ckEq] at h
  | .sl _ :: _, [], h => by simp [tyOk.ckEq] at h
  | .s _ :: _, .sl _ :: _, h => by simp [tyOk.ckEq] at h
  | .sl _ :: _, .s _ :: _, h => by simp [tyOk.ckEq] at h
theorem args_open {H : Type} {enc : TypeId × Value → H} {P : Program} {W : World} {base : Nat} : ∀ (ts : List TypeId) (kss : List (Bool × List CK)) (vs : List Value) (ds : List (DataW H)) (p : List MemPlace), tyOk P ts kss = true →
    DataW.TrodAll enc P W 0 (fun _ => true) true ts vs ds p → (∀ (j : Nat) t v, ts[j]? = some t → vs[j]? = some v → Value.okWide P W .any base t v) → ∃ cvs, ArgsR W kss vs cvs
  | [], [], vs, ds, p, _, h, _ => by
    cases vs with
    | nil => exact ⟨[], trivial⟩
    | cons _ _ => cases ds <;> simp [DataW.TrodAll] at h
  | t :: ts, (ag, ks) :: r, vs, ds, p, hk, h, hok => by
    simp only [tyOk, Bool.and_eq_true, decide_eq_true_eq] at hk
    obtain ⟨⟨ha, hks⟩, hr⟩ := hk
    obtain ⟨v, vs', d, ds', p1, p2, rfl, rfl, _, h1, h2⟩ := trodAll_cons h
    split at hks
    · rename_i ks' hrd
      have := ckEq_eq _ _ hks
      subst this
      obtain ⟨fuel, hf⟩ := h1
      obtain ⟨cs, hc⟩ := rd_cells 8 t _ hrd fuel _ _ hf
      obtain ⟨cr, hcr⟩ := args_open ts r vs' ds' p2 hr h2 (fun j t' v' h3 h4 => hok (j + 1) t' v' (by simpa using h3) (by simpa using h4))
      exact ⟨(ag, cs) :: cr, ⟨rfl, hc, val_form hrd ha (hok 0 t v rfl rfl)⟩, hcr⟩
    · cases hks
  | [], _ :: _, _, _, _, hk, _, _ => by simp [tyOk] at hk
  | _ :: _, [], _, _, _, hk, _, _ => by simp [tyOk] at hk
/-- A law: its call. -/
theorem law_calls {H : Type} {enc : TypeId × Value → H} {P : Program} {f : Nat} {fn : Func} {F : FSpec} (hF : FreshOk P f F) (hf : P.funcs[f]? = some fn) (hb : fn.body.isSome = true) (hname : ¬ fn.name = "runtime.NumGoroutine")
    {W : World} {base : Nat} {args : Array Value} {ds : List (DataW H)} {p : List MemPlace} (kss : List (Bool × List CK)) (hk : tyOk P fn.params.toList kss = true)
    (hA : DataW.TrodAll enc P W 0 (fun _ => true) true fn.params.toList args.toList ds p)
    (hval : ∀ (j : Nat) t v, fn.params[j]? = some t → args[j]? = some v → Value.okWide P W .any base t v)
    (hg : ∀ cvs, KRs kss cvs → F (opnL 0 cvs).1 (opnL 0 cvs).2 (fun out _ => out = .ret (.bool true))) :
    Calls P f args W fun e W' => e = .returned (.bool true) ∧ Below W.heap.size W W' := by
  obtain ⟨cvs, hcv⟩ := args_open fn.params.toList kss args.toList ds p hk hA (fun j t v h1 h2 => hval j t v (by simpa using h1) (by simpa using h2))
  obtain ⟨ρ', _, hro, hRL⟩ := opnL_ok hcv (fun _ => default) [] (fun i hi => by simp at hi)
  simp only [List.length_nil, List.nil_append, Nat.zero_add] at hro hRL
  have h := hF _ _ _ (hg cvs hcv.krs) W ρ' args.toList hro hRL
  have h2 := h.mono (Q' := fun e W' => e = .returned (.bool true) ∧ Below W.heap.size W W') (by
    rintro e w' ⟨out, news, ρ2, rfl, ho, _, _, _, hbe⟩
    cases e <;> simp only [OutR] at ho
    simp only [R] at ho
    exact ⟨by rw [ho], hbe⟩)
  rcases h2 with ⟨_, h3⟩ | ⟨v, w', h3, _⟩
  · exact h3
  · exfalso
    cases hbo : fn.body with
    | none => rw [hbo] at hb; cases hb
    | some c => simp [callFunc, hf, hname, hbo] at h3
section
variable {H : Type} {enc : TypeId × Value → H} {P : Program}
theorem post_of_below {f : Func} {s : ChangeSpec} {apart fresh handsOn again : Bool} {W W' : World} {args : Array Value} {v : Value} {ds gs : List (DataW H)} {before pa pv : List MemPlace}
    (hW : DataW.Whole enc P f.params.toList s.vars apart W args.toList ds gs before)
    (hres : ∀ (b : Nat) (sp : Nat → Bool) (hd : Bool), DataW.TrodAll enc P W' b sp hd f.resultTypes.toList (v.resultList f.resultTypes.size) (s.fn H (ds ++ gs)).results [])
    (hargs : ∀ sp : Nat → Bool, (∀ p ∈ before, sp p.block = true) → DataW.TrodAll enc P W' 0 sp true f.params.toList args.toList (s.fn H (ds ++ gs)).args pa)
    (hvars : ∀ sp : Nat → Bool, (∀ p ∈ before, sp p.block = true) → DataW.TrodVars enc P W' sp s.vars (s.fn H (ds ++ gs)).vars pv)
    (hps : before = pa ++ pv) (hb : Below W.heap.size W W')
    (hok : ∀ (j : Nat) (t : TypeId) (r : Value), f.resultTypes[j]? = some t → (v.resultList f.resultTypes.size)[j]? = some r → Value.okWide P W' .any 0 t r) :
    s.post enc P f apart fresh handsOn again W args v W' := by
  have hlt : ∀ p ∈ before, p.block < W.heap.size := fun p hp => hW.lt p hp
  have hold : ∀ p ∈ before, (fun b => decide (b < W.heap.size)) p.block = true := fun p hp => by simpa using hlt p hp
  refine ⟨ds, gs, before, [], pa, pv, hW, hres _ _ _, hargs _ hold, hvars _ hold, World.keptBut_mono (fun p hp => ⟨hp, ?_⟩) (hb.frame (· ∈ before)), fun _ => ?_⟩
  · rw [hps, List.mem_append] at hp
    exact Or.inr hp
  · obtain ⟨_, _, _, _, _, hz, hn⟩ := hW
    refine ⟨hok, _, _, ([] ++ pa) ++ pv, ⟨[] ++ pa, pv, trodAll_append (hargs _ (fun _ _ => rfl)) (hres _ _ _), hvars _ (fun _ _ => rfl), rfl, ?_, ?_⟩, ?_⟩
    · intro b off hp
      have hin : MemPlace.cell b off ∈ before := by rw [hps]; simpa using hp
      rw [hb.frozen (hlt _ hin)]
      exact hz b off hin
    · intro ha
      have := hn ha
      rw [hps] at this
      simpa using this
    · intro p hp _
      rw [hps]
      simpa using hp
end
/-- Arguments stay as they were. -/
theorem trodAll_stays {H : Type} {enc : TypeId × Value → H} {P : Program} (hl : laidOutB P = true) {W W' : World} (hb : Below W.heap.size W W') {sp : Nat → Bool} :
    ∀ (ts : List TypeId) (vs : List Value) (ds : List (DataW H)) (p : List MemPlace), ts.all (fun t => P.readableRec t && decide (t < P.types.size)) = true → DataW.TrodAll enc P W 0 (fun _ => true) true ts vs ds p →
      (∀ x ∈ p, x.block < W.heap.size) → (∀ x ∈ p, sp x.block = true) → DataW.TrodAll enc P W' 0 sp true ts vs ds p
  | [], vs, ds, p, _, h, _, _ => by
    cases vs <;> cases ds <;> simp_all [DataW.TrodAll]
  | t :: ts, vs, ds, p, hr, h, hlt, hsp => by
    simp only [List.all_cons, Bool.and_eq_true, decide_eq_true_eq] at hr
    obtain ⟨v, vs', d, ds', p1, p2, rfl, rfl, rfl, h1, h2⟩ := trodAll_cons h
    refine trodAll_cons_mk ?_ (trodAll_stays hl hb ts vs' ds' p2 (by simpa using hr.2) h2 (fun x hx => hlt x (by simp [hx])) (fun x hx => hsp x (by simp [hx])))
    exact WideElems.Trod_stays hl hr.1.1 hr.1.2 h1 (fun x hx => hb.same (hlt x (by simp [hx]))) (fun x hx => hsp x (by simp [hx]))
end Go.Proofs.YtbolfnkgbjkbjaaGreat.AM
end
section
set_option linter.unusedVariables false
set_option linter.unusedSimpArgs false
namespace Go.Proofs.YtbolfnkgbjkbjaaGreat
open Go.ChangeShapes Go.WideShapes Go.ChangeAt Go.RowKit AM

theorem own : ownKnob Tryz.prog.godebug = none := by kernel_rfl
theorem laidOut : laidOutB Tryz.prog = true := by kernel_rfl
abbrev kBody : Bool × List CK := (true, [.s (.int .i64), .s (.int .i64), .s (.int .i64), .s (.int .i64), .s (.int .i64), .s (.int .i64), .s (.int .i64), .s .bool])
theorem body_open {cs : List CV} (h : KR kBody.2 cs) : ∃ (a b c d e f g : Int) (o : Bool), cs = [.s (.int .i64 a), .s (.int .i64 b), .s (.int .i64 c), .s (.int .i64 d), .s (.int .i64 e), .s (.int .i64 f), .s (.int .i64 g), .s (.bool o)] := by
  obtain ⟨a, r, rfl, _, h⟩ := KR.int h
  obtain ⟨b, r, rfl, _, h⟩ := KR.int h
  obtain ⟨c, r, rfl, _, h⟩ := KR.int h
  obtain ⟨d, r, rfl, _, h⟩ := KR.int h
  obtain ⟨e, r, rfl, _, h⟩ := KR.int h
  obtain ⟨f, r, rfl, _, h⟩ := KR.int h
  obtain ⟨g, r, rfl, _, h⟩ := KR.int h
  obtain ⟨o, r, rfl, h8⟩ := KR.bool h
  obtain rfl := KR.nil h8
  exact ⟨a, b, c, d, e, f, g, o, rfl⟩

set_option maxRecDepth 100000 in
theorem lifted (os : Os) (started : os.Started) (H : Type) (enc : TypeId × Value → H) :
    ReturnsInHanded {} Tryz.checked os 3 .any (Rows.contactPairsSpec.pre6 enc Tryz.prog Tryz.f3 Rows.contactPairsRow.domain false) (Rows.contactPairsSpec.post enc Tryz.prog Tryz.f3 false true false false) := by
  refine returnsInHanded_of_change (C := Tryz.checked) own started (by kernel_rfl) Tryz.func3
    (ChangeSpec.witness6 (enc := enc) (C := Tryz.checked) false ⟨#[], #[.agg #[.int .i64 0, .int .i64 0, .int .i64 0, .int .i64 0, .int .i64 0, .int .i64 0, .int .i64 0, .bool false], .agg #[.int .i64 0, .int .i64 0, .int .i64 0, .int .i64 0, .int .i64 0, .int .i64 0, .int .i64 0, .bool false], .int .i64 0], []⟩ 8 (by kernel_rfl) (by kernel_rfl) (by kernel_rfl) (by kernel_rfl)) ?_
  intro W base args ds gs before hval0 hW hcnd _
  have hval : ∀ (j : Nat) t v, Tryz.f3.params[j]? = some t → args[j]? = some v → Value.okWide Tryz.prog W .any base t v := hval0
  have hW' := hW
  obtain ⟨p, q, hA0, hV, rfl, hfz, hnd⟩ := hW
  have hA : DataW.TrodAll enc Tryz.prog W 0 (fun _ => true) true Tryz.f3.params.toList args.toList ds p := hA0
  obtain ⟨rfl, rfl⟩ := trodVars_none hV
  have hlt : ∀ x ∈ p, x.block < W.heap.size := fun x hx => hW'.lt x (by simpa using hx)
  have hpar : Tryz.f3.params.toList = [28, 28, 3] := by kernel_rfl
  have hds : ∃ d1 d2 d3, ds = [d1, d2, d3] := by
    have h := hA
    rw [hpar] at h
    obtain ⟨_, vs1, d1, ds1, _, _, _, rfl, _, _, h⟩ := trodAll_cons h
    obtain ⟨_, vs2, d2, ds2, _, _, _, rfl, _, _, h⟩ := trodAll_cons h
    obtain ⟨_, vs3, d3, ds3, _, _, _, rfl, _, _, h⟩ := trodAll_cons h
    cases ds3 with
    | nil => exact ⟨d1, d2, d3, rfl⟩
    | cons _ _ => cases vs3 <;> simp [DataW.TrodAll] at h
  obtain ⟨d1, d2, d3, rfl⟩ := hds
  simp only [List.append_nil] at hW'
  refine (law_calls (enc := enc) r3 Tryz.func3 (by kernel_rfl) (by decide +kernel) [kBody, kBody, (false, [.s (.int .i64)])] (by kernel_rfl) hA hval (fun cvs hk => ?_)).mono ?_
  · obtain ⟨c1, cr, rfl, h1, hk⟩ := KRs.cons hk
    obtain ⟨c2, cr, rfl, h2, hk⟩ := KRs.cons hk
    obtain ⟨c3, cr, rfl, h3, hk⟩ := KRs.cons hk
    obtain rfl := KRs.nil hk
    obtain ⟨a, b, c, d, e, f, g, o, rfl⟩ := body_open h1
    obtain ⟨a', b', c', d', e', f', g', o', rfl⟩ := body_open h2
    obtain ⟨n, r, rfl, _, h3⟩ := KR.int h3
    obtain rfl := KR.nil h3
    exact ⟨trivial, rfl⟩
  · rintro e W' ⟨rfl, hb⟩
    exact ⟨_, rfl, post_of_below (pa := p) (pv := []) hW' (fun _ _ _ => trodAll_mk1 (shut_bool Tryz.underlying4 true)) (fun sp hsp => trodAll_stays laidOut hb _ _ _ _ (by kernel_rfl) hA hlt (fun x hx => hsp x (by simpa using hx))) (fun _ _ => rfl) (by simp)
      hb (ok_one (by kernel_rfl) rfl (okWide_bool_mk Tryz.underlying4 true))⟩

/-- ContactPairs answers true. -/
theorem contactPairs_holds : Rows.ContactPairsSaid :=
  OpenClaim.holds_of_wide 3 Tryz.f3 rfl rfl rfl rfl rfl rfl rfl ⟨rfl, rfl, rfl, rfl, rfl⟩ rfl rfl rfl rfl rfl (by kernel_rfl) Tryz.func3 (by kernel_rfl)
    (of_decide_eq_true (by kernel_rfl)) (by unfold Func.isWrapper; first | (rw [if_pos (by decide +kernel)]; kernel_rfl) | (rw [if_neg (by decide +kernel)]; exact ⟨rfl, rfl⟩))
    (fun os started H enc _ => lifted os started H enc)
end Go.Proofs.YtbolfnkgbjkbjaaGreat
end
