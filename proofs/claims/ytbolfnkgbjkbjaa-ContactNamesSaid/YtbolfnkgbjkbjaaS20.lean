/- Contracts, part 20: bodies. -/
import Derived.Test.YtbolfnkgbjkbjaaS19
set_option linter.unusedVariables false
set_option linter.unusedSimpArgs false
namespace Go.Proofs.Ytbolfnkgbjkbjaa.AM
open Go Go.RowKit
set_option maxRecDepth 100000

theorem lfb {K' : Out → List Ob → Prop} {x y : Bool} (h : K' (.ret (.bool y)) []) (e : x = y) : K' (.ret (.bool x)) [] := e ▸ h
theorem lfi {K' : Out → List Ob → Prop} {k : IntKind} {x y : Int} (h : K' (.ret (.int k y)) []) (e : x = y) : K' (.ret (.int k x)) [] := e ▸ h

/-- A stone that moves, a body: valid. -/
abbrev MovOk (ax ay sx sy sp : Int) : Prop := ((-6553600000 ≤ ax ∧ ax ≤ 6553600000) ∧ -6553600000 ≤ ay ∧ ay ≤ 6553600000) ∧ ((-65536000 ≤ sx ∧ sx ≤ 65536000) ∧ -65536000 ≤ sy ∧ sy ≤ 65536000) ∧ -1000 ≤ sp ∧ sp ≤ 1000
abbrev BodyOk (tm n ax ay sx sy sp : Int) : Prop := (0 ≤ tm ∧ tm ≤ 1) ∧ (0 ≤ n ∧ n ≤ 7) ∧ MovOk ax ay sx sy sp
abbrev bdV (tm n ax ay sx sy sp : Int) (o : Bool) : V := .agg [i64 tm, i64 n, i64 ax, i64 ay, i64 sx, i64 sy, i64 sp, .bool o]

/-- glide.within -/
def g35 : GSpec := fun args obs => match args, obs with
  | [.int .i64 x, .int .i64 y, .int .i64 z], [] => some (True, .ret (.bool (decide (y ≤ x ∧ x ≤ z))), [])
  | _, _ => none
theorem k35 (x y z : Int) (K' : Out → List Ob → Prop) : runFn (T19) (noD) noIv a35 [.int .i64 x, .int .i64 y, .int .i64 z] (lookO []) 0 (closeK K') =
    (bcase (decide (y ≤ x))
     (K' (Out.ret (V.bool (bif true then decide (x ≤ z) else false))) [])
     (K' (Out.ret (V.bool false)) [])) := by kernel_rfl
theorem r35 : FreshOk Try.prog 35 (ofD g35) := by
  refine fresh_of_run T19_ok (noD_ok _) (fun _ _ => noIv) Try.func35 c35 fun args obs K' hk => ?_
  unfold ofD g35 at hk
  split at hk
  · rename_i d_ out news hg
    split at hg
    · rename_i x y z
      cases hg
      obtain ⟨hc, hk⟩ := hk
      refine Eq.mpr (k35 x y z K') ?_
      · repeat' first
          | (refine bcase_i (fun h => ?_) (fun h => ?_))
          | (refine And.intro (by first | omega | (simp only [true_and, and_true]; done) | (simp only [true_and, and_true]; omega)) ?_)
          | (intro z ez)
        all_goals
          refine lfb hk ?_
          clear hk
          rw [Bool.eq_iff_iff]
          simp only [cond_true, cond_false, Bool.not_eq_true, Bool.not_eq_false, Bool.not_eq_true', Bool.not_eq_false', Bool.or_eq_true, Bool.and_eq_true, beq_iff_eq, bne_iff_ne, decide_eq_true_eq, decide_eq_false_iff_not, decide_true, decide_false, ne_eq, true_iff, false_iff, iff_true, iff_false, reduceCtorEq] at *
          omega
    · cases hg
  · exact hk.elim
/-- glide.within -/
def g64 : GSpec := fun args obs => match args, obs with
  | [.int .i64 x, .int .i64 y, .int .i64 z], [] => some (True, .ret (.bool (decide (y ≤ x ∧ x ≤ z))), [])
  | _, _ => none
theorem k64 (x y z : Int) (K' : Out → List Ob → Prop) : runFn (T19) (noD) noIv a64 [.int .i64 x, .int .i64 y, .int .i64 z] (lookO []) 0 (closeK K') =
    (bcase (decide (y ≤ x))
     (K' (Out.ret (V.bool (bif true then decide (x ≤ z) else false))) [])
     (K' (Out.ret (V.bool false)) [])) := by kernel_rfl
theorem r64 : FreshOk Try.prog 64 (ofD g64) := by
  refine fresh_of_run T19_ok (noD_ok _) (fun _ _ => noIv) Try.func64 c64 fun args obs K' hk => ?_
  unfold ofD g64 at hk
  split at hk
  · rename_i d_ out news hg
    split at hg
    · rename_i x y z
      cases hg
      obtain ⟨hc, hk⟩ := hk
      refine Eq.mpr (k64 x y z K') ?_
      · repeat' first
          | (refine bcase_i (fun h => ?_) (fun h => ?_))
          | (refine And.intro (by first | omega | (simp only [true_and, and_true]; done) | (simp only [true_and, and_true]; omega)) ?_)
          | (intro z ez)
        all_goals
          refine lfb hk ?_
          clear hk
          rw [Bool.eq_iff_iff]
          simp only [cond_true, cond_false, Bool.not_eq_true, Bool.not_eq_false, Bool.not_eq_true', Bool.not_eq_false', Bool.or_eq_true, Bool.and_eq_true, beq_iff_eq, bne_iff_ne, decide_eq_true_eq, decide_eq_false_iff_not, decide_true, decide_false, ne_eq, true_iff, false_iff, iff_true, iff_false, reduceCtorEq] at *
          omega
    · cases hg
  · exact hk.elim
def T20_0 : Tab := T19.add 35 (liftA (ofD g35))
def T20 : Tab := T20_0.add 64 (liftA (ofD g64))
theorem T20_0_ok : TabOk Try.prog T20_0 := T19_ok.add (entry_of_fresh r35)
theorem T20_ok : TabOk Try.prog T20 := T20_0_ok.add (entry_of_fresh r64)
/-- glide.square -/
def g34 : GSpec := fun args obs => match args, obs with
  | [.agg [.int .i64 x, .int .i64 y], .int .i64 m], [] => some (0 ≤ m ∧ m ≤ 9223372036854775807, .ret (.bool (decide ((-m ≤ x ∧ x ≤ m) ∧ -m ≤ y ∧ y ≤ m))), [])
  | _, _ => none
theorem k34 (x y m : Int) (K' : Out → List Ob → Prop) : runFn (T20) (noD) noIv a34 [.agg [.int .i64 x, .int .i64 y], .int .i64 m] (lookO []) 0 (closeK K') =
    ((True) ∧
    (True ∧ True ∧ True ∧ True) ∧
    (True) ∧
    bcase (decide (IntKind.i64.wrap ((0 : Int) - m) ≤ x ∧ x ≤ m))
     ((True ∧ True ∧ True ∧ True) ∧
     (True) ∧
     K' (Out.ret (V.bool (bif true then decide (IntKind.i64.wrap ((0 : Int) - m) ≤ y ∧ y ≤ m) else false))) [])
     (K' (Out.ret (V.bool false)) [])) := by kernel_rfl
theorem r34 : FreshOk Try.prog 34 (ofD g34) := by
  refine fresh_of_run T20_ok (noD_ok _) (fun _ _ => noIv) Try.func34 c34 fun args obs K' hk => ?_
  unfold ofD g34 at hk
  split at hk
  · rename_i d_ out news hg
    split at hg
    · rename_i x y m
      cases hg
      obtain ⟨hc, hk⟩ := hk
      refine Eq.mpr (k34 x y m K') ⟨trivial, ⟨trivial, ⟨trivial, ⟨trivial, trivial⟩⟩⟩, trivial, ?_⟩
      · have e : IntKind.i64.wrap (0 - m) = -m := by rw [IntWalk.i64_in _ (by omega)]; omega
        simp only [e]
        repeat' first
          | (refine bcase_i (fun h => ?_) (fun h => ?_))
          | (refine And.intro (by first | omega | (simp only [true_and, and_true]; done) | (simp only [true_and, and_true]; omega)) ?_)
          | (intro z ez)
        all_goals
          refine lfb hk ?_
          clear hk
          rw [Bool.eq_iff_iff]
          simp only [cond_true, cond_false, Bool.not_eq_true, Bool.not_eq_false, Bool.not_eq_true', Bool.not_eq_false', Bool.or_eq_true, Bool.and_eq_true, beq_iff_eq, bne_iff_ne, decide_eq_true_eq, decide_eq_false_iff_not, decide_true, decide_false, ne_eq, true_iff, false_iff, iff_true, iff_false, reduceCtorEq] at *
          omega
    · cases hg
  · exact hk.elim
def T20b : Tab := T20.add 34 (liftA (ofD g34))
theorem T20b_ok : TabOk Try.prog T20b := T20_ok.add (entry_of_fresh r34)
/-- glide.Check -/
def g23 : GSpec := fun args obs => match args, obs with
  | [.agg [.int .i64 ax, .int .i64 ay, .int .i64 sx, .int .i64 sy, .int .i64 sp]], [] => some (True, .ret (i64 (if MovOk ax ay sx sy sp then 0 else 2)), [])
  | _, _ => none
theorem k23 (ax ay sx sy sp : Int) (K' : Out → List Ob → Prop) : runFn (T20b) (noD) noIv a23 [.agg [.int .i64 ax, .int .i64 ay, .int .i64 sx, .int .i64 sy, .int .i64 sp]] (lookO []) 0 (closeK K') =
    ((True) ∧
    ((True ∧ True ∧ True) ∧ True ∧ True) ∧
    ((0 : Int) ≤ (6553600000 : Int) ∧ (6553600000 : Int) ≤ (9223372036854775807 : Int)) ∧
    bcase (!decide (((-6553600000 : Int) ≤ ax ∧ ax ≤ (6553600000 : Int)) ∧ (-6553600000 : Int) ≤ ay ∧ ay ≤ (6553600000 : Int)))
     (K' (Out.ret (V.int IntKind.i64 (2 : Int))) [])
     (((True ∧ True ∧ True) ∧ True ∧ True) ∧
     ((0 : Int) ≤ (65536000 : Int) ∧ (65536000 : Int) ≤ (9223372036854775807 : Int)) ∧
     bcase (bif false then true
  else !decide (((-65536000 : Int) ≤ sx ∧ sx ≤ (65536000 : Int)) ∧ (-65536000 : Int) ≤ sy ∧ sy ≤ (65536000 : Int)))
      (K' (Out.ret (V.int IntKind.i64 (2 : Int))) [])
      ((True ∧ True ∧ True ∧ True) ∧
      (True) ∧
      bcase (bif false then true else !decide ((-1000 : Int) ≤ sp ∧ sp ≤ (1000 : Int)))
       (K' (Out.ret (V.int IntKind.i64 (2 : Int))) [])
       (K' (Out.ret (V.int IntKind.i64 (0 : Int))) [])))) := by kernel_rfl
theorem r23 : FreshOk Try.prog 23 (ofD g23) := by
  refine fresh_of_run T20b_ok (noD_ok _) (fun _ _ => noIv) Try.func23 c23 fun args obs K' hk => ?_
  unfold ofD g23 at hk
  split at hk
  · rename_i d_ out news hg
    split at hg
    · rename_i ax ay sx sy sp
      cases hg
      obtain ⟨hc, hk⟩ := hk
      refine Eq.mpr (k23 ax ay sx sy sp K') ⟨trivial, ⟨⟨trivial, ⟨trivial, trivial⟩⟩, ⟨trivial, trivial⟩⟩, ?_, ?_⟩
      · first | omega | (simp only [true_and, and_true]; omega) | exact in_fix (by simp) (by simp; omega)
      · repeat' first
          | (refine bcase_i (fun h => ?_) (fun h => ?_))
          | (refine And.intro (by first | omega | (simp only [true_and, and_true]; done) | (simp only [true_and, and_true]; omega)) ?_)
          | (intro z ez)
        all_goals
          refine lfi hk ?_
          clear hk
          simp only [cond_true, cond_false, Bool.not_eq_true, Bool.not_eq_false, Bool.not_eq_true', Bool.not_eq_false', Bool.or_eq_true, Bool.and_eq_true, beq_iff_eq, bne_iff_ne, decide_eq_true_eq, decide_eq_false_iff_not, decide_true, decide_false, ne_eq, true_iff, false_iff, iff_true, iff_false, reduceCtorEq] at *
          first
            | rw [if_pos (by omega)]
            | rw [if_neg (by omega)]
    · cases hg
  · exact hk.elim
def T20c_0 : Tab := T20b.add 23 (absT .all (liftA (ofD g23)))
def T20c : Tab := T20c_0.add 15 (liftA (ofD g15))
theorem T20c_0_ok : TabOk Try.prog T20c_0 := T20b_ok.add (absT_ok .all (entry_of_fresh r23))
theorem T20c_ok : TabOk Try.prog T20c := T20c_0_ok.add (entry_of_fresh r15)
/-- contact.body.valid -/
def g14 : GSpec := fun args obs => match args, obs with
  | [.agg [.int .i64 tm, .int .i64 n, .int .i64 ax, .int .i64 ay, .int .i64 sx, .int .i64 sy, .int .i64 sp, .bool o]], [] => some (True, .ret (.bool (decide (BodyOk tm n ax ay sx sy sp))), [])
  | _, _ => none
theorem k14 (tm n ax ay sx sy sp : Int) (o : Bool) (K' : Out → List Ob → Prop) : runFn (T20c) (noD) noIv a14 [.agg [.int .i64 tm, .int .i64 n, .int .i64 ax, .int .i64 ay, .int .i64 sx, .int .i64 sy, .int .i64 sp, .bool o]] (lookO []) 0 (closeK K') =
    ((True) ∧
    (True ∧ True ∧ True ∧ True) ∧
    (True) ∧
    bcase (decide ((0 : Int) ≤ tm ∧ tm ≤ (1 : Int)))
     ((True ∧ True ∧ True ∧ True) ∧
     (True) ∧
     bcase (bif true then decide ((0 : Int) ≤ n ∧ n ≤ (7 : Int)) else false)
      (((True ∧ True ∧ True ∧ True ∧ True ∧ True) ∧ True) ∧
      (True) ∧
      (∀ (z0 : Int),
      ((z0 = if MovOk ax ay sx sy sp then (0 : Int) else (2 : Int)) →
      K' (Out.ret (V.bool (bif true then z0 == (0 : Int) else false))) [])))
      (K' (Out.ret (V.bool false)) []))
     (K' (Out.ret (V.bool false)) [])) := by kernel_rfl
theorem r14 : FreshOk Try.prog 14 (ofD g14) := by
  refine fresh_of_run T20c_ok (noD_ok _) (fun _ _ => noIv) Try.func14 c14 fun args obs K' hk => ?_
  unfold ofD g14 at hk
  split at hk
  · rename_i d_ out news hg
    split at hg
    · rename_i tm n ax ay sx sy sp o
      cases hg
      obtain ⟨hc, hk⟩ := hk
      refine Eq.mpr (k14 tm n ax ay sx sy sp o K') ⟨trivial, ⟨trivial, ⟨trivial, ⟨trivial, trivial⟩⟩⟩, trivial, ?_⟩
      · repeat' first
          | (refine bcase_i (fun h => ?_) (fun h => ?_))
          | (refine And.intro (by first | omega | (simp only [true_and, and_true]; done) | (simp only [true_and, and_true]; omega)) ?_)
          | (intro z ez)
        all_goals
          refine lfb hk ?_
          clear hk
          rw [Bool.eq_iff_iff]
          simp only [cond_true, cond_false, Bool.not_eq_true, Bool.not_eq_false, Bool.not_eq_true', Bool.not_eq_false', Bool.or_eq_true, Bool.and_eq_true, beq_iff_eq, bne_iff_ne, decide_eq_true_eq, decide_eq_false_iff_not, decide_true, decide_false, ne_eq, true_iff, false_iff, iff_true, iff_false, reduceCtorEq] at *
          first
            | omega
            | (split at ez <;> omega)
    · cases hg
  · exact hk.elim
/-- contact.body.rests -/
def g22 : GSpec := fun args obs => match args, obs with
  | [.agg [.int .i64 tm, .int .i64 n, .int .i64 ax, .int .i64 ay, .int .i64 sx, .int .i64 sy, .int .i64 sp, .bool o]], [] => some (True, .ret (.bool (decide (sx = 0 ∧ sy = 0))), [])
  | _, _ => none
theorem k22 (tm n ax ay sx sy sp : Int) (o : Bool) (K' : Out → List Ob → Prop) : runFn (T20c) (noD) noIv a22 [.agg [.int .i64 tm, .int .i64 n, .int .i64 ax, .int .i64 ay, .int .i64 sx, .int .i64 sy, .int .i64 sp, .bool o]] (lookO []) 0 (closeK K') =
    ((True) ∧
    K'
  (Out.ret
    (V.bool
      (match false with
      | true => !(sx == (0 : Int) && (sy == (0 : Int) && true))
      | false => sx == (0 : Int) && (sy == (0 : Int) && true))))
  []) := by kernel_rfl
theorem r22 : FreshOk Try.prog 22 (ofD g22) := by
  refine fresh_of_run T20c_ok (noD_ok _) (fun _ _ => noIv) Try.func22 c22 fun args obs K' hk => ?_
  unfold ofD g22 at hk
  split at hk
  · rename_i d_ out news hg
    split at hg
    · rename_i tm n ax ay sx sy sp o
      cases hg
      obtain ⟨hc, hk⟩ := hk
      refine Eq.mpr (k22 tm n ax ay sx sy sp o K') ⟨trivial, ?_⟩
      · refine lfb hk ?_
        rw [Bool.eq_iff_iff]
        simp
    · cases hg
  · exact hk.elim
/-- contact.body.gone -/
def g21 : GSpec := fun args obs => match args, obs with
  | [.agg [.int .i64 tm, .int .i64 n, .int .i64 ax, .int .i64 ay, .int .i64 sx, .int .i64 sy, .int .i64 sp, .bool o]], [] => some (-6553600000 ≤ ax ∧ ax ≤ 6553600000, .ret (.bool (decide ((146145280 ≤ ax ∨ ax ≤ -146145280) ∨ 129368064 < ay ∨ ay < -1977417728))), [])
  | _, _ => none
theorem k21 (tm n ax ay sx sy sp : Int) (o : Bool) (K' : Out → List Ob → Prop) : runFn (T20c) (noD) noIv a21 [.agg [.int .i64 tm, .int .i64 n, .int .i64 ax, .int .i64 ay, .int .i64 sx, .int .i64 sy, .int .i64 sp, .bool o]] (lookO []) 0 (closeK K') =
    ((True) ∧
    bcase (decide
  ((match false with
    | true => if IntKind.i64.wrap ((0 : Int) - ax) < ax then IntKind.i64.wrap ((0 : Int) - ax) else ax
    | false => if IntKind.i64.wrap ((0 : Int) - ax) > ax then IntKind.i64.wrap ((0 : Int) - ax) else ax) ≥
    (146145280 : Int)))
     (K' (Out.ret (V.bool true)) [])
     (bcase (bif false then true else decide (ay > (129368064 : Int)))
      (K' (Out.ret (V.bool true)) [])
      (K' (Out.ret (V.bool (bif false then true else decide (ay < (-1977417728 : Int))))) []))) := by kernel_rfl
theorem r21 : FreshOk Try.prog 21 (ofD g21) := by
  refine fresh_of_run T20c_ok (noD_ok _) (fun _ _ => noIv) Try.func21 c21 fun args obs K' hk => ?_
  unfold ofD g21 at hk
  split at hk
  · rename_i d_ out news hg
    split at hg
    · rename_i tm n ax ay sx sy sp o
      cases hg
      obtain ⟨hc, hk⟩ := hk
      refine Eq.mpr (k21 tm n ax ay sx sy sp o K') ⟨trivial, ?_⟩
      · dsimp only
        have e : IntKind.i64.wrap (0 - ax) = -ax := by rw [IntWalk.i64_in _ (by omega)]; omega
        simp only [e]
        rw [show (if -ax > ax then -ax else ax) = (ax.natAbs : Int) by split <;> omega]
        repeat' first
          | (refine bcase_i (fun h => ?_) (fun h => ?_))
          | (refine And.intro (by first | omega | (simp only [true_and, and_true]; done) | (simp only [true_and, and_true]; omega)) ?_)
          | (intro z ez)
        all_goals
          refine lfb hk ?_
          clear hk
          rw [Bool.eq_iff_iff]
          simp only [cond_true, cond_false, Bool.not_eq_true, Bool.not_eq_false, Bool.not_eq_true', Bool.not_eq_false', Bool.or_eq_true, Bool.and_eq_true, beq_iff_eq, bne_iff_ne, decide_eq_true_eq, decide_eq_false_iff_not, decide_true, decide_false, ne_eq, true_iff, false_iff, iff_true, iff_false, reduceCtorEq] at *
          omega
    · cases hg
  · exact hk.elim
def T20d_0 : Tab := T20c.add 14 (liftA (ofD g14))
def T20d_1 : Tab := T20d_0.add 22 (liftA (ofD g22))
def T20d : Tab := T20d_1.add 21 (liftA (ofD g21))
theorem T20d_0_ok : TabOk Try.prog T20d_0 := T20c_ok.add (entry_of_fresh r14)
theorem T20d_1_ok : TabOk Try.prog T20d_1 := T20d_0_ok.add (entry_of_fresh r22)
theorem T20d_ok : TabOk Try.prog T20d := T20d_1_ok.add (entry_of_fresh r21)

end Go.Proofs.Ytbolfnkgbjkbjaa.AM
