/- Contracts, part 20: bodies. -/
import Derived.Test.YtbolfnkgbjkbjaaGreatS19
set_option linter.unusedVariables false
set_option linter.unusedSimpArgs false
namespace Go.Proofs.YtbolfnkgbjkbjaaGreat.AM
open Go Go.RowKit
set_option maxRecDepth 100000

theorem lfb {K' : Out → List Ob → Prop} {x y : Bool} (h : K' (.ret (.bool y)) []) (e : x = y) : K' (.ret (.bool x)) [] := e ▸ h
theorem lfi {K' : Out → List Ob → Prop} {k : IntKind} {x y : Int} (h : K' (.ret (.int k y)) []) (e : x = y) : K' (.ret (.int k x)) [] := e ▸ h

/-- A stone that moves, a body: valid. -/
abbrev MovOk (ax ay sx sy sp : Int) : Prop := ((-6553600000 ≤ ax ∧ ax ≤ 6553600000) ∧ -6553600000 ≤ ay ∧ ay ≤ 6553600000) ∧ ((-65536000 ≤ sx ∧ sx ≤ 65536000) ∧ -65536000 ≤ sy ∧ sy ≤ 65536000) ∧ -1000 ≤ sp ∧ sp ≤ 1000
abbrev BodyOk (tm n ax ay sx sy sp : Int) : Prop := (0 ≤ tm ∧ tm ≤ 1) ∧ (0 ≤ n ∧ n ≤ 7) ∧ MovOk ax ay sx sy sp
abbrev bdV (tm n ax ay sx sy sp : Int) (o : Bool) : V := .agg [i64 tm, i64 n, i64 ax, i64 ay, i64 sx, i64 sy, i64 sp, .bool o]

/-- glide.within -/
def g120 : GSpec := fun args obs => match args, obs with
  | [.int .i64 x, .int .i64 y, .int .i64 z], [] => some (True, .ret (.bool (decide (y ≤ x ∧ x ≤ z))), [])
  | _, _ => none
theorem k120 (x y z : Int) (K' : Out → List Ob → Prop) : runFn (T19) (noD) noIv a120 [.int .i64 x, .int .i64 y, .int .i64 z] (lookO []) 0 (closeK K') =
    (bcase (decide (y ≤ x))
     (K' (Out.ret (V.bool (bif true then decide (x ≤ z) else false))) [])
     (K' (Out.ret (V.bool false)) [])) := by kernel_rfl
theorem r120 : FreshOk Tryz.prog 120 (ofD g120) := by
  refine fresh_of_run T19_ok (noD_ok _) (fun _ _ => noIv) Tryz.func120 c120 fun args obs K' hk => ?_
  unfold ofD g120 at hk
  split at hk
  · rename_i d_ out news hg
    split at hg
    · rename_i x y z
      cases hg
      obtain ⟨hc, hk⟩ := hk
      refine Eq.mpr (k120 x y z K') ?_
      · repeat' first
          | (refine bcase_i (fun h => ?_) (fun h => ?_))
          | (refine And.intro (by first | omega | (simp only [true_and, and_true]; done) | (simp only [true_and, and_true]; omega)) ?_)
          | (intro z ez)
        all_goals
          refine lfb hk ?_
          clear hk
          rw [Bool.eq_iff_iff]
          simp only [cond_true, cond_false, Bool.not_eq_true, Bool.not_eq_false, Bool.not_eq_true', Bool.not_eq_false', Bool.or_eq_true, Bool.and_eq_true, beq_iff_eq, bne_iff_ne, decide_eq_true_eq, decide_eq_false_iff_not, decide_true, decide_false, ne_eq, true_iff, false_iff, iff_true, iff_false, reduceCtorEq] at *
          omega
    · cases hg
  · exact hk.elim
/-- glide.within -/
def g186 : GSpec := fun args obs => match args, obs with
  | [.int .i64 x, .int .i64 y, .int .i64 z], [] => some (True, .ret (.bool (decide (y ≤ x ∧ x ≤ z))), [])
  | _, _ => none
theorem k186 (x y z : Int) (K' : Out → List Ob → Prop) : runFn (T19) (noD) noIv a186 [.int .i64 x, .int .i64 y, .int .i64 z] (lookO []) 0 (closeK K') =
    (bcase (decide (y ≤ x))
     (K' (Out.ret (V.bool (bif true then decide (x ≤ z) else false))) [])
     (K' (Out.ret (V.bool false)) [])) := by kernel_rfl
theorem r186 : FreshOk Tryz.prog 186 (ofD g186) := by
  refine fresh_of_run T19_ok (noD_ok _) (fun _ _ => noIv) Tryz.func186 c186 fun args obs K' hk => ?_
  unfold ofD g186 at hk
  split at hk
  · rename_i d_ out news hg
    split at hg
    · rename_i x y z
      cases hg
      obtain ⟨hc, hk⟩ := hk
      refine Eq.mpr (k186 x y z K') ?_
      · repeat' first
          | (refine bcase_i (fun h => ?_) (fun h => ?_))
          | (refine And.intro (by first | omega | (simp only [true_and, and_true]; done) | (simp only [true_and, and_true]; omega)) ?_)
          | (intro z ez)
        all_goals
          refine lfb hk ?_
          clear hk
          rw [Bool.eq_iff_iff]
          simp only [cond_true, cond_false, Bool.not_eq_true, Bool.not_eq_false, Bool.not_eq_true', Bool.not_eq_false', Bool.or_eq_true, Bool.and_eq_true, beq_iff_eq, bne_iff_ne, decide_eq_true_eq, decide_eq_false_iff_not, decide_true, decide_false, ne_eq, true_iff, false_iff, iff_true, iff_false, reduceCtorEq] at *
          omega
    · cases hg
  · exact hk.elim
def T20_0 : Tab := T19.add 120 (liftA (ofD g120))
def T20 : Tab := T20_0.add 186 (liftA (ofD g186))
theorem T20_0_ok : TabOk Tryz.prog T20_0 := T19_ok.add (entry_of_fresh r120)
theorem T20_ok : TabOk Tryz.prog T20 := T20_0_ok.add (entry_of_fresh r186)
/-- glide.square -/
def g119 : GSpec := fun args obs => match args, obs with
  | [.agg [.int .i64 x, .int .i64 y], .int .i64 m], [] => some (0 ≤ m ∧ m ≤ 9223372036854775807, .ret (.bool (decide ((-m ≤ x ∧ x ≤ m) ∧ -m ≤ y ∧ y ≤ m))), [])
  | _, _ => none
theorem k119 (x y m : Int) (K' : Out → List Ob → Prop) : runFn (T20) (noD) noIv a119 [.agg [.int .i64 x, .int .i64 y], .int .i64 m] (lookO []) 0 (closeK K') =
    ((True) ∧
    (True ∧ True ∧ True ∧ True) ∧
    (True) ∧
    bcase (decide (IntKind.i64.wrap ((0 : Int) - m) ≤ x ∧ x ≤ m))
     ((True ∧ True ∧ True ∧ True) ∧
     (True) ∧
     K' (Out.ret (V.bool (bif true then decide (IntKind.i64.wrap ((0 : Int) - m) ≤ y ∧ y ≤ m) else false))) [])
     (K' (Out.ret (V.bool false)) [])) := by kernel_rfl
theorem r119 : FreshOk Tryz.prog 119 (ofD g119) := by
  refine fresh_of_run T20_ok (noD_ok _) (fun _ _ => noIv) Tryz.func119 c119 fun args obs K' hk => ?_
  unfold ofD g119 at hk
  split at hk
  · rename_i d_ out news hg
    split at hg
    · rename_i x y m
      cases hg
      obtain ⟨hc, hk⟩ := hk
      refine Eq.mpr (k119 x y m K') ⟨trivial, ⟨trivial, ⟨trivial, ⟨trivial, trivial⟩⟩⟩, trivial, ?_⟩
      · have e : IntKind.i64.wrap (0 - m) = -m := by rw [IntWalk.i64_in _ (by omega)]; omega
        simp only [e]
        repeat' first
          | (refine bcase_i (fun h => ?_) (fun h => ?_))
          | (refine And.intro (by first | omega | (simp only [true_and, and_true]; done) | (simp only [true_and, and_true]; omega)) ?_)
          | (intro z ez)
        all_goals
          refine lfb hk ?_
          clear hk
          rw [Bool.eq_iff_iff]
          simp only [cond_true, cond_false, Bool.not_eq_true, Bool.not_eq_false, Bool.not_eq_true', Bool.not_eq_false', Bool.or_eq_true, Bool.and_eq_true, beq_iff_eq, bne_iff_ne, decide_eq_true_eq, decide_eq_false_iff_not, decide_true, decide_false, ne_eq, true_iff, false_iff, iff_true, iff_false, reduceCtorEq] at *
          omega
    · cases hg
  · exact hk.elim
def T20b : Tab := T20.add 119 (liftA (ofD g119))
theorem T20b_ok : TabOk Tryz.prog T20b := T20_ok.add (entry_of_fresh r119)
/-- glide.Check -/
def g75 : GSpec := fun args obs => match args, obs with
  | [.agg [.int .i64 ax, .int .i64 ay, .int .i64 sx, .int .i64 sy, .int .i64 sp]], [] => some (True, .ret (i64 (if MovOk ax ay sx sy sp then 0 else 2)), [])
  | _, _ => none
theorem k75 (ax ay sx sy sp : Int) (K' : Out → List Ob → Prop) : runFn (T20b) (noD) noIv a75 [.agg [.int .i64 ax, .int .i64 ay, .int .i64 sx, .int .i64 sy, .int .i64 sp]] (lookO []) 0 (closeK K') =
    ((True) ∧
    ((True ∧ True ∧ True) ∧ True ∧ True) ∧
    ((0 : Int) ≤ (6553600000 : Int) ∧ (6553600000 : Int) ≤ (9223372036854775807 : Int)) ∧
    bcase (!decide (((-6553600000 : Int) ≤ ax ∧ ax ≤ (6553600000 : Int)) ∧ (-6553600000 : Int) ≤ ay ∧ ay ≤ (6553600000 : Int)))
     (K' (Out.ret (V.int IntKind.i64 (2 : Int))) [])
     (((True ∧ True ∧ True) ∧ True ∧ True) ∧
     ((0 : Int) ≤ (65536000 : Int) ∧ (65536000 : Int) ≤ (9223372036854775807 : Int)) ∧
     bcase (bif false then true
  else !decide (((-65536000 : Int) ≤ sx ∧ sx ≤ (65536000 : Int)) ∧ (-65536000 : Int) ≤ sy ∧ sy ≤ (65536000 : Int)))
      (K' (Out.ret (V.int IntKind.i64 (2 : Int))) [])
      ((True ∧ True ∧ True ∧ True) ∧
      (True) ∧
      bcase (bif false then true else !decide ((-1000 : Int) ≤ sp ∧ sp ≤ (1000 : Int)))
       (K' (Out.ret (V.int IntKind.i64 (2 : Int))) [])
       (K' (Out.ret (V.int IntKind.i64 (0 : Int))) [])))) := by kernel_rfl
theorem r75 : FreshOk Tryz.prog 75 (ofD g75) := by
  refine fresh_of_run T20b_ok (noD_ok _) (fun _ _ => noIv) Tryz.func75 c75 fun args obs K' hk => ?_
  unfold ofD g75 at hk
  split at hk
  · rename_i d_ out news hg
    split at hg
    · rename_i ax ay sx sy sp
      cases hg
      obtain ⟨hc, hk⟩ := hk
      refine Eq.mpr (k75 ax ay sx sy sp K') ⟨trivial, ⟨⟨trivial, ⟨trivial, trivial⟩⟩, ⟨trivial, trivial⟩⟩, ?_, ?_⟩
      · first | omega | (simp only [true_and, and_true]; omega) | exact in_fix (by simp) (by simp; omega)
      · repeat' first
          | (refine bcase_i (fun h => ?_) (fun h => ?_))
          | (refine And.intro (by first | omega | (simp only [true_and, and_true]; done) | (simp only [true_and, and_true]; omega)) ?_)
          | (intro z ez)
        all_goals
          refine lfi hk ?_
          clear hk
          simp only [cond_true, cond_false, Bool.not_eq_true, Bool.not_eq_false, Bool.not_eq_true', Bool.not_eq_false', Bool.or_eq_true, Bool.and_eq_true, beq_iff_eq, bne_iff_ne, decide_eq_true_eq, decide_eq_false_iff_not, decide_true, decide_false, ne_eq, true_iff, false_iff, iff_true, iff_false, reduceCtorEq] at *
          first
            | rw [if_pos (by omega)]
            | rw [if_neg (by omega)]
    · cases hg
  · exact hk.elim
def T20c_0 : Tab := T20b.add 75 (absT .all (liftA (ofD g75)))
def T20c : Tab := T20c_0.add 50 (liftA (ofD g50))
theorem T20c_0_ok : TabOk Tryz.prog T20c_0 := T20b_ok.add (absT_ok .all (entry_of_fresh r75))
theorem T20c_ok : TabOk Tryz.prog T20c := T20c_0_ok.add (entry_of_fresh r50)
/-- contact.body.valid -/
def g44 : GSpec := fun args obs => match args, obs with
  | [.agg [.int .i64 tm, .int .i64 n, .int .i64 ax, .int .i64 ay, .int .i64 sx, .int .i64 sy, .int .i64 sp, .bool o]], [] => some (True, .ret (.bool (decide (BodyOk tm n ax ay sx sy sp))), [])
  | _, _ => none
theorem k44 (tm n ax ay sx sy sp : Int) (o : Bool) (K' : Out → List Ob → Prop) : runFn (T20c) (noD) noIv a44 [.agg [.int .i64 tm, .int .i64 n, .int .i64 ax, .int .i64 ay, .int .i64 sx, .int .i64 sy, .int .i64 sp, .bool o]] (lookO []) 0 (closeK K') =
    ((True) ∧
    (True ∧ True ∧ True ∧ True) ∧
    (True) ∧
    bcase (decide ((0 : Int) ≤ tm ∧ tm ≤ (1 : Int)))
     ((True ∧ True ∧ True ∧ True) ∧
     (True) ∧
     bcase (bif true then decide ((0 : Int) ≤ n ∧ n ≤ (7 : Int)) else false)
      (((True ∧ True ∧ True ∧ True ∧ True ∧ True) ∧ True) ∧
      (True) ∧
      (∀ (z0 : Int),
      ((z0 = if MovOk ax ay sx sy sp then (0 : Int) else (2 : Int)) →
      K' (Out.ret (V.bool (bif true then z0 == (0 : Int) else false))) [])))
      (K' (Out.ret (V.bool false)) []))
     (K' (Out.ret (V.bool false)) [])) := by kernel_rfl
theorem r44 : FreshOk Tryz.prog 44 (ofD g44) := by
  refine fresh_of_run T20c_ok (noD_ok _) (fun _ _ => noIv) Tryz.func44 c44 fun args obs K' hk => ?_
  unfold ofD g44 at hk
  split at hk
  · rename_i d_ out news hg
    split at hg
    · rename_i tm n ax ay sx sy sp o
      cases hg
      obtain ⟨hc, hk⟩ := hk
      refine Eq.mpr (k44 tm n ax ay sx sy sp o K') ⟨trivial, ⟨trivial, ⟨trivial, ⟨trivial, trivial⟩⟩⟩, trivial, ?_⟩
      · repeat' first
          | (refine bcase_i (fun h => ?_) (fun h => ?_))
          | (refine And.intro (by first | omega | (simp only [true_and, and_true]; done) | (simp only [true_and, and_true]; omega)) ?_)
          | (intro z ez)
        all_goals
          refine lfb hk ?_
          clear hk
          rw [Bool.eq_iff_iff]
          simp only [cond_true, cond_false, Bool.not_eq_true, Bool.not_eq_false, Bool.not_eq_true', Bool.not_eq_false', Bool.or_eq_true, Bool.and_eq_true, beq_iff_eq, bne_iff_ne, decide_eq_true_eq, decide_eq_false_iff_not, decide_true, decide_false, ne_eq, true_iff, false_iff, iff_true, iff_false, reduceCtorEq] at *
          first
            | omega
            | (split at ez <;> omega)
    · cases hg
  · exact hk.elim
/-- contact.body.rests -/
def g62 : GSpec := fun args obs => match args, obs with
  | [.agg [.int .i64 tm, .int .i64 n, .int .i64 ax, .int .i64 ay, .int .i64 sx, .int .i64 sy, .int .i64 sp, .bool o]], [] => some (True, .ret (.bool (decide (sx = 0 ∧ sy = 0))), [])
  | _, _ => none
theorem k62 (tm n ax ay sx sy sp : Int) (o : Bool) (K' : Out → List Ob → Prop) : runFn (T20c) (noD) noIv a62 [.agg [.int .i64 tm, .int .i64 n, .int .i64 ax, .int .i64 ay, .int .i64 sx, .int .i64 sy, .int .i64 sp, .bool o]] (lookO []) 0 (closeK K') =
    ((True) ∧
    K'
  (Out.ret
    (V.bool
      (match false with
      | true => !(sx == (0 : Int) && (sy == (0 : Int) && true))
      | false => sx == (0 : Int) && (sy == (0 : Int) && true))))
  []) := by kernel_rfl
theorem r62 : FreshOk Tryz.prog 62 (ofD g62) := by
  refine fresh_of_run T20c_ok (noD_ok _) (fun _ _ => noIv) Tryz.func62 c62 fun args obs K' hk => ?_
  unfold ofD g62 at hk
  split at hk
  · rename_i d_ out news hg
    split at hg
    · rename_i tm n ax ay sx sy sp o
      cases hg
      obtain ⟨hc, hk⟩ := hk
      refine Eq.mpr (k62 tm n ax ay sx sy sp o K') ⟨trivial, ?_⟩
      · refine lfb hk ?_
        rw [Bool.eq_iff_iff]
        simp
    · cases hg
  · exact hk.elim
/-- contact.body.gone -/
def g48 : GSpec := fun args obs => match args, obs with
  | [.agg [.int .i64 tm, .int .i64 n, .int .i64 ax, .int .i64 ay, .int .i64 sx, .int .i64 sy, .int .i64 sp, .bool o]], [] => some (-6553600000 ≤ ax ∧ ax ≤ 6553600000, .ret (.bool (decide ((146145280 ≤ ax ∨ ax ≤ -146145280) ∨ 129368064 < ay ∨ ay < -1977417728))), [])
  | _, _ => none
theorem k48 (tm n ax ay sx sy sp : Int) (o : Bool) (K' : Out → List Ob → Prop) : runFn (T20c) (noD) noIv a48 [.agg [.int .i64 tm, .int .i64 n, .int .i64 ax, .int .i64 ay, .int .i64 sx, .int .i64 sy, .int .i64 sp, .bool o]] (lookO []) 0 (closeK K') =
    ((True) ∧
    bcase (decide
  ((match false with
    | true => if IntKind.i64.wrap ((0 : Int) - ax) < ax then IntKind.i64.wrap ((0 : Int) - ax) else ax
    | false => if IntKind.i64.wrap ((0 : Int) - ax) > ax then IntKind.i64.wrap ((0 : Int) - ax) else ax) ≥
    (146145280 : Int)))
     (K' (Out.ret (V.bool true)) [])
     (bcase (bif false then true else decide (ay > (129368064 : Int)))
      (K' (Out.ret (V.bool true)) [])
      (K' (Out.ret (V.bool (bif false then true else decide (ay < (-1977417728 : Int))))) []))) := by kernel_rfl
theorem r48 : FreshOk Tryz.prog 48 (ofD g48) := by
  refine fresh_of_run T20c_ok (noD_ok _) (fun _ _ => noIv) Tryz.func48 c48 fun args obs K' hk => ?_
  unfold ofD g48 at hk
  split at hk
  · rename_i d_ out news hg
    split at hg
    · rename_i tm n ax ay sx sy sp o
      cases hg
      obtain ⟨hc, hk⟩ := hk
      refine Eq.mpr (k48 tm n ax ay sx sy sp o K') ⟨trivial, ?_⟩
      · dsimp only
        have e : IntKind.i64.wrap (0 - ax) = -ax := by rw [IntWalk.i64_in _ (by omega)]; omega
        simp only [e]
        rw [show (if -ax > ax then -ax else ax) = (ax.natAbs : Int) by split <;> omega]
        repeat' first
          | (refine bcase_i (fun h => ?_) (fun h => ?_))
          | (refine And.intro (by first | omega | (simp only [true_and, and_true]; done) | (simp only [true_and, and_true]; omega)) ?_)
          | (intro z ez)
        all_goals
          refine lfb hk ?_
          clear hk
          rw [Bool.eq_iff_iff]
          simp only [cond_true, cond_false, Bool.not_eq_true, Bool.not_eq_false, Bool.not_eq_true', Bool.not_eq_false', Bool.or_eq_true, Bool.and_eq_true, beq_iff_eq, bne_iff_ne, decide_eq_true_eq, decide_eq_false_iff_not, decide_true, decide_false, ne_eq, true_iff, false_iff, iff_true, iff_false, reduceCtorEq] at *
          omega
    · cases hg
  · exact hk.elim
def T20d_0 : Tab := T20c.add 44 (liftA (ofD g44))
def T20d_1 : Tab := T20d_0.add 62 (liftA (ofD g62))
def T20d : Tab := T20d_1.add 48 (liftA (ofD g48))
theorem T20d_0_ok : TabOk Tryz.prog T20d_0 := T20c_ok.add (entry_of_fresh r44)
theorem T20d_1_ok : TabOk Tryz.prog T20d_1 := T20d_0_ok.add (entry_of_fresh r62)
theorem T20d_ok : TabOk Tryz.prog T20d := T20d_1_ok.add (entry_of_fresh r48)

end Go.Proofs.YtbolfnkgbjkbjaaGreat.AM
