/- ContactPairs: what its proof stands on, part 5. -/
import Derived.Test.YtbolfnkgbjkbjaaGreatKCp4
section
set_option linter.unusedVariables false
set_option linter.unusedSimpArgs false
namespace Go.Proofs.YtbolfnkgbjkbjaaGreat.AM
open Go Go.RowKit
set_option maxRecDepth 100000

/-- ref04.Rest -/
def g41 : GSpec := fun args obs => match args, obs with
  | [.agg [.int .i64 ax, .int .i64 ay, .int .i64 sx, .int .i64 sy, .int .i64 sp]], [] => some (True, .ret (.bool (decide (sx = 0 ∧ sy = 0))), [])
  | _, _ => none
theorem k41 (ax ay sx sy sp : Int) (K' : Out → List Ob → Prop) : runFn (noTab) (noD) noIv a41 [.agg [.int .i64 ax, .int .i64 ay, .int .i64 sx, .int .i64 sy, .int .i64 sp]] (lookO []) 0 (closeK K') =
    ((True) ∧
    bcase (sx == (0 : Int))
     (K' (Out.ret (V.bool (bif true then sy == (0 : Int) else false))) [])
     (K' (Out.ret (V.bool false)) [])) := by kernel_rfl
theorem r41 : FreshOk Tryz.prog 41 (ofD g41) := by
  refine fresh_of_run (noTab_ok _) (noD_ok _) (fun _ _ => noIv) Tryz.func41 c41 fun args obs K' hk => ?_
  unfold ofD g41 at hk
  split at hk
  · rename_i d_ out news hg
    split at hg
    · rename_i ax ay sx sy sp
      cases hg
      obtain ⟨hc, hk⟩ := hk
      refine Eq.mpr (k41 ax ay sx sy sp K') ⟨trivial, ?_⟩
      · repeat' first
          | (refine bcase_i (fun h => ?_) (fun h => ?_))
          | (refine And.intro (by first | omega | (simp only [true_and, and_true]; done) | (simp only [true_and, and_true]; omega)) ?_)
          | (intro z ez)
        all_goals
          refine lfb hk ?_
          clear hk
          rw [Bool.eq_iff_iff]
          simp only [cond_true, cond_false, Bool.not_eq_true, Bool.not_eq_false, Bool.not_eq_true', Bool.not_eq_false', Bool.or_eq_true, Bool.and_eq_true, beq_iff_eq, beq_eq_false_iff_ne, bne_iff_ne, decide_eq_true_eq, decide_eq_false_iff_not, decide_true, decide_false, ne_eq, true_iff, false_iff, iff_true, iff_false, reduceCtorEq] at *
          omega
    · cases hg
  · exact hk.elim
/-- ref03.Spot -/
def g127 : GSpec := fun args obs => match args, obs with
  | [.agg [.int .i64 ax, .int .i64 ay]], [] => some (True, .ret (.bool (decide ((-6553600000 ≤ ax ∧ ax ≤ 6553600000) ∧ -6553600000 ≤ ay ∧ ay ≤ 6553600000))), [])
  | _, _ => none
theorem k127 (ax ay : Int) (K' : Out → List Ob → Prop) : runFn (noTab) (noD) noIv a127 [.agg [.int .i64 ax, .int .i64 ay]] (lookO []) 0 (closeK K') =
    ((True) ∧
    bcase (decide (ax ≥ (-6553600000 : Int)))
     (bcase (bif true then decide (ax ≤ (6553600000 : Int)) else false)
      (bcase (bif true then decide (ay ≥ (-6553600000 : Int)) else false)
       (K' (Out.ret (V.bool (bif true then decide (ay ≤ (6553600000 : Int)) else false))) [])
       (K' (Out.ret (V.bool false)) []))
      (K' (Out.ret (V.bool false)) []))
     (K' (Out.ret (V.bool false)) [])) := by kernel_rfl
theorem r127 : FreshOk Tryz.prog 127 (ofD g127) := by
  refine fresh_of_run (noTab_ok _) (noD_ok _) (fun _ _ => noIv) Tryz.func127 c127 fun args obs K' hk => ?_
  unfold ofD g127 at hk
  split at hk
  · rename_i d_ out news hg
    split at hg
    · rename_i ax ay
      cases hg
      obtain ⟨hc, hk⟩ := hk
      refine Eq.mpr (k127 ax ay K') ⟨trivial, ?_⟩
      · repeat' first
          | (refine bcase_i (fun h => ?_) (fun h => ?_))
          | (refine And.intro (by first | omega | (simp only [true_and, and_true]; done) | (simp only [true_and, and_true]; omega)) ?_)
          | (intro z ez)
        all_goals
          refine lfb hk ?_
          clear hk
          rw [Bool.eq_iff_iff]
          simp only [cond_true, cond_false, Bool.not_eq_true, Bool.not_eq_false, Bool.not_eq_true', Bool.not_eq_false', Bool.or_eq_true, Bool.and_eq_true, beq_iff_eq, beq_eq_false_iff_ne, bne_iff_ne, decide_eq_true_eq, decide_eq_false_iff_not, decide_true, decide_false, ne_eq, true_iff, false_iff, iff_true, iff_false, reduceCtorEq] at *
          omega
    · cases hg
  · exact hk.elim
/-- ref01.Valid -/
def g129 : GSpec := fun args obs => match args, obs with
  | [.int .i64 x], [] => some (True, .ret (.bool (decide (-70368744177664 ≤ x ∧ x ≤ 70368744177664))), [])
  | _, _ => none
theorem k129 (x : Int) (K' : Out → List Ob → Prop) : runFn (noTab) (noD) noIv a129 [.int .i64 x] (lookO []) 0 (closeK K') =
    (bcase (decide (x ≥ (-70368744177664 : Int)))
     (K' (Out.ret (V.bool (bif true then decide (x ≤ (70368744177664 : Int)) else false))) [])
     (K' (Out.ret (V.bool false)) [])) := by kernel_rfl
theorem r129 : FreshOk Tryz.prog 129 (ofD g129) := by
  refine fresh_of_run (noTab_ok _) (noD_ok _) (fun _ _ => noIv) Tryz.func129 c129 fun args obs K' hk => ?_
  unfold ofD g129 at hk
  split at hk
  · rename_i d_ out news hg
    split at hg
    · rename_i x
      cases hg
      obtain ⟨hc, hk⟩ := hk
      refine Eq.mpr (k129 x K') ?_
      · repeat' first
          | (refine bcase_i (fun h => ?_) (fun h => ?_))
          | (refine And.intro (by first | omega | (simp only [true_and, and_true]; done) | (simp only [true_and, and_true]; omega)) ?_)
          | (intro z ez)
        all_goals
          refine lfb hk ?_
          clear hk
          rw [Bool.eq_iff_iff]
          simp only [cond_true, cond_false, Bool.not_eq_true, Bool.not_eq_false, Bool.not_eq_true', Bool.not_eq_false', Bool.or_eq_true, Bool.and_eq_true, beq_iff_eq, beq_eq_false_iff_ne, bne_iff_ne, decide_eq_true_eq, decide_eq_false_iff_not, decide_true, decide_false, ne_eq, true_iff, false_iff, iff_true, iff_false, reduceCtorEq] at *
          omega
    · cases hg
  · exact hk.elim
/-- ref01.In -/
def g87 : GSpec := fun args obs => match args, obs with
  | [.int .i64 x, .int .i64 y, .int .i64 z], [] => some (True, .ret (.bool (decide (y ≤ x ∧ x ≤ z))), [])
  | _, _ => none
theorem k87 (x y z : Int) (K' : Out → List Ob → Prop) : runFn (noTab) (noD) noIv a87 [.int .i64 x, .int .i64 y, .int .i64 z] (lookO []) 0 (closeK K') =
    (bcase (decide (y ≤ x))
     (K' (Out.ret (V.bool (bif true then decide (x ≤ z) else false))) [])
     (K' (Out.ret (V.bool false)) [])) := by kernel_rfl
theorem r87 : FreshOk Tryz.prog 87 (ofD g87) := by
  refine fresh_of_run (noTab_ok _) (noD_ok _) (fun _ _ => noIv) Tryz.func87 c87 fun args obs K' hk => ?_
  unfold ofD g87 at hk
  split at hk
  · rename_i d_ out news hg
    split at hg
    · rename_i x y z
      cases hg
      obtain ⟨hc, hk⟩ := hk
      refine Eq.mpr (k87 x y z K') ?_
      · repeat' first
          | (refine bcase_i (fun h => ?_) (fun h => ?_))
          | (refine And.intro (by first | omega | (simp only [true_and, and_true]; done) | (simp only [true_and, and_true]; omega)) ?_)
          | (intro z ez)
        all_goals
          refine lfb hk ?_
          clear hk
          rw [Bool.eq_iff_iff]
          simp only [cond_true, cond_false, Bool.not_eq_true, Bool.not_eq_false, Bool.not_eq_true', Bool.not_eq_false', Bool.or_eq_true, Bool.and_eq_true, beq_iff_eq, beq_eq_false_iff_ne, bne_iff_ne, decide_eq_true_eq, decide_eq_false_iff_not, decide_true, decide_false, ne_eq, true_iff, false_iff, iff_true, iff_false, reduceCtorEq] at *
          omega
    · cases hg
  · exact hk.elim
def Z1a : Tab := (noTab.add 87 (liftA (ofD g87))).add 129 (liftA (ofD g129))
theorem Z1a_ok : TabOk Tryz.prog Z1a := ((noTab_ok _).add (entry_of_fresh r87)).add (entry_of_fresh r129)
/-- ref.in -/
def g54 : GSpec := fun args obs => match args, obs with
  | [.int .i64 x, .int .i64 y, .int .i64 z], [] => some (True, .ret (.bool (decide (y ≤ x ∧ x ≤ z))), [])
  | _, _ => none
theorem k54 (x y z : Int) (K' : Out → List Ob → Prop) : runFn (Z1a) (noD) noIv a54 [.int .i64 x, .int .i64 y, .int .i64 z] (lookO []) 0 (closeK K') =
    ((True ∧ True ∧ True ∧ True) ∧
    (True) ∧
    K' (Out.ret (V.bool (decide (y ≤ x ∧ x ≤ z)))) []) := by kernel_rfl
theorem r54 : FreshOk Tryz.prog 54 (ofD g54) := by
  refine fresh_of_run Z1a_ok (noD_ok _) (fun _ _ => noIv) Tryz.func54 c54 fun args obs K' hk => ?_
  unfold ofD g54 at hk
  split at hk
  · rename_i d_ out news hg
    split at hg
    · rename_i x y z
      cases hg
      obtain ⟨hc, hk⟩ := hk
      refine Eq.mpr (k54 x y z K') ⟨⟨trivial, ⟨trivial, ⟨trivial, trivial⟩⟩⟩, trivial, hk⟩
    · cases hg
  · exact hk.elim
/-- ref.in -/
def g115 : GSpec := fun args obs => match args, obs with
  | [.int .i64 x, .int .i64 y, .int .i64 z], [] => some (True, .ret (.bool (decide (y ≤ x ∧ x ≤ z))), [])
  | _, _ => none
theorem k115 (x y z : Int) (K' : Out → List Ob → Prop) : runFn (Z1a) (noD) noIv a115 [.int .i64 x, .int .i64 y, .int .i64 z] (lookO []) 0 (closeK K') =
    ((True ∧ True ∧ True ∧ True) ∧
    (True) ∧
    K' (Out.ret (V.bool (decide (y ≤ x ∧ x ≤ z)))) []) := by kernel_rfl
theorem r115 : FreshOk Tryz.prog 115 (ofD g115) := by
  refine fresh_of_run Z1a_ok (noD_ok _) (fun _ _ => noIv) Tryz.func115 c115 fun args obs K' hk => ?_
  unfold ofD g115 at hk
  split at hk
  · rename_i d_ out news hg
    split at hg
    · rename_i x y z
      cases hg
      obtain ⟨hc, hk⟩ := hk
      refine Eq.mpr (k115 x y z K') ⟨⟨trivial, ⟨trivial, ⟨trivial, trivial⟩⟩⟩, trivial, hk⟩
    · cases hg
  · exact hk.elim
/-- ref01.Spot -/
def g128 : GSpec := fun args obs => match args, obs with
  | [.agg [.int .i64 ax, .int .i64 ay]], [] => some (True, .ret (.bool (decide ((-70368744177664 ≤ ax ∧ ax ≤ 70368744177664) ∧ -70368744177664 ≤ ay ∧ ay ≤ 70368744177664))), [])
  | _, _ => none
theorem k128 (ax ay : Int) (K' : Out → List Ob → Prop) : runFn (Z1a) (noD) noIv a128 [.agg [.int .i64 ax, .int .i64 ay]] (lookO []) 0 (closeK K') =
    ((True) ∧
    (True ∧ True) ∧
    (True) ∧
    bcase (decide ((-70368744177664 : Int) ≤ ax ∧ ax ≤ (70368744177664 : Int)))
     ((True ∧ True) ∧
     (True) ∧
     K' (Out.ret (V.bool (bif true then decide ((-70368744177664 : Int) ≤ ay ∧ ay ≤ (70368744177664 : Int)) else false))) [])
     (K' (Out.ret (V.bool false)) [])) := by kernel_rfl
theorem r128 : FreshOk Tryz.prog 128 (ofD g128) := by
  refine fresh_of_run Z1a_ok (noD_ok _) (fun _ _ => noIv) Tryz.func128 c128 fun args obs K' hk => ?_
  unfold ofD g128 at hk
  split at hk
  · rename_i d_ out news hg
    split at hg
    · rename_i ax ay
      cases hg
      obtain ⟨hc, hk⟩ := hk
      refine Eq.mpr (k128 ax ay K') ⟨trivial, ⟨trivial, trivial⟩, trivial, ?_⟩
      · repeat' first
          | (refine bcase_i (fun h => ?_) (fun h => ?_))
          | (refine And.intro (by first | omega | (simp only [true_and, and_true]; done) | (simp only [true_and, and_true]; omega)) ?_)
          | (intro z ez)
        all_goals
          refine lfb hk ?_
          clear hk
          rw [Bool.eq_iff_iff]
          simp only [cond_true, cond_false, Bool.not_eq_true, Bool.not_eq_false, Bool.not_eq_true', Bool.not_eq_false', Bool.or_eq_true, Bool.and_eq_true, beq_iff_eq, beq_eq_false_iff_ne, bne_iff_ne, decide_eq_true_eq, decide_eq_false_iff_not, decide_true, decide_false, ne_eq, true_iff, false_iff, iff_true, iff_false, reduceCtorEq] at *
          omega
    · cases hg
  · exact hk.elim
def Z1b_0 : Tab := Z1a.add 54 (liftA (ofD g54))
def Z1b_1 : Tab := Z1b_0.add 115 (liftA (ofD g115))
def Z1b_2 : Tab := Z1b_1.add 127 (liftA (ofD g127))
def Z1b : Tab := Z1b_2.add 41 (liftA (ofD g41))
theorem Z1b_0_ok : TabOk Tryz.prog Z1b_0 := Z1a_ok.add (entry_of_fresh r54)
theorem Z1b_1_ok : TabOk Tryz.prog Z1b_1 := Z1b_0_ok.add (entry_of_fresh r115)
theorem Z1b_2_ok : TabOk Tryz.prog Z1b_2 := Z1b_1_ok.add (entry_of_fresh r127)
theorem Z1b_ok : TabOk Tryz.prog Z1b := Z1b_2_ok.add (entry_of_fresh r41)
/-- ref04.Moving -/
def g78 : GSpec := fun args obs => match args, obs with
  | [.agg [.int .i64 ax, .int .i64 ay, .int .i64 sx, .int .i64 sy, .int .i64 sp]], [] => some (True, .ret (.bool (decide (MovOk ax ay sx sy sp))), [])
  | _, _ => none
theorem k78 (ax ay sx sy sp : Int) (K' : Out → List Ob → Prop) : runFn (Z1b) (noD) noIv a78 [.agg [.int .i64 ax, .int .i64 ay, .int .i64 sx, .int .i64 sy, .int .i64 sp]] (lookO []) 0 (closeK K') =
    ((True) ∧
    bcase (decide (sx ≥ (-65536000 : Int)))
     (bcase (decide (sy ≥ (-65536000 : Int)))
      (bcase (bif true then decide (sx ≤ (65536000 : Int)) else false)
       (bcase (bif true then bif true then decide (sy ≤ (65536000 : Int)) else false else false)
        (((True ∧ True ∧ True) ∧ True) ∧
        (True) ∧
        bcase (bif true then
  decide (((-6553600000 : Int) ≤ ax ∧ ax ≤ (6553600000 : Int)) ∧ (-6553600000 : Int) ≤ ay ∧ ay ≤ (6553600000 : Int))
  else false)
         ((True ∧ True ∧ True ∧ True) ∧
         (True) ∧
         K' (Out.ret (V.bool (bif true then decide ((-1000 : Int) ≤ sp ∧ sp ≤ (1000 : Int)) else false))) [])
         (K' (Out.ret (V.bool false)) []))
        (K' (Out.ret (V.bool false)) []))
       (K' (Out.ret (V.bool false)) []))
      (bcase (bif true then decide (sx ≤ (65536000 : Int)) else false)
       (K' (Out.ret (V.bool false)) [])
       (K' (Out.ret (V.bool false)) [])))
     (bcase (decide (sy ≥ (-65536000 : Int)))
      (K' (Out.ret (V.bool false)) [])
      (K' (Out.ret (V.bool false)) []))) := by kernel_rfl
theorem r78 : FreshOk Tryz.prog 78 (ofD g78) := by
  refine fresh_of_run Z1b_ok (noD_ok _) (fun _ _ => noIv) Tryz.func78 c78 fun args obs K' hk => ?_
  unfold ofD g78 at hk
  split at hk
  · rename_i d_ out news hg
    split at hg
    · rename_i ax ay sx sy sp
      cases hg
      obtain ⟨hc, hk⟩ := hk
      refine Eq.mpr (k78 ax ay sx sy sp K') ⟨trivial, ?_⟩
      · repeat' first
          | (refine bcase_i (fun h => ?_) (fun h => ?_))
          | (refine And.intro (by first | omega | (simp only [true_and, and_true]; done) | (simp only [true_and, and_true]; omega)) ?_)
          | (intro z ez)
        all_goals
          refine lfb hk ?_
          clear hk
          rw [Bool.eq_iff_iff]
          simp only [cond_true, cond_false, Bool.not_eq_true, Bool.not_eq_false, Bool.not_eq_true', Bool.not_eq_false', Bool.or_eq_true, Bool.and_eq_true, beq_iff_eq, beq_eq_false_iff_ne, bne_iff_ne, decide_eq_true_eq, decide_eq_false_iff_not, decide_true, decide_false, ne_eq, true_iff, false_iff, iff_true, iff_false, reduceCtorEq] at *
          omega
    · cases hg
  · exact hk.elim
def Z1 : Tab := Z1b.add 78 (liftA (ofD g78))
theorem Z1_ok : TabOk Tryz.prog Z1 := Z1b_ok.add (entry_of_fresh r78)
/-- ref05.Body -/
def g46 : GSpec := fun args obs => match args, obs with
  | [.agg [.int .i64 tm, .int .i64 n, .int .i64 ax, .int .i64 ay, .int .i64 sx, .int .i64 sy, .int .i64 sp, .bool o]], [] => some (True, .ret (.bool (decide (BodyOk tm n ax ay sx sy sp))), [])
  | _, _ => none
theorem k46 (tm n ax ay sx sy sp : Int) (o : Bool) (K' : Out → List Ob → Prop) : runFn (Z1) (noD) noIv a46 [.agg [.int .i64 tm, .int .i64 n, .int .i64 ax, .int .i64 ay, .int .i64 sx, .int .i64 sy, .int .i64 sp, .bool o]] (lookO []) 0 (closeK K') =
    ((True) ∧
    (True ∧ True ∧ True ∧ True) ∧
    (True) ∧
    bcase (decide ((0 : Int) ≤ tm ∧ tm ≤ (1 : Int)))
     ((True ∧ True ∧ True ∧ True) ∧
     (True) ∧
     bcase (bif true then decide ((0 : Int) ≤ n ∧ n ≤ (7 : Int)) else false)
      (((True ∧ True ∧ True ∧ True ∧ True ∧ True) ∧ True) ∧
      (True) ∧
      K' (Out.ret (V.bool (bif true then decide (MovOk ax ay sx sy sp) else false))) [])
      (K' (Out.ret (V.bool false)) []))
     (K' (Out.ret (V.bool false)) [])) := by kernel_rfl
theorem r46 : FreshOk Tryz.prog 46 (ofD g46) := by
  refine fresh_of_run Z1_ok (noD_ok _) (fun _ _ => noIv) Tryz.func46 c46 fun args obs K' hk => ?_
  unfold ofD g46 at hk
  split at hk
  · rename_i d_ out news hg
    split at hg
    · rename_i tm n ax ay sx sy sp o
      cases hg
      obtain ⟨hc, hk⟩ := hk
      refine Eq.mpr (k46 tm n ax ay sx sy sp o K') ⟨trivial, ⟨trivial, ⟨trivial, ⟨trivial, trivial⟩⟩⟩, trivial, ?_⟩
      · repeat' first
          | (refine bcase_i (fun h => ?_) (fun h => ?_))
          | (refine And.intro (by first | omega | (simp only [true_and, and_true]; done) | (simp only [true_and, and_true]; omega)) ?_)
          | (intro z ez)
        all_goals
          refine lfb hk ?_
          clear hk
          rw [Bool.eq_iff_iff]
          simp only [cond_true, cond_false, Bool.not_eq_true, Bool.not_eq_false, Bool.not_eq_true', Bool.not_eq_false', Bool.or_eq_true, Bool.and_eq_true, beq_iff_eq, beq_eq_false_iff_ne, bne_iff_ne, decide_eq_true_eq, decide_eq_false_iff_not, decide_true, decide_false, ne_eq, true_iff, false_iff, iff_true, iff_false, reduceCtorEq] at *
          omega
    · cases hg
  · exact hk.elim
/-- ref05.gone -/
def g49 : GSpec := fun args obs => match args, obs with
  | [.agg [.int .i64 tm, .int .i64 n, .int .i64 ax, .int .i64 ay, .int .i64 sx, .int .i64 sy, .int .i64 sp, .bool o]], [] => some (True, .ret (.bool (decide ((146145280 ≤ ax ∨ ax ≤ -146145280) ∨ 129368064 < ay ∨ ay < -1977417728))), [])
  | _, _ => none
theorem k49 (tm n ax ay sx sy sp : Int) (o : Bool) (K' : Out → List Ob → Prop) : runFn (Z1) (noD) noIv a49 [.agg [.int .i64 tm, .int .i64 n, .int .i64 ax, .int .i64 ay, .int .i64 sx, .int .i64 sy, .int .i64 sp, .bool o]] (lookO []) 0 (closeK K') =
    ((True) ∧
    bcase (decide (ax ≥ (146145280 : Int)))
     (K' (Out.ret (V.bool true)) [])
     (bcase (bif false then true else decide (ax ≤ IntKind.i64.wrap ((0 : Int) - (146145280 : Int))))
      (K' (Out.ret (V.bool true)) [])
      (bcase (bif false then true else decide (ay > (129368064 : Int)))
       (K' (Out.ret (V.bool true)) [])
       (K' (Out.ret (V.bool (bif false then true else decide (ay < (-1977417728 : Int))))) [])))) := by kernel_rfl
theorem r49 : FreshOk Tryz.prog 49 (ofD g49) := by
  refine fresh_of_run Z1_ok (noD_ok _) (fun _ _ => noIv) Tryz.func49 c49 fun args obs K' hk => ?_
  unfold ofD g49 at hk
  split at hk
  · rename_i d_ out news hg
    split at hg
    · rename_i tm n ax ay sx sy sp o
      cases hg
      obtain ⟨hc, hk⟩ := hk
      refine Eq.mpr (k49 tm n ax ay sx sy sp o K') ⟨trivial, ?_⟩
      · have e : IntKind.i64.wrap ((0 : Int) - 146145280) = -146145280 := by decide
        simp only [e]
        repeat' first
          | (refine bcase_i (fun h => ?_) (fun h => ?_))
          | (refine And.intro (by first | omega | (simp only [true_and, and_true]; done) | (simp only [true_and, and_true]; omega)) ?_)
          | (intro z ez)
        all_goals
          refine lfb hk ?_
          clear hk
          rw [Bool.eq_iff_iff]
          simp only [cond_true, cond_false, Bool.not_eq_true, Bool.not_eq_false, Bool.not_eq_true', Bool.not_eq_false', Bool.or_eq_true, Bool.and_eq_true, beq_iff_eq, beq_eq_false_iff_ne, bne_iff_ne, decide_eq_true_eq, decide_eq_false_iff_not, decide_true, decide_false, ne_eq, true_iff, false_iff, iff_true, iff_false, reduceCtorEq] at *
          omega
    · cases hg
  · exact hk.elim

end Go.Proofs.YtbolfnkgbjkbjaaGreat.AM
end
section
set_option linter.unusedVariables false
set_option linter.unusedSimpArgs false
namespace Go.Proofs.YtbolfnkgbjkbjaaGreat.AM
open Go Go.RowKit
set_option maxRecDepth 100000

theorem incN (x : Nat) (h : x < 1000000) : IntKind.i64.wrap ((x : Int) + 1) = ((x + 1 : Nat) : Int) := by
  rw [IntWalk.i64_in _ (by omega)]; rfl
end Go.Proofs.YtbolfnkgbjkbjaaGreat.AM
end
section
set_option linter.unusedVariables false
set_option linter.unusedSimpArgs false
namespace Go.Proofs.YtbolfnkgbjkbjaaGreat.AM
open Go Go.RowKit
set_option maxRecDepth 100000

end Go.Proofs.YtbolfnkgbjkbjaaGreat.AM
end
section
set_option linter.unusedVariables false
set_option linter.unusedSimpArgs false
namespace Go.Proofs.YtbolfnkgbjkbjaaGreat.AM
open Go Go.RowKit
set_option maxRecDepth 100000

theorem lfk {K' : Out → List Ob → Prop} {o o' : Out} {n n' : List Ob} (h : K' o n) (e1 : o' = o) (e2 : n' = n) : K' o' n' := by rw [e1, e2]; exact h
end Go.Proofs.YtbolfnkgbjkbjaaGreat.AM
end
section
set_option linter.unusedVariables false
set_option linter.unusedSimpArgs false
namespace Go.Proofs.YtbolfnkgbjkbjaaGreat.AM

/-- The parts of a number, the lowest first, without zeros at the end. -/
def dg (n : Nat) : List Int := if h : n = 0 then [] else ((n % 32768 : Nat) : Int) :: dg (n / 32768)
termination_by n
decreasing_by omega
/-- The number of some parts. -/
def nv : List Int → Nat
  | [] => 0
  | d :: l => d.toNat + 32768 * nv l
/-- Parts. -/
def Dig (l : List Int) : Prop := ∀ d ∈ l, 0 ≤ d ∧ d < 32768
theorem dg_zero : dg 0 = [] := by rw [dg]; rfl
theorem dg_pos {n : Nat} (h : n ≠ 0) : dg n = ((n % 32768 : Nat) : Int) :: dg (n / 32768) := by rw [dg, dif_neg h]
theorem nv_dg (n : Nat) : nv (dg n) = n := by
  induction n using Nat.strongRecOn with
  | _ n ih =>
    by_cases h : n = 0
    · subst h; rw [dg_zero]; rfl
    · rw [dg_pos h, nv, ih _ (by omega)]
      omega
theorem dg_dig (n : Nat) : Dig (dg n) := by
  induction n using Nat.strongRecOn with
  | _ n ih =>
    by_cases h : n = 0
    · subst h; rw [dg_zero]; intro d hd; cases hd
    · rw [dg_pos h]
      intro d hd
      rcases List.mem_cons.1 hd with rfl | hd
      · omega
      · exact ih _ (by omega) d hd
theorem dg_cons {d m : Nat} (hd : d < 32768) (h : d + 32768 * m ≠ 0) : dg (d + 32768 * m) = (d : Int) :: dg m := by
  rw [dg_pos h, show (d + 32768 * m) % 32768 = d by omega, show (d + 32768 * m) / 32768 = m by omega]
theorem dg_len : ∀ (k n : Nat), n < 32768 ^ k → (dg n).length ≤ k
  | 0, n, h => by rw [show n = 0 by simpa using h, dg_zero]; exact Nat.le_refl _
  | k + 1, n, h => by
    by_cases h0 : n = 0
    · subst h0; rw [dg_zero]; exact Nat.zero_le _
    · rw [dg_pos h0, List.length_cons]
      have := dg_len k (n / 32768) (by rw [Nat.pow_succ] at h; omega)
      omega
theorem nv_append : ∀ (l m : List Int), nv (l ++ m) = nv l + 32768 ^ l.length * nv m
  | [], m => by simp [nv]
  | d :: l, m => by
    simp only [List.cons_append, nv, nv_append l m, List.length_cons, Nat.pow_succ, Nat.mul_add]
    rw [Nat.mul_comm (32768 ^ l.length) 32768, Nat.mul_assoc]
    omega
theorem nv_lt : ∀ (l : List Int), Dig l → nv l < 32768 ^ l.length
  | [], _ => by simp [nv]
  | d :: l, h => by
    have h1 := h d (List.mem_cons_self ..)
    have h2 := nv_lt l (fun x hx => h x (List.mem_cons_of_mem _ hx))
    simp only [nv, List.length_cons, Nat.pow_succ]
    omega
/-- Parts with no zero at the end are a number's own. -/
theorem dg_nv : ∀ (l : List Int), Dig l → (∀ h : l ≠ [], l.getLast h ≠ 0) → dg (nv l) = l
  | [], _, _ => by simp [nv, dg_zero]
  | [d], h, hl => by
    have h1 := h d (List.mem_cons_self ..)
    have h2 : d ≠ 0 := hl (by simp)
    have e := dg_cons (d := d.toNat) (m := 0) (by omega) (by omega)
    simp only [nv]
    rw [e, dg_zero]
    congr 1
    omega
  | d :: c :: l, h, hl => by
    have h1 := h d (List.mem_cons_self ..)
    have ih := dg_nv (c :: l) (fun x hx => h x (List.mem_cons_of_mem _ hx)) (fun hh => by simpa using hl (by simp))
    have hn : nv (c :: l) ≠ 0 := by
      intro e
      rw [e, dg_zero] at ih
      cases ih
    have e := dg_cons (d := d.toNat) (m := nv (c :: l)) (by omega) (by omega)
    rw [show nv (d :: c :: l) = d.toNat + 32768 * nv (c :: l) from rfl, e, ih]
    congr 1
    omega
theorem nv_zeros : ∀ n, nv (List.replicate n (0 : Int)) = 0
  | 0 => rfl
  | n + 1 => by rw [List.replicate_succ, nv, nv_zeros n]; rfl
/-- Own parts: the list is that of its number. -/
def Cn (l : List Int) : Prop := dg (nv l) = l
theorem cn_dg (n : Nat) : Cn (dg n) := by rw [Cn, nv_dg]
theorem Cn.dig {l : List Int} (h : Cn l) : Dig l := by rw [← h]; exact dg_dig _
theorem Cn.nil_iff {l : List Int} (h : Cn l) : nv l = 0 ↔ l = [] := by
  constructor
  · intro e; rw [← h, e, dg_zero]
  · intro e; rw [e]; rfl
theorem Cn.pos {l : List Int} (h : Cn l) (hl : l ≠ []) : 0 < nv l := Nat.pos_of_ne_zero fun e => hl (h.nil_iff.1 e)
theorem Cn.tail {d : Int} {l : List Int} (h : Cn (d :: l)) : Cn l ∧ 0 < nv (d :: l) := by
  have hd := h.dig d (List.mem_cons_self ..)
  have hp := h.pos (by simp)
  refine ⟨?_, hp⟩
  have e : dg (nv (d :: l)) = d :: l := h
  rw [show nv (d :: l) = d.toNat + 32768 * nv l from rfl, dg_cons (by omega) (by simp only [nv] at hp; omega)] at e
  exact (List.cons.inj e).2
theorem Cn.drop {l : List Int} (h : Cn l) : ∀ i, Cn (l.drop i) := by
  intro i
  induction i generalizing l with
  | zero => simpa using h
  | succ i ih =>
    cases l with
    | nil => simpa using h
    | cons d l => rw [List.drop_succ_cons]; exact ih h.tail.1
theorem Cn.drop_pos {l : List Int} (h : Cn l) {i : Nat} (hi : i < l.length) : 0 < nv (l.drop i) := (h.drop i).pos (by
  intro e
  have := congrArg List.length e
  rw [List.length_drop] at this
  simp at this
  omega)
theorem Cn.len_le {a b : List Int} (ha : Cn a) (hb : Cn b) (h : nv a ≤ nv b) : a.length ≤ b.length := by
  have h1 := nv_lt b hb.dig
  rw [← ha]
  exact dg_len _ _ (Nat.lt_of_le_of_lt h h1)
theorem nv_drop_at (l : List Int) (i : Nat) (h : i < l.length) : nv (l.drop i) = (l.getD i 0).toNat + 32768 * nv (l.drop (i + 1)) := by
  rw [List.drop_eq_getElem_cons h, nv, List.getD_eq_getElem?_getD, List.getElem?_eq_getElem h]; rfl
theorem nv_take_at (l : List Int) (i : Nat) (h : i < l.length) : nv (l.take (i + 1)) = nv (l.take i) + 32768 ^ i * (l.getD i 0).toNat := by
  rw [List.take_succ_eq_append_getElem h, nv_append, List.length_take, Nat.min_eq_left (by omega), List.getD_eq_getElem?_getD, List.getElem?_eq_getElem h]
  simp [nv]
theorem nv_split (l : List Int) (i : Nat) (h : i ≤ l.length) : nv l = nv (l.take i) + 32768 ^ i * nv (l.drop i) := by
  have := nv_append (l.take i) (l.drop i)
  rw [List.take_append_drop, List.length_take, Nat.min_eq_left h] at this
  exact this
theorem dig_get {l : List Int} (h : Dig l) (i : Nat) (hi : i < l.length) : 0 ≤ l.getD i 0 ∧ l.getD i 0 < 32768 := by
  rw [List.getD_eq_getElem?_getD, List.getElem?_eq_getElem hi]
  exact h _ (List.getElem_mem hi)
theorem dig_take {l : List Int} (h : Dig l) (i : Nat) : Dig (l.take i) := fun d hd => h d (List.mem_of_mem_take hd)
theorem dig_app {l : List Int} (h : Dig l) {d : Int} (hd : 0 ≤ d ∧ d < 32768) : Dig (l ++ [d]) := by
  intro x hx
  rcases List.mem_append.1 hx with hx | hx
  · exact h x hx
  · rw [List.mem_singleton] at hx; rw [hx]; exact hd
theorem dig_set {l : List Int} (h : Dig l) (i : Nat) {d : Int} (hd : 0 ≤ d ∧ d < 32768) : Dig (l.set i d) := by
  intro x hx
  rcases List.mem_or_eq_of_mem_set hx with hx | hx
  · exact h x hx
  · rw [hx]; exact hd
theorem dig_zeros (n : Nat) : Dig (List.replicate n (0 : Int)) := by
  intro d hd
  rw [List.eq_of_mem_replicate hd]
  decide
/-- A part put where it stands. -/
theorem nv_set : ∀ (l : List Int) (i : Nat) (d : Int), Dig l → 0 ≤ d → i < l.length → nv (l.set i d) + 32768 ^ i * (l.getD i 0).toNat = nv l + 32768 ^ i * d.toNat
  | c :: l, 0, d, h, hd, _ => by
    simp only [List.set_cons_zero, nv, List.getD_cons_zero, Nat.pow_zero, Nat.one_mul]
    omega
  | c :: l, i + 1, d, h, hd, hi => by
    have ih := nv_set l i d (fun x hx => h x (List.mem_cons_of_mem _ hx)) hd (by simpa using hi)
    simp only [List.set_cons_succ, nv, List.getD_cons_succ, Nat.pow_succ]
    have e : ∀ x, 32768 ^ i * 32768 * x = 32768 * (32768 ^ i * x) := fun x => by rw [Nat.mul_comm (32768 ^ i) 32768, Nat.mul_assoc]
    rw [e, e]
    omega
/-- Without the zeros at the end. -/
theorem trim_step {l : List Int} (h : l ≠ []) (h0 : l.getD (l.length - 1) 0 = 0) : nv (l.take (l.length - 1)) = nv l := by
  have hl : 0 < l.length := by cases l with
    | nil => exact absurd rfl h
    | cons _ _ => simp
  have := nv_take_at l (l.length - 1) (by omega)
  rw [h0, show l.length - 1 + 1 = l.length by omega, List.take_length] at this
  simpa using this.symm
theorem trim_end {l : List Int} (hd : Dig l) (h : l = [] ∨ l.getD (l.length - 1) 0 ≠ 0) : dg (nv l) = l := by
  refine dg_nv l hd fun hn => ?_
  rcases h with h | h
  · exact absurd h hn
  · rw [List.getLast_eq_getElem]
    have hl : l.length - 1 < l.length := by cases l with
      | nil => exact absurd rfl hn
      | cons _ _ => simp
    rw [List.getD_eq_getElem?_getD, List.getElem?_eq_getElem hl] at h
    exact h
end Go.Proofs.YtbolfnkgbjkbjaaGreat.AM
end
section
set_option linter.unusedVariables false
set_option linter.unusedSimpArgs false
namespace Go.Proofs.YtbolfnkgbjkbjaaGreat.AM

/-- The order of two numbers. -/
def ordN (a b : Nat) : Int := if a < b then -1 else if b < a then 1 else 0
theorem ordN_lt {a b : Nat} (h : a < b) : ordN a b = -1 := by simp [ordN, h]
theorem ordN_gt {a b : Nat} (h : b < a) : ordN a b = 1 := by
  have h2 : ¬ a < b := by omega
  simp [ordN, h, h2]
theorem ordN_le (a b : Nat) : (ordN a b ≤ 0) ↔ a ≤ b := by unfold ordN; split <;> (try split) <;> omega
theorem ordN_ge (a b : Nat) : (ordN a b ≥ 0) ↔ b ≤ a := by unfold ordN; split <;> (try split) <;> omega
theorem ord_lt {l m : List Int} (hl : Dig l) (hm : Dig m) {i : Nat} (h1 : i < l.length) (h2 : i < m.length) (h : l.getD i 0 < m.getD i 0) : nv (l.take (i + 1)) < nv (m.take (i + 1)) := by
  rw [nv_take_at l i h1, nv_take_at m i h2]
  have a1 := nv_lt _ (dig_take hl i)
  rw [List.length_take, Nat.min_eq_left (by omega)] at a1
  have b1 := dig_get hl i h1
  have b2 := dig_get hm i h2
  have e : (l.getD i 0).toNat + 1 ≤ (m.getD i 0).toNat := by omega
  have := Nat.mul_le_mul_left (32768 ^ i) e
  rw [Nat.mul_add, Nat.mul_one] at this
  omega
theorem ord_eq {l m : List Int} {i : Nat} (h1 : i < l.length) (h2 : i < m.length) (h : l.getD i 0 = m.getD i 0) : ordN (nv (l.take (i + 1))) (nv (m.take (i + 1))) = ordN (nv (l.take i)) (nv (m.take i)) := by
  rw [nv_take_at l i h1, nv_take_at m i h2, h]
  generalize 32768 ^ i * (m.getD i 0).toNat = z
  unfold ordN
  have e1 : (nv (l.take i) + z < nv (m.take i) + z) ↔ nv (l.take i) < nv (m.take i) := by omega
  have e2 : (nv (m.take i) + z < nv (l.take i) + z) ↔ nv (m.take i) < nv (l.take i) := by omega
  simp only [e1, e2]
theorem len_lt {l m : List Int} (hl : Cn l) (hm : Cn m) (h : l.length < m.length) : nv l < nv m := by
  refine Nat.lt_of_not_le fun h2 => ?_
  have := hm.len_le hl h2
  omega
theorem len_four {l : List Int} (hl : Cn l) : l.length ≤ 4 ↔ nv l < 1152921504606846976 := by
  constructor
  · intro h
    have h1 := nv_lt l hl.dig
    have h2 : 32768 ^ l.length ≤ 32768 ^ 4 := Nat.pow_le_pow_right (by decide) h
    have h3 : (32768 : Nat) ^ 4 = 1152921504606846976 := by decide
    omega
  · intro h
    rw [← hl]
    exact dg_len 4 _ (by have h3 : (32768 : Nat) ^ 4 = 1152921504606846976 := by decide
                         omega)
/-- The part at a place, 0 behind the end. -/
def pt (l : List Int) (i : Nat) : Nat := (l.getD i 0).toNat
theorem nv_drop_pt (l : List Int) (i : Nat) : nv (l.drop i) = pt l i + 32768 * nv (l.drop (i + 1)) := by
  by_cases h : i < l.length
  · exact nv_drop_at l i h
  · rw [List.drop_eq_nil_of_le (by omega), List.drop_eq_nil_of_le (by omega), pt, List.getD_eq_getElem?_getD, List.getElem?_eq_none (by omega)]
    rfl
theorem pt_out {l : List Int} {i : Nat} (h : ¬ i < l.length) : pt l i = 0 := by
  rw [pt, List.getD_eq_getElem?_getD, List.getElem?_eq_none (by omega)]; rfl
theorem pt_in {l : List Int} (hl : Dig l) {i : Nat} (h : i < l.length) : l.getD i 0 = (pt l i : Int) ∧ pt l i < 32768 := by
  have := dig_get hl i h
  unfold pt
  omega
theorem pt_lt {l : List Int} (hl : Dig l) (i : Nat) : pt l i < 32768 := by
  by_cases h : i < l.length
  · exact (pt_in hl h).2
  · rw [pt_out h]; decide
theorem plus_step {l m : List Int} (hl : Dig l) (hm : Dig m) {i c : Nat} (hc : c ≤ 1) (h0 : c + nv (l.drop i) + nv (m.drop i) ≠ 0) :
    dg (c + nv (l.drop i) + nv (m.drop i)) = (((c + pt l i + pt m i) % 32768 : Nat) : Int) :: dg ((c + pt l i + pt m i) / 32768 + nv (l.drop (i + 1)) + nv (m.drop (i + 1))) := by
  rw [dg_pos h0]
  rw [nv_drop_pt l i, nv_drop_pt m i]
  congr 2
  · omega
  · omega
/-- One step of the product. -/
theorem times_step {out : List Int} (hd : Dig out) {i k cn an bn X Y : Nat} {d : Int} (hik : i + k < out.length) (hdv : d = (((cn + pt out (i + k) + an * bn) % 32768 : Nat) : Int))
    (h : nv out + cn * 32768 ^ (i + k) = X + an * 32768 ^ i * Y) :
    nv (out.set (i + k) d) + (cn + pt out (i + k) + an * bn) / 32768 * 32768 ^ (i + k + 1) = X + an * 32768 ^ i * (Y + 32768 ^ k * bn) := by
  have h1 := nv_set out (i + k) d hd (by omega) hik
  have e0 : d.toNat = (cn + pt out (i + k) + an * bn) % 32768 := by omega
  rw [e0] at h1
  change nv (out.set (i + k) d) + 32768 ^ (i + k) * pt out (i + k) = _ at h1
  generalize hv : cn + pt out (i + k) + an * bn = v at *
  have e1 : 32768 ^ (i + k) * v = 32768 ^ (i + k) * (32768 * (v / 32768)) + 32768 ^ (i + k) * (v % 32768) := by
    rw [← Nat.mul_add, Nat.div_add_mod]
  have e2 : 32768 ^ (i + k) * v = 32768 ^ (i + k) * cn + 32768 ^ (i + k) * pt out (i + k) + 32768 ^ (i + k) * (an * bn) := by
    rw [← hv, Nat.mul_add, Nat.mul_add]
  have e3 : v / 32768 * 32768 ^ (i + k + 1) = 32768 ^ (i + k) * (32768 * (v / 32768)) := by
    rw [Nat.pow_succ, Nat.mul_comm (v / 32768), Nat.mul_assoc]
  have e4 : an * 32768 ^ i * (Y + 32768 ^ k * bn) = an * 32768 ^ i * Y + 32768 ^ (i + k) * (an * bn) := by
    rw [Nat.mul_add, Nat.pow_add]
    congr 1
    generalize 32768 ^ i = a
    generalize 32768 ^ k = b
    rw [Nat.mul_assoc, Nat.mul_left_comm, Nat.mul_assoc]
    congr 1
    rw [Nat.mul_left_comm]
  rw [e3, e4]
  rw [Nat.mul_comm cn] at h
  omega
/-- The end of a row of the product: the carry laid where there is nothing yet. -/
theorem times_row {out : List Int} (hd : Dig out) {i n cn X : Nat} {d : Int} (hin : i + n < out.length) (hdv : d = (cn : Int)) (h0 : pt out (i + n) = 0) (h : nv out + cn * 32768 ^ (i + n) = X) : nv (out.set (i + n) d) = X := by
  have h1 := nv_set out (i + n) d hd (by omega) hin
  change nv (out.set (i + n) d) + 32768 ^ (i + n) * pt out (i + n) = _ at h1
  rw [h0, show d.toNat = cn by omega] at h1
  rw [Nat.mul_comm cn] at h
  omega
theorem pt_set_ne {l : List Int} {i j : Nat} {d : Int} (h : i ≠ j) : pt (l.set i d) j = pt l j := by
  unfold pt
  rw [List.getD_eq_getElem?_getD, List.getD_eq_getElem?_getD, List.getElem?_set_ne h]
theorem pt_zeros (n j : Nat) : pt (List.replicate n (0 : Int)) j = 0 := by
  unfold pt
  rw [List.getD_eq_getElem?_getD]
  by_cases h : j < n
  · rw [List.getElem?_replicate, if_pos h]; rfl
  · rw [List.getElem?_eq_none (by simpa using Nat.le_of_not_lt h)]; rfl
/-- One step of the difference. -/
theorem minus_step {N p L b M R li mi L' M' d b' : Int} (h : N + p * (L - b - M) = R) (hL : L = li + 32768 * L') (hM : M = mi + 32768 * M') (hd : d = li - b - mi + 32768 * b') :
    (N + p * d) + (p * 32768) * (L' - b' - M') = R := by
  have e : p * d + (p * 32768) * (L' - b' - M') = p * (L - b - M) := by
    rw [Int.mul_assoc, ← Int.mul_add]
    congr 1
    omega
  omega
theorem pow_pos (i : Nat) : 0 < 32768 ^ i := Nat.pow_pos (by decide)
theorem nv_app (l : List Int) (d : Int) (hd : 0 ≤ d) : (nv (l ++ [d]) : Int) = nv l + ((32768 ^ l.length : Nat) : Int) * d := by
  rw [nv_append]
  simp only [nv, Nat.mul_zero, Nat.add_zero]
  rw [Int.natCast_add, Int.natCast_mul, Int.toNat_of_nonneg hd]
theorem minus_end {l m acc : List Int} {b : Int} (hl : Cn l) (hm : Cn m) (hle : nv m ≤ nv l) (ha : Dig acc) (hn : acc.length = l.length) (hb : 0 ≤ b ∧ b ≤ 1)
    (h : (nv acc : Int) + ((32768 ^ l.length : Nat) : Int) * ((nv (l.drop l.length) : Int) - b - nv (m.drop l.length)) = nv l - nv m) : nv acc = nv l - nv m := by
  have hlen := hm.len_le hl hle
  rw [List.drop_eq_nil_of_le (Nat.le_refl _), List.drop_eq_nil_of_le hlen] at h
  have h1 := nv_lt acc ha
  rw [hn] at h1
  have hp := pow_pos l.length
  have hb' : b = 0 ∨ b = 1 := by omega
  simp only [nv] at h
  rcases hb' with rfl | rfl
  · rw [show ((0 : Nat) : Int) - 0 - (0 : Nat) = 0 by decide, Int.mul_zero] at h
    omega
  · rw [show ((0 : Nat) : Int) - 1 - (0 : Nat) = -1 by decide, Int.mul_neg, Int.mul_one] at h
    omega
theorem over_low {R B : Nat} (h : R < B) : R / B = 0 := Nat.div_eq_of_lt h
/-- A part of the quotient put where it stands. -/
theorem nv_drop_set {q : List Int} {i : Nat} {d : Int} (hd : 0 ≤ d) (hi : i < q.length) : nv ((q.set i d).drop i) = d.toNat + 32768 * nv (q.drop (i + 1)) := by
  rw [nv_drop_pt, pt, List.getD_eq_getElem?_getD, List.getElem?_set_self hi, List.drop_set_of_lt (by omega)]
  rfl
theorem over_row {A A' Q R B a part R2 : Nat} (h : A' = Q * B + R) (hA : A = a + 32768 * A') (h2 : R2 = a + 32768 * R) (hp : part * B ≤ R2) : A = (part + 32768 * Q) * B + (R2 - part * B) := by
  have e : (part + 32768 * Q) * B = part * B + 32768 * (Q * B) := by rw [Nat.add_mul, Nat.mul_assoc]
  omega
theorem over_end {A B Q R : Nat} (h : A = Q * B + R) (hR : R < B) : Q = A / B ∧ R = A % B := by
  have hB : 0 < B := by omega
  subst h
  constructor
  · rw [Nat.add_comm, Nat.add_mul_div_right _ _ hB, Nat.div_eq_of_lt hR]; omega
  · rw [Nat.add_comm, Nat.add_mul_mod_self_right, Nat.mod_eq_of_lt hR]
end Go.Proofs.YtbolfnkgbjkbjaaGreat.AM
end
section
set_option linter.unusedVariables false
set_option linter.unusedSimpArgs false
namespace Go.Proofs.YtbolfnkgbjkbjaaGreat.AM
open Go Go.RowKit
set_option maxRecDepth 100000

abbrev P130_0 (n : Int) (c x : Int × List Int) : Prop := 0 ≤ x.1 ∧ x.1 ≤ n ∧ x.2 ++ dg x.1.toNat = dg n.toNat
abbrev M130_0 (n : Int) (x : Int × List Int) : Nat := x.1.toNat
def An130 : List V → List Ob → Ann := fun args obs => match args, obs with
  | [.int .i64 n], [] => ⟨Int × List Int, default, fun nm c x => P130_0 n c x, fun nm x => M130_0 n x, fun nm x => [(0, i64 x.1), (3, .osl 0)], fun nm x => [.own 3 [.int .i64] x.2]⟩
  | _, _ => noAnn
theorem c130q : chkFn Tryz.prog Tryz.f130 (a130.lq) = true := by kernel_rfl
/-- of -/
def g130 : GSpec := fun args obs => match args, obs with
  | [.int .i64 n], [] => some (0 ≤ n ∧ n < 9223372036854775808, .ret (.osl 0), [.own 3 [.int .i64] (dg n.toNat)])
  | _, _ => none
theorem k130 (n : Int) (K' : Out → List Ob → Prop) : runQ (noTab) (noD) (An130 [.int .i64 n] []) (a130.lq) [.int .i64 n] (lookO []) 0 (closeK K') =
    ((True) ∧
    (True) ∧
    ((∃ y0 : Int × List Int,
     (P130_0 n (default, default) y0) ∧
     (((n) = y0.fst) ∧
      (True) ∧
      True) ∧
     (([]) = y0.snd) ∧
     True)) ∧
    (∀ (z1 : Int × List Int),
    ((P130_0 n (default, default) z1) →
    bcase (decide (z1.fst > (0 : Int)))
     (((32768 : Int) ≠ (0 : Int)) ∧
     (True) ∧
     (True ∧ (z1.snd.length + ([z1.fst.tmod (32768 : Int)]).length) * (8 : Nat) ≤ (140737488355328 : Nat)) ∧
     ((32768 : Int) ≠ (0 : Int)) ∧
     (∃ y3 : Int × List Int,
     (M130_0 n y3 < M130_0 n z1) ∧
     (P130_0 n (default, default) y3) ∧
     (((IntKind.i64.wrap (z1.fst.tdiv (32768 : Int))) = y3.fst) ∧
      (True) ∧
      True) ∧
     (((z1.snd ++ [z1.fst.tmod (32768 : Int)])) = y3.snd) ∧
     True))
     (K' (Out.ret (V.osl (nat_lit 0))) [Ob.own (nat_lit 3) [SK.int IntKind.i64] z1.snd])))) := by kernel_rfl
theorem r130 : FreshOk Tryz.prog 130 (ofD g130) := by
  refine fresh_of_runQ (noTab_ok _) (noD_ok _) An130 Tryz.func130 c130q fun args obs K' hk => ?_
  unfold ofD g130 at hk
  split at hk
  · rename_i d_ out news hg
    split at hg
    · rename_i n
      cases hg
      obtain ⟨hc, hk⟩ := hk
      refine Eq.mpr (k130 n K') ?_
      obtain ⟨hn0, hn1⟩ := hc
      have hlen : (dg n.toNat).length ≤ 5 := dg_len 5 _ (by
        have h3 : (32768 : Nat) ^ 5 = 37778931862957161709568 := by decide
        omega)
      refine ⟨trivial, trivial, ⟨(n, []), ⟨hn0, Int.le_refl _, rfl⟩, ⟨rfl, trivial, trivial⟩, rfl, trivial⟩, ?_⟩
      rintro ⟨v, acc⟩ ⟨h0, h1, h2⟩
      dsimp only at h0 h1 h2 ⊢
      refine bcase_i (fun h => ?_) (fun h => ?_)
      · have h := of_decide_eq_true h
        have e1 : v.tmod 32768 = ((v.toNat % 32768 : Nat) : Int) := by rw [Int.tmod_eq_emod_of_nonneg h0]; omega
        have e2 : IntKind.i64.wrap (v.tdiv 32768) = ((v.toNat / 32768 : Nat) : Int) := by
          rw [Int.tdiv_eq_ediv_of_nonneg h0, IntWalk.i64_in _ (by omega)]; omega
        rw [dg_pos (by omega)] at h2
        have hl := congrArg List.length h2
        simp only [List.length_append, List.length_cons] at hl
        refine ⟨by decide, trivial, ⟨trivial, by simp only [List.length_cons, List.length_nil]; omega⟩, by decide, (((v.toNat / 32768 : Nat) : Int), acc ++ [v.tmod 32768]), by simp only [M130_0]; omega, ⟨by dsimp only; omega, by dsimp only; omega, ?_⟩, ⟨e2, trivial, trivial⟩, rfl, trivial⟩
        dsimp only
        rw [← h2, e1, Int.toNat_natCast]
        simp
      · have h := of_decide_eq_false h
        rw [show v.toNat = 0 by omega, dg_zero, List.append_nil] at h2
        exact lfk hk rfl (by rw [h2])
    · cases hg
  · exact hk.elim
abbrev P132_0 (l m : List Int) (c x : Int) : Prop := -1 ≤ x ∧ x < l.length ∧ l.length = m.length ∧ ordN (nv (l.take (x + 1).toNat)) (nv (m.take (x + 1).toNat)) = ordN (nv l) (nv m)
abbrev M132_0 (l m : List Int) (x : Int) : Nat := (x + 1).toNat
def An132 : List V → List Ob → Ann := fun args obs => match args, obs with
  | [.osl 0, .osl 1], [.ro [.int .i64] l, .ro [.int .i64] m] => ⟨Int, default, fun nm c x => P132_0 l m c x, fun nm x => M132_0 l m x, fun nm x => [(0, .osl 0), (1, .osl 1), (5, i64 x)], fun nm x => [.ro [.int .i64] l, .ro [.int .i64] m]⟩
  | _, _ => noAnn
theorem c132q : chkFn Tryz.prog Tryz.f132 (a132.lq) = true := by kernel_rfl
/-- order -/
def g132 : GSpec := fun args obs => match args, obs with
  | [.osl 0, .osl 1], [.ro [.int .i64] l, .ro [.int .i64] m] => some (Cn l ∧ Cn m ∧ l.length < 1000000, .ret (i64 (ordN (nv l) (nv m))), [])
  | _, _ => none
theorem k132 (l m : List Int) (K' : Out → List Ob → Prop) : runQ (noTab) (noD) (An132 [.osl 0, .osl 1] [.ro [.int .i64] l, .ro [.int .i64] m]) (a132.lq) [.osl 0, .osl 1] (lookO [.ro [.int .i64] l, .ro [.int .i64] m]) 2 (closeK K') =
    (bcase (decide ((↑l.length : Int) < (↑m.length : Int)))
     (K' (Out.ret (V.int IntKind.i64 (-1 : Int))) [])
     (bcase (decide ((↑l.length : Int) > (↑m.length : Int)))
      (K' (Out.ret (V.int IntKind.i64 (1 : Int))) [])
      (((∃ y0 : Int,
       (P132_0 l m (Int.ofNat (0 : Nat)) y0) ∧
       ((True) ∧
        (True) ∧
        ((IntKind.i64.wrap ((↑l.length : Int) - (1 : Int))) = y0) ∧
        True) ∧
       ((l) = l) ∧
       ((m) = m) ∧
       True)) ∧
      (∀ (z1 : Int),
      ((P132_0 l m (Int.ofNat (0 : Nat)) z1) →
      bcase (decide (z1 ≥ (0 : Int)))
       (((0 : Int) ≤ z1 ∧ z1 < (↑l.length : Int)) ∧
       (Int.toNat z1 < l.length) ∧
       ((0 : Int) ≤ z1 ∧ z1 < (↑m.length : Int)) ∧
       (Int.toNat z1 < m.length) ∧
       bcase (decide (l.getD (Int.toNat z1) (0 : Int) < m.getD (Int.toNat z1) (0 : Int)))
        (K' (Out.ret (V.int IntKind.i64 (-1 : Int))) [])
        (((0 : Int) ≤ z1 ∧ z1 < (↑l.length : Int)) ∧
        (Int.toNat z1 < l.length) ∧
        ((0 : Int) ≤ z1 ∧ z1 < (↑m.length : Int)) ∧
        (Int.toNat z1 < m.length) ∧
        bcase (decide (l.getD (Int.toNat z1) (0 : Int) > m.getD (Int.toNat z1) (0 : Int)))
         (K' (Out.ret (V.int IntKind.i64 (1 : Int))) [])
         ((∃ y3 : Int,
         (M132_0 l m y3 < M132_0 l m z1) ∧
         (P132_0 l m (Int.ofNat (0 : Nat)) y3) ∧
         ((True) ∧
          (True) ∧
          ((IntKind.i64.wrap (z1 - (1 : Int))) = y3) ∧
          True) ∧
         ((l) = l) ∧
         ((m) = m) ∧
         True))))
       (K' (Out.ret (V.int IntKind.i64 (0 : Int))) [])))))) := by kernel_rfl
theorem r132 : FreshOk Tryz.prog 132 (ofD g132) := by
  refine fresh_of_runQ (noTab_ok _) (noD_ok _) An132 Tryz.func132 c132q fun args obs K' hk => ?_
  unfold ofD g132 at hk
  split at hk
  · rename_i d_ out news hg
    split at hg
    · rename_i l m
      cases hg
      obtain ⟨hc, hk⟩ := hk
      obtain ⟨l, rfl⟩ : ∃ v' : List Int, v' = l := ⟨l, rfl⟩
      obtain ⟨m, rfl⟩ : ∃ v' : List Int, v' = m := ⟨m, rfl⟩
      refine Eq.mpr (k132 l m K') ?_
      obtain ⟨hl, hm, hlen⟩ := hc
      refine bcase_i (fun h => ?_) (fun h => ?_)
      · have h := of_decide_eq_true h
        exact lfk hk (by rw [ordN_lt (len_lt hl hm (by omega))]) rfl
      have h1 := of_decide_eq_false h
      refine bcase_i (fun h => ?_) (fun h => ?_)
      · have h := of_decide_eq_true h
        exact lfk hk (by rw [ordN_gt (len_lt hm hl (by omega))]) rfl
      have h2 := of_decide_eq_false h
      have hlm : l.length = m.length := by omega
      refine And.intro ⟨(l.length : Int) - 1, ⟨by omega, by omega, hlm, ?_⟩, ⟨trivial, trivial, IntWalk.i64_in _ (by omega), trivial⟩, rfl, rfl, trivial⟩ ?_
      · rw [show ((l.length : Int) - 1 + 1).toNat = l.length by omega, List.take_length, hlm, List.take_length]
      rintro x ⟨g1, g2, _, g3⟩
      refine bcase_i (fun h => ?_) (fun h => ?_)
      · have h := of_decide_eq_true h
        obtain ⟨i, rfl⟩ := Int.eq_ofNat_of_zero_le h
        rw [show (((i : Nat) : Int) + 1).toNat = i + 1 by omega] at g3
        refine ⟨⟨by omega, by omega⟩, by omega, ⟨by omega, by omega⟩, by omega, ?_⟩
        simp only [Int.toNat_natCast]
        refine bcase_i (fun h => ?_) (fun h => ?_)
        · have h := of_decide_eq_true h
          exact lfk hk (by rw [← g3, ordN_lt (ord_lt hl.dig hm.dig (by omega) (by omega) h)]) rfl
        have h3 := of_decide_eq_false h
        refine ⟨⟨by omega, by omega⟩, by omega, ⟨by omega, by omega⟩, by omega, ?_⟩
        refine bcase_i (fun h => ?_) (fun h => ?_)
        · have h := of_decide_eq_true h
          exact lfk hk (by rw [← g3, ordN_gt (ord_lt hm.dig hl.dig (by omega) (by omega) h)]) rfl
        have h4 := of_decide_eq_false h
        refine ⟨(i : Int) - 1, by simp only [M132_0]; omega, ⟨by omega, by omega, hlm, ?_⟩, ⟨by trivial, by trivial, IntWalk.i64_in _ (by omega), trivial⟩, by trivial, by trivial, trivial⟩
        rw [← g3, ord_eq (by omega) (by omega) (by omega), show ((i : Int) - 1 + 1).toNat = i by omega]
      · have h := of_decide_eq_false h
        rw [show (x + 1).toNat = 0 by omega] at g3
        exact lfk hk (by rw [← g3]; rfl) rfl
    · cases hg
  · exact hk.elim
abbrev P201_0 (l : List Int) (c x : Int × Int) : Prop := -1 ≤ x.1 ∧ x.1 < l.length ∧ l.length ≤ 4 ∧ x.2 = nv (l.drop (x.1 + 1).toNat)
abbrev M201_0 (l : List Int) (x : Int × Int) : Nat := (x.1 + 1).toNat
def An201 : List V → List Ob → Ann := fun args obs => match args, obs with
  | [.osl 0], [.ro [.int .i64] l] => ⟨Int × Int, default, fun nm c x => P201_0 l c x, fun nm x => M201_0 l x, fun nm x => [(0, .osl 0), (4, i64 x.2), (5, i64 x.1)], fun nm x => [.ro [.int .i64] l]⟩
  | _, _ => noAnn
theorem c201q : chkFn Tryz.prog Tryz.f201 (a201.lq) = true := by kernel_rfl
/-- number -/
def g201 : GSpec := fun args obs => match args, obs with
  | [.osl 0], [.ro [.int .i64] l] => some (Cn l ∧ l.length < 1000000, .ret (.tup [i64 (if nv l < 1152921504606846976 then nv l else 0), .bool (decide (nv l < 1152921504606846976))]), [])
  | _, _ => none
theorem k201 (l : List Int) (K' : Out → List Ob → Prop) : runQ (noTab) (noD) (An201 [.osl 0] [.ro [.int .i64] l]) (a201.lq) [.osl 0] (lookO [.ro [.int .i64] l]) 1 (closeK K') =
    (bcase (decide ((↑l.length : Int) > (4 : Int)))
     (K' (Out.ret (V.tup [V.int IntKind.i64 (0 : Int), V.bool false])) [])
     (((∃ y0 : Int × Int,
      (P201_0 l (default, default) y0) ∧
      ((True) ∧
       ((0 : Int) = y0.snd) ∧
       ((IntKind.i64.wrap ((↑l.length : Int) - (1 : Int))) = y0.fst) ∧
       True) ∧
      ((l) = l) ∧
      True)) ∧
     (∀ (z1 : Int × Int),
     ((P201_0 l (default, default) z1) →
     bcase (decide (z1.fst ≥ (0 : Int)))
      (((0 : Int) ≤ z1.fst ∧ z1.fst < (↑l.length : Int)) ∧
      (z1.fst.toNat < l.length) ∧
      (∃ y3 : Int × Int,
      (M201_0 l y3 < M201_0 l z1) ∧
      (P201_0 l (default, default) y3) ∧
      ((True) ∧
       ((IntKind.i64.wrap (IntKind.i64.wrap ((32768 : Int) * z1.snd) + l.getD z1.fst.toNat (0 : Int))) = y3.snd) ∧
       ((IntKind.i64.wrap (z1.fst - (1 : Int))) = y3.fst) ∧
       True) ∧
      ((l) = l) ∧
      True))
      (K' (Out.ret (V.tup [V.int IntKind.i64 z1.snd, V.bool true])) []))))) := by kernel_rfl
theorem r201 : FreshOk Tryz.prog 201 (ofD g201) := by
  refine fresh_of_runQ (noTab_ok _) (noD_ok _) An201 Tryz.func201 c201q fun args obs K' hk => ?_
  unfold ofD g201 at hk
  split at hk
  · rename_i d_ out news hg
    split at hg
    · rename_i l
      cases hg
      obtain ⟨hc, hk⟩ := hk
      obtain ⟨l, rfl⟩ : ∃ v' : List Int, v' = l := ⟨l, rfl⟩
      refine Eq.mpr (k201 l K') ?_
      obtain ⟨hl, hlen⟩ := hc
      refine bcase_i (fun h => ?_) (fun h => ?_)
      · have h := of_decide_eq_true h
        have hn : ¬ nv l < 1152921504606846976 := fun e => by have := (len_four hl).2 e; omega
        exact lfk hk (by rw [if_neg hn, decide_eq_false hn]) rfl
      have h4 := of_decide_eq_false h
      have hn : nv l < 1152921504606846976 := (len_four hl).1 (by omega)
      rw [if_pos hn, decide_eq_true hn] at hk
      refine And.intro ⟨((l.length : Int) - 1, 0), ⟨by dsimp only; omega, by dsimp only; omega, by omega, ?_⟩, ⟨trivial, rfl, IntWalk.i64_in _ (by omega), trivial⟩, rfl, trivial⟩ ?_
      · dsimp only
        rw [show ((l.length : Int) - 1 + 1).toNat = l.length by omega, List.drop_eq_nil_of_le (Nat.le_refl _)]; rfl
      rintro ⟨x, v⟩ ⟨g1, g2, _, g3⟩
      dsimp only at g1 g2 g3 ⊢
      refine bcase_i (fun h => ?_) (fun h => ?_)
      · have h := of_decide_eq_true h
        obtain ⟨i, rfl⟩ := Int.eq_ofNat_of_zero_le h
        rw [show (((i : Nat) : Int) + 1).toNat = i + 1 by omega] at g3
        have e1 := nv_drop_at l i (by omega)
        have e2 := dig_get hl.dig i (by omega)
        have e3 : nv (l.drop i) ≤ nv l := by
          have := nv_split l i (by omega)
          have hp := pow_pos i
          have h5 : 1 * nv (l.drop i) ≤ 32768 ^ i * nv (l.drop i) := Nat.mul_le_mul_right _ hp
          omega
        refine ⟨⟨by omega, by omega⟩, by omega, ((i : Int) - 1, (nv (l.drop i) : Int)), by simp only [M201_0]; omega, ⟨by dsimp only; omega, by dsimp only; omega, by omega, ?_⟩, ⟨trivial, ?_, IntWalk.i64_in _ (by omega), trivial⟩, rfl, trivial⟩
        · dsimp only
          rw [show ((i : Int) - 1 + 1).toNat = i by omega]
        · simp only [Int.toNat_natCast]
          rw [IntWalk.i64_in (32768 * v) (by omega), IntWalk.i64_in _ (by omega)]
          omega
      · have h := of_decide_eq_false h
        rw [show (x + 1).toNat = 0 by omega, List.drop_zero] at g3
        exact lfk hk (by rw [g3]) rfl
    · cases hg
  · exact hk.elim
abbrev P190_0 (l m : List Int) (c x : Nat × Int × List Int) : Prop := (0 ≤ x.2.1 ∧ x.2.1 ≤ 1) ∧ x.2.2 ++ dg (x.2.1.toNat + nv (l.drop x.1) + nv (m.drop x.1)) = dg (nv l + nv m) ∧ x.2.2.length = x.1
abbrev M190_0 (l m : List Int) (x : Nat × Int × List Int) : Nat := x.2.1.toNat + nv (l.drop x.1) + nv (m.drop x.1)
def An190 : List V → List Ob → Ann := fun args obs => match args, obs with
  | [.osl 0, .osl 1], [.ro [.int .i64] l, .ro [.int .i64] m] => ⟨Nat × Int × List Int, default, fun nm c x => P190_0 l m c x, fun nm x => M190_0 l m x, fun nm x => [(0, .osl 0), (1, .osl 1), (5, .osl 2), (6, i64 x.2.1), (7, i64 x.1)], fun nm x => [.ro [.int .i64] l, .ro [.int .i64] m, .own 3 [.int .i64] x.2.2]⟩
  | _, _ => noAnn
theorem c190q : chkFn Tryz.prog Tryz.f190 (a190.lq) = true := by kernel_rfl
/-- plus -/
def g190 : GSpec := fun args obs => match args, obs with
  | [.osl 0, .osl 1], [.ro [.int .i64] l, .ro [.int .i64] m] => some (Cn l ∧ Cn m ∧ l.length < 100000 ∧ m.length < 100000, .ret (.osl 0), [.own 3 [.int .i64] (dg (nv l + nv m))])
  | _, _ => none
theorem k190 (l m : List Int) (K' : Out → List Ob → Prop) : runQ (noTab) (noD) (An190 [.osl 0, .osl 1] [.ro [.int .i64] l, .ro [.int .i64] m]) (a190.lq) [.osl 0, .osl 1] (lookO [.ro [.int .i64] l, .ro [.int .i64] m]) 2 (closeK K') =
    ((True) ∧
    (True) ∧
    ((∃ y0 : Nat × Int × List Int,
     (P190_0 l m (default, default) y0) ∧
     ((True) ∧
      (True) ∧
      (True) ∧
      ((0 : Int) = y0.snd.fst) ∧
      ((0 : Int) = (↑y0.fst : Int)) ∧
      True) ∧
     ((l) = l) ∧
     ((m) = m) ∧
     (([]) = y0.snd.snd) ∧
     True)) ∧
    (∀ (z1 : Nat × Int × List Int),
    ((P190_0 l m (default, default) z1) →
    bcase (decide ((↑z1.fst : Int) < (↑l.length : Int)))
     (bcase (decide ((↑z1.fst : Int) < (↑l.length : Int)))
      (((0 : Int) ≤ (↑z1.fst : Int) ∧ (↑z1.fst : Int) < (↑l.length : Int)) ∧
      ((↑z1.fst : Int).toNat < l.length) ∧
      bcase (decide ((↑z1.fst : Int) < (↑m.length : Int)))
       (((0 : Int) ≤ (↑z1.fst : Int) ∧ (↑z1.fst : Int) < (↑m.length : Int)) ∧
       ((↑z1.fst : Int).toNat < m.length) ∧
       ((32768 : Int) ≠ (0 : Int)) ∧
       (True) ∧
       (True ∧
  (z1.snd.snd.length +
        ([(IntKind.i64.wrap
                    (IntKind.i64.wrap (z1.snd.fst + l.getD (↑z1.fst : Int).toNat (0 : Int)) +
                      m.getD (↑z1.fst : Int).toNat (0 : Int))).tmod
                (32768 : Int)]).length) *
      (8 : Nat) ≤
    (140737488355328 : Nat)) ∧
       ((32768 : Int) ≠ (0 : Int)) ∧
       (∃ y3 : Nat × Int × List Int,
       (M190_0 l m y3 < M190_0 l m z1) ∧
       (P190_0 l m (default, default) y3) ∧
       ((True) ∧
        (True) ∧
        (True) ∧
        ((IntKind.i64.wrap
  ((IntKind.i64.wrap
        (IntKind.i64.wrap (z1.snd.fst + l.getD (↑z1.fst : Int).toNat (0 : Int)) +
          m.getD (↑z1.fst : Int).toNat (0 : Int))).tdiv
    (32768 : Int))) = y3.snd.fst) ∧
        ((IntKind.i64.wrap ((↑z1.fst : Int) + (1 : Int))) = (↑y3.fst : Int)) ∧
        True) ∧
       ((l) = l) ∧
       ((m) = m) ∧
       (((z1.snd.snd ++
    [(IntKind.i64.wrap
              (IntKind.i64.wrap (z1.snd.fst + l.getD (↑z1.fst : Int).toNat (0 : Int)) +
                m.getD (↑z1.fst : Int).toNat (0 : Int))).tmod
          (32768 : Int)])) = y3.snd.snd) ∧
       True))
       (((32768 : Int) ≠ (0 : Int)) ∧
       (True) ∧
       (True ∧
  (z1.snd.snd.length +
        ([(IntKind.i64.wrap (z1.snd.fst + l.getD (↑z1.fst : Int).toNat (0 : Int))).tmod
                (32768 : Int)]).length) *
      (8 : Nat) ≤
    (140737488355328 : Nat)) ∧
       ((32768 : Int) ≠ (0 : Int)) ∧
       (∃ y4 : Nat × Int × List Int,
       (M190_0 l m y4 < M190_0 l m z1) ∧
       (P190_0 l m (default, default) y4) ∧
       ((True) ∧
        (True) ∧
        (True) ∧
        ((IntKind.i64.wrap
  ((IntKind.i64.wrap (z1.snd.fst + l.getD (↑z1.fst : Int).toNat (0 : Int))).tdiv (32768 : Int))) = y4.snd.fst) ∧
        ((IntKind.i64.wrap ((↑z1.fst : Int) + (1 : Int))) = (↑y4.fst : Int)) ∧
        True) ∧
       ((l) = l) ∧
       ((m) = m) ∧
       (((z1.snd.snd ++
    [(IntKind.i64.wrap (z1.snd.fst + l.getD (↑z1.fst : Int).toNat (0 : Int))).tmod (32768 : Int)])) = y4.snd.snd) ∧
       True)))
      (bcase (decide ((↑z1.fst : Int) < (↑m.length : Int)))
       (((0 : Int) ≤ (↑z1.fst : Int) ∧ (↑z1.fst : Int) < (↑m.length : Int)) ∧
       ((↑z1.fst : Int).toNat < m.length) ∧
       ((32768 : Int) ≠ (0 : Int)) ∧
       (True) ∧
       (True ∧
  (z1.snd.snd.length +
        ([(IntKind.i64.wrap (z1.snd.fst + m.getD (↑z1.fst : Int).toNat (0 : Int))).tmod
                (32768 : Int)]).length) *
      (8 : Nat) ≤
    (140737488355328 : Nat)) ∧
       ((32768 : Int) ≠ (0 : Int)) ∧
       (∃ y5 : Nat × Int × List Int,
       (M190_0 l m y5 < M190_0 l m z1) ∧
       (P190_0 l m (default, default) y5) ∧
       ((True) ∧
        (True) ∧
        (True) ∧
        ((IntKind.i64.wrap
  ((IntKind.i64.wrap (z1.snd.fst + m.getD (↑z1.fst : Int).toNat (0 : Int))).tdiv (32768 : Int))) = y5.snd.fst) ∧
        ((IntKind.i64.wrap ((↑z1.fst : Int) + (1 : Int))) = (↑y5.fst : Int)) ∧
        True) ∧
       ((l) = l) ∧
       ((m) = m) ∧
       (((z1.snd.snd ++
    [(IntKind.i64.wrap (z1.snd.fst + m.getD (↑z1.fst : Int).toNat (0 : Int))).tmod (32768 : Int)])) = y5.snd.snd) ∧
       True))
       (((32768 : Int) ≠ (0 : Int)) ∧
       (True) ∧
       (True ∧ (z1.snd.snd.length + ([z1.snd.fst.tmod (32768 : Int)]).length) * (8 : Nat) ≤ (140737488355328 : Nat)) ∧
       ((32768 : Int) ≠ (0 : Int)) ∧
       (∃ y6 : Nat × Int × List Int,
       (M190_0 l m y6 < M190_0 l m z1) ∧
       (P190_0 l m (default, default) y6) ∧
       ((True) ∧
        (True) ∧
        (True) ∧
        ((IntKind.i64.wrap (z1.snd.fst.tdiv (32768 : Int))) = y6.snd.fst) ∧
        ((IntKind.i64.wrap ((↑z1.fst : Int) + (1 : Int))) = (↑y6.fst : Int)) ∧
        True) ∧
       ((l) = l) ∧
       ((m) = m) ∧
       (((z1.snd.snd ++ [z1.snd.fst.tmod (32768 : Int)])) = y6.snd.snd) ∧
       True))))
     (bcase (bif false then true else decide ((↑z1.fst : Int) < (↑m.length : Int)))
      (bcase (decide ((↑z1.fst : Int) < (↑l.length : Int)))
       (((0 : Int) ≤ (↑z1.fst : Int) ∧ (↑z1.fst : Int) < (↑l.length : Int)) ∧
       ((↑z1.fst : Int).toNat < l.length) ∧
       bcase (decide ((↑z1.fst : Int) < (↑m.length : Int)))
        (((0 : Int) ≤ (↑z1.fst : Int) ∧ (↑z1.fst : Int) < (↑m.length : Int)) ∧
        ((↑z1.fst : Int).toNat < m.length) ∧
        ((32768 : Int) ≠ (0 : Int)) ∧
        (True) ∧
        (True ∧
  (z1.snd.snd.length +
        ([(IntKind.i64.wrap
                    (IntKind.i64.wrap (z1.snd.fst + l.getD (↑z1.fst : Int).toNat (0 : Int)) +
                      m.getD (↑z1.fst : Int).toNat (0 : Int))).tmod
                (32768 : Int)]).length) *
      (8 : Nat) ≤
    (140737488355328 : Nat)) ∧
        ((32768 : Int) ≠ (0 : Int)) ∧
        (∃ y7 : Nat × Int × List Int,
        (M190_0 l m y7 < M190_0 l m z1) ∧
        (P190_0 l m (default, default) y7) ∧
        ((True) ∧
         (True) ∧
         (True) ∧
         ((IntKind.i64.wrap
  ((IntKind.i64.wrap
        (IntKind.i64.wrap (z1.snd.fst + l.getD (↑z1.fst : Int).toNat (0 : Int)) +
          m.getD (↑z1.fst : Int).toNat (0 : Int))).tdiv
    (32768 : Int))) = y7.snd.fst) ∧
         ((IntKind.i64.wrap ((↑z1.fst : Int) + (1 : Int))) = (↑y7.fst : Int)) ∧
         True) ∧
        ((l) = l) ∧
        ((m) = m) ∧
        (((z1.snd.snd ++
    [(IntKind.i64.wrap
              (IntKind.i64.wrap (z1.snd.fst + l.getD (↑z1.fst : Int).toNat (0 : Int)) +
                m.getD (↑z1.fst : Int).toNat (0 : Int))).tmod
          (32768 : Int)])) = y7.snd.snd) ∧
        True))
        (((32768 : Int) ≠ (0 : Int)) ∧
        (True) ∧
        (True ∧
  (z1.snd.snd.length +
        ([(IntKind.i64.wrap (z1.snd.fst + l.getD (↑z1.fst : Int).toNat (0 : Int))).tmod
                (32768 : Int)]).length) *
      (8 : Nat) ≤
    (140737488355328 : Nat)) ∧
        ((32768 : Int) ≠ (0 : Int)) ∧
        (∃ y8 : Nat × Int × List Int,
        (M190_0 l m y8 < M190_0 l m z1) ∧
        (P190_0 l m (default, default) y8) ∧
        ((True) ∧
         (True) ∧
         (True) ∧
         ((IntKind.i64.wrap
  ((IntKind.i64.wrap (z1.snd.fst + l.getD (↑z1.fst : Int).toNat (0 : Int))).tdiv (32768 : Int))) = y8.snd.fst) ∧
         ((IntKind.i64.wrap ((↑z1.fst : Int) + (1 : Int))) = (↑y8.fst : Int)) ∧
         True) ∧
        ((l) = l) ∧
        ((m) = m) ∧
        (((z1.snd.snd ++
    [(IntKind.i64.wrap (z1.snd.fst + l.getD (↑z1.fst : Int).toNat (0 : Int))).tmod (32768 : Int)])) = y8.snd.snd) ∧
        True)))
       (bcase (decide ((↑z1.fst : Int) < (↑m.length : Int)))
        (((0 : Int) ≤ (↑z1.fst : Int) ∧ (↑z1.fst : Int) < (↑m.length : Int)) ∧
        ((↑z1.fst : Int).toNat < m.length) ∧
        ((32768 : Int) ≠ (0 : Int)) ∧
        (True) ∧
        (True ∧
  (z1.snd.snd.length +
        ([(IntKind.i64.wrap (z1.snd.fst + m.getD (↑z1.fst : Int).toNat (0 : Int))).tmod
                (32768 : Int)]).length) *
      (8 : Nat) ≤
    (140737488355328 : Nat)) ∧
        ((32768 : Int) ≠ (0 : Int)) ∧
        (∃ y9 : Nat × Int × List Int,
        (M190_0 l m y9 < M190_0 l m z1) ∧
        (P190_0 l m (default, default) y9) ∧
        ((True) ∧
         (True) ∧
         (True) ∧
         ((IntKind.i64.wrap
  ((IntKind.i64.wrap (z1.snd.fst + m.getD (↑z1.fst : Int).toNat (0 : Int))).tdiv (32768 : Int))) = y9.snd.fst) ∧
         ((IntKind.i64.wrap ((↑z1.fst : Int) + (1 : Int))) = (↑y9.fst : Int)) ∧
         True) ∧
        ((l) = l) ∧
        ((m) = m) ∧
        (((z1.snd.snd ++
    [(IntKind.i64.wrap (z1.snd.fst + m.getD (↑z1.fst : Int).toNat (0 : Int))).tmod (32768 : Int)])) = y9.snd.snd) ∧
        True))
        (((32768 : Int) ≠ (0 : Int)) ∧
        (True) ∧
        (True ∧ (z1.snd.snd.length + ([z1.snd.fst.tmod (32768 : Int)]).length) * (8 : Nat) ≤ (140737488355328 : Nat)) ∧
        ((32768 : Int) ≠ (0 : Int)) ∧
        (∃ y10 : Nat × Int × List Int,
        (M190_0 l m y10 < M190_0 l m z1) ∧
        (P190_0 l m (default, default) y10) ∧
        ((True) ∧
         (True) ∧
         (True) ∧
         ((IntKind.i64.wrap (z1.snd.fst.tdiv (32768 : Int))) = y10.snd.fst) ∧
         ((IntKind.i64.wrap ((↑z1.fst : Int) + (1 : Int))) = (↑y10.fst : Int)) ∧
         True) ∧
        ((l) = l) ∧
        ((m) = m) ∧
        (((z1.snd.snd ++ [z1.snd.fst.tmod (32768 : Int)])) = y10.snd.snd) ∧
        True))))
      (bcase (bif false then true else decide (z1.snd.fst > (0 : Int)))
       (bcase (decide ((↑z1.fst : Int) < (↑l.length : Int)))
        (((0 : Int) ≤ (↑z1.fst : Int) ∧ (↑z1.fst : Int) < (↑l.length : Int)) ∧
        ((↑z1.fst : Int).toNat < l.length) ∧
        bcase (decide ((↑z1.fst : Int) < (↑m.length : Int)))
         (((0 : Int) ≤ (↑z1.fst : Int) ∧ (↑z1.fst : Int) < (↑m.length : Int)) ∧
         ((↑z1.fst : Int).toNat < m.length) ∧
         ((32768 : Int) ≠ (0 : Int)) ∧
         (True) ∧
         (True ∧
  (z1.snd.snd.length +
        ([(IntKind.i64.wrap
                    (IntKind.i64.wrap (z1.snd.fst + l.getD (↑z1.fst : Int).toNat (0 : Int)) +
                      m.getD (↑z1.fst : Int).toNat (0 : Int))).tmod
                (32768 : Int)]).length) *
      (8 : Nat) ≤
    (140737488355328 : Nat)) ∧
         ((32768 : Int) ≠ (0 : Int)) ∧
         (∃ y11 : Nat × Int × List Int,
         (M190_0 l m y11 < M190_0 l m z1) ∧
         (P190_0 l m (default, default) y11) ∧
         ((True) ∧
          (True) ∧
          (True) ∧
          ((IntKind.i64.wrap
  ((IntKind.i64.wrap
        (IntKind.i64.wrap (z1.snd.fst + l.getD (↑z1.fst : Int).toNat (0 : Int)) +
          m.getD (↑z1.fst : Int).toNat (0 : Int))).tdiv
    (32768 : Int))) = y11.snd.fst) ∧
          ((IntKind.i64.wrap ((↑z1.fst : Int) + (1 : Int))) = (↑y11.fst : Int)) ∧
          True) ∧
         ((l) = l) ∧
         ((m) = m) ∧
         (((z1.snd.snd ++
    [(IntKind.i64.wrap
              (IntKind.i64.wrap (z1.snd.fst + l.getD (↑z1.fst : Int).toNat (0 : Int)) +
                m.getD (↑z1.fst : Int).toNat (0 : Int))).tmod
          (32768 : Int)])) = y11.snd.snd) ∧
         True))
         (((32768 : Int) ≠ (0 : Int)) ∧
         (True) ∧
         (True ∧
  (z1.snd.snd.length +
        ([(IntKind.i64.wrap (z1.snd.fst + l.getD (↑z1.fst : Int).toNat (0 : Int))).tmod
                (32768 : Int)]).length) *
      (8 : Nat) ≤
    (140737488355328 : Nat)) ∧
         ((32768 : Int) ≠ (0 : Int)) ∧
         (∃ y12 : Nat × Int × List Int,
         (M190_0 l m y12 < M190_0 l m z1) ∧
         (P190_0 l m (default, default) y12) ∧
         ((True) ∧
          (True) ∧
          (True) ∧
          ((IntKind.i64.wrap
  ((IntKind.i64.wrap (z1.snd.fst + l.getD (↑z1.fst : Int).toNat (0 : Int))).tdiv (32768 : Int))) = y12.snd.fst) ∧
          ((IntKind.i64.wrap ((↑z1.fst : Int) + (1 : Int))) = (↑y12.fst : Int)) ∧
          True) ∧
         ((l) = l) ∧
         ((m) = m) ∧
         (((z1.snd.snd ++
    [(IntKind.i64.wrap (z1.snd.fst + l.getD (↑z1.fst : Int).toNat (0 : Int))).tmod (32768 : Int)])) = y12.snd.snd) ∧
         True)))
        (bcase (decide ((↑z1.fst : Int) < (↑m.length : Int)))
         (((0 : Int) ≤ (↑z1.fst : Int) ∧ (↑z1.fst : Int) < (↑m.length : Int)) ∧
         ((↑z1.fst : Int).toNat < m.length) ∧
         ((32768 : Int) ≠ (0 : Int)) ∧
         (True) ∧
         (True ∧
  (z1.snd.snd.length +
        ([(IntKind.i64.wrap (z1.snd.fst + m.getD (↑z1.fst : Int).toNat (0 : Int))).tmod
                (32768 : Int)]).length) *
      (8 : Nat) ≤
    (140737488355328 : Nat)) ∧
         ((32768 : Int) ≠ (0 : Int)) ∧
         (∃ y13 : Nat × Int × List Int,
         (M190_0 l m y13 < M190_0 l m z1) ∧
         (P190_0 l m (default, default) y13) ∧
         ((True) ∧
          (True) ∧
          (True) ∧
          ((IntKind.i64.wrap
  ((IntKind.i64.wrap (z1.snd.fst + m.getD (↑z1.fst : Int).toNat (0 : Int))).tdiv (32768 : Int))) = y13.snd.fst) ∧
          ((IntKind.i64.wrap ((↑z1.fst : Int) + (1 : Int))) = (↑y13.fst : Int)) ∧
          True) ∧
         ((l) = l) ∧
         ((m) = m) ∧
         (((z1.snd.snd ++
    [(IntKind.i64.wrap (z1.snd.fst + m.getD (↑z1.fst : Int).toNat (0 : Int))).tmod (32768 : Int)])) = y13.snd.snd) ∧
         True))
         (((32768 : Int) ≠ (0 : Int)) ∧
         (True) ∧
         (True ∧ (z1.snd.snd.length + ([z1.snd.fst.tmod (32768 : Int)]).length) * (8 : Nat) ≤ (140737488355328 : Nat)) ∧
         ((32768 : Int) ≠ (0 : Int)) ∧
         (∃ y14 : Nat × Int × List Int,
         (M190_0 l m y14 < M190_0 l m z1) ∧
         (P190_0 l m (default, default) y14) ∧
         ((True) ∧
          (True) ∧
          (True) ∧
          ((IntKind.i64.wrap (z1.snd.fst.tdiv (32768 : Int))) = y14.snd.fst) ∧
          ((IntKind.i64.wrap ((↑z1.fst : Int) + (1 : Int))) = (↑y14.fst : Int)) ∧
          True) ∧
         ((l) = l) ∧
         ((m) = m) ∧
         (((z1.snd.snd ++ [z1.snd.fst.tmod (32768 : Int)])) = y14.snd.snd) ∧
         True))))
       (K' (Out.ret (V.osl (nat_lit 0))) [Ob.own (nat_lit 3) [SK.int IntKind.i64] z1.snd.snd])))))) := by kernel_rfl
theorem r190 : FreshOk Tryz.prog 190 (ofD g190) := by
  refine fresh_of_runQ (noTab_ok _) (noD_ok _) An190 Tryz.func190 c190q fun args obs K' hk => ?_
  unfold ofD g190 at hk
  split at hk
  · rename_i d_ out news hg
    split at hg
    · rename_i l m
      cases hg
      obtain ⟨hc, hk⟩ := hk
      obtain ⟨l, rfl⟩ : ∃ v' : List Int, v' = l := ⟨l, rfl⟩
      obtain ⟨m, rfl⟩ : ∃ v' : List Int, v' = m := ⟨m, rfl⟩
      refine Eq.mpr (k190 l m K') ?_
      obtain ⟨hl, hm, hlen, hmen⟩ := hc
      have htot : (dg (nv l + nv m)).length ≤ 100001 := by
        have h1 := nv_lt l hl.dig
        have h2 := nv_lt m hm.dig
        have h3 : (dg (nv l + nv m)).length ≤ max l.length m.length + 1 := by
          refine dg_len _ _ ?_
          have h4 := Nat.pow_le_pow_right (n := 32768) (by decide) (Nat.le_max_left l.length m.length)
          have h5 := Nat.pow_le_pow_right (n := 32768) (by decide) (Nat.le_max_right l.length m.length)
          rw [Nat.pow_succ]
          omega
        omega
      refine ⟨trivial, trivial, ⟨(0, 0, []), ⟨⟨by decide, by decide⟩, by simp, rfl⟩, ⟨trivial, trivial, trivial, rfl, rfl, trivial⟩, rfl, rfl, rfl, trivial⟩, ?_⟩
      rintro ⟨i, c, acc⟩ ⟨⟨hc0, hc1⟩, h1, h2⟩
      dsimp only at hc0 hc1 h1 h2 ⊢
      simp only [Int.toNat_natCast]
      have hln := congrArg List.length h1
      rw [List.length_append] at hln
      have leaf : ∀ S : Int, S = ((c.toNat + pt l i + pt m i : Nat) : Int) → c.toNat + nv (l.drop i) + nv (m.drop i) ≠ 0 →
          ((32768 : Int) ≠ (0 : Int)) ∧ True ∧ (True ∧ (acc.length + ([S.tmod (32768 : Int)]).length) * (8 : Nat) ≤ (140737488355328 : Nat)) ∧ ((32768 : Int) ≠ (0 : Int)) ∧
          ∃ y : Nat × Int × List Int, (M190_0 l m y < M190_0 l m (i, c, acc)) ∧ (P190_0 l m (default, default) y) ∧ (True ∧ True ∧ True ∧ ((IntKind.i64.wrap (S.tdiv (32768 : Int))) = y.snd.fst) ∧ ((IntKind.i64.wrap ((i : Int) + (1 : Int))) = (y.fst : Int)) ∧ True) ∧ True ∧ True ∧ ((acc ++ [S.tmod (32768 : Int)]) = y.snd.snd) ∧ True := by
        intro S hS h0
        have p1 := pt_lt hl.dig i
        have p2 := pt_lt hm.dig i
        have st := plus_step hl.dig hm.dig (i := i) (c := c.toNat) (by omega) h0
        have d1 := nv_drop_pt l i
        have d2 := nv_drop_pt m i
        have e1 : S.tmod 32768 = (((c.toNat + pt l i + pt m i) % 32768 : Nat) : Int) := by rw [hS, Int.tmod_eq_emod_of_nonneg (by omega)]; omega
        have e2 : IntKind.i64.wrap (S.tdiv 32768) = (((c.toNat + pt l i + pt m i) / 32768 : Nat) : Int) := by
          rw [hS, Int.tdiv_eq_ediv_of_nonneg (by omega), IntWalk.i64_in _ (by omega)]; omega
        have hln2 : (dg (c.toNat + nv (l.drop i) + nv (m.drop i))).length ≠ 0 := by rw [st]; simp
        refine ⟨by decide, trivial, ⟨trivial, by simp only [List.length_cons, List.length_nil]; omega⟩, by decide, (i + 1, (((c.toNat + pt l i + pt m i) / 32768 : Nat) : Int), acc ++ [S.tmod 32768]), ?_, ⟨⟨by dsimp only; omega, by dsimp only; omega⟩, ?_, by simp only [List.length_append, List.length_cons, List.length_nil]; omega⟩, ⟨trivial, trivial, trivial, e2, incN i (by omega), trivial⟩, trivial, trivial, rfl, trivial⟩
        · simp only [M190_0, Int.toNat_natCast]; omega
        · dsimp only
          rw [← h1, st, e1, Int.toNat_natCast]
          simp
      have hL : i < l.length → l.getD i 0 = (pt l i : Int) ∧ pt l i < 32768 ∧ 0 < nv (l.drop i) := fun h => ⟨(pt_in hl.dig h).1, (pt_in hl.dig h).2, hl.drop_pos h⟩
      have hM : i < m.length → m.getD i 0 = (pt m i : Int) ∧ pt m i < 32768 ∧ 0 < nv (m.drop i) := fun h => ⟨(pt_in hm.dig h).1, (pt_in hm.dig h).2, hm.drop_pos h⟩
      have hL' : ¬ i < l.length → pt l i = 0 := pt_out
      have hM' : ¬ i < m.length → pt m i = 0 := pt_out
      refine bcase_i (fun h => ?_) (fun h => ?_)
      · have h := of_decide_eq_true h
        have hi : i < l.length := by omega
        obtain ⟨a1, a2, a3⟩ := hL hi
        refine bcase_t (decide_eq_true (by omega)) ⟨⟨by omega, by omega⟩, by omega, ?_⟩
        refine bcase_i (fun h2 => ?_) (fun h2 => ?_)
        · have h2 := of_decide_eq_true h2
          have hj : i < m.length := by omega
          obtain ⟨b1, b2, b3⟩ := hM hj
          refine ⟨⟨by omega, by omega⟩, by omega, ?_⟩
          refine leaf _ ?_ (by omega)
          rw [a1, b1, IntWalk.i64_in (c + (pt l i : Int)) (by omega), IntWalk.i64_in _ (by omega)]
          omega
        · have h2 := of_decide_eq_false h2
          have b1 := hM' (by omega)
          refine leaf _ ?_ (by omega)
          rw [a1, b1, IntWalk.i64_in _ (by omega)]
          omega
      · have h := of_decide_eq_false h
        have a1 := hL' (by omega)
        refine bcase_i (fun h2 => ?_) (fun h2 => ?_)
        · have h2 : decide ((i : Int) < (m.length : Int)) = true := h2
          have h2 := of_decide_eq_true h2
          have hj : i < m.length := by omega
          obtain ⟨b1, b2, b3⟩ := hM hj
          refine bcase_f (decide_eq_false (by omega)) (bcase_t (decide_eq_true (by omega)) ⟨⟨by omega, by omega⟩, by omega, ?_⟩)
          refine leaf _ ?_ (by omega)
          rw [a1, b1, IntWalk.i64_in _ (by omega)]
          omega
        · have h2 : decide ((i : Int) < (m.length : Int)) = false := h2
          have h2 := of_decide_eq_false h2
          have b1 := hM' (by omega)
          refine bcase_i (fun h3 => ?_) (fun h3 => ?_)
          · have h3 : decide (c > 0) = true := h3
            have h3 := of_decide_eq_true h3
            refine bcase_f (decide_eq_false (by omega)) (bcase_f (decide_eq_false (by omega)) ?_)
            refine leaf _ ?_ (by omega)
            rw [a1, b1]
            omega
          · have h3 : decide (c > 0) = false := h3
            have h3 := of_decide_eq_false h3
            rw [show c.toNat = 0 by omega, List.drop_eq_nil_of_le (by omega), List.drop_eq_nil_of_le (by omega)] at h1
            simp only [nv, Nat.add_zero, dg_zero, List.append_nil] at h1
            exact lfk hk rfl (by rw [h1])
    · cases hg
  · exact hk.elim

end Go.Proofs.YtbolfnkgbjkbjaaGreat.AM
end
section
set_option linter.unusedVariables false
set_option linter.unusedSimpArgs false
namespace Go.Proofs.YtbolfnkgbjkbjaaGreat.AM
open Go Go.RowKit
set_option maxRecDepth 100000

/-- What is left of a list while zeros at its end are cut off. -/
structure TrimP (l x : List Int) : Prop where
  dig : Dig x
  val : nv x = nv l
  len : x.length ≤ l.length
def trimA : List V → (Nat → Ob) → Nat → Ann := fun args h n => match args with
  | [.osl id] => match h id with
    | .own 3 [.int .i64] l => ⟨List Int, [], fun _ _ x => TrimP l x, fun _ x => x.length, fun _ _ => [(0, .osl n)], fun _ x => obsBut h id 0 n ++ [.own 3 [.int .i64] x]⟩
    | _ => noAnn
  | _ => noAnn
def trimE : Spec := fun args h n K => runQ noTab noD (trimA args h n) a191.lq args h n K
theorem c191q : chkFn Tryz.prog Tryz.f191 a191.lq = true := by kernel_rfl
theorem trimE_ok : EntryOk Tryz.prog 191 trimE := fnqd_entry (noTab_ok _) (noD_ok _) trimA Tryz.func191 c191q
def Z8a : Tab := noTab.add 191 trimE
theorem Z8a_ok : TabOk Tryz.prog Z8a := (noTab_ok _).add trimE_ok

abbrev P199_0 (l m : List Int) (c x : Nat × Int × List Int) : Prop := x.1 ≤ l.length ∧ (0 ≤ x.2.1 ∧ x.2.1 ≤ 1) ∧ Dig x.2.2 ∧ x.2.2.length = x.1 ∧ (nv x.2.2 : Int) + ((32768 ^ x.1 : Nat) : Int) * ((nv (l.drop x.1) : Int) - x.2.1 - nv (m.drop x.1)) = nv l - nv m
abbrev M199_0 (l m : List Int) (x : Nat × Int × List Int) : Nat := l.length - x.1
def An199 : List V → List Ob → Ann := fun args obs => match args, obs with
  | [.osl 0, .osl 1], [.ro [.int .i64] l, .ro [.int .i64] m] => ⟨Nat × Int × List Int, default, fun nm c x => P199_0 l m c x, fun nm x => M199_0 l m x, fun nm x => [(0, .osl 0), (1, .osl 1), (5, .osl 2), (6, i64 x.2.1), (7, i64 x.1)], fun nm x => [.ro [.int .i64] l, .ro [.int .i64] m, .own 3 [.int .i64] x.2.2]⟩
  | _, _ => noAnn
theorem c199q : chkFn Tryz.prog Tryz.f199 (a199.lq) = true := by kernel_rfl
/-- minus -/
def g199 : GSpec := fun args obs => match args, obs with
  | [.osl 0, .osl 1], [.ro [.int .i64] l, .ro [.int .i64] m] => some (Cn l ∧ Cn m ∧ l.length < 100000 ∧ nv m ≤ nv l, .ret (.osl 0), [.own 3 [.int .i64] (dg (nv l - nv m))])
  | _, _ => none
theorem k199 (l m : List Int) (K' : Out → List Ob → Prop) : runQ (Z8a) (noD) (An199 [.osl 0, .osl 1] [.ro [.int .i64] l, .ro [.int .i64] m]) (a199.lq) [.osl 0, .osl 1] (lookO [.ro [.int .i64] l, .ro [.int .i64] m]) 2 (closeK K') =
    ((True) ∧
    (True) ∧
    ((∃ y0 : Nat × Int × List Int,
     (P199_0 l m default y0) ∧
     ((True) ∧
      (True) ∧
      (True) ∧
      ((0 : Int) = y0.snd.fst) ∧
      ((0 : Int) = (↑y0.fst : Int)) ∧
      True) ∧
     ((l) = l) ∧
     ((m) = m) ∧
     (([]) = y0.snd.snd) ∧
     True)) ∧
    (∀ (z1 : Nat × Int × List Int),
    ((P199_0 l m default z1) →
    bcase (decide ((↑z1.fst : Int) < (↑l.length : Int)))
     (((0 : Int) ≤ (↑z1.fst : Int) ∧ (↑z1.fst : Int) < (↑l.length : Int)) ∧
     ((↑z1.fst : Int).toNat < l.length) ∧
     bcase (decide ((↑z1.fst : Int) < (↑m.length : Int)))
      (((0 : Int) ≤ (↑z1.fst : Int) ∧ (↑z1.fst : Int) < (↑m.length : Int)) ∧
      ((↑z1.fst : Int).toNat < m.length) ∧
      bcase (decide
  (IntKind.i64.wrap
      (IntKind.i64.wrap (l.getD (↑z1.fst : Int).toNat (0 : Int) - z1.snd.fst) -
        m.getD (↑z1.fst : Int).toNat (0 : Int)) <
    (0 : Int)))
       ((True) ∧
       (True ∧
  (z1.snd.snd.length +
        ([IntKind.i64.wrap
                (IntKind.i64.wrap
                    (IntKind.i64.wrap (l.getD (↑z1.fst : Int).toNat (0 : Int) - z1.snd.fst) -
                      m.getD (↑z1.fst : Int).toNat (0 : Int)) +
                  (32768 : Int))]).length) *
      (8 : Nat) ≤
    (140737488355328 : Nat)) ∧
       (∃ y3 : Nat × Int × List Int,
       (M199_0 l m y3 < M199_0 l m z1) ∧
       (P199_0 l m default y3) ∧
       ((True) ∧
        (True) ∧
        (True) ∧
        ((1 : Int) = y3.snd.fst) ∧
        ((IntKind.i64.wrap ((↑z1.fst : Int) + (1 : Int))) = (↑y3.fst : Int)) ∧
        True) ∧
       ((l) = l) ∧
       ((m) = m) ∧
       (((z1.snd.snd ++
    [IntKind.i64.wrap
          (IntKind.i64.wrap
              (IntKind.i64.wrap (l.getD (↑z1.fst : Int).toNat (0 : Int) - z1.snd.fst) -
                m.getD (↑z1.fst : Int).toNat (0 : Int)) +
            (32768 : Int))])) = y3.snd.snd) ∧
       True))
       ((True) ∧
       (True ∧
  (z1.snd.snd.length +
        ([IntKind.i64.wrap
                (IntKind.i64.wrap (l.getD (↑z1.fst : Int).toNat (0 : Int) - z1.snd.fst) -
                  m.getD (↑z1.fst : Int).toNat (0 : Int))]).length) *
      (8 : Nat) ≤
    (140737488355328 : Nat)) ∧
       (∃ y4 : Nat × Int × List Int,
       (M199_0 l m y4 < M199_0 l m z1) ∧
       (P199_0 l m default y4) ∧
       ((True) ∧
        (True) ∧
        (True) ∧
        ((0 : Int) = y4.snd.fst) ∧
        ((IntKind.i64.wrap ((↑z1.fst : Int) + (1 : Int))) = (↑y4.fst : Int)) ∧
        True) ∧
       ((l) = l) ∧
       ((m) = m) ∧
       (((z1.snd.snd ++
    [IntKind.i64.wrap
          (IntKind.i64.wrap (l.getD (↑z1.fst : Int).toNat (0 : Int) - z1.snd.fst) -
            m.getD (↑z1.fst : Int).toNat (0 : Int))])) = y4.snd.snd) ∧
       True)))
      (bcase (decide (IntKind.i64.wrap (l.getD (↑z1.fst : Int).toNat (0 : Int) - z1.snd.fst) < (0 : Int)))
       ((True) ∧
       (True ∧
  (z1.snd.snd.length +
        ([IntKind.i64.wrap
                (IntKind.i64.wrap (l.getD (↑z1.fst : Int).toNat (0 : Int) - z1.snd.fst) +
                  (32768 : Int))]).length) *
      (8 : Nat) ≤
    (140737488355328 : Nat)) ∧
       (∃ y5 : Nat × Int × List Int,
       (M199_0 l m y5 < M199_0 l m z1) ∧
       (P199_0 l m default y5) ∧
       ((True) ∧
        (True) ∧
        (True) ∧
        ((1 : Int) = y5.snd.fst) ∧
        ((IntKind.i64.wrap ((↑z1.fst : Int) + (1 : Int))) = (↑y5.fst : Int)) ∧
        True) ∧
       ((l) = l) ∧
       ((m) = m) ∧
       (((z1.snd.snd ++
    [IntKind.i64.wrap
          (IntKind.i64.wrap (l.getD (↑z1.fst : Int).toNat (0 : Int) - z1.snd.fst) + (32768 : Int))])) = y5.snd.snd) ∧
       True))
       ((True) ∧
       (True ∧
  (z1.snd.snd.length +
        ([IntKind.i64.wrap (l.getD (↑z1.fst : Int).toNat (0 : Int) - z1.snd.fst)]).length) *
      (8 : Nat) ≤
    (140737488355328 : Nat)) ∧
       (∃ y6 : Nat × Int × List Int,
       (M199_0 l m y6 < M199_0 l m z1) ∧
       (P199_0 l m default y6) ∧
       ((True) ∧
        (True) ∧
        (True) ∧
        ((0 : Int) = y6.snd.fst) ∧
        ((IntKind.i64.wrap ((↑z1.fst : Int) + (1 : Int))) = (↑y6.fst : Int)) ∧
        True) ∧
       ((l) = l) ∧
       ((m) = m) ∧
       (((z1.snd.snd ++
    [IntKind.i64.wrap (l.getD (↑z1.fst : Int).toNat (0 : Int) - z1.snd.fst)])) = y6.snd.snd) ∧
       True))))
     ((True) ∧
     ((∃ y7 : List Int,
      (TrimP z1.snd.snd y7) ∧
      ((True) ∧
       True) ∧
      ((l) = l) ∧
      ((m) = m) ∧
      ((z1.snd.snd) = y7) ∧
      True)) ∧
     (∀ (z8 : List Int),
     ((TrimP z1.snd.snd z8) →
     bcase (decide ((↑(List.length z8) : Int) > (0 : Int)))
      (((0 : Int) ≤ IntKind.i64.wrap ((↑(List.length z8) : Int) - (1 : Int)) ∧
  IntKind.i64.wrap ((↑(List.length z8) : Int) - (1 : Int)) < (↑(List.length z8) : Int)) ∧
      ((IntKind.i64.wrap ((↑(List.length z8) : Int) - (1 : Int))).toNat < List.length z8) ∧
      bcase (bif true then
  List.getD z8 (IntKind.i64.wrap ((↑(List.length z8) : Int) - (1 : Int))).toNat (0 : Int) == (0 : Int)
  else false)
       (((0 : Int) ≤ IntKind.i64.wrap ((↑(List.length z8) : Int) - (1 : Int)) ∧
  IntKind.i64.wrap ((↑(List.length z8) : Int) - (1 : Int)) ≤ (↑(List.length z8) : Int)) ∧
       (∃ y10 : List Int,
       (y10.length < List.length z8) ∧
       (TrimP z1.snd.snd y10) ∧
       ((True) ∧
        True) ∧
       ((l) = l) ∧
       ((m) = m) ∧
       (((List.take (IntKind.i64.wrap ((↑(List.length z8) : Int) - (1 : Int))).toNat z8)) = y10) ∧
       True))
       (K' (Out.ret (V.osl (nat_lit 0))) [Ob.own (nat_lit 3) [SK.int IntKind.i64] z8]))
      (K' (Out.ret (V.osl (nat_lit 0))) [Ob.own (nat_lit 3) [SK.int IntKind.i64] z8]))))))) := by kernel_rfl
theorem r199 : FreshOk Tryz.prog 199 (ofD g199) := by
  refine fresh_of_runQ Z8a_ok (noD_ok _) An199 Tryz.func199 c199q fun args obs K' hk => ?_
  unfold ofD g199 at hk
  split at hk
  · rename_i d_ out news hg
    split at hg
    · rename_i l m
      cases hg
      obtain ⟨hc, hk⟩ := hk
      obtain ⟨l, rfl⟩ : ∃ v' : List Int, v' = l := ⟨l, rfl⟩
      obtain ⟨m, rfl⟩ : ∃ v' : List Int, v' = m := ⟨m, rfl⟩
      refine Eq.mpr (k199 l m K') ?_
      obtain ⟨hl, hm, hlen, hle⟩ := hc
      have hmen := hm.len_le hl hle
      refine ⟨trivial, trivial, ⟨(0, 0, []), ⟨Nat.zero_le _, ⟨by decide, by decide⟩, (by intro d hd; cases hd), rfl, by simp [nv]⟩, ⟨trivial, trivial, trivial, rfl, rfl, trivial⟩, rfl, rfl, rfl, trivial⟩, ?_⟩
      rintro ⟨i, b, acc⟩ ⟨hi, ⟨hb0, hb1⟩, ha, han, hv⟩
      dsimp only at hi hb0 hb1 ha han hv ⊢
      simp only [Int.toNat_natCast]
      refine bcase_i (fun h => ?_) (fun h => ?_)
      · have h := of_decide_eq_true h
        have hi' : i < l.length := by omega
        have leaf : ∀ (S b' : Int), (0 ≤ S ∧ S < 32768) → (0 ≤ b' ∧ b' ≤ 1) → S = (pt l i : Int) - b - pt m i + 32768 * b' →
            True ∧ (True ∧ (acc.length + ([S]).length) * (8 : Nat) ≤ (140737488355328 : Nat)) ∧ ∃ y : Nat × Int × List Int, (M199_0 l m y < M199_0 l m (i, b, acc)) ∧ (P199_0 l m default y) ∧ (True ∧ True ∧ True ∧ (b' = y.snd.fst) ∧ ((IntKind.i64.wrap ((i : Int) + (1 : Int))) = (y.fst : Int)) ∧ True) ∧ True ∧ True ∧ ((acc ++ [S]) = y.snd.snd) ∧ True := by
          intro S b' hS hb' e
          refine ⟨trivial, ⟨trivial, by simp only [List.length_cons, List.length_nil]; omega⟩, (i + 1, b', acc ++ [S]), by simp only [M199_0]; omega, ⟨hi', hb', dig_app ha hS, by simp [han], ?_⟩, ⟨trivial, trivial, trivial, rfl, incN i (by omega), trivial⟩, trivial, trivial, rfl, trivial⟩
          dsimp only
          rw [nv_app _ _ hS.1, han]
          have d1 := nv_drop_pt l i
          have d2 := nv_drop_pt m i
          have st := minus_step (p := ((32768 ^ i : Nat) : Int)) (L' := nv (l.drop (i + 1))) (M' := nv (m.drop (i + 1))) (li := pt l i) (mi := pt m i) (d := S) (b' := b') hv (by omega) (by omega) e
          rw [Nat.pow_succ, Int.natCast_mul]
          exact st
        have p1 := pt_lt hl.dig i
        have p2 := pt_lt hm.dig i
        have a1 := (pt_in hl.dig hi').1
        refine ⟨⟨by omega, by omega⟩, by omega, ?_⟩
        have e0 : IntKind.i64.wrap (l.getD i 0 - b) = (pt l i : Int) - b := by rw [a1, IntWalk.i64_in _ (by omega)]
        simp only [e0]
        refine bcase_i (fun h2 => ?_) (fun h2 => ?_)
        · have h2 := of_decide_eq_true h2
          have hj : i < m.length := by omega
          have b1 := (pt_in hm.dig hj).1
          have e1 : IntKind.i64.wrap ((pt l i : Int) - b - m.getD i 0) = (pt l i : Int) - b - pt m i := by rw [b1, IntWalk.i64_in _ (by omega)]
          simp only [e1]
          refine ⟨⟨by omega, by omega⟩, by omega, ?_⟩
          refine bcase_i (fun h3 => ?_) (fun h3 => ?_)
          · have h3 := of_decide_eq_true h3
            rw [IntWalk.i64_in ((pt l i : Int) - b - pt m i + 32768) (by omega)]
            exact leaf _ 1 (by omega) (by omega) (by omega)
          · have h3 := of_decide_eq_false h3
            exact leaf _ 0 (by omega) (by omega) (by omega)
        · have h2 := of_decide_eq_false h2
          have b1 : pt m i = 0 := pt_out (by omega)
          refine bcase_i (fun h3 => ?_) (fun h3 => ?_)
          · have h3 := of_decide_eq_true h3
            rw [IntWalk.i64_in ((pt l i : Int) - b + 32768) (by omega)]
            exact leaf _ 1 (by omega) (by omega) (by omega)
          · have h3 := of_decide_eq_false h3
            exact leaf _ 0 (by omega) (by omega) (by omega)
      · have h := of_decide_eq_false h
        have : i = l.length := by omega
        subst this
        have hval : nv acc = nv l - nv m := minus_end hl hm hle ha han ⟨hb0, hb1⟩ hv
        refine ⟨trivial, ⟨acc, ⟨ha, rfl, Nat.le_refl _⟩, ⟨trivial, trivial⟩, trivial, trivial, rfl, trivial⟩, ?_⟩
        rintro x ⟨hx, hvx, hlx⟩
        have fin : dg (nv x) = x → K' (.ret (.osl 0)) [.own 3 [.int .i64] x] := fun e => lfk hk rfl (by rw [← hval, ← hvx, e])
        refine bcase_i (fun h => ?_) (fun h => ?_)
        · have h := of_decide_eq_true h
          have e : IntKind.i64.wrap ((x.length : Int) - 1) = ((x.length - 1 : Nat) : Int) := by rw [IntWalk.i64_in _ (by omega)]; omega
          simp only [e, Int.toNat_natCast]
          refine ⟨⟨by omega, by omega⟩, by omega, ?_⟩
          refine bcase_i (fun h2 => ?_) (fun h2 => ?_)
          · have h2 : (x.getD (x.length - 1) 0 == 0) = true := h2
            have h2 := eq_of_beq h2
            refine ⟨⟨by omega, by omega⟩, x.take (x.length - 1), by rw [List.length_take]; omega, ⟨dig_take hx _, (trim_step (by intro e; subst e; simp at h) h2).trans hvx, by rw [List.length_take]; omega⟩, ⟨trivial, trivial⟩, by trivial, by trivial, by trivial, trivial⟩
          · have h2 : (x.getD (x.length - 1) 0 == 0) = false := h2
            exact fin (trim_end hx (.inr (by simpa using h2)))
        · have h := of_decide_eq_false h
          exact fin (trim_end hx (.inl (List.eq_nil_of_length_eq_zero (by omega))))
    · cases hg
  · exact hk.elim
abbrev P134_0 (l m : List Int) (c x : Nat × Nat × Int × List Int) : Prop := x.1 ≤ l.length ∧ Dig x.2.2.2 ∧ x.2.2.2.length = l.length + m.length ∧ nv x.2.2.2 = nv (l.take x.1) * nv m ∧ ∀ j, x.1 + m.length ≤ j → pt x.2.2.2 j = 0
abbrev M134_0 (l m : List Int) (x : Nat × Nat × Int × List Int) : Nat := l.length - x.1
abbrev P134_1 (l m : List Int) (c x : Nat × Nat × Int × List Int) : Prop := x.1 = c.1 ∧ x.1 < l.length ∧ x.2.1 ≤ m.length ∧ (0 ≤ x.2.2.1 ∧ x.2.2.1 < 32768) ∧ Dig x.2.2.2 ∧ x.2.2.2.length = l.length + m.length ∧ nv x.2.2.2 + x.2.2.1.toNat * 32768 ^ (x.1 + x.2.1) = nv (l.take x.1) * nv m + pt l x.1 * 32768 ^ x.1 * nv (m.take x.2.1) ∧ ∀ j, x.1 + m.length ≤ j → pt x.2.2.2 j = 0
abbrev M134_1 (l m : List Int) (x : Nat × Nat × Int × List Int) : Nat := m.length - x.2.1
def An134 : List V → List Ob → Ann := fun args obs => match args, obs with
  | [.osl 0, .osl 1], [.ro [.int .i64] l, .ro [.int .i64] m] => ⟨Nat × Nat × Int × List Int, default, fun nm c x => match nm with | 0 => P134_0 l m c x | _ => P134_1 l m c x, fun nm x => match nm with | 0 => M134_0 l m x | _ => M134_1 l m x, fun nm x => match nm with | 0 => [(0, .osl 0), (1, .osl 1), (5, .osl 2), (6, i64 x.1)] | _ => [(0, .osl 0), (1, .osl 1), (5, .osl 2), (6, i64 x.1), (7, i64 x.2.2.1), (8, i64 x.2.1)], fun nm x => match nm with | 0 => [.ro [.int .i64] l, .ro [.int .i64] m, .own 3 [.int .i64] x.2.2.2] | _ => [.ro [.int .i64] l, .ro [.int .i64] m, .own 3 [.int .i64] x.2.2.2]⟩
  | _, _ => noAnn
theorem c134q : chkFn Tryz.prog Tryz.f134 (a134.lq) = true := by kernel_rfl
/-- times -/
def g134 : GSpec := fun args obs => match args, obs with
  | [.osl 0, .osl 1], [.ro [.int .i64] l, .ro [.int .i64] m] => some (Cn l ∧ Cn m ∧ l.length < 100000 ∧ m.length < 100000, .ret (.osl 0), [.own 3 [.int .i64] (dg (nv l * nv m))])
  | _, _ => none
theorem k134 (l m : List Int) (K' : Out → List Ob → Prop) : runQ (Z8a) (noD) (An134 [.osl 0, .osl 1] [.ro [.int .i64] l, .ro [.int .i64] m]) (a134.lq) [.osl 0, .osl 1] (lookO [.ro [.int .i64] l, .ro [.int .i64] m]) 2 (closeK K') =
    ((True) ∧
    (IntKind.i64.wrap ((↑l.length : Int) + (↑m.length : Int)) = IntKind.i64.wrap ((↑l.length : Int) + (↑m.length : Int)) ∧
  (0 : Int) ≤ IntKind.i64.wrap ((↑l.length : Int) + (↑m.length : Int)) ∧
    IntKind.i64.wrap ((↑l.length : Int) + (↑m.length : Int)) * (↑(8 : Nat) : Int) ≤ (140737488355328 : Int)) ∧
    ((∃ y0 : Nat × Nat × Int × List Int,
     (P134_0 l m default y0) ∧
     ((True) ∧
      (True) ∧
      (True) ∧
      ((0 : Int) = (↑y0.fst : Int)) ∧
      True) ∧
     ((l) = l) ∧
     ((m) = m) ∧
     (((List.replicate (IntKind.i64.wrap ((↑l.length : Int) + (↑m.length : Int))).toNat (0 : den [SK.int IntKind.i64]))) = y0.snd.snd.snd) ∧
     True)) ∧
    (∀ (z1 : Nat × Nat × Int × List Int),
    ((P134_0 l m default z1) →
    bcase (decide ((↑z1.fst : Int) < (↑l.length : Int)))
     (((∃ y3 : Nat × Nat × Int × List Int,
      (P134_1 l m z1 y3) ∧
      ((True) ∧
       (True) ∧
       (True) ∧
       (((↑z1.fst : Int)) = (↑y3.fst : Int)) ∧
       ((0 : Int) = y3.snd.snd.fst) ∧
       ((0 : Int) = (↑y3.snd.fst : Int)) ∧
       True) ∧
      ((l) = l) ∧
      ((m) = m) ∧
      ((z1.snd.snd.snd) = y3.snd.snd.snd) ∧
      True)) ∧
     (∀ (z4 : Nat × Nat × Int × List Int),
     ((P134_1 l m z1 z4) →
     bcase (decide ((↑z4.snd.fst : Int) < (↑m.length : Int)))
      (((0 : Int) ≤ IntKind.i64.wrap ((↑z4.fst : Int) + (↑z4.snd.fst : Int)) ∧
  IntKind.i64.wrap ((↑z4.fst : Int) + (↑z4.snd.fst : Int)) < (↑z4.snd.snd.snd.length : Int)) ∧
      ((IntKind.i64.wrap ((↑z4.fst : Int) + (↑z4.snd.fst : Int))).toNat < z4.snd.snd.snd.length) ∧
      ((0 : Int) ≤ (↑z4.fst : Int) ∧ (↑z4.fst : Int) < (↑l.length : Int)) ∧
      ((↑z4.fst : Int).toNat < l.length) ∧
      ((0 : Int) ≤ (↑z4.snd.fst : Int) ∧ (↑z4.snd.fst : Int) < (↑m.length : Int)) ∧
      ((↑z4.snd.fst : Int).toNat < m.length) ∧
      ((32768 : Int) ≠ (0 : Int)) ∧
      ((0 : Int) ≤ IntKind.i64.wrap ((↑z4.fst : Int) + (↑z4.snd.fst : Int)) ∧
  IntKind.i64.wrap ((↑z4.fst : Int) + (↑z4.snd.fst : Int)) < (↑z4.snd.snd.snd.length : Int)) ∧
      ((IntKind.i64.wrap ((↑z4.fst : Int) + (↑z4.snd.fst : Int))).toNat < z4.snd.snd.snd.length) ∧
      ((32768 : Int) ≠ (0 : Int)) ∧
      (∃ y6 : Nat × Nat × Int × List Int,
      (M134_1 l m y6 < M134_1 l m z4) ∧
      (P134_1 l m z1 y6) ∧
      ((True) ∧
       (True) ∧
       (True) ∧
       (((↑z4.fst : Int)) = (↑y6.fst : Int)) ∧
       ((IntKind.i64.wrap
  ((IntKind.i64.wrap
        (IntKind.i64.wrap
            (z4.snd.snd.fst +
              z4.snd.snd.snd.getD (IntKind.i64.wrap ((↑z4.fst : Int) + (↑z4.snd.fst : Int))).toNat
                (0 : Int)) +
          IntKind.i64.wrap
            (l.getD (↑z4.fst : Int).toNat (0 : Int) *
              m.getD (↑z4.snd.fst : Int).toNat (0 : Int)))).tdiv
    (32768 : Int))) = y6.snd.snd.fst) ∧
       ((IntKind.i64.wrap ((↑z4.snd.fst : Int) + (1 : Int))) = (↑y6.snd.fst : Int)) ∧
       True) ∧
      ((l) = l) ∧
      ((m) = m) ∧
      (((z4.snd.snd.snd.set (IntKind.i64.wrap ((↑z4.fst : Int) + (↑z4.snd.fst : Int))).toNat
    ((IntKind.i64.wrap
          (IntKind.i64.wrap
              (z4.snd.snd.fst +
                z4.snd.snd.snd.getD (IntKind.i64.wrap ((↑z4.fst : Int) + (↑z4.snd.fst : Int))).toNat
                  (0 : Int)) +
            IntKind.i64.wrap
              (l.getD (↑z4.fst : Int).toNat (0 : Int) *
                m.getD (↑z4.snd.fst : Int).toNat (0 : Int)))).tmod
      (32768 : Int)))) = y6.snd.snd.snd) ∧
      True))
      (((0 : Int) ≤ IntKind.i64.wrap ((↑z4.fst : Int) + (↑m.length : Int)) ∧
  IntKind.i64.wrap ((↑z4.fst : Int) + (↑m.length : Int)) < (↑z4.snd.snd.snd.length : Int)) ∧
      ((IntKind.i64.wrap ((↑z4.fst : Int) + (↑m.length : Int))).toNat < z4.snd.snd.snd.length) ∧
      (∃ y7 : Nat × Nat × Int × List Int,
      (M134_0 l m y7 < M134_0 l m z1) ∧
      (P134_0 l m default y7) ∧
      ((True) ∧
       (True) ∧
       (True) ∧
       ((IntKind.i64.wrap ((↑z4.fst : Int) + (1 : Int))) = (↑y7.fst : Int)) ∧
       True) ∧
      ((l) = l) ∧
      ((m) = m) ∧
      (((z4.snd.snd.snd.set (IntKind.i64.wrap ((↑z4.fst : Int) + (↑m.length : Int))).toNat z4.snd.snd.fst)) = y7.snd.snd.snd) ∧
      True)))))
     ((True) ∧
     ((∃ y8 : List Int,
      (TrimP z1.snd.snd.snd y8) ∧
      ((True) ∧
       True) ∧
      ((l) = l) ∧
      ((m) = m) ∧
      ((z1.snd.snd.snd) = y8) ∧
      True)) ∧
     (∀ (z9 : List Int),
     ((TrimP z1.snd.snd.snd z9) →
     bcase (decide ((↑(List.length z9) : Int) > (0 : Int)))
      (((0 : Int) ≤ IntKind.i64.wrap ((↑(List.length z9) : Int) - (1 : Int)) ∧
  IntKind.i64.wrap ((↑(List.length z9) : Int) - (1 : Int)) < (↑(List.length z9) : Int)) ∧
      ((IntKind.i64.wrap ((↑(List.length z9) : Int) - (1 : Int))).toNat < List.length z9) ∧
      bcase (bif true then
  List.getD z9 (IntKind.i64.wrap ((↑(List.length z9) : Int) - (1 : Int))).toNat (0 : Int) == (0 : Int)
  else false)
       (((0 : Int) ≤ IntKind.i64.wrap ((↑(List.length z9) : Int) - (1 : Int)) ∧
  IntKind.i64.wrap ((↑(List.length z9) : Int) - (1 : Int)) ≤ (↑(List.length z9) : Int)) ∧
       (∃ y11 : List Int,
       (y11.length < List.length z9) ∧
       (TrimP z1.snd.snd.snd y11) ∧
       ((True) ∧
        True) ∧
       ((l) = l) ∧
       ((m) = m) ∧
       (((List.take (IntKind.i64.wrap ((↑(List.length z9) : Int) - (1 : Int))).toNat z9)) = y11) ∧
       True))
       (K' (Out.ret (V.osl (nat_lit 0))) [Ob.own (nat_lit 3) [SK.int IntKind.i64] z9]))
      (K' (Out.ret (V.osl (nat_lit 0))) [Ob.own (nat_lit 3) [SK.int IntKind.i64] z9]))))))) := by kernel_rfl
theorem r134 : FreshOk Tryz.prog 134 (ofD g134) := by
  refine fresh_of_runQ Z8a_ok (noD_ok _) An134 Tryz.func134 c134q fun args obs K' hk => ?_
  unfold ofD g134 at hk
  split at hk
  · rename_i d_ out news hg
    split at hg
    · rename_i l m
      cases hg
      obtain ⟨hc, hk⟩ := hk
      obtain ⟨l, rfl⟩ : ∃ v' : List Int, v' = l := ⟨l, rfl⟩
      obtain ⟨m, rfl⟩ : ∃ v' : List Int, v' = m := ⟨m, rfl⟩
      refine Eq.mpr (k134 l m K') ?_
      obtain ⟨hl, hm, hlen, hmen⟩ := hc
      have eW : IntKind.i64.wrap ((l.length : Int) + (m.length : Int)) = ((l.length + m.length : Nat) : Int) := by rw [IntWalk.i64_in _ (by omega)]; omega
      simp only [eW, Int.toNat_natCast]
      refine ⟨trivial, ⟨trivial, by omega, by omega⟩, ⟨(0, 0, 0, List.replicate (l.length + m.length) 0), ⟨Nat.zero_le _, dig_zeros _, List.length_replicate, by simp [nv_zeros, nv], fun j _ => pt_zeros _ _⟩, ⟨trivial, trivial, trivial, rfl, trivial⟩, trivial, trivial, rfl, trivial⟩, ?_⟩
      rintro ⟨i, k0, c0, out0⟩ ⟨hi, hd0, hn0, hv0, hz0⟩
      dsimp only at hi hd0 hn0 hv0 hz0 ⊢
      refine bcase_i (fun h => ?_) (fun h => ?_)
      · have h := of_decide_eq_true h
        have hi' : i < l.length := by omega
        refine And.intro ⟨(i, 0, 0, out0), ⟨rfl, hi', Nat.zero_le _, ⟨by simp, by simp⟩, hd0, hn0, by simp [hv0, nv], hz0⟩, ⟨trivial, trivial, trivial, by trivial, by trivial, by trivial, trivial⟩, trivial, trivial, by trivial, trivial⟩ ?_
        clear hi hd0 hn0 hv0 hz0 h hi'
        rintro ⟨i', k, c, out⟩ ⟨hii, hi, hk', ⟨hc0, hc1⟩, hd, hn, hv, hz⟩
        dsimp only at hii hi hk' hc0 hc1 hd hn hv hz ⊢
        subst hii
        refine bcase_i (fun h => ?_) (fun h => ?_)
        · have h := of_decide_eq_true h
          have hj : k < m.length := by omega
          have eI : IntKind.i64.wrap ((i' : Int) + (k : Int)) = ((i' + k : Nat) : Int) := by rw [IntWalk.i64_in _ (by omega)]; omega
          have a1 := pt_in hl.dig hi
          have b1 := pt_in hm.dig hj
          have o1 := pt_in hd (i := i' + k) (by omega)
          have hab : pt l i' * pt m k ≤ 32767 * 32767 := Nat.mul_le_mul (by omega) (by omega)
          simp only [eI, Int.toNat_natCast]
          have eS : IntKind.i64.wrap (IntKind.i64.wrap (c + out.getD (i' + k) 0) + IntKind.i64.wrap (l.getD i' 0 * m.getD k 0)) = ((c.toNat + pt out (i' + k) + pt l i' * pt m k : Nat) : Int) := by
            rw [a1.1, b1.1, o1.1, ← Int.natCast_mul]
            rw [IntWalk.i64_in (((pt l i' * pt m k : Nat) : Int)) (by omega), IntWalk.i64_in (c + (pt out (i' + k) : Int)) (by omega), IntWalk.i64_in _ (by omega)]
            omega
          simp only [eS]
          have st := times_step hd (i := i') (k := k) (cn := c.toNat) (an := pt l i') (bn := pt m k) (X := nv (l.take i') * nv m) (Y := nv (m.take k)) (d := (((c.toNat + pt out (i' + k) + pt l i' * pt m k) % 32768 : Nat) : Int)) (by omega) rfl hv
          have tk := nv_take_at m k hj
          have e1 : ((c.toNat + pt out (i' + k) + pt l i' * pt m k : Nat) : Int).tmod 32768 = (((c.toNat + pt out (i' + k) + pt l i' * pt m k) % 32768 : Nat) : Int) := by rw [Int.tmod_eq_emod_of_nonneg (by omega)]; omega
          have e2 : IntKind.i64.wrap (((c.toNat + pt out (i' + k) + pt l i' * pt m k : Nat) : Int).tdiv 32768) = (((c.toNat + pt out (i' + k) + pt l i' * pt m k) / 32768 : Nat) : Int) := by
            rw [Int.tdiv_eq_ediv_of_nonneg (by omega), IntWalk.i64_in _ (by omega)]; omega
          rw [e1, e2]
          generalize hV : c.toNat + pt out (i' + k) + pt l i' * pt m k = V at *
          refine ⟨⟨by omega, by omega⟩, by omega, ⟨by omega, by omega⟩, by omega, ⟨by omega, by omega⟩, by omega, by decide, ⟨by omega, by omega⟩, by omega, by decide, (i', k + 1, ((V / 32768 : Nat) : Int), out.set (i' + k) ((V % 32768 : Nat) : Int)), by simp only [M134_1]; omega, ⟨rfl, hi, hj, ⟨by dsimp only; omega, by dsimp only; omega⟩, dig_set hd _ (by omega), by simpa using hn, ?_, fun j hj' => ?_⟩, ⟨trivial, trivial, trivial, by trivial, by trivial, incN k (by omega), trivial⟩, trivial, trivial, by trivial, trivial⟩
          · dsimp only
            rw [tk, Int.toNat_natCast]
            exact st
          · dsimp only at hj' ⊢
            rw [pt_set_ne (by omega)]
            exact hz j hj'
        · have h := of_decide_eq_false h
          have : k = m.length := by omega
          subst this
          have eI : IntKind.i64.wrap ((i' : Int) + (m.length : Int)) = ((i' + m.length : Nat) : Int) := by rw [IntWalk.i64_in _ (by omega)]; omega
          simp only [eI, Int.toNat_natCast]
          have tk := nv_take_at l i' hi
          rw [List.take_length] at hv
          have st := times_row hd (i := i') (n := m.length) (cn := c.toNat) (d := c) (by omega) (by omega) (hz _ (Nat.le_refl _)) hv
          refine ⟨⟨by omega, by omega⟩, by omega, (i' + 1, 0, 0, out.set (i' + m.length) c), by simp only [M134_0]; omega, ⟨hi, dig_set hd _ ⟨hc0, hc1⟩, by simpa using hn, ?_, fun j hj' => ?_⟩, ⟨trivial, trivial, trivial, incN i' (by omega), trivial⟩, trivial, trivial, by trivial, trivial⟩
          · dsimp only
            rw [st, tk, Nat.add_mul]
            congr 1
            show pt l i' * 32768 ^ i' * nv m = 32768 ^ i' * pt l i' * nv m
            rw [Nat.mul_comm (pt l i')]
          · dsimp only at hj' ⊢
            rw [pt_set_ne (by omega)]
            exact hz j (by omega)
      · have h := of_decide_eq_false h
        have hval : nv out0 = nv l * nv m := by rw [hv0, List.take_of_length_le (by omega)]
        refine ⟨trivial, ⟨out0, ⟨hd0, rfl, Nat.le_refl _⟩, ⟨trivial, trivial⟩, trivial, trivial, rfl, trivial⟩, ?_⟩
        rintro x ⟨hx, hvx, hlx⟩
        have fin : dg (nv x) = x → K' (.ret (.osl 0)) [.own 3 [.int .i64] x] := fun e => lfk hk rfl (by rw [← hval, ← hvx, e])
        refine bcase_i (fun h => ?_) (fun h => ?_)
        · have h := of_decide_eq_true h
          have e : IntKind.i64.wrap ((x.length : Int) - 1) = ((x.length - 1 : Nat) : Int) := by rw [IntWalk.i64_in _ (by omega)]; omega
          simp only [e, Int.toNat_natCast]
          refine ⟨⟨by omega, by omega⟩, by omega, ?_⟩
          refine bcase_i (fun h2 => ?_) (fun h2 => ?_)
          · have h2 : (x.getD (x.length - 1) 0 == 0) = true := h2
            have h2 := eq_of_beq h2
            refine ⟨⟨by omega, by omega⟩, x.take (x.length - 1), by rw [List.length_take]; omega, ⟨dig_take hx _, (trim_step (by intro e; subst e; simp at h) h2).trans hvx, by rw [List.length_take]; omega⟩, ⟨trivial, trivial⟩, by trivial, by trivial, by trivial, trivial⟩
          · have h2 : (x.getD (x.length - 1) 0 == 0) = false := h2
            exact fin (trim_end hx (.inr (by simpa using h2)))
        · have h := of_decide_eq_false h
          exact fin (trim_end hx (.inl (List.eq_nil_of_length_eq_zero (by omega))))
    · cases hg
  · exact hk.elim

end Go.Proofs.YtbolfnkgbjkbjaaGreat.AM
end
section
set_option linter.unusedVariables false
set_option linter.unusedSimpArgs false
namespace Go.Proofs.YtbolfnkgbjkbjaaGreat.AM
open Go Go.RowKit
set_option maxRecDepth 100000

def Z9_0 : Tab := Z8a.add 130 (liftA (ofD g130))
def Z9_1 : Tab := Z9_0.add 132 (liftA (ofD g132))
def Z9_2 : Tab := Z9_1.add 134 (liftA (ofD g134))
def Z9 : Tab := Z9_2.add 199 (liftA (ofD g199))
theorem Z9_0_ok : TabOk Tryz.prog Z9_0 := Z8a_ok.add (entry_of_fresh r130)
theorem Z9_1_ok : TabOk Tryz.prog Z9_1 := Z9_0_ok.add (entry_of_fresh r132)
theorem Z9_2_ok : TabOk Tryz.prog Z9_2 := Z9_1_ok.add (entry_of_fresh r134)
theorem Z9_ok : TabOk Tryz.prog Z9 := Z9_2_ok.add (entry_of_fresh r199)
abbrev P200_0 (l m : List Int) (c x : Int × List Int × Nat × Nat × Nat) : Prop := (-1 ≤ x.1 ∧ x.1 < l.length) ∧ Dig x.2.1 ∧ x.2.1.length = l.length ∧ x.2.2.1 < nv m ∧ nv (l.drop (x.1 + 1).toNat) = nv (x.2.1.drop (x.1 + 1).toNat) * nv m + x.2.2.1 ∧ ∀ j : Nat, (j : Int) ≤ x.1 → pt x.2.1 j = 0
abbrev M200_0 (l m : List Int) (x : Int × List Int × Nat × Nat × Nat) : Nat := (x.1 + 1).toNat
abbrev P200_1 (l m : List Int) (c x : Int × List Int × Nat × Nat × Nat) : Prop := x.1 = c.1 ∧ x.2.1 = c.2.1 ∧ 0 ≤ x.1 ∧ x.2.2.1 = pt l x.1.toNat + 32768 * c.2.2.1 ∧ x.2.2.2.1 ≤ x.2.2.1 / nv m ∧ x.2.2.1 / nv m < x.2.2.2.1 + 2 ^ x.2.2.2.2 ∧ x.2.2.2.2 ≤ 15
abbrev M200_1 (l m : List Int) (x : Int × List Int × Nat × Nat × Nat) : Nat := x.2.2.2.2
def An200 : List V → List Ob → Ann := fun args obs => match args, obs with
  | [.osl 0, .osl 1], [.ro [.int .i64] l, .ro [.int .i64] m] => ⟨Int × List Int × Nat × Nat × Nat, default, fun nm c x => match nm with | 0 => P200_0 l m c x | _ => P200_1 l m c x, fun nm x => match nm with | 0 => M200_0 l m x | _ => M200_1 l m x, fun nm x => match nm with | 0 => [(0, .osl 0), (1, .osl 1), (6, .osl 2), (7, .osl 3), (8, i64 x.1)] | _ => [(0, .osl 0), (1, .osl 1), (6, .osl 2), (7, .osl 3), (8, i64 x.1), (9, i64 x.2.2.2.1), (10, i64 (2 ^ x.2.2.2.2 / 2 : Nat))], fun nm x => match nm with | 0 => [.ro [.int .i64] l, .ro [.int .i64] m, .own 3 [.int .i64] x.2.1, .own 3 [.int .i64] (dg x.2.2.1)] | _ => [.ro [.int .i64] l, .ro [.int .i64] m, .own 3 [.int .i64] x.2.1, .own 3 [.int .i64] (dg x.2.2.1)]⟩
  | _, _ => noAnn
theorem c200q : chkFn Tryz.prog Tryz.f200 (a200.lq) = true := by kernel_rfl
/-- over -/
def g200 : GSpec := fun args obs => match args, obs with
  | [.osl 0, .osl 1], [.ro [.int .i64] l, .ro [.int .i64] m] => some (Cn l ∧ Cn m ∧ l.length < 1000 ∧ m.length < 1000 ∧ 0 < nv m, .ret (.tup [.osl 0, .osl 1]), [.own 3 [.int .i64] (dg (nv l / nv m)), .own 3 [.int .i64] (dg (nv l % nv m))])
  | _, _ => none
theorem k200 (l m : List Int) (K' : Out → List Ob → Prop) : runQ (Z9) (noD) (An200 [.osl 0, .osl 1] [.ro [.int .i64] l, .ro [.int .i64] m]) (a200.lq) [.osl 0, .osl 1] (lookO [.ro [.int .i64] l, .ro [.int .i64] m]) 2 (closeK K') =
    ((True) ∧
    (True) ∧
    ((↑l.length : Int) = (↑l.length : Int) ∧
  (0 : Int) ≤ (↑l.length : Int) ∧ (↑l.length : Int) * (↑(8 : Nat) : Int) ≤ (140737488355328 : Int)) ∧
    (True) ∧
    ((∃ y0 : Int × List Int × Nat × Nat × Nat,
     (P200_0 l m default y0) ∧
     ((True) ∧
      (True) ∧
      (True) ∧
      (True) ∧
      ((IntKind.i64.wrap ((↑l.length : Int) - (1 : Int))) = y0.fst) ∧
      True) ∧
     ((l) = l) ∧
     ((m) = m) ∧
     (((List.replicate (↑l.length : Int).toNat (0 : den [SK.int IntKind.i64]))) = y0.snd.fst) ∧
     (([]) = dg y0.snd.snd.fst) ∧
     True)) ∧
    (∀ (z1 : Int × List Int × Nat × Nat × Nat),
    ((P200_0 l m default z1) →
    bcase (decide (z1.fst ≥ (0 : Int)))
     (((0 : Int) ≤ z1.fst ∧ z1.fst < (↑l.length : Int)) ∧
     (z1.fst.toNat < l.length) ∧
     (True) ∧
     (True ∧
  ([l.getD z1.fst.toNat (0 : Int)].length + ((dg z1.snd.snd.fst)).length) * (8 : Nat) ≤
    (140737488355328 : Nat)) ∧
     (True) ∧
     ((∃ y3 : List Int,
      (TrimP ([l.getD z1.fst.toNat (0 : Int)] ++ (dg z1.snd.snd.fst)) y3) ∧
      ((True) ∧
       True) ∧
      ((l) = l) ∧
      ((m) = m) ∧
      ((z1.snd.fst) = z1.snd.fst) ∧
      (((dg z1.snd.snd.fst)) = dg z1.snd.snd.fst) ∧
      ((([l.getD z1.fst.toNat (0 : Int)] ++ (dg z1.snd.snd.fst))) = y3) ∧
      True)) ∧
     (∀ (z4 : List Int),
     ((TrimP ([l.getD z1.fst.toNat (0 : Int)] ++ (dg z1.snd.snd.fst)) z4) →
     bcase (decide ((↑(List.length z4) : Int) > (0 : Int)))
      (((0 : Int) ≤ IntKind.i64.wrap ((↑(List.length z4) : Int) - (1 : Int)) ∧
  IntKind.i64.wrap ((↑(List.length z4) : Int) - (1 : Int)) < (↑(List.length z4) : Int)) ∧
      ((IntKind.i64.wrap ((↑(List.length z4) : Int) - (1 : Int))).toNat < List.length z4) ∧
      bcase (bif true then
  List.getD z4 (IntKind.i64.wrap ((↑(List.length z4) : Int) - (1 : Int))).toNat (0 : Int) == (0 : Int)
  else false)
       (((0 : Int) ≤ IntKind.i64.wrap ((↑(List.length z4) : Int) - (1 : Int)) ∧
  IntKind.i64.wrap ((↑(List.length z4) : Int) - (1 : Int)) ≤ (↑(List.length z4) : Int)) ∧
       (∃ y6 : List Int,
       (y6.length < List.length z4) ∧
       (TrimP ([l.getD z1.fst.toNat (0 : Int)] ++ (dg z1.snd.snd.fst)) y6) ∧
       ((True) ∧
        True) ∧
       ((l) = l) ∧
       ((m) = m) ∧
       ((z1.snd.fst) = z1.snd.fst) ∧
       (((dg z1.snd.snd.fst)) = dg z1.snd.snd.fst) ∧
       (((List.take (IntKind.i64.wrap ((↑(List.length z4) : Int) - (1 : Int))).toNat z4)) = y6) ∧
       True))
       (((∃ y7 : Int × List Int × Nat × Nat × Nat,
        (P200_1 l m z1 y7) ∧
        ((True) ∧
         (True) ∧
         (True) ∧
         (True) ∧
         ((z1.fst) = y7.fst) ∧
         ((0 : Int) = (↑y7.snd.snd.snd.fst : Int)) ∧
         ((16384 : Int) = (↑((2 : Nat) ^ y7.snd.snd.snd.snd / (2 : Nat)) : Int)) ∧
         True) ∧
        ((l) = l) ∧
        ((m) = m) ∧
        ((z1.snd.fst) = y7.snd.fst) ∧
        ((z4) = dg y7.snd.snd.fst) ∧
        True)) ∧
       (∀ (z8 : Int × List Int × Nat × Nat × Nat),
       ((P200_1 l m z1 z8) →
       bcase (decide ((↑((2 : Nat) ^ z8.snd.snd.snd.snd / (2 : Nat)) : Int) > (0 : Int)))
        ((True ∧ True ∧ True) ∧
        (Cn (dg z8.snd.snd.fst) ∧ Cn m ∧ (dg z8.snd.snd.fst).length < (1000000 : Nat)) ∧
        bcase (bif true then decide (ordN (nv (dg z8.snd.snd.fst)) (nv m) ≥ (0 : Int)) else false)
         ((True ∧ True) ∧
         ((0 : Int) ≤ IntKind.i64.wrap ((↑z8.snd.snd.snd.fst : Int) + (↑((2 : Nat) ^ z8.snd.snd.snd.snd / (2 : Nat)) : Int)) ∧
  IntKind.i64.wrap ((↑z8.snd.snd.snd.fst : Int) + (↑((2 : Nat) ^ z8.snd.snd.snd.snd / (2 : Nat)) : Int)) <
    (9223372036854775808 : Int)) ∧
         (True ∧ True ∧ True) ∧
         (Cn m ∧
  Cn
      (dg
        (IntKind.i64.wrap
            ((↑z8.snd.snd.snd.fst : Int) + (↑((2 : Nat) ^ z8.snd.snd.snd.snd / (2 : Nat)) : Int))).toNat) ∧
    m.length < (100000 : Nat) ∧
      (dg
            (IntKind.i64.wrap
                ((↑z8.snd.snd.snd.fst : Int) + (↑((2 : Nat) ^ z8.snd.snd.snd.snd / (2 : Nat)) : Int))).toNat).length <
        (100000 : Nat)) ∧
         (True ∧ True ∧ True) ∧
         (Cn
    (dg
      (nv m *
        nv
          (dg
            (IntKind.i64.wrap
                ((↑z8.snd.snd.snd.fst : Int) + (↑((2 : Nat) ^ z8.snd.snd.snd.snd / (2 : Nat)) : Int))).toNat))) ∧
  Cn (dg z8.snd.snd.fst) ∧
    (dg
          (nv m *
            nv
              (dg
                (IntKind.i64.wrap
                    ((↑z8.snd.snd.snd.fst : Int) +
                      (↑((2 : Nat) ^ z8.snd.snd.snd.snd / (2 : Nat)) : Int))).toNat))).length <
      (1000000 : Nat)) ∧
         bcase (decide
  (ordN
      (nv
        (dg
          (nv m *
            nv
              (dg
                (IntKind.i64.wrap
                    ((↑z8.snd.snd.snd.fst : Int) + (↑((2 : Nat) ^ z8.snd.snd.snd.snd / (2 : Nat)) : Int))).toNat))))
      (nv (dg z8.snd.snd.fst)) ≤
    (0 : Int)))
          (((2 : Int) ≠ (0 : Int)) ∧
          (∃ y10 : Int × List Int × Nat × Nat × Nat,
          (M200_1 l m y10 < M200_1 l m z8) ∧
          (P200_1 l m z1 y10) ∧
          ((True) ∧
           (True) ∧
           (True) ∧
           (True) ∧
           ((z8.fst) = y10.fst) ∧
           ((IntKind.i64.wrap ((↑z8.snd.snd.snd.fst : Int) + (↑((2 : Nat) ^ z8.snd.snd.snd.snd / (2 : Nat)) : Int))) = (↑y10.snd.snd.snd.fst : Int)) ∧
           ((IntKind.i64.wrap ((↑((2 : Nat) ^ z8.snd.snd.snd.snd / (2 : Nat)) : Int).tdiv (2 : Int))) = (↑((2 : Nat) ^ y10.snd.snd.snd.snd / (2 : Nat)) : Int)) ∧
           True) ∧
          ((l) = l) ∧
          ((m) = m) ∧
          ((z8.snd.fst) = y10.snd.fst) ∧
          (((dg z8.snd.snd.fst)) = dg y10.snd.snd.fst) ∧
          True))
          (((2 : Int) ≠ (0 : Int)) ∧
          (∃ y11 : Int × List Int × Nat × Nat × Nat,
          (M200_1 l m y11 < M200_1 l m z8) ∧
          (P200_1 l m z1 y11) ∧
          ((True) ∧
           (True) ∧
           (True) ∧
           (True) ∧
           ((z8.fst) = y11.fst) ∧
           (((↑z8.snd.snd.snd.fst : Int)) = (↑y11.snd.snd.snd.fst : Int)) ∧
           ((IntKind.i64.wrap ((↑((2 : Nat) ^ z8.snd.snd.snd.snd / (2 : Nat)) : Int).tdiv (2 : Int))) = (↑((2 : Nat) ^ y11.snd.snd.snd.snd / (2 : Nat)) : Int)) ∧
           True) ∧
          ((l) = l) ∧
          ((m) = m) ∧
          ((z8.snd.fst) = y11.snd.fst) ∧
          (((dg z8.snd.snd.fst)) = dg y11.snd.snd.fst) ∧
          True)))
         (((0 : Int) ≤ z8.fst ∧ z8.fst < (↑z8.snd.fst.length : Int)) ∧
         (z8.fst.toNat < z8.snd.fst.length) ∧
         (True ∧ True) ∧
         ((0 : Int) ≤ (↑z8.snd.snd.snd.fst : Int) ∧ (↑z8.snd.snd.snd.fst : Int) < (9223372036854775808 : Int)) ∧
         (True ∧ True ∧ True) ∧
         (Cn m ∧
  Cn (dg (↑z8.snd.snd.snd.fst : Int).toNat) ∧
    m.length < (100000 : Nat) ∧ (dg (↑z8.snd.snd.snd.fst : Int).toNat).length < (100000 : Nat)) ∧
         (True ∧ True ∧ True) ∧
         (Cn (dg z8.snd.snd.fst) ∧
  Cn (dg (nv m * nv (dg (↑z8.snd.snd.snd.fst : Int).toNat))) ∧
    (dg z8.snd.snd.fst).length < (100000 : Nat) ∧
      nv (dg (nv m * nv (dg (↑z8.snd.snd.snd.fst : Int).toNat))) ≤ nv (dg z8.snd.snd.fst)) ∧
         (∃ y12 : Int × List Int × Nat × Nat × Nat,
         (M200_0 l m y12 < M200_0 l m z1) ∧
         (P200_0 l m default y12) ∧
         ((True) ∧
          (True) ∧
          (True) ∧
          (True) ∧
          ((IntKind.i64.wrap (z8.fst - (1 : Int))) = y12.fst) ∧
          True) ∧
         ((l) = l) ∧
         ((m) = m) ∧
         (((z8.snd.fst.set z8.fst.toNat (↑z8.snd.snd.snd.fst : Int))) = y12.snd.fst) ∧
         (((dg (nv (dg z8.snd.snd.fst) - nv (dg (nv m * nv (dg (↑z8.snd.snd.snd.fst : Int).toNat)))))) = dg y12.snd.snd.fst) ∧
         True)))
        (((0 : Int) ≤ z8.fst ∧ z8.fst < (↑z8.snd.fst.length : Int)) ∧
        (z8.fst.toNat < z8.snd.fst.length) ∧
        (True ∧ True) ∧
        ((0 : Int) ≤ (↑z8.snd.snd.snd.fst : Int) ∧ (↑z8.snd.snd.snd.fst : Int) < (9223372036854775808 : Int)) ∧
        (True ∧ True ∧ True) ∧
        (Cn m ∧
  Cn (dg (↑z8.snd.snd.snd.fst : Int).toNat) ∧
    m.length < (100000 : Nat) ∧ (dg (↑z8.snd.snd.snd.fst : Int).toNat).length < (100000 : Nat)) ∧
        (True ∧ True ∧ True) ∧
        (Cn (dg z8.snd.snd.fst) ∧
  Cn (dg (nv m * nv (dg (↑z8.snd.snd.snd.fst : Int).toNat))) ∧
    (dg z8.snd.snd.fst).length < (100000 : Nat) ∧
      nv (dg (nv m * nv (dg (↑z8.snd.snd.snd.fst : Int).toNat))) ≤ nv (dg z8.snd.snd.fst)) ∧
        (∃ y13 : Int × List Int × Nat × Nat × Nat,
        (M200_0 l m y13 < M200_0 l m z1) ∧
        (P200_0 l m default y13) ∧
        ((True) ∧
         (True) ∧
         (True) ∧
         (True) ∧
         ((IntKind.i64.wrap (z8.fst - (1 : Int))) = y13.fst) ∧
         True) ∧
        ((l) = l) ∧
        ((m) = m) ∧
        (((z8.snd.fst.set z8.fst.toNat (↑z8.snd.snd.snd.fst : Int))) = y13.snd.fst) ∧
        (((dg (nv (dg z8.snd.snd.fst) - nv (dg (nv m * nv (dg (↑z8.snd.snd.snd.fst : Int).toNat)))))) = dg y13.snd.snd.fst) ∧
        True))))))
      (((∃ y14 : Int × List Int × Nat × Nat × Nat,
       (P200_1 l m z1 y14) ∧
       ((True) ∧
        (True) ∧
        (True) ∧
        (True) ∧
        ((z1.fst) = y14.fst) ∧
        ((0 : Int) = (↑y14.snd.snd.snd.fst : Int)) ∧
        ((16384 : Int) = (↑((2 : Nat) ^ y14.snd.snd.snd.snd / (2 : Nat)) : Int)) ∧
        True) ∧
       ((l) = l) ∧
       ((m) = m) ∧
       ((z1.snd.fst) = y14.snd.fst) ∧
       ((z4) = dg y14.snd.snd.fst) ∧
       True)) ∧
      (∀ (z15 : Int × List Int × Nat × Nat × Nat),
      ((P200_1 l m z1 z15) →
      bcase (decide ((↑((2 : Nat) ^ z15.snd.snd.snd.snd / (2 : Nat)) : Int) > (0 : Int)))
       ((True ∧ True ∧ True) ∧
       (Cn (dg z15.snd.snd.fst) ∧ Cn m ∧ (dg z15.snd.snd.fst).length < (1000000 : Nat)) ∧
       bcase (bif true then decide (ordN (nv (dg z15.snd.snd.fst)) (nv m) ≥ (0 : Int)) else false)
        ((True ∧ True) ∧
        ((0 : Int) ≤ IntKind.i64.wrap ((↑z15.snd.snd.snd.fst : Int) + (↑((2 : Nat) ^ z15.snd.snd.snd.snd / (2 : Nat)) : Int)) ∧
  IntKind.i64.wrap ((↑z15.snd.snd.snd.fst : Int) + (↑((2 : Nat) ^ z15.snd.snd.snd.snd / (2 : Nat)) : Int)) <
    (9223372036854775808 : Int)) ∧
        (True ∧ True ∧ True) ∧
        (Cn m ∧
  Cn
      (dg
        (IntKind.i64.wrap
            ((↑z15.snd.snd.snd.fst : Int) + (↑((2 : Nat) ^ z15.snd.snd.snd.snd / (2 : Nat)) : Int))).toNat) ∧
    m.length < (100000 : Nat) ∧
      (dg
            (IntKind.i64.wrap
                ((↑z15.snd.snd.snd.fst : Int) + (↑((2 : Nat) ^ z15.snd.snd.snd.snd / (2 : Nat)) : Int))).toNat).length <
        (100000 : Nat)) ∧
        (True ∧ True ∧ True) ∧
        (Cn
    (dg
      (nv m *
        nv
          (dg
            (IntKind.i64.wrap
                ((↑z15.snd.snd.snd.fst : Int) + (↑((2 : Nat) ^ z15.snd.snd.snd.snd / (2 : Nat)) : Int))).toNat))) ∧
  Cn (dg z15.snd.snd.fst) ∧
    (dg
          (nv m *
            nv
              (dg
                (IntKind.i64.wrap
                    ((↑z15.snd.snd.snd.fst : Int) +
                      (↑((2 : Nat) ^ z15.snd.snd.snd.snd / (2 : Nat)) : Int))).toNat))).length <
      (1000000 : Nat)) ∧
        bcase (decide
  (ordN
      (nv
        (dg
          (nv m *
            nv
              (dg
                (IntKind.i64.wrap
                    ((↑z15.snd.snd.snd.fst : Int) + (↑((2 : Nat) ^ z15.snd.snd.snd.snd / (2 : Nat)) : Int))).toNat))))
      (nv (dg z15.snd.snd.fst)) ≤
    (0 : Int)))
         (((2 : Int) ≠ (0 : Int)) ∧
         (∃ y17 : Int × List Int × Nat × Nat × Nat,
         (M200_1 l m y17 < M200_1 l m z15) ∧
         (P200_1 l m z1 y17) ∧
         ((True) ∧
          (True) ∧
          (True) ∧
          (True) ∧
          ((z15.fst) = y17.fst) ∧
          ((IntKind.i64.wrap ((↑z15.snd.snd.snd.fst : Int) + (↑((2 : Nat) ^ z15.snd.snd.snd.snd / (2 : Nat)) : Int))) = (↑y17.snd.snd.snd.fst : Int)) ∧
          ((IntKind.i64.wrap ((↑((2 : Nat) ^ z15.snd.snd.snd.snd / (2 : Nat)) : Int).tdiv (2 : Int))) = (↑((2 : Nat) ^ y17.snd.snd.snd.snd / (2 : Nat)) : Int)) ∧
          True) ∧
         ((l) = l) ∧
         ((m) = m) ∧
         ((z15.snd.fst) = y17.snd.fst) ∧
         (((dg z15.snd.snd.fst)) = dg y17.snd.snd.fst) ∧
         True))
         (((2 : Int) ≠ (0 : Int)) ∧
         (∃ y18 : Int × List Int × Nat × Nat × Nat,
         (M200_1 l m y18 < M200_1 l m z15) ∧
         (P200_1 l m z1 y18) ∧
         ((True) ∧
          (True) ∧
          (True) ∧
          (True) ∧
          ((z15.fst) = y18.fst) ∧
          (((↑z15.snd.snd.snd.fst : Int)) = (↑y18.snd.snd.snd.fst : Int)) ∧
          ((IntKind.i64.wrap ((↑((2 : Nat) ^ z15.snd.snd.snd.snd / (2 : Nat)) : Int).tdiv (2 : Int))) = (↑((2 : Nat) ^ y18.snd.snd.snd.snd / (2 : Nat)) : Int)) ∧
          True) ∧
         ((l) = l) ∧
         ((m) = m) ∧
         ((z15.snd.fst) = y18.snd.fst) ∧
         (((dg z15.snd.snd.fst)) = dg y18.snd.snd.fst) ∧
         True)))
        (((0 : Int) ≤ z15.fst ∧ z15.fst < (↑z15.snd.fst.length : Int)) ∧
        (z15.fst.toNat < z15.snd.fst.length) ∧
        (True ∧ True) ∧
        ((0 : Int) ≤ (↑z15.snd.snd.snd.fst : Int) ∧ (↑z15.snd.snd.snd.fst : Int) < (9223372036854775808 : Int)) ∧
        (True ∧ True ∧ True) ∧
        (Cn m ∧
  Cn (dg (↑z15.snd.snd.snd.fst : Int).toNat) ∧
    m.length < (100000 : Nat) ∧ (dg (↑z15.snd.snd.snd.fst : Int).toNat).length < (100000 : Nat)) ∧
        (True ∧ True ∧ True) ∧
        (Cn (dg z15.snd.snd.fst) ∧
  Cn (dg (nv m * nv (dg (↑z15.snd.snd.snd.fst : Int).toNat))) ∧
    (dg z15.snd.snd.fst).length < (100000 : Nat) ∧
      nv (dg (nv m * nv (dg (↑z15.snd.snd.snd.fst : Int).toNat))) ≤ nv (dg z15.snd.snd.fst)) ∧
        (∃ y19 : Int × List Int × Nat × Nat × Nat,
        (M200_0 l m y19 < M200_0 l m z1) ∧
        (P200_0 l m default y19) ∧
        ((True) ∧
         (True) ∧
         (True) ∧
         (True) ∧
         ((IntKind.i64.wrap (z15.fst - (1 : Int))) = y19.fst) ∧
         True) ∧
        ((l) = l) ∧
        ((m) = m) ∧
        (((z15.snd.fst.set z15.fst.toNat (↑z15.snd.snd.snd.fst : Int))) = y19.snd.fst) ∧
        (((dg (nv (dg z15.snd.snd.fst) - nv (dg (nv m * nv (dg (↑z15.snd.snd.snd.fst : Int).toNat)))))) = dg y19.snd.snd.fst) ∧
        True)))
       (((0 : Int) ≤ z15.fst ∧ z15.fst < (↑z15.snd.fst.length : Int)) ∧
       (z15.fst.toNat < z15.snd.fst.length) ∧
       (True ∧ True) ∧
       ((0 : Int) ≤ (↑z15.snd.snd.snd.fst : Int) ∧ (↑z15.snd.snd.snd.fst : Int) < (9223372036854775808 : Int)) ∧
       (True ∧ True ∧ True) ∧
       (Cn m ∧
  Cn (dg (↑z15.snd.snd.snd.fst : Int).toNat) ∧
    m.length < (100000 : Nat) ∧ (dg (↑z15.snd.snd.snd.fst : Int).toNat).length < (100000 : Nat)) ∧
       (True ∧ True ∧ True) ∧
       (Cn (dg z15.snd.snd.fst) ∧
  Cn (dg (nv m * nv (dg (↑z15.snd.snd.snd.fst : Int).toNat))) ∧
    (dg z15.snd.snd.fst).length < (100000 : Nat) ∧
      nv (dg (nv m * nv (dg (↑z15.snd.snd.snd.fst : Int).toNat))) ≤ nv (dg z15.snd.snd.fst)) ∧
       (∃ y20 : Int × List Int × Nat × Nat × Nat,
       (M200_0 l m y20 < M200_0 l m z1) ∧
       (P200_0 l m default y20) ∧
       ((True) ∧
        (True) ∧
        (True) ∧
        (True) ∧
        ((IntKind.i64.wrap (z15.fst - (1 : Int))) = y20.fst) ∧
        True) ∧
       ((l) = l) ∧
       ((m) = m) ∧
       (((z15.snd.fst.set z15.fst.toNat (↑z15.snd.snd.snd.fst : Int))) = y20.snd.fst) ∧
       (((dg (nv (dg z15.snd.snd.fst) - nv (dg (nv m * nv (dg (↑z15.snd.snd.snd.fst : Int).toNat)))))) = dg y20.snd.snd.fst) ∧
       True))))))))
     ((True) ∧
     ((∃ y21 : List Int,
      (TrimP z1.snd.fst y21) ∧
      ((True) ∧
       True) ∧
      ((l) = l) ∧
      ((m) = m) ∧
      (((dg z1.snd.snd.fst)) = dg z1.snd.snd.fst) ∧
      ((z1.snd.fst) = y21) ∧
      True)) ∧
     (∀ (z22 : List Int),
     ((TrimP z1.snd.fst z22) →
     bcase (decide ((↑(List.length z22) : Int) > (0 : Int)))
      (((0 : Int) ≤ IntKind.i64.wrap ((↑(List.length z22) : Int) - (1 : Int)) ∧
  IntKind.i64.wrap ((↑(List.length z22) : Int) - (1 : Int)) < (↑(List.length z22) : Int)) ∧
      ((IntKind.i64.wrap ((↑(List.length z22) : Int) - (1 : Int))).toNat < List.length z22) ∧
      bcase (bif true then
  List.getD z22 (IntKind.i64.wrap ((↑(List.length z22) : Int) - (1 : Int))).toNat (0 : Int) ==
    (0 : Int)
  else false)
       (((0 : Int) ≤ IntKind.i64.wrap ((↑(List.length z22) : Int) - (1 : Int)) ∧
  IntKind.i64.wrap ((↑(List.length z22) : Int) - (1 : Int)) ≤ (↑(List.length z22) : Int)) ∧
       (∃ y24 : List Int,
       (y24.length < List.length z22) ∧
       (TrimP z1.snd.fst y24) ∧
       ((True) ∧
        True) ∧
       ((l) = l) ∧
       ((m) = m) ∧
       (((dg z1.snd.snd.fst)) = dg z1.snd.snd.fst) ∧
       (((List.take (IntKind.i64.wrap ((↑(List.length z22) : Int) - (1 : Int))).toNat z22)) = y24) ∧
       True))
       (K' (Out.ret (V.tup [V.osl (nat_lit 0), V.osl (nat_lit 1)]))
  [Ob.own (nat_lit 3) [SK.int IntKind.i64] z22, Ob.own (nat_lit 3) [SK.int IntKind.i64] (dg z1.snd.snd.fst)]))
      (K' (Out.ret (V.tup [V.osl (nat_lit 0), V.osl (nat_lit 1)]))
  [Ob.own (nat_lit 3) [SK.int IntKind.i64] z22, Ob.own (nat_lit 3) [SK.int IntKind.i64] (dg z1.snd.snd.fst)]))))))) := by kernel_rfl
theorem r200 : FreshOk Tryz.prog 200 (ofD g200) := by
  refine fresh_of_runQ Z9_ok (noD_ok _) An200 Tryz.func200 c200q fun args obs K' hk => ?_
  unfold ofD g200 at hk
  split at hk
  · rename_i d_ out news hg
    split at hg
    · rename_i l m
      cases hg
      obtain ⟨hc, hk⟩ := hk
      obtain ⟨l, rfl⟩ : ∃ v' : List Int, v' = l := ⟨l, rfl⟩
      obtain ⟨m, rfl⟩ : ∃ v' : List Int, v' = m := ⟨m, rfl⟩
      refine Eq.mpr (k200 l m K') ?_
      obtain ⟨hl, hm, hlen, hmen, hB⟩ := hc
      simp only [Int.toNat_natCast]
      refine ⟨trivial, trivial, ⟨by trivial, by omega, by omega⟩, trivial, ⟨((l.length : Int) - 1, List.replicate l.length 0, 0, 0, 0), ⟨⟨by dsimp only; omega, by dsimp only; omega⟩, dig_zeros _, List.length_replicate, hB, ?_, fun j _ => pt_zeros _ _⟩, ⟨trivial, trivial, trivial, trivial, IntWalk.i64_in _ (by omega), trivial⟩, by trivial, by trivial, by trivial, dg_zero.symm, trivial⟩, ?_⟩
      · dsimp only
        rw [show ((l.length : Int) - 1 + 1).toNat = l.length by omega, List.drop_eq_nil_of_le (Nat.le_refl _), List.drop_eq_nil_of_le (by simp)]
        simp [nv]
      rintro ⟨x, q, R, p0, j0⟩ ⟨⟨g1, g2⟩, hq, hqn, hR, hv, hz⟩
      dsimp only at g1 g2 hq hqn hR hv hz ⊢
      refine bcase_i (fun h => ?_) (fun h => ?_)
      · have h := of_decide_eq_true h
        obtain ⟨i, rfl⟩ := Int.eq_ofNat_of_zero_le h
        rw [show (((i : Nat) : Int) + 1).toNat = i + 1 by omega] at hv
        simp only [Int.toNat_natCast]
        have hi : i < l.length := by omega
        have hRl : (dg R).length ≤ 1000 := Nat.le_trans (dg_len m.length R (Nat.lt_trans hR (nv_lt m hm.dig))) (by omega)
        refine ⟨⟨by omega, by omega⟩, by omega, trivial, ⟨trivial, by simp only [List.length_cons, List.length_nil]; omega⟩, trivial, ?_, ?_⟩
        · refine ⟨[l.getD i 0] ++ dg R, ⟨?_, rfl, Nat.le_refl _⟩, ⟨trivial, trivial⟩, by trivial, by trivial, by trivial, by trivial, by trivial, trivial⟩
          intro d hd
          rcases List.mem_append.1 hd with hd | hd
          · rw [List.mem_singleton.1 hd]; exact dig_get hl.dig i hi
          · exact dg_dig R d hd
        rintro w ⟨hw, hvw, hlw⟩
        have hR2 : nv w = pt l i + 32768 * R := by
          rw [hvw]
          show (l.getD i 0).toNat + 32768 * nv (dg R) = _
          rw [nv_dg]
          rfl
        simp only [List.length_append, List.length_cons, List.length_nil] at hlw
        refine bcase_i (fun h => ?_) (fun h => ?_)
        · have h := of_decide_eq_true h
          have e : IntKind.i64.wrap ((w.length : Int) - 1) = ((w.length - 1 : Nat) : Int) := by rw [IntWalk.i64_in _ (by omega)]; omega
          simp only [e, Int.toNat_natCast]
          refine ⟨⟨by omega, by omega⟩, by omega, ?_⟩
          refine bcase_i (fun h2 => ?_) (fun h2 => ?_)
          · have h2 : (w.getD (w.length - 1) 0 == 0) = true := h2
            have h2 := eq_of_beq h2
            refine ⟨⟨by omega, by omega⟩, w.take (w.length - 1), by rw [List.length_take]; omega, ⟨dig_take hw _, (trim_step (by intro e; subst e; simp at h) h2).trans hvw, by simp only [List.length_take, List.length_append, List.length_cons, List.length_nil]; omega⟩, ⟨trivial, trivial⟩, by trivial, by trivial, by trivial, by trivial, by trivial, trivial⟩
          · have h2 : (w.getD (w.length - 1) 0 == 0) = false := h2
            have e : dg (nv w) = w := trim_end hw (.inr (by simpa using h2))
            refine And.intro ⟨((i : Int), q, pt l i + 32768 * R, 0, 15), ⟨rfl, rfl, by dsimp only; omega, by simp only [Int.toNat_natCast], Nat.zero_le _, ?_, Nat.le_refl _⟩, ⟨trivial, trivial, trivial, trivial, by trivial, by trivial, (by decide : (16384 : Int) = ((2 ^ 15 / 2 : Nat) : Int)), trivial⟩, by trivial, by trivial, by trivial, by rw [← hR2, e], trivial⟩ ?_
            · dsimp only
              rw [Nat.div_lt_iff_lt_mul hB]
              have := pt_lt hl.dig i
              omega
            rintro ⟨x1, q1, R2, p, j⟩ ⟨k1, k2, k3, k4, k5, k6, k7⟩
            dsimp only at k1 k2 k3 k4 k5 k6 k7 ⊢
            subst k1
            subst k2
            simp only [Int.toNat_natCast] at k4 ⊢
            subst k4
            simp only [nv_dg]
            have h15 : 2 ^ j ≤ 32768 := Nat.pow_le_pow_right (n := 2) (by decide) k7
            have hQ : (pt l i + 32768 * R) / nv m < 32768 := by
              rw [Nat.div_lt_iff_lt_mul hB]
              have := pt_lt hl.dig i
              omega
            have hRl2 : (dg (pt l i + 32768 * R)).length ≤ 1001 := by
              refine Nat.le_trans (dg_len (m.length + 1) _ ?_) (by omega)
              have := nv_lt m hm.dig
              have := pt_lt hl.dig i
              rw [Nat.pow_succ]
              omega
            refine bcase_i (fun h => ?_) (fun h => ?_)
            · have h := of_decide_eq_true h
              obtain ⟨j', rfl⟩ : ∃ j', j = j' + 1 := by
                cases j with
                | zero => simp at h
                | succ j' => exact ⟨j', rfl⟩
              have es : 2 ^ (j' + 1) / 2 = 2 ^ j' := by rw [Nat.pow_succ]; omega
              rw [Nat.pow_succ] at h15 k6
              simp only [es] at h ⊢
              refine ⟨⟨trivial, trivial, trivial⟩, ⟨cn_dg _, hm, by omega⟩, ?_⟩
              refine bcase_i (fun h2 => ?_) (fun h2 => ?_)
              · have h2 : decide (ordN (pt l i + 32768 * R) (nv m) ≥ 0) = true := h2
                have eW : IntKind.i64.wrap ((p : Int) + ((2 ^ j' : Nat) : Int)) = ((p + 2 ^ j' : Nat) : Int) := by rw [IntWalk.i64_in _ (by omega)]; omega
                have eD : IntKind.i64.wrap (((2 ^ j' : Nat) : Int).tdiv 2) = ((2 ^ j' / 2 : Nat) : Int) := by rw [Int.tdiv_eq_ediv_of_nonneg (by omega), IntWalk.i64_in _ (by omega)]; omega
                simp only [eW, eD, Int.toNat_natCast]
                have hl1 : (dg (p + 2 ^ j')).length ≤ 2 := dg_len 2 _ (by omega)
                have hl2 : (dg (nv m * (p + 2 ^ j'))).length ≤ 1002 := by
                  refine Nat.le_trans (dg_len (m.length + 2) _ ?_) (by omega)
                  have := nv_lt m hm.dig
                  rw [Nat.pow_add]
                  exact Nat.mul_lt_mul_of_lt_of_le this (by omega) (by decide)
                refine ⟨⟨trivial, trivial⟩, ⟨by omega, by omega⟩, ⟨trivial, trivial, trivial⟩, ⟨hm, cn_dg _, by omega, by omega⟩, ⟨trivial, trivial, trivial⟩, ⟨cn_dg _, cn_dg _, by omega⟩, ?_⟩
                refine bcase_i (fun h3 => ?_) (fun h3 => ?_)
                · have h3 := (ordN_le _ _).1 (of_decide_eq_true h3)
                  rw [Nat.mul_comm, ← Nat.le_div_iff_mul_le hB] at h3
                  exact ⟨by decide, ((i : Int), q1, pt l i + 32768 * R, p + 2 ^ j', j'), by simp only [M200_1]; omega, ⟨rfl, rfl, k3, by simp only [Int.toNat_natCast], h3, by dsimp only; omega, by dsimp only; omega⟩, ⟨trivial, trivial, trivial, trivial, by trivial, by trivial, by trivial, trivial⟩, by trivial, by trivial, by trivial, by trivial, trivial⟩
                · have h3 : ¬ nv m * (p + 2 ^ j') ≤ pt l i + 32768 * R := fun hh => of_decide_eq_false h3 ((ordN_le _ _).2 hh)
                  rw [Nat.mul_comm, ← Nat.le_div_iff_mul_le hB] at h3
                  exact ⟨by decide, ((i : Int), q1, pt l i + 32768 * R, p, j'), by simp only [M200_1]; omega, ⟨rfl, rfl, k3, by simp only [Int.toNat_natCast], k5, by dsimp only; omega, by dsimp only; omega⟩, ⟨trivial, trivial, trivial, trivial, by trivial, by trivial, by trivial, trivial⟩, by trivial, by trivial, by trivial, by trivial, trivial⟩
              · have h2 : decide (ordN (pt l i + 32768 * R) (nv m) ≥ 0) = false := h2
                have h2 : ¬ nv m ≤ pt l i + 32768 * R := fun hh => of_decide_eq_false h2 ((ordN_ge _ _).2 hh)
                have hp : p = (pt l i + 32768 * R) / nv m := by
                  rw [over_low (by omega)] at k5 ⊢
                  omega
                have hpR : p * nv m ≤ pt l i + 32768 * R := by rw [hp]; exact Nat.div_mul_le_self _ _
                have hpb : p < 32768 := by omega
                have hmr : pt l i + 32768 * R - p * nv m < nv m := by
                  have h := Nat.mod_lt (pt l i + 32768 * R) hB
                  have h2 := Nat.div_add_mod (pt l i + 32768 * R) (nv m)
                  rw [← hp, Nat.mul_comm] at h2
                  omega
                have hd1 : (dg p).length ≤ 1 := dg_len 1 p (by omega)
                refine ⟨⟨by omega, by omega⟩, by omega, ⟨trivial, trivial⟩, ⟨by omega, by omega⟩, ⟨trivial, trivial, trivial⟩, ⟨hm, cn_dg _, by omega, by omega⟩, ⟨trivial, trivial, trivial⟩, ⟨cn_dg _, cn_dg _, by omega, by rw [Nat.mul_comm]; exact hpR⟩, ((i : Int) - 1, q1.set i (p : Int), pt l i + 32768 * R - p * nv m, 0, 0), by simp only [M200_0]; omega, ⟨⟨by dsimp only; omega, by dsimp only; omega⟩, dig_set hq _ (by omega), by simpa using hqn, hmr, ?_, fun j hj => ?_⟩, ⟨trivial, trivial, trivial, trivial, IntWalk.i64_in _ (by omega), trivial⟩, by trivial, by trivial, by trivial, by rw [Nat.mul_comm (nv m) p], trivial⟩
                · dsimp only
                  rw [show ((i : Int) - 1 + 1).toNat = i by omega, nv_drop_set (by omega) (by omega), Int.toNat_natCast]
                  exact over_row hv (nv_drop_pt l i) rfl hpR
                · dsimp only at hj ⊢
                  rw [pt_set_ne (by omega)]
                  exact hz j (by omega)
            · have h := of_decide_eq_false h
              have hj : j = 0 := by
                cases j with
                | zero => rfl
                | succ j' =>
                  have := Nat.pow_pos (n := j') (show 0 < 2 by decide)
                  rw [Nat.pow_succ] at h
                  omega
              subst hj
              have hp : p = (pt l i + 32768 * R) / nv m := by omega
              have hpR : p * nv m ≤ pt l i + 32768 * R := by rw [hp]; exact Nat.div_mul_le_self _ _
              have hpb : p < 32768 := by omega
              have hmr : pt l i + 32768 * R - p * nv m < nv m := by
                have h := Nat.mod_lt (pt l i + 32768 * R) hB
                have h2 := Nat.div_add_mod (pt l i + 32768 * R) (nv m)
                rw [← hp, Nat.mul_comm] at h2
                omega
              have hd1 : (dg p).length ≤ 1 := dg_len 1 p (by omega)
              refine ⟨⟨by omega, by omega⟩, by omega, ⟨trivial, trivial⟩, ⟨by omega, by omega⟩, ⟨trivial, trivial, trivial⟩, ⟨hm, cn_dg _, by omega, by omega⟩, ⟨trivial, trivial, trivial⟩, ⟨cn_dg _, cn_dg _, by omega, by rw [Nat.mul_comm]; exact hpR⟩, ((i : Int) - 1, q1.set i (p : Int), pt l i + 32768 * R - p * nv m, 0, 0), by simp only [M200_0]; omega, ⟨⟨by dsimp only; omega, by dsimp only; omega⟩, dig_set hq _ (by omega), by simpa using hqn, hmr, ?_, fun j hj => ?_⟩, ⟨trivial, trivial, trivial, trivial, IntWalk.i64_in _ (by omega), trivial⟩, by trivial, by trivial, by trivial, by rw [Nat.mul_comm (nv m) p], trivial⟩
              · dsimp only
                rw [show ((i : Int) - 1 + 1).toNat = i by omega, nv_drop_set (by omega) (by omega), Int.toNat_natCast]
                exact over_row hv (nv_drop_pt l i) rfl hpR
              · dsimp only at hj ⊢
                rw [pt_set_ne (by omega)]
                exact hz j (by omega)
        · have h := of_decide_eq_false h
          have e : dg (nv w) = w := trim_end hw (.inl (List.eq_nil_of_length_eq_zero (by omega)))
          refine And.intro ⟨((i : Int), q, pt l i + 32768 * R, 0, 15), ⟨rfl, rfl, by dsimp only; omega, by simp only [Int.toNat_natCast], Nat.zero_le _, ?_, Nat.le_refl _⟩, ⟨trivial, trivial, trivial, trivial, by trivial, by trivial, (by decide : (16384 : Int) = ((2 ^ 15 / 2 : Nat) : Int)), trivial⟩, by trivial, by trivial, by trivial, by rw [← hR2, e], trivial⟩ ?_
          · dsimp only
            rw [Nat.div_lt_iff_lt_mul hB]
            have := pt_lt hl.dig i
            omega
          rintro ⟨x1, q1, R2, p, j⟩ ⟨k1, k2, k3, k4, k5, k6, k7⟩
          dsimp only at k1 k2 k3 k4 k5 k6 k7 ⊢
          subst k1
          subst k2
          simp only [Int.toNat_natCast] at k4 ⊢
          subst k4
          simp only [nv_dg]
          have h15 : 2 ^ j ≤ 32768 := Nat.pow_le_pow_right (n := 2) (by decide) k7
          have hQ : (pt l i + 32768 * R) / nv m < 32768 := by
            rw [Nat.div_lt_iff_lt_mul hB]
            have := pt_lt hl.dig i
            omega
          have hRl2 : (dg (pt l i + 32768 * R)).length ≤ 1001 := by
            refine Nat.le_trans (dg_len (m.length + 1) _ ?_) (by omega)
            have := nv_lt m hm.dig
            have := pt_lt hl.dig i
            rw [Nat.pow_succ]
            omega
          refine bcase_i (fun h => ?_) (fun h => ?_)
          · have h := of_decide_eq_true h
            obtain ⟨j', rfl⟩ : ∃ j', j = j' + 1 := by
              cases j with
              | zero => simp at h
              | succ j' => exact ⟨j', rfl⟩
            have es : 2 ^ (j' + 1) / 2 = 2 ^ j' := by rw [Nat.pow_succ]; omega
            rw [Nat.pow_succ] at h15 k6
            simp only [es] at h ⊢
            refine ⟨⟨trivial, trivial, trivial⟩, ⟨cn_dg _, hm, by omega⟩, ?_⟩
            refine bcase_i (fun h2 => ?_) (fun h2 => ?_)
            · have h2 : decide (ordN (pt l i + 32768 * R) (nv m) ≥ 0) = true := h2
              have eW : IntKind.i64.wrap ((p : Int) + ((2 ^ j' : Nat) : Int)) = ((p + 2 ^ j' : Nat) : Int) := by rw [IntWalk.i64_in _ (by omega)]; omega
              have eD : IntKind.i64.wrap (((2 ^ j' : Nat) : Int).tdiv 2) = ((2 ^ j' / 2 : Nat) : Int) := by rw [Int.tdiv_eq_ediv_of_nonneg (by omega), IntWalk.i64_in _ (by omega)]; omega
              simp only [eW, eD, Int.toNat_natCast]
              have hl1 : (dg (p + 2 ^ j')).length ≤ 2 := dg_len 2 _ (by omega)
              have hl2 : (dg (nv m * (p + 2 ^ j'))).length ≤ 1002 := by
                refine Nat.le_trans (dg_len (m.length + 2) _ ?_) (by omega)
                have := nv_lt m hm.dig
                rw [Nat.pow_add]
                exact Nat.mul_lt_mul_of_lt_of_le this (by omega) (by decide)
              refine ⟨⟨trivial, trivial⟩, ⟨by omega, by omega⟩, ⟨trivial, trivial, trivial⟩, ⟨hm, cn_dg _, by omega, by omega⟩, ⟨trivial, trivial, trivial⟩, ⟨cn_dg _, cn_dg _, by omega⟩, ?_⟩
              refine bcase_i (fun h3 => ?_) (fun h3 => ?_)
              · have h3 := (ordN_le _ _).1 (of_decide_eq_true h3)
                rw [Nat.mul_comm, ← Nat.le_div_iff_mul_le hB] at h3
                exact ⟨by decide, ((i : Int), q1, pt l i + 32768 * R, p + 2 ^ j', j'), by simp only [M200_1]; omega, ⟨rfl, rfl, k3, by simp only [Int.toNat_natCast], h3, by dsimp only; omega, by dsimp only; omega⟩, ⟨trivial, trivial, trivial, trivial, by trivial, by trivial, by trivial, trivial⟩, by trivial, by trivial, by trivial, by trivial, trivial⟩
              · have h3 : ¬ nv m * (p + 2 ^ j') ≤ pt l i + 32768 * R := fun hh => of_decide_eq_false h3 ((ordN_le _ _).2 hh)
                rw [Nat.mul_comm, ← Nat.le_div_iff_mul_le hB] at h3
                exact ⟨by decide, ((i : Int), q1, pt l i + 32768 * R, p, j'), by simp only [M200_1]; omega, ⟨rfl, rfl, k3, by simp only [Int.toNat_natCast], k5, by dsimp only; omega, by dsimp only; omega⟩, ⟨trivial, trivial, trivial, trivial, by trivial, by trivial, by trivial, trivial⟩, by trivial, by trivial, by trivial, by trivial, trivial⟩
            · have h2 : decide (ordN (pt l i + 32768 * R) (nv m) ≥ 0) = false := h2
              have h2 : ¬ nv m ≤ pt l i + 32768 * R := fun hh => of_decide_eq_false h2 ((ordN_ge _ _).2 hh)
              have hp : p = (pt l i + 32768 * R) / nv m := by
                rw [over_low (by omega)] at k5 ⊢
                omega
              have hpR : p * nv m ≤ pt l i + 32768 * R := by rw [hp]; exact Nat.div_mul_le_self _ _
              have hpb : p < 32768 := by omega
              have hmr : pt l i + 32768 * R - p * nv m < nv m := by
                have h := Nat.mod_lt (pt l i + 32768 * R) hB
                have h2 := Nat.div_add_mod (pt l i + 32768 * R) (nv m)
                rw [← hp, Nat.mul_comm] at h2
                omega
              have hd1 : (dg p).length ≤ 1 := dg_len 1 p (by omega)
              refine ⟨⟨by omega, by omega⟩, by omega, ⟨trivial, trivial⟩, ⟨by omega, by omega⟩, ⟨trivial, trivial, trivial⟩, ⟨hm, cn_dg _, by omega, by omega⟩, ⟨trivial, trivial, trivial⟩, ⟨cn_dg _, cn_dg _, by omega, by rw [Nat.mul_comm]; exact hpR⟩, ((i : Int) - 1, q1.set i (p : Int), pt l i + 32768 * R - p * nv m, 0, 0), by simp only [M200_0]; omega, ⟨⟨by dsimp only; omega, by dsimp only; omega⟩, dig_set hq _ (by omega), by simpa using hqn, hmr, ?_, fun j hj => ?_⟩, ⟨trivial, trivial, trivial, trivial, IntWalk.i64_in _ (by omega), trivial⟩, by trivial, by trivial, by trivial, by rw [Nat.mul_comm (nv m) p], trivial⟩
              · dsimp only
                rw [show ((i : Int) - 1 + 1).toNat = i by omega, nv_drop_set (by omega) (by omega), Int.toNat_natCast]
                exact over_row hv (nv_drop_pt l i) rfl hpR
              · dsimp only at hj ⊢
                rw [pt_set_ne (by omega)]
                exact hz j (by omega)
          · have h := of_decide_eq_false h
            have hj : j = 0 := by
              cases j with
              | zero => rfl
              | succ j' =>
                have := Nat.pow_pos (n := j') (show 0 < 2 by decide)
                rw [Nat.pow_succ] at h
                omega
            subst hj
            have hp : p = (pt l i + 32768 * R) / nv m := by omega
            have hpR : p * nv m ≤ pt l i + 32768 * R := by rw [hp]; exact Nat.div_mul_le_self _ _
            have hpb : p < 32768 := by omega
            have hmr : pt l i + 32768 * R - p * nv m < nv m := by
              have h := Nat.mod_lt (pt l i + 32768 * R) hB
              have h2 := Nat.div_add_mod (pt l i + 32768 * R) (nv m)
              rw [← hp, Nat.mul_comm] at h2
              omega
            have hd1 : (dg p).length ≤ 1 := dg_len 1 p (by omega)
            refine ⟨⟨by omega, by omega⟩, by omega, ⟨trivial, trivial⟩, ⟨by omega, by omega⟩, ⟨trivial, trivial, trivial⟩, ⟨hm, cn_dg _, by omega, by omega⟩, ⟨trivial, trivial, trivial⟩, ⟨cn_dg _, cn_dg _, by omega, by rw [Nat.mul_comm]; exact hpR⟩, ((i : Int) - 1, q1.set i (p : Int), pt l i + 32768 * R - p * nv m, 0, 0), by simp only [M200_0]; omega, ⟨⟨by dsimp only; omega, by dsimp only; omega⟩, dig_set hq _ (by omega), by simpa using hqn, hmr, ?_, fun j hj => ?_⟩, ⟨trivial, trivial, trivial, trivial, IntWalk.i64_in _ (by omega), trivial⟩, by trivial, by trivial, by trivial, by rw [Nat.mul_comm (nv m) p], trivial⟩
            · dsimp only
              rw [show ((i : Int) - 1 + 1).toNat = i by omega, nv_drop_set (by omega) (by omega), Int.toNat_natCast]
              exact over_row hv (nv_drop_pt l i) rfl hpR
            · dsimp only at hj ⊢
              rw [pt_set_ne (by omega)]
              exact hz j (by omega)
      · have h := of_decide_eq_false h
        have hx : x = -1 := by omega
        subst hx
        rw [show ((-1 : Int) + 1).toNat = 0 by decide, List.drop_zero, List.drop_zero] at hv
        obtain ⟨hval, hrem⟩ := over_end hv hR
        refine ⟨trivial, ⟨q, ⟨hq, rfl, Nat.le_refl _⟩, ⟨trivial, trivial⟩, by trivial, by trivial, by trivial, by trivial, trivial⟩, ?_⟩
        rintro x ⟨hx, hvx, hlx⟩
        have fin : dg (nv x) = x → K' (.ret (.tup [.osl 0, .osl 1])) [.own 3 [.int .i64] x, .own 3 [.int .i64] (dg R)] := fun e => lfk hk rfl (by rw [← hval, ← hrem, ← hvx, e])
        refine bcase_i (fun h => ?_) (fun h => ?_)
        · have h := of_decide_eq_true h
          have e : IntKind.i64.wrap ((x.length : Int) - 1) = ((x.length - 1 : Nat) : Int) := by rw [IntWalk.i64_in _ (by omega)]; omega
          simp only [e, Int.toNat_natCast]
          refine ⟨⟨by omega, by omega⟩, by omega, ?_⟩
          refine bcase_i (fun h2 => ?_) (fun h2 => ?_)
          · have h2 : (x.getD (x.length - 1) 0 == 0) = true := h2
            have h2 := eq_of_beq h2
            refine ⟨⟨by omega, by omega⟩, x.take (x.length - 1), by rw [List.length_take]; omega, ⟨dig_take hx _, (trim_step (by intro e; subst e; simp at h) h2).trans hvx, by rw [List.length_take]; omega⟩, ⟨trivial, trivial⟩, by trivial, by trivial, by trivial, by trivial, trivial⟩
          · have h2 : (x.getD (x.length - 1) 0 == 0) = false := h2
            exact fin (trim_end hx (.inr (by simpa using h2)))
        · have h := of_decide_eq_false h
          exact fin (trim_end hx (.inl (List.eq_nil_of_length_eq_zero (by omega))))
    · cases hg
  · exact hk.elim

end Go.Proofs.YtbolfnkgbjkbjaaGreat.AM
end
section
set_option linter.unusedVariables false
set_option linter.unusedSimpArgs false
namespace Go.Proofs.YtbolfnkgbjkbjaaGreat.AM
open Go Go.RowKit
set_option maxRecDepth 100000

/-- Quotients with a sign: cut; down. -/
def rndC (s : Bool) (A B : Nat) : Int := bif s then -((A / B : Nat) : Int) else ((A / B : Nat) : Int)
def rndD (s : Bool) (A B : Nat) : Int := bif s then -(((A / B : Nat) : Int) + (if A % B = 0 then 0 else 1)) else ((A / B : Nat) : Int)

/-- size -/
def g131 : GSpec := fun args obs => match args, obs with
  | [.int .i64 a], [] => some (fixOk a, .ret (i64 a.natAbs), [])
  | _, _ => none
theorem k131 (a : Int) (K' : Out → List Ob → Prop) : runFn (noTab) (noD) noIv a131 [.int .i64 a] (lookO []) 0 (closeK K') =
    (bcase (decide (a < (0 : Int)))
     (K' (Out.ret (V.int IntKind.i64 (IntKind.i64.wrap ((0 : Int) - a)))) [])
     (K' (Out.ret (V.int IntKind.i64 a)) [])) := by kernel_rfl
theorem r131 : FreshOk Tryz.prog 131 (ofD g131) := by
  refine fresh_of_run (noTab_ok _) (noD_ok _) (fun _ _ => noIv) Tryz.func131 c131 fun args obs K' hk => ?_
  unfold ofD g131 at hk
  split at hk
  · rename_i d_ out news hg
    split at hg
    · rename_i a
      cases hg
      obtain ⟨hc, hk⟩ := hk
      refine Eq.mpr (k131 a K') ?_
      · refine bcase_i (fun h => ?_) (fun h => ?_)
        · have h := of_decide_eq_true h
          exact lfk hk (by rw [IntWalk.i64_in _ (by omega), show (0 : Int) - a = (a.natAbs : Int) by omega]) rfl
        · have h := of_decide_eq_false h
          exact lfk hk (by rw [show (a.natAbs : Int) = a by omega]) rfl
    · cases hg
  · exact hk.elim
/-- how1 -/
def g151 : GSpec := fun args obs => match args, obs with
  | [.int .i64 h], [] => some (True, .ret (.bool (decide (0 ≤ h ∧ h ≤ 3))), [])
  | _, _ => none
theorem k151 (h : Int) (K' : Out → List Ob → Prop) : runFn (Z1a) (noD) noIv a151 [.int .i64 h] (lookO []) 0 (closeK K') =
    ((True ∧ True ∧ True ∧ True) ∧
    (True) ∧
    K' (Out.ret (V.bool (decide ((0 : Int) ≤ h ∧ h ≤ (3 : Int))))) []) := by kernel_rfl
theorem r151 : FreshOk Tryz.prog 151 (ofD g151) := by
  refine fresh_of_run Z1a_ok (noD_ok _) (fun _ _ => noIv) Tryz.func151 c151 fun args obs K' hk => ?_
  unfold ofD g151 at hk
  split at hk
  · rename_i d_ out news hg
    split at hg
    · rename_i h
      cases hg
      obtain ⟨hc, hk⟩ := hk
      refine Eq.mpr (k151 h K') ⟨⟨trivial, ⟨trivial, ⟨trivial, trivial⟩⟩⟩, trivial, hk⟩
    · cases hg
  · exact hk.elim
/-- fit -/
def g154 : GSpec := fun args obs => match args, obs with
  | [.int .i64 n, .bool s], [] => some (True, .ret (.tup [i64 (bif s && decide (fixOk n) then n else 0), i64 (bif s && decide (fixOk n) then 0 else 4)]), [])
  | _, _ => none
theorem k154 (n : Int) (s : Bool) (K' : Out → List Ob → Prop) : runFn (noTab) (noD) noIv a154 [.int .i64 n, .bool s] (lookO []) 0 (closeK K') =
    (bcase (!s)
     (K' (Out.ret (V.tup [V.int IntKind.i64 (0 : Int), V.int IntKind.i64 (4 : Int)])) [])
     (bcase (bif false then true else decide (n < (-70368744177664 : Int)))
      (K' (Out.ret (V.tup [V.int IntKind.i64 (0 : Int), V.int IntKind.i64 (4 : Int)])) [])
      (bcase (bif false then true else decide (n > (70368744177664 : Int)))
       (K' (Out.ret (V.tup [V.int IntKind.i64 (0 : Int), V.int IntKind.i64 (4 : Int)])) [])
       (K' (Out.ret (V.tup [V.int IntKind.i64 n, V.int IntKind.i64 (0 : Int)])) [])))) := by kernel_rfl
theorem r154 : FreshOk Tryz.prog 154 (ofD g154) := by
  refine fresh_of_run (noTab_ok _) (noD_ok _) (fun _ _ => noIv) Tryz.func154 c154 fun args obs K' hk => ?_
  unfold ofD g154 at hk
  split at hk
  · rename_i d_ out news hg
    split at hg
    · rename_i n s
      cases hg
      obtain ⟨hc, hk⟩ := hk
      refine Eq.mpr (k154 n s K') ?_
      · cases s
        · exact bcase_t rfl hk
        refine bcase_f rfl ?_
        refine bcase_i (fun h => ?_) (fun h => ?_)
        · have h : decide (n < -70368744177664) = true := h
          have h := of_decide_eq_true h
          have e : decide (fixOk n) = false := decide_eq_false (fun hh => by have := hh.1; omega)
          exact lfk hk (by rw [e]; rfl) rfl
        have h1 : decide (n < -70368744177664) = false := h
        have h1 := of_decide_eq_false h1
        refine bcase_i (fun h => ?_) (fun h => ?_)
        · have h : decide (n > 70368744177664) = true := h
          have h := of_decide_eq_true h
          have e : decide (fixOk n) = false := decide_eq_false (fun hh => by have := hh.2; omega)
          exact lfk hk (by rw [e]; rfl) rfl
        have h2 : decide (n > 70368744177664) = false := h
        have h2 := of_decide_eq_false h2
        have e : decide (fixOk n) = true := decide_eq_true ⟨by omega, by omega⟩
        exact lfk hk (by rw [e]; rfl) rfl
    · cases hg
  · exact hk.elim
/-- both -/
def g157 : GSpec := fun args obs => match args, obs with
  | [.int .i64 x, .int .i64 e, .int .i64 y, .int .i64 f], [] => some (e = 0 ∧ f = 0, .ret (.tup [.agg [i64 x, i64 y], i64 0]), [])
  | _, _ => none
theorem k157 (x e y f : Int) (K' : Out → List Ob → Prop) : runFn (noTab) (noD) noIv a157 [.int .i64 x, .int .i64 e, .int .i64 y, .int .i64 f] (lookO []) 0 (closeK K') =
    ((True) ∧
    bcase (e != (0 : Int))
     ((True) ∧
     K'
  (Out.ret
    (V.tup
      [V.agg [V.int IntKind.i64 (0 : Int), V.int IntKind.i64 (0 : Int)], V.int IntKind.i64 (if f > e then f else e)]))
  [])
     (bcase (bif false then true else f != (0 : Int))
      ((True) ∧
      K'
  (Out.ret
    (V.tup
      [V.agg [V.int IntKind.i64 (0 : Int), V.int IntKind.i64 (0 : Int)], V.int IntKind.i64 (if f > e then f else e)]))
  [])
      ((True) ∧
      K' (Out.ret (V.tup [V.agg [V.int IntKind.i64 x, V.int IntKind.i64 y], V.int IntKind.i64 (0 : Int)])) []))) := by kernel_rfl
theorem r157 : FreshOk Tryz.prog 157 (ofD g157) := by
  refine fresh_of_run (noTab_ok _) (noD_ok _) (fun _ _ => noIv) Tryz.func157 c157 fun args obs K' hk => ?_
  unfold ofD g157 at hk
  split at hk
  · rename_i d_ out news hg
    split at hg
    · rename_i x e y f
      cases hg
      obtain ⟨hc, hk⟩ := hk
      refine Eq.mpr (k157 x e y f K') ⟨trivial, ?_⟩
      · obtain ⟨rfl, rfl⟩ := hc
        exact bcase_f rfl (bcase_f rfl ⟨trivial, hk⟩)
    · cases hg
  · exact hk.elim
def DZ10 : DTab := ((D22).add 190 (viewD g190)).add 199 (viewD g199)
theorem DZ10_ok : TabOk Tryz.prog (tabD DZ10) := DTab.add_ok (DTab.add_ok (D22_ok) (dok r190)) (dok r199)
def Z10_0 : Tab := Z9.add 131 (liftA (ofD g131))
def Z10_1 : Tab := Z10_0.add 151 (liftA (ofD g151))
def Z10_2 : Tab := Z10_1.add 154 (liftA (ofD g154))
def Z10_3 : Tab := Z10_2.add 157 (liftA (ofD g157))
def Z10_4 : Tab := Z10_3.add 190 (liftA (ofD g190))
def Z10_5 : Tab := Z10_4.add 200 (liftA (ofD g200))
def Z10 : Tab := Z10_5.add 201 (liftA (ofD g201))
theorem Z10_0_ok : TabOk Tryz.prog Z10_0 := Z9_ok.add (entry_of_fresh r131)
theorem Z10_1_ok : TabOk Tryz.prog Z10_1 := Z10_0_ok.add (entry_of_fresh r151)
theorem Z10_2_ok : TabOk Tryz.prog Z10_2 := Z10_1_ok.add (entry_of_fresh r154)
theorem Z10_3_ok : TabOk Tryz.prog Z10_3 := Z10_2_ok.add (entry_of_fresh r157)
theorem Z10_4_ok : TabOk Tryz.prog Z10_4 := Z10_3_ok.add (entry_of_fresh r190)
theorem Z10_5_ok : TabOk Tryz.prog Z10_5 := Z10_4_ok.add (entry_of_fresh r200)
theorem Z10_ok : TabOk Tryz.prog Z10 := Z10_5_ok.add (entry_of_fresh r201)
/-- square -/
def g133 : GSpec := fun args obs => match args, obs with
  | [.agg [.int .i64 x, .int .i64 y]], [] => some (fixOk x ∧ fixOk y, .ret (.osl 0), [.own 3 [.int .i64] (dg (x.natAbs * x.natAbs + y.natAbs * y.natAbs))])
  | _, _ => none
theorem k133 (x y : Int) (K' : Out → List Ob → Prop) : runFn (Z10) (noD) noIv a133 [.agg [.int .i64 x, .int .i64 y]] (lookO []) 0 (closeK K') =
    ((True) ∧
    (True) ∧
    (True ∧ True) ∧
    (fixOk x) ∧
    (True ∧ True) ∧
    ((0 : Int) ≤ (↑x.natAbs : Int) ∧ (↑x.natAbs : Int) < (9223372036854775808 : Int)) ∧
    (True ∧ True) ∧
    (fixOk y) ∧
    (True ∧ True) ∧
    ((0 : Int) ≤ (↑y.natAbs : Int) ∧ (↑y.natAbs : Int) < (9223372036854775808 : Int)) ∧
    (True ∧ True ∧ True) ∧
    (Cn (dg (↑x.natAbs : Int).toNat) ∧
  Cn (dg (↑x.natAbs : Int).toNat) ∧
    (dg (↑x.natAbs : Int).toNat).length < (100000 : Nat) ∧ (dg (↑x.natAbs : Int).toNat).length < (100000 : Nat)) ∧
    (True ∧ True ∧ True) ∧
    (Cn (dg (↑y.natAbs : Int).toNat) ∧
  Cn (dg (↑y.natAbs : Int).toNat) ∧
    (dg (↑y.natAbs : Int).toNat).length < (100000 : Nat) ∧ (dg (↑y.natAbs : Int).toNat).length < (100000 : Nat)) ∧
    (True ∧ True ∧ True) ∧
    (Cn (dg (nv (dg (↑x.natAbs : Int).toNat) * nv (dg (↑x.natAbs : Int).toNat))) ∧
  Cn (dg (nv (dg (↑y.natAbs : Int).toNat) * nv (dg (↑y.natAbs : Int).toNat))) ∧
    (dg (nv (dg (↑x.natAbs : Int).toNat) * nv (dg (↑x.natAbs : Int).toNat))).length < (100000 : Nat) ∧
      (dg (nv (dg (↑y.natAbs : Int).toNat) * nv (dg (↑y.natAbs : Int).toNat))).length < (100000 : Nat)) ∧
    K' (Out.ret (V.osl (nat_lit 0)))
  [Ob.own (nat_lit 3) [SK.int IntKind.i64]
      (dg
        (nv (dg (nv (dg (↑x.natAbs : Int).toNat) * nv (dg (↑x.natAbs : Int).toNat))) +
          nv (dg (nv (dg (↑y.natAbs : Int).toNat) * nv (dg (↑y.natAbs : Int).toNat)))))]) := by kernel_rfl
theorem r133 : FreshOk Tryz.prog 133 (ofD g133) := by
  refine fresh_of_run Z10_ok (noD_ok _) (fun _ _ => noIv) Tryz.func133 c133 fun args obs K' hk => ?_
  unfold ofD g133 at hk
  split at hk
  · rename_i d_ out news hg
    split at hg
    · rename_i x y
      cases hg
      obtain ⟨hc, hk⟩ := hk
      obtain ⟨hx, hy⟩ := hc
      have lx : (dg x.natAbs).length ≤ 4 := dg_len 4 _ (by have h3 : (32768 : Nat) ^ 4 = 1152921504606846976 := by decide
                                                           omega)
      have ly : (dg y.natAbs).length ≤ 4 := dg_len 4 _ (by have h3 : (32768 : Nat) ^ 4 = 1152921504606846976 := by decide
                                                           omega)
      have lxx : ∀ a : Int, fixOk a → (dg (a.natAbs * a.natAbs)).length ≤ 8 := fun a ha => dg_len 8 _ (by
        have h : a.natAbs * a.natAbs ≤ 70368744177664 * 70368744177664 := Nat.mul_le_mul (by omega) (by omega)
        exact Nat.lt_of_le_of_lt h (by decide))
      have l1 := lxx x hx
      have l2 := lxx y hy
      refine Eq.mpr (k133 x y K') ⟨trivial, trivial, ⟨trivial, trivial⟩, ?_, ⟨trivial, trivial⟩, ?_, ⟨trivial, trivial⟩, ?_, ⟨trivial, trivial⟩, ?_, ⟨trivial, ⟨trivial, trivial⟩⟩, ?_, ⟨trivial, ⟨trivial, trivial⟩⟩, ?_, ⟨trivial, ⟨trivial, trivial⟩⟩, ?_, ?_⟩
      · exact hx
      · omega
      · exact hy
      · omega
      · exact ⟨cn_dg _, cn_dg _, by rw [Int.toNat_natCast]; omega, by rw [Int.toNat_natCast]; omega⟩
      · exact ⟨cn_dg _, cn_dg _, by rw [Int.toNat_natCast]; omega, by rw [Int.toNat_natCast]; omega⟩
      · simp only [Int.toNat_natCast, nv_dg]
        exact ⟨cn_dg _, cn_dg _, by omega, by omega⟩
      · exact lfk hk rfl (by simp only [Int.toNat_natCast, nv_dg])
    · cases hg
  · exact hk.elim
/-- up -/
def g198 : GSpec := fun args obs => match args, obs with
  | [.osl 0, .int .i64 n], [.ro [.int .i64] l] => some (Cn l ∧ l.length < 10000 ∧ 0 ≤ n ∧ n ≤ 32, .ret (.osl 0), [.own 3 [.int .i64] (dg (2 ^ n.toNat * nv l))])
  | _, _ => none
theorem k198 (n : Int) (l : List Int) (K' : Out → List Ob → Prop) : runFn (Z10) (noD) noIv a198 [.osl 0, .int .i64 n] (lookO [.ro [.int .i64] l]) 1 (closeK K') =
    ((True) ∧
    ((0 : Int) ≤ n) ∧
    (True ∧ True) ∧
    ((0 : Int) ≤ IntKind.i64.wrap ((1 : Int) * (2 : Int) ^ min n.toNat IntKind.i64.bits) ∧
  IntKind.i64.wrap ((1 : Int) * (2 : Int) ^ min n.toNat IntKind.i64.bits) < (9223372036854775808 : Int)) ∧
    (True ∧ True ∧ True) ∧
    (Cn l ∧
  Cn (dg (IntKind.i64.wrap ((1 : Int) * (2 : Int) ^ min n.toNat IntKind.i64.bits)).toNat) ∧
    l.length < (100000 : Nat) ∧
      (dg (IntKind.i64.wrap ((1 : Int) * (2 : Int) ^ min n.toNat IntKind.i64.bits)).toNat).length < (100000 : Nat)) ∧
    K' (Out.ret (V.osl (nat_lit 0)))
  [Ob.own (nat_lit 3) [SK.int IntKind.i64]
      (dg (nv l * nv (dg (IntKind.i64.wrap ((1 : Int) * (2 : Int) ^ min n.toNat IntKind.i64.bits)).toNat)))]) := by kernel_rfl
theorem r198 : FreshOk Tryz.prog 198 (ofD g198) := by
  refine fresh_of_run Z10_ok (noD_ok _) (fun _ _ => noIv) Tryz.func198 c198 fun args obs K' hk => ?_
  unfold ofD g198 at hk
  split at hk
  · rename_i d_ out news hg
    split at hg
    · rename_i n l
      cases hg
      obtain ⟨hc, hk⟩ := hk
      obtain ⟨hl, hlen, hn0, hn1⟩ := hc
      obtain ⟨k, hkn⟩ := Int.eq_ofNat_of_zero_le hn0
      have hp : 2 ^ k ≤ 4294967296 := Nat.pow_le_pow_right (n := 2) (by decide) (show k ≤ 32 by omega)
      have hk2 : min n.toNat IntKind.i64.bits = k := by rw [show n.toNat = k by omega]; exact Nat.min_eq_left (show k ≤ 64 by omega)
      have hkt : n.toNat = k := by omega
      have e1 : IntKind.i64.wrap ((1 : Int) * (2 : Int) ^ min n.toNat IntKind.i64.bits) = ((2 ^ k : Nat) : Int) := by
        rw [hk2, Int.one_mul, show (2 : Int) ^ k = ((2 ^ k : Nat) : Int) by simp]
        generalize (2 : Nat) ^ k = z at hp ⊢
        exact IntWalk.i64_in _ (by omega)
      have h4 : (dg (2 ^ k)).length ≤ 3 := dg_len 3 _ (Nat.lt_of_le_of_lt hp (by decide))
      refine Eq.mpr (k198 n l K') ⟨trivial, ?_, ⟨trivial, trivial⟩, ?_, ⟨trivial, ⟨trivial, trivial⟩⟩, ?_, ?_⟩
      · exact hn0
      · rw [e1]
        generalize (2 : Nat) ^ k = z at hp ⊢
        omega
      · rw [e1, Int.toNat_natCast]
        exact ⟨hl, cn_dg _, by omega, by omega⟩
      · exact lfk hk rfl (by rw [e1, hkt]; simp only [Int.toNat_natCast, nv_dg]; rw [Nat.mul_comm])
    · cases hg
  · exact hk.elim
/-- product -/
def g153 : GSpec := fun args obs => match args, obs with
  | [.int .i64 a, .int .i64 b], [] => some (fixOk a ∧ fixOk b, .ret (.agg [.bool (decide (a < 0) != decide (b < 0)), .osl 0]), [.own 3 [.int .i64] (dg (a.natAbs * b.natAbs))])
  | _, _ => none
theorem k153 (a b : Int) (K' : Out → List Ob → Prop) : runFn (Z10) (noD) noIv a153 [.int .i64 a, .int .i64 b] (lookO []) 0 (closeK K') =
    ((True) ∧
    (True ∧ True) ∧
    (fixOk a) ∧
    (True ∧ True) ∧
    ((0 : Int) ≤ (↑a.natAbs : Int) ∧ (↑a.natAbs : Int) < (9223372036854775808 : Int)) ∧
    (True ∧ True) ∧
    (fixOk b) ∧
    (True ∧ True) ∧
    ((0 : Int) ≤ (↑b.natAbs : Int) ∧ (↑b.natAbs : Int) < (9223372036854775808 : Int)) ∧
    (True ∧ True ∧ True) ∧
    (Cn (dg (↑a.natAbs : Int).toNat) ∧
  Cn (dg (↑b.natAbs : Int).toNat) ∧
    (dg (↑a.natAbs : Int).toNat).length < (100000 : Nat) ∧ (dg (↑b.natAbs : Int).toNat).length < (100000 : Nat)) ∧
    (True) ∧
    K' (Out.ret (V.agg [V.bool !decide (a < (0 : Int)) == decide (b < (0 : Int)), V.osl (nat_lit 0)]))
  [Ob.own (nat_lit 3) [SK.int IntKind.i64] (dg (nv (dg (↑a.natAbs : Int).toNat) * nv (dg (↑b.natAbs : Int).toNat)))]) := by kernel_rfl
theorem r153 : FreshOk Tryz.prog 153 (ofD g153) := by
  refine fresh_of_run Z10_ok (noD_ok _) (fun _ _ => noIv) Tryz.func153 c153 fun args obs K' hk => ?_
  unfold ofD g153 at hk
  split at hk
  · rename_i d_ out news hg
    split at hg
    · rename_i a b
      cases hg
      obtain ⟨hc, hk⟩ := hk
      obtain ⟨hx, hy⟩ := hc
      have lx : (dg a.natAbs).length ≤ 4 := dg_len 4 _ (by have h3 : (32768 : Nat) ^ 4 = 1152921504606846976 := by decide
                                                           omega)
      have ly : (dg b.natAbs).length ≤ 4 := dg_len 4 _ (by have h3 : (32768 : Nat) ^ 4 = 1152921504606846976 := by decide
                                                           omega)
      refine Eq.mpr (k153 a b K') ⟨trivial, ⟨trivial, trivial⟩, ?_, ⟨trivial, trivial⟩, ?_, ⟨trivial, trivial⟩, ?_, ⟨trivial, trivial⟩, ?_, ⟨trivial, ⟨trivial, trivial⟩⟩, ?_, trivial, ?_⟩
      · exact hx
      · omega
      · exact hy
      · omega
      · exact ⟨cn_dg _, cn_dg _, by rw [Int.toNat_natCast]; omega, by rw [Int.toNat_natCast]; omega⟩
      · exact lfk hk rfl (by simp only [Int.toNat_natCast, nv_dg])
    · cases hg
  · exact hk.elim
/-- sum -/
def g152 : GSpec := fun args obs => match args, obs with
  | [.agg [.bool s, .osl 0], .agg [.bool t, .osl 1]], [.ro [.int .i64] l, .ro [.int .i64] m] => some (Cn l ∧ Cn m ∧ l.length < 1000 ∧ m.length < 1000, .ret (.agg [.bool (bif s == t then s else bif decide (nv m ≤ nv l) then s else t), .osl 0]), [.own 3 [.int .i64] (dg (bif s == t then nv l + nv m else bif decide (nv m ≤ nv l) then nv l - nv m else nv m - nv l))])
  | _, _ => none
theorem k152 (s t : Bool) (l m : List Int) (K' : Out → List Ob → Prop) : runFn (Z10) (DZ10) noIv a152 [.agg [.bool s, .osl 0], .agg [.bool t, .osl 1]] (lookO [.ro [.int .i64] l, .ro [.int .i64] m]) 2 (closeK K') =
    ((True) ∧
    (True) ∧
    (True) ∧
    bcase (s == t)
     (((True ∧ True ∧ True) ∧ Cn l ∧ Cn m ∧ l.length < (100000 : Nat) ∧ m.length < (100000 : Nat)) ∧
     (True) ∧
     K' (Out.ret (V.agg [V.bool s, V.osl (nat_lit 0)])) [Ob.own (nat_lit 3) [SK.int IntKind.i64] (dg (nv l + nv m))])
     ((True ∧ True ∧ True) ∧
     (Cn l ∧ Cn m ∧ l.length < (1000000 : Nat)) ∧
     bcase (decide (ordN (nv l) (nv m) ≥ (0 : Int)))
      (((True ∧ True ∧ True) ∧ Cn l ∧ Cn m ∧ l.length < (100000 : Nat) ∧ nv m ≤ nv l) ∧
      (True) ∧
      K' (Out.ret (V.agg [V.bool s, V.osl (nat_lit 0)])) [Ob.own (nat_lit 3) [SK.int IntKind.i64] (dg (nv l - nv m))])
      (((True ∧ True ∧ True) ∧ Cn m ∧ Cn l ∧ m.length < (100000 : Nat) ∧ nv l ≤ nv m) ∧
      (True) ∧
      K' (Out.ret (V.agg [V.bool t, V.osl (nat_lit 0)])) [Ob.own (nat_lit 3) [SK.int IntKind.i64] (dg (nv m - nv l))]))) := by kernel_rfl
theorem r152 : FreshOk Tryz.prog 152 (ofD g152) := by
  refine fresh_of_run Z10_ok DZ10_ok (fun _ _ => noIv) Tryz.func152 c152 fun args obs K' hk => ?_
  unfold ofD g152 at hk
  split at hk
  · rename_i d_ out news hg
    split at hg
    · rename_i s t l m
      cases hg
      obtain ⟨hc, hk⟩ := hk
      refine Eq.mpr (k152 s t l m K') ⟨trivial, trivial, trivial, ?_⟩
      · obtain ⟨hl, hm, hlen, hmen⟩ := hc
        refine bcase_i (fun h => ?_) (fun h => ?_)
        · exact ⟨⟨⟨trivial, trivial, trivial⟩, hl, hm, by omega, by omega⟩, trivial, lfk hk (by rw [h]; rfl) (by rw [h]; rfl)⟩
        refine ⟨⟨trivial, trivial, trivial⟩, ⟨hl, hm, by omega⟩, ?_⟩
        refine bcase_i (fun h2 => ?_) (fun h2 => ?_)
        · have h2 := (ordN_ge _ _).1 (of_decide_eq_true h2)
          exact ⟨⟨⟨trivial, trivial, trivial⟩, hl, hm, by omega, h2⟩, trivial, lfk hk (by rw [h, decide_eq_true h2]; rfl) (by rw [h, decide_eq_true h2]; rfl)⟩
        · have h2 : ¬ nv m ≤ nv l := fun hh => of_decide_eq_false h2 ((ordN_ge _ _).2 hh)
          exact ⟨⟨⟨trivial, trivial, trivial⟩, hm, hl, by omega, by omega⟩, trivial, lfk hk (by rw [h, decide_eq_false h2]; rfl) (by rw [h, decide_eq_false h2]; rfl)⟩
    · cases hg
  · exact hk.elim
/-- rounded -/
def g155_0 : GSpec := fun args obs => match args, obs with
  | [.osl 0, .osl 1, .bool s, .int .i64 0], [.ro [.int .i64] l, .ro [.int .i64] m] => some (Cn l ∧ Cn m ∧ l.length < 1000 ∧ m.length < 1000 ∧ 0 < nv m ∧ nv l / nv m < 1152921504606846976, .ret (.tup [i64 (rndC s (nv l) (nv m)), .bool true]), [])
  | _, _ => none
theorem k155_0 (s : Bool) (l m : List Int) (K' : Out → List Ob → Prop) : runFn (Z10) (noD) noIv a155 [.osl 0, .osl 1, .bool s, .int .i64 0] (lookO [.ro [.int .i64] l, .ro [.int .i64] m]) 2 (closeK K') =
    ((True ∧ True ∧ True) ∧
    (Cn l ∧ Cn m ∧ l.length < (1000 : Nat) ∧ m.length < (1000 : Nat) ∧ (0 : Nat) < nv m) ∧
    (True ∧ True) ∧
    (Cn (dg (nv l / nv m)) ∧ (dg (nv l / nv m)).length < (1000000 : Nat)) ∧
    bcase (s)
     (K'
  (Out.ret
    (V.tup
      [V.int IntKind.i64
          (IntKind.i64.wrap
            ((0 : Int) -
              if nv (dg (nv l / nv m)) < (1152921504606846976 : Nat) then (↑(nv (dg (nv l / nv m))) : Int)
              else (0 : Int))),
        V.bool (decide (nv (dg (nv l / nv m)) < (1152921504606846976 : Nat)))]))
  [])
     (K'
  (Out.ret
    (V.tup
      [V.int IntKind.i64
          (if nv (dg (nv l / nv m)) < (1152921504606846976 : Nat) then (↑(nv (dg (nv l / nv m))) : Int) else (0 : Int)),
        V.bool (decide (nv (dg (nv l / nv m)) < (1152921504606846976 : Nat)))]))
  [])) := by kernel_rfl
theorem r155_0 : FreshOk Tryz.prog 155 (ofD g155_0) := by
  refine fresh_of_run Z10_ok (noD_ok _) (fun _ _ => noIv) Tryz.func155 c155 fun args obs K' hk => ?_
  unfold ofD g155_0 at hk
  split at hk
  · rename_i d_ out news hg
    split at hg
    · rename_i s l m
      cases hg
      obtain ⟨hc, hk⟩ := hk
      obtain ⟨hl, hm, h1, h2, hB, hq⟩ := hc
      have hq4 : (dg (nv l / nv m)).length ≤ 4 := dg_len 4 _ (Nat.lt_of_lt_of_le hq (by decide))
      refine Eq.mpr (k155_0 s l m K') ⟨⟨trivial, ⟨trivial, trivial⟩⟩, ?_, ⟨trivial, trivial⟩, ?_, ?_⟩
      · exact ⟨hl, hm, h1, h2, hB⟩
      · exact ⟨cn_dg _, by omega⟩
      · simp only [nv_dg, if_pos hq, decide_eq_true hq]
        simp only [rndC, rndD] at hk
        clear hq4
        generalize nv l / nv m = Q at *
        cases s
        · exact bcase_f rfl (lfk hk rfl rfl)
        · exact bcase_t rfl (lfk hk (by rw [IntWalk.i64_in _ (by omega), Int.zero_sub]; rfl) rfl)
    · cases hg
  · exact hk.elim
/-- rounded -/
def g155_1 : GSpec := fun args obs => match args, obs with
  | [.osl 0, .osl 1, .bool s, .int .i64 1], [.ro [.int .i64] l, .ro [.int .i64] m] => some (Cn l ∧ Cn m ∧ l.length < 1000 ∧ m.length < 1000 ∧ 0 < nv m ∧ nv l / nv m < 1152921504606846976, .ret (.tup [i64 (rndD s (nv l) (nv m)), .bool true]), [])
  | _, _ => none
theorem k155_1 (s : Bool) (l m : List Int) (K' : Out → List Ob → Prop) : runFn (Z10) (noD) noIv a155 [.osl 0, .osl 1, .bool s, .int .i64 1] (lookO [.ro [.int .i64] l, .ro [.int .i64] m]) 2 (closeK K') =
    ((True ∧ True ∧ True) ∧
    (Cn l ∧ Cn m ∧ l.length < (1000 : Nat) ∧ m.length < (1000 : Nat) ∧ (0 : Nat) < nv m) ∧
    (True ∧ True) ∧
    (Cn (dg (nv l / nv m)) ∧ (dg (nv l / nv m)).length < (1000000 : Nat)) ∧
    bcase (bif false then true else bif true then s else false)
     (bcase (bif true then decide ((↑(dg (nv l % nv m)).length : Int) > (0 : Int)) else false)
      (bcase (s)
       (K'
  (Out.ret
    (V.tup
      [V.int IntKind.i64
          (IntKind.i64.wrap
            ((0 : Int) -
              IntKind.i64.wrap
                ((if nv (dg (nv l / nv m)) < (1152921504606846976 : Nat) then (↑(nv (dg (nv l / nv m))) : Int)
                  else (0 : Int)) +
                  (1 : Int)))),
        V.bool (decide (nv (dg (nv l / nv m)) < (1152921504606846976 : Nat)))]))
  [])
       (K'
  (Out.ret
    (V.tup
      [V.int IntKind.i64
          (IntKind.i64.wrap
            ((if nv (dg (nv l / nv m)) < (1152921504606846976 : Nat) then (↑(nv (dg (nv l / nv m))) : Int)
              else (0 : Int)) +
              (1 : Int))),
        V.bool (decide (nv (dg (nv l / nv m)) < (1152921504606846976 : Nat)))]))
  []))
      (bcase (s)
       (K'
  (Out.ret
    (V.tup
      [V.int IntKind.i64
          (IntKind.i64.wrap
            ((0 : Int) -
              if nv (dg (nv l / nv m)) < (1152921504606846976 : Nat) then (↑(nv (dg (nv l / nv m))) : Int)
              else (0 : Int))),
        V.bool (decide (nv (dg (nv l / nv m)) < (1152921504606846976 : Nat)))]))
  [])
       (K'
  (Out.ret
    (V.tup
      [V.int IntKind.i64
          (if nv (dg (nv l / nv m)) < (1152921504606846976 : Nat) then (↑(nv (dg (nv l / nv m))) : Int) else (0 : Int)),
        V.bool (decide (nv (dg (nv l / nv m)) < (1152921504606846976 : Nat)))]))
  [])))
     (bcase (s)
      (K'
  (Out.ret
    (V.tup
      [V.int IntKind.i64
          (IntKind.i64.wrap
            ((0 : Int) -
              if nv (dg (nv l / nv m)) < (1152921504606846976 : Nat) then (↑(nv (dg (nv l / nv m))) : Int)
              else (0 : Int))),
        V.bool (decide (nv (dg (nv l / nv m)) < (1152921504606846976 : Nat)))]))
  [])
      (K'
  (Out.ret
    (V.tup
      [V.int IntKind.i64
          (if nv (dg (nv l / nv m)) < (1152921504606846976 : Nat) then (↑(nv (dg (nv l / nv m))) : Int) else (0 : Int)),
        V.bool (decide (nv (dg (nv l / nv m)) < (1152921504606846976 : Nat)))]))
  []))) := by kernel_rfl
theorem r155_1 : FreshOk Tryz.prog 155 (ofD g155_1) := by
  refine fresh_of_run Z10_ok (noD_ok _) (fun _ _ => noIv) Tryz.func155 c155 fun args obs K' hk => ?_
  unfold ofD g155_1 at hk
  split at hk
  · rename_i d_ out news hg
    split at hg
    · rename_i s l m
      cases hg
      obtain ⟨hc, hk⟩ := hk
      obtain ⟨hl, hm, h1, h2, hB, hq⟩ := hc
      have hq4 : (dg (nv l / nv m)).length ≤ 4 := dg_len 4 _ (Nat.lt_of_lt_of_le hq (by decide))
      refine Eq.mpr (k155_1 s l m K') ⟨⟨trivial, ⟨trivial, trivial⟩⟩, ?_, ⟨trivial, trivial⟩, ?_, ?_⟩
      · exact ⟨hl, hm, h1, h2, hB⟩
      · exact ⟨cn_dg _, by omega⟩
      · simp only [nv_dg, if_pos hq, decide_eq_true hq]
        simp only [rndC, rndD] at hk
        clear hq4
        generalize nv l / nv m = Q at *
        cases s
        · exact bcase_f rfl (bcase_f rfl (lfk hk rfl rfl))
        refine bcase_t rfl ?_
        generalize nv l % nv m = r at *
        by_cases h0 : r = 0
        · refine bcase_f (by rw [h0, dg_zero]; rfl) (bcase_t rfl ?_)
          exact lfk hk (by rw [IntWalk.i64_in _ (by omega), Int.zero_sub]; simp [h0]) rfl
        · refine bcase_t (by rw [dg_pos h0]; simp) (bcase_t rfl ?_)
          exact lfk hk (by rw [IntWalk.i64_in ((Q : Int) + 1) (by omega), IntWalk.i64_in _ (by omega), Int.zero_sub]; simp [h0]) rfl
    · cases hg
  · exact hk.elim

end Go.Proofs.YtbolfnkgbjkbjaaGreat.AM
end
section
set_option linter.unusedVariables false
set_option linter.unusedSimpArgs false
namespace Go.Proofs.YtbolfnkgbjkbjaaGreat.AM
open Go Go.RowKit
set_option maxRecDepth 100000

theorem bF {p : Prop} [Decidable p] (h : p) : (!decide p) = false := by rw [decide_eq_true h]; rfl
theorem len46 (a : Int) (h : fixOk a) : (dg a.natAbs).length ≤ 4 := dg_len 4 _ (by
  have h3 : (32768 : Nat) ^ 4 = 1152921504606846976 := by decide
  have := h.1
  have := h.2
  omega)
theorem sq46 (a b : Int) (h : fixOk a) (h2 : fixOk b) : (dg (a.natAbs * b.natAbs)).length ≤ 8 := dg_len 8 _ (by
  have h3 : a.natAbs * b.natAbs ≤ 70368744177664 * 70368744177664 := Nat.mul_le_mul (by have := h.1; have := h.2; omega) (by have := h2.1; have := h2.2; omega)
  exact Nat.lt_of_le_of_lt h3 (by decide))
theorem sum46 (a b : Int) (h : fixOk a) (h2 : fixOk b) : (dg (a.natAbs * a.natAbs + b.natAbs * b.natAbs)).length ≤ 8 := dg_len 8 _ (by
  have h3 : a.natAbs * a.natAbs ≤ 70368744177664 * 70368744177664 := Nat.mul_le_mul (by have := h.1; have := h.2; omega) (by have := h.1; have := h.2; omega)
  have h4 : b.natAbs * b.natAbs ≤ 70368744177664 * 70368744177664 := Nat.mul_le_mul (by have := h2.1; have := h2.2; omega) (by have := h2.1; have := h2.2; omega)
  exact Nat.lt_of_le_of_lt (Nat.add_le_add h3 h4) (by decide))

def Z11a : Tab := ((Z10.add 129 (liftA (ofD g129))).add 128 (liftA (ofD g128))).add 87 (liftA (ofD g87))
def Z11c : Tab := ((Z11a.add 133 (liftA (ofD g133))).add 198 (liftA (ofD g198))).add 155 (liftA (ofD g155_0))
def Z11d : Tab := (((Z11a.add 153 (liftA (ofD g153))).add 152 (liftA (ofD g152)))).add 155 (liftA (ofD g155_1))
theorem Z11a_ok : TabOk Tryz.prog Z11a := ((Z10_ok.add (entry_of_fresh r129)).add (entry_of_fresh r128)).add (entry_of_fresh r87)
theorem Z11c_ok : TabOk Tryz.prog Z11c := ((Z11a_ok.add (entry_of_fresh r133)).add (entry_of_fresh r198)).add (entry_of_fresh r155_0)
theorem Z11d_ok : TabOk Tryz.prog Z11d := ((Z11a_ok.add (entry_of_fresh r153)).add (entry_of_fresh r152)).add (entry_of_fresh r155_1)
/-- Mul, cut -/
def g156 : GSpec := fun args obs => match args, obs with
  | [.int .i64 a, .int .i64 b, .int .i64 0], [] => some (fixOk a ∧ fixOk b ∧ fixOk (rndC (decide (a < 0) != decide (b < 0)) (a.natAbs * b.natAbs) 65536), .ret (.tup [i64 (rndC (decide (a < 0) != decide (b < 0)) (a.natAbs * b.natAbs) 65536), i64 0]), [])
  | _, _ => none
theorem k156 (a b : Int) (K' : Out → List Ob → Prop) : runFn (Z11c) (DZ10) noIv a156 [.int .i64 a, .int .i64 b, .int .i64 0] (lookO []) 0 (closeK K') =
    ((True ∧ True) ∧
    (True) ∧
    bcase (decide ((-70368744177664 : Int) ≤ a ∧ a ≤ (70368744177664 : Int)))
     ((True ∧ True) ∧
     (True) ∧
     (True ∧ True) ∧
     (True) ∧
     bcase (!bif true then decide ((-70368744177664 : Int) ≤ b ∧ b ≤ (70368744177664 : Int)) else false)
      (K' (Out.ret (V.tup [V.int IntKind.i64 (0 : Int), V.int IntKind.i64 (2 : Int)])) [])
      ((True ∧ True) ∧
      (fixOk a) ∧
      (True ∧ True) ∧
      ((0 : Int) ≤ (↑a.natAbs : Int) ∧ (↑a.natAbs : Int) < (9223372036854775808 : Int)) ∧
      (True ∧ True) ∧
      (fixOk b) ∧
      (True ∧ True) ∧
      ((0 : Int) ≤ (↑b.natAbs : Int) ∧ (↑b.natAbs : Int) < (9223372036854775808 : Int)) ∧
      (True ∧ True ∧ True) ∧
      (Cn (dg (↑a.natAbs : Int).toNat) ∧
  Cn (dg (↑b.natAbs : Int).toNat) ∧
    (dg (↑a.natAbs : Int).toNat).length < (100000 : Nat) ∧ (dg (↑b.natAbs : Int).toNat).length < (100000 : Nat)) ∧
      (True ∧ True) ∧
      ((0 : Int) ≤ (65536 : Int) ∧ (65536 : Int) < (9223372036854775808 : Int)) ∧
      (True ∧ True ∧ True ∧ True ∧ True) ∧
      (Cn (dg (nv (dg (↑a.natAbs : Int).toNat) * nv (dg (↑b.natAbs : Int).toNat))) ∧
  Cn (dg (Int.toNat (65536 : Int))) ∧
    (dg (nv (dg (↑a.natAbs : Int).toNat) * nv (dg (↑b.natAbs : Int).toNat))).length < (1000 : Nat) ∧
      (dg (Int.toNat (65536 : Int))).length < (1000 : Nat) ∧
        (0 : Nat) < nv (dg (Int.toNat (65536 : Int))) ∧
          nv (dg (nv (dg (↑a.natAbs : Int).toNat) * nv (dg (↑b.natAbs : Int).toNat))) /
              nv (dg (Int.toNat (65536 : Int))) <
            (1152921504606846976 : Nat)) ∧
      (True ∧ True ∧ True) ∧
      (True) ∧
      K'
  (Out.ret
    (V.tup
      [V.int IntKind.i64
          (bif
              true &&
                decide
                  (fixOk
                    (rndC (!decide (a < (0 : Int)) == decide (b < (0 : Int)))
                      (nv (dg (nv (dg (↑a.natAbs : Int).toNat) * nv (dg (↑b.natAbs : Int).toNat))))
                      (nv (dg (Int.toNat (65536 : Int)))))) then
            rndC (!decide (a < (0 : Int)) == decide (b < (0 : Int)))
              (nv (dg (nv (dg (↑a.natAbs : Int).toNat) * nv (dg (↑b.natAbs : Int).toNat))))
              (nv (dg (Int.toNat (65536 : Int))))
          else (0 : Int)),
        V.int IntKind.i64
          (bif
              true &&
                decide
                  (fixOk
                    (rndC (!decide (a < (0 : Int)) == decide (b < (0 : Int)))
                      (nv (dg (nv (dg (↑a.natAbs : Int).toNat) * nv (dg (↑b.natAbs : Int).toNat))))
                      (nv (dg (Int.toNat (65536 : Int)))))) then
            (0 : Int)
          else (4 : Int))]))
  []))
     ((True ∧ True) ∧
     (True) ∧
     K' (Out.ret (V.tup [V.int IntKind.i64 (0 : Int), V.int IntKind.i64 (2 : Int)])) [])) := by kernel_rfl
theorem r156 : FreshOk Tryz.prog 156 (ofD g156) := by
  refine fresh_of_run Z11c_ok DZ10_ok (fun _ _ => noIv) Tryz.func156 c156 fun args obs K' hk => ?_
  unfold ofD g156 at hk
  split at hk
  · rename_i d_ out news hg
    split at hg
    · rename_i a b
      cases hg
      obtain ⟨hc, hk⟩ := hk
      refine Eq.mpr (k156 a b K') ⟨⟨trivial, trivial⟩, trivial, ?_⟩
      · obtain ⟨ha, hb, hf⟩ := hc
        refine bcase_t (decide_eq_true ha) ⟨⟨trivial, trivial⟩, trivial, ⟨trivial, trivial⟩, trivial, bcase_f (bF hb) ?_⟩
        have l1 := len46 a ha
        have l2 := len46 b hb
        have l3 := sq46 a b ha hb
        have l4 : (dg 65536).length ≤ 2 := dg_len 2 _ (by decide)
        have hq : a.natAbs * b.natAbs / 65536 < 1152921504606846976 := by
          have h := hf
          simp only [rndC] at h
          generalize a.natAbs * b.natAbs / 65536 = Q at *
          generalize (decide (a < 0) != decide (b < 0)) = s at h
          have h1 := h.1
          have h2 := h.2
          cases s
          · have h2 : (Q : Int) ≤ 70368744177664 := h2
            omega
          · have h1 : -70368744177664 ≤ -(Q : Int) := h1
            omega
        simp only [Int.toNat_natCast, nv_dg, show Int.toNat 65536 = 65536 from rfl]
        have hf' : decide (fixOk (rndC (!(decide (a < 0) == decide (b < 0))) (a.natAbs * b.natAbs) 65536)) = true := decide_eq_true hf
        refine ⟨⟨trivial, trivial⟩, ha, ⟨trivial, trivial⟩, ⟨by omega, by have := ha.1; have := ha.2; omega⟩, ⟨trivial, trivial⟩, hb, ⟨trivial, trivial⟩, ⟨by omega, by have := hb.1; have := hb.2; omega⟩, ⟨trivial, trivial, trivial⟩, ⟨cn_dg _, cn_dg _, by omega, by omega⟩, ⟨trivial, trivial⟩, ⟨by decide, by decide⟩, ⟨trivial, trivial, trivial, trivial, trivial⟩, ⟨cn_dg _, cn_dg _, by omega, by omega, by decide, hq⟩, ⟨trivial, trivial, trivial⟩, trivial, lfk hk ?_ rfl⟩
        rw [hf']
        rfl
    · cases hg
  · exact hk.elim
/-- Within -/
def g79 : GSpec := fun args obs => match args, obs with
  | [.agg [.int .i64 a, .int .i64 b], .int .i64 r], [] => some (fixOk a ∧ fixOk b ∧ fixOk r ∧ 0 ≤ r, .ret (.tup [.bool (decide (a.natAbs * a.natAbs + b.natAbs * b.natAbs ≤ r.natAbs * r.natAbs)), i64 0]), [])
  | _, _ => none
theorem k79 (a b r : Int) (K' : Out → List Ob → Prop) : runFn (Z11c) (DZ10) noIv a79 [.agg [.int .i64 a, .int .i64 b], .int .i64 r] (lookO []) 0 (closeK K') =
    ((True) ∧
    ((True ∧ True ∧ True) ∧ True) ∧
    (True) ∧
    (True ∧ True) ∧
    (True) ∧
    bcase (!decide
    (((-70368744177664 : Int) ≤ a ∧ a ≤ (70368744177664 : Int)) ∧
      (-70368744177664 : Int) ≤ b ∧ b ≤ (70368744177664 : Int)))
     (K' (Out.ret (V.tup [V.bool false, V.int IntKind.i64 (2 : Int)])) [])
     (bcase (bif false then true else !decide ((-70368744177664 : Int) ≤ r ∧ r ≤ (70368744177664 : Int)))
      (K' (Out.ret (V.tup [V.bool false, V.int IntKind.i64 (2 : Int)])) [])
      ((True ∧ True) ∧
      (fixOk r) ∧
      (True ∧ True) ∧
      ((0 : Int) ≤ (↑r.natAbs : Int) ∧ (↑r.natAbs : Int) < (9223372036854775808 : Int)) ∧
      bcase (decide (r ≥ (0 : Int)))
       (((True ∧ True ∧ True) ∧ True) ∧
       (fixOk a ∧ fixOk b) ∧
       (True ∧ True ∧ True) ∧
       (Cn (dg (↑r.natAbs : Int).toNat) ∧
  Cn (dg (↑r.natAbs : Int).toNat) ∧
    (dg (↑r.natAbs : Int).toNat).length < (100000 : Nat) ∧ (dg (↑r.natAbs : Int).toNat).length < (100000 : Nat)) ∧
       (True ∧ True ∧ True) ∧
       (Cn (dg (a.natAbs * a.natAbs + b.natAbs * b.natAbs)) ∧
  Cn (dg (nv (dg (↑r.natAbs : Int).toNat) * nv (dg (↑r.natAbs : Int).toNat))) ∧
    (dg (a.natAbs * a.natAbs + b.natAbs * b.natAbs)).length < (1000000 : Nat)) ∧
       K'
  (Out.ret
    (V.tup
      [V.bool
          (bif true then
            decide
              (ordN (nv (dg (a.natAbs * a.natAbs + b.natAbs * b.natAbs)))
                  (nv (dg (nv (dg (↑r.natAbs : Int).toNat) * nv (dg (↑r.natAbs : Int).toNat)))) ≤
                (0 : Int))
          else false),
        V.int IntKind.i64 (0 : Int)]))
  [])
       (K' (Out.ret (V.tup [V.bool false, V.int IntKind.i64 (0 : Int)])) [])))) := by kernel_rfl
theorem r79 : FreshOk Tryz.prog 79 (ofD g79) := by
  refine fresh_of_run Z11c_ok DZ10_ok (fun _ _ => noIv) Tryz.func79 c79 fun args obs K' hk => ?_
  unfold ofD g79 at hk
  split at hk
  · rename_i d_ out news hg
    split at hg
    · rename_i a b r
      cases hg
      obtain ⟨hc, hk⟩ := hk
      refine Eq.mpr (k79 a b r K') ⟨trivial, ⟨⟨trivial, ⟨trivial, trivial⟩⟩, trivial⟩, trivial, ⟨trivial, trivial⟩, trivial, ?_⟩
      · obtain ⟨ha, hb, hr, h0⟩ := hc
        refine bcase_f (bF ⟨ha, hb⟩) (bcase_f (bF hr) ?_)
        have l1 := len46 r hr
        have l2 := sum46 a b ha hb
        refine ⟨⟨trivial, trivial⟩, hr, ⟨trivial, trivial⟩, ⟨by omega, by have := hr.2; omega⟩, bcase_t (decide_eq_true h0) ?_⟩
        simp only [Int.toNat_natCast, nv_dg]
        refine ⟨⟨⟨trivial, trivial, trivial⟩, trivial⟩, ⟨ha, hb⟩, ⟨trivial, trivial, trivial⟩, ⟨cn_dg _, cn_dg _, by omega, by omega⟩, ⟨trivial, trivial, trivial⟩, ⟨cn_dg _, cn_dg _, by omega⟩, lfk hk ?_ rfl⟩
        congr 4
        exact decide_eq_decide.2 (ordN_le _ _)
    · cases hg
  · exact hk.elim

end Go.Proofs.YtbolfnkgbjkbjaaGreat.AM
end
section
set_option linter.unusedVariables false
set_option linter.unusedSimpArgs false
namespace Go.Proofs.YtbolfnkgbjkbjaaGreat.AM
open Go Go.RowKit
set_option maxRecDepth 100000

/-- Sums of numbers with signs. -/
def smS (s t : Bool) (A B : Nat) : Bool := bif s == t then s else bif decide (B ≤ A) then s else t
def smM (s t : Bool) (A B : Nat) : Nat := bif s == t then A + B else bif decide (B ≤ A) then A - B else B - A
def sgI (s : Bool) (A : Nat) : Int := bif s then -(A : Int) else (A : Int)
theorem sm_val (s t : Bool) (A B : Nat) : sgI (smS s t A B) (smM s t A B) = sgI s A + sgI t B := by
  by_cases h : B ≤ A
  · cases s <;> cases t <;> simp [smS, smM, sgI, h] <;> omega
  · cases s <;> cases t <;> simp [smS, smM, sgI, h] <;> omega
theorem rndD_floor (s : Bool) (M : Nat) : rndD s M 65536 = sgI s M / 65536 := by
  cases s
  · simp only [rndD, sgI, cond_false]; omega
  · simp only [rndD, sgI, cond_true]
    split <;> omega
theorem sgn_mul (a c : Int) : sgI (decide (a < 0) != decide (c < 0)) (a.natAbs * c.natAbs) = a * c := by
  have h1 : (a.natAbs : Int) = a ∨ (a.natAbs : Int) = -a := by omega
  by_cases ha : a < 0 <;> by_cases hc : c < 0
  · rw [decide_eq_true ha, decide_eq_true hc]
    simp only [sgI, bne_self_eq_false, cond_false, Int.natCast_mul]
    rw [show (a.natAbs : Int) = -a by omega, show (c.natAbs : Int) = -c by omega, Int.neg_mul_neg]
  · rw [decide_eq_true ha, decide_eq_false hc]
    simp only [sgI, show (true != false) = true from rfl, cond_true, Int.natCast_mul]
    rw [show (a.natAbs : Int) = -a by omega, show (c.natAbs : Int) = c by omega, Int.neg_mul, Int.neg_neg]
  · rw [decide_eq_false ha, decide_eq_true hc]
    simp only [sgI, show (false != true) = true from rfl, cond_true, Int.natCast_mul]
    rw [show (a.natAbs : Int) = a by omega, show (c.natAbs : Int) = -c by omega, Int.mul_neg, Int.neg_neg]
  · rw [decide_eq_false ha, decide_eq_false hc]
    simp only [sgI, bne_self_eq_false, cond_false, Int.natCast_mul]
    rw [show (a.natAbs : Int) = a by omega, show (c.natAbs : Int) = c by omega]
theorem dot_val (a b c d : Int) : rndD (smS (decide (a < 0) != decide (c < 0)) (decide (b < 0) != decide (d < 0)) (a.natAbs * c.natAbs) (b.natAbs * d.natAbs)) (smM (decide (a < 0) != decide (c < 0)) (decide (b < 0) != decide (d < 0)) (a.natAbs * c.natAbs) (b.natAbs * d.natAbs)) 65536 = (a * c + b * d) / 65536 := by
  rw [rndD_floor, sm_val, sgn_mul, sgn_mul]
theorem rndD_le (s : Bool) (M : Nat) (h : fixOk (rndD s M 65536)) : M / 65536 < 1152921504606846976 := by
  have h1 := h.1
  have h2 := h.2
  cases s
  · simp only [rndD, cond_false] at h1 h2; omega
  · simp only [rndD, cond_true] at h1 h2
    split at h1 <;> omega
theorem smM_le (s t : Bool) (A B : Nat) : smM s t A B ≤ A + B := by
  unfold smM
  cases s == t
  · simp only [cond_false]
    cases decide (B ≤ A)
    · simp only [cond_false]; omega
    · simp only [cond_true]; omega
  · simp only [cond_true]; omega

/-- Scale, cut -/
def g90 : GSpec := fun args obs => match args, obs with
  | [.int .i64 a, .int .i64 n, .int .i64 d, .int .i64 0], [] => some (fixOk a ∧ (0 ≤ n ∧ n ≤ 2147483648) ∧ (0 < d ∧ d ≤ 2147483648) ∧ fixOk (rndC (decide (a < 0)) (a.natAbs * n.natAbs) d.natAbs), .ret (.tup [i64 (rndC (decide (a < 0)) (a.natAbs * n.natAbs) d.natAbs), i64 0]), [])
  | _, _ => none
theorem k90 (a n d : Int) (K' : Out → List Ob → Prop) : runFn (Z11c) (DZ10) noIv a90 [.int .i64 a, .int .i64 n, .int .i64 d, .int .i64 0] (lookO []) 0 (closeK K') =
    ((True ∧ True) ∧
    (True) ∧
    (True ∧ True) ∧
    (True) ∧
    bcase (!decide ((-70368744177664 : Int) ≤ a ∧ a ≤ (70368744177664 : Int)))
     (K' (Out.ret (V.tup [V.int IntKind.i64 (0 : Int), V.int IntKind.i64 (2 : Int)])) [])
     ((True ∧ True ∧ True ∧ True) ∧
     (True) ∧
     bcase (bif false then true else !decide ((-2147483648 : Int) ≤ n ∧ n ≤ (2147483648 : Int)))
      (K' (Out.ret (V.tup [V.int IntKind.i64 (0 : Int), V.int IntKind.i64 (2 : Int)])) [])
      ((True ∧ True ∧ True ∧ True) ∧
      (True) ∧
      bcase (bif false then true else !decide ((-2147483648 : Int) ≤ d ∧ d ≤ (2147483648 : Int)))
       (K' (Out.ret (V.tup [V.int IntKind.i64 (0 : Int), V.int IntKind.i64 (2 : Int)])) [])
       (bcase (d == (0 : Int))
        (K' (Out.ret (V.tup [V.int IntKind.i64 (0 : Int), V.int IntKind.i64 (10 : Int)])) [])
        ((True ∧ True) ∧
        (fixOk a) ∧
        (True ∧ True) ∧
        ((0 : Int) ≤ (↑a.natAbs : Int) ∧ (↑a.natAbs : Int) < (9223372036854775808 : Int)) ∧
        (True ∧ True) ∧
        (((0 : Int) ≤ if IntKind.i64.wrap ((0 : Int) - n) > n then IntKind.i64.wrap ((0 : Int) - n) else n) ∧
  (if IntKind.i64.wrap ((0 : Int) - n) > n then IntKind.i64.wrap ((0 : Int) - n) else n) < (9223372036854775808 : Int)) ∧
        (True ∧ True ∧ True) ∧
        (Cn (dg (↑a.natAbs : Int).toNat) ∧
  Cn (dg (if IntKind.i64.wrap ((0 : Int) - n) > n then IntKind.i64.wrap ((0 : Int) - n) else n).toNat) ∧
    (dg (↑a.natAbs : Int).toNat).length < (100000 : Nat) ∧
      (dg (if IntKind.i64.wrap ((0 : Int) - n) > n then IntKind.i64.wrap ((0 : Int) - n) else n).toNat).length <
        (100000 : Nat)) ∧
        (True ∧ True) ∧
        (((0 : Int) ≤ if IntKind.i64.wrap ((0 : Int) - d) > d then IntKind.i64.wrap ((0 : Int) - d) else d) ∧
  (if IntKind.i64.wrap ((0 : Int) - d) > d then IntKind.i64.wrap ((0 : Int) - d) else d) < (9223372036854775808 : Int)) ∧
        (True ∧ True ∧ True ∧ True ∧ True) ∧
        (Cn
    (dg
      (nv (dg (↑a.natAbs : Int).toNat) *
        nv (dg (if IntKind.i64.wrap ((0 : Int) - n) > n then IntKind.i64.wrap ((0 : Int) - n) else n).toNat))) ∧
  Cn (dg (if IntKind.i64.wrap ((0 : Int) - d) > d then IntKind.i64.wrap ((0 : Int) - d) else d).toNat) ∧
    (dg
            (nv (dg (↑a.natAbs : Int).toNat) *
              nv
                (dg
                  (if IntKind.i64.wrap ((0 : Int) - n) > n then IntKind.i64.wrap ((0 : Int) - n)
                    else n).toNat))).length <
        (1000 : Nat) ∧
      (dg (if IntKind.i64.wrap ((0 : Int) - d) > d then IntKind.i64.wrap ((0 : Int) - d) else d).toNat).length <
          (1000 : Nat) ∧
        (0 : Nat) <
            nv (dg (if IntKind.i64.wrap ((0 : Int) - d) > d then IntKind.i64.wrap ((0 : Int) - d) else d).toNat) ∧
          nv
                (dg
                  (nv (dg (↑a.natAbs : Int).toNat) *
                    nv
                      (dg
                        (if IntKind.i64.wrap ((0 : Int) - n) > n then IntKind.i64.wrap ((0 : Int) - n)
                          else n).toNat))) /
              nv (dg (if IntKind.i64.wrap ((0 : Int) - d) > d then IntKind.i64.wrap ((0 : Int) - d) else d).toNat) <
            (1152921504606846976 : Nat)) ∧
        (True ∧ True ∧ True) ∧
        (True) ∧
        K'
  (Out.ret
    (V.tup
      [V.int IntKind.i64
          (bif
              true &&
                decide
                  (fixOk
                    (rndC (!(!decide (a < (0 : Int)) == decide (n < (0 : Int))) == decide (d < (0 : Int)))
                      (nv
                        (dg
                          (nv (dg (↑a.natAbs : Int).toNat) *
                            nv
                              (dg
                                (if IntKind.i64.wrap ((0 : Int) - n) > n then IntKind.i64.wrap ((0 : Int) - n)
                                  else n).toNat))))
                      (nv
                        (dg
                          (if IntKind.i64.wrap ((0 : Int) - d) > d then IntKind.i64.wrap ((0 : Int) - d)
                            else d).toNat)))) then
            rndC (!(!decide (a < (0 : Int)) == decide (n < (0 : Int))) == decide (d < (0 : Int)))
              (nv
                (dg
                  (nv (dg (↑a.natAbs : Int).toNat) *
                    nv
                      (dg
                        (if IntKind.i64.wrap ((0 : Int) - n) > n then IntKind.i64.wrap ((0 : Int) - n) else n).toNat))))
              (nv (dg (if IntKind.i64.wrap ((0 : Int) - d) > d then IntKind.i64.wrap ((0 : Int) - d) else d).toNat))
          else (0 : Int)),
        V.int IntKind.i64
          (bif
              true &&
                decide
                  (fixOk
                    (rndC (!(!decide (a < (0 : Int)) == decide (n < (0 : Int))) == decide (d < (0 : Int)))
                      (nv
                        (dg
                          (nv (dg (↑a.natAbs : Int).toNat) *
                            nv
                              (dg
                                (if IntKind.i64.wrap ((0 : Int) - n) > n then IntKind.i64.wrap ((0 : Int) - n)
                                  else n).toNat))))
                      (nv
                        (dg
                          (if IntKind.i64.wrap ((0 : Int) - d) > d then IntKind.i64.wrap ((0 : Int) - d)
                            else d).toNat)))) then
            (0 : Int)
          else (4 : Int))]))
  []))))) := by kernel_rfl
theorem r90 : FreshOk Tryz.prog 90 (ofD g90) := by
  refine fresh_of_run Z11c_ok DZ10_ok (fun _ _ => noIv) Tryz.func90 c90 fun args obs K' hk => ?_
  unfold ofD g90 at hk
  split at hk
  · rename_i d_ out news hg
    split at hg
    · rename_i a n d
      cases hg
      obtain ⟨hc, hk⟩ := hk
      refine Eq.mpr (k90 a n d K') ⟨⟨trivial, trivial⟩, trivial, ⟨trivial, trivial⟩, trivial, ?_⟩
      · obtain ⟨ha, ⟨hn0, hn1⟩, ⟨hd0, hd1⟩, hf⟩ := hc
        have hnf : fixOk n := ⟨by omega, by omega⟩
        have hdf : fixOk d := ⟨by omega, by omega⟩
        refine bcase_f (bF ha) ⟨⟨trivial, trivial, trivial, trivial⟩, trivial, bcase_f (bF ⟨by omega, hn1⟩) ⟨⟨trivial, trivial, trivial, trivial⟩, trivial, bcase_f (bF ⟨by omega, hd1⟩) (bcase_f (beq_eq_false_iff_ne.2 (by omega)) ?_)⟩⟩
        have l1 := len46 a ha
        have l2 := len46 n hnf
        have l3 := sq46 a n ha hnf
        have l4 := len46 d hdf
        have en : (if IntKind.i64.wrap (0 - n) > n then IntKind.i64.wrap (0 - n) else n) = ((n.natAbs : Nat) : Int) := by
          rw [IntWalk.i64_in _ (by omega), if_neg (by omega)]
          omega
        have ed : (if IntKind.i64.wrap (0 - d) > d then IntKind.i64.wrap (0 - d) else d) = ((d.natAbs : Nat) : Int) := by
          rw [IntWalk.i64_in _ (by omega), if_neg (by omega)]
          omega
        have hq : a.natAbs * n.natAbs / d.natAbs < 1152921504606846976 := by
          have h := hf
          simp only [rndC] at h
          generalize a.natAbs * n.natAbs / d.natAbs = Q at *
          generalize decide (a < 0) = s at h
          have h1 := h.1
          have h2 := h.2
          cases s
          · have h2 : (Q : Int) ≤ 70368744177664 := h2
            omega
          · have h1 : -70368744177664 ≤ -(Q : Int) := h1
            omega
        simp only [en, ed]
        simp only [Int.toNat_natCast, nv_dg]
        have es : (!((!(decide (a < 0) == decide (n < 0))) == decide (d < 0))) = decide (a < 0) := by
          rw [decide_eq_false (show ¬ n < 0 by omega), decide_eq_false (show ¬ d < 0 by omega)]
          cases decide (a < 0) <;> rfl
        simp only [es]
        have hf' : decide (fixOk (rndC (decide (a < 0)) (a.natAbs * n.natAbs) d.natAbs)) = true := decide_eq_true hf
        refine ⟨⟨trivial, trivial⟩, ha, ⟨trivial, trivial⟩, ⟨by omega, by have := ha.1; have := ha.2; omega⟩, ⟨trivial, trivial⟩, ⟨by omega, by omega⟩, ⟨trivial, trivial, trivial⟩, ⟨cn_dg _, cn_dg _, by omega, by omega⟩, ⟨trivial, trivial⟩, ⟨by omega, by omega⟩, ⟨trivial, trivial, trivial, trivial, trivial⟩, ⟨cn_dg _, cn_dg _, by omega, by omega, by omega, hq⟩, ⟨trivial, trivial, trivial⟩, trivial, lfk hk ?_ rfl⟩
        rw [hf']
        rfl
    · cases hg
  · exact hk.elim
def Z12 : Tab := Z11c.add 156 (liftA (ofD g156))
theorem Z12_ok : TabOk Tryz.prog Z12 := Z11c_ok.add (entry_of_fresh r156)
/-- Times, cut -/
def g91 : GSpec := fun args obs => match args, obs with
  | [.agg [.int .i64 x, .int .i64 y], .int .i64 b, .int .i64 0], [] => some ((fixOk x ∧ fixOk y ∧ fixOk b) ∧ fixOk (rndC (decide (x < 0) != decide (b < 0)) (x.natAbs * b.natAbs) 65536) ∧ fixOk (rndC (decide (y < 0) != decide (b < 0)) (y.natAbs * b.natAbs) 65536), .ret (.tup [.agg [i64 (rndC (decide (x < 0) != decide (b < 0)) (x.natAbs * b.natAbs) 65536), i64 (rndC (decide (y < 0) != decide (b < 0)) (y.natAbs * b.natAbs) 65536)], i64 0]), [])
  | _, _ => none
theorem k91 (x y b : Int) (K' : Out → List Ob → Prop) : runFn (Z12) (DZ10) noIv a91 [.agg [.int .i64 x, .int .i64 y], .int .i64 b, .int .i64 0] (lookO []) 0 (closeK K') =
    ((True) ∧
    (True) ∧
    (True ∧ True ∧ True ∧ True) ∧
    (fixOk x ∧ fixOk b ∧ fixOk (rndC (decide (x < (0 : Int)) != decide (b < (0 : Int))) (x.natAbs * b.natAbs) (65536 : Nat))) ∧
    (True ∧ True ∧ True ∧ True) ∧
    (fixOk y ∧ fixOk b ∧ fixOk (rndC (decide (y < (0 : Int)) != decide (b < (0 : Int))) (y.natAbs * b.natAbs) (65536 : Nat))) ∧
    (True ∧ True ∧ True ∧ True ∧ True) ∧
    ((0 : Int) = (0 : Int) ∧ (0 : Int) = (0 : Int)) ∧
    (True) ∧
    K'
  (Out.ret
    (V.tup
      [V.agg
          [V.int IntKind.i64
              (rndC (decide (x < (0 : Int)) != decide (b < (0 : Int))) (x.natAbs * b.natAbs) (65536 : Nat)),
            V.int IntKind.i64
              (rndC (decide (y < (0 : Int)) != decide (b < (0 : Int))) (y.natAbs * b.natAbs) (65536 : Nat))],
        V.int IntKind.i64 (0 : Int)]))
  []) := by kernel_rfl
theorem r91 : FreshOk Tryz.prog 91 (ofD g91) := by
  refine fresh_of_run Z12_ok DZ10_ok (fun _ _ => noIv) Tryz.func91 c91 fun args obs K' hk => ?_
  unfold ofD g91 at hk
  split at hk
  · rename_i d_ out news hg
    split at hg
    · rename_i x y b
      cases hg
      obtain ⟨hc, hk⟩ := hk
      refine Eq.mpr (k91 x y b K') ⟨trivial, trivial, ⟨trivial, ⟨trivial, ⟨trivial, trivial⟩⟩⟩, ?_, ⟨trivial, ⟨trivial, ⟨trivial, trivial⟩⟩⟩, ?_, ⟨trivial, ⟨trivial, ⟨trivial, ⟨trivial, trivial⟩⟩⟩⟩, ?_, trivial, hk⟩
      · first | omega | (simp only [true_and, and_true]; omega) | exact in_fix (by simp) (by simp; omega)
      · first | omega | (simp only [true_and, and_true]; omega) | exact in_fix (by simp) (by simp; omega)
      · first | omega | (simp only [true_and, and_true]; omega) | exact in_fix (by simp) (by simp; omega)
    · cases hg
  · exact hk.elim
def DZ12 : DTab := (((((DZ10).add 153 (viewD g153)).add 152 (viewD g152)).add 130 (viewD g130)).add 155 (viewD g155_1)).add 154 (viewD g154)
theorem DZ12_ok : TabOk Tryz.prog (tabD DZ12) := DTab.add_ok (DTab.add_ok (DTab.add_ok (DTab.add_ok (DTab.add_ok (DZ10_ok) (dok r153)) (dok r152)) (dok r130)) (dok r155_1)) (dok r154)
/-- Dot, down -/
def g89 : GSpec := fun args obs => match args, obs with
  | [.agg [.int .i64 a, .int .i64 b], .agg [.int .i64 c, .int .i64 d], .int .i64 1], [] => some (fixOk a ∧ fixOk b ∧ fixOk c ∧ fixOk d ∧ fixOk ((a * c + b * d) / 65536), .ret (.tup [i64 ((a * c + b * d) / 65536), i64 0]), [])
  | _, _ => none
theorem k89 (a b c d : Int) (K' : Out → List Ob → Prop) : runFn (Z11d) (DZ12) noIv a89 [.agg [.int .i64 a, .int .i64 b], .agg [.int .i64 c, .int .i64 d], .int .i64 1] (lookO []) 0 (closeK K') =
    ((True) ∧
    (True) ∧
    ((True ∧ True ∧ True) ∧ True) ∧
    (True) ∧
    bcase (decide
  (((-70368744177664 : Int) ≤ a ∧ a ≤ (70368744177664 : Int)) ∧
    (-70368744177664 : Int) ≤ b ∧ b ≤ (70368744177664 : Int)))
     (((True ∧ True ∧ True) ∧ True) ∧
     (True) ∧
     (True ∧ True) ∧
     (True) ∧
     bcase (!bif true then
    decide
      (((-70368744177664 : Int) ≤ c ∧ c ≤ (70368744177664 : Int)) ∧
        (-70368744177664 : Int) ≤ d ∧ d ≤ (70368744177664 : Int))
  else false)
      (K' (Out.ret (V.tup [V.int IntKind.i64 (0 : Int), V.int IntKind.i64 (2 : Int)])) [])
      (((True ∧ True ∧ True) ∧ fixOk a ∧ fixOk c) ∧
      ((True ∧ True ∧ True) ∧ fixOk b ∧ fixOk d) ∧
      (((True ∧ True ∧ True) ∧ (True ∧ True ∧ True) ∧ True) ∧
  Cn (dg (a.natAbs * c.natAbs)) ∧
    Cn (dg (b.natAbs * d.natAbs)) ∧
      (dg (a.natAbs * c.natAbs)).length < (1000 : Nat) ∧ (dg (b.natAbs * d.natAbs)).length < (1000 : Nat)) ∧
      (True) ∧
      (True) ∧
      ((True ∧ True) ∧ (0 : Int) ≤ (65536 : Int) ∧ (65536 : Int) < (9223372036854775808 : Int)) ∧
      ((True ∧ True ∧ True ∧ True ∧ True) ∧
  Cn
      (dg
        (bif
            (decide (a < (0 : Int)) != decide (c < (0 : Int))) ==
              (decide (b < (0 : Int)) != decide (d < (0 : Int))) then
          nv (dg (a.natAbs * c.natAbs)) + nv (dg (b.natAbs * d.natAbs))
        else
          bif decide (nv (dg (b.natAbs * d.natAbs)) ≤ nv (dg (a.natAbs * c.natAbs))) then
            nv (dg (a.natAbs * c.natAbs)) - nv (dg (b.natAbs * d.natAbs))
          else nv (dg (b.natAbs * d.natAbs)) - nv (dg (a.natAbs * c.natAbs)))) ∧
    Cn (dg (Int.toNat (65536 : Int))) ∧
      (dg
              (bif
                  (decide (a < (0 : Int)) != decide (c < (0 : Int))) ==
                    (decide (b < (0 : Int)) != decide (d < (0 : Int))) then
                nv (dg (a.natAbs * c.natAbs)) + nv (dg (b.natAbs * d.natAbs))
              else
                bif decide (nv (dg (b.natAbs * d.natAbs)) ≤ nv (dg (a.natAbs * c.natAbs))) then
                  nv (dg (a.natAbs * c.natAbs)) - nv (dg (b.natAbs * d.natAbs))
                else nv (dg (b.natAbs * d.natAbs)) - nv (dg (a.natAbs * c.natAbs)))).length <
          (1000 : Nat) ∧
        (dg (Int.toNat (65536 : Int))).length < (1000 : Nat) ∧
          (0 : Nat) < nv (dg (Int.toNat (65536 : Int))) ∧
            nv
                  (dg
                    (bif
                        (decide (a < (0 : Int)) != decide (c < (0 : Int))) ==
                          (decide (b < (0 : Int)) != decide (d < (0 : Int))) then
                      nv (dg (a.natAbs * c.natAbs)) + nv (dg (b.natAbs * d.natAbs))
                    else
                      bif decide (nv (dg (b.natAbs * d.natAbs)) ≤ nv (dg (a.natAbs * c.natAbs))) then
                        nv (dg (a.natAbs * c.natAbs)) - nv (dg (b.natAbs * d.natAbs))
                      else nv (dg (b.natAbs * d.natAbs)) - nv (dg (a.natAbs * c.natAbs)))) /
                nv (dg (Int.toNat (65536 : Int))) <
              (1152921504606846976 : Nat)) ∧
      ((True ∧ True ∧ True) ∧ True) ∧
      K'
  (Out.ret
    (V.tup
      [V.int IntKind.i64
          (bif
              true &&
                decide
                  (fixOk
                    (rndD
                      (bif
                          (decide (a < (0 : Int)) != decide (c < (0 : Int))) ==
                            (decide (b < (0 : Int)) != decide (d < (0 : Int))) then
                        decide (a < (0 : Int)) != decide (c < (0 : Int))
                      else
                        bif decide (nv (dg (b.natAbs * d.natAbs)) ≤ nv (dg (a.natAbs * c.natAbs))) then
                          decide (a < (0 : Int)) != decide (c < (0 : Int))
                        else decide (b < (0 : Int)) != decide (d < (0 : Int)))
                      (nv
                        (dg
                          (bif
                              (decide (a < (0 : Int)) != decide (c < (0 : Int))) ==
                                (decide (b < (0 : Int)) != decide (d < (0 : Int))) then
                            nv (dg (a.natAbs * c.natAbs)) + nv (dg (b.natAbs * d.natAbs))
                          else
                            bif decide (nv (dg (b.natAbs * d.natAbs)) ≤ nv (dg (a.natAbs * c.natAbs))) then
                              nv (dg (a.natAbs * c.natAbs)) - nv (dg (b.natAbs * d.natAbs))
                            else nv (dg (b.natAbs * d.natAbs)) - nv (dg (a.natAbs * c.natAbs)))))
                      (nv (dg (Int.toNat (65536 : Int)))))) then
            rndD
              (bif
                  (decide (a < (0 : Int)) != decide (c < (0 : Int))) ==
                    (decide (b < (0 : Int)) != decide (d < (0 : Int))) then
                decide (a < (0 : Int)) != decide (c < (0 : Int))
              else
                bif decide (nv (dg (b.natAbs * d.natAbs)) ≤ nv (dg (a.natAbs * c.natAbs))) then
                  decide (a < (0 : Int)) != decide (c < (0 : Int))
                else decide (b < (0 : Int)) != decide (d < (0 : Int)))
              (nv
                (dg
                  (bif
                      (decide (a < (0 : Int)) != decide (c < (0 : Int))) ==
                        (decide (b < (0 : Int)) != decide (d < (0 : Int))) then
                    nv (dg (a.natAbs * c.natAbs)) + nv (dg (b.natAbs * d.natAbs))
                  else
                    bif decide (nv (dg (b.natAbs * d.natAbs)) ≤ nv (dg (a.natAbs * c.natAbs))) then
                      nv (dg (a.natAbs * c.natAbs)) - nv (dg (b.natAbs * d.natAbs))
                    else nv (dg (b.natAbs * d.natAbs)) - nv (dg (a.natAbs * c.natAbs)))))
              (nv (dg (Int.toNat (65536 : Int))))
          else (0 : Int)),
        V.int IntKind.i64
          (bif
              true &&
                decide
                  (fixOk
                    (rndD
                      (bif
                          (decide (a < (0 : Int)) != decide (c < (0 : Int))) ==
                            (decide (b < (0 : Int)) != decide (d < (0 : Int))) then
                        decide (a < (0 : Int)) != decide (c < (0 : Int))
                      else
                        bif decide (nv (dg (b.natAbs * d.natAbs)) ≤ nv (dg (a.natAbs * c.natAbs))) then
                          decide (a < (0 : Int)) != decide (c < (0 : Int))
                        else decide (b < (0 : Int)) != decide (d < (0 : Int)))
                      (nv
                        (dg
                          (bif
                              (decide (a < (0 : Int)) != decide (c < (0 : Int))) ==
                                (decide (b < (0 : Int)) != decide (d < (0 : Int))) then
                            nv (dg (a.natAbs * c.natAbs)) + nv (dg (b.natAbs * d.natAbs))
                          else
                            bif decide (nv (dg (b.natAbs * d.natAbs)) ≤ nv (dg (a.natAbs * c.natAbs))) then
                              nv (dg (a.natAbs * c.natAbs)) - nv (dg (b.natAbs * d.natAbs))
                            else nv (dg (b.natAbs * d.natAbs)) - nv (dg (a.natAbs * c.natAbs)))))
                      (nv (dg (Int.toNat (65536 : Int)))))) then
            (0 : Int)
          else (4 : Int))]))
  []))
     ((True ∧ True) ∧
     (True) ∧
     K' (Out.ret (V.tup [V.int IntKind.i64 (0 : Int), V.int IntKind.i64 (2 : Int)])) [])) := by kernel_rfl
theorem r89 : FreshOk Tryz.prog 89 (ofD g89) := by
  refine fresh_of_run Z11d_ok DZ12_ok (fun _ _ => noIv) Tryz.func89 c89 fun args obs K' hk => ?_
  unfold ofD g89 at hk
  split at hk
  · rename_i d_ out news hg
    split at hg
    · rename_i a b c d
      cases hg
      obtain ⟨hc, hk⟩ := hk
      refine Eq.mpr (k89 a b c d K') ⟨trivial, trivial, ⟨⟨trivial, ⟨trivial, trivial⟩⟩, trivial⟩, trivial, ?_⟩
      · obtain ⟨ha, hb, hc, hd, hf⟩ := hc
        have l1 := sq46 a c ha hc
        have l2 := sq46 b d hb hd
        have l4 : (dg 65536).length ≤ 2 := dg_len 2 _ (by decide)
        have hv := dot_val a b c d
        have hM : smM (decide (a < 0) != decide (c < 0)) (decide (b < 0) != decide (d < 0)) (a.natAbs * c.natAbs) (b.natAbs * d.natAbs) ≤ 9903520314283042199192993792 := by
          refine Nat.le_trans (smM_le _ _ _ _) ?_
          have h3 : a.natAbs * c.natAbs ≤ 70368744177664 * 70368744177664 := Nat.mul_le_mul (by have := ha.1; have := ha.2; omega) (by have := hc.1; have := hc.2; omega)
          have h4 : b.natAbs * d.natAbs ≤ 70368744177664 * 70368744177664 := Nat.mul_le_mul (by have := hb.1; have := hb.2; omega) (by have := hd.1; have := hd.2; omega)
          exact Nat.add_le_add h3 h4
        have hl : (dg (smM (decide (a < 0) != decide (c < 0)) (decide (b < 0) != decide (d < 0)) (a.natAbs * c.natAbs) (b.natAbs * d.natAbs))).length ≤ 9 := dg_len 9 _ (Nat.lt_of_le_of_lt hM (by decide))
        have hq : smM (decide (a < 0) != decide (c < 0)) (decide (b < 0) != decide (d < 0)) (a.natAbs * c.natAbs) (b.natAbs * d.natAbs) / 65536 < 1152921504606846976 := rndD_le _ _ (by rw [hv]; exact hf)
        clear hM
        simp only [smS, smM] at hv hl hq
        refine bcase_t (decide_eq_true ⟨ha, hb⟩) ⟨⟨⟨trivial, trivial, trivial⟩, trivial⟩, trivial, ⟨trivial, trivial⟩, trivial, bcase_f (bF ⟨hc, hd⟩) ?_⟩
        simp only [nv_dg, show Int.toNat 65536 = 65536 from rfl, hv]
        refine ⟨⟨⟨trivial, trivial, trivial⟩, ha, hc⟩, ⟨⟨trivial, trivial, trivial⟩, hb, hd⟩, ⟨⟨⟨trivial, trivial, trivial⟩, ⟨trivial, trivial, trivial⟩, trivial⟩, cn_dg _, cn_dg _, by omega, by omega⟩, trivial, trivial, ⟨⟨trivial, trivial⟩, by decide, by decide⟩, ⟨⟨trivial, trivial, trivial, trivial, trivial⟩, cn_dg _, cn_dg _, by omega, by omega, by decide, hq⟩, ⟨⟨trivial, trivial, trivial⟩, trivial⟩, lfk hk ?_ rfl⟩
        rw [decide_eq_true hf]
        rfl
    · cases hg
  · exact hk.elim

end Go.Proofs.YtbolfnkgbjkbjaaGreat.AM
end
section
set_option linter.unusedVariables false
set_option linter.unusedSimpArgs false
namespace Go.Proofs.YtbolfnkgbjkbjaaGreat.AM
open Go Go.RowKit
set_option maxRecDepth 100000

theorem share_bnd {m S X : Nat} (hS : 0 < S) (hX : X * X ≤ S) (h : m * m * S ≤ 4294967296 * (X * X)) : m ≤ 65536 := by
  refine Nat.le_of_not_lt fun hm => ?_
  have h1 : 65537 * 65537 ≤ m * m := Nat.mul_le_mul hm hm
  have h2 : 65537 * 65537 * S ≤ m * m * S := Nat.mul_le_mul_right _ h1
  omega
theorem share_iff {m S X : Nat} (hS : 0 < S) (hX : X * X ≤ S) : (m * m * S ≤ 4294967296 * (X * X)) ↔ (m ≤ 65536 ∧ ((m : Nat) : Int) * ((m : Nat) : Int) * (S : Int) ≤ 4294967296 * ((X : Int) * (X : Int))) := by
  have e : (((m : Nat) : Int) * ((m : Nat) : Int) * (S : Int) ≤ 4294967296 * ((X : Int) * (X : Int))) ↔ (m * m * S ≤ 4294967296 * (X * X)) := by
    rw [← Int.natCast_mul, ← Int.natCast_mul, ← Int.natCast_mul]
    omega
  rw [e]
  exact ⟨fun h => ⟨share_bnd hS hX h, h⟩, fun h => h.2⟩

abbrev P150_0 (a : Int) (l : List Int) (c x : Nat × Nat) : Prop := x.1 ≤ 65536 ∧ x.2 ≤ 17 ∧ shGo a.natAbs (nv l) x.2 x.1 = shGo a.natAbs (nv l) 17 0
abbrev M150_0 (a : Int) (l : List Int) (x : Nat × Nat) : Nat := x.2
def An150 : List V → List Ob → Ann := fun args obs => match args, obs with
  | [.int .i64 a, .osl 0], [.ro [.int .i64] l] => ⟨Nat × Nat, default, fun nm c x => P150_0 a l c x, fun nm x => M150_0 a l x, fun nm x => [(0, i64 a), (1, .osl 0), (6, .osl 1), (7, i64 x.1), (8, i64 (2 ^ x.2 / 2 : Nat))], fun nm x => [.ro [.int .i64] l, .own 3 [.int .i64] (dg (4294967296 * (a.natAbs * a.natAbs)))]⟩
  | _, _ => noAnn
theorem c150q : chkFn Tryz.prog Tryz.f150 (a150.lq) = true := by kernel_rfl
/-- share -/
def g150 : GSpec := fun args obs => match args, obs with
  | [.int .i64 a, .osl 0], [.ro [.int .i64] l] => some (fixOk a ∧ Cn l ∧ l.length < 100 ∧ 0 < nv l ∧ a.natAbs * a.natAbs ≤ nv l, .ret (i64 (shareS a (nv l))), [])
  | _, _ => none
theorem k150 (a : Int) (l : List Int) (K' : Out → List Ob → Prop) : runQ (Z11c) (DZ10) (An150 [.int .i64 a, .osl 0] [.ro [.int .i64] l]) (a150.lq) [.int .i64 a, .osl 0] (lookO [.ro [.int .i64] l]) 1 (closeK K') =
    ((True ∧ True) ∧
    (fixOk a) ∧
    (True ∧ True) ∧
    ((0 : Int) ≤ (↑a.natAbs : Int) ∧ (↑a.natAbs : Int) < (9223372036854775808 : Int)) ∧
    (True ∧ True ∧ True) ∧
    (Cn (dg (↑a.natAbs : Int).toNat) ∧
  Cn (dg (↑a.natAbs : Int).toNat) ∧
    (dg (↑a.natAbs : Int).toNat).length < (100000 : Nat) ∧ (dg (↑a.natAbs : Int).toNat).length < (100000 : Nat)) ∧
    (True ∧ True ∧ True) ∧
    (Cn (dg (nv (dg (↑a.natAbs : Int).toNat) * nv (dg (↑a.natAbs : Int).toNat))) ∧
  (dg (nv (dg (↑a.natAbs : Int).toNat) * nv (dg (↑a.natAbs : Int).toNat))).length < (10000 : Nat) ∧
    (0 : Int) ≤ (32 : Int) ∧ (32 : Int) ≤ (32 : Int)) ∧
    ((∃ y0 : Nat × Nat,
     (P150_0 a l default y0) ∧
     (((a) = a) ∧
      (True) ∧
      (True) ∧
      ((0 : Int) = (↑y0.fst : Int)) ∧
      ((65536 : Int) = (↑((2 : Nat) ^ y0.snd / (2 : Nat)) : Int)) ∧
      True) ∧
     ((l) = l) ∧
     (((dg ((2 : Nat) ^ Int.toNat (32 : Int) * nv (dg (nv (dg (↑a.natAbs : Int).toNat) * nv (dg (↑a.natAbs : Int).toNat)))))) = dg ((4294967296 : Nat) * (a.natAbs * a.natAbs))) ∧
     True)) ∧
    (∀ (z1 : Nat × Nat),
    ((P150_0 a l default z1) →
    bcase (decide ((↑((2 : Nat) ^ z1.snd / (2 : Nat)) : Int) > (0 : Int)))
     ((True ∧ True) ∧
     ((0 : Int) ≤ IntKind.i64.wrap ((↑z1.fst : Int) + (↑((2 : Nat) ^ z1.snd / (2 : Nat)) : Int)) ∧
  IntKind.i64.wrap ((↑z1.fst : Int) + (↑((2 : Nat) ^ z1.snd / (2 : Nat)) : Int)) < (9223372036854775808 : Int)) ∧
     (True ∧ True ∧ True) ∧
     (Cn (dg (IntKind.i64.wrap ((↑z1.fst : Int) + (↑((2 : Nat) ^ z1.snd / (2 : Nat)) : Int))).toNat) ∧
  Cn (dg (IntKind.i64.wrap ((↑z1.fst : Int) + (↑((2 : Nat) ^ z1.snd / (2 : Nat)) : Int))).toNat) ∧
    (dg (IntKind.i64.wrap ((↑z1.fst : Int) + (↑((2 : Nat) ^ z1.snd / (2 : Nat)) : Int))).toNat).length <
        (100000 : Nat) ∧
      (dg (IntKind.i64.wrap ((↑z1.fst : Int) + (↑((2 : Nat) ^ z1.snd / (2 : Nat)) : Int))).toNat).length <
        (100000 : Nat)) ∧
     (True ∧ True ∧ True) ∧
     (Cn
    (dg
      (nv (dg (IntKind.i64.wrap ((↑z1.fst : Int) + (↑((2 : Nat) ^ z1.snd / (2 : Nat)) : Int))).toNat) *
        nv (dg (IntKind.i64.wrap ((↑z1.fst : Int) + (↑((2 : Nat) ^ z1.snd / (2 : Nat)) : Int))).toNat))) ∧
  Cn l ∧
    (dg
            (nv (dg (IntKind.i64.wrap ((↑z1.fst : Int) + (↑((2 : Nat) ^ z1.snd / (2 : Nat)) : Int))).toNat) *
              nv (dg (IntKind.i64.wrap ((↑z1.fst : Int) + (↑((2 : Nat) ^ z1.snd / (2 : Nat)) : Int))).toNat))).length <
        (100000 : Nat) ∧
      l.length < (100000 : Nat)) ∧
     (True ∧ True ∧ True) ∧
     (Cn
    (dg
      (nv
          (dg
            (nv (dg (IntKind.i64.wrap ((↑z1.fst : Int) + (↑((2 : Nat) ^ z1.snd / (2 : Nat)) : Int))).toNat) *
              nv (dg (IntKind.i64.wrap ((↑z1.fst : Int) + (↑((2 : Nat) ^ z1.snd / (2 : Nat)) : Int))).toNat))) *
        nv l)) ∧
  Cn (dg ((4294967296 : Nat) * (a.natAbs * a.natAbs))) ∧
    (dg
          (nv
              (dg
                (nv (dg (IntKind.i64.wrap ((↑z1.fst : Int) + (↑((2 : Nat) ^ z1.snd / (2 : Nat)) : Int))).toNat) *
                  nv (dg (IntKind.i64.wrap ((↑z1.fst : Int) + (↑((2 : Nat) ^ z1.snd / (2 : Nat)) : Int))).toNat))) *
            nv l)).length <
      (1000000 : Nat)) ∧
     bcase (decide
  (ordN
      (nv
        (dg
          (nv
              (dg
                (nv (dg (IntKind.i64.wrap ((↑z1.fst : Int) + (↑((2 : Nat) ^ z1.snd / (2 : Nat)) : Int))).toNat) *
                  nv (dg (IntKind.i64.wrap ((↑z1.fst : Int) + (↑((2 : Nat) ^ z1.snd / (2 : Nat)) : Int))).toNat))) *
            nv l)))
      (nv (dg ((4294967296 : Nat) * (a.natAbs * a.natAbs)))) ≤
    (0 : Int)))
      (((2 : Int) ≠ (0 : Int)) ∧
      (∃ y3 : Nat × Nat,
      (M150_0 a l y3 < M150_0 a l z1) ∧
      (P150_0 a l default y3) ∧
      (((a) = a) ∧
       (True) ∧
       (True) ∧
       ((IntKind.i64.wrap ((↑z1.fst : Int) + (↑((2 : Nat) ^ z1.snd / (2 : Nat)) : Int))) = (↑y3.fst : Int)) ∧
       ((IntKind.i64.wrap ((↑((2 : Nat) ^ z1.snd / (2 : Nat)) : Int).tdiv (2 : Int))) = (↑((2 : Nat) ^ y3.snd / (2 : Nat)) : Int)) ∧
       True) ∧
      ((l) = l) ∧
      (((dg ((4294967296 : Nat) * (a.natAbs * a.natAbs)))) = dg ((4294967296 : Nat) * (a.natAbs * a.natAbs))) ∧
      True))
      (((2 : Int) ≠ (0 : Int)) ∧
      (∃ y4 : Nat × Nat,
      (M150_0 a l y4 < M150_0 a l z1) ∧
      (P150_0 a l default y4) ∧
      (((a) = a) ∧
       (True) ∧
       (True) ∧
       (((↑z1.fst : Int)) = (↑y4.fst : Int)) ∧
       ((IntKind.i64.wrap ((↑((2 : Nat) ^ z1.snd / (2 : Nat)) : Int).tdiv (2 : Int))) = (↑((2 : Nat) ^ y4.snd / (2 : Nat)) : Int)) ∧
       True) ∧
      ((l) = l) ∧
      (((dg ((4294967296 : Nat) * (a.natAbs * a.natAbs)))) = dg ((4294967296 : Nat) * (a.natAbs * a.natAbs))) ∧
      True)))
     (bcase (decide (a < (0 : Int)))
      (K' (Out.ret (V.int IntKind.i64 (IntKind.i64.wrap ((0 : Int) - (↑z1.fst : Int))))) [])
      (K' (Out.ret (V.int IntKind.i64 (↑z1.fst : Int))) []))))) := by kernel_rfl
theorem r150 : FreshOk Tryz.prog 150 (ofD g150) := by
  refine fresh_of_runQ Z11c_ok DZ10_ok An150 Tryz.func150 c150q fun args obs K' hk => ?_
  unfold ofD g150 at hk
  split at hk
  · rename_i d_ out news hg
    split at hg
    · rename_i a l
      cases hg
      obtain ⟨hc, hk⟩ := hk
      obtain ⟨l, rfl⟩ : ∃ v' : List Int, v' = l := ⟨l, rfl⟩
      refine Eq.mpr (k150 a l K') ?_
      obtain ⟨ha, hl, hlen, hS, hX⟩ := hc
      have l1 := len46 a ha
      have l2 := sq46 a a ha ha
      simp only [Int.toNat_natCast, nv_dg]
      refine ⟨⟨trivial, trivial⟩, ha, ⟨trivial, trivial⟩, ⟨by omega, by have := ha.1; have := ha.2; omega⟩, ⟨trivial, trivial, trivial⟩, ⟨cn_dg _, cn_dg _, by omega, by omega⟩, ⟨trivial, trivial, trivial⟩, ⟨cn_dg _, by omega, by decide, by decide⟩, ⟨(0, 17), ⟨Nat.zero_le _, Nat.le_refl _, rfl⟩, ⟨by trivial, trivial, trivial, by trivial, (by decide : (65536 : Int) = ((2 ^ 17 / 2 : Nat) : Int)), trivial⟩, by trivial, rfl, trivial⟩, ?_⟩
      rintro ⟨n, j⟩ ⟨h1, h2, h3⟩
      dsimp only at h1 h2 h3 ⊢
      have h17 : 2 ^ j ≤ 131072 := Nat.pow_le_pow_right (n := 2) (by decide) h2
      refine bcase_i (fun h => ?_) (fun h => ?_)
      · have h := of_decide_eq_true h
        obtain ⟨j', rfl⟩ : ∃ j', j = j' + 1 := by
          cases j with
          | zero => simp at h
          | succ j' => exact ⟨j', rfl⟩
        have es : 2 ^ (j' + 1) / 2 = 2 ^ j' := by rw [Nat.pow_succ]; omega
        rw [Nat.pow_succ] at h17
        rw [shGo_succ] at h3
        simp only [es] at h ⊢
        have eW : IntKind.i64.wrap ((n : Int) + ((2 ^ j' : Nat) : Int)) = ((n + 2 ^ j' : Nat) : Int) := by rw [IntWalk.i64_in _ (by omega)]; omega
        have eD : IntKind.i64.wrap (((2 ^ j' : Nat) : Int).tdiv 2) = ((2 ^ j' / 2 : Nat) : Int) := by rw [Int.tdiv_eq_ediv_of_nonneg (by omega), IntWalk.i64_in _ (by omega)]; omega
        simp only [eW, eD, Int.toNat_natCast]
        generalize hm : n + 2 ^ j' = m at *
        have hmm : m ≤ 131072 := by omega
        have b1 : (dg m).length ≤ 2 := dg_len 2 _ (by omega)
        have b2 : (dg (m * m)).length ≤ 3 := dg_len 3 _ (Nat.lt_of_le_of_lt (Nat.mul_le_mul hmm hmm) (by decide))
        have b3 : (dg (m * m * nv l)).length ≤ 103 := by
          refine Nat.le_trans (dg_len (3 + l.length) _ ?_) (by omega)
          rw [Nat.pow_add]
          exact Nat.mul_lt_mul'' (Nat.lt_of_le_of_lt (Nat.mul_le_mul hmm hmm) (by decide)) (nv_lt l hl.dig)
        have key := share_iff (m := m) hS hX
        refine ⟨⟨trivial, trivial⟩, ⟨by omega, by omega⟩, ⟨trivial, trivial, trivial⟩, ⟨cn_dg _, cn_dg _, by omega, by omega⟩, ⟨trivial, trivial, trivial⟩, ⟨cn_dg _, hl, by omega, by omega⟩, ⟨trivial, trivial, trivial⟩, ⟨cn_dg _, cn_dg _, by omega⟩, ?_⟩
        refine bcase_i (fun h4 => ?_) (fun h4 => ?_)
        · have h4 := key.1 ((ordN_le _ _).1 (of_decide_eq_true h4))
          rw [if_pos h4] at h3
          exact ⟨by decide, (m, j'), by simp only [M150_0]; omega, ⟨h4.1, by dsimp only; omega, h3⟩, ⟨by trivial, trivial, trivial, by trivial, by trivial, trivial⟩, by trivial, by trivial, trivial⟩
        · have h4 := fun hh => of_decide_eq_false h4 ((ordN_le _ _).2 (key.2 hh))
          rw [if_neg h4] at h3
          exact ⟨by decide, (n, j'), by simp only [M150_0]; omega, ⟨h1, by dsimp only; omega, h3⟩, ⟨by trivial, trivial, trivial, by trivial, by trivial, trivial⟩, by trivial, by trivial, trivial⟩
      · have h := of_decide_eq_false h
        have hj : j = 0 := by
          cases j with
          | zero => rfl
          | succ j' =>
            have := Nat.pow_pos (n := j') (show 0 < 2 by decide)
            rw [Nat.pow_succ] at h
            omega
        subst hj
        have h3 : n = shGo a.natAbs (nv l) 17 0 := h3
        refine bcase_i (fun h5 => ?_) (fun h5 => ?_)
        · have h5 := of_decide_eq_true h5
          exact lfk hk (by rw [shareS, if_pos h5, ← h3, IntWalk.i64_in _ (by omega), Int.zero_sub]) rfl
        · have h5 := of_decide_eq_false h5
          exact lfk hk (by rw [shareS, if_neg h5, ← h3]) rfl
    · cases hg
  · exact hk.elim

end Go.Proofs.YtbolfnkgbjkbjaaGreat.AM
end
section
set_option linter.unusedVariables false
set_option linter.unusedSimpArgs false
namespace Go.Proofs.YtbolfnkgbjkbjaaGreat.AM
open Go Go.RowKit
set_option maxRecDepth 100000

def Z14 : Tab := Z11c.add 150 (liftA (ofD g150))
theorem Z14_ok : TabOk Tryz.prog Z14 := Z11c_ok.add (entry_of_fresh r150)
def DZ14 : DTab := (DZ10).add 150 (viewD g150)
theorem DZ14_ok : TabOk Tryz.prog (tabD DZ14) := DTab.add_ok (DZ10_ok) (dok r150)
/-- Unit -/
def g88 : GSpec := fun args obs => match args, obs with
  | [.agg [.int .i64 x, .int .i64 y]], [] => some ((fixOk x ∧ fixOk y) ∧ 0 < x.natAbs * x.natAbs + y.natAbs * y.natAbs, .ret (.tup [.agg [i64 (shareS x (x.natAbs * x.natAbs + y.natAbs * y.natAbs : Nat)), i64 (shareS y (x.natAbs * x.natAbs + y.natAbs * y.natAbs : Nat))], i64 0]), [])
  | _, _ => none
theorem k88 (x y : Int) (K' : Out → List Ob → Prop) : runFn (Z14) (DZ14) noIv a88 [.agg [.int .i64 x, .int .i64 y]] (lookO []) 0 (closeK K') =
    ((True) ∧
    (True) ∧
    ((True ∧ True ∧ True) ∧ True) ∧
    (True) ∧
    bcase (!decide
    (((-70368744177664 : Int) ≤ x ∧ x ≤ (70368744177664 : Int)) ∧
      (-70368744177664 : Int) ≤ y ∧ y ≤ (70368744177664 : Int)))
     ((True) ∧
     K' (Out.ret (V.tup [V.agg [V.int IntKind.i64 (0 : Int), V.int IntKind.i64 (0 : Int)], V.int IntKind.i64 (2 : Int)])) [])
     (((True ∧ True ∧ True) ∧ True) ∧
     (fixOk x ∧ fixOk y) ∧
     bcase ((↑(dg (x.natAbs * x.natAbs + y.natAbs * y.natAbs)).length : Int) == (0 : Int))
      ((True) ∧
      K' (Out.ret (V.tup [V.agg [V.int IntKind.i64 (0 : Int), V.int IntKind.i64 (0 : Int)], V.int IntKind.i64 (10 : Int)])) [])
      (((True ∧ True ∧ True) ∧
  fixOk x ∧
    Cn (dg (x.natAbs * x.natAbs + y.natAbs * y.natAbs)) ∧
      (dg (x.natAbs * x.natAbs + y.natAbs * y.natAbs)).length < (100 : Nat) ∧
        (0 : Nat) < nv (dg (x.natAbs * x.natAbs + y.natAbs * y.natAbs)) ∧
          x.natAbs * x.natAbs ≤ nv (dg (x.natAbs * x.natAbs + y.natAbs * y.natAbs))) ∧
      ((True ∧ True ∧ True) ∧
  fixOk y ∧
    Cn (dg (x.natAbs * x.natAbs + y.natAbs * y.natAbs)) ∧
      (dg (x.natAbs * x.natAbs + y.natAbs * y.natAbs)).length < (100 : Nat) ∧
        (0 : Nat) < nv (dg (x.natAbs * x.natAbs + y.natAbs * y.natAbs)) ∧
          y.natAbs * y.natAbs ≤ nv (dg (x.natAbs * x.natAbs + y.natAbs * y.natAbs))) ∧
      (True) ∧
      K'
  (Out.ret
    (V.tup
      [V.agg
          [V.int IntKind.i64 (shareS x (↑(nv (dg (x.natAbs * x.natAbs + y.natAbs * y.natAbs))) : Int)),
            V.int IntKind.i64 (shareS y (↑(nv (dg (x.natAbs * x.natAbs + y.natAbs * y.natAbs))) : Int))],
        V.int IntKind.i64 (0 : Int)]))
  []))) := by kernel_rfl
theorem r88 : FreshOk Tryz.prog 88 (ofD g88) := by
  refine fresh_of_run Z14_ok DZ14_ok (fun _ _ => noIv) Tryz.func88 c88 fun args obs K' hk => ?_
  unfold ofD g88 at hk
  split at hk
  · rename_i d_ out news hg
    split at hg
    · rename_i x y
      cases hg
      obtain ⟨hc, hk⟩ := hk
      refine Eq.mpr (k88 x y K') ⟨trivial, trivial, ⟨⟨trivial, ⟨trivial, trivial⟩⟩, trivial⟩, trivial, ?_⟩
      · obtain ⟨⟨hx, hy⟩, h0⟩ := hc
        have l1 := sum46 x y hx hy
        have hne : (dg (x.natAbs * x.natAbs + y.natAbs * y.natAbs)).length ≠ 0 := by
          rw [dg_pos (by omega)]
          simp
        refine bcase_f (bF ⟨hx, hy⟩) ⟨⟨⟨trivial, trivial, trivial⟩, trivial⟩, ⟨hx, hy⟩, bcase_f (beq_eq_false_iff_ne.2 (by omega)) ?_⟩
        simp only [nv_dg]
        exact ⟨⟨⟨trivial, trivial, trivial⟩, hx, cn_dg _, by omega, h0, Nat.le_add_right _ _⟩, ⟨⟨trivial, trivial, trivial⟩, hy, cn_dg _, by omega, h0, Nat.le_add_left _ _⟩, trivial, hk⟩
    · cases hg
  · exact hk.elim

end Go.Proofs.YtbolfnkgbjkbjaaGreat.AM
end
section
set_option linter.unusedVariables false
set_option linter.unusedSimpArgs false
namespace Go.Proofs.YtbolfnkgbjkbjaaGreat.AM
open Go Go.RowKit
set_option maxRecDepth 100000

def Z15 : Tab := noTab.add 79 (liftA (ofD g79))
theorem Z15_ok : TabOk Tryz.prog Z15 := (noTab_ok _).add (entry_of_fresh r79)
/-- touch -/
def g47 : GSpec := fun args obs => match args, obs with
  | [.agg [.int .i64 t1, .int .i64 n1, .int .i64 ax, .int .i64 ay, .int .i64 sx, .int .i64 sy, .int .i64 sp, .bool o1], .agg [.int .i64 t2, .int .i64 n2, .int .i64 bx, .int .i64 cy, .int .i64 ux, .int .i64 uy, .int .i64 up, .bool o2]], [] => some (BodyOk t1 n1 ax ay sx sy sp ∧ BodyOk t2 n2 bx cy ux uy up, .ret (.bool (decide (TouchP ax ay bx cy o1 o2))), [])
  | _, _ => none
theorem k47 (t1 n1 ax ay sx sy sp : Int) (o1 : Bool) (t2 n2 bx cy ux uy up : Int) (o2 : Bool) (K' : Out → List Ob → Prop) : runFn (Z15) (noD) noIv a47 [.agg [.int .i64 t1, .int .i64 n1, .int .i64 ax, .int .i64 ay, .int .i64 sx, .int .i64 sy, .int .i64 sp, .bool o1], .agg [.int .i64 t2, .int .i64 n2, .int .i64 bx, .int .i64 cy, .int .i64 ux, .int .i64 uy, .int .i64 up, .bool o2]] (lookO []) 0 (closeK K') =
    ((True) ∧
    (True) ∧
    (True) ∧
    (True) ∧
    ((True ∧ True ∧ True) ∧ True ∧ True) ∧
    (fixOk (IntKind.i64.wrap (bx - ax)) ∧
  fixOk (IntKind.i64.wrap (cy - ay)) ∧ fixOk (19005440 : Int) ∧ (0 : Int) ≤ (19005440 : Int)) ∧
    bcase (!o1)
     (bcase (bif true then !o2 else false)
      (bcase (bif true then
  decide
    ((IntKind.i64.wrap (bx - ax)).natAbs * (IntKind.i64.wrap (bx - ax)).natAbs +
        (IntKind.i64.wrap (cy - ay)).natAbs * (IntKind.i64.wrap (cy - ay)).natAbs ≤
      Int.natAbs (19005440 : Int) * Int.natAbs (19005440 : Int))
  else false)
       (bcase (IntKind.i64.wrap (bx - ax) != (0 : Int))
        (K' (Out.ret (V.bool (bif true then true else false))) [])
        (K' (Out.ret (V.bool (bif true then bif false then true else IntKind.i64.wrap (cy - ay) != (0 : Int) else false))) []))
       (K' (Out.ret (V.bool false)) []))
      (K' (Out.ret (V.bool false)) []))
     (K' (Out.ret (V.bool false)) [])) := by kernel_rfl
theorem r47 : FreshOk Tryz.prog 47 (ofD g47) := by
  refine fresh_of_run Z15_ok (noD_ok _) (fun _ _ => noIv) Tryz.func47 c47 fun args obs K' hk => ?_
  unfold ofD g47 at hk
  split at hk
  · rename_i d_ out news hg
    split at hg
    · rename_i t1 n1 ax ay sx sy sp o1 t2 n2 bx cy ux uy up o2
      cases hg
      obtain ⟨hc, hk⟩ := hk
      obtain ⟨⟨_, _, ⟨⟨g1, g2⟩, g3, g4⟩, _⟩, ⟨_, _, ⟨⟨g5, g6⟩, g7, g8⟩, _⟩⟩ := hc
      have e1 : IntKind.i64.wrap (bx - ax) = bx - ax := IntWalk.i64_in _ (by omega)
      have e2 : IntKind.i64.wrap (cy - ay) = cy - ay := IntWalk.i64_in _ (by omega)
      have key : ((bx - ax).natAbs * (bx - ax).natAbs + (cy - ay).natAbs * (cy - ay).natAbs ≤ Int.natAbs 19005440 * Int.natAbs 19005440) ↔ (bx - ax) * (bx - ax) + (cy - ay) * (cy - ay) ≤ 361206749593600 := by
        have h1 : ((bx - ax).natAbs : Int) * ((bx - ax).natAbs : Int) = (bx - ax) * (bx - ax) := Int.natAbs_mul_self' _
        have h2 : ((cy - ay).natAbs : Int) * ((cy - ay).natAbs : Int) = (cy - ay) * (cy - ay) := Int.natAbs_mul_self' _
        rw [← h1, ← h2, ← Int.natCast_mul, ← Int.natCast_mul, show Int.natAbs 19005440 * Int.natAbs 19005440 = 361206749593600 by decide]
        omega
      refine Eq.mpr (k47 t1 n1 ax ay sx sy sp o1 t2 n2 bx cy ux uy up o2 K') ⟨trivial, trivial, trivial, trivial, ⟨⟨trivial, ⟨trivial, trivial⟩⟩, ⟨trivial, trivial⟩⟩, ?_, ?_⟩
      · rw [e1, e2]
        exact ⟨⟨by omega, by omega⟩, ⟨by omega, by omega⟩, ⟨by decide, by decide⟩, by decide⟩
      · simp only [e1, e2]
        cases o1
        case true => exact bcase_f rfl (lfb hk (by simp))
        cases o2
        case true => exact bcase_t rfl (bcase_f rfl (lfb hk (by simp)))
        refine bcase_t rfl (bcase_t rfl ?_)
        refine bcase_i (fun h => ?_) (fun h => ?_)
        · have h := key.1 (of_decide_eq_true h)
          refine bcase_i (fun h2 => ?_) (fun h2 => ?_)
          · have h2 : bx - ax ≠ 0 := by simpa using h2
            exact lfb hk (decide_eq_true ⟨⟨rfl, rfl⟩, h, .inl h2⟩).symm
          · have h2 : bx - ax = 0 := by simpa using h2
            refine lfb hk ?_
            by_cases h3 : cy - ay = 0
            · rw [decide_eq_false (fun hh => by rcases hh.2.2 with hh | hh <;> omega)]
              simp [h3]
            · rw [decide_eq_true ⟨⟨rfl, rfl⟩, h, .inr h3⟩]
              simpa using h3
        · have h := fun hh => of_decide_eq_false h (key.2 hh)
          exact lfb hk (decide_eq_false (fun hh => h hh.2.1)).symm
    · cases hg
  · exact hk.elim

end Go.Proofs.YtbolfnkgbjkbjaaGreat.AM
end
