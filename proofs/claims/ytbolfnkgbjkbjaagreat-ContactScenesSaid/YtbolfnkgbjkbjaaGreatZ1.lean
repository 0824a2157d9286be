/- Contracts, part 1: the simple checks of the document. -/
import Derived.Test.YtbolfnkgbjkbjaaGreatS24
set_option linter.unusedVariables false
set_option linter.unusedSimpArgs false
namespace Go.Proofs.YtbolfnkgbjkbjaaGreat.AM
open Go Go.RowKit
set_option maxRecDepth 100000

/-- ref04.Rest -/
def g41 : GSpec := fun args obs => match args, obs with
  | [.agg [.int .i64 ax, .int .i64 ay, .int .i64 sx, .int .i64 sy, .int .i64 sp]], [] => some (True, .ret (.bool (decide (sx = 0 ∧ sy = 0))), [])
  | _, _ => none
theorem k41 (ax ay sx sy sp : Int) (K' : Out → List Ob → Prop) : runFn (noTab) (noD) noIv a41 [.agg [.int .i64 ax, .int .i64 ay, .int .i64 sx, .int .i64 sy, .int .i64 sp]] (lookO []) 0 (closeK K') =
    ((True) ∧
    bcase (sx == (0 : Int))
     (K' (Out.ret (V.bool (bif true then sy == (0 : Int) else false))) [])
     (K' (Out.ret (V.bool false)) [])) := by kernel_rfl
theorem r41 : FreshOk Tryz.prog 41 (ofD g41) := by
  refine fresh_of_run (noTab_ok _) (noD_ok _) (fun _ _ => noIv) Tryz.func41 c41 fun args obs K' hk => ?_
  unfold ofD g41 at hk
  split at hk
  · rename_i d_ out news hg
    split at hg
    · rename_i ax ay sx sy sp
      cases hg
      obtain ⟨hc, hk⟩ := hk
      refine Eq.mpr (k41 ax ay sx sy sp K') ⟨trivial, ?_⟩
      · repeat' first
          | (refine bcase_i (fun h => ?_) (fun h => ?_))
          | (refine And.intro (by first | omega | (simp only [true_and, and_true]; done) | (simp only [true_and, and_true]; omega)) ?_)
          | (intro z ez)
        all_goals
          refine lfb hk ?_
          clear hk
          rw [Bool.eq_iff_iff]
          simp only [cond_true, cond_false, Bool.not_eq_true, Bool.not_eq_false, Bool.not_eq_true', Bool.not_eq_false', Bool.or_eq_true, Bool.and_eq_true, beq_iff_eq, beq_eq_false_iff_ne, bne_iff_ne, decide_eq_true_eq, decide_eq_false_iff_not, decide_true, decide_false, ne_eq, true_iff, false_iff, iff_true, iff_false, reduceCtorEq] at *
          omega
    · cases hg
  · exact hk.elim
/-- ref03.Spot -/
def g127 : GSpec := fun args obs => match args, obs with
  | [.agg [.int .i64 ax, .int .i64 ay]], [] => some (True, .ret (.bool (decide ((-6553600000 ≤ ax ∧ ax ≤ 6553600000) ∧ -6553600000 ≤ ay ∧ ay ≤ 6553600000))), [])
  | _, _ => none
theorem k127 (ax ay : Int) (K' : Out → List Ob → Prop) : runFn (noTab) (noD) noIv a127 [.agg [.int .i64 ax, .int .i64 ay]] (lookO []) 0 (closeK K') =
    ((True) ∧
    bcase (decide (ax ≥ (-6553600000 : Int)))
     (bcase (bif true then decide (ax ≤ (6553600000 : Int)) else false)
      (bcase (bif true then decide (ay ≥ (-6553600000 : Int)) else false)
       (K' (Out.ret (V.bool (bif true then decide (ay ≤ (6553600000 : Int)) else false))) [])
       (K' (Out.ret (V.bool false)) []))
      (K' (Out.ret (V.bool false)) []))
     (K' (Out.ret (V.bool false)) [])) := by kernel_rfl
theorem r127 : FreshOk Tryz.prog 127 (ofD g127) := by
  refine fresh_of_run (noTab_ok _) (noD_ok _) (fun _ _ => noIv) Tryz.func127 c127 fun args obs K' hk => ?_
  unfold ofD g127 at hk
  split at hk
  · rename_i d_ out news hg
    split at hg
    · rename_i ax ay
      cases hg
      obtain ⟨hc, hk⟩ := hk
      refine Eq.mpr (k127 ax ay K') ⟨trivial, ?_⟩
      · repeat' first
          | (refine bcase_i (fun h => ?_) (fun h => ?_))
          | (refine And.intro (by first | omega | (simp only [true_and, and_true]; done) | (simp only [true_and, and_true]; omega)) ?_)
          | (intro z ez)
        all_goals
          refine lfb hk ?_
          clear hk
          rw [Bool.eq_iff_iff]
          simp only [cond_true, cond_false, Bool.not_eq_true, Bool.not_eq_false, Bool.not_eq_true', Bool.not_eq_false', Bool.or_eq_true, Bool.and_eq_true, beq_iff_eq, beq_eq_false_iff_ne, bne_iff_ne, decide_eq_true_eq, decide_eq_false_iff_not, decide_true, decide_false, ne_eq, true_iff, false_iff, iff_true, iff_false, reduceCtorEq] at *
          omega
    · cases hg
  · exact hk.elim
/-- ref01.Valid -/
def g129 : GSpec := fun args obs => match args, obs with
  | [.int .i64 x], [] => some (True, .ret (.bool (decide (-70368744177664 ≤ x ∧ x ≤ 70368744177664))), [])
  | _, _ => none
theorem k129 (x : Int) (K' : Out → List Ob → Prop) : runFn (noTab) (noD) noIv a129 [.int .i64 x] (lookO []) 0 (closeK K') =
    (bcase (decide (x ≥ (-70368744177664 : Int)))
     (K' (Out.ret (V.bool (bif true then decide (x ≤ (70368744177664 : Int)) else false))) [])
     (K' (Out.ret (V.bool false)) [])) := by kernel_rfl
theorem r129 : FreshOk Tryz.prog 129 (ofD g129) := by
  refine fresh_of_run (noTab_ok _) (noD_ok _) (fun _ _ => noIv) Tryz.func129 c129 fun args obs K' hk => ?_
  unfold ofD g129 at hk
  split at hk
  · rename_i d_ out news hg
    split at hg
    · rename_i x
      cases hg
      obtain ⟨hc, hk⟩ := hk
      refine Eq.mpr (k129 x K') ?_
      · repeat' first
          | (refine bcase_i (fun h => ?_) (fun h => ?_))
          | (refine And.intro (by first | omega | (simp only [true_and, and_true]; done) | (simp only [true_and, and_true]; omega)) ?_)
          | (intro z ez)
        all_goals
          refine lfb hk ?_
          clear hk
          rw [Bool.eq_iff_iff]
          simp only [cond_true, cond_false, Bool.not_eq_true, Bool.not_eq_false, Bool.not_eq_true', Bool.not_eq_false', Bool.or_eq_true, Bool.and_eq_true, beq_iff_eq, beq_eq_false_iff_ne, bne_iff_ne, decide_eq_true_eq, decide_eq_false_iff_not, decide_true, decide_false, ne_eq, true_iff, false_iff, iff_true, iff_false, reduceCtorEq] at *
          omega
    · cases hg
  · exact hk.elim
/-- ref01.In -/
def g87 : GSpec := fun args obs => match args, obs with
  | [.int .i64 x, .int .i64 y, .int .i64 z], [] => some (True, .ret (.bool (decide (y ≤ x ∧ x ≤ z))), [])
  | _, _ => none
theorem k87 (x y z : Int) (K' : Out → List Ob → Prop) : runFn (noTab) (noD) noIv a87 [.int .i64 x, .int .i64 y, .int .i64 z] (lookO []) 0 (closeK K') =
    (bcase (decide (y ≤ x))
     (K' (Out.ret (V.bool (bif true then decide (x ≤ z) else false))) [])
     (K' (Out.ret (V.bool false)) [])) := by kernel_rfl
theorem r87 : FreshOk Tryz.prog 87 (ofD g87) := by
  refine fresh_of_run (noTab_ok _) (noD_ok _) (fun _ _ => noIv) Tryz.func87 c87 fun args obs K' hk => ?_
  unfold ofD g87 at hk
  split at hk
  · rename_i d_ out news hg
    split at hg
    · rename_i x y z
      cases hg
      obtain ⟨hc, hk⟩ := hk
      refine Eq.mpr (k87 x y z K') ?_
      · repeat' first
          | (refine bcase_i (fun h => ?_) (fun h => ?_))
          | (refine And.intro (by first | omega | (simp only [true_and, and_true]; done) | (simp only [true_and, and_true]; omega)) ?_)
          | (intro z ez)
        all_goals
          refine lfb hk ?_
          clear hk
          rw [Bool.eq_iff_iff]
          simp only [cond_true, cond_false, Bool.not_eq_true, Bool.not_eq_false, Bool.not_eq_true', Bool.not_eq_false', Bool.or_eq_true, Bool.and_eq_true, beq_iff_eq, beq_eq_false_iff_ne, bne_iff_ne, decide_eq_true_eq, decide_eq_false_iff_not, decide_true, decide_false, ne_eq, true_iff, false_iff, iff_true, iff_false, reduceCtorEq] at *
          omega
    · cases hg
  · exact hk.elim
def Z1a : Tab := (noTab.add 87 (liftA (ofD g87))).add 129 (liftA (ofD g129))
theorem Z1a_ok : TabOk Tryz.prog Z1a := ((noTab_ok _).add (entry_of_fresh r87)).add (entry_of_fresh r129)
/-- ref.in -/
def g54 : GSpec := fun args obs => match args, obs with
  | [.int .i64 x, .int .i64 y, .int .i64 z], [] => some (True, .ret (.bool (decide (y ≤ x ∧ x ≤ z))), [])
  | _, _ => none
theorem k54 (x y z : Int) (K' : Out → List Ob → Prop) : runFn (Z1a) (noD) noIv a54 [.int .i64 x, .int .i64 y, .int .i64 z] (lookO []) 0 (closeK K') =
    ((True ∧ True ∧ True ∧ True) ∧
    (True) ∧
    K' (Out.ret (V.bool (decide (y ≤ x ∧ x ≤ z)))) []) := by kernel_rfl
theorem r54 : FreshOk Tryz.prog 54 (ofD g54) := by
  refine fresh_of_run Z1a_ok (noD_ok _) (fun _ _ => noIv) Tryz.func54 c54 fun args obs K' hk => ?_
  unfold ofD g54 at hk
  split at hk
  · rename_i d_ out news hg
    split at hg
    · rename_i x y z
      cases hg
      obtain ⟨hc, hk⟩ := hk
      refine Eq.mpr (k54 x y z K') ⟨⟨trivial, ⟨trivial, ⟨trivial, trivial⟩⟩⟩, trivial, hk⟩
    · cases hg
  · exact hk.elim
/-- ref.in -/
def g115 : GSpec := fun args obs => match args, obs with
  | [.int .i64 x, .int .i64 y, .int .i64 z], [] => some (True, .ret (.bool (decide (y ≤ x ∧ x ≤ z))), [])
  | _, _ => none
theorem k115 (x y z : Int) (K' : Out → List Ob → Prop) : runFn (Z1a) (noD) noIv a115 [.int .i64 x, .int .i64 y, .int .i64 z] (lookO []) 0 (closeK K') =
    ((True ∧ True ∧ True ∧ True) ∧
    (True) ∧
    K' (Out.ret (V.bool (decide (y ≤ x ∧ x ≤ z)))) []) := by kernel_rfl
theorem r115 : FreshOk Tryz.prog 115 (ofD g115) := by
  refine fresh_of_run Z1a_ok (noD_ok _) (fun _ _ => noIv) Tryz.func115 c115 fun args obs K' hk => ?_
  unfold ofD g115 at hk
  split at hk
  · rename_i d_ out news hg
    split at hg
    · rename_i x y z
      cases hg
      obtain ⟨hc, hk⟩ := hk
      refine Eq.mpr (k115 x y z K') ⟨⟨trivial, ⟨trivial, ⟨trivial, trivial⟩⟩⟩, trivial, hk⟩
    · cases hg
  · exact hk.elim
/-- ref01.Spot -/
def g128 : GSpec := fun args obs => match args, obs with
  | [.agg [.int .i64 ax, .int .i64 ay]], [] => some (True, .ret (.bool (decide ((-70368744177664 ≤ ax ∧ ax ≤ 70368744177664) ∧ -70368744177664 ≤ ay ∧ ay ≤ 70368744177664))), [])
  | _, _ => none
theorem k128 (ax ay : Int) (K' : Out → List Ob → Prop) : runFn (Z1a) (noD) noIv a128 [.agg [.int .i64 ax, .int .i64 ay]] (lookO []) 0 (closeK K') =
    ((True) ∧
    (True ∧ True) ∧
    (True) ∧
    bcase (decide ((-70368744177664 : Int) ≤ ax ∧ ax ≤ (70368744177664 : Int)))
     ((True ∧ True) ∧
     (True) ∧
     K' (Out.ret (V.bool (bif true then decide ((-70368744177664 : Int) ≤ ay ∧ ay ≤ (70368744177664 : Int)) else false))) [])
     (K' (Out.ret (V.bool false)) [])) := by kernel_rfl
theorem r128 : FreshOk Tryz.prog 128 (ofD g128) := by
  refine fresh_of_run Z1a_ok (noD_ok _) (fun _ _ => noIv) Tryz.func128 c128 fun args obs K' hk => ?_
  unfold ofD g128 at hk
  split at hk
  · rename_i d_ out news hg
    split at hg
    · rename_i ax ay
      cases hg
      obtain ⟨hc, hk⟩ := hk
      refine Eq.mpr (k128 ax ay K') ⟨trivial, ⟨trivial, trivial⟩, trivial, ?_⟩
      · repeat' first
          | (refine bcase_i (fun h => ?_) (fun h => ?_))
          | (refine And.intro (by first | omega | (simp only [true_and, and_true]; done) | (simp only [true_and, and_true]; omega)) ?_)
          | (intro z ez)
        all_goals
          refine lfb hk ?_
          clear hk
          rw [Bool.eq_iff_iff]
          simp only [cond_true, cond_false, Bool.not_eq_true, Bool.not_eq_false, Bool.not_eq_true', Bool.not_eq_false', Bool.or_eq_true, Bool.and_eq_true, beq_iff_eq, beq_eq_false_iff_ne, bne_iff_ne, decide_eq_true_eq, decide_eq_false_iff_not, decide_true, decide_false, ne_eq, true_iff, false_iff, iff_true, iff_false, reduceCtorEq] at *
          omega
    · cases hg
  · exact hk.elim
def Z1b_0 : Tab := Z1a.add 54 (liftA (ofD g54))
def Z1b_1 : Tab := Z1b_0.add 115 (liftA (ofD g115))
def Z1b_2 : Tab := Z1b_1.add 127 (liftA (ofD g127))
def Z1b : Tab := Z1b_2.add 41 (liftA (ofD g41))
theorem Z1b_0_ok : TabOk Tryz.prog Z1b_0 := Z1a_ok.add (entry_of_fresh r54)
theorem Z1b_1_ok : TabOk Tryz.prog Z1b_1 := Z1b_0_ok.add (entry_of_fresh r115)
theorem Z1b_2_ok : TabOk Tryz.prog Z1b_2 := Z1b_1_ok.add (entry_of_fresh r127)
theorem Z1b_ok : TabOk Tryz.prog Z1b := Z1b_2_ok.add (entry_of_fresh r41)
/-- ref04.Moving -/
def g78 : GSpec := fun args obs => match args, obs with
  | [.agg [.int .i64 ax, .int .i64 ay, .int .i64 sx, .int .i64 sy, .int .i64 sp]], [] => some (True, .ret (.bool (decide (MovOk ax ay sx sy sp))), [])
  | _, _ => none
theorem k78 (ax ay sx sy sp : Int) (K' : Out → List Ob → Prop) : runFn (Z1b) (noD) noIv a78 [.agg [.int .i64 ax, .int .i64 ay, .int .i64 sx, .int .i64 sy, .int .i64 sp]] (lookO []) 0 (closeK K') =
    ((True) ∧
    bcase (decide (sx ≥ (-65536000 : Int)))
     (bcase (decide (sy ≥ (-65536000 : Int)))
      (bcase (bif true then decide (sx ≤ (65536000 : Int)) else false)
       (bcase (bif true then bif true then decide (sy ≤ (65536000 : Int)) else false else false)
        (((True ∧ True ∧ True) ∧ True) ∧
        (True) ∧
        bcase (bif true then
  decide (((-6553600000 : Int) ≤ ax ∧ ax ≤ (6553600000 : Int)) ∧ (-6553600000 : Int) ≤ ay ∧ ay ≤ (6553600000 : Int))
  else false)
         ((True ∧ True ∧ True ∧ True) ∧
         (True) ∧
         K' (Out.ret (V.bool (bif true then decide ((-1000 : Int) ≤ sp ∧ sp ≤ (1000 : Int)) else false))) [])
         (K' (Out.ret (V.bool false)) []))
        (K' (Out.ret (V.bool false)) []))
       (K' (Out.ret (V.bool false)) []))
      (bcase (bif true then decide (sx ≤ (65536000 : Int)) else false)
       (K' (Out.ret (V.bool false)) [])
       (K' (Out.ret (V.bool false)) [])))
     (bcase (decide (sy ≥ (-65536000 : Int)))
      (K' (Out.ret (V.bool false)) [])
      (K' (Out.ret (V.bool false)) []))) := by kernel_rfl
theorem r78 : FreshOk Tryz.prog 78 (ofD g78) := by
  refine fresh_of_run Z1b_ok (noD_ok _) (fun _ _ => noIv) Tryz.func78 c78 fun args obs K' hk => ?_
  unfold ofD g78 at hk
  split at hk
  · rename_i d_ out news hg
    split at hg
    · rename_i ax ay sx sy sp
      cases hg
      obtain ⟨hc, hk⟩ := hk
      refine Eq.mpr (k78 ax ay sx sy sp K') ⟨trivial, ?_⟩
      · repeat' first
          | (refine bcase_i (fun h => ?_) (fun h => ?_))
          | (refine And.intro (by first | omega | (simp only [true_and, and_true]; done) | (simp only [true_and, and_true]; omega)) ?_)
          | (intro z ez)
        all_goals
          refine lfb hk ?_
          clear hk
          rw [Bool.eq_iff_iff]
          simp only [cond_true, cond_false, Bool.not_eq_true, Bool.not_eq_false, Bool.not_eq_true', Bool.not_eq_false', Bool.or_eq_true, Bool.and_eq_true, beq_iff_eq, beq_eq_false_iff_ne, bne_iff_ne, decide_eq_true_eq, decide_eq_false_iff_not, decide_true, decide_false, ne_eq, true_iff, false_iff, iff_true, iff_false, reduceCtorEq] at *
          omega
    · cases hg
  · exact hk.elim
def Z1 : Tab := Z1b.add 78 (liftA (ofD g78))
theorem Z1_ok : TabOk Tryz.prog Z1 := Z1b_ok.add (entry_of_fresh r78)
/-- ref05.Body -/
def g46 : GSpec := fun args obs => match args, obs with
  | [.agg [.int .i64 tm, .int .i64 n, .int .i64 ax, .int .i64 ay, .int .i64 sx, .int .i64 sy, .int .i64 sp, .bool o]], [] => some (True, .ret (.bool (decide (BodyOk tm n ax ay sx sy sp))), [])
  | _, _ => none
theorem k46 (tm n ax ay sx sy sp : Int) (o : Bool) (K' : Out → List Ob → Prop) : runFn (Z1) (noD) noIv a46 [.agg [.int .i64 tm, .int .i64 n, .int .i64 ax, .int .i64 ay, .int .i64 sx, .int .i64 sy, .int .i64 sp, .bool o]] (lookO []) 0 (closeK K') =
    ((True) ∧
    (True ∧ True ∧ True ∧ True) ∧
    (True) ∧
    bcase (decide ((0 : Int) ≤ tm ∧ tm ≤ (1 : Int)))
     ((True ∧ True ∧ True ∧ True) ∧
     (True) ∧
     bcase (bif true then decide ((0 : Int) ≤ n ∧ n ≤ (7 : Int)) else false)
      (((True ∧ True ∧ True ∧ True ∧ True ∧ True) ∧ True) ∧
      (True) ∧
      K' (Out.ret (V.bool (bif true then decide (MovOk ax ay sx sy sp) else false))) [])
      (K' (Out.ret (V.bool false)) []))
     (K' (Out.ret (V.bool false)) [])) := by kernel_rfl
theorem r46 : FreshOk Tryz.prog 46 (ofD g46) := by
  refine fresh_of_run Z1_ok (noD_ok _) (fun _ _ => noIv) Tryz.func46 c46 fun args obs K' hk => ?_
  unfold ofD g46 at hk
  split at hk
  · rename_i d_ out news hg
    split at hg
    · rename_i tm n ax ay sx sy sp o
      cases hg
      obtain ⟨hc, hk⟩ := hk
      refine Eq.mpr (k46 tm n ax ay sx sy sp o K') ⟨trivial, ⟨trivial, ⟨trivial, ⟨trivial, trivial⟩⟩⟩, trivial, ?_⟩
      · repeat' first
          | (refine bcase_i (fun h => ?_) (fun h => ?_))
          | (refine And.intro (by first | omega | (simp only [true_and, and_true]; done) | (simp only [true_and, and_true]; omega)) ?_)
          | (intro z ez)
        all_goals
          refine lfb hk ?_
          clear hk
          rw [Bool.eq_iff_iff]
          simp only [cond_true, cond_false, Bool.not_eq_true, Bool.not_eq_false, Bool.not_eq_true', Bool.not_eq_false', Bool.or_eq_true, Bool.and_eq_true, beq_iff_eq, beq_eq_false_iff_ne, bne_iff_ne, decide_eq_true_eq, decide_eq_false_iff_not, decide_true, decide_false, ne_eq, true_iff, false_iff, iff_true, iff_false, reduceCtorEq] at *
          omega
    · cases hg
  · exact hk.elim
/-- ref05.gone -/
def g49 : GSpec := fun args obs => match args, obs with
  | [.agg [.int .i64 tm, .int .i64 n, .int .i64 ax, .int .i64 ay, .int .i64 sx, .int .i64 sy, .int .i64 sp, .bool o]], [] => some (True, .ret (.bool (decide ((146145280 ≤ ax ∨ ax ≤ -146145280) ∨ 129368064 < ay ∨ ay < -1977417728))), [])
  | _, _ => none
theorem k49 (tm n ax ay sx sy sp : Int) (o : Bool) (K' : Out → List Ob → Prop) : runFn (Z1) (noD) noIv a49 [.agg [.int .i64 tm, .int .i64 n, .int .i64 ax, .int .i64 ay, .int .i64 sx, .int .i64 sy, .int .i64 sp, .bool o]] (lookO []) 0 (closeK K') =
    ((True) ∧
    bcase (decide (ax ≥ (146145280 : Int)))
     (K' (Out.ret (V.bool true)) [])
     (bcase (bif false then true else decide (ax ≤ IntKind.i64.wrap ((0 : Int) - (146145280 : Int))))
      (K' (Out.ret (V.bool true)) [])
      (bcase (bif false then true else decide (ay > (129368064 : Int)))
       (K' (Out.ret (V.bool true)) [])
       (K' (Out.ret (V.bool (bif false then true else decide (ay < (-1977417728 : Int))))) [])))) := by kernel_rfl
theorem r49 : FreshOk Tryz.prog 49 (ofD g49) := by
  refine fresh_of_run Z1_ok (noD_ok _) (fun _ _ => noIv) Tryz.func49 c49 fun args obs K' hk => ?_
  unfold ofD g49 at hk
  split at hk
  · rename_i d_ out news hg
    split at hg
    · rename_i tm n ax ay sx sy sp o
      cases hg
      obtain ⟨hc, hk⟩ := hk
      refine Eq.mpr (k49 tm n ax ay sx sy sp o K') ⟨trivial, ?_⟩
      · have e : IntKind.i64.wrap ((0 : Int) - 146145280) = -146145280 := by decide
        simp only [e]
        repeat' first
          | (refine bcase_i (fun h => ?_) (fun h => ?_))
          | (refine And.intro (by first | omega | (simp only [true_and, and_true]; done) | (simp only [true_and, and_true]; omega)) ?_)
          | (intro z ez)
        all_goals
          refine lfb hk ?_
          clear hk
          rw [Bool.eq_iff_iff]
          simp only [cond_true, cond_false, Bool.not_eq_true, Bool.not_eq_false, Bool.not_eq_true', Bool.not_eq_false', Bool.or_eq_true, Bool.and_eq_true, beq_iff_eq, beq_eq_false_iff_ne, bne_iff_ne, decide_eq_true_eq, decide_eq_false_iff_not, decide_true, decide_false, ne_eq, true_iff, false_iff, iff_true, iff_false, reduceCtorEq] at *
          omega
    · cases hg
  · exact hk.elim

end Go.Proofs.YtbolfnkgbjkbjaaGreat.AM
