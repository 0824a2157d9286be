/- Contracts, part 23: Touch, energy, alive. -/
import Derived.Test.YtbolfnkgbjkbjaaGreatS22
set_option linter.unusedVariables false
set_option linter.unusedSimpArgs false
namespace Go.Proofs.YtbolfnkgbjkbjaaGreat.AM
open Go Go.RowKit
set_option maxRecDepth 100000

theorem mabs (s : Int) (h : -65536000 ≤ s ∧ s ≤ 65536000) : IntKind.u64.wrap (if IntKind.i64.wrap (0 - s) > s then IntKind.i64.wrap (0 - s) else s) = s.natAbs := by
  rw [IntWalk.i64_in _ (by omega), IntKind.wrap_u64]
  split <;> omega
theorem lft2 {K' : Out → List Ob → Prop} {j k : IntKind} {a b a' b' : Int} (h : K' (.ret (.tup [.int j a, .int k b])) []) (e1 : a' = a) (e2 : b' = b) : K' (.ret (.tup [.int j a', .int k b'])) [] := by rw [e1, e2]; exact h
theorem lfbi {K' : Out → List Ob → Prop} {k : IntKind} {a a' : Bool} {b b' : Int} (h : K' (.ret (.tup [.bool a, .int k b])) []) (e1 : a' = a) (e2 : b' = b) : K' (.ret (.tup [.bool a', .int k b'])) [] := by rw [e1, e2]; exact h
/-- contact.Touch -/
def g13 : GSpec := fun args obs => match args, obs with
  | [.agg [.int .i64 t1, .int .i64 n1, .int .i64 ax, .int .i64 ay, .int .i64 sx, .int .i64 sy, .int .i64 sp, .bool o1], .agg [.int .i64 t2, .int .i64 n2, .int .i64 bx, .int .i64 cy, .int .i64 ux, .int .i64 uy, .int .i64 up, .bool o2]], [] => some (True, .ret (.tup [.bool (decide (BodyOk t1 n1 ax ay sx sy sp ∧ BodyOk t2 n2 bx cy ux uy up ∧ TouchP ax ay bx cy o1 o2)), i64 (if BodyOk t1 n1 ax ay sx sy sp ∧ BodyOk t2 n2 bx cy ux uy up then 0 else 2)]), [])
  | _, _ => none
theorem k13 (t1 n1 ax ay sx sy sp : Int) (o1 : Bool) (t2 n2 bx cy ux uy up : Int) (o2 : Bool) (K' : Out → List Ob → Prop) : runFn (T22a) (noD) noIv a13 [.agg [.int .i64 t1, .int .i64 n1, .int .i64 ax, .int .i64 ay, .int .i64 sx, .int .i64 sy, .int .i64 sp, .bool o1], .agg [.int .i64 t2, .int .i64 n2, .int .i64 bx, .int .i64 cy, .int .i64 ux, .int .i64 uy, .int .i64 up, .bool o2]] (lookO []) 0 (closeK K') =
    ((True) ∧
    (True) ∧
    (True) ∧
    (True) ∧
    (True) ∧
    (True) ∧
    ((True ∧ True ∧ True ∧ True ∧ True ∧ True ∧ True ∧ True ∧ True) ∧ True) ∧
    (True) ∧
    bcase (!decide (BodyOk t1 n1 ax ay sx sy sp))
     (K' (Out.ret (V.tup [V.bool false, V.int IntKind.i64 (2 : Int)])) [])
     (((True ∧ True ∧ True ∧ True ∧ True ∧ True ∧ True ∧ True ∧ True) ∧ True) ∧
     (True) ∧
     bcase (bif false then true else !decide (BodyOk t2 n2 bx cy ux uy up))
      (K' (Out.ret (V.tup [V.bool false, V.int IntKind.i64 (2 : Int)])) [])
      (((True ∧ True ∧ True ∧ True ∧ True ∧ True ∧ True ∧ True ∧ True) ∧
  (True ∧ True ∧ True ∧ True ∧ True ∧ True ∧ True ∧ True ∧ True) ∧ True) ∧
      ((((-6553600000 : Int) ≤ ax ∧ ax ≤ (6553600000 : Int)) ∧ (-6553600000 : Int) ≤ ay ∧ ay ≤ (6553600000 : Int)) ∧
  ((-6553600000 : Int) ≤ bx ∧ bx ≤ (6553600000 : Int)) ∧ (-6553600000 : Int) ≤ cy ∧ cy ≤ (6553600000 : Int)) ∧
      (∀ (z0 : Bool),
      ((z0 = decide (TouchP ax ay bx cy o1 o2)) →
      K' (Out.ret (V.tup [V.bool z0, V.int IntKind.i64 (0 : Int)])) []))))) := by kernel_rfl
theorem r13 : FreshOk Tryz.prog 13 (ofD g13) := by
  refine fresh_of_run T22a_ok (noD_ok _) (fun _ _ => noIv) Tryz.func13 c13 fun args obs K' hk => ?_
  unfold ofD g13 at hk
  split at hk
  · rename_i d_ out news hg
    split at hg
    · rename_i t1 n1 ax ay sx sy sp o1 t2 n2 bx cy ux uy up o2
      cases hg
      obtain ⟨hc, hk⟩ := hk
      refine Eq.mpr (k13 t1 n1 ax ay sx sy sp o1 t2 n2 bx cy ux uy up o2 K') ⟨trivial, trivial, trivial, trivial, trivial, trivial, ⟨⟨trivial, ⟨trivial, ⟨trivial, ⟨trivial, ⟨trivial, ⟨trivial, ⟨trivial, ⟨trivial, trivial⟩⟩⟩⟩⟩⟩⟩⟩, trivial⟩, trivial, ?_⟩
      · refine bcase_i (fun h => ?_) (fun h => ?_)
        · have h : ¬ BodyOk t1 n1 ax ay sx sy sp := fun hh => by simp [hh] at h
          exact lfbi hk (by simp only [h, false_and, decide_false]) (by rw [if_neg (fun hh => h hh.1)])
        have h : BodyOk t1 n1 ax ay sx sy sp := Decidable.of_not_not fun hh => by simp [hh] at h
        refine And.intro (by first | omega | (simp only [true_and, and_true]; done) | (simp only [true_and, and_true]; omega)) (And.intro True.intro ?_)
        refine bcase_i (fun h' => ?_) (fun h' => ?_)
        · have h' : ¬ BodyOk t2 n2 bx cy ux uy up := fun hh => by simp [hh] at h'
          exact lfbi hk (by simp only [h', false_and, and_false, decide_false]) (by rw [if_neg (fun hh => h' hh.2)])
        have h' : BodyOk t2 n2 bx cy ux uy up := Decidable.of_not_not fun hh => by simp [hh] at h'
        refine And.intro (by first | omega | (simp only [true_and, and_true]; done) | (simp only [true_and, and_true]; omega)) (And.intro (by first | omega | (simp only [true_and, and_true]; done) | (simp only [true_and, and_true]; omega)) ?_)
        intro z ez
        refine lfbi hk ?_ (by rw [if_pos ⟨h, h'⟩])
        rw [ez]
        exact decide_eq_decide.2 ⟨fun hh => ⟨h, h', hh⟩, fun hh => hh.2.2⟩
    · cases hg
  · exact hk.elim
def T23a_0 : Tab := T6.add 195 (absT .all (liftA (ofD g195)))
def T23a : Tab := T23a_0.add 167 (absT .all (liftA (ofD g167)))
theorem T23a_0_ok : TabOk Tryz.prog T23a_0 := T6_ok.add (absT_ok .all (entry_of_fresh r195))
theorem T23a_ok : TabOk Tryz.prog T23a := T23a_0_ok.add (absT_ok .all (entry_of_fresh r167))
/-- besomlaw05.body -/
def g56 : GSpec := fun args obs => match args, obs with
  | [.int .i64 t, .int .i64 y, .int .i64 s], [] => some (True, .ret (.agg [i64 t, i64 0, i64 0, i64 y, i64 0, i64 s, i64 0, .bool false]), [])
  | _, _ => none
theorem k56 (t y s : Int) (K' : Out → List Ob → Prop) : runFn (T23a) (noD) noIv a56 [.int .i64 t, .int .i64 y, .int .i64 s] (lookO []) 0 (closeK K') =
    ((True) ∧
    (True) ∧
    K'
  (Out.ret
    (V.agg
      [V.int IntKind.i64 t, V.int IntKind.i64 (0 : Int), V.int IntKind.i64 (0 : Int), V.int IntKind.i64 y,
        V.int IntKind.i64 (0 : Int), V.int IntKind.i64 s, V.int IntKind.i64 (0 : Int), V.bool false]))
  []) := by kernel_rfl
theorem r56 : FreshOk Tryz.prog 56 (ofD g56) := by
  refine fresh_of_run T23a_ok (noD_ok _) (fun _ _ => noIv) Tryz.func56 c56 fun args obs K' hk => ?_
  unfold ofD g56 at hk
  split at hk
  · rename_i d_ out news hg
    split at hg
    · rename_i t y s
      cases hg
      obtain ⟨hc, hk⟩ := hk
      refine Eq.mpr (k56 t y s K') ⟨trivial, trivial, hk⟩
    · cases hg
  · exact hk.elim
def T23b_0 : Tab := T22.add 13 (liftA (ofD g13))
def T23b_1 : Tab := T23b_0.add 17 (liftA (ofD g17))
def T23b : Tab := T23b_1.add 56 (runFn T23b_1 D22 noIv a56)
theorem T23b_0_ok : TabOk Tryz.prog T23b_0 := T22_ok.add (entry_of_fresh r13)
theorem T23b_1_ok : TabOk Tryz.prog T23b_1 := T23b_0_ok.add (entry_of_fresh r17)
theorem T23b_ok : TabOk Tryz.prog T23b := T23b_1_ok.add (fn_entry T23b_1_ok D22_ok noIv Tryz.func56 c56)
def D23 : DTab := (D22).add 56 (viewD g56)
theorem D23_ok : TabOk Tryz.prog (tabD D23) := DTab.add_ok (D22_ok) (dok r56)

end Go.Proofs.YtbolfnkgbjkbjaaGreat.AM
