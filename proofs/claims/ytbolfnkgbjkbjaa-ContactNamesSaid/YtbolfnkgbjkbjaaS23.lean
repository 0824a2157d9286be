/- Contracts, part 23: Touch, energy, alive. -/
import Derived.Test.YtbolfnkgbjkbjaaS22
set_option linter.unusedVariables false
set_option linter.unusedSimpArgs false
namespace Go.Proofs.Ytbolfnkgbjkbjaa.AM
open Go Go.RowKit
set_option maxRecDepth 100000

theorem mabs (s : Int) (h : -65536000 ≤ s ∧ s ≤ 65536000) : IntKind.u64.wrap (if IntKind.i64.wrap (0 - s) > s then IntKind.i64.wrap (0 - s) else s) = s.natAbs := by
  rw [IntWalk.i64_in _ (by omega), IntKind.wrap_u64]
  split <;> omega
theorem lft2 {K' : Out → List Ob → Prop} {j k : IntKind} {a b a' b' : Int} (h : K' (.ret (.tup [.int j a, .int k b])) []) (e1 : a' = a) (e2 : b' = b) : K' (.ret (.tup [.int j a', .int k b'])) [] := by rw [e1, e2]; exact h
theorem lfbi {K' : Out → List Ob → Prop} {k : IntKind} {a a' : Bool} {b b' : Int} (h : K' (.ret (.tup [.bool a, .int k b])) []) (e1 : a' = a) (e2 : b' = b) : K' (.ret (.tup [.bool a', .int k b'])) [] := by rw [e1, e2]; exact h
theorem c7u : chkFn Try.prog Try.f7 (a7.unroll 5) = true := by kernel_rfl

/-- contact.Touch -/
def g10 : GSpec := fun args obs => match args, obs with
  | [.agg [.int .i64 t1, .int .i64 n1, .int .i64 ax, .int .i64 ay, .int .i64 sx, .int .i64 sy, .int .i64 sp, .bool o1], .agg [.int .i64 t2, .int .i64 n2, .int .i64 bx, .int .i64 cy, .int .i64 ux, .int .i64 uy, .int .i64 up, .bool o2]], [] => some (True, .ret (.tup [.bool (decide (BodyOk t1 n1 ax ay sx sy sp ∧ BodyOk t2 n2 bx cy ux uy up ∧ TouchP ax ay bx cy o1 o2)), i64 (if BodyOk t1 n1 ax ay sx sy sp ∧ BodyOk t2 n2 bx cy ux uy up then 0 else 2)]), [])
  | _, _ => none
theorem k10 (t1 n1 ax ay sx sy sp : Int) (o1 : Bool) (t2 n2 bx cy ux uy up : Int) (o2 : Bool) (K' : Out → List Ob → Prop) : runFn (T22a) (noD) noIv a10 [.agg [.int .i64 t1, .int .i64 n1, .int .i64 ax, .int .i64 ay, .int .i64 sx, .int .i64 sy, .int .i64 sp, .bool o1], .agg [.int .i64 t2, .int .i64 n2, .int .i64 bx, .int .i64 cy, .int .i64 ux, .int .i64 uy, .int .i64 up, .bool o2]] (lookO []) 0 (closeK K') =
    ((True) ∧
    (True) ∧
    (True) ∧
    (True) ∧
    (True) ∧
    (True) ∧
    ((True ∧ True ∧ True ∧ True ∧ True ∧ True ∧ True ∧ True ∧ True) ∧ True) ∧
    (True) ∧
    bcase (!decide (BodyOk t1 n1 ax ay sx sy sp))
     (K' (Out.ret (V.tup [V.bool false, V.int IntKind.i64 (2 : Int)])) [])
     (((True ∧ True ∧ True ∧ True ∧ True ∧ True ∧ True ∧ True ∧ True) ∧ True) ∧
     (True) ∧
     bcase (bif false then true else !decide (BodyOk t2 n2 bx cy ux uy up))
      (K' (Out.ret (V.tup [V.bool false, V.int IntKind.i64 (2 : Int)])) [])
      (((True ∧ True ∧ True ∧ True ∧ True ∧ True ∧ True ∧ True ∧ True) ∧
  (True ∧ True ∧ True ∧ True ∧ True ∧ True ∧ True ∧ True ∧ True) ∧ True) ∧
      ((((-6553600000 : Int) ≤ ax ∧ ax ≤ (6553600000 : Int)) ∧ (-6553600000 : Int) ≤ ay ∧ ay ≤ (6553600000 : Int)) ∧
  ((-6553600000 : Int) ≤ bx ∧ bx ≤ (6553600000 : Int)) ∧ (-6553600000 : Int) ≤ cy ∧ cy ≤ (6553600000 : Int)) ∧
      (∀ (z0 : Bool),
      ((z0 = decide (TouchP ax ay bx cy o1 o2)) →
      K' (Out.ret (V.tup [V.bool z0, V.int IntKind.i64 (0 : Int)])) []))))) := by kernel_rfl
theorem r10 : FreshOk Try.prog 10 (ofD g10) := by
  refine fresh_of_run T22a_ok (noD_ok _) (fun _ _ => noIv) Try.func10 c10 fun args obs K' hk => ?_
  unfold ofD g10 at hk
  split at hk
  · rename_i d_ out news hg
    split at hg
    · rename_i t1 n1 ax ay sx sy sp o1 t2 n2 bx cy ux uy up o2
      cases hg
      obtain ⟨hc, hk⟩ := hk
      refine Eq.mpr (k10 t1 n1 ax ay sx sy sp o1 t2 n2 bx cy ux uy up o2 K') ⟨trivial, trivial, trivial, trivial, trivial, trivial, ⟨⟨trivial, ⟨trivial, ⟨trivial, ⟨trivial, ⟨trivial, ⟨trivial, ⟨trivial, ⟨trivial, trivial⟩⟩⟩⟩⟩⟩⟩⟩, trivial⟩, trivial, ?_⟩
      · refine bcase_i (fun h => ?_) (fun h => ?_)
        · have h : ¬ BodyOk t1 n1 ax ay sx sy sp := fun hh => by simp [hh] at h
          exact lfbi hk (by simp only [h, false_and, decide_false]) (by rw [if_neg (fun hh => h hh.1)])
        have h : BodyOk t1 n1 ax ay sx sy sp := Decidable.of_not_not fun hh => by simp [hh] at h
        refine And.intro (by first | omega | (simp only [true_and, and_true]; done) | (simp only [true_and, and_true]; omega)) (And.intro True.intro ?_)
        refine bcase_i (fun h' => ?_) (fun h' => ?_)
        · have h' : ¬ BodyOk t2 n2 bx cy ux uy up := fun hh => by simp [hh] at h'
          exact lfbi hk (by simp only [h', false_and, and_false, decide_false]) (by rw [if_neg (fun hh => h' hh.2)])
        have h' : BodyOk t2 n2 bx cy ux uy up := Decidable.of_not_not fun hh => by simp [hh] at h'
        refine And.intro (by first | omega | (simp only [true_and, and_true]; done) | (simp only [true_and, and_true]; omega)) (And.intro (by first | omega | (simp only [true_and, and_true]; done) | (simp only [true_and, and_true]; omega)) ?_)
        intro z ez
        refine lfbi hk ?_ (by rw [if_pos ⟨h, h'⟩])
        rw [ez]
        exact decide_eq_decide.2 ⟨fun hh => ⟨h, h', hh⟩, fun hh => hh.2.2⟩
    · cases hg
  · exact hk.elim
def T23a_0 : Tab := T6.add 8 (absT .all (liftA (ofD g8)))
def T23a : Tab := T23a_0.add 20 (absT .all (liftA (ofD g20)))
theorem T23a_0_ok : TabOk Try.prog T23a_0 := T6_ok.add (absT_ok .all (entry_of_fresh r8))
theorem T23a_ok : TabOk Try.prog T23a := T23a_0_ok.add (absT_ok .all (entry_of_fresh r20))
/-- besomlaw05.energy -/
def g7 : GSpec := fun args obs => match args, obs with
  | [.agg [.int .i64 t1, .int .i64 n1, .int .i64 ax, .int .i64 ay, .int .i64 sx, .int .i64 sy, .int .i64 sp, .bool o1], .agg [.int .i64 t2, .int .i64 n2, .int .i64 bx, .int .i64 cy, .int .i64 ux, .int .i64 uy, .int .i64 up, .bool o2]], [] => some (((-65536000 ≤ sx ∧ sx ≤ 65536000) ∧ (-65536000 ≤ sy ∧ sy ≤ 65536000)) ∧ (-65536000 ≤ ux ∧ ux ≤ 65536000) ∧ (-65536000 ≤ uy ∧ uy ≤ 65536000), .ret (.tup [u64 0, u64 (sx * sx + sy * sy + ux * ux + uy * uy)]), [])
  | _, _ => none
theorem k7 (t1 n1 ax ay sx sy sp : Int) (o1 : Bool) (t2 n2 bx cy ux uy up : Int) (o2 : Bool) (K' : Out → List Ob → Prop) : runFn (T23a) (noD) noIv (a7.unroll 5) [.agg [.int .i64 t1, .int .i64 n1, .int .i64 ax, .int .i64 ay, .int .i64 sx, .int .i64 sy, .int .i64 sp, .bool o1], .agg [.int .i64 t2, .int .i64 n2, .int .i64 bx, .int .i64 cy, .int .i64 ux, .int .i64 uy, .int .i64 up, .bool o2]] (lookO []) 0 (closeK K') =
    ((True) ∧
    (True) ∧
    (True) ∧
    ((0 : Int) ≤ (0 : Int) ∧ (0 : Int) < (4 : Int)) ∧
    ((0 : Nat) < (4 : Nat)) ∧
    (True ∧ True ∧ True) ∧
    (((0 : Int) ≤
      IntKind.u64.wrap
        (if
            IntKind.i64.wrap ((0 : Int) - sx) >
              sx then
          IntKind.i64.wrap ((0 : Int) - sx)
        else sx) ∧
    IntKind.u64.wrap
        (if
            IntKind.i64.wrap ((0 : Int) - sx) >
              sx then
          IntKind.i64.wrap ((0 : Int) - sx)
        else sx) <
      (18446744073709551616 : Int)) ∧
  (0 : Int) ≤
      IntKind.u64.wrap
        (if
            IntKind.i64.wrap ((0 : Int) - sx) >
              sx then
          IntKind.i64.wrap ((0 : Int) - sx)
        else sx) ∧
    IntKind.u64.wrap
        (if
            IntKind.i64.wrap ((0 : Int) - sx) >
              sx then
          IntKind.i64.wrap ((0 : Int) - sx)
        else sx) <
      (18446744073709551616 : Int)) ∧
    (∀ (z0 : Int),
    ((z0 =
  IntKind.u64.wrap
        (if
            IntKind.i64.wrap ((0 : Int) - sx) >
              sx then
          IntKind.i64.wrap ((0 : Int) - sx)
        else sx) *
      IntKind.u64.wrap
        (if
            IntKind.i64.wrap ((0 : Int) - sx) >
              sx then
          IntKind.i64.wrap ((0 : Int) - sx)
        else sx) /
    (18446744073709551616 : Int)) →
    (∀ (z2 : Int),
    ((z2 =
  IntKind.u64.wrap
        (if
            IntKind.i64.wrap ((0 : Int) - sx) >
              sx then
          IntKind.i64.wrap ((0 : Int) - sx)
        else sx) *
      IntKind.u64.wrap
        (if
            IntKind.i64.wrap ((0 : Int) - sx) >
              sx then
          IntKind.i64.wrap ((0 : Int) - sx)
        else sx) %
    (18446744073709551616 : Int)) →
    (True ∧ True ∧ True ∧ True) ∧
    ((0 : Int) ≤ (0 : Int) ∧ (0 : Int) ≤ z2 ∧ (0 : Int) ≤ (0 : Int) ∧ (0 : Int) ≤ (1 : Int)) ∧
    (∀ (z4 : Int),
    ((z4 = ((0 : Int) + z2 + (0 : Int)) % (18446744073709551616 : Int)) →
    (∀ (z6 : Int),
    ((z6 = ((0 : Int) + z2 + (0 : Int)) / (18446744073709551616 : Int)) →
    (True ∧ True ∧ True ∧ True) ∧
    ((0 : Int) ≤ (0 : Int) ∧ (0 : Int) ≤ z0 ∧ (0 : Int) ≤ z6 ∧ z6 ≤ (1 : Int)) ∧
    (∀ (z8 : Int),
    ((z8 = ((0 : Int) + z0 + z6) % (18446744073709551616 : Int)) →
    (∀ (z10 : Int),
    ((z10 = ((0 : Int) + z0 + z6) / (18446744073709551616 : Int)) →
    ((0 : Int) ≤ (1 : Int) ∧
  (1 : Int) < (4 : Int)) ∧
    ((1 : Nat) < (4 : Nat)) ∧
    (True ∧ True ∧ True) ∧
    (((0 : Int) ≤
      IntKind.u64.wrap
        (if
            IntKind.i64.wrap
                ((0 : Int) -
                  sy) >
              sy then
          IntKind.i64.wrap
            ((0 : Int) -
              sy)
        else sy) ∧
    IntKind.u64.wrap
        (if
            IntKind.i64.wrap
                ((0 : Int) -
                  sy) >
              sy then
          IntKind.i64.wrap
            ((0 : Int) -
              sy)
        else sy) <
      (18446744073709551616 : Int)) ∧
  (0 : Int) ≤
      IntKind.u64.wrap
        (if
            IntKind.i64.wrap
                ((0 : Int) -
                  sy) >
              sy then
          IntKind.i64.wrap
            ((0 : Int) -
              sy)
        else sy) ∧
    IntKind.u64.wrap
        (if
            IntKind.i64.wrap
                ((0 : Int) -
                  sy) >
              sy then
          IntKind.i64.wrap
            ((0 : Int) -
              sy)
        else sy) <
      (18446744073709551616 : Int)) ∧
    (∀ (z12 : Int),
    ((z12 =
  IntKind.u64.wrap
        (if
            IntKind.i64.wrap
                ((0 : Int) -
                  sy) >
              sy then
          IntKind.i64.wrap
            ((0 : Int) -
              sy)
        else sy) *
      IntKind.u64.wrap
        (if
            IntKind.i64.wrap
                ((0 : Int) -
                  sy) >
              sy then
          IntKind.i64.wrap
            ((0 : Int) -
              sy)
        else sy) /
    (18446744073709551616 : Int)) →
    (∀ (z14 : Int),
    ((z14 =
  IntKind.u64.wrap
        (if
            IntKind.i64.wrap
                ((0 : Int) -
                  sy) >
              sy then
          IntKind.i64.wrap
            ((0 : Int) -
              sy)
        else sy) *
      IntKind.u64.wrap
        (if
            IntKind.i64.wrap
                ((0 : Int) -
                  sy) >
              sy then
          IntKind.i64.wrap
            ((0 : Int) -
              sy)
        else sy) %
    (18446744073709551616 : Int)) →
    (True ∧ True ∧ True ∧ True) ∧
    ((0 : Int) ≤ z4 ∧ (0 : Int) ≤ z14 ∧ (0 : Int) ≤ (0 : Int) ∧ (0 : Int) ≤ (1 : Int)) ∧
    (∀ (z16 : Int),
    ((z16 = (z4 + z14 + (0 : Int)) % (18446744073709551616 : Int)) →
    (∀ (z18 : Int),
    ((z18 = (z4 + z14 + (0 : Int)) / (18446744073709551616 : Int)) →
    (True ∧ True ∧ True ∧ True) ∧
    ((0 : Int) ≤ z8 ∧ (0 : Int) ≤ z12 ∧ (0 : Int) ≤ z18 ∧ z18 ≤ (1 : Int)) ∧
    (∀ (z20 : Int),
    ((z20 = (z8 + z12 + z18) % (18446744073709551616 : Int)) →
    (∀ (z22 : Int),
    ((z22 = (z8 + z12 + z18) / (18446744073709551616 : Int)) →
    ((0 : Int) ≤ (2 : Int) ∧
  (2 : Int) < (4 : Int)) ∧
    ((2 : Nat) < (4 : Nat)) ∧
    (True ∧ True ∧ True) ∧
    (((0 : Int) ≤
      IntKind.u64.wrap
        (if
            IntKind.i64.wrap
                ((0 : Int) -
                  ux) >
              ux then
          IntKind.i64.wrap
            ((0 : Int) -
              ux)
        else
          ux) ∧
    IntKind.u64.wrap
        (if
            IntKind.i64.wrap
                ((0 : Int) -
                  ux) >
              ux then
          IntKind.i64.wrap
            ((0 : Int) -
              ux)
        else
          ux) <
      (18446744073709551616 : Int)) ∧
  (0 : Int) ≤
      IntKind.u64.wrap
        (if
            IntKind.i64.wrap
                ((0 : Int) -
                  ux) >
              ux then
          IntKind.i64.wrap
            ((0 : Int) -
              ux)
        else
          ux) ∧
    IntKind.u64.wrap
        (if
            IntKind.i64.wrap
                ((0 : Int) -
                  ux) >
              ux then
          IntKind.i64.wrap
            ((0 : Int) -
              ux)
        else
          ux) <
      (18446744073709551616 : Int)) ∧
    (∀ (z24 : Int),
    ((z24 =
  IntKind.u64.wrap
        (if
            IntKind.i64.wrap
                ((0 : Int) -
                  ux) >
              ux then
          IntKind.i64.wrap
            ((0 : Int) -
              ux)
        else
          ux) *
      IntKind.u64.wrap
        (if
            IntKind.i64.wrap
                ((0 : Int) -
                  ux) >
              ux then
          IntKind.i64.wrap
            ((0 : Int) -
              ux)
        else
          ux) /
    (18446744073709551616 : Int)) →
    (∀ (z26 : Int),
    ((z26 =
  IntKind.u64.wrap
        (if
            IntKind.i64.wrap
                ((0 : Int) -
                  ux) >
              ux then
          IntKind.i64.wrap
            ((0 : Int) -
              ux)
        else
          ux) *
      IntKind.u64.wrap
        (if
            IntKind.i64.wrap
                ((0 : Int) -
                  ux) >
              ux then
          IntKind.i64.wrap
            ((0 : Int) -
              ux)
        else
          ux) %
    (18446744073709551616 : Int)) →
    (True ∧ True ∧ True ∧ True) ∧
    ((0 : Int) ≤ z16 ∧ (0 : Int) ≤ z26 ∧ (0 : Int) ≤ (0 : Int) ∧ (0 : Int) ≤ (1 : Int)) ∧
    (∀ (z28 : Int),
    ((z28 = (z16 + z26 + (0 : Int)) % (18446744073709551616 : Int)) →
    (∀ (z30 : Int),
    ((z30 = (z16 + z26 + (0 : Int)) / (18446744073709551616 : Int)) →
    (True ∧ True ∧ True ∧ True) ∧
    ((0 : Int) ≤ z20 ∧ (0 : Int) ≤ z24 ∧ (0 : Int) ≤ z30 ∧ z30 ≤ (1 : Int)) ∧
    (∀ (z32 : Int),
    ((z32 = (z20 + z24 + z30) % (18446744073709551616 : Int)) →
    (∀ (z34 : Int),
    ((z34 = (z20 + z24 + z30) / (18446744073709551616 : Int)) →
    ((0 : Int) ≤ (3 : Int) ∧
  (3 : Int) <
    (4 : Int)) ∧
    ((3 : Nat) <
  (4 : Nat)) ∧
    (True ∧ True ∧ True) ∧
    (((0 : Int) ≤
      IntKind.u64.wrap
        (if
            IntKind.i64.wrap
                ((0 : Int) -
                  uy) >
              uy then
          IntKind.i64.wrap
            ((0 : Int) -
              uy)
        else
          uy) ∧
    IntKind.u64.wrap
        (if
            IntKind.i64.wrap
                ((0 : Int) -
                  uy) >
              uy then
          IntKind.i64.wrap
            ((0 : Int) -
              uy)
        else
          uy) <
      (18446744073709551616 : Int)) ∧
  (0 : Int) ≤
      IntKind.u64.wrap
        (if
            IntKind.i64.wrap
                ((0 : Int) -
                  uy) >
              uy then
          IntKind.i64.wrap
            ((0 : Int) -
              uy)
        else
          uy) ∧
    IntKind.u64.wrap
        (if
            IntKind.i64.wrap
                ((0 : Int) -
                  uy) >
              uy then
          IntKind.i64.wrap
            ((0 : Int) -
              uy)
        else
          uy) <
      (18446744073709551616 : Int)) ∧
    (∀ (z36 : Int),
    ((z36 =
  IntKind.u64.wrap
        (if
            IntKind.i64.wrap
                ((0 : Int) -
                  uy) >
              uy then
          IntKind.i64.wrap
            ((0 : Int) -
              uy)
        else
          uy) *
      IntKind.u64.wrap
        (if
            IntKind.i64.wrap
                ((0 : Int) -
                  uy) >
              uy then
          IntKind.i64.wrap
            ((0 : Int) -
              uy)
        else
          uy) /
    (18446744073709551616 : Int)) →
    (∀ (z38 : Int),
    ((z38 =
  IntKind.u64.wrap
        (if
            IntKind.i64.wrap
                ((0 : Int) -
                  uy) >
              uy then
          IntKind.i64.wrap
            ((0 : Int) -
              uy)
        else
          uy) *
      IntKind.u64.wrap
        (if
            IntKind.i64.wrap
                ((0 : Int) -
                  uy) >
              uy then
          IntKind.i64.wrap
            ((0 : Int) -
              uy)
        else
          uy) %
    (18446744073709551616 : Int)) →
    (True ∧ True ∧ True ∧ True) ∧
    ((0 : Int) ≤ z28 ∧ (0 : Int) ≤ z38 ∧ (0 : Int) ≤ (0 : Int) ∧ (0 : Int) ≤ (1 : Int)) ∧
    (∀ (z40 : Int),
    ((z40 = (z28 + z38 + (0 : Int)) % (18446744073709551616 : Int)) →
    (∀ (z42 : Int),
    ((z42 = (z28 + z38 + (0 : Int)) / (18446744073709551616 : Int)) →
    (True ∧ True ∧ True ∧ True) ∧
    ((0 : Int) ≤ z32 ∧ (0 : Int) ≤ z36 ∧ (0 : Int) ≤ z42 ∧ z42 ≤ (1 : Int)) ∧
    (∀ (z44 : Int),
    ((z44 = (z32 + z36 + z42) % (18446744073709551616 : Int)) →
    (∀ (z46 : Int),
    ((z46 = (z32 + z36 + z42) / (18446744073709551616 : Int)) →
    K' (Out.ret (V.tup [V.int IntKind.u64 z44, V.int IntKind.u64 z40])) []))))))))))))))))))))))))))))))))))))))))))))))))) := by kernel_rfl
theorem r7 : FreshOk Try.prog 7 (ofD g7) := by
  refine fresh_of_run T23a_ok (noD_ok _) (fun _ _ => noIv) Try.func7 c7u fun args obs K' hk => ?_
  unfold ofD g7 at hk
  split at hk
  · rename_i d_ out news hg
    split at hg
    · rename_i t1 n1 ax ay sx sy sp o1 t2 n2 bx cy ux uy up o2
      cases hg
      obtain ⟨hc, hk⟩ := hk
      obtain ⟨⟨h1, h2⟩, h3, h4⟩ := hc
      refine Eq.mpr (k7 t1 n1 ax ay sx sy sp o1 t2 n2 bx cy ux uy up o2 K') ⟨trivial, trivial, trivial, ?_, ?_, ⟨trivial, ⟨trivial, trivial⟩⟩, ?_, ?_⟩
      · first | omega | (simp only [true_and, and_true]; omega) | exact in_fix (by simp) (by simp; omega)
      · first | omega | (simp only [true_and, and_true]; omega) | exact in_fix (by simp) (by simp; omega)
      · have m1 := mabs sx h1
        simp only [m1]
        omega
      · have m1 := mabs sx h1
        have m2 := mabs sy h2
        have m3 := mabs ux h3
        have m4 := mabs uy h4
        simp only [m1, m2, m3, m4]
        have e1 : (sx.natAbs : Int) * (sx.natAbs : Int) = sx * sx := Int.natAbs_mul_self' sx
        have e2 : (sy.natAbs : Int) * (sy.natAbs : Int) = sy * sy := Int.natAbs_mul_self' sy
        have e3 : (ux.natAbs : Int) * (ux.natAbs : Int) = ux * ux := Int.natAbs_mul_self' ux
        have e4 : (uy.natAbs : Int) * (uy.natAbs : Int) = uy * uy := Int.natAbs_mul_self' uy
        have q1 := mul_bnd sx sx 65536000 65536000 h1 h1
        have q2 := mul_bnd sy sy 65536000 65536000 h2 h2
        have q3 := mul_bnd ux ux 65536000 65536000 h3 h3
        have q4 := mul_bnd uy uy 65536000 65536000 h4 h4
        rw [← e1, ← e2, ← e3, ← e4] at hk
        clear e1 e2 e3 e4 m1 m2 m3 m4
        generalize (sx.natAbs : Int) * (sx.natAbs : Int) = p1 at *
        generalize (sy.natAbs : Int) * (sy.natAbs : Int) = p2 at *
        generalize (ux.natAbs : Int) * (ux.natAbs : Int) = p3 at *
        generalize (uy.natAbs : Int) * (uy.natAbs : Int) = p4 at *
        repeat' first
          | (refine And.intro (by first | decide | omega | (simp only [true_and, and_true]; done) | (simp only [true_and, and_true]; omega)) ?_)
          | (intro z ez)
        refine lft2 hk ?_ ?_ <;> omega
    · cases hg
  · exact hk.elim
/-- besomlaw05.body -/
def g9 : GSpec := fun args obs => match args, obs with
  | [.int .i64 t, .int .i64 y, .int .i64 s], [] => some (True, .ret (.agg [i64 t, i64 0, i64 0, i64 y, i64 0, i64 s, i64 0, .bool false]), [])
  | _, _ => none
theorem k9 (t y s : Int) (K' : Out → List Ob → Prop) : runFn (T23a) (noD) noIv a9 [.int .i64 t, .int .i64 y, .int .i64 s] (lookO []) 0 (closeK K') =
    ((True) ∧
    (True) ∧
    K'
  (Out.ret
    (V.agg
      [V.int IntKind.i64 t, V.int IntKind.i64 (0 : Int), V.int IntKind.i64 (0 : Int), V.int IntKind.i64 y,
        V.int IntKind.i64 (0 : Int), V.int IntKind.i64 s, V.int IntKind.i64 (0 : Int), V.bool false]))
  []) := by kernel_rfl
theorem r9 : FreshOk Try.prog 9 (ofD g9) := by
  refine fresh_of_run T23a_ok (noD_ok _) (fun _ _ => noIv) Try.func9 c9 fun args obs K' hk => ?_
  unfold ofD g9 at hk
  split at hk
  · rename_i d_ out news hg
    split at hg
    · rename_i t y s
      cases hg
      obtain ⟨hc, hk⟩ := hk
      refine Eq.mpr (k9 t y s K') ⟨trivial, trivial, hk⟩
    · cases hg
  · exact hk.elim
def T23b_0 : Tab := T22.add 10 (liftA (ofD g10))
def T23b_1 : Tab := T23b_0.add 6 (liftA (ofD g6))
def T23b : Tab := T23b_1.add 9 (runFn T23b_1 D22 noIv a9)
theorem T23b_0_ok : TabOk Try.prog T23b_0 := T22_ok.add (entry_of_fresh r10)
theorem T23b_1_ok : TabOk Try.prog T23b_1 := T23b_0_ok.add (entry_of_fresh r6)
theorem T23b_ok : TabOk Try.prog T23b := T23b_1_ok.add (fn_entry T23b_1_ok D22_ok noIv Try.func9 c9)
def D23 : DTab := (D22).add 9 (viewD g9)
theorem D23_ok : TabOk Try.prog (tabD D23) := DTab.add_ok (D22_ok) (dok r9)

end Go.Proofs.Ytbolfnkgbjkbjaa.AM
