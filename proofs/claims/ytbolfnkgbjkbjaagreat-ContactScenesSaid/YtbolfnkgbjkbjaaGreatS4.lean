/- Contracts, part 4: wide numbers. -/
import Derived.Test.YtbolfnkgbjkbjaaGreatS3
set_option linter.unusedVariables false
set_option linter.unusedSimpArgs false
namespace Go.Proofs.YtbolfnkgbjkbjaaGreat.AM
open Go Go.RowKit
set_option maxRecDepth 100000
/-- A number of two words. -/
abbrev wd (s : Int) : V := .agg [u64 (s / 18446744073709551616), u64 (s % 18446744073709551616)]
/-- fixed.product -/
def g102 : GSpec := fun args obs => match args, obs with
  | [.int .u64 x, .int .u64 y], [] => some (w64 x ∧ w64 y, .ret (wd (x * y)), [])
  | _, _ => none
theorem k102 (x y : Int) (K' : Out → List Ob → Prop) : runFn (T3) (noD) noIv a102 [.int .u64 x, .int .u64 y] (lookO []) 0 (closeK K') =
    ((True) ∧
    (True ∧ True ∧ True) ∧
    (((0 : Int) ≤ x ∧ x < (18446744073709551616 : Int)) ∧ (0 : Int) ≤ y ∧ y < (18446744073709551616 : Int)) ∧
    (True) ∧
    K'
  (Out.ret
    (V.agg
      [V.int IntKind.u64 (x * y / (18446744073709551616 : Int)),
        V.int IntKind.u64 (x * y % (18446744073709551616 : Int))]))
  []) := by kernel_rfl
theorem r102 : FreshOk Tryz.prog 102 (ofD g102) := by
  refine fresh_of_run T3_ok (noD_ok _) (fun _ _ => noIv) Tryz.func102 c102 fun args obs K' hk => ?_
  unfold ofD g102 at hk
  split at hk
  · rename_i d_ out news hg
    split at hg
    · rename_i x y
      cases hg
      obtain ⟨hc, hk⟩ := hk
      refine Eq.mpr (k102 x y K') ⟨trivial, ⟨trivial, ⟨trivial, trivial⟩⟩, ?_, trivial, hk⟩
      · exact ⟨hc.1, hc.2⟩
    · cases hg
  · exact hk.elim
/-- wide.plus -/
def g142 : GSpec := fun args obs => match args, obs with
  | [.agg [.int .u64 a, .int .u64 b], .agg [.int .u64 c, .int .u64 d]], [] => some ((w64 a ∧ w64 b ∧ w64 c ∧ w64 d) ∧ a + c < 18446744073709551616 - 1, .ret (wd (a * 18446744073709551616 + b + (c * 18446744073709551616 + d))), [])
  | _, _ => none
theorem k142 (a b c d : Int) (K' : Out → List Ob → Prop) : runFn (T3) (noD) noIv a142 [.agg [.int .u64 a, .int .u64 b], .agg [.int .u64 c, .int .u64 d]] (lookO []) 0 (closeK K') =
    ((True) ∧
    (True) ∧
    (True) ∧
    (True ∧ True ∧ True ∧ True) ∧
    ((0 : Int) ≤ b ∧ (0 : Int) ≤ d ∧ (0 : Int) ≤ (0 : Int) ∧ (0 : Int) ≤ (1 : Int)) ∧
    (True ∧ True ∧ True ∧ True) ∧
    ((0 : Int) ≤ a ∧
  (0 : Int) ≤ c ∧
    (0 : Int) ≤ (b + d + (0 : Int)) / (18446744073709551616 : Int) ∧
      (b + d + (0 : Int)) / (18446744073709551616 : Int) ≤ (1 : Int)) ∧
    (True) ∧
    K'
  (Out.ret
    (V.agg
      [V.int IntKind.u64 ((a + c + (b + d + (0 : Int)) / (18446744073709551616 : Int)) % (18446744073709551616 : Int)),
        V.int IntKind.u64 ((b + d + (0 : Int)) % (18446744073709551616 : Int))]))
  []) := by kernel_rfl
theorem r142 : FreshOk Tryz.prog 142 (ofD g142) := by
  refine fresh_of_run T3_ok (noD_ok _) (fun _ _ => noIv) Tryz.func142 c142 fun args obs K' hk => ?_
  unfold ofD g142 at hk
  split at hk
  · rename_i d_ out news hg
    split at hg
    · rename_i a b c d
      cases hg
      obtain ⟨hc, hk⟩ := hk
      obtain ⟨⟨h1, h2, h3, h4⟩, h5⟩ := hc
      refine Eq.mpr (k142 a b c d K') ⟨trivial, trivial, trivial, ⟨trivial, ⟨trivial, ⟨trivial, trivial⟩⟩⟩, ?_, ⟨trivial, ⟨trivial, ⟨trivial, trivial⟩⟩⟩, ?_, trivial, ?_⟩
      · omega
      · omega
      · have e1 : (a + c + (b + d + (0 : Int)) / 18446744073709551616) % 18446744073709551616 = (a * 18446744073709551616 + b + (c * 18446744073709551616 + d)) / 18446744073709551616 := by omega
        have e2 : (b + d + (0 : Int)) % 18446744073709551616 = (a * 18446744073709551616 + b + (c * 18446744073709551616 + d)) % 18446744073709551616 := by omega
        rw [e1, e2]
        exact hk
    · cases hg
  · exact hk.elim
/-- wide.minus -/
def g143 : GSpec := fun args obs => match args, obs with
  | [.agg [.int .u64 a, .int .u64 b], .agg [.int .u64 c, .int .u64 d]], [] => some ((w64 a ∧ w64 b ∧ w64 c ∧ w64 d) ∧ c * 18446744073709551616 + d ≤ a * 18446744073709551616 + b, .ret (wd (a * 18446744073709551616 + b - (c * 18446744073709551616 + d))), [])
  | _, _ => none
theorem k143 (a b c d : Int) (K' : Out → List Ob → Prop) : runFn (T3) (noD) noIv a143 [.agg [.int .u64 a, .int .u64 b], .agg [.int .u64 c, .int .u64 d]] (lookO []) 0 (closeK K') =
    ((True) ∧
    (True) ∧
    (True) ∧
    (True ∧ True ∧ True ∧ True) ∧
    ((0 : Int) ≤ b ∧ (0 : Int) ≤ d ∧ d < (18446744073709551616 : Int) ∧ (0 : Int) ≤ (0 : Int) ∧ (0 : Int) ≤ (1 : Int)) ∧
    (True ∧ True ∧ True ∧ True) ∧
    ((0 : Int) ≤ a ∧
  (0 : Int) ≤ c ∧
    c < (18446744073709551616 : Int) ∧
      ((0 : Int) ≤ if b < d + (0 : Int) then (1 : Int) else (0 : Int)) ∧
        (if b < d + (0 : Int) then (1 : Int) else (0 : Int)) ≤ (1 : Int)) ∧
    (True) ∧
    K'
  (Out.ret
    (V.agg
      [V.int IntKind.u64 ((a - c - if b < d + (0 : Int) then (1 : Int) else (0 : Int)) % (18446744073709551616 : Int)),
        V.int IntKind.u64 ((b - d - (0 : Int)) % (18446744073709551616 : Int))]))
  []) := by kernel_rfl
theorem r143 : FreshOk Tryz.prog 143 (ofD g143) := by
  refine fresh_of_run T3_ok (noD_ok _) (fun _ _ => noIv) Tryz.func143 c143 fun args obs K' hk => ?_
  unfold ofD g143 at hk
  split at hk
  · rename_i d_ out news hg
    split at hg
    · rename_i a b c d
      cases hg
      obtain ⟨hc, hk⟩ := hk
      obtain ⟨⟨h1, h2, h3, h4⟩, h5⟩ := hc
      refine Eq.mpr (k143 a b c d K') ⟨trivial, trivial, trivial, ⟨trivial, ⟨trivial, ⟨trivial, trivial⟩⟩⟩, ?_, ⟨trivial, ⟨trivial, ⟨trivial, trivial⟩⟩⟩, ?_, trivial, ?_⟩
      · omega
      · by_cases h : b < d + (0 : Int)
        · rw [if_pos h]; omega
        · rw [if_neg h]; omega
      · have e1 : (a - c - if b < d + (0 : Int) then (1 : Int) else 0) % 18446744073709551616 = (a * 18446744073709551616 + b - (c * 18446744073709551616 + d)) / 18446744073709551616 := by
          by_cases h : b < d + (0 : Int)
          · rw [if_pos h]; omega
          · rw [if_neg h]; omega
        have e2 : (b - d - (0 : Int)) % 18446744073709551616 = (a * 18446744073709551616 + b - (c * 18446744073709551616 + d)) % 18446744073709551616 := by omega
        rw [e1, e2]
        exact hk
    · cases hg
  · exact hk.elim
/-- cmp.isNaN -/
def g215 : GSpec := fun args obs => match args, obs with
  | [.int .u64 a], [] => some (True, .ret (.bool false), [])
  | _, _ => none
theorem k215 (a : Int) (K' : Out → List Ob → Prop) : runFn (T3) (noD) noIv a215 [.int .u64 a] (lookO []) 0 (closeK K') =
    (K' (Out.ret (V.bool (a != a))) []) := by kernel_rfl
theorem r215 : FreshOk Tryz.prog 215 (ofD g215) := by
  refine fresh_of_run T3_ok (noD_ok _) (fun _ _ => noIv) Tryz.func215 c215 fun args obs K' hk => ?_
  unfold ofD g215 at hk
  split at hk
  · rename_i d_ out news hg
    split at hg
    · rename_i a
      cases hg
      obtain ⟨hc, hk⟩ := hk
      refine Eq.mpr (k215 a K') ?_
      · have e : (a != a) = false := by simp
        rw [e]
        exact hk
    · cases hg
  · exact hk.elim
def T4 : Tab := (((T3.add 102 (liftA (ofD g102))).add 142 (liftA (ofD g142))).add 143 (liftA (ofD g143))).add 215 (liftA (ofD g215))
theorem T4_ok : TabOk Tryz.prog T4 := (((T3_ok.add (entry_of_fresh r102)).add (entry_of_fresh r142)).add (entry_of_fresh r143)).add (entry_of_fresh r215)
end Go.Proofs.YtbolfnkgbjkbjaaGreat.AM
