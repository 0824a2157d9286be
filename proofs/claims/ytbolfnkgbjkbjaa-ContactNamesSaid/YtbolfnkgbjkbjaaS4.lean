/- Contracts, part 4: wide numbers. -/
import Derived.Test.YtbolfnkgbjkbjaaS3
set_option linter.unusedVariables false
set_option linter.unusedSimpArgs false
namespace Go.Proofs.Ytbolfnkgbjkbjaa.AM
open Go Go.RowKit
set_option maxRecDepth 100000
/-- A number of two words. -/
abbrev wd (s : Int) : V := .agg [u64 (s / 18446744073709551616), u64 (s % 18446744073709551616)]
/-- fixed.product -/
def g43 : GSpec := fun args obs => match args, obs with
  | [.int .u64 x, .int .u64 y], [] => some (w64 x ∧ w64 y, .ret (wd (x * y)), [])
  | _, _ => none
theorem k43 (x y : Int) (K' : Out → List Ob → Prop) : runFn (T3) (noD) noIv a43 [.int .u64 x, .int .u64 y] (lookO []) 0 (closeK K') =
    ((True) ∧
    (True ∧ True ∧ True) ∧
    (((0 : Int) ≤ x ∧ x < (18446744073709551616 : Int)) ∧ (0 : Int) ≤ y ∧ y < (18446744073709551616 : Int)) ∧
    (True) ∧
    K'
  (Out.ret
    (V.agg
      [V.int IntKind.u64 (x * y / (18446744073709551616 : Int)),
        V.int IntKind.u64 (x * y % (18446744073709551616 : Int))]))
  []) := by kernel_rfl
theorem r43 : FreshOk Try.prog 43 (ofD g43) := by
  refine fresh_of_run T3_ok (noD_ok _) (fun _ _ => noIv) Try.func43 c43 fun args obs K' hk => ?_
  unfold ofD g43 at hk
  split at hk
  · rename_i d_ out news hg
    split at hg
    · rename_i x y
      cases hg
      obtain ⟨hc, hk⟩ := hk
      refine Eq.mpr (k43 x y K') ⟨trivial, ⟨trivial, ⟨trivial, trivial⟩⟩, ?_, trivial, hk⟩
      · exact ⟨hc.1, hc.2⟩
    · cases hg
  · exact hk.elim
/-- wide.plus -/
def g55 : GSpec := fun args obs => match args, obs with
  | [.agg [.int .u64 a, .int .u64 b], .agg [.int .u64 c, .int .u64 d]], [] => some ((w64 a ∧ w64 b ∧ w64 c ∧ w64 d) ∧ a + c < 18446744073709551616 - 1, .ret (wd (a * 18446744073709551616 + b + (c * 18446744073709551616 + d))), [])
  | _, _ => none
theorem k55 (a b c d : Int) (K' : Out → List Ob → Prop) : runFn (T3) (noD) noIv a55 [.agg [.int .u64 a, .int .u64 b], .agg [.int .u64 c, .int .u64 d]] (lookO []) 0 (closeK K') =
    ((True) ∧
    (True) ∧
    (True) ∧
    (True ∧ True ∧ True ∧ True) ∧
    ((0 : Int) ≤ b ∧ (0 : Int) ≤ d ∧ (0 : Int) ≤ (0 : Int) ∧ (0 : Int) ≤ (1 : Int)) ∧
    (True ∧ True ∧ True ∧ True) ∧
    ((0 : Int) ≤ a ∧
  (0 : Int) ≤ c ∧
    (0 : Int) ≤ (b + d + (0 : Int)) / (18446744073709551616 : Int) ∧
      (b + d + (0 : Int)) / (18446744073709551616 : Int) ≤ (1 : Int)) ∧
    (True) ∧
    K'
  (Out.ret
    (V.agg
      [V.int IntKind.u64 ((a + c + (b + d + (0 : Int)) / (18446744073709551616 : Int)) % (18446744073709551616 : Int)),
        V.int IntKind.u64 ((b + d + (0 : Int)) % (18446744073709551616 : Int))]))
  []) := by kernel_rfl
theorem r55 : FreshOk Try.prog 55 (ofD g55) := by
  refine fresh_of_run T3_ok (noD_ok _) (fun _ _ => noIv) Try.func55 c55 fun args obs K' hk => ?_
  unfold ofD g55 at hk
  split at hk
  · rename_i d_ out news hg
    split at hg
    · rename_i a b c d
      cases hg
      obtain ⟨hc, hk⟩ := hk
      obtain ⟨⟨h1, h2, h3, h4⟩, h5⟩ := hc
      refine Eq.mpr (k55 a b c d K') ⟨trivial, trivial, trivial, ⟨trivial, ⟨trivial, ⟨trivial, trivial⟩⟩⟩, ?_, ⟨trivial, ⟨trivial, ⟨trivial, trivial⟩⟩⟩, ?_, trivial, ?_⟩
      · omega
      · omega
      · have e1 : (a + c + (b + d + (0 : Int)) / 18446744073709551616) % 18446744073709551616 = (a * 18446744073709551616 + b + (c * 18446744073709551616 + d)) / 18446744073709551616 := by omega
        have e2 : (b + d + (0 : Int)) % 18446744073709551616 = (a * 18446744073709551616 + b + (c * 18446744073709551616 + d)) % 18446744073709551616 := by omega
        rw [e1, e2]
        exact hk
    · cases hg
  · exact hk.elim
/-- wide.minus -/
def g56 : GSpec := fun args obs => match args, obs with
  | [.agg [.int .u64 a, .int .u64 b], .agg [.int .u64 c, .int .u64 d]], [] => some ((w64 a ∧ w64 b ∧ w64 c ∧ w64 d) ∧ c * 18446744073709551616 + d ≤ a * 18446744073709551616 + b, .ret (wd (a * 18446744073709551616 + b - (c * 18446744073709551616 + d))), [])
  | _, _ => none
theorem k56 (a b c d : Int) (K' : Out → List Ob → Prop) : runFn (T3) (noD) noIv a56 [.agg [.int .u64 a, .int .u64 b], .agg [.int .u64 c, .int .u64 d]] (lookO []) 0 (closeK K') =
    ((True) ∧
    (True) ∧
    (True) ∧
    (True ∧ True ∧ True ∧ True) ∧
    ((0 : Int) ≤ b ∧ (0 : Int) ≤ d ∧ d < (18446744073709551616 : Int) ∧ (0 : Int) ≤ (0 : Int) ∧ (0 : Int) ≤ (1 : Int)) ∧
    (True ∧ True ∧ True ∧ True) ∧
    ((0 : Int) ≤ a ∧
  (0 : Int) ≤ c ∧
    c < (18446744073709551616 : Int) ∧
      ((0 : Int) ≤ if b < d + (0 : Int) then (1 : Int) else (0 : Int)) ∧
        (if b < d + (0 : Int) then (1 : Int) else (0 : Int)) ≤ (1 : Int)) ∧
    (True) ∧
    K'
  (Out.ret
    (V.agg
      [V.int IntKind.u64 ((a - c - if b < d + (0 : Int) then (1 : Int) else (0 : Int)) % (18446744073709551616 : Int)),
        V.int IntKind.u64 ((b - d - (0 : Int)) % (18446744073709551616 : Int))]))
  []) := by kernel_rfl
theorem r56 : FreshOk Try.prog 56 (ofD g56) := by
  refine fresh_of_run T3_ok (noD_ok _) (fun _ _ => noIv) Try.func56 c56 fun args obs K' hk => ?_
  unfold ofD g56 at hk
  split at hk
  · rename_i d_ out news hg
    split at hg
    · rename_i a b c d
      cases hg
      obtain ⟨hc, hk⟩ := hk
      obtain ⟨⟨h1, h2, h3, h4⟩, h5⟩ := hc
      refine Eq.mpr (k56 a b c d K') ⟨trivial, trivial, trivial, ⟨trivial, ⟨trivial, ⟨trivial, trivial⟩⟩⟩, ?_, ⟨trivial, ⟨trivial, ⟨trivial, trivial⟩⟩⟩, ?_, trivial, ?_⟩
      · omega
      · by_cases h : b < d + (0 : Int)
        · rw [if_pos h]; omega
        · rw [if_neg h]; omega
      · have e1 : (a - c - if b < d + (0 : Int) then (1 : Int) else 0) % 18446744073709551616 = (a * 18446744073709551616 + b - (c * 18446744073709551616 + d)) / 18446744073709551616 := by
          by_cases h : b < d + (0 : Int)
          · rw [if_pos h]; omega
          · rw [if_neg h]; omega
        have e2 : (b - d - (0 : Int)) % 18446744073709551616 = (a * 18446744073709551616 + b - (c * 18446744073709551616 + d)) % 18446744073709551616 := by omega
        rw [e1, e2]
        exact hk
    · cases hg
  · exact hk.elim
/-- cmp.isNaN -/
def g79 : GSpec := fun args obs => match args, obs with
  | [.int .u64 a], [] => some (True, .ret (.bool false), [])
  | _, _ => none
theorem k79 (a : Int) (K' : Out → List Ob → Prop) : runFn (T3) (noD) noIv a79 [.int .u64 a] (lookO []) 0 (closeK K') =
    (K' (Out.ret (V.bool (a != a))) []) := by kernel_rfl
theorem r79 : FreshOk Try.prog 79 (ofD g79) := by
  refine fresh_of_run T3_ok (noD_ok _) (fun _ _ => noIv) Try.func79 c79 fun args obs K' hk => ?_
  unfold ofD g79 at hk
  split at hk
  · rename_i d_ out news hg
    split at hg
    · rename_i a
      cases hg
      obtain ⟨hc, hk⟩ := hk
      refine Eq.mpr (k79 a K') ?_
      · have e : (a != a) = false := by simp
        rw [e]
        exact hk
    · cases hg
  · exact hk.elim
def T4 : Tab := (((T3.add 43 (liftA (ofD g43))).add 55 (liftA (ofD g55))).add 56 (liftA (ofD g56))).add 79 (liftA (ofD g79))
theorem T4_ok : TabOk Try.prog T4 := (((T3_ok.add (entry_of_fresh r43)).add (entry_of_fresh r55)).add (entry_of_fresh r56)).add (entry_of_fresh r79)
end Go.Proofs.Ytbolfnkgbjkbjaa.AM
