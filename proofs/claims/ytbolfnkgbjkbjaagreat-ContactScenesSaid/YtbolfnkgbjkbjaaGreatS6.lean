/- Contracts, part 6: wide numbers against one another. -/
import Derived.Test.YtbolfnkgbjkbjaaGreatS5
set_option linter.unusedVariables false
set_option linter.unusedSimpArgs false
namespace Go.Proofs.YtbolfnkgbjkbjaaGreat.AM
open Go Go.RowKit
set_option maxRecDepth 100000
/-- wide.compare -/
def g125 : GSpec := fun args obs => match args, obs with
  | [.agg [.int .u64 a, .int .u64 b], .agg [.int .u64 c, .int .u64 d]], [] => some (w64 a ∧ w64 b ∧ w64 c ∧ w64 d, .ret (i64 (cmpI (a * 18446744073709551616 + b) (c * 18446744073709551616 + d))), [])
  | _, _ => none
theorem k125 (a b c d : Int) (K' : Out → List Ob → Prop) : runFn (T4) (D5) noIv a125 [.agg [.int .u64 a, .int .u64 b], .agg [.int .u64 c, .int .u64 d]] (lookO []) 0 (closeK K') =
    ((True) ∧
    (True) ∧
    ((True ∧ True ∧ True) ∧ True) ∧
    ((True ∧ True ∧ True) ∧ True) ∧
    (True) ∧
    ((True ∧ True) ∧
  [if a < c then (-1 : Int) else if a > c then (1 : Int) else (0 : Int),
        if b < d then (-1 : Int) else if b > d then (1 : Int) else (0 : Int)].length <
    (1000000 : Nat)) ∧
    K'
  (Out.ret
    (V.int IntKind.i64
      (firstNZ
        [if a < c then (-1 : Int) else if a > c then (1 : Int) else (0 : Int),
          if b < d then (-1 : Int) else if b > d then (1 : Int) else (0 : Int)])))
  []) := by kernel_rfl
theorem r125 : FreshOk Tryz.prog 125 (ofD g125) := by
  refine fresh_of_run T4_ok D5_ok (fun _ _ => noIv) Tryz.func125 c125 fun args obs K' hk => ?_
  unfold ofD g125 at hk
  split at hk
  · rename_i d_ out news hg
    split at hg
    · rename_i a b c d
      cases hg
      obtain ⟨hc, hk⟩ := hk
      refine Eq.mpr (k125 a b c d K') ⟨trivial, trivial, ⟨⟨trivial, ⟨trivial, trivial⟩⟩, trivial⟩, ⟨⟨trivial, ⟨trivial, trivial⟩⟩, trivial⟩, trivial, ?_, ?_⟩
      · refine ⟨⟨trivial, trivial⟩, ?_⟩
        simp
      · have e : firstNZ [if a < c then -1 else if a > c then 1 else 0, if b < d then -1 else if b > d then 1 else 0] = cmpI (a * 18446744073709551616 + b) (c * 18446744073709551616 + d) := by
          obtain ⟨h1, h2, h3, h4⟩ := hc
          unfold cmpI
          rcases Int.lt_trichotomy a c with h | h | h
          · rw [if_pos h, if_pos (show a * 18446744073709551616 + b < c * 18446744073709551616 + d by omega)]
            simp [firstNZ]
          · subst h
            rw [if_neg (Int.lt_irrefl a), if_neg (Int.lt_irrefl a)]
            simp only [firstNZ]
            by_cases h5 : b < d
            · rw [if_pos h5, if_pos (show a * 18446744073709551616 + b < a * 18446744073709551616 + d by omega)]
              simp
            · rw [if_neg h5, if_neg (show ¬ a * 18446744073709551616 + b < a * 18446744073709551616 + d by omega)]
              by_cases h6 : b > d
              · rw [if_pos h6, if_pos (show a * 18446744073709551616 + b > a * 18446744073709551616 + d by omega)]
                simp
              · rw [if_neg h6, if_neg (show ¬ a * 18446744073709551616 + b > a * 18446744073709551616 + d by omega)]
                simp
          · rw [if_neg (show ¬ a < c by omega), if_pos h, if_neg (show ¬ a * 18446744073709551616 + b < c * 18446744073709551616 + d by omega), if_pos (show a * 18446744073709551616 + b > c * 18446744073709551616 + d by omega)]
            simp [firstNZ]
        rw [← e] at hk
        exact hk
    · cases hg
  · exact hk.elim
def T6 : Tab := ((T4.add 125 (liftA (ofD g125))).add 149 (liftA (ofD g149))).add 50 (liftA (ofD g50))
theorem T6_ok : TabOk Tryz.prog T6 := ((T4_ok.add (entry_of_fresh r125)).add (entry_of_fresh r149)).add (entry_of_fresh r50)
/-- What the drawn regions call. -/
def D6 : DTab := ((((((D5.add 102 (viewD g102)).add 142 (viewD g142)).add 143 (viewD g143)).add 126 (viewD g126)).add 149 (viewD g149)).add 138 (viewD g138)).add 125 (viewD g125)
theorem D6_ok : TabOk Tryz.prog (tabD D6) := DTab.add_ok (DTab.add_ok (DTab.add_ok (DTab.add_ok (DTab.add_ok (DTab.add_ok (DTab.add_ok D5_ok (dok r102)) (dok r142)) (dok r143)) (dok r126)) (dok r149)) (dok r138)) (dok r125)
end Go.Proofs.YtbolfnkgbjkbjaaGreat.AM
