/- Contracts, part 11: shares. -/
import Derived.Test.YtbolfnkgbjkbjaaGreatS10
set_option linter.unusedVariables false
set_option linter.unusedSimpArgs false
namespace Go.Proofs.YtbolfnkgbjkbjaaGreat.AM
open Go Go.RowKit
set_option maxRecDepth 100000
theorem shGo_le (x s : Int) : ∀ (k n : Nat), n ≤ 65536 → shGo x s k n ≤ 65536
  | 0, n, h => h
  | k + 1, n, h => by
    rw [shGo_succ]
    split
    · rename_i h2
      exact shGo_le x s k _ h2.1
    · exact shGo_le x s k _ h
/-- A coordinate's share of a length. -/
def shareS (x s : Int) : Int := if x < 0 then -(shGo x.natAbs s 17 0 : Int) else (shGo x.natAbs s 17 0 : Int)
def D11 : DTab := D6.add 139 (viewD g139)
theorem D11_ok : TabOk Tryz.prog (tabD D11) := DTab.add_ok D6_ok (dok r139)

/-- fixed.Unit$1$1 -/
def g137 : GSpec := fun args obs => match args, obs with
  | [.int .i64 x, .int .i64 y, .ptr 0 0 0 0], [.rv [.int .u64 h, .int .u64 l]] => some (fixOk x ∧ w64 h ∧ w64 l, .ret (i64 (shareS x (h * 18446744073709551616 + l))), [])
  | _, _ => none
theorem k137 (x y h l : Int) (K' : Out → List Ob → Prop) : runFn (T6) (D11) noIv a137 [.int .i64 x, .int .i64 y, .ptr 0 0 0 0] (lookO [.rv [.int .u64 h, .int .u64 l]]) 1 (closeK K') =
    (((True ∧ True) ∧ (-9223372036854775808 : Int) ≤ x ∧ x < (9223372036854775808 : Int)) ∧
    ((True ∧ (True ∧ True ∧ True) ∧ True) ∧ w64 ↑x.natAbs ∧ w64 h ∧ w64 l) ∧
    ((True ∧ True ∧ True) ∧
  (0 : Int) ≤ ↑(shGo (↑x.natAbs) (h * (18446744073709551616 : Int) + l) (17 : Nat) (0 : Nat)) ∧
    ↑(shGo (↑x.natAbs) (h * (18446744073709551616 : Int) + l) (17 : Nat) (0 : Nat)) ≤ (70368744177664 : Int)) ∧
    K'
  (Out.ret
    (V.int IntKind.i64
      (bif decide (x < (0 : Int)) then -↑(shGo (↑x.natAbs) (h * (18446744073709551616 : Int) + l) (17 : Nat) (0 : Nat))
      else ↑(shGo (↑x.natAbs) (h * (18446744073709551616 : Int) + l) (17 : Nat) (0 : Nat)))))
  []) := by kernel_rfl
theorem r137 : FreshOk Tryz.prog 137 (ofD g137) := by
  refine fresh_of_run T6_ok D11_ok (fun _ _ => noIv) Tryz.func137 c137 fun args obs K' hk => ?_
  unfold ofD g137 at hk
  split at hk
  · rename_i d_ out news hg
    split at hg
    · rename_i x y h l
      cases hg
      obtain ⟨hc, hk⟩ := hk
      have hs := shGo_le x.natAbs (h * 18446744073709551616 + l) 17 0 (Nat.zero_le _)
      refine Eq.mpr (k137 x y h l K') ⟨?_, ?_, ?_, ?_⟩
      · first | omega | (simp only [true_and, and_true]; omega) | (refine ⟨by simp, ?_⟩; intro z hz; simp at hz; omega)
      · first | omega | (simp only [true_and, and_true]; omega) | (refine ⟨by simp, ?_⟩; intro z hz; simp at hz; omega)
      · first | omega | (simp only [true_and, and_true]; omega) | (refine ⟨by simp, ?_⟩; intro z hz; simp at hz; omega)
      · unfold shareS at hk
        by_cases h0 : x < 0
        · rw [if_pos h0] at hk
          rw [decide_eq_true h0]
          exact hk
        · rw [if_neg h0] at hk
          rw [decide_eq_false h0]
          exact hk
    · cases hg
  · exact hk.elim

end Go.Proofs.YtbolfnkgbjkbjaaGreat.AM
