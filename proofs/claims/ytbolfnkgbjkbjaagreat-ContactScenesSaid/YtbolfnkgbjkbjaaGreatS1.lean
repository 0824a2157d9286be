/- Contracts, part 1: the numbers of the package fixed. -/
import Derived.Test.YtbolfnkgbjkbjaaGreatFns
import Derived.IntWalk
set_option linter.unusedVariables false
set_option linter.unusedSimpArgs false
namespace Go.Proofs.YtbolfnkgbjkbjaaGreat.AM
open Go Go.RowKit

abbrev u64 (n : Int) : V := .int .u64 n
abbrev i64 (n : Int) : V := .int .i64 n
def noIv : Inv := fun _ _ _ _ => False
/-- fixed.need, where it holds -/
def g100 : GSpec := fun args obs => match args, obs with
  | [.bool b, .int .i64 e], [] => some (b = true, .ret (.tup []), [])
  | _, _ => none
theorem r100 : FreshOk Tryz.prog 100 (ofD g100) := by
  refine fresh_of_run (noTab_ok _) (noD_ok _) (fun _ _ => noIv) Tryz.func100 c100 fun args obs K' hk => ?_
  unfold ofD g100 at hk
  split at hk
  · rename_i d out news hg
    split at hg
    · cases hg
      obtain ⟨rfl, hk⟩ := hk
      exact hk
    · cases hg
  · exact hk.elim
/-- fixed.size -/
def g126 : GSpec := fun args obs => match args, obs with
  | [.int .i64 x], [] => some (-9223372036854775808 ≤ x ∧ x < 9223372036854775808, .ret (u64 x.natAbs), [])
  | _, _ => none
theorem r126 : FreshOk Tryz.prog 126 (ofD g126) := by
  refine fresh_of_run (noTab_ok _) (noD_ok _) (fun _ _ => noIv) Tryz.func126 c126 fun args obs K' hk => ?_
  unfold ofD g126 at hk
  split at hk
  · rename_i d out news hg
    split at hg
    · rename_i x
      cases hg
      obtain ⟨hx, hk⟩ := hk
      have key : ∀ y : Int, y = x.natAbs → closeK K' (.ret (u64 y)) (lookO []) 0 := by
        rintro _ rfl
        exact hk
      refine bcase_i (fun h => ?_) (fun h => ?_)
      · refine key _ ?_
        simp only [decide_eq_true_eq] at h
        rw [IntKind.wrap_u64, IntKind.wrap_u64]
        omega
      · refine key _ ?_
        simp only [decide_eq_false_iff_not] at h
        rw [IntKind.wrap_u64]
        omega
    · cases hg
  · exact hk.elim
def T1 : Tab := (noTab.add 100 (liftA (ofD g100))).add 126 (liftA (ofD g126))
theorem T1_ok : TabOk Tryz.prog T1 := ((noTab_ok _).add (entry_of_fresh r100)).add (entry_of_fresh r126)
/-- fixed.right -/
def g98 : GSpec := fun args obs => match args, obs with
  | [.osl 0], [.ro [.int .i64] l] => some ((l : List Int).length < 1000000 ∧ ∀ x ∈ (l : List Int), -70368744177664 ≤ x ∧ x ≤ 70368744177664, .ret (.tup []), [])
  | _, _ => none
def I41 (obs : List Ob) : Inv := fun _ m sl ob => ∃ (l : List Int) (i : Nat), obs = [.ro [.int .i64] l] ∧ ob = obs ∧ (l.length < 1000000 ∧ ∀ x ∈ l, -70368744177664 ≤ x ∧ x ≤ 70368744177664) ∧ i ≤ l.length ∧ m = l.length - i ∧
  sl = [(4, .osl 0), (5, i64 l.length), (6, i64 i)]
theorem r98 : FreshOk Tryz.prog 98 (ofD g98) := by
  refine fresh_of_run T1_ok (noD_ok _) (fun _ obs => I41 obs) Tryz.func98 c98 fun args obs K' hk => ?_
  unfold ofD g98 at hk
  split at hk
  · rename_i d out news hg
    split at hg
    · rename_i l
      cases hg
      obtain ⟨hx, hk⟩ := hk
      refine And.intro ?_ ?_
      · exact ⟨_, _, _, ⟨l, 0, rfl, rfl, hx, Nat.zero_le _, rfl, rfl⟩, ⟨Nat.le_refl _, Nat.le_refl _, ⟨⟨⟨rfl, rfl⟩, ⟨rfl, rfl⟩, ⟨rfl, rfl⟩, trivial⟩, ⟨⟨.inr rfl, trivial⟩, trivial⟩⟩⟩⟩
      · rintro m sl ob ⟨l', i, e1, rfl, hx', hi, rfl, rfl⟩
        cases e1
        refine bcase_i (fun h => ?_) (fun h => ?_)
        · simp only [decide_eq_true_eq] at h
          have hi' : i < l.length := by omega
          have hb := hx.2 (l.getD i 0) (by rw [List.getD_eq_getElem?_getD, List.getElem?_eq_getElem hi']; exact List.getElem_mem hi')
          refine And.intro ⟨by omega, by omega⟩ ?_
          refine And.intro hi' ?_
          refine bcase_t (by simp; exact hb.1) ?_
          refine And.intro ⟨trivial, trivial, trivial⟩ ?_
          refine And.intro ?_ ?_
          · show (bif true then decide _ else false) = true
            simp
            exact hb.2
          · refine ⟨_, _, _, ?_, ⟨l, i + 1, rfl, rfl, hx, by omega, rfl, rfl⟩, ⟨Nat.le_refl _, Nat.le_refl _, ⟨⟨⟨rfl, rfl⟩, ⟨rfl, rfl⟩, ⟨?_, rfl⟩, trivial⟩, ⟨⟨.inr rfl, trivial⟩, trivial⟩⟩⟩⟩
            · omega
            · show i64 (IntKind.i64.wrap (i + 1)) = i64 ((i + 1 : Nat) : Int)
              rw [IntWalk.i64_in _ (by omega)]
              rfl
        · have e : i = l.length := by
            simp only [decide_eq_false_iff_not] at h
            omega
          exact hk
    · cases hg
  · exact hk.elim
theorem dok {P : Program} {f : Nat} {g : GSpec} (r : FreshOk P f (ofD g)) : EntryOk P f (liftG (viewD g)) := (entry_of_fresh r).weaken fun _ _ _ _ h => viewD_spec h
/-- fixed.signed -/
def g138 : GSpec := fun args obs => match args, obs with
  | [.int .u64 n, .bool neg], [] => some (0 ≤ n ∧ n ≤ 70368744177664, .ret (i64 (bif neg then -n else n)), [])
  | _, _ => none
theorem r138 : FreshOk Tryz.prog 138 (ofD g138) := by
  refine fresh_of_run T1_ok (noD_ok _) (fun _ _ => noIv) Tryz.func138 c138 fun args obs K' hk => ?_
  unfold ofD g138 at hk
  split at hk
  · rename_i d out news hg
    split at hg
    · rename_i n neg
      cases hg
      obtain ⟨hx, hk⟩ := hk
      refine And.intro ⟨trivial, trivial, trivial⟩ ?_
      refine And.intro (by simp; exact hx.2) ?_
      have key : ∀ y : Int, y = (bif neg then -n else n) → closeK K' (.ret (i64 y)) (lookO []) 0 := by
        rintro _ rfl
        exact hk
      refine bcase_i (fun h => ?_) (fun h => ?_)
      · refine key _ ?_
        rw [h, IntWalk.i64_in n (by omega), IntWalk.i64_in _ (by omega)]
        simp
      · refine key _ ?_
        rw [h, IntWalk.i64_in n (by omega)]
        simp
    · cases hg
  · exact hk.elim
def T2 : Tab := (T1.add 98 (liftA (ofD g98))).add 138 (liftA (ofD g138))
theorem T2_ok : TabOk Tryz.prog T2 := (T1_ok.add (entry_of_fresh r98)).add (entry_of_fresh r138)
abbrev fixOk (a : Int) : Prop := -70368744177664 ≤ a ∧ a ≤ 70368744177664
/-- fixed.sub -/
def g121 : GSpec := fun args obs => match args, obs with
  | [.int .i64 a, .int .i64 b], [] => some (fixOk a ∧ fixOk b ∧ fixOk (a - b), .ret (i64 (a - b)), [])
  | _, _ => none
theorem r121 : FreshOk Tryz.prog 121 (ofD g121) := by
  refine fresh_of_run T2_ok (noD_ok _) (fun _ _ => noIv) Tryz.func121 c121 fun args obs K' hk => ?_
  unfold ofD g121 at hk
  split at hk
  · rename_i d out news hg
    split at hg
    · rename_i a b
      cases hg
      obtain ⟨⟨h1, h2, h3⟩, hk⟩ := hk
      have e : IntKind.i64.wrap (a - b) = a - b := IntWalk.i64_in _ (by omega)
      refine And.intro trivial ?_
      refine And.intro ⟨trivial, trivial⟩ ?_
      refine And.intro ⟨by simp, ?_⟩ ?_
      · intro x hx
        simp at hx
        rcases hx with rfl | rfl
        · exact h1
        · exact h2
      · refine And.intro ⟨trivial, trivial⟩ ?_
        refine And.intro (by rw [e]; omega) ?_
        refine And.intro ⟨trivial, trivial, trivial⟩ ?_
        refine And.intro (by rw [e]; omega) ?_
        have key : ∀ y : Int, y = a - b → closeK K' (.ret (i64 y)) (lookO []) 0 := by
          rintro _ rfl
          exact hk
        refine key _ ?_
        rw [e]
        by_cases h : a - b < 0
        · simp [h]; omega
        · simp [h]; omega
    · cases hg
  · exact hk.elim
/-- fixed.add -/
def g93 : GSpec := fun args obs => match args, obs with
  | [.int .i64 a, .int .i64 b], [] => some (fixOk a ∧ fixOk b ∧ fixOk (a + b), .ret (i64 (a + b)), [])
  | _, _ => none
theorem r93 : FreshOk Tryz.prog 93 (ofD g93) := by
  refine fresh_of_run T2_ok (noD_ok _) (fun _ _ => noIv) Tryz.func93 c93 fun args obs K' hk => ?_
  unfold ofD g93 at hk
  split at hk
  · rename_i d out news hg
    split at hg
    · rename_i a b
      cases hg
      obtain ⟨⟨h1, h2, h3⟩, hk⟩ := hk
      have e : IntKind.i64.wrap (a + b) = a + b := IntWalk.i64_in _ (by omega)
      refine And.intro trivial ?_
      refine And.intro ⟨trivial, trivial⟩ ?_
      refine And.intro ⟨by simp, ?_⟩ ?_
      · intro x hx
        simp at hx
        rcases hx with rfl | rfl
        · exact h1
        · exact h2
      · refine And.intro ⟨trivial, trivial⟩ ?_
        refine And.intro (by rw [e]; omega) ?_
        refine And.intro ⟨trivial, trivial, trivial⟩ ?_
        refine And.intro (by rw [e]; omega) ?_
        have key : ∀ y : Int, y = a + b → closeK K' (.ret (i64 y)) (lookO []) 0 := by
          rintro _ rfl
          exact hk
        refine key _ ?_
        rw [e]
        by_cases h : a + b < 0
        · simp [h]; omega
        · simp [h]; omega
    · cases hg
  · exact hk.elim
end Go.Proofs.YtbolfnkgbjkbjaaGreat.AM
