/- Contracts, part 5: comparisons and sizes. -/
import Derived.Test.YtbolfnkgbjkbjaaGreatS4
set_option linter.unusedVariables false
set_option linter.unusedSimpArgs false
namespace Go.Proofs.YtbolfnkgbjkbjaaGreat.AM
open Go Go.RowKit
set_option maxRecDepth 100000
/-- cmp.Compare -/
def g189 : GSpec := fun args obs => match args, obs with
  | [.int .u64 x, .int .u64 y], [] => some (True, .ret (i64 (if x < y then -1 else if x > y then 1 else 0)), [])
  | _, _ => none
theorem k189 (x y : Int) (K' : Out → List Ob → Prop) : runFn (T4) (noD) noIv a189 [.int .u64 x, .int .u64 y] (lookO []) 0 (closeK K') =
    ((True ∧ True) ∧
    (True) ∧
    (True ∧ True) ∧
    (True) ∧
    bcase (decide (x < y))
     (K' (Out.ret (V.int IntKind.i64 (-1 : Int))) [])
     (bcase (decide (x > y))
      (K' (Out.ret (V.int IntKind.i64 (1 : Int))) [])
      (K' (Out.ret (V.int IntKind.i64 (0 : Int))) []))) := by kernel_rfl
theorem r189 : FreshOk Tryz.prog 189 (ofD g189) := by
  refine fresh_of_run T4_ok (noD_ok _) (fun _ _ => noIv) Tryz.func189 c189 fun args obs K' hk => ?_
  unfold ofD g189 at hk
  split at hk
  · rename_i d_ out news hg
    split at hg
    · rename_i x y
      cases hg
      obtain ⟨hc, hk⟩ := hk
      refine Eq.mpr (k189 x y K') ⟨⟨trivial, trivial⟩, trivial, ⟨trivial, trivial⟩, trivial, ?_⟩
      · refine bcase_i (fun h => ?_) (fun h => ?_)
        · simp only [decide_eq_true_eq] at h
          rw [if_pos h] at hk
          exact hk
        · simp only [decide_eq_false_iff_not] at h
          rw [if_neg h] at hk
          refine bcase_i (fun h2 => ?_) (fun h2 => ?_)
          · simp only [decide_eq_true_eq] at h2
            rw [if_pos h2] at hk
            exact hk
          · simp only [decide_eq_false_iff_not] at h2
            rw [if_neg h2] at hk
            exact hk
    · cases hg
  · exact hk.elim
/-- fixed.size[int] -/
def g149 : GSpec := fun args obs => match args, obs with
  | [.int .i64 x], [] => some (-9223372036854775808 ≤ x ∧ x < 9223372036854775808, .ret (u64 x.natAbs), [])
  | _, _ => none
theorem k149 (x : Int) (K' : Out → List Ob → Prop) : runFn (T4) (noD) noIv a149 [.int .i64 x] (lookO []) 0 (closeK K') =
    (bcase (decide (x < (0 : Int)))
     (K' (Out.ret (V.int IntKind.u64 (IntKind.u64.wrap ((0 : Int) - IntKind.u64.wrap x)))) [])
     (K' (Out.ret (V.int IntKind.u64 (IntKind.u64.wrap x))) [])) := by kernel_rfl
theorem r149 : FreshOk Tryz.prog 149 (ofD g149) := by
  refine fresh_of_run T4_ok (noD_ok _) (fun _ _ => noIv) Tryz.func149 c149 fun args obs K' hk => ?_
  unfold ofD g149 at hk
  split at hk
  · rename_i d_ out news hg
    split at hg
    · rename_i x
      cases hg
      obtain ⟨hc, hk⟩ := hk
      refine Eq.mpr (k149 x K') ?_
      · refine bcase_i (fun h => ?_) (fun h => ?_)
        · simp only [decide_eq_true_eq] at h
          have e : IntKind.u64.wrap (0 - IntKind.u64.wrap x) = x.natAbs := by
            rw [IntKind.wrap_u64, IntKind.wrap_u64]
            omega
          rw [e]
          exact hk
        · simp only [decide_eq_false_iff_not] at h
          have e : IntKind.u64.wrap x = x.natAbs := by
            rw [IntKind.wrap_u64]
            omega
          rw [e]
          exact hk
    · cases hg
  · exact hk.elim
/-- contact.within -/
def g50 : GSpec := fun args obs => match args, obs with
  | [.int .i64 x, .int .i64 y, .int .i64 z], [] => some (True, .ret (.bool (decide (y ≤ x ∧ x ≤ z))), [])
  | _, _ => none
theorem k50 (x y z : Int) (K' : Out → List Ob → Prop) : runFn (T4) (noD) noIv a50 [.int .i64 x, .int .i64 y, .int .i64 z] (lookO []) 0 (closeK K') =
    (bcase (decide (y ≤ x))
     (K' (Out.ret (V.bool (bif true then decide (x ≤ z) else false))) [])
     (K' (Out.ret (V.bool false)) [])) := by kernel_rfl
theorem r50 : FreshOk Tryz.prog 50 (ofD g50) := by
  refine fresh_of_run T4_ok (noD_ok _) (fun _ _ => noIv) Tryz.func50 c50 fun args obs K' hk => ?_
  unfold ofD g50 at hk
  split at hk
  · rename_i d_ out news hg
    split at hg
    · rename_i x y z
      cases hg
      obtain ⟨hc, hk⟩ := hk
      refine Eq.mpr (k50 x y z K') ?_
      · refine bcase_i (fun h => ?_) (fun h => ?_)
        · simp only [decide_eq_true_eq] at h
          have e : (bif true then decide (x ≤ z) else false) = decide (y ≤ x ∧ x ≤ z) := by simp [h]
          rw [e]
          exact hk
        · simp only [decide_eq_false_iff_not] at h
          have e : false = decide (y ≤ x ∧ x ≤ z) := by simp [h]
          rw [e]
          exact hk
    · cases hg
  · exact hk.elim
/-- The first that is not zero. -/
def firstNZ : List Int → Int
  | [] => 0
  | x :: l => if x ≠ 0 then x else firstNZ l
theorem firstNZ_drop (l : List Int) (i : Nat) (h : i < l.length) : firstNZ (l.drop i) = if l.getD i 0 ≠ 0 then l.getD i 0 else firstNZ (l.drop (i + 1)) := by
  rw [List.drop_eq_getElem_cons h]
  simp only [firstNZ, List.getD_eq_getElem?_getD, List.getElem?_eq_getElem h, Option.getD_some]
/-- cmp.Or -/
def g188 : GSpec := fun args obs => match args, obs with
  | [.osl 0], [.ro [.int .i64] l] => some ((l : List Int).length < 1000000, .ret (i64 (firstNZ l)), [])
  | _, _ => none
def I67 (obs : List Ob) : Inv := fun _ m sl ob => ∃ (l : List Int) (i : Nat), obs = [.ro [.int .i64] l] ∧ ob = obs ∧ l.length < 1000000 ∧ i ≤ l.length ∧ m = l.length - i ∧ firstNZ l = firstNZ (l.drop i) ∧
  sl = [(3, i64 0), (6, .osl 0), (7, i64 l.length), (8, i64 i)]
theorem r188 : FreshOk Tryz.prog 188 (ofD g188) := by
  refine fresh_of_run T4_ok (noD_ok _) (fun _ obs => I67 obs) Tryz.func188 c188 fun args obs K' hk => ?_
  unfold ofD g188 at hk
  split at hk
  · rename_i d out news hg
    split at hg
    · rename_i l
      cases hg
      obtain ⟨hx, hk⟩ := hk
      refine And.intro ?_ ?_
      · exact ⟨_, _, _, ⟨l, 0, rfl, rfl, hx, Nat.zero_le _, rfl, rfl, rfl⟩, ⟨Nat.le_refl _, Nat.le_refl _, ⟨⟨rfl, rfl⟩, ⟨rfl, rfl⟩, ⟨rfl, rfl⟩, ⟨rfl, rfl⟩, trivial⟩, ⟨⟨.inr rfl, trivial⟩, trivial⟩⟩⟩
      · rintro m sl ob ⟨l', i, e1, rfl, hx', hi, rfl, hf, rfl⟩
        cases e1
        refine bcase_i (fun h => ?_) (fun h => ?_)
        · simp only [decide_eq_true_eq] at h
          have hi' : i < l.length := by omega
          have hd := firstNZ_drop l i hi'
          refine And.intro ⟨by omega, by omega⟩ ?_
          refine And.intro hi' ?_
          refine bcase_i (fun h2 => ?_) (fun h2 => ?_)
          · have h3 : (l.getD i 0 : Int) ≠ 0 := bne_iff_ne.1 (show ((l.getD i 0 : Int) != 0) = true from h2)
            rw [if_pos h3] at hd
            rw [hf, hd] at hk
            exact hk
          · have h3 : ¬ (l.getD i 0 : Int) ≠ 0 := fun e => by
              have h4 : ((l.getD i 0 : Int) != 0) = false := h2
              rw [bne_iff_ne.2 e] at h4
              cases h4
            rw [if_neg h3] at hd
            refine ⟨_, _, _, ?_, ⟨l, i + 1, rfl, rfl, hx, by omega, rfl, hf.trans hd, rfl⟩, ⟨Nat.le_refl _, Nat.le_refl _, ⟨⟨rfl, rfl⟩, ⟨rfl, rfl⟩, ⟨rfl, rfl⟩, ⟨?_, rfl⟩, trivial⟩, ⟨⟨.inr rfl, trivial⟩, trivial⟩⟩⟩
            · omega
            · show i64 (IntKind.i64.wrap (i + 1)) = i64 ((i + 1 : Nat) : Int)
              rw [IntWalk.i64_in _ (by omega)]
              rfl
        · have e : i = l.length := by
            simp only [decide_eq_false_iff_not] at h
            omega
          rw [hf, e, List.drop_length] at hk
          exact hk
    · cases hg
  · exact hk.elim
def D5 : DTab := (noD.add 189 (viewD g189)).add 188 (viewD g188)
theorem D5_ok : TabOk Tryz.prog (tabD D5) := DTab.add_ok (DTab.add_ok (noD_ok _) (dok r189)) (dok r188)
/-- The order of two numbers. -/
def cmpI (x y : Int) : Int := if x < y then -1 else if x > y then 1 else 0
end Go.Proofs.YtbolfnkgbjkbjaaGreat.AM
