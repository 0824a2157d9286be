/- ContactPairs: what its proof stands on, part 4. -/
import Derived.Test.YtbolfnkgbjkbjaaGreatKCp3
section
set_option linter.unusedVariables false
set_option linter.unusedSimpArgs false
namespace Go.Proofs.YtbolfnkgbjkbjaaGreat.AM
open Go Go.RowKit
set_option maxRecDepth 100000
/-- A number of two words. -/
abbrev wd (s : Int) : V := .agg [u64 (s / 18446744073709551616), u64 (s % 18446744073709551616)]
/-- fixed.product -/
def g102 : GSpec := fun args obs => match args, obs with
  | [.int .u64 x, .int .u64 y], [] => some (w64 x ∧ w64 y, .ret (wd (x * y)), [])
  | _, _ => none
theorem k102 (x y : Int) (K' : Out → List Ob → Prop) : runFn (T3) (noD) noIv a102 [.int .u64 x, .int .u64 y] (lookO []) 0 (closeK K') =
    ((True) ∧
    (True ∧ True ∧ True) ∧
    (((0 : Int) ≤ x ∧ x < (18446744073709551616 : Int)) ∧ (0 : Int) ≤ y ∧ y < (18446744073709551616 : Int)) ∧
    (True) ∧
    K'
  (Out.ret
    (V.agg
      [V.int IntKind.u64 (x * y / (18446744073709551616 : Int)),
        V.int IntKind.u64 (x * y % (18446744073709551616 : Int))]))
  []) := by kernel_rfl
theorem r102 : FreshOk Tryz.prog 102 (ofD g102) := by
  refine fresh_of_run T3_ok (noD_ok _) (fun _ _ => noIv) Tryz.func102 c102 fun args obs K' hk => ?_
  unfold ofD g102 at hk
  split at hk
  · rename_i d_ out news hg
    split at hg
    · rename_i x y
      cases hg
      obtain ⟨hc, hk⟩ := hk
      refine Eq.mpr (k102 x y K') ⟨trivial, ⟨trivial, ⟨trivial, trivial⟩⟩, ?_, trivial, hk⟩
      · exact ⟨hc.1, hc.2⟩
    · cases hg
  · exact hk.elim
/-- wide.plus -/
def g142 : GSpec := fun args obs => match args, obs with
  | [.agg [.int .u64 a, .int .u64 b], .agg [.int .u64 c, .int .u64 d]], [] => some ((w64 a ∧ w64 b ∧ w64 c ∧ w64 d) ∧ a + c < 18446744073709551616 - 1, .ret (wd (a * 18446744073709551616 + b + (c * 18446744073709551616 + d))), [])
  | _, _ => none
theorem k142 (a b c d : Int) (K' : Out → List Ob → Prop) : runFn (T3) (noD) noIv a142 [.agg [.int .u64 a, .int .u64 b], .agg [.int .u64 c, .int .u64 d]] (lookO []) 0 (closeK K') =
    ((True) ∧
    (True) ∧
    (True) ∧
    (True ∧ True ∧ True ∧ True) ∧
    ((0 : Int) ≤ b ∧ (0 : Int) ≤ d ∧ (0 : Int) ≤ (0 : Int) ∧ (0 : Int) ≤ (1 : Int)) ∧
    (True ∧ True ∧ True ∧ True) ∧
    ((0 : Int) ≤ a ∧
  (0 : Int) ≤ c ∧
    (0 : Int) ≤ (b + d + (0 : Int)) / (18446744073709551616 : Int) ∧
      (b + d + (0 : Int)) / (18446744073709551616 : Int) ≤ (1 : Int)) ∧
    (True) ∧
    K'
  (Out.ret
    (V.agg
      [V.int IntKind.u64 ((a + c + (b + d + (0 : Int)) / (18446744073709551616 : Int)) % (18446744073709551616 : Int)),
        V.int IntKind.u64 ((b + d + (0 : Int)) % (18446744073709551616 : Int))]))
  []) := by kernel_rfl
theorem r142 : FreshOk Tryz.prog 142 (ofD g142) := by
  refine fresh_of_run T3_ok (noD_ok _) (fun _ _ => noIv) Tryz.func142 c142 fun args obs K' hk => ?_
  unfold ofD g142 at hk
  split at hk
  · rename_i d_ out news hg
    split at hg
    · rename_i a b c d
      cases hg
      obtain ⟨hc, hk⟩ := hk
      obtain ⟨⟨h1, h2, h3, h4⟩, h5⟩ := hc
      refine Eq.mpr (k142 a b c d K') ⟨trivial, trivial, trivial, ⟨trivial, ⟨trivial, ⟨trivial, trivial⟩⟩⟩, ?_, ⟨trivial, ⟨trivial, ⟨trivial, trivial⟩⟩⟩, ?_, trivial, ?_⟩
      · omega
      · omega
      · have e1 : (a + c + (b + d + (0 : Int)) / 18446744073709551616) % 18446744073709551616 = (a * 18446744073709551616 + b + (c * 18446744073709551616 + d)) / 18446744073709551616 := by omega
        have e2 : (b + d + (0 : Int)) % 18446744073709551616 = (a * 18446744073709551616 + b + (c * 18446744073709551616 + d)) % 18446744073709551616 := by omega
        rw [e1, e2]
        exact hk
    · cases hg
  · exact hk.elim
/-- wide.minus -/
def g143 : GSpec := fun args obs => match args, obs with
  | [.agg [.int .u64 a, .int .u64 b], .agg [.int .u64 c, .int .u64 d]], [] => some ((w64 a ∧ w64 b ∧ w64 c ∧ w64 d) ∧ c * 18446744073709551616 + d ≤ a * 18446744073709551616 + b, .ret (wd (a * 18446744073709551616 + b - (c * 18446744073709551616 + d))), [])
  | _, _ => none
theorem k143 (a b c d : Int) (K' : Out → List Ob → Prop) : runFn (T3) (noD) noIv a143 [.agg [.int .u64 a, .int .u64 b], .agg [.int .u64 c, .int .u64 d]] (lookO []) 0 (closeK K') =
    ((True) ∧
    (True) ∧
    (True) ∧
    (True ∧ True ∧ True ∧ True) ∧
    ((0 : Int) ≤ b ∧ (0 : Int) ≤ d ∧ d < (18446744073709551616 : Int) ∧ (0 : Int) ≤ (0 : Int) ∧ (0 : Int) ≤ (1 : Int)) ∧
    (True ∧ True ∧ True ∧ True) ∧
    ((0 : Int) ≤ a ∧
  (0 : Int) ≤ c ∧
    c < (18446744073709551616 : Int) ∧
      ((0 : Int) ≤ if b < d + (0 : Int) then (1 : Int) else (0 : Int)) ∧
        (if b < d + (0 : Int) then (1 : Int) else (0 : Int)) ≤ (1 : Int)) ∧
    (True) ∧
    K'
  (Out.ret
    (V.agg
      [V.int IntKind.u64 ((a - c - if b < d + (0 : Int) then (1 : Int) else (0 : Int)) % (18446744073709551616 : Int)),
        V.int IntKind.u64 ((b - d - (0 : Int)) % (18446744073709551616 : Int))]))
  []) := by kernel_rfl
theorem r143 : FreshOk Tryz.prog 143 (ofD g143) := by
  refine fresh_of_run T3_ok (noD_ok _) (fun _ _ => noIv) Tryz.func143 c143 fun args obs K' hk => ?_
  unfold ofD g143 at hk
  split at hk
  · rename_i d_ out news hg
    split at hg
    · rename_i a b c d
      cases hg
      obtain ⟨hc, hk⟩ := hk
      obtain ⟨⟨h1, h2, h3, h4⟩, h5⟩ := hc
      refine Eq.mpr (k143 a b c d K') ⟨trivial, trivial, trivial, ⟨trivial, ⟨trivial, ⟨trivial, trivial⟩⟩⟩, ?_, ⟨trivial, ⟨trivial, ⟨trivial, trivial⟩⟩⟩, ?_, trivial, ?_⟩
      · omega
      · by_cases h : b < d + (0 : Int)
        · rw [if_pos h]; omega
        · rw [if_neg h]; omega
      · have e1 : (a - c - if b < d + (0 : Int) then (1 : Int) else 0) % 18446744073709551616 = (a * 18446744073709551616 + b - (c * 18446744073709551616 + d)) / 18446744073709551616 := by
          by_cases h : b < d + (0 : Int)
          · rw [if_pos h]; omega
          · rw [if_neg h]; omega
        have e2 : (b - d - (0 : Int)) % 18446744073709551616 = (a * 18446744073709551616 + b - (c * 18446744073709551616 + d)) % 18446744073709551616 := by omega
        rw [e1, e2]
        exact hk
    · cases hg
  · exact hk.elim
/-- cmp.isNaN -/
def g215 : GSpec := fun args obs => match args, obs with
  | [.int .u64 a], [] => some (True, .ret (.bool false), [])
  | _, _ => none
theorem k215 (a : Int) (K' : Out → List Ob → Prop) : runFn (T3) (noD) noIv a215 [.int .u64 a] (lookO []) 0 (closeK K') =
    (K' (Out.ret (V.bool (a != a))) []) := by kernel_rfl
theorem r215 : FreshOk Tryz.prog 215 (ofD g215) := by
  refine fresh_of_run T3_ok (noD_ok _) (fun _ _ => noIv) Tryz.func215 c215 fun args obs K' hk => ?_
  unfold ofD g215 at hk
  split at hk
  · rename_i d_ out news hg
    split at hg
    · rename_i a
      cases hg
      obtain ⟨hc, hk⟩ := hk
      refine Eq.mpr (k215 a K') ?_
      · have e : (a != a) = false := by simp
        rw [e]
        exact hk
    · cases hg
  · exact hk.elim
def T4 : Tab := (((T3.add 102 (liftA (ofD g102))).add 142 (liftA (ofD g142))).add 143 (liftA (ofD g143))).add 215 (liftA (ofD g215))
theorem T4_ok : TabOk Tryz.prog T4 := (((T3_ok.add (entry_of_fresh r102)).add (entry_of_fresh r142)).add (entry_of_fresh r143)).add (entry_of_fresh r215)
end Go.Proofs.YtbolfnkgbjkbjaaGreat.AM
end
section
set_option linter.unusedVariables false
set_option linter.unusedSimpArgs false
namespace Go.Proofs.YtbolfnkgbjkbjaaGreat.AM
open Go Go.RowKit
set_option maxRecDepth 100000
/-- cmp.Compare -/
def g189 : GSpec := fun args obs => match args, obs with
  | [.int .u64 x, .int .u64 y], [] => some (True, .ret (i64 (if x < y then -1 else if x > y then 1 else 0)), [])
  | _, _ => none
theorem k189 (x y : Int) (K' : Out → List Ob → Prop) : runFn (T4) (noD) noIv a189 [.int .u64 x, .int .u64 y] (lookO []) 0 (closeK K') =
    ((True ∧ True) ∧
    (True) ∧
    (True ∧ True) ∧
    (True) ∧
    bcase (decide (x < y))
     (K' (Out.ret (V.int IntKind.i64 (-1 : Int))) [])
     (bcase (decide (x > y))
      (K' (Out.ret (V.int IntKind.i64 (1 : Int))) [])
      (K' (Out.ret (V.int IntKind.i64 (0 : Int))) []))) := by kernel_rfl
theorem r189 : FreshOk Tryz.prog 189 (ofD g189) := by
  refine fresh_of_run T4_ok (noD_ok _) (fun _ _ => noIv) Tryz.func189 c189 fun args obs K' hk => ?_
  unfold ofD g189 at hk
  split at hk
  · rename_i d_ out news hg
    split at hg
    · rename_i x y
      cases hg
      obtain ⟨hc, hk⟩ := hk
      refine Eq.mpr (k189 x y K') ⟨⟨trivial, trivial⟩, trivial, ⟨trivial, trivial⟩, trivial, ?_⟩
      · refine bcase_i (fun h => ?_) (fun h => ?_)
        · simp only [decide_eq_true_eq] at h
          rw [if_pos h] at hk
          exact hk
        · simp only [decide_eq_false_iff_not] at h
          rw [if_neg h] at hk
          refine bcase_i (fun h2 => ?_) (fun h2 => ?_)
          · simp only [decide_eq_true_eq] at h2
            rw [if_pos h2] at hk
            exact hk
          · simp only [decide_eq_false_iff_not] at h2
            rw [if_neg h2] at hk
            exact hk
    · cases hg
  · exact hk.elim
/-- fixed.size[int] -/
def g149 : GSpec := fun args obs => match args, obs with
  | [.int .i64 x], [] => some (-9223372036854775808 ≤ x ∧ x < 9223372036854775808, .ret (u64 x.natAbs), [])
  | _, _ => none
theorem k149 (x : Int) (K' : Out → List Ob → Prop) : runFn (T4) (noD) noIv a149 [.int .i64 x] (lookO []) 0 (closeK K') =
    (bcase (decide (x < (0 : Int)))
     (K' (Out.ret (V.int IntKind.u64 (IntKind.u64.wrap ((0 : Int) - IntKind.u64.wrap x)))) [])
     (K' (Out.ret (V.int IntKind.u64 (IntKind.u64.wrap x))) [])) := by kernel_rfl
theorem r149 : FreshOk Tryz.prog 149 (ofD g149) := by
  refine fresh_of_run T4_ok (noD_ok _) (fun _ _ => noIv) Tryz.func149 c149 fun args obs K' hk => ?_
  unfold ofD g149 at hk
  split at hk
  · rename_i d_ out news hg
    split at hg
    · rename_i x
      cases hg
      obtain ⟨hc, hk⟩ := hk
      refine Eq.mpr (k149 x K') ?_
      · refine bcase_i (fun h => ?_) (fun h => ?_)
        · simp only [decide_eq_true_eq] at h
          have e : IntKind.u64.wrap (0 - IntKind.u64.wrap x) = x.natAbs := by
            rw [IntKind.wrap_u64, IntKind.wrap_u64]
            omega
          rw [e]
          exact hk
        · simp only [decide_eq_false_iff_not] at h
          have e : IntKind.u64.wrap x = x.natAbs := by
            rw [IntKind.wrap_u64]
            omega
          rw [e]
          exact hk
    · cases hg
  · exact hk.elim
/-- contact.within -/
def g50 : GSpec := fun args obs => match args, obs with
  | [.int .i64 x, .int .i64 y, .int .i64 z], [] => some (True, .ret (.bool (decide (y ≤ x ∧ x ≤ z))), [])
  | _, _ => none
theorem k50 (x y z : Int) (K' : Out → List Ob → Prop) : runFn (T4) (noD) noIv a50 [.int .i64 x, .int .i64 y, .int .i64 z] (lookO []) 0 (closeK K') =
    (bcase (decide (y ≤ x))
     (K' (Out.ret (V.bool (bif true then decide (x ≤ z) else false))) [])
     (K' (Out.ret (V.bool false)) [])) := by kernel_rfl
theorem r50 : FreshOk Tryz.prog 50 (ofD g50) := by
  refine fresh_of_run T4_ok (noD_ok _) (fun _ _ => noIv) Tryz.func50 c50 fun args obs K' hk => ?_
  unfold ofD g50 at hk
  split at hk
  · rename_i d_ out news hg
    split at hg
    · rename_i x y z
      cases hg
      obtain ⟨hc, hk⟩ := hk
      refine Eq.mpr (k50 x y z K') ?_
      · refine bcase_i (fun h => ?_) (fun h => ?_)
        · simp only [decide_eq_true_eq] at h
          have e : (bif true then decide (x ≤ z) else false) = decide (y ≤ x ∧ x ≤ z) := by simp [h]
          rw [e]
          exact hk
        · simp only [decide_eq_false_iff_not] at h
          have e : false = decide (y ≤ x ∧ x ≤ z) := by simp [h]
          rw [e]
          exact hk
    · cases hg
  · exact hk.elim
/-- The first that is not zero. -/
def firstNZ : List Int → Int
  | [] => 0
  | x :: l => if x ≠ 0 then x else firstNZ l
theorem firstNZ_drop (l : List Int) (i : Nat) (h : i < l.length) : firstNZ (l.drop i) = if l.getD i 0 ≠ 0 then l.getD i 0 else firstNZ (l.drop (i + 1)) := by
  rw [List.drop_eq_getElem_cons h]
  simp only [firstNZ, List.getD_eq_getElem?_getD, List.getElem?_eq_getElem h, Option.getD_some]
/-- cmp.Or -/
def g188 : GSpec := fun args obs => match args, obs with
  | [.osl 0], [.ro [.int .i64] l] => some ((l : List Int).length < 1000000, .ret (i64 (firstNZ l)), [])
  | _, _ => none
def I67 (obs : List Ob) : Inv := fun _ m sl ob => ∃ (l : List Int) (i : Nat), obs = [.ro [.int .i64] l] ∧ ob = obs ∧ l.length < 1000000 ∧ i ≤ l.length ∧ m = l.length - i ∧ firstNZ l = firstNZ (l.drop i) ∧
  sl = [(3, i64 0), (6, .osl 0), (7, i64 l.length), (8, i64 i)]
theorem r188 : FreshOk Tryz.prog 188 (ofD g188) := by
  refine fresh_of_run T4_ok (noD_ok _) (fun _ obs => I67 obs) Tryz.func188 c188 fun args obs K' hk => ?_
  unfold ofD g188 at hk
  split at hk
  · rename_i d out news hg
    split at hg
    · rename_i l
      cases hg
      obtain ⟨hx, hk⟩ := hk
      refine And.intro ?_ ?_
      · exact ⟨_, _, _, ⟨l, 0, rfl, rfl, hx, Nat.zero_le _, rfl, rfl, rfl⟩, ⟨Nat.le_refl _, Nat.le_refl _, ⟨⟨rfl, rfl⟩, ⟨rfl, rfl⟩, ⟨rfl, rfl⟩, ⟨rfl, rfl⟩, trivial⟩, ⟨⟨.inr rfl, trivial⟩, trivial⟩⟩⟩
      · rintro m sl ob ⟨l', i, e1, rfl, hx', hi, rfl, hf, rfl⟩
        cases e1
        refine bcase_i (fun h => ?_) (fun h => ?_)
        · simp only [decide_eq_true_eq] at h
          have hi' : i < l.length := by omega
          have hd := firstNZ_drop l i hi'
          refine And.intro ⟨by omega, by omega⟩ ?_
          refine And.intro hi' ?_
          refine bcase_i (fun h2 => ?_) (fun h2 => ?_)
          · have h3 : (l.getD i 0 : Int) ≠ 0 := bne_iff_ne.1 (show ((l.getD i 0 : Int) != 0) = true from h2)
            rw [if_pos h3] at hd
            rw [hf, hd] at hk
            exact hk
          · have h3 : ¬ (l.getD i 0 : Int) ≠ 0 := fun e => by
              have h4 : ((l.getD i 0 : Int) != 0) = false := h2
              rw [bne_iff_ne.2 e] at h4
              cases h4
            rw [if_neg h3] at hd
            refine ⟨_, _, _, ?_, ⟨l, i + 1, rfl, rfl, hx, by omega, rfl, hf.trans hd, rfl⟩, ⟨Nat.le_refl _, Nat.le_refl _, ⟨⟨rfl, rfl⟩, ⟨rfl, rfl⟩, ⟨rfl, rfl⟩, ⟨?_, rfl⟩, trivial⟩, ⟨⟨.inr rfl, trivial⟩, trivial⟩⟩⟩
            · omega
            · show i64 (IntKind.i64.wrap (i + 1)) = i64 ((i + 1 : Nat) : Int)
              rw [IntWalk.i64_in _ (by omega)]
              rfl
        · have e : i = l.length := by
            simp only [decide_eq_false_iff_not] at h
            omega
          rw [hf, e, List.drop_length] at hk
          exact hk
    · cases hg
  · exact hk.elim
def D5 : DTab := (noD.add 189 (viewD g189)).add 188 (viewD g188)
theorem D5_ok : TabOk Tryz.prog (tabD D5) := DTab.add_ok (DTab.add_ok (noD_ok _) (dok r189)) (dok r188)
/-- The order of two numbers. -/
def cmpI (x y : Int) : Int := if x < y then -1 else if x > y then 1 else 0
end Go.Proofs.YtbolfnkgbjkbjaaGreat.AM
end
section
set_option linter.unusedVariables false
set_option linter.unusedSimpArgs false
namespace Go.Proofs.YtbolfnkgbjkbjaaGreat.AM
open Go Go.RowKit
set_option maxRecDepth 100000
/-- wide.compare -/
def g125 : GSpec := fun args obs => match args, obs with
  | [.agg [.int .u64 a, .int .u64 b], .agg [.int .u64 c, .int .u64 d]], [] => some (w64 a ∧ w64 b ∧ w64 c ∧ w64 d, .ret (i64 (cmpI (a * 18446744073709551616 + b) (c * 18446744073709551616 + d))), [])
  | _, _ => none
theorem k125 (a b c d : Int) (K' : Out → List Ob → Prop) : runFn (T4) (D5) noIv a125 [.agg [.int .u64 a, .int .u64 b], .agg [.int .u64 c, .int .u64 d]] (lookO []) 0 (closeK K') =
    ((True) ∧
    (True) ∧
    ((True ∧ True ∧ True) ∧ True) ∧
    ((True ∧ True ∧ True) ∧ True) ∧
    (True) ∧
    ((True ∧ True) ∧
  [if a < c then (-1 : Int) else if a > c then (1 : Int) else (0 : Int),
        if b < d then (-1 : Int) else if b > d then (1 : Int) else (0 : Int)].length <
    (1000000 : Nat)) ∧
    K'
  (Out.ret
    (V.int IntKind.i64
      (firstNZ
        [if a < c then (-1 : Int) else if a > c then (1 : Int) else (0 : Int),
          if b < d then (-1 : Int) else if b > d then (1 : Int) else (0 : Int)])))
  []) := by kernel_rfl
theorem r125 : FreshOk Tryz.prog 125 (ofD g125) := by
  refine fresh_of_run T4_ok D5_ok (fun _ _ => noIv) Tryz.func125 c125 fun args obs K' hk => ?_
  unfold ofD g125 at hk
  split at hk
  · rename_i d_ out news hg
    split at hg
    · rename_i a b c d
      cases hg
      obtain ⟨hc, hk⟩ := hk
      refine Eq.mpr (k125 a b c d K') ⟨trivial, trivial, ⟨⟨trivial, ⟨trivial, trivial⟩⟩, trivial⟩, ⟨⟨trivial, ⟨trivial, trivial⟩⟩, trivial⟩, trivial, ?_, ?_⟩
      · refine ⟨⟨trivial, trivial⟩, ?_⟩
        simp
      · have e : firstNZ [if a < c then -1 else if a > c then 1 else 0, if b < d then -1 else if b > d then 1 else 0] = cmpI (a * 18446744073709551616 + b) (c * 18446744073709551616 + d) := by
          obtain ⟨h1, h2, h3, h4⟩ := hc
          unfold cmpI
          rcases Int.lt_trichotomy a c with h | h | h
          · rw [if_pos h, if_pos (show a * 18446744073709551616 + b < c * 18446744073709551616 + d by omega)]
            simp [firstNZ]
          · subst h
            rw [if_neg (Int.lt_irrefl a), if_neg (Int.lt_irrefl a)]
            simp only [firstNZ]
            by_cases h5 : b < d
            · rw [if_pos h5, if_pos (show a * 18446744073709551616 + b < a * 18446744073709551616 + d by omega)]
              simp
            · rw [if_neg h5, if_neg (show ¬ a * 18446744073709551616 + b < a * 18446744073709551616 + d by omega)]
              by_cases h6 : b > d
              · rw [if_pos h6, if_pos (show a * 18446744073709551616 + b > a * 18446744073709551616 + d by omega)]
                simp
              · rw [if_neg h6, if_neg (show ¬ a * 18446744073709551616 + b > a * 18446744073709551616 + d by omega)]
                simp
          · rw [if_neg (show ¬ a < c by omega), if_pos h, if_neg (show ¬ a * 18446744073709551616 + b < c * 18446744073709551616 + d by omega), if_pos (show a * 18446744073709551616 + b > c * 18446744073709551616 + d by omega)]
            simp [firstNZ]
        rw [← e] at hk
        exact hk
    · cases hg
  · exact hk.elim
def T6 : Tab := ((T4.add 125 (liftA (ofD g125))).add 149 (liftA (ofD g149))).add 50 (liftA (ofD g50))
theorem T6_ok : TabOk Tryz.prog T6 := ((T4_ok.add (entry_of_fresh r125)).add (entry_of_fresh r149)).add (entry_of_fresh r50)
/-- What the drawn regions call. -/
def D6 : DTab := ((((((D5.add 102 (viewD g102)).add 142 (viewD g142)).add 143 (viewD g143)).add 126 (viewD g126)).add 149 (viewD g149)).add 138 (viewD g138)).add 125 (viewD g125)
theorem D6_ok : TabOk Tryz.prog (tabD D6) := DTab.add_ok (DTab.add_ok (DTab.add_ok (DTab.add_ok (DTab.add_ok (DTab.add_ok (DTab.add_ok D5_ok (dok r102)) (dok r142)) (dok r143)) (dok r126)) (dok r149)) (dok r138)) (dok r125)
end Go.Proofs.YtbolfnkgbjkbjaaGreat.AM
end
section
set_option linter.unusedVariables false
set_option linter.unusedSimpArgs false
namespace Go.Proofs.YtbolfnkgbjkbjaaGreat.AM
open Go Go.RowKit
set_option maxRecDepth 100000
theorem sq_le (x : Int) (h : fixOk x) : 0 ≤ x * x ∧ x * x ≤ 4951760157141521099596496896 := by
  have e : (x.natAbs : Int) * (x.natAbs : Int) = x * x := Int.natAbs_mul_self' x
  rw [← e]
  have h1 : (x.natAbs : Int) ≤ 70368744177664 := by omega
  have h0 : (0 : Int) ≤ x.natAbs := by omega
  exact ⟨Int.mul_nonneg h0 h0, Int.le_trans (Int.mul_le_mul h1 h1 h0 (by decide)) (by decide)⟩
theorem mul_lt (x y : Int) (hx : w64 x) (hy : w64 y) : 0 ≤ x * y ∧ x * y < 340282366920938463463374607431768211456 := by
  refine ⟨Int.mul_nonneg hx.1 hy.1, ?_⟩
  have h1 : x ≤ 18446744073709551615 := by omega
  have h2 : y ≤ 18446744073709551615 := by omega
  exact Int.lt_of_le_of_lt (Int.mul_le_mul h1 h2 hy.1 (by decide)) (by decide)
/-- fixed.square -/
def g124 : GSpec := fun args obs => match args, obs with
  | [.agg [.int .i64 x, .int .i64 y]], [] => some (fixOk x ∧ fixOk y, .ret (wd (x * x + y * y)), [])
  | _, _ => none
theorem k124 (x y : Int) (K' : Out → List Ob → Prop) : runFn (T6) (D6) noIv a124 [.agg [.int .i64 x, .int .i64 y]] (lookO []) 0 (closeK K') =
    ((True) ∧
    (True) ∧
    (True) ∧
    (True ∧ True) ∧
    ([x, y].length < (1000000 : Nat) ∧
  ∀ (x_1 : den [SK.int IntKind.i64]),
    x_1 ∈ [x, y] →
      (-70368744177664 : den [SK.int IntKind.i64]) ≤ x_1 ∧ x_1 ≤ (70368744177664 : den [SK.int IntKind.i64])) ∧
    ((True ∧ True) ∧ (-9223372036854775808 : Int) ≤ x ∧ x < (9223372036854775808 : Int)) ∧
    ((True ∧ True) ∧ (-9223372036854775808 : Int) ≤ x ∧ x < (9223372036854775808 : Int)) ∧
    ((True ∧ True ∧ True) ∧ w64 ↑x.natAbs ∧ w64 ↑x.natAbs) ∧
    ((True ∧ True) ∧ (-9223372036854775808 : Int) ≤ y ∧ y < (9223372036854775808 : Int)) ∧
    ((True ∧ True) ∧ (-9223372036854775808 : Int) ≤ y ∧ y < (9223372036854775808 : Int)) ∧
    ((True ∧ True ∧ True) ∧ w64 ↑y.natAbs ∧ w64 ↑y.natAbs) ∧
    (((True ∧ True ∧ True) ∧ (True ∧ True ∧ True) ∧ True) ∧
  (w64 (↑x.natAbs * ↑x.natAbs / (18446744073709551616 : Int)) ∧
      w64 (↑x.natAbs * ↑x.natAbs % (18446744073709551616 : Int)) ∧
        w64 (↑y.natAbs * ↑y.natAbs / (18446744073709551616 : Int)) ∧
          w64 (↑y.natAbs * ↑y.natAbs % (18446744073709551616 : Int))) ∧
    ↑x.natAbs * ↑x.natAbs / (18446744073709551616 : Int) + ↑y.natAbs * ↑y.natAbs / (18446744073709551616 : Int) <
      (18446744073709551616 : Int) - (1 : Int)) ∧
    (True) ∧
    K'
  (Out.ret
    (V.agg
      [V.int IntKind.u64
          ((↑x.natAbs * ↑x.natAbs / (18446744073709551616 : Int) * (18446744073709551616 : Int) +
                ↑x.natAbs * ↑x.natAbs % (18446744073709551616 : Int) +
              (↑y.natAbs * ↑y.natAbs / (18446744073709551616 : Int) * (18446744073709551616 : Int) +
                ↑y.natAbs * ↑y.natAbs % (18446744073709551616 : Int))) /
            (18446744073709551616 : Int)),
        V.int IntKind.u64
          ((↑x.natAbs * ↑x.natAbs / (18446744073709551616 : Int) * (18446744073709551616 : Int) +
                ↑x.natAbs * ↑x.natAbs % (18446744073709551616 : Int) +
              (↑y.natAbs * ↑y.natAbs / (18446744073709551616 : Int) * (18446744073709551616 : Int) +
                ↑y.natAbs * ↑y.natAbs % (18446744073709551616 : Int))) %
            (18446744073709551616 : Int))]))
  []) := by kernel_rfl
theorem r124 : FreshOk Tryz.prog 124 (ofD g124) := by
  refine fresh_of_run T6_ok D6_ok (fun _ _ => noIv) Tryz.func124 c124 fun args obs K' hk => ?_
  unfold ofD g124 at hk
  split at hk
  · rename_i d_ out news hg
    split at hg
    · rename_i x y
      cases hg
      obtain ⟨hc, hk⟩ := hk
      obtain ⟨h1, h2⟩ := hc
      have hp := sq_le x h1
      have hq := sq_le y h2
      have ex : (x.natAbs : Int) * (x.natAbs : Int) = x * x := Int.natAbs_mul_self' x
      have ey : (y.natAbs : Int) * (y.natAbs : Int) = y * y := Int.natAbs_mul_self' y
      refine Eq.mpr (k124 x y K') ⟨trivial, trivial, trivial, ⟨trivial, trivial⟩, ?_, ?_, ?_, ?_, ?_, ?_, ?_, ?_, trivial, ?_⟩
      · refine ⟨by simp, ?_⟩
        intro z hz
        simp at hz
        rcases hz with rfl | rfl
        · exact h1
        · exact h2
      · refine ⟨⟨trivial, trivial⟩, ?_⟩
        omega
      · refine ⟨⟨trivial, trivial⟩, ?_⟩
        omega
      · refine ⟨⟨trivial, trivial, trivial⟩, ?_, ?_⟩ <;> omega
      · refine ⟨⟨trivial, trivial⟩, ?_⟩
        omega
      · refine ⟨⟨trivial, trivial⟩, ?_⟩
        omega
      · refine ⟨⟨trivial, trivial, trivial⟩, ?_, ?_⟩ <;> omega
      · refine ⟨⟨⟨trivial, trivial, trivial⟩, ⟨trivial, trivial, trivial⟩, trivial⟩, ?_⟩
        rw [ex, ey]
        generalize x * x = p at *
        generalize y * y = q at *
        omega
      · rw [ex, ey]
        have e : x * x / 18446744073709551616 * 18446744073709551616 + x * x % 18446744073709551616 + (y * y / 18446744073709551616 * 18446744073709551616 + y * y % 18446744073709551616) = x * x + y * y := by
          generalize x * x = p at *
          generalize y * y = q at *
          omega
        rw [e]
        exact hk
    · cases hg
  · exact hk.elim
/-- fixed.bits3 -/
def g216 : GSpec := fun args obs => match args, obs with
  | [.int .u64 x, .agg [.int .u64 y, .int .u64 z]], [] => some ((w64 x ∧ w64 y ∧ w64 z) ∧ x * y < 170141183460469231731687303715884105728, .ret (.tup [wd (x * y + x * z / 18446744073709551616), u64 (x * z % 18446744073709551616)]), [])
  | _, _ => none
theorem k216 (x y z : Int) (K' : Out → List Ob → Prop) : runFn (T6) (D6) noIv a216 [.int .u64 x, .agg [.int .u64 y, .int .u64 z]] (lookO []) 0 (closeK K') =
    ((True) ∧
    (True) ∧
    ((True ∧ True ∧ True) ∧ w64 x ∧ w64 z) ∧
    ((True ∧ True ∧ True) ∧ w64 x ∧ w64 y) ∧
    (True) ∧
    (True) ∧
    (True) ∧
    (True) ∧
    (((True ∧ True ∧ True) ∧ (True ∧ True ∧ True) ∧ True) ∧
  (w64 (x * y / (18446744073709551616 : Int)) ∧
      w64 (x * y % (18446744073709551616 : Int)) ∧ w64 (0 : Int) ∧ w64 (x * z / (18446744073709551616 : Int))) ∧
    x * y / (18446744073709551616 : Int) + (0 : Int) < (18446744073709551616 : Int) - (1 : Int)) ∧
    (True) ∧
    K'
  (Out.ret
    (V.tup
      [V.agg
          [V.int IntKind.u64
              ((x * y / (18446744073709551616 : Int) * (18446744073709551616 : Int) +
                    x * y % (18446744073709551616 : Int) +
                  ((0 : Int) * (18446744073709551616 : Int) + x * z / (18446744073709551616 : Int))) /
                (18446744073709551616 : Int)),
            V.int IntKind.u64
              ((x * y / (18446744073709551616 : Int) * (18446744073709551616 : Int) +
                    x * y % (18446744073709551616 : Int) +
                  ((0 : Int) * (18446744073709551616 : Int) + x * z / (18446744073709551616 : Int))) %
                (18446744073709551616 : Int))],
        V.int IntKind.u64 (x * z % (18446744073709551616 : Int))]))
  []) := by kernel_rfl
theorem r216 : FreshOk Tryz.prog 216 (ofD g216) := by
  refine fresh_of_run T6_ok D6_ok (fun _ _ => noIv) Tryz.func216 c216 fun args obs K' hk => ?_
  unfold ofD g216 at hk
  split at hk
  · rename_i d_ out news hg
    split at hg
    · rename_i x y z
      cases hg
      obtain ⟨hc, hk⟩ := hk
      obtain ⟨⟨h1, h2, h3⟩, h4⟩ := hc
      have hp : 0 ≤ x * y := Int.mul_nonneg h1.1 h2.1
      have hq := mul_lt x z h1 h3
      refine Eq.mpr (k216 x y z K') ⟨trivial, trivial, ?_, ?_, trivial, trivial, trivial, trivial, ?_, trivial, ?_⟩
      · exact ⟨⟨trivial, trivial, trivial⟩, h1, h3⟩
      · exact ⟨⟨trivial, trivial, trivial⟩, h1, h2⟩
      · refine ⟨⟨⟨trivial, trivial, trivial⟩, ⟨trivial, trivial, trivial⟩, trivial⟩, ?_⟩
        generalize x * y = p at *
        generalize x * z = q at *
        omega
      · have e : x * y / 18446744073709551616 * 18446744073709551616 + x * y % 18446744073709551616 + (0 * 18446744073709551616 + x * z / 18446744073709551616) = x * y + x * z / 18446744073709551616 := by
          generalize x * y = p at *
          generalize x * z = q at *
          omega
        rw [e]
        exact hk
    · cases hg
  · exact hk.elim
end Go.Proofs.YtbolfnkgbjkbjaaGreat.AM
end
section
set_option linter.unusedVariables false
set_option linter.unusedSimpArgs false
namespace Go.Proofs.YtbolfnkgbjkbjaaGreat.AM
open Go Go.RowKit
set_option maxRecDepth 100000
set_option maxHeartbeats 4000000
def ob70 (q0 q1 q2 r0 r1 r2 : Int) : List Ob := [.no, .no, .no, .var 268 [u64 q0, u64 q1, u64 q2], .var 268 [u64 r0, u64 r1, u64 r2]]
def sl70 (i : Int) : List (Nat × V) := [(10, .ptr 3 0 0 0), (11, .ptr 4 0 0 0), (44, i64 i)]
def I70 (q0 q1 q2 r0 r1 r2 : Int) : Inv := fun _ m sl ob => ob = ob70 q0 q1 q2 r0 r1 r2 ∧ ((m = 3 ∧ sl = sl70 0) ∨ (m = 2 ∧ r0 = q0 ∧ sl = sl70 1) ∨
  (m = 1 ∧ r0 = q0 ∧ r1 = q1 ∧ sl = sl70 2) ∨ (m = 0 ∧ r0 = q0 ∧ r1 = q1 ∧ r2 = q2 ∧ sl = sl70 3))
/-- The order of three words each. -/
def lex3 (r0 r1 r2 q0 q1 q2 : Int) : Bool := if r0 ≠ q0 then decide (r0 < q0) else if r1 ≠ q1 then decide (r1 < q1) else if r2 ≠ q2 then decide (r2 < q2) else true
def rq0 (x : Int) : Int := (x * x / 18446744073709551616).fdiv (2 ^ min (Int.toNat 32) IntKind.u64.bits)
def rq1 (x : Int) : Int := IntKind.u64.wrap ↑(BitVec.ofInt IntKind.u64.bits (IntKind.u64.wrap (x * x / 18446744073709551616 * 2 ^ min (Int.toNat 32) IntKind.u64.bits)) ||| BitVec.ofInt IntKind.u64.bits ((x * x % 18446744073709551616).fdiv (2 ^ min (Int.toNat 32) IntKind.u64.bits))).toNat
def rq2 (x : Int) : Int := IntKind.u64.wrap (x * x % 18446744073709551616 * 2 ^ min (Int.toNat 32) IntKind.u64.bits)
def rr0 (n h l : Int) : Int := (IntKind.u64.wrap (n * n) * h + IntKind.u64.wrap (n * n) * l / 18446744073709551616) / 18446744073709551616
def rr1 (n h l : Int) : Int := (IntKind.u64.wrap (n * n) * h + IntKind.u64.wrap (n * n) * l / 18446744073709551616) % 18446744073709551616
def rr2 (n l : Int) : Int := IntKind.u64.wrap (n * n) * l % 18446744073709551616
def g70a : GSpec := fun args obs => match args, obs with
  | [.int .u64 n, .agg [.int .u64 h, .int .u64 l], .int .u64 x], [] => some (((w64 (IntKind.u64.wrap (n * n)) ∧ w64 h ∧ w64 l) ∧ IntKind.u64.wrap (n * n) * h < 170141183460469231731687303715884105728) ∧ w64 x,
      .ret (.bool (lex3 (rr0 n h l) (rr1 n h l) (rr2 n l) (rq0 x) (rq1 x) (rq2 x))), [])
  | _, _ => none
def Iv70 : List V → List Ob → Inv := fun args _ => match args with
  | [.int .u64 n, .agg [.int .u64 h, .int .u64 l], .int .u64 x] => I70 (rq0 x) (rq1 x) (rq2 x) (rr0 n h l) (rr1 n h l) (rr2 n l)
  | _ => noIv
def T8 : Tab := (T6.add 216 (liftA (ofD g216))).add 124 (liftA (ofD g124))
theorem T8_ok : TabOk Tryz.prog T8 := (T6_ok.add (entry_of_fresh r216)).add (entry_of_fresh r124)
theorem r70a : FreshOk Tryz.prog 193 (ofD g70a) := by
  refine fresh_of_run T8_ok D6_ok Iv70 Tryz.func193 c193 fun args obs K' hk => ?_
  unfold ofD g70a at hk
  split at hk
  · rename_i d out news hg
    split at hg
    · rename_i n h_ l x
      cases hg
      obtain ⟨⟨h1, h2⟩, hk⟩ := hk
      refine And.intro trivial ?_
      refine And.intro ⟨trivial, ⟨trivial, trivial, trivial⟩, trivial⟩ ?_
      refine And.intro h1 ?_
      iterate 2 refine And.intro trivial ?_
      refine And.intro ⟨trivial, trivial, trivial⟩ ?_
      refine And.intro ⟨h2, h2⟩ ?_
      iterate 2 refine And.intro trivial ?_
      iterate 4 refine And.intro (by decide) ?_
      iterate 4 refine And.intro trivial ?_
      refine And.intro ?_ ?_
      · exact ⟨3, sl70 0, ob70 _ _ _ _ _ _, ⟨rfl, .inl ⟨rfl, rfl⟩⟩, ⟨Nat.zero_le _, Nat.le_refl _, ⟨⟨rfl, rfl⟩, ⟨rfl, rfl⟩, ⟨rfl, rfl⟩, trivial⟩, ⟨⟨.inl rfl, trivial⟩, ⟨.inl rfl, trivial⟩, ⟨.inl rfl, trivial⟩, ⟨.inr rfl, rfl⟩, ⟨.inr rfl, rfl⟩, trivial⟩⟩⟩
      · rintro m sl ob ⟨rfl, ⟨rfl, rfl⟩ | ⟨rfl, e0, rfl⟩ | ⟨rfl, e0, e1, rfl⟩ | ⟨rfl, e0, e1, e2, rfl⟩⟩
        · refine And.intro (by decide) ?_
          refine And.intro (by decide) ?_
          refine bcase_i (fun h => ?_) (fun h => ?_)
          · refine And.intro (by decide) ?_
            refine And.intro (by decide) ?_
            have h' := bne_iff_ne.1 h
            have e : lex3 (rr0 n h_ l) (rr1 n h_ l) (rr2 n l) (rq0 x) (rq1 x) (rq2 x) = decide (rr0 n h_ l < rq0 x) := by
              unfold lex3
              rw [if_pos h']
            rw [e] at hk
            exact hk
          · have h' : rr0 n h_ l = rq0 x := by
              have := h
              simpa using this
            exact ⟨2, sl70 1, ob70 _ _ _ _ _ _, by decide, ⟨rfl, .inr (.inl ⟨rfl, h', rfl⟩)⟩, ⟨Nat.zero_le _, Nat.le_of_ble_eq_true rfl, ⟨⟨rfl, rfl⟩, ⟨rfl, rfl⟩, ⟨rfl, rfl⟩, trivial⟩, ⟨⟨.inl rfl, trivial⟩, ⟨.inl rfl, trivial⟩, ⟨.inl rfl, trivial⟩, ⟨.inr rfl, rfl⟩, ⟨.inr rfl, rfl⟩, trivial⟩⟩⟩
        · refine And.intro (by decide) ?_
          refine And.intro (by decide) ?_
          refine bcase_i (fun h => ?_) (fun h => ?_)
          · refine And.intro (by decide) ?_
            refine And.intro (by decide) ?_
            have h' := bne_iff_ne.1 h
            have e : lex3 (rr0 n h_ l) (rr1 n h_ l) (rr2 n l) (rq0 x) (rq1 x) (rq2 x) = decide (rr1 n h_ l < rq1 x) := by
              unfold lex3
              rw [if_neg (by simpa using e0)]
              rw [if_pos h']
            rw [e] at hk
            exact hk
          · have h' : rr1 n h_ l = rq1 x := by
              have := h
              simpa using this
            exact ⟨1, sl70 2, ob70 _ _ _ _ _ _, by decide, ⟨rfl, .inr (.inr (.inl ⟨rfl, e0, h', rfl⟩))⟩, ⟨Nat.zero_le _, Nat.le_of_ble_eq_true rfl, ⟨⟨rfl, rfl⟩, ⟨rfl, rfl⟩, ⟨rfl, rfl⟩, trivial⟩, ⟨⟨.inl rfl, trivial⟩, ⟨.inl rfl, trivial⟩, ⟨.inl rfl, trivial⟩, ⟨.inr rfl, rfl⟩, ⟨.inr rfl, rfl⟩, trivial⟩⟩⟩
        · refine And.intro (by decide) ?_
          refine And.intro (by decide) ?_
          refine bcase_i (fun h => ?_) (fun h => ?_)
          · refine And.intro (by decide) ?_
            refine And.intro (by decide) ?_
            have h' := bne_iff_ne.1 h
            have e : lex3 (rr0 n h_ l) (rr1 n h_ l) (rr2 n l) (rq0 x) (rq1 x) (rq2 x) = decide (rr2 n l < rq2 x) := by
              unfold lex3
              rw [if_neg (by simpa using e0)]
              rw [if_neg (by simpa using e1)]
              rw [if_pos h']
            rw [e] at hk
            exact hk
          · have h' : rr2 n l = rq2 x := by
              have := h
              simpa using this
            exact ⟨0, sl70 3, ob70 _ _ _ _ _ _, by decide, ⟨rfl, .inr (.inr (.inr ⟨rfl, e0, e1, h', rfl⟩))⟩, ⟨Nat.zero_le _, Nat.le_of_ble_eq_true rfl, ⟨⟨rfl, rfl⟩, ⟨rfl, rfl⟩, ⟨rfl, rfl⟩, trivial⟩, ⟨⟨.inl rfl, trivial⟩, ⟨.inl rfl, trivial⟩, ⟨.inl rfl, trivial⟩, ⟨.inr rfl, rfl⟩, ⟨.inr rfl, rfl⟩, trivial⟩⟩⟩
        · have e : lex3 (rr0 n h_ l) (rr1 n h_ l) (rr2 n l) (rq0 x) (rq1 x) (rq2 x) = true := by
            unfold lex3
            rw [if_neg (by simpa using e0), if_neg (by simpa using e1), if_neg (by simpa using e2)]
          rw [e] at hk
          exact hk
    · cases hg
  · exact hk.elim
end Go.Proofs.YtbolfnkgbjkbjaaGreat.AM
end
section
set_option linter.unusedVariables false
set_option linter.unusedSimpArgs false
namespace Go.Proofs.YtbolfnkgbjkbjaaGreat.AM
open Go Go.RowKit
theorem pow32 : (2 ^ min (Int.toNat 32) IntKind.u64.bits : Int) = 4294967296 := by decide
theorem rq0_eq (x : Int) (hx : w64 x) : rq0 x = x * x / 18446744073709551616 / 4294967296 := by
  unfold rq0
  rw [pow32, Int.fdiv_eq_ediv_of_nonneg _ (by decide)]
theorem rq2_eq (x : Int) : rq2 x = x * x % 18446744073709551616 * 4294967296 % 18446744073709551616 := by
  unfold rq2
  rw [pow32, IntKind.wrap_u64]
theorem nat_or (a b : Nat) (ha : a < 18446744073709551616) (hb : b < 18446744073709551616) :
    IntKind.u64.wrap ↑(BitVec.ofInt IntKind.u64.bits (IntKind.u64.wrap ((a : Int) * 4294967296)) ||| BitVec.ofInt IntKind.u64.bits ((b : Int) / 4294967296)).toNat = (a : Int) % 4294967296 * 4294967296 + (b : Int) / 4294967296 := by
  have e1 : (BitVec.ofInt IntKind.u64.bits (IntKind.u64.wrap ((a : Int) * 4294967296))).toNat = 2 ^ 32 * (a % 4294967296) := by
    rw [BitVec.toNat_ofInt, IntKind.wrap_u64]
    show (((a : Int) * 4294967296 % 18446744073709551616) % ((2 ^ 64 : Nat) : Int)).toNat = _
    omega
  have e2 : (BitVec.ofInt IntKind.u64.bits ((b : Int) / 4294967296)).toNat = b / 4294967296 := by
    rw [BitVec.toNat_ofInt]
    show (((b : Int) / 4294967296) % ((2 ^ 64 : Nat) : Int)).toNat = _
    omega
  rw [BitVec.toNat_or, e1, e2, ← Nat.two_pow_add_eq_or_of_lt (by omega), IntKind.wrap_u64]
  omega
theorem rq1_eq (x : Int) (hx : w64 x) : rq1 x = x * x / 18446744073709551616 % 4294967296 * 4294967296 + x * x % 18446744073709551616 / 4294967296 := by
  have hp := mul_lt x x hx hx
  unfold rq1
  rw [pow32, Int.fdiv_eq_ediv_of_nonneg _ (by decide)]
  generalize x * x = p at *
  have ha : 0 ≤ p / 18446744073709551616 ∧ p / 18446744073709551616 < 18446744073709551616 := by omega
  have hb : 0 ≤ p % 18446744073709551616 ∧ p % 18446744073709551616 < 18446744073709551616 := by omega
  generalize p / 18446744073709551616 = a at *
  generalize p % 18446744073709551616 = b at *
  obtain ⟨A, rfl⟩ := Int.eq_ofNat_of_zero_le ha.1
  obtain ⟨B, rfl⟩ := Int.eq_ofNat_of_zero_le hb.1
  exact nat_or A B (by omega) (by omega)
theorem lex3_eq (r0 r1 r2 q0 q1 q2 : Int) (h1 : w64 r1) (h2 : w64 r2) (h3 : w64 q1) (h4 : w64 q2) :
    lex3 r0 r1 r2 q0 q1 q2 = decide (r0 * 340282366920938463463374607431768211456 + r1 * 18446744073709551616 + r2 ≤ q0 * 340282366920938463463374607431768211456 + q1 * 18446744073709551616 + q2) := by
  unfold lex3
  by_cases e0 : r0 = q0
  · rw [if_neg (by simpa using e0)]
    by_cases e1 : r1 = q1
    · rw [if_neg (by simpa using e1)]
      by_cases e2 : r2 = q2
      · rw [if_neg (by simpa using e2)]
        symm
        rw [decide_eq_true_iff]
        omega
      · rw [if_pos e2, decide_eq_decide]
        omega
    · rw [if_pos e1, decide_eq_decide]
      omega
  · rw [if_pos e0, decide_eq_decide]
    omega
/-- fixed.below -/
def g193 : GSpec := fun args obs => match args, obs with
  | [.int .u64 n, .agg [.int .u64 h, .int .u64 l], .int .u64 x], [] => some ((0 ≤ n ∧ n ≤ 131072) ∧ w64 h ∧ w64 l ∧ w64 x, .ret (.bool (decide (n * n * (h * 18446744073709551616 + l) ≤ 4294967296 * (x * x)))), [])
  | _, _ => none
theorem FreshOk.weaken {P : Program} {f : Nat} {F F' : FSpec} (h : FreshOk P f F) (hs : ∀ args obs K, F' args obs K → F args obs K) : FreshOk P f F' :=
  fun args obs K hk => h args obs K (hs _ _ _ hk)
theorem r193 : FreshOk Tryz.prog 193 (ofD g193) := by
  refine r70a.weaken fun args obs K hk => ?_
  unfold ofD g193 at hk
  split at hk
  · rename_i d out news hg
    split at hg
    · rename_i n h l x
      cases hg
      obtain ⟨⟨hn, hh, hl, hx⟩, hk⟩ := hk
      have hm : 0 ≤ n * n ∧ n * n ≤ 17179869184 := ⟨Int.mul_nonneg hn.1 hn.1, Int.le_trans (Int.mul_le_mul hn.2 hn.2 hn.1 (by decide)) (by decide)⟩
      have hw : IntKind.u64.wrap (n * n) = n * n := by
        generalize n * n = m at *
        exact IntWalk.u64_in _ (by omega)
      have hmh : 0 ≤ n * n * h ∧ n * n * h < 170141183460469231731687303715884105728 :=
        ⟨Int.mul_nonneg hm.1 hh.1, Int.lt_of_le_of_lt (Int.mul_le_mul hm.2 (show h ≤ 18446744073709551615 by omega) hh.1 (by decide)) (by decide)⟩
      have hml := Int.mul_nonneg hm.1 hl.1
      have hpx := mul_lt x x hx hx
      have e0 := rq0_eq x hx
      have e1 := rq1_eq x hx
      have e2 := rq2_eq x
      have f0 : rr0 n h l = (n * n * h + n * n * l / 18446744073709551616) / 18446744073709551616 := by unfold rr0; rw [hw]
      have f1 : rr1 n h l = (n * n * h + n * n * l / 18446744073709551616) % 18446744073709551616 := by unfold rr1; rw [hw]
      have f2 : rr2 n l = n * n * l % 18446744073709551616 := by unfold rr2; rw [hw]
      have ed : n * n * (h * 18446744073709551616 + l) = n * n * h * 18446744073709551616 + n * n * l := by rw [Int.mul_add, Int.mul_assoc (n * n) h]
      have key : lex3 (rr0 n h l) (rr1 n h l) (rr2 n l) (rq0 x) (rq1 x) (rq2 x) = decide (n * n * (h * 18446744073709551616 + l) ≤ 4294967296 * (x * x)) := by
        rw [e0, e1, e2, f0, f1, f2, ed]
        generalize n * n * h = u at *
        generalize n * n * l = v at *
        generalize x * x = p at *
        rw [lex3_eq _ _ _ _ _ _ (by omega) (by omega) (by omega) (by omega), decide_eq_decide]
        omega
      rw [← key] at hk
      refine ⟨⟨⟨⟨?_, hh, hl⟩, ?_⟩, hx⟩, hk⟩
      · rw [hw]; omega
      · rw [hw]; exact hmh.2
    · cases hg
  · exact hk.elim
end Go.Proofs.YtbolfnkgbjkbjaaGreat.AM
end
section
set_option linter.unusedVariables false
set_option linter.unusedSimpArgs false
namespace Go.Proofs.YtbolfnkgbjkbjaaGreat.AM
open Go Go.RowKit
set_option maxRecDepth 100000
/-- The share's bits, from a place on. -/
def shGo (x s : Int) : Nat → Nat → Nat
  | 0, n => n
  | k + 1, n => shGo x s k (if (n + 2 ^ k : Nat) ≤ 65536 ∧ ((n + 2 ^ k : Nat) : Int) * ((n + 2 ^ k : Nat) : Int) * s ≤ 4294967296 * (x * x) then n + 2 ^ k else n)
theorem shGo_succ (x s : Int) (k n : Nat) : shGo x s (k + 1) n = shGo x s k (if (n + 2 ^ k : Nat) ≤ 65536 ∧ ((n + 2 ^ k : Nat) : Int) * ((n + 2 ^ k : Nat) : Int) * s ≤ 4294967296 * (x * x) then n + 2 ^ k else n) := rfl
def bitOf : Nat → Nat
  | 0 => 0
  | k + 1 => 2 ^ k
theorem bit_or (n k j : Nat) (hn : n = 2 ^ (k + 1) * j) (hk : k ≤ 16) (hl : n ≤ 65536) : IntKind.u64.wrap ↑(BitVec.ofInt IntKind.u64.bits (n : Int) ||| BitVec.ofInt IntKind.u64.bits ((2 ^ k : Nat) : Int)).toNat = ((n + 2 ^ k : Nat) : Int) := by
  have hb : 2 ^ k ≤ 65536 := Nat.pow_le_pow_right (n := 2) (by decide) hk
  have e1 : (BitVec.ofInt IntKind.u64.bits (n : Int)).toNat = n := by
    rw [BitVec.toNat_ofInt]
    show ((n : Int) % ((2 ^ 64 : Nat) : Int)).toNat = _
    omega
  have e2 : (BitVec.ofInt IntKind.u64.bits ((2 ^ k : Nat) : Int)).toNat = 2 ^ k := by
    rw [BitVec.toNat_ofInt]
    show (((2 ^ k : Nat) : Int) % ((2 ^ 64 : Nat) : Int)).toNat = _
    generalize 2 ^ k = b at *
    omega
  have e3 : n ||| 2 ^ k = n + 2 ^ k := by
    rw [hn, ← Nat.two_pow_add_eq_or_of_lt (Nat.pow_lt_pow_right (by decide) (Nat.lt_succ_self k))]
  rw [BitVec.toNat_or, e1, e2, e3, IntKind.wrap_u64]
  generalize 2 ^ k = b at *
  omega
theorem bit_shr (k : Nat) : ((2 ^ k : Nat) : Int).fdiv (2 ^ min (Int.toNat 1) IntKind.u64.bits) = (bitOf k : Int) := by
  have : (2 ^ min (Int.toNat 1) IntKind.u64.bits : Int) = 2 := by decide
  rw [this, Int.fdiv_eq_ediv_of_nonneg _ (by decide)]
  cases k with
  | zero => rfl
  | succ k =>
    simp only [bitOf, Nat.pow_succ]
    generalize 2 ^ k = b
    omega
/-- fixed.share -/
def g139 : GSpec := fun args obs => match args, obs with
  | [.int .u64 x, .agg [.int .u64 h, .int .u64 l]], [] => some (w64 x ∧ w64 h ∧ w64 l, .ret (u64 (shGo x (h * 18446744073709551616 + l) 17 0)), [])
  | _, _ => none
def Iv50 : List V → List Ob → Inv := fun args _ _ m sl ob => match args with
  | [.int .u64 x, .agg [.int .u64 h, .int .u64 l]] => ∃ n j, n = 2 ^ m * j ∧ m ≤ 17 ∧ n ≤ 65536 ∧ shGo x (h * 18446744073709551616 + l) m n = shGo x (h * 18446744073709551616 + l) 17 0 ∧
      sl = [(0, u64 x), (3, .ptr 0 0 0 0), (5, u64 (n : Nat)), (6, u64 (bitOf m))] ∧ ob = [.var 167 [u64 h, u64 l]]
  | _ => False
def T9 : Tab := T8.add 193 (liftA (ofD g193))
theorem T9_ok : TabOk Tryz.prog T9 := T8_ok.add (entry_of_fresh r193)
theorem r139 : FreshOk Tryz.prog 139 (ofD g139) := by
  refine fresh_of_run T9_ok D6_ok Iv50 Tryz.func139 c139 fun args obs K' hk => ?_
  unfold ofD g139 at hk
  split at hk
  · rename_i d out news hg
    split at hg
    · rename_i x h l
      cases hg
      obtain ⟨hc, hk⟩ := hk
      refine And.intro trivial ?_
      refine And.intro ?_ ?_
      · exact ⟨17, _, _, ⟨0, 0, rfl, Nat.le_refl _, Nat.zero_le _, rfl, rfl, rfl⟩, ⟨Nat.zero_le _, Nat.le_refl _, ⟨⟨rfl, rfl⟩, ⟨rfl, rfl⟩, ⟨rfl, rfl⟩, ⟨rfl, rfl⟩, trivial⟩, ⟨⟨.inr rfl, rfl⟩, trivial⟩⟩⟩
      · rintro m sl ob ⟨n, j, hn, hm, hl, hs, rfl, rfl⟩
        cases m with
        | zero =>
          have hs0 : n = shGo x (h * 18446744073709551616 + l) 17 0 := hs
          rw [← hs0] at hk
          exact hk
        | succ k =>
          have hb : 0 < 2 ^ k := Nat.two_pow_pos k
          have hb' : ((2 ^ k : Nat) : Int) > 0 := Int.natCast_pos.2 hb
          have hor := bit_or n k j hn (by omega) hl
          have hshr := bit_shr k
          have hle : 2 ^ k ≤ 65536 := Nat.pow_le_pow_right (n := 2) (by decide) (show k ≤ 16 by omega)
          have hn2 : n = 2 ^ k * (2 * j) := by rw [hn, Nat.pow_succ, Nat.mul_assoc]
          have hn3 : n + 2 ^ k = 2 ^ k * (2 * j + 1) := by rw [hn2, Nat.mul_add, Nat.mul_one]
          rw [shGo_succ x _ k n] at hs
          refine bcase_t (b := decide (((2 ^ k : Nat) : Int) > 0)) (decide_eq_true hb') ?_
          refine bcase_i (fun h1 => ?_) (fun h1 => ?_)
          · have h2 : ((n + 2 ^ k : Nat) : Int) ≤ 65536 := by
              rw [← hor]
              exact of_decide_eq_true h1
            refine And.intro ⟨trivial, ⟨trivial, trivial, trivial⟩, trivial, trivial⟩ ?_
            refine And.intro ?_ ?_
            · have h5 : (0 : Int) ≤ ((n + 2 ^ k : Nat) : Int) ∧ ((n + 2 ^ k : Nat) : Int) ≤ 131072 := by omega
              rw [← hor] at h5
              exact ⟨h5, hc.2.1, hc.2.2, hc.1⟩
            · refine bcase_i (fun h3 => ?_) (fun h3 => ?_)
              · have h4 : decide (((n + 2 ^ k : Nat) : Int) * ((n + 2 ^ k : Nat) : Int) * (h * 18446744073709551616 + l) ≤ 4294967296 * (x * x)) = true := by
                  rw [← hor]
                  exact h3
                rw [if_pos ⟨by omega, of_decide_eq_true h4⟩] at hs
                refine And.intro (by decide) ?_
                exact ⟨k, _, _, Nat.lt_succ_self k, ⟨n + 2 ^ k, 2 * j + 1, hn3, by omega, by omega, hs, rfl, rfl⟩, ⟨Nat.zero_le _, Nat.le_refl _, ⟨⟨rfl, rfl⟩, ⟨rfl, rfl⟩, ⟨congrArg u64 hor, rfl⟩, ⟨congrArg u64 hshr, rfl⟩, trivial⟩, ⟨⟨.inr rfl, rfl⟩, trivial⟩⟩⟩
              · have h4 : decide (((n + 2 ^ k : Nat) : Int) * ((n + 2 ^ k : Nat) : Int) * (h * 18446744073709551616 + l) ≤ 4294967296 * (x * x)) = false := by
                  rw [← hor]
                  exact h3
                rw [if_neg (fun hh => of_decide_eq_false h4 hh.2)] at hs
                refine And.intro (by decide) ?_
                exact ⟨k, _, _, Nat.lt_succ_self k, ⟨n, 2 * j, hn2, by omega, hl, hs, rfl, rfl⟩, ⟨Nat.zero_le _, Nat.le_refl _, ⟨⟨rfl, rfl⟩, ⟨rfl, rfl⟩, ⟨rfl, rfl⟩, ⟨congrArg u64 hshr, rfl⟩, trivial⟩, ⟨⟨.inr rfl, rfl⟩, trivial⟩⟩⟩
          · have h2 : ¬ ((n + 2 ^ k : Nat) : Int) ≤ 65536 := by
              rw [← hor]
              exact of_decide_eq_false h1
            rw [if_neg (fun hh => h2 (by omega))] at hs
            refine And.intro (by decide) ?_
            exact ⟨k, _, _, Nat.lt_succ_self k, ⟨n, 2 * j, hn2, by omega, hl, hs, rfl, rfl⟩, ⟨Nat.zero_le _, Nat.le_refl _, ⟨⟨rfl, rfl⟩, ⟨rfl, rfl⟩, ⟨rfl, rfl⟩, ⟨congrArg u64 hshr, rfl⟩, trivial⟩, ⟨⟨.inr rfl, rfl⟩, trivial⟩⟩⟩
    · cases hg
  · exact hk.elim
end Go.Proofs.YtbolfnkgbjkbjaaGreat.AM
end
section
set_option linter.unusedVariables false
set_option linter.unusedSimpArgs false
namespace Go.Proofs.YtbolfnkgbjkbjaaGreat.AM
open Go Go.RowKit
set_option maxRecDepth 100000
theorem shGo_le (x s : Int) : ∀ (k n : Nat), n ≤ 65536 → shGo x s k n ≤ 65536
  | 0, n, h => h
  | k + 1, n, h => by
    rw [shGo_succ]
    split
    · rename_i h2
      exact shGo_le x s k _ h2.1
    · exact shGo_le x s k _ h
/-- A coordinate's share of a length. -/
def shareS (x s : Int) : Int := if x < 0 then -(shGo x.natAbs s 17 0 : Int) else (shGo x.natAbs s 17 0 : Int)
def D11 : DTab := D6.add 139 (viewD g139)
theorem D11_ok : TabOk Tryz.prog (tabD D11) := DTab.add_ok D6_ok (dok r139)

/-- fixed.Unit$1$1 -/
def g137 : GSpec := fun args obs => match args, obs with
  | [.int .i64 x, .int .i64 y, .ptr 0 0 0 0], [.rv [.int .u64 h, .int .u64 l]] => some (fixOk x ∧ w64 h ∧ w64 l, .ret (i64 (shareS x (h * 18446744073709551616 + l))), [])
  | _, _ => none
theorem k137 (x y h l : Int) (K' : Out → List Ob → Prop) : runFn (T6) (D11) noIv a137 [.int .i64 x, .int .i64 y, .ptr 0 0 0 0] (lookO [.rv [.int .u64 h, .int .u64 l]]) 1 (closeK K') =
    (((True ∧ True) ∧ (-9223372036854775808 : Int) ≤ x ∧ x < (9223372036854775808 : Int)) ∧
    ((True ∧ (True ∧ True ∧ True) ∧ True) ∧ w64 ↑x.natAbs ∧ w64 h ∧ w64 l) ∧
    ((True ∧ True ∧ True) ∧
  (0 : Int) ≤ ↑(shGo (↑x.natAbs) (h * (18446744073709551616 : Int) + l) (17 : Nat) (0 : Nat)) ∧
    ↑(shGo (↑x.natAbs) (h * (18446744073709551616 : Int) + l) (17 : Nat) (0 : Nat)) ≤ (70368744177664 : Int)) ∧
    K'
  (Out.ret
    (V.int IntKind.i64
      (bif decide (x < (0 : Int)) then -↑(shGo (↑x.natAbs) (h * (18446744073709551616 : Int) + l) (17 : Nat) (0 : Nat))
      else ↑(shGo (↑x.natAbs) (h * (18446744073709551616 : Int) + l) (17 : Nat) (0 : Nat)))))
  []) := by kernel_rfl
theorem r137 : FreshOk Tryz.prog 137 (ofD g137) := by
  refine fresh_of_run T6_ok D11_ok (fun _ _ => noIv) Tryz.func137 c137 fun args obs K' hk => ?_
  unfold ofD g137 at hk
  split at hk
  · rename_i d_ out news hg
    split at hg
    · rename_i x y h l
      cases hg
      obtain ⟨hc, hk⟩ := hk
      have hs := shGo_le x.natAbs (h * 18446744073709551616 + l) 17 0 (Nat.zero_le _)
      refine Eq.mpr (k137 x y h l K') ⟨?_, ?_, ?_, ?_⟩
      · first | omega | (simp only [true_and, and_true]; omega) | (refine ⟨by simp, ?_⟩; intro z hz; simp at hz; omega)
      · first | omega | (simp only [true_and, and_true]; omega) | (refine ⟨by simp, ?_⟩; intro z hz; simp at hz; omega)
      · first | omega | (simp only [true_and, and_true]; omega) | (refine ⟨by simp, ?_⟩; intro z hz; simp at hz; omega)
      · unfold shareS at hk
        by_cases h0 : x < 0
        · rw [if_pos h0] at hk
          rw [decide_eq_true h0]
          exact hk
        · rw [if_neg h0] at hk
          rw [decide_eq_false h0]
          exact hk
    · cases hg
  · exact hk.elim

end Go.Proofs.YtbolfnkgbjkbjaaGreat.AM
end
section
set_option linter.unusedVariables false
set_option linter.unusedSimpArgs false
namespace Go.Proofs.YtbolfnkgbjkbjaaGreat.AM
open Go Go.RowKit
set_option maxRecDepth 100000

theorem in_fix {l : List Int} (h : l.length < 1000000) (hh : ∀ x ∈ l, fixOk x) : l.length < 1000000 ∧ ∀ x : den [SK.int .i64], x ∈ l → -70368744177664 ≤ x ∧ x ≤ 70368744177664 := ⟨h, hh⟩
/-- each, over a table. -/
def eT (T : Tab) (D : DTab) : Tab := ((T.add 158 (runFn T D noIv a158)).add 135 (runTried (T.add 158 (runFn T D noIv a158)) D noIv a135)).add 92 (runFn ((T.add 158 (runFn T D noIv a158)).add 135 (runTried (T.add 158 (runFn T D noIv a158)) D noIv a135)) D noIv a92)
theorem eT_ok {T : Tab} {D : DTab} (hT : TabOk Tryz.prog T) (hD : TabOk Tryz.prog (tabD D)) : TabOk Tryz.prog (eT T D) := by
  have h1 : TabOk Tryz.prog (T.add 158 (runFn T D noIv a158)) := hT.add (fn_entry hT hD noIv Tryz.func158 c158)
  have h2 := h1.add (tried_entry h1 hD noIv Tryz.func135 Tryz.func192 c135 d135)
  exact h2.add (fn_entry h2 hD noIv Tryz.func92 c92)
def D12 : DTab := D11.add 137 (viewD g137)
theorem D12_ok : TabOk Tryz.prog (tabD D12) := DTab.add_ok D11_ok (dok r137)
def T12 : Tab := (eT T8 D12).add 136 (runFn (eT T8 D12) D12 noIv a136)
theorem T12_ok : TabOk Tryz.prog T12 := (eT_ok T8_ok D12_ok).add (fn_entry (eT_ok T8_ok D12_ok) D12_ok noIv Tryz.func136 c136)
def T12b : Tab := T12.add 135 (runTried T12 D12 noIv a135)
theorem T12b_ok : TabOk Tryz.prog T12b := T12_ok.add (tried_entry T12_ok D12_ok noIv Tryz.func135 Tryz.func192 c135 d135)

/-- fixed.Unit -/
def g82 : GSpec := fun args obs => match args, obs with
  | [.agg [.int .i64 x, .int .i64 y]], [] => some (fixOk x ∧ fixOk y ∧ 0 < x * x + y * y, .ret (.tup [.agg [i64 (shareS x (x * x + y * y)), i64 (shareS y (x * x + y * y))], i64 0]), [])
  | _, _ => none
theorem k82 (x y : Int) (K' : Out → List Ob → Prop) : runFn (T12b) (D12) noIv a82 [.agg [.int .i64 x, .int .i64 y]] (lookO []) 0 (closeK K') =
    ((True) ∧
    (True) ∧
    (True) ∧
    (True) ∧
    (True) ∧
    ((True ∧ True ∧ True) ∧ True) ∧
    (fixOk x ∧ fixOk y) ∧
    (True) ∧
    (True) ∧
    (True ∧ True ∧ True) ∧
    ((match true with
  | true =>
    !((x * x + y * y) / (18446744073709551616 : Int) == (0 : Int) &&
        ((x * x + y * y) % (18446744073709551616 : Int) == (0 : Int) && true))
  | false =>
    (x * x + y * y) / (18446744073709551616 : Int) == (0 : Int) &&
      ((x * x + y * y) % (18446744073709551616 : Int) == (0 : Int) && true)) =
  true) ∧
    (True) ∧
    (True) ∧
    (True) ∧
    (True) ∧
    (True) ∧
    (True) ∧
    (True) ∧
    (True) ∧
    (True ∧ True) ∧
    ([x, y, x, y].length < (1000000 : Nat) ∧
  ∀ (x_1 : den [SK.int IntKind.i64]),
    x_1 ∈ [x, y, x, y] →
      (-70368744177664 : den [SK.int IntKind.i64]) ≤ x_1 ∧ x_1 ≤ (70368744177664 : den [SK.int IntKind.i64])) ∧
    ((True ∧ True ∧ True ∧ True) ∧
  fixOk x ∧ w64 ((x * x + y * y) / (18446744073709551616 : Int)) ∧ w64 ((x * x + y * y) % (18446744073709551616 : Int))) ∧
    ((True ∧ True ∧ True ∧ True) ∧
  fixOk y ∧ w64 ((x * x + y * y) / (18446744073709551616 : Int)) ∧ w64 ((x * x + y * y) % (18446744073709551616 : Int))) ∧
    (True) ∧
    (True) ∧
    (True) ∧
    (True) ∧
    (True) ∧
    (True) ∧
    (True) ∧
    (True) ∧
    (True) ∧
    (True) ∧
    (True) ∧
    (True) ∧
    (True) ∧
    (True) ∧
    K'
  (Out.ret
    (V.tup
      [V.agg
          [V.int IntKind.i64
              (shareS x
                ((x * x + y * y) / (18446744073709551616 : Int) * (18446744073709551616 : Int) +
                  (x * x + y * y) % (18446744073709551616 : Int))),
            V.int IntKind.i64
              (shareS y
                ((x * x + y * y) / (18446744073709551616 : Int) * (18446744073709551616 : Int) +
                  (x * x + y * y) % (18446744073709551616 : Int)))],
        V.int IntKind.i64 (0 : Int)]))
  []) := by kernel_rfl
theorem r82 : FreshOk Tryz.prog 82 (ofD g82) := by
  refine fresh_of_run T12b_ok D12_ok (fun _ _ => noIv) Tryz.func82 c82 fun args obs K' hk => ?_
  unfold ofD g82 at hk
  split at hk
  · rename_i d_ out news hg
    split at hg
    · rename_i x y
      cases hg
      obtain ⟨hc, hk⟩ := hk
      have hp := sq_le x hc.1
      have hq := sq_le y hc.2.1
      refine Eq.mpr (k82 x y K') ⟨trivial, trivial, trivial, trivial, trivial, ⟨⟨trivial, ⟨trivial, trivial⟩⟩, trivial⟩, ?_, trivial, trivial, ⟨trivial, ⟨trivial, trivial⟩⟩, ?_, trivial, trivial, trivial, trivial, trivial, trivial, trivial, trivial, ⟨trivial, trivial⟩, ?_, ?_, ?_, trivial, trivial, trivial, trivial, trivial, trivial, trivial, trivial, trivial, trivial, trivial, trivial, trivial, trivial, ?_⟩
      · first | omega | (simp only [true_and, and_true]; omega) | exact in_fix (by simp) (by simp; omega)
      · generalize x * x + y * y = s at *
        simp
        omega
      · first | omega | (simp only [true_and, and_true]; omega) | exact in_fix (by simp) (by simp; omega)
      · refine ⟨⟨trivial, trivial, trivial, trivial⟩, hc.1, ?_⟩
        clear hk
        omega
      · refine ⟨⟨trivial, trivial, trivial, trivial⟩, hc.2.1, ?_⟩
        clear hk
        omega
      · have e : (x * x + y * y) / 18446744073709551616 * 18446744073709551616 + (x * x + y * y) % 18446744073709551616 = x * x + y * y := by
          generalize x * x + y * y = s at *
          omega
        rw [e]
        exact hk
    · cases hg
  · exact hk.elim

end Go.Proofs.YtbolfnkgbjkbjaaGreat.AM
end
section
set_option linter.unusedVariables false
set_option linter.unusedSimpArgs false
namespace Go.Proofs.YtbolfnkgbjkbjaaGreat.AM
open Go Go.RowKit
set_option maxRecDepth 100000

/-- The length of a byte, of a number below 2^32, in bits. -/
def tbl (x : Int) : Int := ((tb232_0.getD x.toNat 0 : Nat) : Int)
def blen (x : Int) : Int := if 65536 ≤ x then (if 16777216 ≤ x then 24 + tbl (x / 16777216) else 16 + tbl (x / 65536)) else if 256 ≤ x then 8 + tbl (x / 256) else tbl x
theorem tbl_nat : ∀ b : Fin 256, tb232_0.getD b.val 0 ≤ 8 ∧ (0 < b.val → 1 ≤ tb232_0.getD b.val 0 ∧ 2 ^ (tb232_0.getD b.val 0 - 1) ≤ b.val ∧ b.val < 2 ^ tb232_0.getD b.val 0) := by decide
theorem tbl_spec (x : Int) (h0 : 0 < x) (h1 : x < 256) : ∃ n : Nat, tbl x = n ∧ 1 ≤ n ∧ n ≤ 8 ∧ (2 : Int) ^ (n - 1) ≤ x ∧ x < 2 ^ n := by
  obtain ⟨m, rfl⟩ := Int.eq_ofNat_of_zero_le (Int.le_of_lt h0)
  have h := tbl_nat ⟨m, by omega⟩
  simp only [] at h
  obtain ⟨h2, h3⟩ := h
  obtain ⟨h4, h5, h6⟩ := h3 (by omega)
  refine ⟨_, rfl, h4, h2, ?_, ?_⟩
  · exact_mod_cast h5
  · exact_mod_cast h6
theorem tbl_le (x : Int) (h0 : 0 ≤ x) (h1 : x < 256) : 0 ≤ tbl x ∧ tbl x ≤ 8 := by
  obtain ⟨m, rfl⟩ := Int.eq_ofNat_of_zero_le h0
  have h := (tbl_nat ⟨m, by omega⟩).1
  simp only [] at h
  unfold tbl
  simp only [Int.toNat_natCast]
  omega
theorem blen_spec (x : Int) (h0 : 0 < x) (h1 : x < 4294967296) : ∃ n : Nat, blen x = n ∧ 1 ≤ n ∧ n ≤ 32 ∧ (2 : Int) ^ (n - 1) ≤ x ∧ x < 2 ^ n := by
  have go : ∀ (k : Nat) (c q : Int), k = 0 ∧ c = 1 ∨ k = 8 ∧ c = 256 ∨ k = 16 ∧ c = 65536 ∨ k = 24 ∧ c = 16777216 → x / c = q → 0 < q → q < 256 → ∃ n : Nat, (k : Int) + tbl q = n ∧ 1 ≤ n ∧ n ≤ 32 ∧ (2 : Int) ^ (n - 1) ≤ x ∧ x < 2 ^ n := by
    intro k c q hk hq h2 h3
    obtain ⟨n, e, h4, h5, h6, h7⟩ := tbl_spec q h2 h3
    refine ⟨k + n, by omega, by omega, by omega, ?_⟩
    have hn : n = 1 ∨ n = 2 ∨ n = 3 ∨ n = 4 ∨ n = 5 ∨ n = 6 ∨ n = 7 ∨ n = 8 := by omega
    rcases hk with ⟨rfl, rfl⟩ | ⟨rfl, rfl⟩ | ⟨rfl, rfl⟩ | ⟨rfl, rfl⟩ <;> rcases hn with rfl | rfl | rfl | rfl | rfl | rfl | rfl | rfl <;> simp only [Nat.add_one_sub_one, Nat.reduceAdd, Nat.reduceSub, Int.reducePow] at * <;> omega
  unfold blen
  split
  · split
    · exact go 24 16777216 _ (by simp) rfl (by omega) (by omega)
    · exact go 16 65536 _ (by simp) rfl (by omega) (by omega)
  · split
    · exact go 8 256 _ (by simp) rfl (by omega) (by omega)
    · have := go 0 1 x (by simp) (by omega) h0 (by omega)
      simpa using this
theorem fdivp (x c : Int) (h : 0 ≤ c) : x.fdiv c = x / c := Int.fdiv_eq_ediv_of_nonneg _ h

/-- math/bits.Len64 -/
def g232 : GSpec := fun args obs => match args, obs with
  | [.int .u64 x], [] => some (0 ≤ x ∧ x < 4294967296, .ret (i64 (blen x)), [])
  | _, _ => none
theorem k232 (x : Int) (K' : Out → List Ob → Prop) : runFn (T6) (D6) noIv a232 [.int .u64 x] (lookO []) 0 (closeK K') =
    (bcase (decide (x ≥ (4294967296 : Int)))
     (((0 : Int) ≤ (32 : Int)) ∧
     bcase (decide (x.fdiv (4294967296 : Int) ≥ (65536 : Int)))
      (((0 : Int) ≤ (16 : Int)) ∧
      bcase (decide
  ((x.fdiv (4294967296 : Int)).fdiv
      (65536 : Int) ≥
    (256 : Int)))
       (((0 : Int) ≤ (8 : Int)) ∧
       ((0 : Int) ≤
    IntKind.u8.wrap
      (((x.fdiv (4294967296 : Int)).fdiv
            (65536 : Int)).fdiv
        (256 : Int)) ∧
  IntKind.u8.wrap
      (((x.fdiv (4294967296 : Int)).fdiv
            (65536 : Int)).fdiv
        (256 : Int)) <
    ↑tb232_0.length) ∧
       K'
  (Out.ret
    (V.int IntKind.i64
      (IntKind.i64.wrap
        ((56 : Int) +
          IntKind.i64.wrap
            ↑(tb232_0.getD
                (IntKind.u8.wrap
                    (((x.fdiv (4294967296 : Int)).fdiv
                          (65536 : Int)).fdiv
                      (256 : Int))).toNat
                (0 : Nat))))))
  [])
       (((0 : Int) ≤
    IntKind.u8.wrap
      ((x.fdiv (4294967296 : Int)).fdiv
        (65536 : Int)) ∧
  IntKind.u8.wrap
      ((x.fdiv (4294967296 : Int)).fdiv
        (65536 : Int)) <
    ↑tb232_0.length) ∧
       K'
  (Out.ret
    (V.int IntKind.i64
      (IntKind.i64.wrap
        ((48 : Int) +
          IntKind.i64.wrap
            ↑(tb232_0.getD
                (IntKind.u8.wrap
                    ((x.fdiv (4294967296 : Int)).fdiv
                      (65536 : Int))).toNat
                (0 : Nat))))))
  []))
      (bcase (decide (x.fdiv (4294967296 : Int) ≥ (256 : Int)))
       (((0 : Int) ≤ (8 : Int)) ∧
       ((0 : Int) ≤
    IntKind.u8.wrap
      ((x.fdiv (4294967296 : Int)).fdiv
        (256 : Int)) ∧
  IntKind.u8.wrap
      ((x.fdiv (4294967296 : Int)).fdiv
        (256 : Int)) <
    ↑tb232_0.length) ∧
       K'
  (Out.ret
    (V.int IntKind.i64
      (IntKind.i64.wrap
        ((40 : Int) +
          IntKind.i64.wrap
            ↑(tb232_0.getD
                (IntKind.u8.wrap
                    ((x.fdiv (4294967296 : Int)).fdiv
                      (256 : Int))).toNat
                (0 : Nat))))))
  [])
       (((0 : Int) ≤ IntKind.u8.wrap (x.fdiv (4294967296 : Int)) ∧
  IntKind.u8.wrap (x.fdiv (4294967296 : Int)) < ↑tb232_0.length) ∧
       K'
  (Out.ret
    (V.int IntKind.i64
      (IntKind.i64.wrap
        ((32 : Int) +
          IntKind.i64.wrap
            ↑(tb232_0.getD (IntKind.u8.wrap (x.fdiv (4294967296 : Int))).toNat
                (0 : Nat))))))
  [])))
     (bcase (decide (x ≥ (65536 : Int)))
      (((0 : Int) ≤ (16 : Int)) ∧
      bcase (decide (x.fdiv (65536 : Int) ≥ (256 : Int)))
       (((0 : Int) ≤ (8 : Int)) ∧
       ((0 : Int) ≤
    IntKind.u8.wrap
      ((x.fdiv (65536 : Int)).fdiv
        (256 : Int)) ∧
  IntKind.u8.wrap
      ((x.fdiv (65536 : Int)).fdiv
        (256 : Int)) <
    ↑tb232_0.length) ∧
       K'
  (Out.ret
    (V.int IntKind.i64
      (IntKind.i64.wrap
        ((24 : Int) +
          IntKind.i64.wrap
            ↑(tb232_0.getD
                (IntKind.u8.wrap
                    ((x.fdiv (65536 : Int)).fdiv
                      (256 : Int))).toNat
                (0 : Nat))))))
  [])
       (((0 : Int) ≤ IntKind.u8.wrap (x.fdiv (65536 : Int)) ∧
  IntKind.u8.wrap (x.fdiv (65536 : Int)) < ↑tb232_0.length) ∧
       K'
  (Out.ret
    (V.int IntKind.i64
      (IntKind.i64.wrap
        ((16 : Int) +
          IntKind.i64.wrap
            ↑(tb232_0.getD (IntKind.u8.wrap (x.fdiv (65536 : Int))).toNat
                (0 : Nat))))))
  []))
      (bcase (decide (x ≥ (256 : Int)))
       (((0 : Int) ≤ (8 : Int)) ∧
       ((0 : Int) ≤ IntKind.u8.wrap (x.fdiv (256 : Int)) ∧
  IntKind.u8.wrap (x.fdiv (256 : Int)) < ↑tb232_0.length) ∧
       K'
  (Out.ret
    (V.int IntKind.i64
      (IntKind.i64.wrap
        ((8 : Int) +
          IntKind.i64.wrap
            ↑(tb232_0.getD (IntKind.u8.wrap (x.fdiv (256 : Int))).toNat
                (0 : Nat))))))
  [])
       (((0 : Int) ≤ IntKind.u8.wrap x ∧ IntKind.u8.wrap x < ↑tb232_0.length) ∧
       K'
  (Out.ret
    (V.int IntKind.i64
      (IntKind.i64.wrap ((0 : Int) + IntKind.i64.wrap ↑(tb232_0.getD (IntKind.u8.wrap x).toNat (0 : Nat))))))
  [])))) := by kernel_rfl
theorem r232 : FreshOk Tryz.prog 232 (ofD g232) := by
  refine fresh_of_run T6_ok D6_ok (fun _ _ => noIv) Tryz.func232 c232 fun args obs K' hk => ?_
  unfold ofD g232 at hk
  split at hk
  · rename_i d_ out news hg
    split at hg
    · rename_i x
      cases hg
      obtain ⟨hc, hk⟩ := hk
      refine Eq.mpr (k232 x K') ?_
      · refine bcase_f (decide_eq_false (by omega)) ?_
        refine bcase_i (fun h1 => ?_) (fun h1 => ?_)
        · have h1 := of_decide_eq_true h1
          refine And.intro (by decide) ?_
          refine bcase_i (fun h2 => ?_) (fun h2 => ?_)
          · have h2 := of_decide_eq_true h2
            rw [fdivp _ _ (by decide)] at h2
            refine And.intro (by decide) ?_
            have hq : 0 ≤ (x / 16777216) ∧ (x / 16777216) < 256 := by omega
            have ht := tbl_le (x / 16777216) hq.1 hq.2
            have hl : (tb232_0.length : Int) = 256 := rfl
            simp only [fdivp _ _ (show (0 : Int) ≤ 256 by decide), fdivp _ _ (show (0 : Int) ≤ 65536 by decide), IntKind.wrap_u8, hl]
            have e1 : (x / 65536 / 256) % 256 = (x / 16777216) := by omega
            refine And.intro (by omega) ?_
            rw [e1]
            have e2 : IntKind.i64.wrap (24 + IntKind.i64.wrap (tbl (x / 16777216))) = 24 + tbl (x / 16777216) := by
              have : IntKind.i64.wrap (tbl (x / 16777216)) = tbl (x / 16777216) := IntWalk.i64_in _ (by omega)
              rw [this]
              exact IntWalk.i64_in _ (by omega)
            refine Eq.mpr (congrArg (fun z => K' (Out.ret (V.int .i64 z)) []) e2) ?_
            unfold blen at hk
            rw [if_pos (by omega), if_pos (by omega)] at hk
            exact hk
          · have h2 := of_decide_eq_false h2
            rw [fdivp _ _ (by decide)] at h2
            have hq : 0 ≤ (x / 65536) ∧ (x / 65536) < 256 := by omega
            have ht := tbl_le (x / 65536) hq.1 hq.2
            have hl : (tb232_0.length : Int) = 256 := rfl
            simp only [fdivp _ _ (show (0 : Int) ≤ 256 by decide), fdivp _ _ (show (0 : Int) ≤ 65536 by decide), IntKind.wrap_u8, hl]
            have e1 : (x / 65536) % 256 = (x / 65536) := by omega
            refine And.intro (by omega) ?_
            rw [e1]
            have e2 : IntKind.i64.wrap (16 + IntKind.i64.wrap (tbl (x / 65536))) = 16 + tbl (x / 65536) := by
              have : IntKind.i64.wrap (tbl (x / 65536)) = tbl (x / 65536) := IntWalk.i64_in _ (by omega)
              rw [this]
              exact IntWalk.i64_in _ (by omega)
            refine Eq.mpr (congrArg (fun z => K' (Out.ret (V.int .i64 z)) []) e2) ?_
            unfold blen at hk
            rw [if_pos (by omega), if_neg (by omega)] at hk
            exact hk
        · have h1 := of_decide_eq_false h1
          refine bcase_i (fun h2 => ?_) (fun h2 => ?_)
          · have h2 := of_decide_eq_true h2
            refine And.intro (by decide) ?_
            have hq : 0 ≤ (x / 256) ∧ (x / 256) < 256 := by omega
            have ht := tbl_le (x / 256) hq.1 hq.2
            have hl : (tb232_0.length : Int) = 256 := rfl
            simp only [fdivp _ _ (show (0 : Int) ≤ 256 by decide), fdivp _ _ (show (0 : Int) ≤ 65536 by decide), IntKind.wrap_u8, hl]
            have e1 : (x / 256) % 256 = (x / 256) := by omega
            refine And.intro (by omega) ?_
            rw [e1]
            have e2 : IntKind.i64.wrap (8 + IntKind.i64.wrap (tbl (x / 256))) = 8 + tbl (x / 256) := by
              have : IntKind.i64.wrap (tbl (x / 256)) = tbl (x / 256) := IntWalk.i64_in _ (by omega)
              rw [this]
              exact IntWalk.i64_in _ (by omega)
            refine Eq.mpr (congrArg (fun z => K' (Out.ret (V.int .i64 z)) []) e2) ?_
            unfold blen at hk
            rw [if_neg (by omega), if_pos (by omega)] at hk
            exact hk
          · have h2 := of_decide_eq_false h2
            have hq : 0 ≤ (x) ∧ (x) < 256 := by omega
            have ht := tbl_le (x) hq.1 hq.2
            have hl : (tb232_0.length : Int) = 256 := rfl
            simp only [fdivp _ _ (show (0 : Int) ≤ 256 by decide), fdivp _ _ (show (0 : Int) ≤ 65536 by decide), IntKind.wrap_u8, hl]
            have e1 : (x) % 256 = (x) := by omega
            refine And.intro (by omega) ?_
            rw [e1]
            have e2 : IntKind.i64.wrap (0 + IntKind.i64.wrap (tbl (x))) = 0 + tbl (x) := by
              have : IntKind.i64.wrap (tbl (x)) = tbl (x) := IntWalk.i64_in _ (by omega)
              rw [this]
              exact IntWalk.i64_in _ (by omega)
            refine Eq.mpr (congrArg (fun z => K' (Out.ret (V.int .i64 z)) []) e2) ?_
            unfold blen at hk
            rw [if_neg (by omega), if_neg (by omega), ← Int.zero_add (tbl x)] at hk
            exact hk
    · cases hg
  · exact hk.elim

end Go.Proofs.YtbolfnkgbjkbjaaGreat.AM
end
section
set_option linter.unusedVariables false
set_option linter.unusedSimpArgs false
namespace Go.Proofs.YtbolfnkgbjkbjaaGreat.AM
open Go Go.RowKit
set_option maxRecDepth 100000
theorem div_main (N p y Y a u v1 v0 : Int) (hp : 0 < p) (hy : 0 < y) (hY : Y = y * p) (ha : Y = a * 4294967296) (hN : N * p = u * 18446744073709551616 + v1 * 4294967296 + v0)
    (hu : 0 ≤ u ∧ u < Y) (hv1 : 0 ≤ v1 ∧ v1 < 4294967296) (hv0 : 0 ≤ v0 ∧ v0 < 4294967296) (ha0 : 0 < a) :
    N / y = u / a * 4294967296 + (u % a * 4294967296 + v1) / a ∧ N % y = ((u % a * 4294967296 + v1) % a * 4294967296 + v0) / p ∧ 0 ≤ (u % a * 4294967296 + v1) % a * 4294967296 + v0 ∧ (u % a * 4294967296 + v1) % a * 4294967296 + v0 < Y ∧
    0 ≤ u / a ∧ u / a < 4294967296 ∧ 0 ≤ u % a * 4294967296 + v1 ∧ u % a * 4294967296 + v1 < Y ∧ 0 ≤ (u % a * 4294967296 + v1) / a ∧ (u % a * 4294967296 + v1) / a < 4294967296 := by
  have b1 := Int.emod_nonneg u (show a ≠ 0 by omega)
  have b2 := Int.emod_lt_of_pos u ha0
  have b3 := Int.mul_ediv_add_emod u a
  generalize u / a = q1 at *
  generalize u % a = r1 at *
  generalize hw : r1 * 4294967296 + v1 = w at *
  have c1 := Int.emod_nonneg w (show a ≠ 0 by omega)
  have c2 := Int.emod_lt_of_pos w ha0
  have c3 := Int.mul_ediv_add_emod w a
  have hq0 : 0 ≤ w / a := Int.ediv_nonneg (by omega) (by omega)
  generalize w / a = q0 at *
  generalize w % a = r0 at *
  have hq1 : 0 ≤ q1 := by
    by_cases h : 0 ≤ q1
    · exact h
    · have h1 : a * q1 ≤ a * (-1) := Int.mul_le_mul_of_nonneg_left (by omega) (by omega)
      omega
  have hq1' : q1 < 4294967296 := by
    by_cases h : q1 < 4294967296
    · exact h
    · have h1 : a * 4294967296 ≤ a * q1 := Int.mul_le_mul_of_nonneg_left (by omega) (by omega)
      omega
  have hq0' : q0 < 4294967296 := by
    by_cases h : q0 < 4294967296
    · exact h
    · have h1 : a * 4294967296 ≤ a * q0 := Int.mul_le_mul_of_nonneg_left (by omega) (by omega)
      omega
  have key : (N - (q1 * 4294967296 + q0) * y) * p = r0 * 4294967296 + v0 := by
    have e1 : (N - (q1 * 4294967296 + q0) * y) * p = N * p - (q1 * 4294967296 + q0) * (y * p) := by grind
    rw [e1, ← hY, hN, ha]
    have e2 : (q1 * 4294967296 + q0) * (a * 4294967296) = (a * q1) * 18446744073709551616 + (a * q0) * 4294967296 := by grind
    rw [e2]
    omega
  have hR0 : 0 ≤ N - (q1 * 4294967296 + q0) * y := by
    by_cases h : 0 ≤ N - (q1 * 4294967296 + q0) * y
    · exact h
    · have h1 : (N - (q1 * 4294967296 + q0) * y) * p ≤ (-1) * p := Int.mul_le_mul_of_nonneg_right (by omega) (by omega)
      omega
  have hR1 : N - (q1 * 4294967296 + q0) * y < y := by
    by_cases h : N - (q1 * 4294967296 + q0) * y < y
    · exact h
    · have h1 : y * p ≤ (N - (q1 * 4294967296 + q0) * y) * p := Int.mul_le_mul_of_nonneg_right (by omega) (by omega)
      omega
  have hdm : N / y = q1 * 4294967296 + q0 ∧ N % y = N - (q1 * 4294967296 + q0) * y := by
    refine (Int.ediv_emod_unique hy).2 ⟨?_, hR0, hR1⟩
    rw [Int.mul_comm y]
    omega
  refine ⟨hdm.1, ?_, by omega, by omega, hq1, hq1', by omega, by omega, hq0, hq0'⟩
  rw [hdm.2, ← key, Int.mul_ediv_cancel _ (by omega)]
theorem div_prep (h l y : Int) (n : Nat) (hn : 1 ≤ n ∧ n ≤ 32) (hy1 : (2 : Int) ^ (n - 1) ≤ y) (hy2 : y < 2 ^ n) (hh : 0 ≤ h ∧ h < y) (hl : 0 ≤ l ∧ l < 18446744073709551616) :
    ∃ a : Int, 0 < a ∧ y * 2 ^ (64 - n) = a * 4294967296 ∧ y * 2 ^ (64 - n) < 18446744073709551616 ∧ 0 ≤ h * 2 ^ (64 - n) + l / 2 ^ n ∧ h * 2 ^ (64 - n) + l / 2 ^ n < y * 2 ^ (64 - n) ∧
      (h * 18446744073709551616 + l) * 2 ^ (64 - n) = (h * 2 ^ (64 - n) + l / 2 ^ n) * 18446744073709551616 + (l * 2 ^ (64 - n)) % 18446744073709551616 ∧ l / 2 ^ n < 2 ^ (64 - n) ∧ 0 ≤ l / 2 ^ n := by
  have hp : (2 : Int) ^ (64 - n) * 2 ^ n = 18446744073709551616 := by
    rw [← Int.pow_add, show 64 - n + n = 64 by omega]
    rfl
  have hp2 : (2 : Int) ^ (64 - n) = 2 ^ (32 - n) * 4294967296 := by
    rw [show 64 - n = (32 - n) + 32 by omega, Int.pow_add]
    rfl
  have h0 : (0 : Int) < 2 ^ (64 - n) := Int.pow_pos (by decide)
  have h1 : (0 : Int) < 2 ^ n := Int.pow_pos (by decide)
  have h2 : (0 : Int) < 2 ^ (32 - n) := Int.pow_pos (by decide)
  have d1 := Int.emod_nonneg l (show (2 : Int) ^ n ≠ 0 by omega)
  have d2 := Int.emod_lt_of_pos l h1
  have d3 := Int.mul_ediv_add_emod l (2 ^ n)
  have d0 : 0 ≤ l / 2 ^ n := Int.ediv_nonneg hl.1 (by omega)
  have hy0 : 0 < y := by omega
  clear hy1
  generalize (2 : Int) ^ (64 - n) = p at *
  generalize (2 : Int) ^ n = p2 at *
  generalize (2 : Int) ^ (32 - n) = p3 at *
  generalize l / p2 = c at *
  generalize l % p2 = d at *
  have b1 : y * p < p2 * p := Int.mul_lt_mul_of_pos_right hy2 h0
  have e1 : p2 * p = p * p2 := Int.mul_comm _ _
  have b2 : c < p := by
    by_cases hc : c < p
    · exact hc
    · have : p2 * p ≤ p2 * c := Int.mul_le_mul_of_nonneg_left (by omega) (by omega)
      omega
  have b3 : h * p ≤ (y - 1) * p := Int.mul_le_mul_of_nonneg_right (by omega) (by omega)
  have b4 : 0 ≤ h * p := Int.mul_nonneg hh.1 (by omega)
  have e2 : (y - 1) * p = y * p - p := by grind
  have e3 : l * p = c * 18446744073709551616 + d * p := by
    rw [← d3, ← hp]
    grind
  have b5 : d * p < p2 * p := Int.mul_lt_mul_of_pos_right d2 h0
  have b6 : 0 ≤ d * p := Int.mul_nonneg d1 (by omega)
  refine ⟨y * p3, Int.mul_pos hy0 h2, ?_, by omega, by omega, by omega, ?_, b2, d0⟩
  · rw [hp2]; grind
  · have e4 : (h * 18446744073709551616 + l) * p = h * p * 18446744073709551616 + l * p := by grind
    rw [e4, e3]
    generalize h * p = hp' at *
    generalize d * p = dp at *
    omega

def T14 : Tab := T6.add 232 (liftA (ofD g232))
theorem T14_ok : TabOk Tryz.prog T14 := T6_ok.add (entry_of_fresh r232)
def T14b : Tab := T14.add 228 (runFn T14 D6 noIv a228)
theorem T14b_ok : TabOk Tryz.prog T14b := T14_ok.add (fn_entry T14_ok D6_ok noIv Tryz.func228 c228)
def a81c : AFn := ((a217.unroll 1).cutP 0 [1,1,1,1,1,1,1,1,1,1,1]).cutP 1 [1,1,1,1,1,1,1,1,1,1,1,1,1,1,1]
theorem c81c : chkFn Tryz.prog Tryz.f217 a81c = true := by kernel_rfl
/-- math/bits.Div64, a divisor below 2^32 -/
def g217 : GSpec := fun args obs => match args, obs with
  | [.int .u64 h, .int .u64 l, .int .u64 y], [] => some (0 ≤ h ∧ h < y ∧ w64 l ∧ 0 < y ∧ y < 4294967296, .ret (.tup [u64 ((h * 18446744073709551616 + l) / y), u64 ((h * 18446744073709551616 + l) % y)]), [])
  | _, _ => none
def Iv81 : List V → List Ob → Inv := fun args _ nm m sl ob => match args with
  | [.int .u64 h, .int .u64 l, .int .u64 y] => match nm with
    | 0 => ∃ (k : Nat) (Y a u v1 v0 : Int), k < 64 ∧ Y = y * 2 ^ k ∧ Y = a * 4294967296 ∧ 0 < a ∧ Y < 18446744073709551616 ∧ (0 ≤ u ∧ u < Y) ∧ (0 ≤ v1 ∧ v1 < 4294967296) ∧ (0 ≤ v0 ∧ v0 < 4294967296) ∧
        (h * 18446744073709551616 + l) * 2 ^ k = u * 18446744073709551616 + v1 * 4294967296 + v0 ∧ ob = [] ∧
        sl = [(2, u64 Y), (8, u64 (k : Nat)), (9, u64 a), (10, u64 0), (11, u64 u), (13, u64 v1), (14, u64 v0)]
    | _ => ∃ (k : Nat) (Y a u v1 v0 : Int), k < 64 ∧ Y = y * 2 ^ k ∧ Y = a * 4294967296 ∧ 0 < a ∧ Y < 18446744073709551616 ∧ (0 ≤ u ∧ u < Y) ∧ (0 ≤ v1 ∧ v1 < 4294967296) ∧ (0 ≤ v0 ∧ v0 < 4294967296) ∧
        (h * 18446744073709551616 + l) * 2 ^ k = u * 18446744073709551616 + v1 * 4294967296 + v0 ∧ ob = [] ∧
        sl = [(2, u64 Y), (8, u64 (k : Nat)), (9, u64 a), (10, u64 0), (14, u64 v0), (15, u64 (u / a)), (17, u64 (u % a * 4294967296 + v1))]
  | _ => False
theorem w64id {n : Int} (h : 0 ≤ n ∧ n < 18446744073709551616) : IntKind.u64.wrap n = n := by rw [IntKind.wrap_u64]; omega
theorem div_r1 (q1 q0 : Int) (h1 : 0 ≤ q1 ∧ q1 < 4294967296) (h2 : 0 ≤ q0 ∧ q0 < 4294967296) : IntKind.u64.wrap (IntKind.u64.wrap (q1 * 4294967296) + q0) = q1 * 4294967296 + q0 := by
  simp only [IntKind.wrap_u64]
  omega
theorem div_r2 (w a v0 Y : Int) (eY : Y = a * 4294967296) (ha : 0 < a) (hY2 : Y < 18446744073709551616) (hv0 : 0 ≤ v0 ∧ v0 < 4294967296) (t : 0 ≤ w % a * 4294967296 + v0 ∧ w % a * 4294967296 + v0 < Y) :
    IntKind.u64.wrap (IntKind.u64.wrap (IntKind.u64.wrap (w * 4294967296) + v0) - IntKind.u64.wrap (w / a * Y)) = w % a * 4294967296 + v0 := by
  have d3 := Int.mul_ediv_add_emod w a
  have e5 : w / a * Y = a * (w / a) * 4294967296 := by rw [eY]; grind
  rw [e5]
  simp only [IntKind.wrap_u64]
  clear e5
  generalize a * (w / a) = X at *
  generalize w % a = r at *
  omega
theorem and_low (Y : Int) (h : 0 ≤ Y ∧ Y < 18446744073709551616) : IntKind.u64.wrap ↑(BitVec.ofInt IntKind.u64.bits Y &&& BitVec.ofInt IntKind.u64.bits (4294967295 : Int)).toNat = Y % 4294967296 := by
  obtain ⟨m, rfl⟩ := Int.eq_ofNat_of_zero_le h.1
  have e1 : (BitVec.ofInt IntKind.u64.bits (m : Int)).toNat = m := by
    rw [BitVec.toNat_ofInt]
    show ((m : Int) % ((2 ^ 64 : Nat) : Int)).toNat = _
    omega
  have e2 : (BitVec.ofInt IntKind.u64.bits (4294967295 : Int)).toNat = 2 ^ 32 - 1 := by decide
  rw [BitVec.toNat_and, e1, e2, Nat.and_two_pow_sub_one_eq_mod, IntKind.wrap_u64]
  omega
theorem or_low (n k : Nat) (j : Nat) (hj : j < 2 ^ k) (hl : 2 ^ k * n + j < 18446744073709551616) : IntKind.u64.wrap ↑(BitVec.ofInt IntKind.u64.bits ((2 ^ k * n : Nat) : Int) ||| BitVec.ofInt IntKind.u64.bits (j : Int)).toNat = ((2 ^ k * n + j : Nat) : Int) := by
  have e1 : (BitVec.ofInt IntKind.u64.bits ((2 ^ k * n : Nat) : Int)).toNat = 2 ^ k * n := by
    rw [BitVec.toNat_ofInt]
    show (((2 ^ k * n : Nat) : Int) % ((2 ^ 64 : Nat) : Int)).toNat = _
    generalize 2 ^ k * n = z at *
    omega
  have e2 : (BitVec.ofInt IntKind.u64.bits (j : Int)).toNat = j := by
    rw [BitVec.toNat_ofInt]
    show ((j : Int) % ((2 ^ 64 : Nat) : Int)).toNat = _
    omega
  rw [BitVec.toNat_or, e1, e2, ← Nat.two_pow_add_eq_or_of_lt hj, IntKind.wrap_u64]
  generalize 2 ^ k * n + j = z at *
  omega

set_option maxHeartbeats 1000000 in
theorem r217 : FreshOk Tryz.prog 217 (ofD g217) := by
  refine fresh_of_run T14b_ok D6_ok Iv81 Tryz.func217 c81c fun args obs K' hk => ?_
  unfold ofD g217 at hk
  split at hk
  · rename_i d_ out news hg
    split at hg
    · rename_i h l y
      cases hg
      obtain ⟨⟨h0, h1, h2, h3, h4⟩, hk⟩ := hk
      refine bcase_f (beq_eq_false_iff_ne.2 (by omega) : (y == (0 : Int)) = false) ?_
      refine bcase_f (decide_eq_false (by omega) : decide (y ≤ h) = false) ?_
      refine bcase_i (fun hz => ?_) (fun hz => ?_)
      · have hz : h = 0 := eq_of_beq hz
        subst hz
        refine And.intro (show y ≠ 0 by omega) (And.intro (show y ≠ 0 by omega) ?_)
        have e1 : IntKind.u64.wrap (l.tdiv y) = (0 * 18446744073709551616 + l) / y := by
          rw [Int.tdiv_eq_ediv_of_nonneg h2.1, Int.zero_mul, Int.zero_add]
          exact w64id ⟨Int.ediv_nonneg h2.1 (by omega), Int.lt_of_le_of_lt (Int.ediv_le_self _ h2.1) h2.2⟩
        have e2 : l.tmod y = (0 * 18446744073709551616 + l) % y := by
          rw [Int.tmod_eq_emod_of_nonneg h2.1, Int.zero_mul, Int.zero_add]
        rw [← e1, ← e2] at hk
        exact hk
      · obtain ⟨n, en, hn1, hn2, hn3, hn4⟩ := blen_spec y h3 h4
        obtain ⟨a, pa, eY, hY, hu0, hu1, hN, hc1, hc0⟩ := div_prep h l y n ⟨hn1, hn2⟩ hn3 hn4 ⟨h0, h1⟩ h2
        have es : IntKind.u64.wrap (IntKind.i64.wrap ((64 : Int) - blen y)) = ((64 - n : Nat) : Int) := by
          rw [en, IntWalk.i64_in _ (by omega), w64id (by omega)]
          omega
        have es2 : IntKind.u64.wrap ((64 : Int) - IntKind.u64.wrap (IntKind.i64.wrap ((64 : Int) - blen y))) = (n : Int) := by
          rw [es, w64id (by omega)]
          omega
        have m1 : min (IntKind.u64.wrap (IntKind.i64.wrap ((64 : Int) - blen y))).toNat IntKind.u64.bits = 64 - n := by
          rw [es, Int.toNat_natCast]
          exact Nat.min_eq_left (show 64 - n ≤ 64 by omega)
        have m2 : min (IntKind.u64.wrap ((64 : Int) - IntKind.u64.wrap (IntKind.i64.wrap ((64 : Int) - blen y)))).toNat IntKind.u64.bits = n := by
          rw [es2, Int.toNat_natCast]
          exact Nat.min_eq_left (show n ≤ 64 by omega)
        have yY : IntKind.u64.wrap (y * 2 ^ min (IntKind.u64.wrap (IntKind.i64.wrap ((64 : Int) - blen y))).toNat IntKind.u64.bits) = y * 2 ^ (64 - n) := by
          rw [m1]; exact w64id ⟨by omega, hY⟩
        refine And.intro ⟨trivial, trivial⟩ ?_
        refine And.intro (show (0 : Int) ≤ y ∧ y < 4294967296 from ⟨by omega, h4⟩) ?_
        refine And.intro (show (0 : Int) ≤ IntKind.u64.wrap (IntKind.i64.wrap ((64 : Int) - blen y)) by rw [es]; omega) ?_
        refine And.intro (show (0 : Int) ≤ 32 by decide) ?_
        refine And.intro (show (0 : Int) ≤ IntKind.u64.wrap (IntKind.i64.wrap ((64 : Int) - blen y)) by rw [es]; omega) ?_
        refine And.intro (show (0 : Int) ≤ IntKind.u64.wrap ((64 : Int) - IntKind.u64.wrap (IntKind.i64.wrap ((64 : Int) - blen y))) by rw [es2]; omega) ?_
        refine And.intro (show (0 : Int) ≤ IntKind.u64.wrap (IntKind.i64.wrap ((64 : Int) - blen y)) by rw [es]; omega) ?_
        refine And.intro (show (0 : Int) ≤ 32 by decide) ?_
        have p0 : (0 : Int) < 2 ^ (64 - n) := Int.pow_pos (by decide)
        have hl64 : 0 ≤ (l * 2 ^ (64 - n)) % 18446744073709551616 ∧ (l * 2 ^ (64 - n)) % 18446744073709551616 < 18446744073709551616 := by omega
        have f9 : (IntKind.u64.wrap (y * 2 ^ min (IntKind.u64.wrap (IntKind.i64.wrap ((64 : Int) - blen y))).toNat IntKind.u64.bits)).fdiv ((2 : Int) ^ min (Int.toNat 32) IntKind.u64.bits) = a := by
          rw [yY, eY]
          show (a * 4294967296).fdiv 4294967296 = a
          rw [fdivp _ _ (by decide)]
          omega
        have f10 : IntKind.u64.wrap ↑(BitVec.ofInt IntKind.u64.bits (IntKind.u64.wrap (y * 2 ^ min (IntKind.u64.wrap (IntKind.i64.wrap ((64 : Int) - blen y))).toNat IntKind.u64.bits)) &&& BitVec.ofInt IntKind.u64.bits (4294967295 : Int)).toNat = 0 := by
          rw [yY, and_low _ ⟨by omega, hY⟩, eY]
          omega
        have f11 : IntKind.u64.wrap ↑(BitVec.ofInt IntKind.u64.bits (IntKind.u64.wrap (h * 2 ^ min (IntKind.u64.wrap (IntKind.i64.wrap ((64 : Int) - blen y))).toNat IntKind.u64.bits)) |||
            BitVec.ofInt IntKind.u64.bits (l.fdiv ((2 : Int) ^ min (IntKind.u64.wrap ((64 : Int) - IntKind.u64.wrap (IntKind.i64.wrap ((64 : Int) - blen y)))).toNat IntKind.u64.bits))).toNat = h * 2 ^ (64 - n) + l / 2 ^ n := by
          rw [m1, m2, fdivp _ _ (Int.le_of_lt (Int.pow_pos (by decide)))]
          obtain ⟨H, rfl⟩ := Int.eq_ofNat_of_zero_le h0
          obtain ⟨c, hc⟩ := Int.eq_ofNat_of_zero_le hc0
          have hpn : ((2 ^ (64 - n) : Nat) : Int) = (2 : Int) ^ (64 - n) := by norm_cast
          have e3 : (H : Int) * 2 ^ (64 - n) = ((2 ^ (64 - n) * H : Nat) : Int) := by rw [Int.natCast_mul, hpn, Int.mul_comm]
          rw [hc] at hc1
          rw [hc, e3] at hu0 hu1 ⊢
          have hc1' : c < 2 ^ (64 - n) := by rw [← hpn] at hc1; exact Int.ofNat_lt.1 hc1
          have hb : 2 ^ (64 - n) * H + c < 18446744073709551616 := by
            clear e3 hpn
            generalize 2 ^ (64 - n) * H = z at hu1 hu0
            omega
          have i1 : IntKind.u64.wrap ((2 ^ (64 - n) * H : Nat) : Int) = ((2 ^ (64 - n) * H : Nat) : Int) := w64id ⟨Int.natCast_nonneg _, by omega⟩
          rw [i1, or_low H (64 - n) c hc1' hb]
          exact Int.natCast_add _ _
        have f12 : IntKind.u64.wrap (l * 2 ^ min (IntKind.u64.wrap (IntKind.i64.wrap ((64 : Int) - blen y))).toNat IntKind.u64.bits) = (l * 2 ^ (64 - n)) % 18446744073709551616 := by
          rw [m1, IntKind.wrap_u64]
        have f13 : (IntKind.u64.wrap (l * 2 ^ min (IntKind.u64.wrap (IntKind.i64.wrap ((64 : Int) - blen y))).toNat IntKind.u64.bits)).fdiv ((2 : Int) ^ min (Int.toNat 32) IntKind.u64.bits) = (l * 2 ^ (64 - n)) % 18446744073709551616 / 4294967296 := by
          rw [f12]
          show ((l * 2 ^ (64 - n)) % 18446744073709551616).fdiv 4294967296 = _
          rw [fdivp _ _ (by decide)]
        have f14 : IntKind.u64.wrap ↑(BitVec.ofInt IntKind.u64.bits (IntKind.u64.wrap (l * 2 ^ min (IntKind.u64.wrap (IntKind.i64.wrap ((64 : Int) - blen y))).toNat IntKind.u64.bits)) &&& BitVec.ofInt IntKind.u64.bits (4294967295 : Int)).toNat = (l * 2 ^ (64 - n)) % 18446744073709551616 % 4294967296 := by
          rw [f12, and_low _ hl64]
        refine And.intro ?_ ?_
        · refine ⟨0, _, _, ⟨64 - n, y * 2 ^ (64 - n), a, h * 2 ^ (64 - n) + l / 2 ^ n, (l * 2 ^ (64 - n)) % 18446744073709551616 / 4294967296, (l * 2 ^ (64 - n)) % 18446744073709551616 % 4294967296, by omega, rfl, eY, pa, hY, ⟨hu0, hu1⟩, by omega, by omega, ?_, rfl, rfl⟩,
            ⟨Nat.zero_le _, Nat.zero_le _, ⟨⟨congrArg u64 yY, rfl⟩, ⟨congrArg u64 es, rfl⟩, ⟨congrArg u64 f9, rfl⟩, ⟨congrArg u64 f10, rfl⟩, ⟨congrArg u64 f11, rfl⟩, ⟨congrArg u64 f13, rfl⟩, ⟨congrArg u64 f14, rfl⟩, trivial⟩, trivial⟩⟩
          rw [hN]
          generalize (l * 2 ^ (64 - n)) % 18446744073709551616 = z at *
          omega
        · clear es es2 m1 m2 yY f9 f10 f11 f12 f13 f14 hN hl64 hu0 hu1 hc1 hc0 hY eY pa p0
          rintro m sl ob ⟨k, Y, a, u, v1, v0, hk6, hY, eY, pa, hY2, hu, hv1, hv0, hN, rfl, rfl⟩
          obtain ⟨t1, t2, t3, t4, t5, t6, t7, t8, t9, t10⟩ := div_main _ (2 ^ k) y Y a u v1 v0 (Int.pow_pos (by decide)) h3 hY eY hN hu hv1 hv0 pa
          have q1 : IntKind.u64.wrap (u.tdiv a) = u / a := by
            rw [Int.tdiv_eq_ediv_of_nonneg hu.1]
            exact w64id (by omega)
          have d3 := Int.mul_ediv_add_emod u a
          have d1 := Int.emod_nonneg u (show a ≠ 0 by omega)
          have d2 := Int.emod_lt_of_pos u pa
          refine And.intro (show a ≠ 0 by omega) ?_
          refine bcase_f (show decide (IntKind.u64.wrap (u.tdiv a) ≥ 4294967296) = false by rw [q1]; exact decide_eq_false (by omega)) ?_
          refine bcase_f (show (bif false then true else decide (IntKind.u64.wrap (IntKind.u64.wrap (u.tdiv a) * 0) > IntKind.u64.wrap (IntKind.u64.wrap (4294967296 * IntKind.u64.wrap (u - IntKind.u64.wrap (IntKind.u64.wrap (u.tdiv a) * a))) + v1))) = false from ?_) ?_
          · rw [Int.mul_zero]
            refine decide_eq_false ?_
            rw [IntKind.wrap_u64, IntKind.wrap_u64]
            omega
          have f17 : IntKind.u64.wrap (IntKind.u64.wrap (IntKind.u64.wrap (u * 4294967296) + v1) - IntKind.u64.wrap (IntKind.u64.wrap (u.tdiv a) * Y)) = u % a * 4294967296 + v1 := by
            rw [q1, div_r2 u a v1 Y eY pa hY2 hv1 ⟨t7, t8⟩]
          refine And.intro ?_ ?_
          · exact ⟨0, _, _, ⟨k, Y, a, u, v1, v0, hk6, hY, eY, pa, hY2, hu, hv1, hv0, hN, rfl, rfl⟩,
              ⟨Nat.zero_le _, Nat.zero_le _, ⟨⟨rfl, rfl⟩, ⟨rfl, rfl⟩, ⟨rfl, rfl⟩, ⟨rfl, rfl⟩, ⟨rfl, rfl⟩, ⟨congrArg u64 q1, rfl⟩, ⟨congrArg u64 f17, rfl⟩, trivial⟩, trivial⟩⟩
          · clear q1 f17 d1 d2 d3
            clear t1 t2 t3 t4 t5 t6 t7 t8 t9 t10 hY eY pa hY2 hu hv1 hv0 hN hk6 k Y a u v1 v0
            rintro m sl ob ⟨k, Y, a, u, v1, v0, hk6, hY, eY, pa, hY2, hu, hv1, hv0, hN, rfl, rfl⟩
            obtain ⟨t1, t2, t3, t4, t5, t6, t7, t8, t9, t10⟩ := div_main _ (2 ^ k) y Y a u v1 v0 (Int.pow_pos (by decide)) h3 hY eY hN hu hv1 hv0 pa
            generalize u / a = q1 at *
            generalize hw : u % a * 4294967296 + v1 = w at *
            have q0 : IntKind.u64.wrap (w.tdiv a) = w / a := by
              rw [Int.tdiv_eq_ediv_of_nonneg t7]
              exact w64id (by omega)
            have d3 := Int.mul_ediv_add_emod w a
            refine And.intro (show a ≠ 0 by omega) ?_
            refine bcase_f (show decide (IntKind.u64.wrap (w.tdiv a) ≥ 4294967296) = false by rw [q0]; exact decide_eq_false (by omega)) ?_
            refine bcase_f (show (bif false then true else decide (IntKind.u64.wrap (IntKind.u64.wrap (w.tdiv a) * 0) > IntKind.u64.wrap (IntKind.u64.wrap (4294967296 * IntKind.u64.wrap (w - IntKind.u64.wrap (IntKind.u64.wrap (w.tdiv a) * a))) + v0))) = false from ?_) ?_
            · rw [Int.mul_zero]
              refine decide_eq_false ?_
              rw [IntKind.wrap_u64, IntKind.wrap_u64]
              omega
            refine And.intro (show (0 : Int) ≤ ((k : Nat) : Int) by omega) ?_
            have r1 : IntKind.u64.wrap (IntKind.u64.wrap (q1 * 4294967296) + IntKind.u64.wrap (w.tdiv a)) = (h * 18446744073709551616 + l) / y := by
              rw [t1, q0]
              exact div_r1 _ _ ⟨t5, t6⟩ ⟨t9, t10⟩
            have m1 : min ((k : Nat) : Int).toNat IntKind.u64.bits = k := by
              rw [Int.toNat_natCast]
              exact Nat.min_eq_left (show k ≤ 64 by omega)
            have r2 : (IntKind.u64.wrap (IntKind.u64.wrap (IntKind.u64.wrap (w * 4294967296) + v0) - IntKind.u64.wrap (IntKind.u64.wrap (w.tdiv a) * Y))).fdiv ((2 : Int) ^ min ((k : Nat) : Int).toNat IntKind.u64.bits) = (h * 18446744073709551616 + l) % y := by
              rw [m1, t2, fdivp _ _ (Int.le_of_lt (Int.pow_pos (by decide))), q0, div_r2 w a v0 Y eY pa hY2 hv0 ⟨t3, t4⟩]
            rw [← r1, ← r2] at hk
            exact hk
    · cases hg
  · exact hk.elim

end Go.Proofs.YtbolfnkgbjkbjaaGreat.AM
end
section
set_option linter.unusedVariables false
set_option linter.unusedSimpArgs false
namespace Go.Proofs.YtbolfnkgbjkbjaaGreat.AM
open Go Go.RowKit
set_option maxRecDepth 100000

def T15a : Tab := ((((T14.add 217 (liftA (ofD g217))).add 161 (runFn T14 D6 noIv a161)).add 162 (runFn T14 D6 noIv a162)).add 163 (runFn T14 D6 noIv a163)).add 164 (runFn T14 D6 noIv a164)
theorem T15a_ok : TabOk Tryz.prog T15a := ((((T14_ok.add (entry_of_fresh r217)).add (fn_entry T14_ok D6_ok noIv Tryz.func161 c161)).add (fn_entry T14_ok D6_ok noIv Tryz.func162 c162)).add (fn_entry T14_ok D6_ok noIv Tryz.func163 c163)).add (fn_entry T14_ok D6_ok noIv Tryz.func164 c164)
def T15b : Tab := T15a.add 194 (runFn T15a D6 noIv a194)
theorem T15b_ok : TabOk Tryz.prog T15b := T15a_ok.add (fn_entry T15a_ok D6_ok noIv Tryz.func194 c194)

/-- With a sign. -/
def sg (neg : Bool) (n : Int) : Int := bif neg then -n else n
/-- fixed.quotient: cut, down, to the nearest -/
def g141 : GSpec := fun args obs => match args, obs with
  | [.agg [.int .u64 h, .int .u64 l], .int .u64 d, .bool neg, .fn f [] []], [] => match Nat.beq f 161 with
    | true => some ((0 ≤ h ∧ h < d ∧ w64 l ∧ 0 < d ∧ d < 4294967296) ∧ (h * 18446744073709551616 + l) / d < 70368744177664, .ret (i64 (sg neg ((h * 18446744073709551616 + l) / d))), [])
    | false => match Nat.beq f 162 with
      | true => some ((0 ≤ h ∧ h < d ∧ w64 l ∧ 0 < d ∧ d < 4294967296) ∧ (h * 18446744073709551616 + l) / d < 70368744177664, .ret (i64 (sg neg (if 0 < (h * 18446744073709551616 + l) % d ∧ neg = true then (h * 18446744073709551616 + l) / d + 1 else (h * 18446744073709551616 + l) / d))), [])
      | false => match Nat.beq f 164 with
        | true => some ((0 ≤ h ∧ h < d ∧ w64 l ∧ 0 < d ∧ d < 4294967296) ∧ (h * 18446744073709551616 + l) / d < 70368744177664, .ret (i64 (sg neg (if d ≤ 2 * ((h * 18446744073709551616 + l) % d) then (h * 18446744073709551616 + l) / d + 1 else (h * 18446744073709551616 + l) / d))), [])
        | false => none
  | _, _ => none
theorem cmpI_ge (a b : Int) : cmpI a b ≥ 0 ↔ b ≤ a := by
  unfold cmpI
  split
  · omega
  · split <;> omega
theorem quo_facts (h l d : Int) (h0 : 0 ≤ h) (h2 : 0 ≤ l) (h3 : 0 < d) : 0 ≤ (h * 18446744073709551616 + l) / d ∧ 0 ≤ (h * 18446744073709551616 + l) % d ∧ (h * 18446744073709551616 + l) % d < d :=
  ⟨Int.ediv_nonneg (by omega) (by omega), Int.emod_nonneg _ (by omega), Int.emod_lt_of_pos _ h3⟩

theorem k141_72 (h l d : Int) (neg : Bool) (K' : Out → List Ob → Prop) : runFn (T15b) (D6) noIv a141 [.agg [.int .u64 h, .int .u64 l], .int .u64 d, .bool neg, .fn 161 [] []] (lookO []) 0 (closeK K') =
    ((True) ∧
    (True) ∧
    bcase (decide (h ≥ d))
     ((True ∧ True ∧ True) ∧
     (false = true) ∧
     (True ∧ True ∧ True) ∧
     ((0 : Int) ≤ (0 : Int) ∧ (0 : Int) ≤ (70368744177664 : Int)) ∧
     K' (Out.ret (V.int IntKind.i64 (bif neg then (-0 : Int) else (0 : Int)))) [])
     ((True ∧ True ∧ True ∧ True) ∧
     ((0 : Int) ≤ h ∧ h < d ∧ w64 l ∧ (0 : Int) < d ∧ d < (4294967296 : Int)) ∧
     (True ∧ True ∧ True) ∧
     ((bif true then decide ((h * (18446744073709551616 : Int) + l) / d < (9223372036854775808 : Int)) else false) = true) ∧
     bcase (decide ((h * (18446744073709551616 : Int) + l) % d > (0 : Int)))
      (((True ∧ True ∧ True) ∧ (True ∧ True ∧ True) ∧ True) ∧
      ((w64 (0 : Int) ∧
    w64 ((h * (18446744073709551616 : Int) + l) % d) ∧
      w64 (0 : Int) ∧ w64 ((h * (18446744073709551616 : Int) + l) % d)) ∧
  (0 : Int) + (0 : Int) < (18446744073709551616 : Int) - (1 : Int)) ∧
      ((True ∧ True ∧ True) ∧ (True ∧ True ∧ True) ∧ True) ∧
      (w64
    (((0 : Int) * (18446744073709551616 : Int) + (h * (18446744073709551616 : Int) + l) % d +
        ((0 : Int) * (18446744073709551616 : Int) + (h * (18446744073709551616 : Int) + l) % d)) /
      (18446744073709551616 : Int)) ∧
  w64
      (((0 : Int) * (18446744073709551616 : Int) + (h * (18446744073709551616 : Int) + l) % d +
          ((0 : Int) * (18446744073709551616 : Int) + (h * (18446744073709551616 : Int) + l) % d)) %
        (18446744073709551616 : Int)) ∧
    w64 (0 : Int) ∧ w64 d) ∧
      (True ∧ True ∧ True) ∧
      ((0 : Int) ≤ (h * (18446744073709551616 : Int) + l) / d ∧
  (h * (18446744073709551616 : Int) + l) / d ≤ (70368744177664 : Int)) ∧
      K'
  (Out.ret
    (V.int IntKind.i64
      (bif neg then -((h * (18446744073709551616 : Int) + l) / d) else (h * (18446744073709551616 : Int) + l) / d)))
  [])
      ((True ∧ True ∧ True) ∧
      ((0 : Int) ≤ (h * (18446744073709551616 : Int) + l) / d ∧
  (h * (18446744073709551616 : Int) + l) / d ≤ (70368744177664 : Int)) ∧
      K'
  (Out.ret
    (V.int IntKind.i64
      (bif neg then -((h * (18446744073709551616 : Int) + l) / d) else (h * (18446744073709551616 : Int) + l) / d)))
  []))) := by kernel_rfl
theorem k141_73 (h l d : Int) (neg : Bool) (K' : Out → List Ob → Prop) : runFn (T15b) (D6) noIv a141 [.agg [.int .u64 h, .int .u64 l], .int .u64 d, .bool neg, .fn 162 [] []] (lookO []) 0 (closeK K') =
    ((True) ∧
    (True) ∧
    bcase (decide (h ≥ d))
     ((True ∧ True ∧ True) ∧
     (false = true) ∧
     (True ∧ True ∧ True) ∧
     ((0 : Int) ≤ (0 : Int) ∧ (0 : Int) ≤ (70368744177664 : Int)) ∧
     K' (Out.ret (V.int IntKind.i64 (bif neg then (-0 : Int) else (0 : Int)))) [])
     ((True ∧ True ∧ True ∧ True) ∧
     ((0 : Int) ≤ h ∧ h < d ∧ w64 l ∧ (0 : Int) < d ∧ d < (4294967296 : Int)) ∧
     (True ∧ True ∧ True) ∧
     ((bif true then decide ((h * (18446744073709551616 : Int) + l) / d < (9223372036854775808 : Int)) else false) = true) ∧
     bcase (decide ((h * (18446744073709551616 : Int) + l) % d > (0 : Int)))
      (((True ∧ True ∧ True) ∧ (True ∧ True ∧ True) ∧ True) ∧
      ((w64 (0 : Int) ∧
    w64 ((h * (18446744073709551616 : Int) + l) % d) ∧
      w64 (0 : Int) ∧ w64 ((h * (18446744073709551616 : Int) + l) % d)) ∧
  (0 : Int) + (0 : Int) < (18446744073709551616 : Int) - (1 : Int)) ∧
      ((True ∧ True ∧ True) ∧ (True ∧ True ∧ True) ∧ True) ∧
      (w64
    (((0 : Int) * (18446744073709551616 : Int) + (h * (18446744073709551616 : Int) + l) % d +
        ((0 : Int) * (18446744073709551616 : Int) + (h * (18446744073709551616 : Int) + l) % d)) /
      (18446744073709551616 : Int)) ∧
  w64
      (((0 : Int) * (18446744073709551616 : Int) + (h * (18446744073709551616 : Int) + l) % d +
          ((0 : Int) * (18446744073709551616 : Int) + (h * (18446744073709551616 : Int) + l) % d)) %
        (18446744073709551616 : Int)) ∧
    w64 (0 : Int) ∧ w64 d) ∧
      bcase (bif true then neg else false)
       ((True ∧ True ∧ True) ∧
       ((0 : Int) ≤ IntKind.u64.wrap ((h * (18446744073709551616 : Int) + l) / d + (1 : Int)) ∧
  IntKind.u64.wrap ((h * (18446744073709551616 : Int) + l) / d + (1 : Int)) ≤ (70368744177664 : Int)) ∧
       K'
  (Out.ret
    (V.int IntKind.i64
      (bif neg then -IntKind.u64.wrap ((h * (18446744073709551616 : Int) + l) / d + (1 : Int))
      else IntKind.u64.wrap ((h * (18446744073709551616 : Int) + l) / d + (1 : Int)))))
  [])
       ((True ∧ True ∧ True) ∧
       ((0 : Int) ≤ (h * (18446744073709551616 : Int) + l) / d ∧
  (h * (18446744073709551616 : Int) + l) / d ≤ (70368744177664 : Int)) ∧
       K'
  (Out.ret
    (V.int IntKind.i64
      (bif neg then -((h * (18446744073709551616 : Int) + l) / d) else (h * (18446744073709551616 : Int) + l) / d)))
  []))
      ((True ∧ True ∧ True) ∧
      ((0 : Int) ≤ (h * (18446744073709551616 : Int) + l) / d ∧
  (h * (18446744073709551616 : Int) + l) / d ≤ (70368744177664 : Int)) ∧
      K'
  (Out.ret
    (V.int IntKind.i64
      (bif neg then -((h * (18446744073709551616 : Int) + l) / d) else (h * (18446744073709551616 : Int) + l) / d)))
  []))) := by kernel_rfl
theorem k141_75 (h l d : Int) (neg : Bool) (K' : Out → List Ob → Prop) : runFn (T15b) (D6) noIv a141 [.agg [.int .u64 h, .int .u64 l], .int .u64 d, .bool neg, .fn 164 [] []] (lookO []) 0 (closeK K') =
    ((True) ∧
    (True) ∧
    bcase (decide (h ≥ d))
     ((True ∧ True ∧ True) ∧
     (false = true) ∧
     (True ∧ True ∧ True) ∧
     ((0 : Int) ≤ (0 : Int) ∧ (0 : Int) ≤ (70368744177664 : Int)) ∧
     K' (Out.ret (V.int IntKind.i64 (bif neg then (-0 : Int) else (0 : Int)))) [])
     ((True ∧ True ∧ True ∧ True) ∧
     ((0 : Int) ≤ h ∧ h < d ∧ w64 l ∧ (0 : Int) < d ∧ d < (4294967296 : Int)) ∧
     (True ∧ True ∧ True) ∧
     ((bif true then decide ((h * (18446744073709551616 : Int) + l) / d < (9223372036854775808 : Int)) else false) = true) ∧
     bcase (decide ((h * (18446744073709551616 : Int) + l) % d > (0 : Int)))
      (((True ∧ True ∧ True) ∧ (True ∧ True ∧ True) ∧ True) ∧
      ((w64 (0 : Int) ∧
    w64 ((h * (18446744073709551616 : Int) + l) % d) ∧
      w64 (0 : Int) ∧ w64 ((h * (18446744073709551616 : Int) + l) % d)) ∧
  (0 : Int) + (0 : Int) < (18446744073709551616 : Int) - (1 : Int)) ∧
      ((True ∧ True ∧ True) ∧ (True ∧ True ∧ True) ∧ True) ∧
      (w64
    (((0 : Int) * (18446744073709551616 : Int) + (h * (18446744073709551616 : Int) + l) % d +
        ((0 : Int) * (18446744073709551616 : Int) + (h * (18446744073709551616 : Int) + l) % d)) /
      (18446744073709551616 : Int)) ∧
  w64
      (((0 : Int) * (18446744073709551616 : Int) + (h * (18446744073709551616 : Int) + l) % d +
          ((0 : Int) * (18446744073709551616 : Int) + (h * (18446744073709551616 : Int) + l) % d)) %
        (18446744073709551616 : Int)) ∧
    w64 (0 : Int) ∧ w64 d) ∧
      bcase (bif true then
  decide
    (cmpI
        (((0 : Int) * (18446744073709551616 : Int) + (h * (18446744073709551616 : Int) + l) % d +
                ((0 : Int) * (18446744073709551616 : Int) + (h * (18446744073709551616 : Int) + l) % d)) /
              (18446744073709551616 : Int) *
            (18446744073709551616 : Int) +
          ((0 : Int) * (18446744073709551616 : Int) + (h * (18446744073709551616 : Int) + l) % d +
              ((0 : Int) * (18446744073709551616 : Int) + (h * (18446744073709551616 : Int) + l) % d)) %
            (18446744073709551616 : Int))
        ((0 : Int) * (18446744073709551616 : Int) + d) ≥
      (0 : Int))
  else false)
       ((True ∧ True ∧ True) ∧
       ((0 : Int) ≤ IntKind.u64.wrap ((h * (18446744073709551616 : Int) + l) / d + (1 : Int)) ∧
  IntKind.u64.wrap ((h * (18446744073709551616 : Int) + l) / d + (1 : Int)) ≤ (70368744177664 : Int)) ∧
       K'
  (Out.ret
    (V.int IntKind.i64
      (bif neg then -IntKind.u64.wrap ((h * (18446744073709551616 : Int) + l) / d + (1 : Int))
      else IntKind.u64.wrap ((h * (18446744073709551616 : Int) + l) / d + (1 : Int)))))
  [])
       ((True ∧ True ∧ True) ∧
       ((0 : Int) ≤ (h * (18446744073709551616 : Int) + l) / d ∧
  (h * (18446744073709551616 : Int) + l) / d ≤ (70368744177664 : Int)) ∧
       K'
  (Out.ret
    (V.int IntKind.i64
      (bif neg then -((h * (18446744073709551616 : Int) + l) / d) else (h * (18446744073709551616 : Int) + l) / d)))
  []))
      ((True ∧ True ∧ True) ∧
      ((0 : Int) ≤ (h * (18446744073709551616 : Int) + l) / d ∧
  (h * (18446744073709551616 : Int) + l) / d ≤ (70368744177664 : Int)) ∧
      K'
  (Out.ret
    (V.int IntKind.i64
      (bif neg then -((h * (18446744073709551616 : Int) + l) / d) else (h * (18446744073709551616 : Int) + l) / d)))
  []))) := by kernel_rfl
theorem r141 : FreshOk Tryz.prog 141 (ofD g141) := by
  refine fresh_of_run T15b_ok D6_ok (fun _ _ => noIv) Tryz.func141 c141 fun args obs K' hk => ?_
  unfold ofD g141 at hk
  split at hk
  · rename_i d_ out news hg
    split at hg
    · rename_i h l d neg f
      split at hg
      · rename_i hf
        have := Nat.eq_of_beq_eq_true hf
        subst this
        cases hg
        obtain ⟨⟨⟨h0, h1, h2, h3, h4⟩, h5⟩, hk⟩ := hk
        refine Eq.mpr (k141_72 h l d neg K') ?_
        repeat refine And.intro True.intro ?_
        refine bcase_f (decide_eq_false (by omega)) ?_
        refine And.intro ⟨trivial, trivial, trivial, trivial⟩ (And.intro ⟨h0, h1, h2, h3, h4⟩ (And.intro ⟨trivial, trivial, trivial⟩ (And.intro (decide_eq_true (by omega)) ?_)))
        have q0 := quo_facts h l d h0 h2.1 h3
        generalize (h * 18446744073709551616 + l) / d = q at *
        generalize (h * 18446744073709551616 + l) % d = r at *
        have u1 : IntKind.u64.wrap (q + 1) = q + 1 := w64id (by omega)
        refine bcase_i (fun hr => ?_) (fun hr => ?_)
        · have hr := of_decide_eq_true hr
          refine And.intro (by first | omega | trivial | (simp; done) | (simp only [true_and, and_true]; omega)) (And.intro (by first | omega | trivial | (simp; done) | (simp only [true_and, and_true]; omega)) (And.intro (by first | omega | trivial | (simp; done) | (simp only [true_and, and_true]; omega)) (And.intro (by first | omega | trivial | (simp; done) | (simp only [true_and, and_true]; omega)) ?_)))
          refine And.intro (by first | omega | trivial | (simp; done) | (simp only [true_and, and_true]; omega)) (And.intro (by first | omega | trivial | (simp; done) | (simp only [true_and, and_true]; omega)) ?_)
          exact hk
        · refine And.intro (by first | omega | trivial | (simp; done) | (simp only [true_and, and_true]; omega)) (And.intro (by first | omega | trivial | (simp; done) | (simp only [true_and, and_true]; omega)) ?_)
          exact hk
      · split at hg
        · rename_i hf
          have := Nat.eq_of_beq_eq_true hf
          subst this
          cases hg
          obtain ⟨⟨⟨h0, h1, h2, h3, h4⟩, h5⟩, hk⟩ := hk
          refine Eq.mpr (k141_73 h l d neg K') ?_
          repeat refine And.intro True.intro ?_
          refine bcase_f (decide_eq_false (by omega)) ?_
          refine And.intro ⟨trivial, trivial, trivial, trivial⟩ (And.intro ⟨h0, h1, h2, h3, h4⟩ (And.intro ⟨trivial, trivial, trivial⟩ (And.intro (decide_eq_true (by omega)) ?_)))
          have q0 := quo_facts h l d h0 h2.1 h3
          generalize (h * 18446744073709551616 + l) / d = q at *
          generalize (h * 18446744073709551616 + l) % d = r at *
          have u1 : IntKind.u64.wrap (q + 1) = q + 1 := w64id (by omega)
          refine bcase_i (fun hr => ?_) (fun hr => ?_)
          · have hr := of_decide_eq_true hr
            refine And.intro (by first | omega | trivial | (simp; done) | (simp only [true_and, and_true]; omega)) (And.intro (by first | omega | trivial | (simp; done) | (simp only [true_and, and_true]; omega)) (And.intro (by first | omega | trivial | (simp; done) | (simp only [true_and, and_true]; omega)) (And.intro (by first | omega | trivial | (simp; done) | (simp only [true_and, and_true]; omega)) ?_)))
            refine bcase_i (fun hn => ?_) (fun hn => ?_)
            · have hn : neg = true := hn
              rw [if_pos ⟨hr, hn⟩] at hk
              rw [u1]
              refine And.intro (by first | omega | trivial | (simp; done) | (simp only [true_and, and_true]; omega)) (And.intro (by first | omega | trivial | (simp; done) | (simp only [true_and, and_true]; omega)) ?_)
              exact hk
            · have hn : neg = false := hn
              rw [if_neg (by rw [hn]; simp)] at hk
              refine And.intro (by first | omega | trivial | (simp; done) | (simp only [true_and, and_true]; omega)) (And.intro (by first | omega | trivial | (simp; done) | (simp only [true_and, and_true]; omega)) ?_)
              exact hk
          · have hr := of_decide_eq_false hr
            rw [if_neg (fun hh => hr hh.1)] at hk
            refine And.intro (by first | omega | trivial | (simp; done) | (simp only [true_and, and_true]; omega)) (And.intro (by first | omega | trivial | (simp; done) | (simp only [true_and, and_true]; omega)) ?_)
            exact hk
        · split at hg
          · rename_i hf
            have := Nat.eq_of_beq_eq_true hf
            subst this
            cases hg
            obtain ⟨⟨⟨h0, h1, h2, h3, h4⟩, h5⟩, hk⟩ := hk
            refine Eq.mpr (k141_75 h l d neg K') ?_
            repeat refine And.intro True.intro ?_
            refine bcase_f (decide_eq_false (by omega)) ?_
            refine And.intro ⟨trivial, trivial, trivial, trivial⟩ (And.intro ⟨h0, h1, h2, h3, h4⟩ (And.intro ⟨trivial, trivial, trivial⟩ (And.intro (decide_eq_true (by omega)) ?_)))
            have q0 := quo_facts h l d h0 h2.1 h3
            generalize (h * 18446744073709551616 + l) / d = q at *
            generalize (h * 18446744073709551616 + l) % d = r at *
            have u1 : IntKind.u64.wrap (q + 1) = q + 1 := w64id (by omega)
            refine bcase_i (fun hr => ?_) (fun hr => ?_)
            · have hr := of_decide_eq_true hr
              refine And.intro (by first | omega | trivial | (simp; done) | (simp only [true_and, and_true]; omega)) (And.intro (by first | omega | trivial | (simp; done) | (simp only [true_and, and_true]; omega)) (And.intro (by first | omega | trivial | (simp; done) | (simp only [true_and, and_true]; omega)) (And.intro (by first | omega | trivial | (simp; done) | (simp only [true_and, and_true]; omega)) ?_)))
              have e1 : (0 * 18446744073709551616 + r + (0 * 18446744073709551616 + r)) / 18446744073709551616 * 18446744073709551616 + (0 * 18446744073709551616 + r + (0 * 18446744073709551616 + r)) % 18446744073709551616 = 2 * r := by omega
              have e2 : 0 * 18446744073709551616 + d = d := by omega
              rw [e1, e2]
              refine bcase_i (fun hn => ?_) (fun hn => ?_)
              · have hn : d ≤ 2 * r := (cmpI_ge _ _).1 (of_decide_eq_true (show decide (cmpI (2 * r) d ≥ 0) = true from hn))
                rw [if_pos hn] at hk
                rw [u1]
                refine And.intro (by first | omega | trivial | (simp; done) | (simp only [true_and, and_true]; omega)) (And.intro (by first | omega | trivial | (simp; done) | (simp only [true_and, and_true]; omega)) ?_)
                exact hk
              · have hn : ¬ d ≤ 2 * r := fun hh => of_decide_eq_false (show decide (cmpI (2 * r) d ≥ 0) = false from hn) ((cmpI_ge _ _).2 hh)
                rw [if_neg hn] at hk
                refine And.intro (by first | omega | trivial | (simp; done) | (simp only [true_and, and_true]; omega)) (And.intro (by first | omega | trivial | (simp; done) | (simp only [true_and, and_true]; omega)) ?_)
                exact hk
            · have hr := of_decide_eq_false hr
              rw [if_neg (by omega)] at hk
              refine And.intro (by first | omega | trivial | (simp; done) | (simp only [true_and, and_true]; omega)) (And.intro (by first | omega | trivial | (simp; done) | (simp only [true_and, and_true]; omega)) ?_)
              exact hk
          · cases hg
    · cases hg
  · exact hk.elim

end Go.Proofs.YtbolfnkgbjkbjaaGreat.AM
end
section
set_option linter.unusedVariables false
set_option linter.unusedSimpArgs false
namespace Go.Proofs.YtbolfnkgbjkbjaaGreat.AM
open Go Go.RowKit
set_option maxRecDepth 100000

def T16 : Tab := (T15b.add 141 (liftA (ofD g141))).add 99 (runFn T15b D6 noIv a99)
theorem T16_ok : TabOk Tryz.prog T16 := (T15b_ok.add (entry_of_fresh r141)).add (fn_entry T15b_ok D6_ok noIv Tryz.func99 c99)
def D16 : DTab := D12.add 141 (viewD g141)
theorem D16_ok : TabOk Tryz.prog (tabD D16) := DTab.add_ok D12_ok (dok r141)
theorem natAbs_nn (x : Int) : x.natAbs = if x < 0 then -x else x := by split <;> omega
theorem sg_cut (x b d : Int) (hd : 0 < d) : sg (!(decide (x < 0) == decide (b < 0))) ((x.natAbs : Int) * (b.natAbs : Int) / d) = (x * b).tdiv d := by
  have key : ∀ p q : Int, 0 ≤ p → 0 ≤ q → (p * q).tdiv d = p * q / d := fun p q hp hq => Int.tdiv_eq_ediv_of_nonneg (Int.mul_nonneg hp hq)
  rw [natAbs_nn, natAbs_nn]
  unfold sg
  by_cases hx : x < 0 <;> by_cases hb : b < 0 <;> simp only [hx, hb, decide_true, decide_false, if_true, if_false]
  · show -x * -b / d = _
    rw [← key (-x) (-b) (by omega) (by omega), Int.neg_mul_neg]
  · show -(-x * b / d) = _
    rw [← key (-x) b (by omega) (by omega), Int.neg_mul, Int.neg_tdiv, Int.neg_neg]
  · show -(x * -b / d) = _
    rw [← key x (-b) (by omega) (by omega), Int.mul_neg, Int.neg_tdiv, Int.neg_neg]
  · show x * b / d = _
    rw [← key x b (by omega) (by omega)]
theorem abs_mul_le (x b : Int) (hx : fixOk x) (hb : fixOk b) : 0 ≤ (x.natAbs : Int) * (b.natAbs : Int) ∧ (x.natAbs : Int) * (b.natAbs : Int) ≤ 4951760157141521099596496896 := by
  have h1 : (x.natAbs : Int) ≤ 70368744177664 := by omega
  have h2 : (b.natAbs : Int) ≤ 70368744177664 := by omega
  exact ⟨Int.mul_nonneg (by omega) (by omega), Int.le_trans (Int.mul_le_mul h1 h2 (by omega) (by decide)) (by decide)⟩
theorem split64 (s : Int) : s / 18446744073709551616 * 18446744073709551616 + s % 18446744073709551616 = s := by omega

/-- fixed.mul, cut -/
def g147 : GSpec := fun args obs => match args, obs with
  | [.int .i64 x, .int .i64 b, .fn 161 [] []], [] => some ((fixOk x ∧ fixOk b) ∧ (x.natAbs : Int) * (b.natAbs : Int) / 65536 < 70368744177664, .ret (i64 ((x * b).tdiv 65536)), [])
  | _, _ => none
theorem k147 (x b : Int) (K' : Out → List Ob → Prop) : runFn (T16) (D16) noIv a147 [.int .i64 x, .int .i64 b, .fn 161 [] []] (lookO []) 0 (closeK K') =
    ((True) ∧
    (True ∧ True) ∧
    ([x, b].length < (1000000 : Nat) ∧
  ∀ (x_1 : den [SK.int IntKind.i64]),
    x_1 ∈ [x, b] →
      (-70368744177664 : den [SK.int IntKind.i64]) ≤ x_1 ∧ x_1 ≤ (70368744177664 : den [SK.int IntKind.i64])) ∧
    (True ∧ True) ∧
    ((-9223372036854775808 : Int) ≤ x ∧ x < (9223372036854775808 : Int)) ∧
    (True ∧ True) ∧
    ((-9223372036854775808 : Int) ≤ b ∧ b < (9223372036854775808 : Int)) ∧
    (True ∧ True ∧ True) ∧
    (w64 ↑x.natAbs ∧ w64 ↑b.natAbs) ∧
    ((True ∧ True ∧ True) ∧ True ∧ True ∧ True ∧ True) ∧
    (((0 : Int) ≤ ↑x.natAbs * ↑b.natAbs / (18446744073709551616 : Int) ∧
    ↑x.natAbs * ↑b.natAbs / (18446744073709551616 : Int) < (65536 : Int) ∧
      w64 (↑x.natAbs * ↑b.natAbs % (18446744073709551616 : Int)) ∧
        (0 : Int) < (65536 : Int) ∧ (65536 : Int) < (4294967296 : Int)) ∧
  (↑x.natAbs * ↑b.natAbs / (18446744073709551616 : Int) * (18446744073709551616 : Int) +
        ↑x.natAbs * ↑b.natAbs % (18446744073709551616 : Int)) /
      (65536 : Int) <
    (70368744177664 : Int)) ∧
    K'
  (Out.ret
    (V.int IntKind.i64
      (sg
        (match true with
        | true => !decide (x < (0 : Int)) == decide (b < (0 : Int))
        | false => decide (x < (0 : Int)) == decide (b < (0 : Int)))
        ((↑x.natAbs * ↑b.natAbs / (18446744073709551616 : Int) * (18446744073709551616 : Int) +
            ↑x.natAbs * ↑b.natAbs % (18446744073709551616 : Int)) /
          (65536 : Int)))))
  []) := by kernel_rfl
theorem r147 : FreshOk Tryz.prog 147 (ofD g147) := by
  refine fresh_of_run T16_ok D16_ok (fun _ _ => noIv) Tryz.func147 c147 fun args obs K' hk => ?_
  unfold ofD g147 at hk
  split at hk
  · rename_i d_ out news hg
    split at hg
    · rename_i x b
      cases hg
      obtain ⟨hc, hk⟩ := hk
      obtain ⟨⟨h1, h2⟩, h3⟩ := hc
      have hp := abs_mul_le x b h1 h2
      refine Eq.mpr (k147 x b K') ⟨trivial, ⟨trivial, trivial⟩, ?_, ⟨trivial, trivial⟩, ?_, ⟨trivial, trivial⟩, ?_, ⟨trivial, ⟨trivial, trivial⟩⟩, ?_, ⟨⟨trivial, ⟨trivial, trivial⟩⟩, ⟨trivial, ⟨trivial, ⟨trivial, trivial⟩⟩⟩⟩, ?_, ?_⟩
      · first | omega | (simp only [true_and, and_true]; omega) | exact in_fix (by simp) (by simp; omega)
      · first | omega | (simp only [true_and, and_true]; omega) | exact in_fix (by simp) (by simp; omega)
      · first | omega | (simp only [true_and, and_true]; omega) | exact in_fix (by simp) (by simp; omega)
      · first | omega | (simp only [true_and, and_true]; omega) | exact in_fix (by simp) (by simp; omega)
      · generalize (x.natAbs : Int) * (b.natAbs : Int) = p at *
        omega
      · rw [split64]
        rw [show (match true with | true => !decide (x < (0 : Int)) == decide (b < (0 : Int)) | false => decide (x < (0 : Int)) == decide (b < (0 : Int))) = !(decide (x < 0) == decide (b < 0)) from rfl, sg_cut x b 65536 (by decide)]
        exact hk
    · cases hg
  · exact hk.elim

end Go.Proofs.YtbolfnkgbjkbjaaGreat.AM
end
section
set_option linter.unusedVariables false
set_option linter.unusedSimpArgs false
namespace Go.Proofs.YtbolfnkgbjkbjaaGreat.AM
open Go Go.RowKit
set_option maxRecDepth 100000

def T17 : Tab := T16.add 147 (liftA (ofD g147))
theorem T17_ok : TabOk Tryz.prog T17 := T16_ok.add (entry_of_fresh r147)
def D17 : DTab := D16.add 102 ((viewD g102).abs .all)
theorem D17_ok : TabOk Tryz.prog (tabD D17) := DTab.add_ok D16_ok (dabs_ok .all (dok r102))
def T17d : Tab := (T17.add 140 (runFn T17 D17 noIv a140)).add 96 (runTried (T17.add 140 (runFn T17 D17 noIv a140)) D17 noIv a96)
theorem T17d_ok : TabOk Tryz.prog T17d := (T17_ok.add (fn_entry T17_ok D17_ok noIv Tryz.func140 c140)).add (tried_entry (T17_ok.add (fn_entry T17_ok D17_ok noIv Tryz.func140 c140)) D17_ok noIv Tryz.func96 Tryz.func160 c96 d96)
theorem sg_mul (a c : Int) : sg (!(decide (a < 0) == decide (c < 0))) ((a.natAbs : Int) * (c.natAbs : Int)) = a * c := by
  rw [natAbs_nn, natAbs_nn]
  unfold sg
  by_cases hx : a < 0 <;> by_cases hb : c < 0 <;> simp only [hx, hb, decide_true, decide_false, if_true, if_false]
  · show -a * -c = _; rw [Int.neg_mul_neg]
  · show -(-a * c) = _; rw [Int.neg_mul, Int.neg_neg]
  · show -(a * -c) = _; rw [Int.mul_neg, Int.neg_neg]
  · rfl
theorem sg_down (neg : Bool) (N : Int) : sg neg (if 0 < N % 65536 ∧ neg = true then N / 65536 + 1 else N / 65536) = sg neg N / 65536 := by
  cases neg <;> simp only [sg, cond_true, cond_false]
  · rw [if_neg (by simp)]
  · by_cases h : 0 < N % 65536
    · rw [if_pos ⟨h, trivial⟩]; omega
    · rw [if_neg (fun hh => h hh.1)]; omega

/-- fixed.Dot, down -/
def g84 : GSpec := fun args obs => match args, obs with
  | [.agg [.int .i64 a, .int .i64 b], .agg [.int .i64 c, .int .i64 d], .int .i64 1], [] => some ((fixOk a ∧ fixOk b ∧ fixOk c ∧ fixOk d) ∧ ((a.natAbs : Int) * (c.natAbs : Int) + (b.natAbs : Int) * (d.natAbs : Int)) / 65536 < 70368744177664, .ret (.tup [i64 ((a * c + b * d) / 65536), i64 0]), [])
  | _, _ => none
theorem k84 (a b c d : Int) (K' : Out → List Ob → Prop) : runFn (T17d) (D17) noIv a84 [.agg [.int .i64 a, .int .i64 b], .agg [.int .i64 c, .int .i64 d], .int .i64 1] (lookO []) 0 (closeK K') =
    ((True) ∧
    (True) ∧
    (True) ∧
    (True) ∧
    (True) ∧
    (True) ∧
    (True ∧ True) ∧
    ([a, b, c, d].length < (1000000 : Nat) ∧
  ∀ (x : den [SK.int IntKind.i64]),
    x ∈ [a, b, c, d] →
      (-70368744177664 : den [SK.int IntKind.i64]) ≤ x ∧ x ≤ (70368744177664 : den [SK.int IntKind.i64])) ∧
    ((True ∧ True) ∧ (-9223372036854775808 : Int) ≤ a ∧ a < (9223372036854775808 : Int)) ∧
    ((True ∧ True) ∧ (-9223372036854775808 : Int) ≤ c ∧ c < (9223372036854775808 : Int)) ∧
    ((True ∧ True ∧ True) ∧ w64 ↑a.natAbs ∧ w64 ↑c.natAbs) ∧
    (∀ (z0 : Int),
    ((z0 = ↑a.natAbs * ↑c.natAbs / (18446744073709551616 : Int)) →
    (∀ (z2 : Int),
    ((z2 = ↑a.natAbs * ↑c.natAbs % (18446744073709551616 : Int)) →
    ((True ∧ True) ∧ (-9223372036854775808 : Int) ≤ b ∧ b < (9223372036854775808 : Int)) ∧
    ((True ∧ True) ∧ (-9223372036854775808 : Int) ≤ d ∧ d < (9223372036854775808 : Int)) ∧
    ((True ∧ True ∧ True) ∧ w64 ↑b.natAbs ∧ w64 ↑d.natAbs) ∧
    (∀ (z4 : Int),
    ((z4 = ↑b.natAbs * ↑d.natAbs / (18446744073709551616 : Int)) →
    (∀ (z6 : Int),
    ((z6 = ↑b.natAbs * ↑d.natAbs % (18446744073709551616 : Int)) →
    (True) ∧
    (True) ∧
    (True) ∧
    (True) ∧
    bcase (match false with
  | true =>
  !(match true with
      | true => !decide (a < (0 : Int)) == decide (c < (0 : Int))
      | false => decide (a < (0 : Int)) == decide (c < (0 : Int))) ==
      match true with
      | true => !decide (b < (0 : Int)) == decide (d < (0 : Int))
      | false => decide (b < (0 : Int)) == decide (d < (0 : Int))
  | false =>
  (match true with
    | true => !decide (a < (0 : Int)) == decide (c < (0 : Int))
    | false => decide (a < (0 : Int)) == decide (c < (0 : Int))) ==
    match true with
    | true => !decide (b < (0 : Int)) == decide (d < (0 : Int))
    | false => decide (b < (0 : Int)) == decide (d < (0 : Int)))
     (((True ∧ True ∧ True) ∧ (True ∧ True ∧ True) ∧ True) ∧
     ((w64 z0 ∧ w64 z2 ∧ w64 z4 ∧ w64 z6) ∧ z0 + z4 < (18446744073709551616 : Int) - (1 : Int)) ∧
     ((True ∧ True ∧ True) ∧ True ∧ True ∧ True ∧ True) ∧
     (((0 : Int) ≤
      (z0 * (18446744073709551616 : Int) + z2 + (z4 * (18446744073709551616 : Int) + z6)) /
        (18446744073709551616 : Int) ∧
    (z0 * (18446744073709551616 : Int) + z2 + (z4 * (18446744073709551616 : Int) + z6)) / (18446744073709551616 : Int) <
        (65536 : Int) ∧
      w64
          ((z0 * (18446744073709551616 : Int) + z2 + (z4 * (18446744073709551616 : Int) + z6)) %
            (18446744073709551616 : Int)) ∧
        (0 : Int) < (65536 : Int) ∧ (65536 : Int) < (4294967296 : Int)) ∧
  ((z0 * (18446744073709551616 : Int) + z2 + (z4 * (18446744073709551616 : Int) + z6)) / (18446744073709551616 : Int) *
          (18446744073709551616 : Int) +
        (z0 * (18446744073709551616 : Int) + z2 + (z4 * (18446744073709551616 : Int) + z6)) %
          (18446744073709551616 : Int)) /
      (65536 : Int) <
    (70368744177664 : Int)) ∧
     (True) ∧
     (True) ∧
     (True) ∧
     (True) ∧
     K'
  (Out.ret
    (V.tup
      [V.int IntKind.i64
          (sg
            (match true with
            | true => !decide (a < (0 : Int)) == decide (c < (0 : Int))
            | false => decide (a < (0 : Int)) == decide (c < (0 : Int)))
            (if
                (0 : Int) <
                    ((z0 * (18446744073709551616 : Int) + z2 + (z4 * (18446744073709551616 : Int) + z6)) /
                            (18446744073709551616 : Int) *
                          (18446744073709551616 : Int) +
                        (z0 * (18446744073709551616 : Int) + z2 + (z4 * (18446744073709551616 : Int) + z6)) %
                          (18446744073709551616 : Int)) %
                      (65536 : Int) ∧
                  (match true with
                    | true => !decide (a < (0 : Int)) == decide (c < (0 : Int))
                    | false => decide (a < (0 : Int)) == decide (c < (0 : Int))) =
                    true then
              ((z0 * (18446744073709551616 : Int) + z2 + (z4 * (18446744073709551616 : Int) + z6)) /
                        (18446744073709551616 : Int) *
                      (18446744073709551616 : Int) +
                    (z0 * (18446744073709551616 : Int) + z2 + (z4 * (18446744073709551616 : Int) + z6)) %
                      (18446744073709551616 : Int)) /
                  (65536 : Int) +
                (1 : Int)
            else
              ((z0 * (18446744073709551616 : Int) + z2 + (z4 * (18446744073709551616 : Int) + z6)) /
                      (18446744073709551616 : Int) *
                    (18446744073709551616 : Int) +
                  (z0 * (18446744073709551616 : Int) + z2 + (z4 * (18446744073709551616 : Int) + z6)) %
                    (18446744073709551616 : Int)) /
                (65536 : Int))),
        V.int IntKind.i64 (0 : Int)]))
  [])
     (((True ∧ True ∧ True) ∧ (True ∧ True ∧ True) ∧ True) ∧
     (w64 z0 ∧ w64 z2 ∧ w64 z4 ∧ w64 z6) ∧
     bcase (decide (cmpI (z0 * (18446744073709551616 : Int) + z2) (z4 * (18446744073709551616 : Int) + z6) ≥ (0 : Int)))
      (((True ∧ True ∧ True) ∧ (True ∧ True ∧ True) ∧ True) ∧
      ((w64 z0 ∧ w64 z2 ∧ w64 z4 ∧ w64 z6) ∧ z4 * (18446744073709551616 : Int) + z6 ≤ z0 * (18446744073709551616 : Int) + z2) ∧
      ((True ∧ True ∧ True) ∧ True ∧ True ∧ True ∧ True) ∧
      (((0 : Int) ≤
      (z0 * (18446744073709551616 : Int) + z2 - (z4 * (18446744073709551616 : Int) + z6)) /
        (18446744073709551616 : Int) ∧
    (z0 * (18446744073709551616 : Int) + z2 - (z4 * (18446744073709551616 : Int) + z6)) / (18446744073709551616 : Int) <
        (65536 : Int) ∧
      w64
          ((z0 * (18446744073709551616 : Int) + z2 - (z4 * (18446744073709551616 : Int) + z6)) %
            (18446744073709551616 : Int)) ∧
        (0 : Int) < (65536 : Int) ∧ (65536 : Int) < (4294967296 : Int)) ∧
  ((z0 * (18446744073709551616 : Int) + z2 - (z4 * (18446744073709551616 : Int) + z6)) / (18446744073709551616 : Int) *
          (18446744073709551616 : Int) +
        (z0 * (18446744073709551616 : Int) + z2 - (z4 * (18446744073709551616 : Int) + z6)) %
          (18446744073709551616 : Int)) /
      (65536 : Int) <
    (70368744177664 : Int)) ∧
      (True) ∧
      (True) ∧
      (True) ∧
      (True) ∧
      K'
  (Out.ret
    (V.tup
      [V.int IntKind.i64
          (sg
            (match true with
            | true => !decide (a < (0 : Int)) == decide (c < (0 : Int))
            | false => decide (a < (0 : Int)) == decide (c < (0 : Int)))
            (if
                (0 : Int) <
                    ((z0 * (18446744073709551616 : Int) + z2 - (z4 * (18446744073709551616 : Int) + z6)) /
                            (18446744073709551616 : Int) *
                          (18446744073709551616 : Int) +
                        (z0 * (18446744073709551616 : Int) + z2 - (z4 * (18446744073709551616 : Int) + z6)) %
                          (18446744073709551616 : Int)) %
                      (65536 : Int) ∧
                  (match true with
                    | true => !decide (a < (0 : Int)) == decide (c < (0 : Int))
                    | false => decide (a < (0 : Int)) == decide (c < (0 : Int))) =
                    true then
              ((z0 * (18446744073709551616 : Int) + z2 - (z4 * (18446744073709551616 : Int) + z6)) /
                        (18446744073709551616 : Int) *
                      (18446744073709551616 : Int) +
                    (z0 * (18446744073709551616 : Int) + z2 - (z4 * (18446744073709551616 : Int) + z6)) %
                      (18446744073709551616 : Int)) /
                  (65536 : Int) +
                (1 : Int)
            else
              ((z0 * (18446744073709551616 : Int) + z2 - (z4 * (18446744073709551616 : Int) + z6)) /
                      (18446744073709551616 : Int) *
                    (18446744073709551616 : Int) +
                  (z0 * (18446744073709551616 : Int) + z2 - (z4 * (18446744073709551616 : Int) + z6)) %
                    (18446744073709551616 : Int)) /
                (65536 : Int))),
        V.int IntKind.i64 (0 : Int)]))
  [])
      (((True ∧ True ∧ True) ∧ (True ∧ True ∧ True) ∧ True) ∧
      ((w64 z4 ∧ w64 z6 ∧ w64 z0 ∧ w64 z2) ∧ z0 * (18446744073709551616 : Int) + z2 ≤ z4 * (18446744073709551616 : Int) + z6) ∧
      ((True ∧ True ∧ True) ∧ True ∧ True ∧ True ∧ True) ∧
      (((0 : Int) ≤
      (z4 * (18446744073709551616 : Int) + z6 - (z0 * (18446744073709551616 : Int) + z2)) /
        (18446744073709551616 : Int) ∧
    (z4 * (18446744073709551616 : Int) + z6 - (z0 * (18446744073709551616 : Int) + z2)) / (18446744073709551616 : Int) <
        (65536 : Int) ∧
      w64
          ((z4 * (18446744073709551616 : Int) + z6 - (z0 * (18446744073709551616 : Int) + z2)) %
            (18446744073709551616 : Int)) ∧
        (0 : Int) < (65536 : Int) ∧ (65536 : Int) < (4294967296 : Int)) ∧
  ((z4 * (18446744073709551616 : Int) + z6 - (z0 * (18446744073709551616 : Int) + z2)) / (18446744073709551616 : Int) *
          (18446744073709551616 : Int) +
        (z4 * (18446744073709551616 : Int) + z6 - (z0 * (18446744073709551616 : Int) + z2)) %
          (18446744073709551616 : Int)) /
      (65536 : Int) <
    (70368744177664 : Int)) ∧
      (True) ∧
      (True) ∧
      (True) ∧
      (True) ∧
      K'
  (Out.ret
    (V.tup
      [V.int IntKind.i64
          (sg
            (match true with
            | true => !decide (b < (0 : Int)) == decide (d < (0 : Int))
            | false => decide (b < (0 : Int)) == decide (d < (0 : Int)))
            (if
                (0 : Int) <
                    ((z4 * (18446744073709551616 : Int) + z6 - (z0 * (18446744073709551616 : Int) + z2)) /
                            (18446744073709551616 : Int) *
                          (18446744073709551616 : Int) +
                        (z4 * (18446744073709551616 : Int) + z6 - (z0 * (18446744073709551616 : Int) + z2)) %
                          (18446744073709551616 : Int)) %
                      (65536 : Int) ∧
                  (match true with
                    | true => !decide (b < (0 : Int)) == decide (d < (0 : Int))
                    | false => decide (b < (0 : Int)) == decide (d < (0 : Int))) =
                    true then
              ((z4 * (18446744073709551616 : Int) + z6 - (z0 * (18446744073709551616 : Int) + z2)) /
                        (18446744073709551616 : Int) *
                      (18446744073709551616 : Int) +
                    (z4 * (18446744073709551616 : Int) + z6 - (z0 * (18446744073709551616 : Int) + z2)) %
                      (18446744073709551616 : Int)) /
                  (65536 : Int) +
                (1 : Int)
            else
              ((z4 * (18446744073709551616 : Int) + z6 - (z0 * (18446744073709551616 : Int) + z2)) /
                      (18446744073709551616 : Int) *
                    (18446744073709551616 : Int) +
                  (z4 * (18446744073709551616 : Int) + z6 - (z0 * (18446744073709551616 : Int) + z2)) %
                    (18446744073709551616 : Int)) /
                (65536 : Int))),
        V.int IntKind.i64 (0 : Int)]))
  []))))))))))) := by kernel_rfl
theorem r84 : FreshOk Tryz.prog 84 (ofD g84) := by
  refine fresh_of_run T17d_ok D17_ok (fun _ _ => noIv) Tryz.func84 c84 fun args obs K' hk => ?_
  unfold ofD g84 at hk
  split at hk
  · rename_i d_ out news hg
    split at hg
    · rename_i a b c d
      cases hg
      obtain ⟨hc, hk⟩ := hk
      obtain ⟨⟨h1, h2, h3, h4⟩, h5⟩ := hc
      refine Eq.mpr (k84 a b c d K') ⟨trivial, trivial, trivial, trivial, trivial, trivial, ⟨trivial, trivial⟩, ?_, ?_, ?_, ?_, ?_⟩
      · first | omega | (simp only [true_and, and_true]; omega) | exact in_fix (by simp) (by simp; omega)
      · first | omega | (simp only [true_and, and_true]; omega) | exact in_fix (by simp) (by simp; omega)
      · first | omega | (simp only [true_and, and_true]; omega) | exact in_fix (by simp) (by simp; omega)
      · first | omega | (simp only [true_and, and_true]; omega) | exact in_fix (by simp) (by simp; omega)
      · intro z0 e0 z2 e2
        refine And.intro (by first | omega | (simp only [true_and, and_true]; done) | (simp only [true_and, and_true]; omega)) (And.intro (by first | omega | (simp only [true_and, and_true]; done) | (simp only [true_and, and_true]; omega)) (And.intro (by first | omega | (simp only [true_and, and_true]; done) | (simp only [true_and, and_true]; omega)) ?_))
        intro z4 e4 z6 e6
        repeat refine And.intro True.intro ?_
        have hP := abs_mul_le a c h1 h3
        have hQ := abs_mul_le b d h2 h4
        have sP := sg_mul a c
        have sQ := sg_mul b d
        generalize (a.natAbs : Int) * (c.natAbs : Int) = P at *
        generalize (b.natAbs : Int) * (d.natAbs : Int) = Q at *
        have eP : z0 * 18446744073709551616 + z2 = P := by omega
        have eQ : z4 * 18446744073709551616 + z6 = Q := by omega
        have ew : w64 z0 ∧ w64 z2 ∧ w64 z4 ∧ w64 z6 := by omega
        dsimp only
        generalize hm : (!decide (a < 0) == decide (c < 0)) = m at *
        generalize hn : (!decide (b < 0) == decide (d < 0)) = n at *
        simp only [eP, eQ, split64, sg_down]
        refine bcase_i (fun h => ?_) (fun h => ?_)
        · have h : m = n := eq_of_beq h
          refine And.intro (by first | omega | (simp only [true_and, and_true]; done) | (simp only [true_and, and_true]; omega)) (And.intro (by first | omega | (simp only [true_and, and_true]; done) | (simp only [true_and, and_true]; omega)) (And.intro (by first | omega | (simp only [true_and, and_true]; done) | (simp only [true_and, and_true]; omega)) (And.intro (by first | omega | (simp only [true_and, and_true]; done) | (simp only [true_and, and_true]; omega)) ?_)))
          repeat refine And.intro True.intro ?_
          rw [show sg m (P + Q) = a * c + b * d by rw [← sP, ← sQ, ← h]; cases m <;> simp only [sg, cond_true, cond_false] <;> omega]
          exact hk
        · have h : m ≠ n := fun e => by rw [e] at h; simp at h
          have hmn : n = !m := by cases m <;> cases n <;> simp_all
          refine And.intro (by first | omega | (simp only [true_and, and_true]; done) | (simp only [true_and, and_true]; omega)) (And.intro (by first | omega | (simp only [true_and, and_true]; done) | (simp only [true_and, and_true]; omega)) ?_)
          refine bcase_i (fun h => ?_) (fun h => ?_)
          · have h : Q ≤ P := (cmpI_ge _ _).1 (of_decide_eq_true h)
            refine And.intro (by first | omega | (simp only [true_and, and_true]; done) | (simp only [true_and, and_true]; omega)) (And.intro (by first | omega | (simp only [true_and, and_true]; done) | (simp only [true_and, and_true]; omega)) (And.intro (by first | omega | (simp only [true_and, and_true]; done) | (simp only [true_and, and_true]; omega)) (And.intro (by first | omega | (simp only [true_and, and_true]; done) | (simp only [true_and, and_true]; omega)) ?_)))
            repeat refine And.intro True.intro ?_
            rw [show sg m (P - Q) = a * c + b * d by rw [← sP, ← sQ, hmn]; cases m <;> simp only [sg, cond_true, cond_false, Bool.not_true, Bool.not_false] <;> omega]
            exact hk
          · have h : ¬ Q ≤ P := fun hh => of_decide_eq_false h ((cmpI_ge _ _).2 hh)
            refine And.intro (by first | omega | (simp only [true_and, and_true]; done) | (simp only [true_and, and_true]; omega)) (And.intro (by first | omega | (simp only [true_and, and_true]; done) | (simp only [true_and, and_true]; omega)) (And.intro (by first | omega | (simp only [true_and, and_true]; done) | (simp only [true_and, and_true]; omega)) (And.intro (by first | omega | (simp only [true_and, and_true]; done) | (simp only [true_and, and_true]; omega)) ?_)))
            repeat refine And.intro True.intro ?_
            rw [show sg n (Q - P) = a * c + b * d by rw [← sP, ← sQ, hmn]; cases m <;> simp only [sg, cond_true, cond_false, Bool.not_true, Bool.not_false] <;> omega]
            exact hk
    · cases hg
  · exact hk.elim

end Go.Proofs.YtbolfnkgbjkbjaaGreat.AM
end
section
set_option linter.unusedVariables false
set_option linter.unusedSimpArgs false
namespace Go.Proofs.YtbolfnkgbjkbjaaGreat.AM
open Go Go.RowKit
set_option maxRecDepth 100000

def T18s : Tab := (T17.add 148 (runFn T17 D17 noIv a148)).add 96 (runTried (T17.add 148 (runFn T17 D17 noIv a148)) D17 noIv a96)
theorem T18s_ok : TabOk Tryz.prog T18s := (T17_ok.add (fn_entry T17_ok D17_ok noIv Tryz.func148 c148)).add (tried_entry (T17_ok.add (fn_entry T17_ok D17_ok noIv Tryz.func148 c148)) D17_ok noIv Tryz.func96 Tryz.func160 c96 d96)
def T18w0 : Tab := T17.add 124 (absT .all (liftA (ofD g124)))
theorem T18w0_ok : TabOk Tryz.prog T18w0 := T17_ok.add (absT_ok .all (entry_of_fresh r124))
def T18w : Tab := (T18w0.add 123 (runFn T18w0 D17 noIv a123)).add 122 (runTried (T18w0.add 123 (runFn T18w0 D17 noIv a123)) D17 noIv a122)
theorem T18w_ok : TabOk Tryz.prog T18w := (T18w0_ok.add (fn_entry T18w0_ok D17_ok noIv Tryz.func123 c123)).add (tried_entry (T18w0_ok.add (fn_entry T18w0_ok D17_ok noIv Tryz.func123 c123)) D17_ok noIv Tryz.func122 Tryz.func187 c122 d122)
theorem near_nat (N d : Int) (hN : 0 ≤ N) (hd : 0 < d) : (if d ≤ 2 * (N % d) then N / d + 1 else N / d) = (2 * N + d) / (2 * d) := by
  have h1 := Int.mul_ediv_add_emod N d
  have h2 := Int.emod_nonneg N (show d ≠ 0 by omega)
  have h3 := Int.emod_lt_of_pos N hd
  generalize N / d = q at *
  generalize N % d = r at *
  symm
  split
  · refine ((Int.ediv_emod_unique (b := 2 * d) (r := 2 * r - d) (by omega)).2 ⟨?_, by omega, by omega⟩).1
    rw [← h1]; grind
  · refine ((Int.ediv_emod_unique (b := 2 * d) (r := 2 * r + d) (by omega)).2 ⟨?_, by omega, by omega⟩).1
    rw [← h1]; grind
theorem cmpI_le (a b : Int) : cmpI a b ≤ 0 ↔ a ≤ b := by
  unfold cmpI
  split
  · omega
  · split <;> omega
theorem bnot_false (b : Bool) : (!(b == false)) = b := by cases b <;> rfl
theorem lt_of_quot {P d : Int} (hd : 0 < d) (h : P / d < 70368744177664) : P < d * 70368744177664 := by
  have h1 := Int.mul_ediv_add_emod P d
  have h3 := Int.emod_lt_of_pos P hd
  have h4 : d * (P / d) ≤ d * 70368744177663 := Int.mul_le_mul_of_nonneg_left (by omega) (by omega)
  omega

/-- fixed.Scale -/
def g86_0 : GSpec := fun args obs => match args, obs with
  | [.int .i64 a, .int .i64 n, .int .i64 d, .int .i64 0], [] => some (fixOk a ∧ (-2147483648 ≤ n ∧ n ≤ 2147483648) ∧ (0 < d ∧ d ≤ 2147483648) ∧ (a.natAbs : Int) * (n.natAbs : Int) / d < 70368744177664, .ret (.tup [i64 ((a * n).tdiv d), i64 0]), [])
  | _, _ => none
theorem k86_0 (a n d : Int) (K' : Out → List Ob → Prop) : runFn (T18s) (D17) noIv a86 [.int .i64 a, .int .i64 n, .int .i64 d, .int .i64 0] (lookO []) 0 (closeK K') =
    ((True) ∧
    (True) ∧
    (True) ∧
    (True) ∧
    (True) ∧
    (True) ∧
    (True) ∧
    (True ∧ True) ∧
    ([a].length < (1000000 : Nat) ∧
  ∀ (x : den [SK.int IntKind.i64]),
    x ∈ [a] → (-70368744177664 : den [SK.int IntKind.i64]) ≤ x ∧ x ≤ (70368744177664 : den [SK.int IntKind.i64])) ∧
    bcase (decide (n ≥ (-2147483648 : Int)))
     (bcase (bif true then decide (n ≤ (2147483648 : Int)) else false)
      (bcase (bif true then decide (d ≥ (-2147483648 : Int)) else false)
       ((True ∧ True ∧ True) ∧
       ((bif true then decide (d ≤ (2147483648 : Int)) else false) = true) ∧
       (True ∧ True ∧ True) ∧
       ((d != (0 : Int)) = true) ∧
       ((True ∧ True) ∧ (-9223372036854775808 : Int) ≤ a ∧ a < (9223372036854775808 : Int)) ∧
       ((True ∧ True) ∧ (-9223372036854775808 : Int) ≤ n ∧ n < (9223372036854775808 : Int)) ∧
       ((True ∧ True ∧ True) ∧ w64 ↑a.natAbs ∧ w64 ↑n.natAbs) ∧
       (∀ (z0 : Int),
       ((z0 = ↑a.natAbs * ↑n.natAbs / (18446744073709551616 : Int)) →
       (∀ (z2 : Int),
       ((z2 = ↑a.natAbs * ↑n.natAbs % (18446744073709551616 : Int)) →
       ((True ∧ True) ∧ (-9223372036854775808 : Int) ≤ d ∧ d < (9223372036854775808 : Int)) ∧
       (((True ∧ True ∧ True) ∧ True ∧ True ∧ True ∧ True) ∧
  ((0 : Int) ≤ z0 ∧ z0 < ↑d.natAbs ∧ w64 z2 ∧ (0 : Int) < ↑d.natAbs ∧ ↑d.natAbs < (4294967296 : Int)) ∧
    (z0 * (18446744073709551616 : Int) + z2) / ↑d.natAbs < (70368744177664 : Int)) ∧
       (True) ∧
       (True) ∧
       (True) ∧
       (True) ∧
       K'
  (Out.ret
    (V.tup
      [V.int IntKind.i64
          (sg
            (match true with
            | true =>
              !decide (a < (0 : Int)) ==
                  match true with
                  | true => !decide (n < (0 : Int)) == decide (d < (0 : Int))
                  | false => decide (n < (0 : Int)) == decide (d < (0 : Int))
            | false =>
              decide (a < (0 : Int)) ==
                match true with
                | true => !decide (n < (0 : Int)) == decide (d < (0 : Int))
                | false => decide (n < (0 : Int)) == decide (d < (0 : Int)))
            ((z0 * (18446744073709551616 : Int) + z2) / ↑d.natAbs)),
        V.int IntKind.i64 (0 : Int)]))
  [])))))
       ((True ∧ True ∧ True) ∧
       (false = true) ∧
       (True ∧ True ∧ True) ∧
       ((d != (0 : Int)) = true) ∧
       ((True ∧ True) ∧ (-9223372036854775808 : Int) ≤ a ∧ a < (9223372036854775808 : Int)) ∧
       ((True ∧ True) ∧ (-9223372036854775808 : Int) ≤ n ∧ n < (9223372036854775808 : Int)) ∧
       ((True ∧ True ∧ True) ∧ w64 ↑a.natAbs ∧ w64 ↑n.natAbs) ∧
       (∀ (z4 : Int),
       ((z4 = ↑a.natAbs * ↑n.natAbs / (18446744073709551616 : Int)) →
       (∀ (z6 : Int),
       ((z6 = ↑a.natAbs * ↑n.natAbs % (18446744073709551616 : Int)) →
       ((True ∧ True) ∧ (-9223372036854775808 : Int) ≤ d ∧ d < (9223372036854775808 : Int)) ∧
       (((True ∧ True ∧ True) ∧ True ∧ True ∧ True ∧ True) ∧
  ((0 : Int) ≤ z4 ∧ z4 < ↑d.natAbs ∧ w64 z6 ∧ (0 : Int) < ↑d.natAbs ∧ ↑d.natAbs < (4294967296 : Int)) ∧
    (z4 * (18446744073709551616 : Int) + z6) / ↑d.natAbs < (70368744177664 : Int)) ∧
       (True) ∧
       (True) ∧
       (True) ∧
       (True) ∧
       K'
  (Out.ret
    (V.tup
      [V.int IntKind.i64
          (sg
            (match true with
            | true =>
              !decide (a < (0 : Int)) ==
                  match true with
                  | true => !decide (n < (0 : Int)) == decide (d < (0 : Int))
                  | false => decide (n < (0 : Int)) == decide (d < (0 : Int))
            | false =>
              decide (a < (0 : Int)) ==
                match true with
                | true => !decide (n < (0 : Int)) == decide (d < (0 : Int))
                | false => decide (n < (0 : Int)) == decide (d < (0 : Int)))
            ((z4 * (18446744073709551616 : Int) + z6) / ↑d.natAbs)),
        V.int IntKind.i64 (0 : Int)]))
  []))))))
      ((True ∧ True ∧ True) ∧
      (false = true) ∧
      (True ∧ True ∧ True) ∧
      ((d != (0 : Int)) = true) ∧
      ((True ∧ True) ∧ (-9223372036854775808 : Int) ≤ a ∧ a < (9223372036854775808 : Int)) ∧
      ((True ∧ True) ∧ (-9223372036854775808 : Int) ≤ n ∧ n < (9223372036854775808 : Int)) ∧
      ((True ∧ True ∧ True) ∧ w64 ↑a.natAbs ∧ w64 ↑n.natAbs) ∧
      (∀ (z8 : Int),
      ((z8 = ↑a.natAbs * ↑n.natAbs / (18446744073709551616 : Int)) →
      (∀ (z10 : Int),
      ((z10 = ↑a.natAbs * ↑n.natAbs % (18446744073709551616 : Int)) →
      ((True ∧ True) ∧ (-9223372036854775808 : Int) ≤ d ∧ d < (9223372036854775808 : Int)) ∧
      (((True ∧ True ∧ True) ∧ True ∧ True ∧ True ∧ True) ∧
  ((0 : Int) ≤ z8 ∧ z8 < ↑d.natAbs ∧ w64 z10 ∧ (0 : Int) < ↑d.natAbs ∧ ↑d.natAbs < (4294967296 : Int)) ∧
    (z8 * (18446744073709551616 : Int) + z10) / ↑d.natAbs < (70368744177664 : Int)) ∧
      (True) ∧
      (True) ∧
      (True) ∧
      (True) ∧
      K'
  (Out.ret
    (V.tup
      [V.int IntKind.i64
          (sg
            (match true with
            | true =>
              !decide (a < (0 : Int)) ==
                  match true with
                  | true => !decide (n < (0 : Int)) == decide (d < (0 : Int))
                  | false => decide (n < (0 : Int)) == decide (d < (0 : Int))
            | false =>
              decide (a < (0 : Int)) ==
                match true with
                | true => !decide (n < (0 : Int)) == decide (d < (0 : Int))
                | false => decide (n < (0 : Int)) == decide (d < (0 : Int)))
            ((z8 * (18446744073709551616 : Int) + z10) / ↑d.natAbs)),
        V.int IntKind.i64 (0 : Int)]))
  []))))))
     ((True ∧ True ∧ True) ∧
     (false = true) ∧
     (True ∧ True ∧ True) ∧
     ((d != (0 : Int)) = true) ∧
     ((True ∧ True) ∧ (-9223372036854775808 : Int) ≤ a ∧ a < (9223372036854775808 : Int)) ∧
     ((True ∧ True) ∧ (-9223372036854775808 : Int) ≤ n ∧ n < (9223372036854775808 : Int)) ∧
     ((True ∧ True ∧ True) ∧ w64 ↑a.natAbs ∧ w64 ↑n.natAbs) ∧
     (∀ (z12 : Int),
     ((z12 = ↑a.natAbs * ↑n.natAbs / (18446744073709551616 : Int)) →
     (∀ (z14 : Int),
     ((z14 = ↑a.natAbs * ↑n.natAbs % (18446744073709551616 : Int)) →
     ((True ∧ True) ∧ (-9223372036854775808 : Int) ≤ d ∧ d < (9223372036854775808 : Int)) ∧
     (((True ∧ True ∧ True) ∧ True ∧ True ∧ True ∧ True) ∧
  ((0 : Int) ≤ z12 ∧ z12 < ↑d.natAbs ∧ w64 z14 ∧ (0 : Int) < ↑d.natAbs ∧ ↑d.natAbs < (4294967296 : Int)) ∧
    (z12 * (18446744073709551616 : Int) + z14) / ↑d.natAbs < (70368744177664 : Int)) ∧
     (True) ∧
     (True) ∧
     (True) ∧
     (True) ∧
     K'
  (Out.ret
    (V.tup
      [V.int IntKind.i64
          (sg
            (match true with
            | true =>
              !decide (a < (0 : Int)) ==
                  match true with
                  | true => !decide (n < (0 : Int)) == decide (d < (0 : Int))
                  | false => decide (n < (0 : Int)) == decide (d < (0 : Int))
            | false =>
              decide (a < (0 : Int)) ==
                match true with
                | true => !decide (n < (0 : Int)) == decide (d < (0 : Int))
                | false => decide (n < (0 : Int)) == decide (d < (0 : Int)))
            ((z12 * (18446744073709551616 : Int) + z14) / ↑d.natAbs)),
        V.int IntKind.i64 (0 : Int)]))
  [])))))) := by kernel_rfl
theorem r86_0 : FreshOk Tryz.prog 86 (ofD g86_0) := by
  refine fresh_of_run T18s_ok D17_ok (fun _ _ => noIv) Tryz.func86 c86 fun args obs K' hk => ?_
  unfold ofD g86_0 at hk
  split at hk
  · rename_i d_ out news hg
    split at hg
    · rename_i a n d
      cases hg
      obtain ⟨hc, hk⟩ := hk
      obtain ⟨h1, ⟨h2, h3⟩, ⟨h4, h5⟩, h6⟩ := hc
      refine Eq.mpr (k86_0 a n d K') ⟨trivial, trivial, trivial, trivial, trivial, trivial, trivial, ⟨trivial, trivial⟩, ?_, ?_⟩
      · first | omega | (simp only [true_and, and_true]; omega) | exact in_fix (by simp) (by simp; omega)
      · refine bcase_t (decide_eq_true (show n ≥ -2147483648 by omega)) ?_
        refine bcase_t (show (bif true then decide (n ≤ (2147483648 : Int)) else false) = true from decide_eq_true (by omega)) ?_
        refine bcase_t (show (bif true then decide (d ≥ (-2147483648 : Int)) else false) = true from decide_eq_true (by omega)) ?_
        have hd : decide (d < 0) = false := decide_eq_false (by omega)
        have hnd : (d.natAbs : Int) = d := by omega
        have hp := abs_mul_le a n h1 ⟨by omega, by omega⟩
        have sC := sg_cut a n d h4
        have hN := near_nat ((a.natAbs : Int) * (n.natAbs : Int)) d hp.1 h4
        refine And.intro (by first | omega | (simp only [true_and, and_true]; done) | (simp only [true_and, and_true]; omega)) (And.intro (show (bif true then decide (d ≤ (2147483648 : Int)) else false) = true from decide_eq_true (by omega)) (And.intro (by first | omega | (simp only [true_and, and_true]; done) | (simp only [true_and, and_true]; omega)) (And.intro (show (d != 0) = true from bne_iff_ne.2 (by omega)) (And.intro (by first | omega | (simp only [true_and, and_true]; done) | (simp only [true_and, and_true]; omega)) (And.intro (by first | omega | (simp only [true_and, and_true]; done) | (simp only [true_and, and_true]; omega)) (And.intro (by first | omega | (simp only [true_and, and_true]; done) | (simp only [true_and, and_true]; omega)) ?_))))))
        intro z0 e0 z2 e2
        have hlt := lt_of_quot h4 h6
        have eP : z0 * 18446744073709551616 + z2 = (a.natAbs : Int) * (n.natAbs : Int) := by omega
        dsimp only
        simp only [hnd, hd, bnot_false, eP]
        rw [sC]
        generalize (a.natAbs : Int) * (n.natAbs : Int) = P at *
        refine And.intro (by first | omega | (simp only [true_and, and_true]; done) | (simp only [true_and, and_true]; omega)) (And.intro (by first | omega | (simp only [true_and, and_true]; done) | (simp only [true_and, and_true]; omega)) ?_)
        repeat refine And.intro True.intro ?_
        exact hk
    · cases hg
  · exact hk.elim
/-- fixed.Within -/
def g77 : GSpec := fun args obs => match args, obs with
  | [.agg [.int .i64 x, .int .i64 y], .int .i64 r], [] => some ((fixOk x ∧ fixOk y ∧ fixOk r) ∧ 0 ≤ r, .ret (.tup [.bool (decide (x * x + y * y ≤ r * r)), i64 0]), [])
  | _, _ => none
theorem k77 (x y r : Int) (K' : Out → List Ob → Prop) : runFn (T18w) (D17) noIv a77 [.agg [.int .i64 x, .int .i64 y], .int .i64 r] (lookO []) 0 (closeK K') =
    ((True) ∧
    (True) ∧
    (True) ∧
    (True) ∧
    ((True ∧ True ∧ True) ∧ True) ∧
    (fixOk x ∧ fixOk y) ∧
    (∀ (z0 : Int),
    ((z0 = (x * x + y * y) / (18446744073709551616 : Int)) →
    (∀ (z2 : Int),
    ((z2 = (x * x + y * y) % (18446744073709551616 : Int)) →
    (True) ∧
    (True) ∧
    (True) ∧
    (True ∧ True) ∧
    ([r].length < (1000000 : Nat) ∧
  ∀ (x : den [SK.int IntKind.i64]),
    x ∈ [r] → (-70368744177664 : den [SK.int IntKind.i64]) ≤ x ∧ x ≤ (70368744177664 : den [SK.int IntKind.i64])) ∧
    bcase (decide (r ≥ (0 : Int)))
     (((True ∧ True) ∧ (-9223372036854775808 : Int) ≤ r ∧ r < (9223372036854775808 : Int)) ∧
     ((True ∧ True) ∧ (-9223372036854775808 : Int) ≤ r ∧ r < (9223372036854775808 : Int)) ∧
     ((True ∧ True ∧ True) ∧ w64 ↑r.natAbs ∧ w64 ↑r.natAbs) ∧
     (∀ (z4 : Int),
     ((z4 = ↑r.natAbs * ↑r.natAbs / (18446744073709551616 : Int)) →
     (∀ (z6 : Int),
     ((z6 = ↑r.natAbs * ↑r.natAbs % (18446744073709551616 : Int)) →
     (((True ∧ True ∧ True) ∧ (True ∧ True ∧ True) ∧ True) ∧ w64 z0 ∧ w64 z2 ∧ w64 z4 ∧ w64 z6) ∧
     (True) ∧
     (True) ∧
     (True) ∧
     (True) ∧
     K'
  (Out.ret
    (V.tup
      [V.bool
          (bif true then
            decide (cmpI (z0 * (18446744073709551616 : Int) + z2) (z4 * (18446744073709551616 : Int) + z6) ≤ (0 : Int))
          else false),
        V.int IntKind.i64 (0 : Int)]))
  [])))))
     ((True) ∧
     (True) ∧
     (True) ∧
     (True) ∧
     K' (Out.ret (V.tup [V.bool false, V.int IntKind.i64 (0 : Int)])) [])))))) := by kernel_rfl
theorem r77 : FreshOk Tryz.prog 77 (ofD g77) := by
  refine fresh_of_run T18w_ok D17_ok (fun _ _ => noIv) Tryz.func77 c77 fun args obs K' hk => ?_
  unfold ofD g77 at hk
  split at hk
  · rename_i d_ out news hg
    split at hg
    · rename_i x y r
      cases hg
      obtain ⟨hc, hk⟩ := hk
      obtain ⟨⟨h1, h2, h3⟩, h4⟩ := hc
      refine Eq.mpr (k77 x y r K') ⟨trivial, trivial, trivial, trivial, ⟨⟨trivial, ⟨trivial, trivial⟩⟩, trivial⟩, ?_, ?_⟩
      · first | omega | (simp only [true_and, and_true]; omega) | exact in_fix (by simp) (by simp; omega)
      · intro z0 e0 z2 e2
        repeat refine And.intro True.intro ?_
        refine And.intro (by first | omega | (simp only [true_and, and_true]; done) | (simp only [true_and, and_true]; omega)) (And.intro (in_fix (by simp) (by simp; omega)) ?_)
        refine bcase_t (decide_eq_true h4) ?_
        refine And.intro (by first | omega | (simp only [true_and, and_true]; done) | (simp only [true_and, and_true]; omega)) (And.intro (by first | omega | (simp only [true_and, and_true]; done) | (simp only [true_and, and_true]; omega)) (And.intro (by first | omega | (simp only [true_and, and_true]; done) | (simp only [true_and, and_true]; omega)) ?_))
        intro z4 e4 z6 e6
        have hr : (r.natAbs : Int) = r := by omega
        have hx := sq_le x h1
        have hy := sq_le y h2
        have hz := sq_le r h3
        rw [hr] at e4 e6
        have eS : z0 * 18446744073709551616 + z2 = x * x + y * y := by omega
        have eR : z4 * 18446744073709551616 + z6 = r * r := by omega
        refine And.intro ?_ ?_
        · generalize x * x = p at *
          generalize y * y = q at *
          generalize r * r = s at *
          simp only [true_and, and_true]
          omega
        repeat refine And.intro True.intro ?_
        rw [eS, eR, show (bif true then decide (cmpI (x * x + y * y) (r * r) ≤ (0 : Int)) else false) = decide (x * x + y * y ≤ r * r) from decide_eq_decide.2 (cmpI_le _ _)]
        exact hk
    · cases hg
  · exact hk.elim
/-- fixed.Times$2, cut -/
def g146 : GSpec := fun args obs => match args, obs with
  | [.int .i64 x, .int .i64 y, .ptr 0 0 0 0, .ptr 1 0 0 0], [.rv [.int .i64 b], .rv [.fn 161 [] []]] => some ((fixOk x ∧ fixOk b) ∧ (x.natAbs : Int) * (b.natAbs : Int) / 65536 < 70368744177664, .ret (i64 ((x * b).tdiv 65536)), [])
  | _, _ => none
theorem k146 (x y b : Int) (K' : Out → List Ob → Prop) : runFn (T17) (D16) noIv a146 [.int .i64 x, .int .i64 y, .ptr 0 0 0 0, .ptr 1 0 0 0] (lookO [.rv [.int .i64 b], .rv [.fn 161 [] []]]) 2 (closeK K') =
    ((True ∧ True ∧ True ∧ True) ∧
    ((fixOk x ∧ fixOk b) ∧ ↑x.natAbs * ↑b.natAbs / (65536 : Int) < (70368744177664 : Int)) ∧
    K' (Out.ret (V.int IntKind.i64 ((x * b).tdiv (65536 : Int)))) []) := by kernel_rfl
theorem r146 : FreshOk Tryz.prog 146 (ofD g146) := by
  refine fresh_of_run T17_ok D16_ok (fun _ _ => noIv) Tryz.func146 c146 fun args obs K' hk => ?_
  unfold ofD g146 at hk
  split at hk
  · rename_i d_ out news hg
    split at hg
    · rename_i x y b
      cases hg
      obtain ⟨hc, hk⟩ := hk
      refine Eq.mpr (k146 x y b K') ⟨⟨trivial, ⟨trivial, ⟨trivial, trivial⟩⟩⟩, ?_, hk⟩
      · exact hc
    · cases hg
  · exact hk.elim

end Go.Proofs.YtbolfnkgbjkbjaaGreat.AM
end
section
set_option linter.unusedVariables false
set_option linter.unusedSimpArgs false
namespace Go.Proofs.YtbolfnkgbjkbjaaGreat.AM
open Go Go.RowKit
set_option maxRecDepth 100000

def D19 : DTab := D17.add 146 (viewD g146)
theorem D19_ok : TabOk Tryz.prog (tabD D19) := DTab.add_ok D17_ok (dok r146)
def T19a : Tab := (eT T17 D19).add 145 (runFn T17 D19 noIv a145)
theorem T19a_ok : TabOk Tryz.prog T19a := (eT_ok T17_ok D19_ok).add (fn_entry T17_ok D19_ok noIv Tryz.func145 c145)
def T19 : Tab := T19a.add 144 (runTried T19a D19 noIv a144)
theorem T19_ok : TabOk Tryz.prog T19 := T19a_ok.add (tried_entry T19a_ok D19_ok noIv Tryz.func144 Tryz.func197 c144 d144)

/-- fixed.Times, cut -/
def g85 : GSpec := fun args obs => match args, obs with
  | [.agg [.int .i64 x, .int .i64 y], .int .i64 b, .int .i64 0], [] => some ((fixOk x ∧ fixOk y ∧ fixOk b) ∧ (x.natAbs : Int) * (b.natAbs : Int) / 65536 < 70368744177664 ∧ (y.natAbs : Int) * (b.natAbs : Int) / 65536 < 70368744177664, .ret (.tup [.agg [i64 ((x * b).tdiv 65536), i64 ((y * b).tdiv 65536)], i64 0]), [])
  | _, _ => none
theorem k85 (x y b : Int) (K' : Out → List Ob → Prop) : runFn (T19) (D19) noIv a85 [.agg [.int .i64 x, .int .i64 y], .int .i64 b, .int .i64 0] (lookO []) 0 (closeK K') =
    ((True) ∧
    (True) ∧
    (True) ∧
    (True) ∧
    (True) ∧
    (True) ∧
    (True) ∧
    (True ∧ True) ∧
    ([x, y, b].length < (1000000 : Nat) ∧
  ∀ (x_1 : den [SK.int IntKind.i64]),
    x_1 ∈ [x, y, b] →
      (-70368744177664 : den [SK.int IntKind.i64]) ≤ x_1 ∧ x_1 ≤ (70368744177664 : den [SK.int IntKind.i64])) ∧
    (True) ∧
    (True) ∧
    (True) ∧
    (True) ∧
    (True) ∧
    (True) ∧
    (True) ∧
    (True) ∧
    (True) ∧
    (True) ∧
    (True) ∧
    (True) ∧
    (True) ∧
    (True) ∧
    (True ∧ True) ∧
    ([x, y, x, y].length < (1000000 : Nat) ∧
  ∀ (x_1 : den [SK.int IntKind.i64]),
    x_1 ∈ [x, y, x, y] →
      (-70368744177664 : den [SK.int IntKind.i64]) ≤ x_1 ∧ x_1 ≤ (70368744177664 : den [SK.int IntKind.i64])) ∧
    ((True ∧ True ∧ True ∧ True ∧ True) ∧
  (fixOk x ∧ fixOk b) ∧ ↑x.natAbs * ↑b.natAbs / (65536 : Int) < (70368744177664 : Int)) ∧
    ((True ∧ True ∧ True ∧ True ∧ True) ∧
  (fixOk y ∧ fixOk b) ∧ ↑y.natAbs * ↑b.natAbs / (65536 : Int) < (70368744177664 : Int)) ∧
    (True) ∧
    (True) ∧
    (True) ∧
    (True) ∧
    (True) ∧
    (True) ∧
    (True) ∧
    K'
  (Out.ret
    (V.tup
      [V.agg [V.int IntKind.i64 ((x * b).tdiv (65536 : Int)), V.int IntKind.i64 ((y * b).tdiv (65536 : Int))],
        V.int IntKind.i64 (0 : Int)]))
  []) := by kernel_rfl
theorem r85 : FreshOk Tryz.prog 85 (ofD g85) := by
  refine fresh_of_run T19_ok D19_ok (fun _ _ => noIv) Tryz.func85 c85 fun args obs K' hk => ?_
  unfold ofD g85 at hk
  split at hk
  · rename_i d_ out news hg
    split at hg
    · rename_i x y b
      cases hg
      obtain ⟨hc, hk⟩ := hk
      obtain ⟨⟨h1, h2, h3⟩, h4, h5⟩ := hc
      refine Eq.mpr (k85 x y b K') ⟨trivial, trivial, trivial, trivial, trivial, trivial, trivial, ⟨trivial, trivial⟩, ?_, trivial, trivial, trivial, trivial, trivial, trivial, trivial, trivial, trivial, trivial, trivial, trivial, trivial, trivial, ⟨trivial, trivial⟩, ?_, ?_, ?_, trivial, trivial, trivial, trivial, trivial, trivial, trivial, hk⟩
      · first | omega | (simp only [true_and, and_true]; omega) | exact in_fix (by simp) (by simp; omega)
      · first | omega | (simp only [true_and, and_true]; omega) | exact in_fix (by simp) (by simp; omega)
      · exact ⟨⟨trivial, trivial, trivial, trivial, trivial⟩, ⟨h1, h3⟩, h4⟩
      · exact ⟨⟨trivial, trivial, trivial, trivial, trivial⟩, ⟨h2, h3⟩, h5⟩
    · cases hg
  · exact hk.elim

end Go.Proofs.YtbolfnkgbjkbjaaGreat.AM
end
section
set_option linter.unusedVariables false
set_option linter.unusedSimpArgs false
namespace Go.Proofs.YtbolfnkgbjkbjaaGreat.AM
open Go Go.RowKit
set_option maxRecDepth 100000

theorem lfb {K' : Out → List Ob → Prop} {x y : Bool} (h : K' (.ret (.bool y)) []) (e : x = y) : K' (.ret (.bool x)) [] := e ▸ h
theorem lfi {K' : Out → List Ob → Prop} {k : IntKind} {x y : Int} (h : K' (.ret (.int k y)) []) (e : x = y) : K' (.ret (.int k x)) [] := e ▸ h

/-- A stone that moves, a body: valid. -/
abbrev MovOk (ax ay sx sy sp : Int) : Prop := ((-6553600000 ≤ ax ∧ ax ≤ 6553600000) ∧ -6553600000 ≤ ay ∧ ay ≤ 6553600000) ∧ ((-65536000 ≤ sx ∧ sx ≤ 65536000) ∧ -65536000 ≤ sy ∧ sy ≤ 65536000) ∧ -1000 ≤ sp ∧ sp ≤ 1000
abbrev BodyOk (tm n ax ay sx sy sp : Int) : Prop := (0 ≤ tm ∧ tm ≤ 1) ∧ (0 ≤ n ∧ n ≤ 7) ∧ MovOk ax ay sx sy sp
/-- glide.within -/
def g120 : GSpec := fun args obs => match args, obs with
  | [.int .i64 x, .int .i64 y, .int .i64 z], [] => some (True, .ret (.bool (decide (y ≤ x ∧ x ≤ z))), [])
  | _, _ => none
theorem k120 (x y z : Int) (K' : Out → List Ob → Prop) : runFn (T19) (noD) noIv a120 [.int .i64 x, .int .i64 y, .int .i64 z] (lookO []) 0 (closeK K') =
    (bcase (decide (y ≤ x))
     (K' (Out.ret (V.bool (bif true then decide (x ≤ z) else false))) [])
     (K' (Out.ret (V.bool false)) [])) := by kernel_rfl
theorem r120 : FreshOk Tryz.prog 120 (ofD g120) := by
  refine fresh_of_run T19_ok (noD_ok _) (fun _ _ => noIv) Tryz.func120 c120 fun args obs K' hk => ?_
  unfold ofD g120 at hk
  split at hk
  · rename_i d_ out news hg
    split at hg
    · rename_i x y z
      cases hg
      obtain ⟨hc, hk⟩ := hk
      refine Eq.mpr (k120 x y z K') ?_
      · repeat' first
          | (refine bcase_i (fun h => ?_) (fun h => ?_))
          | (refine And.intro (by first | omega | (simp only [true_and, and_true]; done) | (simp only [true_and, and_true]; omega)) ?_)
          | (intro z ez)
        all_goals
          refine lfb hk ?_
          clear hk
          rw [Bool.eq_iff_iff]
          simp only [cond_true, cond_false, Bool.not_eq_true, Bool.not_eq_false, Bool.not_eq_true', Bool.not_eq_false', Bool.or_eq_true, Bool.and_eq_true, beq_iff_eq, bne_iff_ne, decide_eq_true_eq, decide_eq_false_iff_not, decide_true, decide_false, ne_eq, true_iff, false_iff, iff_true, iff_false, reduceCtorEq] at *
          omega
    · cases hg
  · exact hk.elim
/-- glide.within -/
def g186 : GSpec := fun args obs => match args, obs with
  | [.int .i64 x, .int .i64 y, .int .i64 z], [] => some (True, .ret (.bool (decide (y ≤ x ∧ x ≤ z))), [])
  | _, _ => none
theorem k186 (x y z : Int) (K' : Out → List Ob → Prop) : runFn (T19) (noD) noIv a186 [.int .i64 x, .int .i64 y, .int .i64 z] (lookO []) 0 (closeK K') =
    (bcase (decide (y ≤ x))
     (K' (Out.ret (V.bool (bif true then decide (x ≤ z) else false))) [])
     (K' (Out.ret (V.bool false)) [])) := by kernel_rfl
theorem r186 : FreshOk Tryz.prog 186 (ofD g186) := by
  refine fresh_of_run T19_ok (noD_ok _) (fun _ _ => noIv) Tryz.func186 c186 fun args obs K' hk => ?_
  unfold ofD g186 at hk
  split at hk
  · rename_i d_ out news hg
    split at hg
    · rename_i x y z
      cases hg
      obtain ⟨hc, hk⟩ := hk
      refine Eq.mpr (k186 x y z K') ?_
      · repeat' first
          | (refine bcase_i (fun h => ?_) (fun h => ?_))
          | (refine And.intro (by first | omega | (simp only [true_and, and_true]; done) | (simp only [true_and, and_true]; omega)) ?_)
          | (intro z ez)
        all_goals
          refine lfb hk ?_
          clear hk
          rw [Bool.eq_iff_iff]
          simp only [cond_true, cond_false, Bool.not_eq_true, Bool.not_eq_false, Bool.not_eq_true', Bool.not_eq_false', Bool.or_eq_true, Bool.and_eq_true, beq_iff_eq, bne_iff_ne, decide_eq_true_eq, decide_eq_false_iff_not, decide_true, decide_false, ne_eq, true_iff, false_iff, iff_true, iff_false, reduceCtorEq] at *
          omega
    · cases hg
  · exact hk.elim
def T20_0 : Tab := T19.add 120 (liftA (ofD g120))
def T20 : Tab := T20_0.add 186 (liftA (ofD g186))
theorem T20_0_ok : TabOk Tryz.prog T20_0 := T19_ok.add (entry_of_fresh r120)
theorem T20_ok : TabOk Tryz.prog T20 := T20_0_ok.add (entry_of_fresh r186)
/-- glide.square -/
def g119 : GSpec := fun args obs => match args, obs with
  | [.agg [.int .i64 x, .int .i64 y], .int .i64 m], [] => some (0 ≤ m ∧ m ≤ 9223372036854775807, .ret (.bool (decide ((-m ≤ x ∧ x ≤ m) ∧ -m ≤ y ∧ y ≤ m))), [])
  | _, _ => none
theorem k119 (x y m : Int) (K' : Out → List Ob → Prop) : runFn (T20) (noD) noIv a119 [.agg [.int .i64 x, .int .i64 y], .int .i64 m] (lookO []) 0 (closeK K') =
    ((True) ∧
    (True ∧ True ∧ True ∧ True) ∧
    (True) ∧
    bcase (decide (IntKind.i64.wrap ((0 : Int) - m) ≤ x ∧ x ≤ m))
     ((True ∧ True ∧ True ∧ True) ∧
     (True) ∧
     K' (Out.ret (V.bool (bif true then decide (IntKind.i64.wrap ((0 : Int) - m) ≤ y ∧ y ≤ m) else false))) [])
     (K' (Out.ret (V.bool false)) [])) := by kernel_rfl
theorem r119 : FreshOk Tryz.prog 119 (ofD g119) := by
  refine fresh_of_run T20_ok (noD_ok _) (fun _ _ => noIv) Tryz.func119 c119 fun args obs K' hk => ?_
  unfold ofD g119 at hk
  split at hk
  · rename_i d_ out news hg
    split at hg
    · rename_i x y m
      cases hg
      obtain ⟨hc, hk⟩ := hk
      refine Eq.mpr (k119 x y m K') ⟨trivial, ⟨trivial, ⟨trivial, ⟨trivial, trivial⟩⟩⟩, trivial, ?_⟩
      · have e : IntKind.i64.wrap (0 - m) = -m := by rw [IntWalk.i64_in _ (by omega)]; omega
        simp only [e]
        repeat' first
          | (refine bcase_i (fun h => ?_) (fun h => ?_))
          | (refine And.intro (by first | omega | (simp only [true_and, and_true]; done) | (simp only [true_and, and_true]; omega)) ?_)
          | (intro z ez)
        all_goals
          refine lfb hk ?_
          clear hk
          rw [Bool.eq_iff_iff]
          simp only [cond_true, cond_false, Bool.not_eq_true, Bool.not_eq_false, Bool.not_eq_true', Bool.not_eq_false', Bool.or_eq_true, Bool.and_eq_true, beq_iff_eq, bne_iff_ne, decide_eq_true_eq, decide_eq_false_iff_not, decide_true, decide_false, ne_eq, true_iff, false_iff, iff_true, iff_false, reduceCtorEq] at *
          omega
    · cases hg
  · exact hk.elim
def T20b : Tab := T20.add 119 (liftA (ofD g119))
theorem T20b_ok : TabOk Tryz.prog T20b := T20_ok.add (entry_of_fresh r119)
/-- glide.Check -/
def g75 : GSpec := fun args obs => match args, obs with
  | [.agg [.int .i64 ax, .int .i64 ay, .int .i64 sx, .int .i64 sy, .int .i64 sp]], [] => some (True, .ret (i64 (if MovOk ax ay sx sy sp then 0 else 2)), [])
  | _, _ => none
theorem k75 (ax ay sx sy sp : Int) (K' : Out → List Ob → Prop) : runFn (T20b) (noD) noIv a75 [.agg [.int .i64 ax, .int .i64 ay, .int .i64 sx, .int .i64 sy, .int .i64 sp]] (lookO []) 0 (closeK K') =
    ((True) ∧
    ((True ∧ True ∧ True) ∧ True ∧ True) ∧
    ((0 : Int) ≤ (6553600000 : Int) ∧ (6553600000 : Int) ≤ (9223372036854775807 : Int)) ∧
    bcase (!decide (((-6553600000 : Int) ≤ ax ∧ ax ≤ (6553600000 : Int)) ∧ (-6553600000 : Int) ≤ ay ∧ ay ≤ (6553600000 : Int)))
     (K' (Out.ret (V.int IntKind.i64 (2 : Int))) [])
     (((True ∧ True ∧ True) ∧ True ∧ True) ∧
     ((0 : Int) ≤ (65536000 : Int) ∧ (65536000 : Int) ≤ (9223372036854775807 : Int)) ∧
     bcase (bif false then true
  else !decide (((-65536000 : Int) ≤ sx ∧ sx ≤ (65536000 : Int)) ∧ (-65536000 : Int) ≤ sy ∧ sy ≤ (65536000 : Int)))
      (K' (Out.ret (V.int IntKind.i64 (2 : Int))) [])
      ((True ∧ True ∧ True ∧ True) ∧
      (True) ∧
      bcase (bif false then true else !decide ((-1000 : Int) ≤ sp ∧ sp ≤ (1000 : Int)))
       (K' (Out.ret (V.int IntKind.i64 (2 : Int))) [])
       (K' (Out.ret (V.int IntKind.i64 (0 : Int))) [])))) := by kernel_rfl
theorem r75 : FreshOk Tryz.prog 75 (ofD g75) := by
  refine fresh_of_run T20b_ok (noD_ok _) (fun _ _ => noIv) Tryz.func75 c75 fun args obs K' hk => ?_
  unfold ofD g75 at hk
  split at hk
  · rename_i d_ out news hg
    split at hg
    · rename_i ax ay sx sy sp
      cases hg
      obtain ⟨hc, hk⟩ := hk
      refine Eq.mpr (k75 ax ay sx sy sp K') ⟨trivial, ⟨⟨trivial, ⟨trivial, trivial⟩⟩, ⟨trivial, trivial⟩⟩, ?_, ?_⟩
      · first | omega | (simp only [true_and, and_true]; omega) | exact in_fix (by simp) (by simp; omega)
      · repeat' first
          | (refine bcase_i (fun h => ?_) (fun h => ?_))
          | (refine And.intro (by first | omega | (simp only [true_and, and_true]; done) | (simp only [true_and, and_true]; omega)) ?_)
          | (intro z ez)
        all_goals
          refine lfi hk ?_
          clear hk
          simp only [cond_true, cond_false, Bool.not_eq_true, Bool.not_eq_false, Bool.not_eq_true', Bool.not_eq_false', Bool.or_eq_true, Bool.and_eq_true, beq_iff_eq, bne_iff_ne, decide_eq_true_eq, decide_eq_false_iff_not, decide_true, decide_false, ne_eq, true_iff, false_iff, iff_true, iff_false, reduceCtorEq] at *
          first
            | rw [if_pos (by omega)]
            | rw [if_neg (by omega)]
    · cases hg
  · exact hk.elim
def T20c_0 : Tab := T20b.add 75 (absT .all (liftA (ofD g75)))
def T20c : Tab := T20c_0.add 50 (liftA (ofD g50))
theorem T20c_0_ok : TabOk Tryz.prog T20c_0 := T20b_ok.add (absT_ok .all (entry_of_fresh r75))
theorem T20c_ok : TabOk Tryz.prog T20c := T20c_0_ok.add (entry_of_fresh r50)
/-- contact.body.valid -/
def g44 : GSpec := fun args obs => match args, obs with
  | [.agg [.int .i64 tm, .int .i64 n, .int .i64 ax, .int .i64 ay, .int .i64 sx, .int .i64 sy, .int .i64 sp, .bool o]], [] => some (True, .ret (.bool (decide (BodyOk tm n ax ay sx sy sp))), [])
  | _, _ => none
theorem k44 (tm n ax ay sx sy sp : Int) (o : Bool) (K' : Out → List Ob → Prop) : runFn (T20c) (noD) noIv a44 [.agg [.int .i64 tm, .int .i64 n, .int .i64 ax, .int .i64 ay, .int .i64 sx, .int .i64 sy, .int .i64 sp, .bool o]] (lookO []) 0 (closeK K') =
    ((True) ∧
    (True ∧ True ∧ True ∧ True) ∧
    (True) ∧
    bcase (decide ((0 : Int) ≤ tm ∧ tm ≤ (1 : Int)))
     ((True ∧ True ∧ True ∧ True) ∧
     (True) ∧
     bcase (bif true then decide ((0 : Int) ≤ n ∧ n ≤ (7 : Int)) else false)
      (((True ∧ True ∧ True ∧ True ∧ True ∧ True) ∧ True) ∧
      (True) ∧
      (∀ (z0 : Int),
      ((z0 = if MovOk ax ay sx sy sp then (0 : Int) else (2 : Int)) →
      K' (Out.ret (V.bool (bif true then z0 == (0 : Int) else false))) [])))
      (K' (Out.ret (V.bool false)) []))
     (K' (Out.ret (V.bool false)) [])) := by kernel_rfl
theorem r44 : FreshOk Tryz.prog 44 (ofD g44) := by
  refine fresh_of_run T20c_ok (noD_ok _) (fun _ _ => noIv) Tryz.func44 c44 fun args obs K' hk => ?_
  unfold ofD g44 at hk
  split at hk
  · rename_i d_ out news hg
    split at hg
    · rename_i tm n ax ay sx sy sp o
      cases hg
      obtain ⟨hc, hk⟩ := hk
      refine Eq.mpr (k44 tm n ax ay sx sy sp o K') ⟨trivial, ⟨trivial, ⟨trivial, ⟨trivial, trivial⟩⟩⟩, trivial, ?_⟩
      · repeat' first
          | (refine bcase_i (fun h => ?_) (fun h => ?_))
          | (refine And.intro (by first | omega | (simp only [true_and, and_true]; done) | (simp only [true_and, and_true]; omega)) ?_)
          | (intro z ez)
        all_goals
          refine lfb hk ?_
          clear hk
          rw [Bool.eq_iff_iff]
          simp only [cond_true, cond_false, Bool.not_eq_true, Bool.not_eq_false, Bool.not_eq_true', Bool.not_eq_false', Bool.or_eq_true, Bool.and_eq_true, beq_iff_eq, bne_iff_ne, decide_eq_true_eq, decide_eq_false_iff_not, decide_true, decide_false, ne_eq, true_iff, false_iff, iff_true, iff_false, reduceCtorEq] at *
          first
            | omega
            | (split at ez <;> omega)
    · cases hg
  · exact hk.elim
/-- contact.body.rests -/
def g62 : GSpec := fun args obs => match args, obs with
  | [.agg [.int .i64 tm, .int .i64 n, .int .i64 ax, .int .i64 ay, .int .i64 sx, .int .i64 sy, .int .i64 sp, .bool o]], [] => some (True, .ret (.bool (decide (sx = 0 ∧ sy = 0))), [])
  | _, _ => none
theorem k62 (tm n ax ay sx sy sp : Int) (o : Bool) (K' : Out → List Ob → Prop) : runFn (T20c) (noD) noIv a62 [.agg [.int .i64 tm, .int .i64 n, .int .i64 ax, .int .i64 ay, .int .i64 sx, .int .i64 sy, .int .i64 sp, .bool o]] (lookO []) 0 (closeK K') =
    ((True) ∧
    K'
  (Out.ret
    (V.bool
      (match false with
      | true => !(sx == (0 : Int) && (sy == (0 : Int) && true))
      | false => sx == (0 : Int) && (sy == (0 : Int) && true))))
  []) := by kernel_rfl
theorem r62 : FreshOk Tryz.prog 62 (ofD g62) := by
  refine fresh_of_run T20c_ok (noD_ok _) (fun _ _ => noIv) Tryz.func62 c62 fun args obs K' hk => ?_
  unfold ofD g62 at hk
  split at hk
  · rename_i d_ out news hg
    split at hg
    · rename_i tm n ax ay sx sy sp o
      cases hg
      obtain ⟨hc, hk⟩ := hk
      refine Eq.mpr (k62 tm n ax ay sx sy sp o K') ⟨trivial, ?_⟩
      · refine lfb hk ?_
        rw [Bool.eq_iff_iff]
        simp
    · cases hg
  · exact hk.elim
/-- contact.body.gone -/
def g48 : GSpec := fun args obs => match args, obs with
  | [.agg [.int .i64 tm, .int .i64 n, .int .i64 ax, .int .i64 ay, .int .i64 sx, .int .i64 sy, .int .i64 sp, .bool o]], [] => some (-6553600000 ≤ ax ∧ ax ≤ 6553600000, .ret (.bool (decide ((146145280 ≤ ax ∨ ax ≤ -146145280) ∨ 129368064 < ay ∨ ay < -1977417728))), [])
  | _, _ => none
theorem k48 (tm n ax ay sx sy sp : Int) (o : Bool) (K' : Out → List Ob → Prop) : runFn (T20c) (noD) noIv a48 [.agg [.int .i64 tm, .int .i64 n, .int .i64 ax, .int .i64 ay, .int .i64 sx, .int .i64 sy, .int .i64 sp, .bool o]] (lookO []) 0 (closeK K') =
    ((True) ∧
    bcase (decide
  ((match false with
    | true => if IntKind.i64.wrap ((0 : Int) - ax) < ax then IntKind.i64.wrap ((0 : Int) - ax) else ax
    | false => if IntKind.i64.wrap ((0 : Int) - ax) > ax then IntKind.i64.wrap ((0 : Int) - ax) else ax) ≥
    (146145280 : Int)))
     (K' (Out.ret (V.bool true)) [])
     (bcase (bif false then true else decide (ay > (129368064 : Int)))
      (K' (Out.ret (V.bool true)) [])
      (K' (Out.ret (V.bool (bif false then true else decide (ay < (-1977417728 : Int))))) []))) := by kernel_rfl
theorem r48 : FreshOk Tryz.prog 48 (ofD g48) := by
  refine fresh_of_run T20c_ok (noD_ok _) (fun _ _ => noIv) Tryz.func48 c48 fun args obs K' hk => ?_
  unfold ofD g48 at hk
  split at hk
  · rename_i d_ out news hg
    split at hg
    · rename_i tm n ax ay sx sy sp o
      cases hg
      obtain ⟨hc, hk⟩ := hk
      refine Eq.mpr (k48 tm n ax ay sx sy sp o K') ⟨trivial, ?_⟩
      · dsimp only
        have e : IntKind.i64.wrap (0 - ax) = -ax := by rw [IntWalk.i64_in _ (by omega)]; omega
        simp only [e]
        rw [show (if -ax > ax then -ax else ax) = (ax.natAbs : Int) by split <;> omega]
        repeat' first
          | (refine bcase_i (fun h => ?_) (fun h => ?_))
          | (refine And.intro (by first | omega | (simp only [true_and, and_true]; done) | (simp only [true_and, and_true]; omega)) ?_)
          | (intro z ez)
        all_goals
          refine lfb hk ?_
          clear hk
          rw [Bool.eq_iff_iff]
          simp only [cond_true, cond_false, Bool.not_eq_true, Bool.not_eq_false, Bool.not_eq_true', Bool.not_eq_false', Bool.or_eq_true, Bool.and_eq_true, beq_iff_eq, bne_iff_ne, decide_eq_true_eq, decide_eq_false_iff_not, decide_true, decide_false, ne_eq, true_iff, false_iff, iff_true, iff_false, reduceCtorEq] at *
          omega
    · cases hg
  · exact hk.elim
def T20d_0 : Tab := T20c.add 44 (liftA (ofD g44))
def T20d_1 : Tab := T20d_0.add 62 (liftA (ofD g62))
def T20d : Tab := T20d_1.add 48 (liftA (ofD g48))
theorem T20d_0_ok : TabOk Tryz.prog T20d_0 := T20c_ok.add (entry_of_fresh r44)
theorem T20d_1_ok : TabOk Tryz.prog T20d_1 := T20d_0_ok.add (entry_of_fresh r62)
theorem T20d_ok : TabOk Tryz.prog T20d := T20d_1_ok.add (entry_of_fresh r48)

end Go.Proofs.YtbolfnkgbjkbjaaGreat.AM
end
section
set_option linter.unusedVariables false
set_option linter.unusedSimpArgs false
namespace Go.Proofs.YtbolfnkgbjkbjaaGreat.AM
open Go Go.RowKit
set_option maxRecDepth 100000

abbrev TouchP (ax ay bx by' : Int) (o1 o2 : Bool) : Prop := (o1 = false ∧ o2 = false) ∧ (bx - ax) * (bx - ax) + (by' - ay) * (by' - ay) ≤ 361206749593600 ∧ (bx - ax ≠ 0 ∨ by' - ay ≠ 0)

def T21_0 : Tab := T20d.add 76 (absT (.l [.all, .no]) (liftA (ofD g76)))
def T21 : Tab := T21_0.add 77 (absT (.l [.all, .no]) (liftA (ofD g77)))
theorem T21_0_ok : TabOk Tryz.prog T21_0 := T20d_ok.add (absT_ok (.l [.all, .no]) (entry_of_fresh r76))
theorem T21_ok : TabOk Tryz.prog T21 := T21_0_ok.add (absT_ok (.l [.all, .no]) (entry_of_fresh r77))
/-- contact.body.touches -/
def g45 : GSpec := fun args obs => match args, obs with
  | [.agg [.int .i64 t1, .int .i64 n1, .int .i64 ax, .int .i64 ay, .int .i64 sx, .int .i64 sy, .int .i64 sp, .bool o1], .agg [.int .i64 t2, .int .i64 n2, .int .i64 bx, .int .i64 cy, .int .i64 ux, .int .i64 uy, .int .i64 up, .bool o2]], [] => some (((-6553600000 ≤ ax ∧ ax ≤ 6553600000) ∧ -6553600000 ≤ ay ∧ ay ≤ 6553600000) ∧ (-6553600000 ≤ bx ∧ bx ≤ 6553600000) ∧ -6553600000 ≤ cy ∧ cy ≤ 6553600000, .ret (.bool (decide (TouchP ax ay bx cy o1 o2))), [])
  | _, _ => none
theorem k45 (t1 n1 ax ay sx sy sp : Int) (o1 : Bool) (t2 n2 bx cy ux uy up : Int) (o2 : Bool) (K' : Out → List Ob → Prop) : runFn (T21) (noD) noIv a45 [.agg [.int .i64 t1, .int .i64 n1, .int .i64 ax, .int .i64 ay, .int .i64 sx, .int .i64 sy, .int .i64 sp, .bool o1], .agg [.int .i64 t2, .int .i64 n2, .int .i64 bx, .int .i64 cy, .int .i64 ux, .int .i64 uy, .int .i64 up, .bool o2]] (lookO []) 0 (closeK K') =
    ((True) ∧
    (True) ∧
    ((True ∧ True ∧ True) ∧ (True ∧ True ∧ True) ∧ True) ∧
    ((fixOk bx ∧ fixOk cy ∧ fixOk ax ∧ fixOk ay) ∧ fixOk (bx - ax) ∧ fixOk (cy - ay)) ∧
    (∀ (z0 : Int),
    ((z0 = bx - ax) →
    (∀ (z2 : Int),
    ((z2 = cy - ay) →
    (True) ∧
    (True) ∧
    ((True ∧ True ∧ True) ∧ True ∧ True) ∧
    ((fixOk z0 ∧ fixOk z2 ∧ fixOk (19005440 : Int)) ∧ (0 : Int) ≤ (19005440 : Int)) ∧
    (∀ (z4 : Bool),
    ((z4 = decide (z0 * z0 + z2 * z2 ≤ (19005440 : Int) * (19005440 : Int))) →
    bcase (!o1)
     (bcase (bif true then !o2 else false)
      (bcase (bif true then z4 else false)
       (K'
  (Out.ret
    (V.bool
      (bif true then
        match true with
        | true => !(z0 == (0 : Int) && (z2 == (0 : Int) && true))
        | false => z0 == (0 : Int) && (z2 == (0 : Int) && true)
      else false)))
  [])
       (K' (Out.ret (V.bool false)) []))
      (K' (Out.ret (V.bool false)) []))
     (K' (Out.ret (V.bool false)) [])))))))) := by kernel_rfl
theorem r45 : FreshOk Tryz.prog 45 (ofD g45) := by
  refine fresh_of_run T21_ok (noD_ok _) (fun _ _ => noIv) Tryz.func45 c45 fun args obs K' hk => ?_
  unfold ofD g45 at hk
  split at hk
  · rename_i d_ out news hg
    split at hg
    · rename_i t1 n1 ax ay sx sy sp o1 t2 n2 bx cy ux uy up o2
      cases hg
      obtain ⟨hc, hk⟩ := hk
      refine Eq.mpr (k45 t1 n1 ax ay sx sy sp o1 t2 n2 bx cy ux uy up o2 K') ⟨trivial, trivial, ⟨⟨trivial, ⟨trivial, trivial⟩⟩, ⟨⟨trivial, ⟨trivial, trivial⟩⟩, trivial⟩⟩, ?_, ?_⟩
      · first | omega | (simp only [true_and, and_true]; omega) | exact in_fix (by simp) (by simp; omega)
      · intro z0 e0 z2 e2
        repeat refine And.intro True.intro ?_
        refine And.intro (by first | omega | (simp only [true_and, and_true]; done) | (simp only [true_and, and_true]; omega)) (And.intro ?_ ?_)
        · subst e0 e2
          omega
        intro z4 e4
        subst e0 e2
        have e5 : z4 = decide ((bx - ax) * (bx - ax) + (cy - ay) * (cy - ay) ≤ 361206749593600) := e4
        clear e4
        dsimp only
        cases o1 <;> cases o2
        · refine bcase_t rfl (bcase_t rfl ?_)
          refine bcase_i (fun h => ?_) (fun h => ?_)
          · have h : z4 = true := h
            rw [e5, decide_eq_true_eq] at h
            refine lfb hk ?_
            clear hk
            rw [Bool.eq_iff_iff]
            simp [h]
          · have h : z4 = false := h
            rw [e5, decide_eq_false_iff_not] at h
            refine lfb hk ?_
            clear hk
            rw [Bool.eq_iff_iff]
            simp only [cond_true, cond_false, Bool.not_eq_true, Bool.not_eq_false, Bool.not_eq_true', Bool.not_eq_false', Bool.or_eq_true, Bool.and_eq_true, beq_iff_eq, bne_iff_ne, decide_eq_true_eq, decide_eq_false_iff_not, decide_true, decide_false, ne_eq, true_iff, false_iff, iff_true, iff_false, reduceCtorEq] at *
            omega
        · exact bcase_t rfl (bcase_f rfl (lfb hk (by simp)))
        · exact bcase_f rfl (lfb hk (by simp))
        · exact bcase_f rfl (lfb hk (by simp))
    · cases hg
  · exact hk.elim
/-- contact.must[Spot] -/
def g81 : GSpec := fun args obs => match args, obs with
  | [.agg [.int .i64 x, .int .i64 y], .int .i64 e], [] => some (e = 0, .ret (.agg [i64 x, i64 y]), [])
  | _, _ => none
theorem k81 (x y e : Int) (K' : Out → List Ob → Prop) : runFn (T21) (noD) noIv a81 [.agg [.int .i64 x, .int .i64 y], .int .i64 e] (lookO []) 0 (closeK K') =
    ((True) ∧
    (True) ∧
    bcase (e != (0 : Int))
     ((V.lt (0 : Nat) (V.ifc (134 : Nat) (V.agg [V.int IntKind.i64 e])) = true) ∧
     K' (Out.pan (V.ifc (nat_lit 134) (V.agg [V.int IntKind.i64 e]))) [])
     ((True) ∧
     K' (Out.ret (V.agg [V.int IntKind.i64 x, V.int IntKind.i64 y])) [])) := by kernel_rfl
theorem r81 : FreshOk Tryz.prog 81 (ofD g81) := by
  refine fresh_of_run T21_ok (noD_ok _) (fun _ _ => noIv) Tryz.func81 c81 fun args obs K' hk => ?_
  unfold ofD g81 at hk
  split at hk
  · rename_i d_ out news hg
    split at hg
    · rename_i x y e
      cases hg
      obtain ⟨hc, hk⟩ := hk
      refine Eq.mpr (k81 x y e K') ⟨trivial, trivial, ?_⟩
      · subst hc
        exact bcase_f (by decide) ⟨trivial, hk⟩
    · cases hg
  · exact hk.elim
/-- contact.must[Fix] -/
def g83 : GSpec := fun args obs => match args, obs with
  | [.int .i64 x, .int .i64 e], [] => some (e = 0, .ret (i64 x), [])
  | _, _ => none
theorem k83 (x e : Int) (K' : Out → List Ob → Prop) : runFn (T21) (noD) noIv a83 [.int .i64 x, .int .i64 e] (lookO []) 0 (closeK K') =
    (bcase (e != (0 : Int))
     ((V.lt (0 : Nat) (V.ifc (134 : Nat) (V.agg [V.int IntKind.i64 e])) = true) ∧
     K' (Out.pan (V.ifc (nat_lit 134) (V.agg [V.int IntKind.i64 e]))) [])
     (K' (Out.ret (V.int IntKind.i64 x)) [])) := by kernel_rfl
theorem r83 : FreshOk Tryz.prog 83 (ofD g83) := by
  refine fresh_of_run T21_ok (noD_ok _) (fun _ _ => noIv) Tryz.func83 c83 fun args obs K' hk => ?_
  unfold ofD g83 at hk
  split at hk
  · rename_i d_ out news hg
    split at hg
    · rename_i x e
      cases hg
      obtain ⟨hc, hk⟩ := hk
      refine Eq.mpr (k83 x e K') ?_
      · subst hc
        exact bcase_f (by decide) hk
    · cases hg
  · exact hk.elim

end Go.Proofs.YtbolfnkgbjkbjaaGreat.AM
end
section
set_option linter.unusedVariables false
set_option linter.unusedSimpArgs false
namespace Go.Proofs.YtbolfnkgbjkbjaaGreat.AM
open Go Go.RowKit
set_option maxRecDepth 100000

/-- A body: team, number, place, speed, spin, out. -/
abbrev Bd := Int × Int × Int × Int × Int × Int × Int × Bool
abbrev bdOk (b : Bd) : Prop := BodyOk b.1 b.2.1 b.2.2.1 b.2.2.2.1 b.2.2.2.2.1 b.2.2.2.2.2.1 b.2.2.2.2.2.2.1
abbrev bdv (b : Bd) : V := .agg [i64 b.1, i64 b.2.1, i64 b.2.2.1, i64 b.2.2.2.1, i64 b.2.2.2.2.1, i64 b.2.2.2.2.2.1, i64 b.2.2.2.2.2.2.1, .bool b.2.2.2.2.2.2.2]
abbrev bdTouch (a b : Bd) : Prop := TouchP a.2.2.1 a.2.2.2.1 b.2.2.1 b.2.2.2.1 a.2.2.2.2.2.2.2 b.2.2.2.2.2.2.2
/-- The unit vector of a difference. -/
def unitX (dx dy : Int) : Int := shareS dx (dx * dx + dy * dy)
def unitY (dx dy : Int) : Int := shareS dy (dx * dx + dy * dy)
/-- How fast two bodies come together; what they exchange. -/
def closeJ (dx dy rx ry : Int) : Int := (rx * unitX dx dy + ry * unitY dx dy) / 65536
def pushI (j el : Int) : Int := (j * (1000 + el)).tdiv 2000
def pushX (dx dy rx ry el : Int) : Int := (unitX dx dy * pushI (closeJ dx dy rx ry) el).tdiv 65536
def pushY (dx dy rx ry el : Int) : Int := (unitY dx dy * pushI (closeJ dx dy rx ry) el).tdiv 65536
def bdPush (b : Bd) (x y : Int) : Bd := (b.1, b.2.1, b.2.2.1, b.2.2.2.1, b.2.2.2.2.1 + x, b.2.2.2.2.2.1 + y, b.2.2.2.2.2.2.1, b.2.2.2.2.2.2.2)
/-- Two valid bodies that touch, after a contact; none: out of range. -/
def meetB (a b : Bd) (el : Int) : Option (Bd × Bd × Bool) :=
  if closeJ (b.2.2.1 - a.2.2.1) (b.2.2.2.1 - a.2.2.2.1) (a.2.2.2.2.1 - b.2.2.2.2.1) (a.2.2.2.2.2.1 - b.2.2.2.2.2.1) ≤ 0 then some (a, b, false)
  else if ¬ bdOk (bdPush a (-(pushX (b.2.2.1 - a.2.2.1) (b.2.2.2.1 - a.2.2.2.1) (a.2.2.2.2.1 - b.2.2.2.2.1) (a.2.2.2.2.2.1 - b.2.2.2.2.2.1) el)) (-(pushY (b.2.2.1 - a.2.2.1) (b.2.2.2.1 - a.2.2.2.1) (a.2.2.2.2.1 - b.2.2.2.2.1) (a.2.2.2.2.2.1 - b.2.2.2.2.2.1) el))) then none
  else if ¬ bdOk (bdPush b (pushX (b.2.2.1 - a.2.2.1) (b.2.2.2.1 - a.2.2.2.1) (a.2.2.2.2.1 - b.2.2.2.2.1) (a.2.2.2.2.2.1 - b.2.2.2.2.2.1) el) (pushY (b.2.2.1 - a.2.2.1) (b.2.2.2.1 - a.2.2.2.1) (a.2.2.2.2.1 - b.2.2.2.2.1) (a.2.2.2.2.2.1 - b.2.2.2.2.2.1) el)) then none
  else some (bdPush a (-(pushX (b.2.2.1 - a.2.2.1) (b.2.2.2.1 - a.2.2.2.1) (a.2.2.2.2.1 - b.2.2.2.2.1) (a.2.2.2.2.2.1 - b.2.2.2.2.2.1) el)) (-(pushY (b.2.2.1 - a.2.2.1) (b.2.2.2.1 - a.2.2.2.1) (a.2.2.2.2.1 - b.2.2.2.2.1) (a.2.2.2.2.2.1 - b.2.2.2.2.2.1) el)),
    bdPush b (pushX (b.2.2.1 - a.2.2.1) (b.2.2.2.1 - a.2.2.2.1) (a.2.2.2.2.1 - b.2.2.2.2.1) (a.2.2.2.2.2.1 - b.2.2.2.2.2.1) el) (pushY (b.2.2.1 - a.2.2.1) (b.2.2.2.1 - a.2.2.2.1) (a.2.2.2.2.1 - b.2.2.2.2.1) (a.2.2.2.2.2.1 - b.2.2.2.2.2.1) el), true)
def bdZero : Bd := (0, 0, 0, 0, 0, 0, 0, false)
/-- contact.Meet: two bodies, whether they met, the error. -/
def meetT (a b : Bd) (el : Int) : Bd × Bd × Bool × Int :=
  if ¬ bdOk a then (bdZero, bdZero, false, 2) else if ¬ bdOk b then (bdZero, bdZero, false, 2) else if ¬ (0 ≤ el ∧ el ≤ 1000) then (bdZero, bdZero, false, 2)
  else if bdTouch a b then match meetB a b el with
    | some (x, y, m) => (x, y, m, 0)
    | none => (bdZero, bdZero, false, 4)
  else (a, b, false, 0)
theorem meetB_eq (a b : Bd) (el j px py : Int) (hj : closeJ (b.2.2.1 - a.2.2.1) (b.2.2.2.1 - a.2.2.2.1) (a.2.2.2.2.1 - b.2.2.2.2.1) (a.2.2.2.2.2.1 - b.2.2.2.2.2.1) = j)
    (hx : pushX (b.2.2.1 - a.2.2.1) (b.2.2.2.1 - a.2.2.2.1) (a.2.2.2.2.1 - b.2.2.2.2.1) (a.2.2.2.2.2.1 - b.2.2.2.2.2.1) el = px) (hy : pushY (b.2.2.1 - a.2.2.1) (b.2.2.2.1 - a.2.2.2.1) (a.2.2.2.2.1 - b.2.2.2.2.1) (a.2.2.2.2.2.1 - b.2.2.2.2.2.1) el = py) :
    meetB a b el = if j ≤ 0 then some (a, b, false) else if ¬ bdOk (bdPush a (-px) (-py)) then none else if ¬ bdOk (bdPush b px py) then none else some (bdPush a (-px) (-py), bdPush b px py, true) := by
  subst hj hx hy
  rfl
theorem meetT_a (a b : Bd) (el : Int) (h : ¬ bdOk a) : meetT a b el = (bdZero, bdZero, false, 2) := by unfold meetT; rw [if_pos h]
theorem meetT_b (a b : Bd) (el : Int) (h : ¬ bdOk b) : meetT a b el = (bdZero, bdZero, false, 2) := by
  by_cases ha : bdOk a
  · unfold meetT
    rw [if_neg (fun hh => hh ha), if_pos h]
  · exact meetT_a a b el ha
theorem meetT_l (a b : Bd) (el : Int) (h : ¬ (0 ≤ el ∧ el ≤ 1000)) : meetT a b el = (bdZero, bdZero, false, 2) := by
  by_cases ha : bdOk a
  · by_cases hb : bdOk b
    · unfold meetT
      rw [if_neg (fun hh => hh ha), if_neg (fun hh => hh hb), if_pos h]
    · exact meetT_b a b el hb
  · exact meetT_a a b el ha
theorem meetT_far (a b : Bd) (el : Int) (ha : bdOk a) (hb : bdOk b) (hl : 0 ≤ el ∧ el ≤ 1000) (h : ¬ bdTouch a b) : meetT a b el = (a, b, false, 0) := by
  unfold meetT
  rw [if_neg (fun hh => hh ha), if_neg (fun hh => hh hb), if_neg (fun hh => hh hl), if_neg h]
theorem meetT_near (a b : Bd) (el : Int) (ha : bdOk a) (hb : bdOk b) (hl : 0 ≤ el ∧ el ≤ 1000) (h : bdTouch a b) : meetT a b el = match meetB a b el with
    | some (x, y, m) => (x, y, m, 0)
    | none => (bdZero, bdZero, false, 4) := by
  unfold meetT
  rw [if_neg (fun hh => hh ha), if_neg (fun hh => hh hb), if_neg (fun hh => hh hl), if_pos h]
theorem shareS_le (x s : Int) : -65536 ≤ shareS x s ∧ shareS x s ≤ 65536 := by
  have h := shGo_le x.natAbs s 17 0 (Nat.zero_le _)
  unfold shareS
  split <;> omega
theorem mul_bnd (a b A B : Int) (ha : -A ≤ a ∧ a ≤ A) (hb : -B ≤ b ∧ b ≤ B) : 0 ≤ (a.natAbs : Int) * (b.natAbs : Int) ∧ (a.natAbs : Int) * (b.natAbs : Int) ≤ A * B := by
  have h1 : (a.natAbs : Int) ≤ A := by omega
  have h2 : (b.natAbs : Int) ≤ B := by omega
  exact ⟨Int.mul_nonneg (by omega) (by omega), Int.mul_le_mul h1 h2 (by omega) (by omega)⟩
theorem mul_bnd2 (a b A B : Int) (ha : -A ≤ a ∧ a ≤ A) (hb : -B ≤ b ∧ b ≤ B) : -(A * B) ≤ a * b ∧ a * b ≤ A * B := by
  have h := (mul_bnd a b A B ha hb).2
  have e : ((a * b).natAbs : Int) = (a.natAbs : Int) * (b.natAbs : Int) := by rw [Int.natAbs_mul]; exact Int.natCast_mul _ _
  rw [← e] at h
  omega
theorem tdiv_bnd (n d B : Int) (hd : 0 < d) (h : -(B * d) ≤ n ∧ n ≤ B * d) : -B ≤ n.tdiv d ∧ n.tdiv d ≤ B := by
  rcases Int.le_total 0 n with h0 | h0
  · rw [Int.tdiv_eq_ediv_of_nonneg h0]
    have h1 : n / d ≤ B := Int.ediv_le_of_le_mul hd h.2
    have h2 : 0 ≤ n / d := Int.ediv_nonneg h0 (by omega)
    omega
  · have e : n.tdiv d = -((-n) / d) := by
      rw [← Int.tdiv_eq_ediv_of_nonneg (show 0 ≤ -n by omega), Int.neg_tdiv, Int.neg_neg]
    rw [e]
    have h1 : (-n) / d ≤ B := Int.ediv_le_of_le_mul hd (by omega)
    have h2 : 0 ≤ (-n) / d := Int.ediv_nonneg (by omega) (by omega)
    omega
/-- What keeps a contact within the numbers. -/
theorem meet_facts (ux uy rx ry el : Int) (hux : -65536 ≤ ux ∧ ux ≤ 65536) (huy : -65536 ≤ uy ∧ uy ≤ 65536) (hrx : -131072000 ≤ rx ∧ rx ≤ 131072000) (hry : -131072000 ≤ ry ∧ ry ≤ 131072000) (hel : 0 ≤ el ∧ el ≤ 1000) :
    (0 ≤ ((rx.natAbs : Int) * (ux.natAbs : Int) + (ry.natAbs : Int) * (uy.natAbs : Int)) ∧ ((rx.natAbs : Int) * (ux.natAbs : Int) + (ry.natAbs : Int) * (uy.natAbs : Int)) ≤ 17179869184000) ∧
    ∀ j, j = (rx * ux + ry * uy) / 65536 → (-262144000 ≤ j ∧ j ≤ 262144000) ∧ (0 ≤ (j.natAbs : Int) * ((1000 + el).natAbs : Int) ∧ (j.natAbs : Int) * ((1000 + el).natAbs : Int) ≤ 524288000000) ∧
    ∀ i, i = (j * (1000 + el)).tdiv 2000 → (-262144000 ≤ i ∧ i ≤ 262144000) ∧ (0 ≤ (ux.natAbs : Int) * (i.natAbs : Int) ∧ (ux.natAbs : Int) * (i.natAbs : Int) ≤ 17179869184000) ∧ (0 ≤ (uy.natAbs : Int) * (i.natAbs : Int) ∧ (uy.natAbs : Int) * (i.natAbs : Int) ≤ 17179869184000) ∧
      (-262144000 ≤ (ux * i).tdiv 65536 ∧ (ux * i).tdiv 65536 ≤ 262144000) ∧ (-262144000 ≤ (uy * i).tdiv 65536 ∧ (uy * i).tdiv 65536 ≤ 262144000) := by
  have a1 := mul_bnd rx ux 131072000 65536 hrx hux
  have a2 := mul_bnd ry uy 131072000 65536 hry huy
  have b1 := mul_bnd2 rx ux 131072000 65536 hrx hux
  have b2 := mul_bnd2 ry uy 131072000 65536 hry huy
  refine ⟨by omega, ?_⟩
  intro j hj
  have hj1 : -262144000 ≤ j ∧ j ≤ 262144000 := by omega
  have c1 := mul_bnd j (1000 + el) 262144000 2000 hj1 (by omega)
  have c2 := mul_bnd2 j (1000 + el) 262144000 2000 hj1 (by omega)
  refine ⟨hj1, by omega, ?_⟩
  intro i hi
  have hi1 : -262144000 ≤ i ∧ i ≤ 262144000 := by rw [hi]; exact tdiv_bnd _ 2000 _ (by decide) (by omega)
  have d1 := mul_bnd ux i 65536 262144000 hux hi1
  have d2 := mul_bnd uy i 65536 262144000 huy hi1
  have e1 := mul_bnd2 ux i 65536 262144000 hux hi1
  have e2 := mul_bnd2 uy i 65536 262144000 huy hi1
  exact ⟨hi1, by omega, by omega, tdiv_bnd _ 65536 _ (by decide) (by omega), tdiv_bnd _ 65536 _ (by decide) (by omega)⟩
theorem sum_sq_pos (x y : Int) (h : x ≠ 0 ∨ y ≠ 0) : 0 < x * x + y * y := by
  have hx : 0 ≤ x * x := by
    rcases Int.le_total 0 x with h | h
    · exact Int.mul_nonneg h h
    · rw [← Int.neg_mul_neg]; exact Int.mul_nonneg (by omega) (by omega)
  have hy : 0 ≤ y * y := by
    rcases Int.le_total 0 y with h | h
    · exact Int.mul_nonneg h h
    · rw [← Int.neg_mul_neg]; exact Int.mul_nonneg (by omega) (by omega)
  have hx2 : x * x = 0 → x = 0 := fun e => by rcases Int.mul_eq_zero.1 e with e | e <;> exact e
  have hy2 : y * y = 0 → y = 0 := fun e => by rcases Int.mul_eq_zero.1 e with e | e <;> exact e
  by_cases e : x * x = 0
  · by_cases e2 : y * y = 0
    · have := hx2 e; have := hy2 e2; omega
    · omega
  · omega

def T22a_0 : Tab := T21.add 45 (absT .all (liftA (ofD g45)))
def T22a_1 : Tab := T22a_0.add 81 (runFn T22a_0 noD noIv a81)
def T22a_2 : Tab := T22a_1.add 83 (runFn T22a_1 noD noIv a83)
def T22a_3 : Tab := T22a_2.add 84 (absT (.l [.all, .no]) (liftA (ofD g84)))
def T22a_4 : Tab := T22a_3.add 57 (absT (.l [.all, .no]) (liftA (ofD g57)))
def T22a_5 : Tab := T22a_4.add 82 (absT (.l [.all, .no]) (liftA (ofD g82)))
def T22a : Tab := T22a_5.add 85 (absT (.l [.all, .no]) (liftA (ofD g85)))
theorem T22a_0_ok : TabOk Tryz.prog T22a_0 := T21_ok.add (absT_ok .all (entry_of_fresh r45))
theorem T22a_1_ok : TabOk Tryz.prog T22a_1 := T22a_0_ok.add (fn_entry T22a_0_ok (noD_ok _) noIv Tryz.func81 c81)
theorem T22a_2_ok : TabOk Tryz.prog T22a_2 := T22a_1_ok.add (fn_entry T22a_1_ok (noD_ok _) noIv Tryz.func83 c83)
theorem T22a_3_ok : TabOk Tryz.prog T22a_3 := T22a_2_ok.add (absT_ok (.l [.all, .no]) (entry_of_fresh r84))
theorem T22a_4_ok : TabOk Tryz.prog T22a_4 := T22a_3_ok.add (absT_ok (.l [.all, .no]) (entry_of_fresh r57))
theorem T22a_5_ok : TabOk Tryz.prog T22a_5 := T22a_4_ok.add (absT_ok (.l [.all, .no]) (entry_of_fresh r82))
theorem T22a_ok : TabOk Tryz.prog T22a := T22a_5_ok.add (absT_ok (.l [.all, .no]) (entry_of_fresh r85))
def D22 : DTab := (((((((D19).add 76 ((viewD g76).abs (.l [.all, .no]))).add 81 (viewD g81)).add 82 ((viewD g82).abs (.l [.all, .no]))).add 83 (viewD g83)).add 85 ((viewD g85).abs (.l [.all, .no]))).add 86 ((viewD g86_0).abs (.l [.all, .no]))).add 57 ((viewD g57).abs (.l [.all, .no]))
theorem D22_ok : TabOk Tryz.prog (tabD D22) := DTab.add_ok (DTab.add_ok (DTab.add_ok (DTab.add_ok (DTab.add_ok (DTab.add_ok (DTab.add_ok (D19_ok) (dabs_ok (.l [.all, .no]) (dok r76))) (dok r81)) (dabs_ok (.l [.all, .no]) (dok r82))) (dok r83)) (dabs_ok (.l [.all, .no]) (dok r85))) (dabs_ok (.l [.all, .no]) (dok r86_0))) (dabs_ok (.l [.all, .no]) (dok r57))
def T22_0 : Tab := T22a.add 53 (runFn T22a D22 noIv a53)
def T22_1 : Tab := T22_0.add 52 (runFn T22_0 D22 noIv a52)
def T22 : Tab := T22_1.add 51 (runTried T22_1 D22 noIv a51)
theorem T22_0_ok : TabOk Tryz.prog T22_0 := T22a_ok.add (fn_entry T22a_ok D22_ok noIv Tryz.func53 c53)
theorem T22_1_ok : TabOk Tryz.prog T22_1 := T22_0_ok.add (fn_entry T22_0_ok D22_ok noIv Tryz.func52 c52)
theorem T22_ok : TabOk Tryz.prog T22 := T22_1_ok.add (tried_entry T22_1_ok D22_ok noIv Tryz.func51 Tryz.func80 c51 d51)
/-- contact.Meet -/
def g17 : GSpec := fun args obs => match args, obs with
  | [.agg [.int .i64 t1, .int .i64 n1, .int .i64 ax, .int .i64 ay, .int .i64 sx, .int .i64 sy, .int .i64 sp, .bool o1], .agg [.int .i64 t2, .int .i64 n2, .int .i64 bx, .int .i64 cy, .int .i64 ux, .int .i64 uy, .int .i64 up, .bool o2], .int .i64 el], [] => some (True, .ret (.tup [bdv (meetT (t1, n1, ax, ay, sx, sy, sp, o1) (t2, n2, bx, cy, ux, uy, up, o2) el).1, bdv (meetT (t1, n1, ax, ay, sx, sy, sp, o1) (t2, n2, bx, cy, ux, uy, up, o2) el).2.1, .bool (meetT (t1, n1, ax, ay, sx, sy, sp, o1) (t2, n2, bx, cy, ux, uy, up, o2) el).2.2.1, i64 (meetT (t1, n1, ax, ay, sx, sy, sp, o1) (t2, n2, bx, cy, ux, uy, up, o2) el).2.2.2]), [])
  | _, _ => none
theorem k17 (t1 n1 ax ay sx sy sp : Int) (o1 : Bool) (t2 n2 bx cy ux uy up : Int) (o2 : Bool) (el : Int) (K' : Out → List Ob → Prop) : runFn (T22) (D22) noIv a17 [.agg [.int .i64 t1, .int .i64 n1, .int .i64 ax, .int .i64 ay, .int .i64 sx, .int .i64 sy, .int .i64 sp, .bool o1], .agg [.int .i64 t2, .int .i64 n2, .int .i64 bx, .int .i64 cy, .int .i64 ux, .int .i64 uy, .int .i64 up, .bool o2], .int .i64 el] (lookO []) 0 (closeK K') =
    ((True) ∧
    (True) ∧
    (True) ∧
    (True) ∧
    (True) ∧
    (True) ∧
    (True) ∧
    (True) ∧
    (True) ∧
    ((True ∧ True ∧ True ∧ True ∧ True ∧ True ∧ True ∧ True ∧ True) ∧ True) ∧
    (True) ∧
    bcase (!decide (BodyOk t1 n1 ax ay sx sy sp))
     ((True) ∧
     (True) ∧
     K'
  (Out.ret
    (V.tup
      [V.agg
          [V.int IntKind.i64 (0 : Int), V.int IntKind.i64 (0 : Int), V.int IntKind.i64 (0 : Int),
            V.int IntKind.i64 (0 : Int), V.int IntKind.i64 (0 : Int), V.int IntKind.i64 (0 : Int),
            V.int IntKind.i64 (0 : Int), V.bool false],
        V.agg
          [V.int IntKind.i64 (0 : Int), V.int IntKind.i64 (0 : Int), V.int IntKind.i64 (0 : Int),
            V.int IntKind.i64 (0 : Int), V.int IntKind.i64 (0 : Int), V.int IntKind.i64 (0 : Int),
            V.int IntKind.i64 (0 : Int), V.bool false],
        V.bool false, V.int IntKind.i64 (2 : Int)]))
  [])
     (((True ∧ True ∧ True ∧ True ∧ True ∧ True ∧ True ∧ True ∧ True) ∧ True) ∧
     (True) ∧
     bcase (bif false then true else !decide (BodyOk t2 n2 bx cy ux uy up))
      ((True) ∧
      (True) ∧
      K'
  (Out.ret
    (V.tup
      [V.agg
          [V.int IntKind.i64 (0 : Int), V.int IntKind.i64 (0 : Int), V.int IntKind.i64 (0 : Int),
            V.int IntKind.i64 (0 : Int), V.int IntKind.i64 (0 : Int), V.int IntKind.i64 (0 : Int),
            V.int IntKind.i64 (0 : Int), V.bool false],
        V.agg
          [V.int IntKind.i64 (0 : Int), V.int IntKind.i64 (0 : Int), V.int IntKind.i64 (0 : Int),
            V.int IntKind.i64 (0 : Int), V.int IntKind.i64 (0 : Int), V.int IntKind.i64 (0 : Int),
            V.int IntKind.i64 (0 : Int), V.bool false],
        V.bool false, V.int IntKind.i64 (2 : Int)]))
  [])
      ((True ∧ True ∧ True ∧ True) ∧
      (True) ∧
      bcase (bif false then true else !decide ((0 : Int) ≤ el ∧ el ≤ (1000 : Int)))
       ((True) ∧
       (True) ∧
       K'
  (Out.ret
    (V.tup
      [V.agg
          [V.int IntKind.i64 (0 : Int), V.int IntKind.i64 (0 : Int), V.int IntKind.i64 (0 : Int),
            V.int IntKind.i64 (0 : Int), V.int IntKind.i64 (0 : Int), V.int IntKind.i64 (0 : Int),
            V.int IntKind.i64 (0 : Int), V.bool false],
        V.agg
          [V.int IntKind.i64 (0 : Int), V.int IntKind.i64 (0 : Int), V.int IntKind.i64 (0 : Int),
            V.int IntKind.i64 (0 : Int), V.int IntKind.i64 (0 : Int), V.int IntKind.i64 (0 : Int),
            V.int IntKind.i64 (0 : Int), V.bool false],
        V.bool false, V.int IntKind.i64 (2 : Int)]))
  [])
       ((True) ∧
       (True) ∧
       (True) ∧
       ((True ∧ True ∧ True ∧ True ∧ True ∧ True ∧ True ∧ True ∧ True) ∧
  (True ∧ True ∧ True ∧ True ∧ True ∧ True ∧ True ∧ True ∧ True) ∧ True) ∧
       ((((-6553600000 : Int) ≤ ax ∧ ax ≤ (6553600000 : Int)) ∧ (-6553600000 : Int) ≤ ay ∧ ay ≤ (6553600000 : Int)) ∧
  ((-6553600000 : Int) ≤ bx ∧ bx ≤ (6553600000 : Int)) ∧ (-6553600000 : Int) ≤ cy ∧ cy ≤ (6553600000 : Int)) ∧
       (∀ (z0 : Bool),
       ((z0 = decide (TouchP ax ay bx cy o1 o2)) →
       bcase (z0)
        ((((True ∧ True ∧ True) ∧ (True ∧ True ∧ True) ∧ True) ∧
  (fixOk bx ∧ fixOk cy ∧ fixOk ax ∧ fixOk ay) ∧ fixOk (bx - ax) ∧ fixOk (cy - ay)) ∧
        (∀ (z2 : Int),
        ((z2 = bx - ax) →
        (∀ (z4 : Int),
        ((z4 = cy - ay) →
        (((True ∧ True ∧ True) ∧ True ∧ True) ∧ (0 : Int) = (0 : Int)) ∧
        (((True ∧ True ∧ True) ∧ True) ∧ fixOk z2 ∧ fixOk z4 ∧ (0 : Int) < z2 * z2 + z4 * z4) ∧
        (∀ (z6 : Int),
        ((z6 = shareS z2 (z2 * z2 + z4 * z4)) →
        (∀ (z8 : Int),
        ((z8 = shareS z4 (z2 * z2 + z4 * z4)) →
        (((True ∧ True ∧ True) ∧ True ∧ True) ∧ (0 : Int) = (0 : Int)) ∧
        (True) ∧
        (True) ∧
        (((True ∧ True ∧ True) ∧ (True ∧ True ∧ True) ∧ True) ∧
  (fixOk sx ∧ fixOk sy ∧ fixOk ux ∧ fixOk uy) ∧ fixOk (sx - ux) ∧ fixOk (sy - uy)) ∧
        (∀ (z10 : Int),
        ((z10 = sx - ux) →
        (∀ (z12 : Int),
        ((z12 = sy - uy) →
        (((True ∧ True ∧ True) ∧ True ∧ True) ∧ (0 : Int) = (0 : Int)) ∧
        (True) ∧
        (True) ∧
        ((True ∧ True ∧ True) ∧ (True ∧ True ∧ True) ∧ True ∧ True) ∧
        ((fixOk z10 ∧ fixOk z12 ∧ fixOk z6 ∧ fixOk z8) ∧
  (↑z10.natAbs * ↑z6.natAbs + ↑z12.natAbs * ↑z8.natAbs) / (65536 : Int) < (70368744177664 : Int)) ∧
        (∀ (z14 : Int),
        ((z14 = (z10 * z6 + z12 * z8) / (65536 : Int)) →
        bcase (decide (z14 ≤ (0 : Int)))
         ((True) ∧
         (True) ∧
         (True) ∧
         (True) ∧
         (True) ∧
         (True) ∧
         K'
  (Out.ret
    (V.tup
      [V.agg
          [V.int IntKind.i64 t1, V.int IntKind.i64 n1, V.int IntKind.i64 ax, V.int IntKind.i64 ay, V.int IntKind.i64 sx,
            V.int IntKind.i64 sy, V.int IntKind.i64 sp, V.bool o1],
        V.agg
          [V.int IntKind.i64 t2, V.int IntKind.i64 n2, V.int IntKind.i64 bx, V.int IntKind.i64 cy, V.int IntKind.i64 ux,
            V.int IntKind.i64 uy, V.int IntKind.i64 up, V.bool o2],
        V.bool (bif true then false else false), V.int IntKind.i64 (0 : Int)]))
  [])
         (((True ∧ True ∧ True ∧ True ∧ True) ∧
  fixOk z14 ∧
    ((-2147483648 : Int) ≤ IntKind.i64.wrap ((1000 : Int) + el) ∧
        IntKind.i64.wrap ((1000 : Int) + el) ≤ (2147483648 : Int)) ∧
      ((0 : Int) < (2000 : Int) ∧ (2000 : Int) ≤ (2147483648 : Int)) ∧
        ↑z14.natAbs * ↑(IntKind.i64.wrap ((1000 : Int) + el)).natAbs / (2000 : Int) < (70368744177664 : Int)) ∧
         (∀ (z16 : Int),
         ((z16 = (z14 * IntKind.i64.wrap ((1000 : Int) + el)).tdiv (2000 : Int)) →
         ((True ∧ True ∧ True) ∧ (0 : Int) = (0 : Int)) ∧
         (((True ∧ True ∧ True) ∧ True ∧ True ∧ True) ∧
  (fixOk z6 ∧ fixOk z8 ∧ fixOk z16) ∧
    ↑z6.natAbs * ↑z16.natAbs / (65536 : Int) < (70368744177664 : Int) ∧
      ↑z8.natAbs * ↑z16.natAbs / (65536 : Int) < (70368744177664 : Int)) ∧
         (∀ (z18 : Int),
         ((z18 = (z6 * z16).tdiv (65536 : Int)) →
         (∀ (z20 : Int),
         ((z20 = (z8 * z16).tdiv (65536 : Int)) →
         (((True ∧ True ∧ True) ∧ True ∧ True) ∧ (0 : Int) = (0 : Int)) ∧
         (True) ∧
         (True) ∧
         (((True ∧ True ∧ True) ∧ (True ∧ True ∧ True) ∧ True) ∧
  (fixOk sx ∧ fixOk sy ∧ fixOk z18 ∧ fixOk z20) ∧ fixOk (sx - z18) ∧ fixOk (sy - z20)) ∧
         (∀ (z22 : Int),
         ((z22 = sx - z18) →
         (∀ (z24 : Int),
         ((z24 = sy - z20) →
         (((True ∧ True ∧ True) ∧ True ∧ True) ∧ (0 : Int) = (0 : Int)) ∧
         (True) ∧
         (((True ∧ True ∧ True) ∧ (True ∧ True ∧ True) ∧ True) ∧
  (fixOk ux ∧ fixOk uy ∧ fixOk z18 ∧ fixOk z20) ∧ fixOk (ux + z18) ∧ fixOk (uy + z20)) ∧
         (∀ (z26 : Int),
         ((z26 = ux + z18) →
         (∀ (z28 : Int),
         ((z28 = uy + z20) →
         (((True ∧ True ∧ True) ∧ True ∧ True) ∧ (0 : Int) = (0 : Int)) ∧
         (True) ∧
         ((True ∧ True ∧ True ∧ True ∧ True ∧ True ∧ True ∧ True ∧ True) ∧ True) ∧
         (True) ∧
         bcase (!decide (BodyOk t1 n1 ax ay z22 z24 sp))
          ((True) ∧
          (True) ∧
          (True) ∧
          (True) ∧
          (True) ∧
          K'
  (Out.ret
    (V.tup
      [V.agg
          [V.int IntKind.i64 (0 : Int), V.int IntKind.i64 (0 : Int), V.int IntKind.i64 (0 : Int),
            V.int IntKind.i64 (0 : Int), V.int IntKind.i64 (0 : Int), V.int IntKind.i64 (0 : Int),
            V.int IntKind.i64 (0 : Int), V.bool false],
        V.agg
          [V.int IntKind.i64 (0 : Int), V.int IntKind.i64 (0 : Int), V.int IntKind.i64 (0 : Int),
            V.int IntKind.i64 (0 : Int), V.int IntKind.i64 (0 : Int), V.int IntKind.i64 (0 : Int),
            V.int IntKind.i64 (0 : Int), V.bool false],
        V.bool false, V.int IntKind.i64 (4 : Int)]))
  [])
          (((True ∧ True ∧ True ∧ True ∧ True ∧ True ∧ True ∧ True ∧ True) ∧ True) ∧
          (True) ∧
          bcase (bif false then true else !decide (BodyOk t2 n2 bx cy z26 z28 up))
           ((True) ∧
           (True) ∧
           (True) ∧
           (True) ∧
           (True) ∧
           K'
  (Out.ret
    (V.tup
      [V.agg
          [V.int IntKind.i64 (0 : Int), V.int IntKind.i64 (0 : Int), V.int IntKind.i64 (0 : Int),
            V.int IntKind.i64 (0 : Int), V.int IntKind.i64 (0 : Int), V.int IntKind.i64 (0 : Int),
            V.int IntKind.i64 (0 : Int), V.bool false],
        V.agg
          [V.int IntKind.i64 (0 : Int), V.int IntKind.i64 (0 : Int), V.int IntKind.i64 (0 : Int),
            V.int IntKind.i64 (0 : Int), V.int IntKind.i64 (0 : Int), V.int IntKind.i64 (0 : Int),
            V.int IntKind.i64 (0 : Int), V.bool false],
        V.bool false, V.int IntKind.i64 (4 : Int)]))
  [])
           ((True) ∧
           (True) ∧
           (True) ∧
           (True) ∧
           (True) ∧
           (True) ∧
           K'
  (Out.ret
    (V.tup
      [V.agg
          [V.int IntKind.i64 t1, V.int IntKind.i64 n1, V.int IntKind.i64 ax, V.int IntKind.i64 ay,
            V.int IntKind.i64 z22, V.int IntKind.i64 z24, V.int IntKind.i64 sp, V.bool o1],
        V.agg
          [V.int IntKind.i64 t2, V.int IntKind.i64 n2, V.int IntKind.i64 bx, V.int IntKind.i64 cy,
            V.int IntKind.i64 z26, V.int IntKind.i64 z28, V.int IntKind.i64 up, V.bool o2],
        V.bool (bif true then true else false), V.int IntKind.i64 (0 : Int)]))
  []))))))))))))))))))))))))))))))))
        ((True) ∧
        (True) ∧
        (True) ∧
        (True) ∧
        (True) ∧
        (True) ∧
        K'
  (Out.ret
    (V.tup
      [V.agg
          [V.int IntKind.i64 t1, V.int IntKind.i64 n1, V.int IntKind.i64 ax, V.int IntKind.i64 ay, V.int IntKind.i64 sx,
            V.int IntKind.i64 sy, V.int IntKind.i64 sp, V.bool o1],
        V.agg
          [V.int IntKind.i64 t2, V.int IntKind.i64 n2, V.int IntKind.i64 bx, V.int IntKind.i64 cy, V.int IntKind.i64 ux,
            V.int IntKind.i64 uy, V.int IntKind.i64 up, V.bool o2],
        V.bool false, V.int IntKind.i64 (0 : Int)]))
  []))))))) := by kernel_rfl
theorem r17 : FreshOk Tryz.prog 17 (ofD g17) := by
  refine fresh_of_run T22_ok D22_ok (fun _ _ => noIv) Tryz.func17 c17 fun args obs K' hk => ?_
  unfold ofD g17 at hk
  split at hk
  · rename_i d_ out news hg
    split at hg
    · rename_i t1 n1 ax ay sx sy sp o1 t2 n2 bx cy ux uy up o2 el
      cases hg
      obtain ⟨hc, hk⟩ := hk
      refine Eq.mpr (k17 t1 n1 ax ay sx sy sp o1 t2 n2 bx cy ux uy up o2 el K') ⟨trivial, trivial, trivial, trivial, trivial, trivial, trivial, trivial, trivial, ⟨⟨trivial, ⟨trivial, ⟨trivial, ⟨trivial, ⟨trivial, ⟨trivial, ⟨trivial, ⟨trivial, trivial⟩⟩⟩⟩⟩⟩⟩⟩, trivial⟩, trivial, ?_⟩
      · refine bcase_i (fun h => ?_) (fun h => ?_)
        · have h : ¬ BodyOk t1 n1 ax ay sx sy sp := fun hh => by simp [hh] at h
          rw [meetT_a (t1, n1, ax, ay, sx, sy, sp, o1) (t2, n2, bx, cy, ux, uy, up, o2) el h] at hk
          repeat refine And.intro True.intro ?_
          exact hk
        have h : BodyOk t1 n1 ax ay sx sy sp := Decidable.of_not_not fun hh => by simp [hh] at h
        refine And.intro (by first | omega | (simp only [true_and, and_true]; done) | (simp only [true_and, and_true]; omega)) (And.intro (by first | omega | (simp only [true_and, and_true]; done) | (simp only [true_and, and_true]; omega)) ?_)
        refine bcase_i (fun h' => ?_) (fun h' => ?_)
        · have h' : ¬ BodyOk t2 n2 bx cy ux uy up := fun hh => by simp [hh] at h'
          rw [meetT_b (t1, n1, ax, ay, sx, sy, sp, o1) (t2, n2, bx, cy, ux, uy, up, o2) el h'] at hk
          repeat refine And.intro True.intro ?_
          exact hk
        have h' : BodyOk t2 n2 bx cy ux uy up := Decidable.of_not_not fun hh => by simp [hh] at h'
        refine And.intro (by first | omega | (simp only [true_and, and_true]; done) | (simp only [true_and, and_true]; omega)) (And.intro (by first | omega | (simp only [true_and, and_true]; done) | (simp only [true_and, and_true]; omega)) ?_)
        refine bcase_i (fun hl => ?_) (fun hl => ?_)
        · have hl : ¬ (0 ≤ el ∧ el ≤ 1000) := fun hh => by simp [hh] at hl
          rw [meetT_l (t1, n1, ax, ay, sx, sy, sp, o1) (t2, n2, bx, cy, ux, uy, up, o2) el hl] at hk
          repeat refine And.intro True.intro ?_
          exact hk
        have hl : 0 ≤ el ∧ el ≤ 1000 := Decidable.of_not_not fun hh => by simp [hh] at hl
        have ew : IntKind.i64.wrap (1000 + el) = 1000 + el := IntWalk.i64_in _ (by omega)
        repeat refine And.intro True.intro ?_
        refine And.intro (by first | omega | (simp only [true_and, and_true]; done) | (simp only [true_and, and_true]; omega)) (And.intro (by first | omega | (simp only [true_and, and_true]; done) | (simp only [true_and, and_true]; omega)) ?_)
        intro z0 e0
        refine bcase_i (fun ht => ?_) (fun ht => ?_)
        rotate_left
        · have ht : ¬ TouchP ax ay bx cy o1 o2 := fun hh => by simp [e0, hh] at ht
          rw [meetT_far (t1, n1, ax, ay, sx, sy, sp, o1) (t2, n2, bx, cy, ux, uy, up, o2) el h h' hl ht] at hk
          repeat refine And.intro True.intro ?_
          exact hk
        have ht : TouchP ax ay bx cy o1 o2 := Decidable.of_not_not fun hh => by simp [e0, hh] at ht
        rw [meetT_near (t1, n1, ax, ay, sx, sy, sp, o1) (t2, n2, bx, cy, ux, uy, up, o2) el h h' hl ht] at hk
        refine And.intro (by first | omega | (simp only [true_and, and_true]; done) | (simp only [true_and, and_true]; omega)) ?_
        intro z2 e2 z4 e4
        have hS := sum_sq_pos (bx - ax) (cy - ay) ht.2.2
        rw [← e2, ← e4] at hS
        refine And.intro (by first | omega | (simp only [true_and, and_true]; done) | (simp only [true_and, and_true]; omega)) (And.intro ⟨⟨⟨trivial, trivial, trivial⟩, trivial⟩, by omega, by omega, hS⟩ ?_)
        intro z6 e6 z8 e8
        have b6 := shareS_le z2 (z2 * z2 + z4 * z4)
        have b8 := shareS_le z4 (z2 * z2 + z4 * z4)
        rw [← e6] at b6
        rw [← e8] at b8
        refine And.intro (by first | omega | (simp only [true_and, and_true]; done) | (simp only [true_and, and_true]; omega)) ?_
        repeat refine And.intro True.intro ?_
        refine And.intro (by first | omega | (simp only [true_and, and_true]; done) | (simp only [true_and, and_true]; omega)) ?_
        intro z10 e10 z12 e12
        obtain ⟨f1, f2⟩ := meet_facts z6 z8 z10 z12 el b6 b8 (by omega) (by omega) hl
        refine And.intro (by first | omega | (simp only [true_and, and_true]; done) | (simp only [true_and, and_true]; omega)) ?_
        repeat refine And.intro True.intro ?_
        refine And.intro (by first | omega | (simp only [true_and, and_true]; done) | (simp only [true_and, and_true]; omega)) (And.intro ⟨by omega, by clear hk f2; generalize (z10.natAbs : Int) * (z6.natAbs : Int) + (z12.natAbs : Int) * (z8.natAbs : Int) = p at *; omega⟩ ?_)
        intro z14 e14
        obtain ⟨g1, g2, g3⟩ := f2 z14 e14
        have ej : closeJ (bx - ax) (cy - ay) (sx - ux) (sy - uy) = z14 := by
          subst e2 e4 e6 e8 e10 e12 e14
          rfl
        refine bcase_i (fun hj => ?_) (fun hj => ?_)
        · have hj := of_decide_eq_true hj
          rw [meetB_eq (t1, n1, ax, ay, sx, sy, sp, o1) (t2, n2, bx, cy, ux, uy, up, o2) el z14 _ _ ej rfl rfl, if_pos hj] at hk
          repeat refine And.intro True.intro ?_
          exact hk
        have hj := of_decide_eq_false hj
        simp only [ew]
        refine And.intro ⟨⟨trivial, trivial, trivial, trivial, trivial⟩, by omega, by omega, by omega, by clear hk g3 f1; generalize (z14.natAbs : Int) * ((1000 + el).natAbs : Int) = p at *; omega⟩ ?_
        intro z16 e16
        obtain ⟨i1, i2, i3, i4, i5⟩ := g3 z16 e16
        refine And.intro (by first | omega | (simp only [true_and, and_true]; done) | (simp only [true_and, and_true]; omega)) (And.intro ⟨⟨⟨trivial, trivial, trivial⟩, trivial, trivial, trivial⟩, by omega, by clear hk g3 f1 g2 i3; generalize (z6.natAbs : Int) * (z16.natAbs : Int) = p at *; omega, by clear hk g3 f1 g2 i2; generalize (z8.natAbs : Int) * (z16.natAbs : Int) = p at *; omega⟩ ?_)
        intro z18 e18 z20 e20
        have epx : pushX (bx - ax) (cy - ay) (sx - ux) (sy - uy) el = z18 := by
          subst e18 e16
          subst e2 e4 e6 e8 e10 e12 e14
          rfl
        have epy : pushY (bx - ax) (cy - ay) (sx - ux) (sy - uy) el = z20 := by
          subst e20 e16
          subst e2 e4 e6 e8 e10 e12 e14
          rfl
        rw [meetB_eq (t1, n1, ax, ay, sx, sy, sp, o1) (t2, n2, bx, cy, ux, uy, up, o2) el z14 z18 z20 ej epx epy, if_neg hj] at hk
        rw [← e18] at i4
        rw [← e20] at i5
        clear i2 i3 g2 f1 g3
        refine And.intro (by first | omega | (simp only [true_and, and_true]; done) | (simp only [true_and, and_true]; omega)) ?_
        repeat refine And.intro True.intro ?_
        refine And.intro (by first | omega | (simp only [true_and, and_true]; done) | (simp only [true_and, and_true]; omega)) ?_
        intro z22 e22 z24 e24
        have p22 : sx + -z18 = z22 := by omega
        have p24 : sy + -z20 = z24 := by omega
        refine And.intro (by first | omega | (simp only [true_and, and_true]; done) | (simp only [true_and, and_true]; omega)) ?_
        repeat refine And.intro True.intro ?_
        refine And.intro (by first | omega | (simp only [true_and, and_true]; done) | (simp only [true_and, and_true]; omega)) ?_
        intro z26 e26 z28 e28
        have p26 : ux + z18 = z26 := by omega
        have p28 : uy + z20 = z28 := by omega
        have q1 : bdPush (t1, n1, ax, ay, sx, sy, sp, o1) (-z18) (-z20) = (t1, n1, ax, ay, z22, z24, sp, o1) := by rw [← p22, ← p24]; rfl
        have q2 : bdPush (t2, n2, bx, cy, ux, uy, up, o2) z18 z20 = (t2, n2, bx, cy, z26, z28, up, o2) := by rw [← p26, ← p28]; rfl
        rw [q1, q2] at hk
        refine And.intro (by first | omega | (simp only [true_and, and_true]; done) | (simp only [true_and, and_true]; omega)) ?_
        repeat refine And.intro True.intro ?_
        refine And.intro (by first | omega | (simp only [true_and, and_true]; done) | (simp only [true_and, and_true]; omega)) (And.intro True.intro ?_)
        refine bcase_i (fun hm => ?_) (fun hm => ?_)
        · have hm : ¬ BodyOk t1 n1 ax ay z22 z24 sp := fun hh => by simp [hh] at hm
          rw [if_pos hm] at hk
          repeat refine And.intro True.intro ?_
          exact hk
        have hm : BodyOk t1 n1 ax ay z22 z24 sp := Decidable.of_not_not fun hh => by simp [hh] at hm
        rw [if_neg (fun hh => hh hm)] at hk
        refine And.intro (by first | omega | (simp only [true_and, and_true]; done) | (simp only [true_and, and_true]; omega)) (And.intro True.intro ?_)
        refine bcase_i (fun hq => ?_) (fun hq => ?_)
        · have hq : ¬ BodyOk t2 n2 bx cy z26 z28 up := fun hh => by simp [hh] at hq
          rw [if_pos hq] at hk
          repeat refine And.intro True.intro ?_
          exact hk
        have hq : BodyOk t2 n2 bx cy z26 z28 up := Decidable.of_not_not fun hh => by simp [hh] at hq
        rw [if_neg (fun hh => hh hq)] at hk
        repeat refine And.intro True.intro ?_
        exact hk
    · cases hg
  · exact hk.elim

end Go.Proofs.YtbolfnkgbjkbjaaGreat.AM
end
section
set_option linter.unusedVariables false
set_option linter.unusedSimpArgs false
namespace Go.Proofs.YtbolfnkgbjkbjaaGreat.AM
open Go Go.RowKit
set_option maxRecDepth 100000

theorem lfbi {K' : Out → List Ob → Prop} {k : IntKind} {a a' : Bool} {b b' : Int} (h : K' (.ret (.tup [.bool a, .int k b])) []) (e1 : a' = a) (e2 : b' = b) : K' (.ret (.tup [.bool a', .int k b'])) [] := by rw [e1, e2]; exact h
/-- contact.Touch -/
def g13 : GSpec := fun args obs => match args, obs with
  | [.agg [.int .i64 t1, .int .i64 n1, .int .i64 ax, .int .i64 ay, .int .i64 sx, .int .i64 sy, .int .i64 sp, .bool o1], .agg [.int .i64 t2, .int .i64 n2, .int .i64 bx, .int .i64 cy, .int .i64 ux, .int .i64 uy, .int .i64 up, .bool o2]], [] => some (True, .ret (.tup [.bool (decide (BodyOk t1 n1 ax ay sx sy sp ∧ BodyOk t2 n2 bx cy ux uy up ∧ TouchP ax ay bx cy o1 o2)), i64 (if BodyOk t1 n1 ax ay sx sy sp ∧ BodyOk t2 n2 bx cy ux uy up then 0 else 2)]), [])
  | _, _ => none
theorem k13 (t1 n1 ax ay sx sy sp : Int) (o1 : Bool) (t2 n2 bx cy ux uy up : Int) (o2 : Bool) (K' : Out → List Ob → Prop) : runFn (T22a) (noD) noIv a13 [.agg [.int .i64 t1, .int .i64 n1, .int .i64 ax, .int .i64 ay, .int .i64 sx, .int .i64 sy, .int .i64 sp, .bool o1], .agg [.int .i64 t2, .int .i64 n2, .int .i64 bx, .int .i64 cy, .int .i64 ux, .int .i64 uy, .int .i64 up, .bool o2]] (lookO []) 0 (closeK K') =
    ((True) ∧
    (True) ∧
    (True) ∧
    (True) ∧
    (True) ∧
    (True) ∧
    ((True ∧ True ∧ True ∧ True ∧ True ∧ True ∧ True ∧ True ∧ True) ∧ True) ∧
    (True) ∧
    bcase (!decide (BodyOk t1 n1 ax ay sx sy sp))
     (K' (Out.ret (V.tup [V.bool false, V.int IntKind.i64 (2 : Int)])) [])
     (((True ∧ True ∧ True ∧ True ∧ True ∧ True ∧ True ∧ True ∧ True) ∧ True) ∧
     (True) ∧
     bcase (bif false then true else !decide (BodyOk t2 n2 bx cy ux uy up))
      (K' (Out.ret (V.tup [V.bool false, V.int IntKind.i64 (2 : Int)])) [])
      (((True ∧ True ∧ True ∧ True ∧ True ∧ True ∧ True ∧ True ∧ True) ∧
  (True ∧ True ∧ True ∧ True ∧ True ∧ True ∧ True ∧ True ∧ True) ∧ True) ∧
      ((((-6553600000 : Int) ≤ ax ∧ ax ≤ (6553600000 : Int)) ∧ (-6553600000 : Int) ≤ ay ∧ ay ≤ (6553600000 : Int)) ∧
  ((-6553600000 : Int) ≤ bx ∧ bx ≤ (6553600000 : Int)) ∧ (-6553600000 : Int) ≤ cy ∧ cy ≤ (6553600000 : Int)) ∧
      (∀ (z0 : Bool),
      ((z0 = decide (TouchP ax ay bx cy o1 o2)) →
      K' (Out.ret (V.tup [V.bool z0, V.int IntKind.i64 (0 : Int)])) []))))) := by kernel_rfl
theorem r13 : FreshOk Tryz.prog 13 (ofD g13) := by
  refine fresh_of_run T22a_ok (noD_ok _) (fun _ _ => noIv) Tryz.func13 c13 fun args obs K' hk => ?_
  unfold ofD g13 at hk
  split at hk
  · rename_i d_ out news hg
    split at hg
    · rename_i t1 n1 ax ay sx sy sp o1 t2 n2 bx cy ux uy up o2
      cases hg
      obtain ⟨hc, hk⟩ := hk
      refine Eq.mpr (k13 t1 n1 ax ay sx sy sp o1 t2 n2 bx cy ux uy up o2 K') ⟨trivial, trivial, trivial, trivial, trivial, trivial, ⟨⟨trivial, ⟨trivial, ⟨trivial, ⟨trivial, ⟨trivial, ⟨trivial, ⟨trivial, ⟨trivial, trivial⟩⟩⟩⟩⟩⟩⟩⟩, trivial⟩, trivial, ?_⟩
      · refine bcase_i (fun h => ?_) (fun h => ?_)
        · have h : ¬ BodyOk t1 n1 ax ay sx sy sp := fun hh => by simp [hh] at h
          exact lfbi hk (by simp only [h, false_and, decide_false]) (by rw [if_neg (fun hh => h hh.1)])
        have h : BodyOk t1 n1 ax ay sx sy sp := Decidable.of_not_not fun hh => by simp [hh] at h
        refine And.intro (by first | omega | (simp only [true_and, and_true]; done) | (simp only [true_and, and_true]; omega)) (And.intro True.intro ?_)
        refine bcase_i (fun h' => ?_) (fun h' => ?_)
        · have h' : ¬ BodyOk t2 n2 bx cy ux uy up := fun hh => by simp [hh] at h'
          exact lfbi hk (by simp only [h', false_and, and_false, decide_false]) (by rw [if_neg (fun hh => h' hh.2)])
        have h' : BodyOk t2 n2 bx cy ux uy up := Decidable.of_not_not fun hh => by simp [hh] at h'
        refine And.intro (by first | omega | (simp only [true_and, and_true]; done) | (simp only [true_and, and_true]; omega)) (And.intro (by first | omega | (simp only [true_and, and_true]; done) | (simp only [true_and, and_true]; omega)) ?_)
        intro z ez
        refine lfbi hk ?_ (by rw [if_pos ⟨h, h'⟩])
        rw [ez]
        exact decide_eq_decide.2 ⟨fun hh => ⟨h, h', hh⟩, fun hh => hh.2.2⟩
    · cases hg
  · exact hk.elim
def T23a_0 : Tab := T6.add 195 (absT .all (liftA (ofD g195)))
def T23a : Tab := T23a_0.add 167 (absT .all (liftA (ofD g167)))
theorem T23a_0_ok : TabOk Tryz.prog T23a_0 := T6_ok.add (absT_ok .all (entry_of_fresh r195))
theorem T23a_ok : TabOk Tryz.prog T23a := T23a_0_ok.add (absT_ok .all (entry_of_fresh r167))
/-- besomlaw05.body -/
def g56 : GSpec := fun args obs => match args, obs with
  | [.int .i64 t, .int .i64 y, .int .i64 s], [] => some (True, .ret (.agg [i64 t, i64 0, i64 0, i64 y, i64 0, i64 s, i64 0, .bool false]), [])
  | _, _ => none
theorem k56 (t y s : Int) (K' : Out → List Ob → Prop) : runFn (T23a) (noD) noIv a56 [.int .i64 t, .int .i64 y, .int .i64 s] (lookO []) 0 (closeK K') =
    ((True) ∧
    (True) ∧
    K'
  (Out.ret
    (V.agg
      [V.int IntKind.i64 t, V.int IntKind.i64 (0 : Int), V.int IntKind.i64 (0 : Int), V.int IntKind.i64 y,
        V.int IntKind.i64 (0 : Int), V.int IntKind.i64 s, V.int IntKind.i64 (0 : Int), V.bool false]))
  []) := by kernel_rfl
theorem r56 : FreshOk Tryz.prog 56 (ofD g56) := by
  refine fresh_of_run T23a_ok (noD_ok _) (fun _ _ => noIv) Tryz.func56 c56 fun args obs K' hk => ?_
  unfold ofD g56 at hk
  split at hk
  · rename_i d_ out news hg
    split at hg
    · rename_i t y s
      cases hg
      obtain ⟨hc, hk⟩ := hk
      refine Eq.mpr (k56 t y s K') ⟨trivial, trivial, hk⟩
    · cases hg
  · exact hk.elim
def T23b_0 : Tab := T22.add 13 (liftA (ofD g13))
def T23b_1 : Tab := T23b_0.add 17 (liftA (ofD g17))
def T23b : Tab := T23b_1.add 56 (runFn T23b_1 D22 noIv a56)
theorem T23b_0_ok : TabOk Tryz.prog T23b_0 := T22_ok.add (entry_of_fresh r13)
theorem T23b_1_ok : TabOk Tryz.prog T23b_1 := T23b_0_ok.add (entry_of_fresh r17)
theorem T23b_ok : TabOk Tryz.prog T23b := T23b_1_ok.add (fn_entry T23b_1_ok D22_ok noIv Tryz.func56 c56)
def D23 : DTab := (D22).add 56 (viewD g56)
theorem D23_ok : TabOk Tryz.prog (tabD D23) := DTab.add_ok (D22_ok) (dok r56)

end Go.Proofs.YtbolfnkgbjkbjaaGreat.AM
end
section
set_option linter.unusedVariables false
set_option linter.unusedSimpArgs false
namespace Go.Proofs.YtbolfnkgbjkbjaaGreat.AM
open Go Go.RowKit
set_option maxRecDepth 100000

/-- besomlaw05.alive -/
def g19 : GSpec := fun args obs => match args, obs with
  | [], [] => some (True, .ret (.bool true), [])
  | _, _ => none
theorem k19  (K' : Out → List Ob → Prop) : runFn (T23b) (D23) noIv a19 [] (lookO []) 0 (closeK K') =
    ((True) ∧
    (True) ∧
    (True) ∧
    (True) ∧
    (True) ∧
    (True) ∧
    (True) ∧
    (True) ∧
    ((True ∧ True ∧ True ∧ True ∧ True ∧ True ∧ True ∧ True ∧ True) ∧
  (True ∧ True ∧ True ∧ True ∧ True ∧ True ∧ True ∧ True ∧ True) ∧ True) ∧
    (True) ∧
    ((True ∧ True ∧ True ∧ True ∧ True ∧ True ∧ True ∧ True ∧ True) ∧
  (True ∧ True ∧ True ∧ True ∧ True ∧ True ∧ True ∧ True ∧ True) ∧ True ∧ True) ∧
    (True) ∧
    (True) ∧
    (True) ∧
    (True) ∧
    (True) ∧
    ((True ∧ True ∧ True ∧ True) ∧ True) ∧
    ((True ∧ True ∧ True ∧ True) ∧ True) ∧
    K' (Out.ret (V.bool true)) []) := by kernel_rfl
theorem r19 : FreshOk Tryz.prog 19 (ofD g19) := by
  refine fresh_of_run T23b_ok D23_ok (fun _ _ => noIv) Tryz.func19 c19 fun args obs K' hk => ?_
  unfold ofD g19 at hk
  split at hk
  · rename_i d_ out news hg
    split at hg
    · skip
      cases hg
      obtain ⟨hc, hk⟩ := hk
      refine Eq.mpr (k19  K') ⟨trivial, trivial, trivial, trivial, trivial, trivial, trivial, trivial, ⟨⟨trivial, ⟨trivial, ⟨trivial, ⟨trivial, ⟨trivial, ⟨trivial, ⟨trivial, ⟨trivial, trivial⟩⟩⟩⟩⟩⟩⟩⟩, ⟨⟨trivial, ⟨trivial, ⟨trivial, ⟨trivial, ⟨trivial, ⟨trivial, ⟨trivial, ⟨trivial, trivial⟩⟩⟩⟩⟩⟩⟩⟩, trivial⟩⟩, trivial, ⟨⟨trivial, ⟨trivial, ⟨trivial, ⟨trivial, ⟨trivial, ⟨trivial, ⟨trivial, ⟨trivial, trivial⟩⟩⟩⟩⟩⟩⟩⟩, ⟨⟨trivial, ⟨trivial, ⟨trivial, ⟨trivial, ⟨trivial, ⟨trivial, ⟨trivial, ⟨trivial, trivial⟩⟩⟩⟩⟩⟩⟩⟩, ⟨trivial, trivial⟩⟩⟩, trivial, trivial, trivial, trivial, trivial, ⟨⟨trivial, ⟨trivial, ⟨trivial, trivial⟩⟩⟩, trivial⟩, ⟨⟨trivial, ⟨trivial, ⟨trivial, trivial⟩⟩⟩, trivial⟩, hk⟩
    · cases hg
  · exact hk.elim

end Go.Proofs.YtbolfnkgbjkbjaaGreat.AM
end
