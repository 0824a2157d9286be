/- Contracts, part 21: touching; must. -/
import Derived.Test.YtbolfnkgbjkbjaaGreatS20
set_option linter.unusedVariables false
set_option linter.unusedSimpArgs false
namespace Go.Proofs.YtbolfnkgbjkbjaaGreat.AM
open Go Go.RowKit
set_option maxRecDepth 100000

abbrev TouchP (ax ay bx by' : Int) (o1 o2 : Bool) : Prop := (o1 = false ∧ o2 = false) ∧ (bx - ax) * (bx - ax) + (by' - ay) * (by' - ay) ≤ 361206749593600 ∧ (bx - ax ≠ 0 ∨ by' - ay ≠ 0)

def T21_0 : Tab := T20d.add 76 (absT (.l [.all, .no]) (liftA (ofD g76)))
def T21 : Tab := T21_0.add 77 (absT (.l [.all, .no]) (liftA (ofD g77)))
theorem T21_0_ok : TabOk Tryz.prog T21_0 := T20d_ok.add (absT_ok (.l [.all, .no]) (entry_of_fresh r76))
theorem T21_ok : TabOk Tryz.prog T21 := T21_0_ok.add (absT_ok (.l [.all, .no]) (entry_of_fresh r77))
/-- contact.body.touches -/
def g45 : GSpec := fun args obs => match args, obs with
  | [.agg [.int .i64 t1, .int .i64 n1, .int .i64 ax, .int .i64 ay, .int .i64 sx, .int .i64 sy, .int .i64 sp, .bool o1], .agg [.int .i64 t2, .int .i64 n2, .int .i64 bx, .int .i64 cy, .int .i64 ux, .int .i64 uy, .int .i64 up, .bool o2]], [] => some (((-6553600000 ≤ ax ∧ ax ≤ 6553600000) ∧ -6553600000 ≤ ay ∧ ay ≤ 6553600000) ∧ (-6553600000 ≤ bx ∧ bx ≤ 6553600000) ∧ -6553600000 ≤ cy ∧ cy ≤ 6553600000, .ret (.bool (decide (TouchP ax ay bx cy o1 o2))), [])
  | _, _ => none
theorem k45 (t1 n1 ax ay sx sy sp : Int) (o1 : Bool) (t2 n2 bx cy ux uy up : Int) (o2 : Bool) (K' : Out → List Ob → Prop) : runFn (T21) (noD) noIv a45 [.agg [.int .i64 t1, .int .i64 n1, .int .i64 ax, .int .i64 ay, .int .i64 sx, .int .i64 sy, .int .i64 sp, .bool o1], .agg [.int .i64 t2, .int .i64 n2, .int .i64 bx, .int .i64 cy, .int .i64 ux, .int .i64 uy, .int .i64 up, .bool o2]] (lookO []) 0 (closeK K') =
    ((True) ∧
    (True) ∧
    ((True ∧ True ∧ True) ∧ (True ∧ True ∧ True) ∧ True) ∧
    ((fixOk bx ∧ fixOk cy ∧ fixOk ax ∧ fixOk ay) ∧ fixOk (bx - ax) ∧ fixOk (cy - ay)) ∧
    (∀ (z0 : Int),
    ((z0 = bx - ax) →
    (∀ (z2 : Int),
    ((z2 = cy - ay) →
    (True) ∧
    (True) ∧
    ((True ∧ True ∧ True) ∧ True ∧ True) ∧
    ((fixOk z0 ∧ fixOk z2 ∧ fixOk (19005440 : Int)) ∧ (0 : Int) ≤ (19005440 : Int)) ∧
    (∀ (z4 : Bool),
    ((z4 = decide (z0 * z0 + z2 * z2 ≤ (19005440 : Int) * (19005440 : Int))) →
    bcase (!o1)
     (bcase (bif true then !o2 else false)
      (bcase (bif true then z4 else false)
       (K'
  (Out.ret
    (V.bool
      (bif true then
        match true with
        | true => !(z0 == (0 : Int) && (z2 == (0 : Int) && true))
        | false => z0 == (0 : Int) && (z2 == (0 : Int) && true)
      else false)))
  [])
       (K' (Out.ret (V.bool false)) []))
      (K' (Out.ret (V.bool false)) []))
     (K' (Out.ret (V.bool false)) [])))))))) := by kernel_rfl
theorem r45 : FreshOk Tryz.prog 45 (ofD g45) := by
  refine fresh_of_run T21_ok (noD_ok _) (fun _ _ => noIv) Tryz.func45 c45 fun args obs K' hk => ?_
  unfold ofD g45 at hk
  split at hk
  · rename_i d_ out news hg
    split at hg
    · rename_i t1 n1 ax ay sx sy sp o1 t2 n2 bx cy ux uy up o2
      cases hg
      obtain ⟨hc, hk⟩ := hk
      refine Eq.mpr (k45 t1 n1 ax ay sx sy sp o1 t2 n2 bx cy ux uy up o2 K') ⟨trivial, trivial, ⟨⟨trivial, ⟨trivial, trivial⟩⟩, ⟨⟨trivial, ⟨trivial, trivial⟩⟩, trivial⟩⟩, ?_, ?_⟩
      · first | omega | (simp only [true_and, and_true]; omega) | exact in_fix (by simp) (by simp; omega)
      · intro z0 e0 z2 e2
        repeat refine And.intro True.intro ?_
        refine And.intro (by first | omega | (simp only [true_and, and_true]; done) | (simp only [true_and, and_true]; omega)) (And.intro ?_ ?_)
        · subst e0 e2
          omega
        intro z4 e4
        subst e0 e2
        have e5 : z4 = decide ((bx - ax) * (bx - ax) + (cy - ay) * (cy - ay) ≤ 361206749593600) := e4
        clear e4
        dsimp only
        cases o1 <;> cases o2
        · refine bcase_t rfl (bcase_t rfl ?_)
          refine bcase_i (fun h => ?_) (fun h => ?_)
          · have h : z4 = true := h
            rw [e5, decide_eq_true_eq] at h
            refine lfb hk ?_
            clear hk
            rw [Bool.eq_iff_iff]
            simp [h]
          · have h : z4 = false := h
            rw [e5, decide_eq_false_iff_not] at h
            refine lfb hk ?_
            clear hk
            rw [Bool.eq_iff_iff]
            simp only [cond_true, cond_false, Bool.not_eq_true, Bool.not_eq_false, Bool.not_eq_true', Bool.not_eq_false', Bool.or_eq_true, Bool.and_eq_true, beq_iff_eq, bne_iff_ne, decide_eq_true_eq, decide_eq_false_iff_not, decide_true, decide_false, ne_eq, true_iff, false_iff, iff_true, iff_false, reduceCtorEq] at *
            omega
        · exact bcase_t rfl (bcase_f rfl (lfb hk (by simp)))
        · exact bcase_f rfl (lfb hk (by simp))
        · exact bcase_f rfl (lfb hk (by simp))
    · cases hg
  · exact hk.elim
/-- contact.must[Spot] -/
def g81 : GSpec := fun args obs => match args, obs with
  | [.agg [.int .i64 x, .int .i64 y], .int .i64 e], [] => some (e = 0, .ret (.agg [i64 x, i64 y]), [])
  | _, _ => none
theorem k81 (x y e : Int) (K' : Out → List Ob → Prop) : runFn (T21) (noD) noIv a81 [.agg [.int .i64 x, .int .i64 y], .int .i64 e] (lookO []) 0 (closeK K') =
    ((True) ∧
    (True) ∧
    bcase (e != (0 : Int))
     ((V.lt (0 : Nat) (V.ifc (134 : Nat) (V.agg [V.int IntKind.i64 e])) = true) ∧
     K' (Out.pan (V.ifc (nat_lit 134) (V.agg [V.int IntKind.i64 e]))) [])
     ((True) ∧
     K' (Out.ret (V.agg [V.int IntKind.i64 x, V.int IntKind.i64 y])) [])) := by kernel_rfl
theorem r81 : FreshOk Tryz.prog 81 (ofD g81) := by
  refine fresh_of_run T21_ok (noD_ok _) (fun _ _ => noIv) Tryz.func81 c81 fun args obs K' hk => ?_
  unfold ofD g81 at hk
  split at hk
  · rename_i d_ out news hg
    split at hg
    · rename_i x y e
      cases hg
      obtain ⟨hc, hk⟩ := hk
      refine Eq.mpr (k81 x y e K') ⟨trivial, trivial, ?_⟩
      · subst hc
        exact bcase_f (by decide) ⟨trivial, hk⟩
    · cases hg
  · exact hk.elim
/-- contact.must[Fix] -/
def g83 : GSpec := fun args obs => match args, obs with
  | [.int .i64 x, .int .i64 e], [] => some (e = 0, .ret (i64 x), [])
  | _, _ => none
theorem k83 (x e : Int) (K' : Out → List Ob → Prop) : runFn (T21) (noD) noIv a83 [.int .i64 x, .int .i64 e] (lookO []) 0 (closeK K') =
    (bcase (e != (0 : Int))
     ((V.lt (0 : Nat) (V.ifc (134 : Nat) (V.agg [V.int IntKind.i64 e])) = true) ∧
     K' (Out.pan (V.ifc (nat_lit 134) (V.agg [V.int IntKind.i64 e]))) [])
     (K' (Out.ret (V.int IntKind.i64 x)) [])) := by kernel_rfl
theorem r83 : FreshOk Tryz.prog 83 (ofD g83) := by
  refine fresh_of_run T21_ok (noD_ok _) (fun _ _ => noIv) Tryz.func83 c83 fun args obs K' hk => ?_
  unfold ofD g83 at hk
  split at hk
  · rename_i d_ out news hg
    split at hg
    · rename_i x e
      cases hg
      obtain ⟨hc, hk⟩ := hk
      refine Eq.mpr (k83 x e K') ?_
      · subst hc
        exact bcase_f (by decide) hk
    · cases hg
  · exact hk.elim

end Go.Proofs.YtbolfnkgbjkbjaaGreat.AM
