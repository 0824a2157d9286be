/- Contracts, part 2: still, Same. -/
import Derived.Test.YtbolfnkgbjkbjaaGreatZ1
set_option linter.unusedVariables false
set_option linter.unusedSimpArgs false
namespace Go.Proofs.YtbolfnkgbjkbjaaGreat.AM
open Go Go.RowKit
set_option maxRecDepth 100000

abbrev E8 : ET := [.int .i64, .int .i64, .int .i64, .int .i64, .int .i64, .int .i64, .int .i64, .bool]
abbrev bd0 : den E8 := dflt E8
instance dec2 : DecidableEq (Int × Bool) := instDecidableEqProd
instance dec3 : DecidableEq (Int × Int × Bool) := instDecidableEqProd
instance dec4 : DecidableEq (Int × Int × Int × Bool) := instDecidableEqProd
instance dec5 : DecidableEq (Int × Int × Int × Int × Bool) := instDecidableEqProd
instance dec6 : DecidableEq (Int × Int × Int × Int × Int × Bool) := instDecidableEqProd
instance dec7 : DecidableEq (Int × Int × Int × Int × Int × Int × Bool) := instDecidableEqProd
instance dec8 : DecidableEq Bd := instDecidableEqProd
abbrev bdRest (b : Bd) : Prop := b.2.2.2.2.1 = 0 ∧ b.2.2.2.2.2.1 = 0
def stillL (l : List Bd) : Bool := l.all fun b => b.2.2.2.2.2.2.2 || decide (bdRest b)
theorem still_cons (b : Bd) (l : List Bd) : stillL (b :: l) = ((b.2.2.2.2.2.2.2 || decide (bdRest b)) && stillL l) := rfl
def sameL {α : Type} [DecidableEq α] (l m : List α) : Bool := decide (l = m)
theorem incN (x : Nat) (h : x < 1000000) : IntKind.i64.wrap ((x : Int) + 1) = ((x + 1 : Nat) : Int) := by
  rw [IntWalk.i64_in _ (by omega)]; rfl
theorem drop_at {α : Type} (l : List α) (d : α) (x : Nat) (h : x < l.length) : l.drop x = l.getD x d :: l.drop (x + 1) := by
  rw [List.drop_eq_getElem_cons h, List.getD_eq_getElem?_getD, List.getElem?_eq_getElem h]; rfl

abbrev P61_0 (l : List Bd) (c x : Nat) : Prop := x ≤ l.length ∧ stillL (l.drop x) = stillL l
abbrev M61_0 (l : List Bd) (x : Nat) : Nat := l.length - x
def An61 : List V → List Ob → Ann := fun args obs => match args, obs with
  | [.osl 0], [.ro [.int .i64, .int .i64, .int .i64, .int .i64, .int .i64, .int .i64, .int .i64, .bool] l] => ⟨Nat, default, fun nm c x => P61_0 l c x, fun nm x => M61_0 l x, fun nm x => [(0, .osl 0), (3, i64 x)], fun nm x => [.ro [.int .i64, .int .i64, .int .i64, .int .i64, .int .i64, .int .i64, .int .i64, .bool] l]⟩
  | _, _ => noAnn
theorem c61q : chkFn Tryz.prog Tryz.f61 (a61.lq) = true := by kernel_rfl
/-- ref05.still -/
def g61 : GSpec := fun args obs => match args, obs with
  | [.osl 0], [.ro [.int .i64, .int .i64, .int .i64, .int .i64, .int .i64, .int .i64, .int .i64, .bool] l] => some (l.length < 1000000, .ret (.bool (stillL l)), [])
  | _, _ => none
theorem k61 (l : List Bd) (K' : Out → List Ob → Prop) : runQ (Z1) (noD) (An61 [.osl 0] [.ro [.int .i64, .int .i64, .int .i64, .int .i64, .int .i64, .int .i64, .int .i64, .bool] l]) (a61.lq) [.osl 0] (lookO [.ro [.int .i64, .int .i64, .int .i64, .int .i64, .int .i64, .int .i64, .int .i64, .bool] l]) 1 (closeK K') =
    (((∃ y0 : Nat,
     (P61_0 l Nat.zero y0) ∧
     ((True) ∧
      ((0 : Int) = (↑y0 : Int)) ∧
      True) ∧
     ((l) = l) ∧
     True)) ∧
    (∀ (z1 : Nat),
    ((P61_0 l Nat.zero z1) →
    bcase (decide ((↑z1 : Int) < (↑l.length : Int)))
     (((0 : Int) ≤ (↑z1 : Int) ∧ (↑z1 : Int) < (↑l.length : Int)) ∧
     ((↑z1 : Int).toNat < l.length) ∧
     ((True ∧ True ∧ True ∧ True ∧ True ∧ True) ∧ True) ∧
     (True) ∧
     ((0 : Int) ≤ (↑z1 : Int) ∧ (↑z1 : Int) < (↑l.length : Int)) ∧
     ((↑z1 : Int).toNat < l.length) ∧
     bcase (!(l.getD (↑z1 : Int).toNat
                  bd0).snd.snd.snd.snd.snd.snd.snd)
      (bcase (bif true then
  !decide
      ((l.getD (↑z1 : Int).toNat
                      bd0).snd.snd.snd.snd.fst =
          (0 : Int) ∧
        (l.getD (↑z1 : Int).toNat
                        bd0).snd.snd.snd.snd.snd.fst =
          (0 : Int))
  else false)
       (K' (Out.ret (V.bool false)) [])
       ((∃ y3 : Nat,
       (M61_0 l y3 < M61_0 l z1) ∧
       (P61_0 l Nat.zero y3) ∧
       ((True) ∧
        ((IntKind.i64.wrap ((↑z1 : Int) + (1 : Int))) = (↑y3 : Int)) ∧
        True) ∧
       ((l) = l) ∧
       True)))
      ((∃ y4 : Nat,
      (M61_0 l y4 < M61_0 l z1) ∧
      (P61_0 l Nat.zero y4) ∧
      ((True) ∧
       ((IntKind.i64.wrap ((↑z1 : Int) + (1 : Int))) = (↑y4 : Int)) ∧
       True) ∧
      ((l) = l) ∧
      True)))
     (K' (Out.ret (V.bool true)) [])))) := by kernel_rfl
theorem r61 : FreshOk Tryz.prog 61 (ofD g61) := by
  refine fresh_of_runQ Z1_ok (noD_ok _) An61 Tryz.func61 c61q fun args obs K' hk => ?_
  unfold ofD g61 at hk
  split at hk
  · rename_i d_ out news hg
    split at hg
    · rename_i l
      cases hg
      obtain ⟨hc, hk⟩ := hk
      obtain ⟨l, rfl⟩ : ∃ v' : List Bd, v' = l := ⟨l, rfl⟩
      refine Eq.mpr (k61 l K') ?_
      refine And.intro ⟨0, ⟨Nat.zero_le _, rfl⟩, ⟨trivial, rfl, trivial⟩, rfl, trivial⟩ ?_
      rintro x ⟨hx, hp⟩
      refine bcase_i (fun h => ?_) (fun h => ?_)
      · have h : x < l.length := by simpa using h
        have hd := drop_at l bd0 x h
        rw [hd, still_cons] at hp
        refine ⟨⟨by omega, by omega⟩, h, ⟨⟨trivial, trivial, trivial, trivial, trivial, trivial⟩, trivial⟩, trivial, ⟨by omega, by omega⟩, h, ?_⟩
        rw [Int.toNat_natCast]
        generalize List.getD l x bd0 = b at *
        refine bcase_i (fun h1 => ?_) (fun h1 => ?_)
        · refine bcase_i (fun h2 => ?_) (fun h2 => ?_)
          · refine lfb hk ?_
            rw [← hp]
            simp only [cond_true, Bool.not_eq_true', Bool.not_eq_eq_eq_not, Bool.not_true] at h1 h2
            rw [h1]
            simp [bdRest, h2]
          · refine ⟨x + 1, (by simp only [M61_0]; omega), ⟨h, ?_⟩, ⟨trivial, incN x (by omega), trivial⟩, rfl, trivial⟩
            rw [← hp]
            simp only [cond_true, Bool.not_eq_false'] at h2
            simp [bdRest, h2]
        · refine ⟨x + 1, (by simp only [M61_0]; omega), ⟨h, ?_⟩, ⟨trivial, incN x (by omega), trivial⟩, rfl, trivial⟩
          rw [← hp]
          simp only [Bool.not_eq_false'] at h1
          simp [h1]
      · have h : ¬ x < l.length := by simpa using h
        refine lfb hk ?_
        rw [← hp, List.drop_eq_nil_of_le (by omega)]; rfl
    · cases hg
  · exact hk.elim
abbrev P31_0 (l m : List Bd) (c x : Nat) : Prop := x ≤ l.length ∧ l.length = m.length ∧ sameL (l.drop x) (m.drop x) = sameL l m
abbrev M31_0 (l m : List Bd) (x : Nat) : Nat := l.length - x
def An31 : List V → List Ob → Ann := fun args obs => match args, obs with
  | [.osl 0, .osl 1], [.ro [.int .i64, .int .i64, .int .i64, .int .i64, .int .i64, .int .i64, .int .i64, .bool] l, .ro [.int .i64, .int .i64, .int .i64, .int .i64, .int .i64, .int .i64, .int .i64, .bool] m] => ⟨Nat, default, fun nm c x => P31_0 l m c x, fun nm x => M31_0 l m x, fun nm x => [(0, .osl 0), (1, .osl 1), (5, i64 x)], fun nm x => [.ro [.int .i64, .int .i64, .int .i64, .int .i64, .int .i64, .int .i64, .int .i64, .bool] l, .ro [.int .i64, .int .i64, .int .i64, .int .i64, .int .i64, .int .i64, .int .i64, .bool] m]⟩
  | _, _ => noAnn
theorem c31q : chkFn Tryz.prog Tryz.f31 (a31.lq) = true := by kernel_rfl
/-- ref05.Same -/
def g31 : GSpec := fun args obs => match args, obs with
  | [.osl 0, .osl 1], [.ro [.int .i64, .int .i64, .int .i64, .int .i64, .int .i64, .int .i64, .int .i64, .bool] l, .ro [.int .i64, .int .i64, .int .i64, .int .i64, .int .i64, .int .i64, .int .i64, .bool] m] => some (l.length < 1000000, .ret (.bool (sameL (l : List Bd) m)), [])
  | _, _ => none
theorem k31 (l m : List Bd) (K' : Out → List Ob → Prop) : runQ (Z1) (noD) (An31 [.osl 0, .osl 1] [.ro [.int .i64, .int .i64, .int .i64, .int .i64, .int .i64, .int .i64, .int .i64, .bool] l, .ro [.int .i64, .int .i64, .int .i64, .int .i64, .int .i64, .int .i64, .int .i64, .bool] m]) (a31.lq) [.osl 0, .osl 1] (lookO [.ro [.int .i64, .int .i64, .int .i64, .int .i64, .int .i64, .int .i64, .int .i64, .bool] l, .ro [.int .i64, .int .i64, .int .i64, .int .i64, .int .i64, .int .i64, .int .i64, .bool] m]) 2 (closeK K') =
    (bcase ((↑l.length : Int) != (↑m.length : Int))
     (K' (Out.ret (V.bool false)) [])
     (((∃ y0 : Nat,
      (P31_0 l m Nat.zero y0) ∧
      ((True) ∧
       (True) ∧
       ((0 : Int) = (↑y0 : Int)) ∧
       True) ∧
      ((l) = l) ∧
      ((m) = m) ∧
      True)) ∧
     (∀ (z1 : Nat),
     ((P31_0 l m Nat.zero z1) →
     bcase (decide ((↑z1 : Int) < (↑l.length : Int)))
      (((0 : Int) ≤ (↑z1 : Int) ∧ (↑z1 : Int) < (↑l.length : Int)) ∧
      ((↑z1 : Int).toNat < l.length) ∧
      ((0 : Int) ≤ (↑z1 : Int) ∧ (↑z1 : Int) < (↑m.length : Int)) ∧
      ((↑z1 : Int).toNat < m.length) ∧
      bcase (!((l.getD (↑z1 : Int).toNat
          bd0).fst ==
      (m.getD (↑z1 : Int).toNat
          bd0).fst &&
    ((l.getD (↑z1 : Int).toNat
              bd0).snd.fst ==
        (m.getD (↑z1 : Int).toNat
              bd0).snd.fst &&
      ((l.getD (↑z1 : Int).toNat
                  bd0).snd.snd.fst ==
          (m.getD (↑z1 : Int).toNat
                  bd0).snd.snd.fst &&
        ((l.getD (↑z1 : Int).toNat
                      bd0).snd.snd.snd.fst ==
            (m.getD (↑z1 : Int).toNat
                      bd0).snd.snd.snd.fst &&
          ((l.getD (↑z1 : Int).toNat
                          bd0).snd.snd.snd.snd.fst ==
              (m.getD (↑z1 : Int).toNat
                          bd0).snd.snd.snd.snd.fst &&
            ((l.getD (↑z1 : Int).toNat
                              bd0).snd.snd.snd.snd.snd.fst ==
                (m.getD (↑z1 : Int).toNat
                              bd0).snd.snd.snd.snd.snd.fst &&
              ((l.getD (↑z1 : Int).toNat
                                  bd0).snd.snd.snd.snd.snd.snd.fst ==
                  (m.getD (↑z1 : Int).toNat
                                  bd0).snd.snd.snd.snd.snd.snd.fst &&
                ((l.getD (↑z1 : Int).toNat
                                    bd0).snd.snd.snd.snd.snd.snd.snd ==
                    (m.getD (↑z1 : Int).toNat
                                    bd0).snd.snd.snd.snd.snd.snd.snd &&
                  true)))))))))
       (K' (Out.ret (V.bool false)) [])
       ((∃ y3 : Nat,
       (M31_0 l m y3 < M31_0 l m z1) ∧
       (P31_0 l m Nat.zero y3) ∧
       ((True) ∧
        (True) ∧
        ((IntKind.i64.wrap ((↑z1 : Int) + (1 : Int))) = (↑y3 : Int)) ∧
        True) ∧
       ((l) = l) ∧
       ((m) = m) ∧
       True)))
      (K' (Out.ret (V.bool true)) []))))) := by kernel_rfl
theorem r31 : FreshOk Tryz.prog 31 (ofD g31) := by
  refine fresh_of_runQ Z1_ok (noD_ok _) An31 Tryz.func31 c31q fun args obs K' hk => ?_
  unfold ofD g31 at hk
  split at hk
  · rename_i d_ out news hg
    split at hg
    · rename_i l m
      cases hg
      obtain ⟨hc, hk⟩ := hk
      obtain ⟨l, rfl⟩ : ∃ v' : List Bd, v' = l := ⟨l, rfl⟩
      obtain ⟨m, rfl⟩ : ∃ v' : List Bd, v' = m := ⟨m, rfl⟩
      refine Eq.mpr (k31 l m K') ?_
      refine bcase_i (fun h => ?_) (fun h => ?_)
      · have h : l.length ≠ m.length := fun e => by simp [e] at h
        refine lfb hk ?_
        symm
        exact decide_eq_false fun e => h (by rw [e])
      have hlm : l.length = m.length := by
        have h2 : (l.length : Int) = m.length := by simpa using h
        omega
      refine And.intro ⟨0, ⟨Nat.zero_le _, hlm, rfl⟩, ⟨trivial, trivial, rfl, trivial⟩, rfl, rfl, trivial⟩ ?_
      rintro x ⟨hx, _, hp⟩
      refine bcase_i (fun h => ?_) (fun h => ?_)
      · have h : x < l.length := by simpa using h
        rw [drop_at l bd0 x h, drop_at m bd0 x (by omega)] at hp
        refine ⟨⟨by omega, by omega⟩, h, ⟨by omega, by omega⟩, by omega, ?_⟩
        rw [Int.toNat_natCast]
        generalize List.getD l x bd0 = b at *
        generalize List.getD m x bd0 = c at *
        obtain ⟨b1, b2, b3, b4, b5, b6, b7, b8⟩ := b
        obtain ⟨c1, c2, c3, c4, c5, c6, c7, c8⟩ := c
        refine bcase_i (fun h1 => ?_) (fun h1 => ?_)
        · refine lfb hk ?_
          rw [← hp]
          symm
          refine decide_eq_false fun e => ?_
          obtain ⟨e, _⟩ := List.cons.inj e
          cases e
          simp at h1
        · refine ⟨x + 1, (by simp only [M31_0]; omega), ⟨h, hlm, ?_⟩, ⟨trivial, trivial, incN x (by omega), trivial⟩, rfl, rfl, trivial⟩
          rw [← hp]
          simp only [Bool.not_eq_false', Bool.and_eq_true, beq_iff_eq] at h1
          obtain ⟨rfl, rfl, rfl, rfl, rfl, rfl, rfl, rfl, _⟩ := h1
          simp [sameL]
      · have h : ¬ x < l.length := by simpa using h
        refine lfb hk ?_
        rw [← hp, List.drop_eq_nil_of_le (by omega), List.drop_eq_nil_of_le (by omega)]; rfl
    · cases hg
  · exact hk.elim

end Go.Proofs.YtbolfnkgbjkbjaaGreat.AM
