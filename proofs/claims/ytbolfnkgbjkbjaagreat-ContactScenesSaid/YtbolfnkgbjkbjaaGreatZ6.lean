/- Contracts, part 6: ContactScenes. -/
import Derived.Test.YtbolfnkgbjkbjaaGreatZ5
set_option linter.unusedVariables false
set_option linter.unusedSimpArgs false
namespace Go.Proofs.YtbolfnkgbjkbjaaGreat.AM
open Go Go.RowKit
set_option maxRecDepth 100000

theorem sameL_refl {α : Type} [DecidableEq α] (l : List α) : sameL l l = true := decide_eq_true rfl
theorem stonesL_le : ∀ l : List Bd, (stonesL l).length ≤ l.length
  | [] => Nat.le_refl _
  | b :: l => by
    have := stonesL_le l
    simp only [stonesL]
    cases b.2.2.2.2.2.2.2 <;> simp <;> omega

abbrev P30_0 (l m : List St4) (c x : Nat) : Prop := x ≤ l.length ∧ l.length = m.length ∧ sameL (l.drop x) (m.drop x) = sameL l m
abbrev M30_0 (l m : List St4) (x : Nat) : Nat := l.length - x
def An30 : List V → List Ob → Ann := fun args obs => match args, obs with
  | [.osl 0, .osl 1], [.ro [.int .i64, .int .i64, .int .i64, .int .i64] l, .ro [.int .i64, .int .i64, .int .i64, .int .i64] m] => ⟨Nat, default, fun nm c x => P30_0 l m c x, fun nm x => M30_0 l m x, fun nm x => [(0, .osl 0), (1, .osl 1), (5, i64 x)], fun nm x => [.ro [.int .i64, .int .i64, .int .i64, .int .i64] l, .ro [.int .i64, .int .i64, .int .i64, .int .i64] m]⟩
  | _, _ => noAnn
theorem c30q : chkFn Tryz.prog Tryz.f30 (a30.lq) = true := by kernel_rfl
/-- ref05.Placed -/
def g30 : GSpec := fun args obs => match args, obs with
  | [.osl 0, .osl 1], [.ro [.int .i64, .int .i64, .int .i64, .int .i64] l, .ro [.int .i64, .int .i64, .int .i64, .int .i64] m] => some (l.length < 1000000, .ret (.bool (sameL (l : List St4) m)), [])
  | _, _ => none
theorem k30 (l m : List St4) (K' : Out → List Ob → Prop) : runQ (Z1) (noD) (An30 [.osl 0, .osl 1] [.ro [.int .i64, .int .i64, .int .i64, .int .i64] l, .ro [.int .i64, .int .i64, .int .i64, .int .i64] m]) (a30.lq) [.osl 0, .osl 1] (lookO [.ro [.int .i64, .int .i64, .int .i64, .int .i64] l, .ro [.int .i64, .int .i64, .int .i64, .int .i64] m]) 2 (closeK K') =
    (bcase ((↑l.length : Int) != (↑m.length : Int))
     (K' (Out.ret (V.bool false)) [])
     (((∃ y0 : Nat,
      (P30_0 l m Nat.zero y0) ∧
      ((True) ∧
       (True) ∧
       ((0 : Int) = (↑y0 : Int)) ∧
       True) ∧
      ((l) = l) ∧
      ((m) = m) ∧
      True)) ∧
     (∀ (z1 : Nat),
     ((P30_0 l m Nat.zero z1) →
     bcase (decide ((↑z1 : Int) < (↑l.length : Int)))
      (((0 : Int) ≤ (↑z1 : Int) ∧ (↑z1 : Int) < (↑l.length : Int)) ∧
      ((↑z1 : Int).toNat < l.length) ∧
      ((0 : Int) ≤ (↑z1 : Int) ∧ (↑z1 : Int) < (↑m.length : Int)) ∧
      ((↑z1 : Int).toNat < m.length) ∧
      bcase (!((l.getD (↑z1 : Int).toNat
          st0).fst ==
      (m.getD (↑z1 : Int).toNat
          st0).fst &&
    ((l.getD (↑z1 : Int).toNat
              st0).snd.fst ==
        (m.getD (↑z1 : Int).toNat
              st0).snd.fst &&
      ((l.getD (↑z1 : Int).toNat
                  st0).snd.snd.fst ==
          (m.getD (↑z1 : Int).toNat
                  st0).snd.snd.fst &&
        ((l.getD (↑z1 : Int).toNat
                    st0).snd.snd.snd ==
            (m.getD (↑z1 : Int).toNat
                    st0).snd.snd.snd &&
          true)))))
       (K' (Out.ret (V.bool false)) [])
       ((∃ y3 : Nat,
       (M30_0 l m y3 < M30_0 l m z1) ∧
       (P30_0 l m Nat.zero y3) ∧
       ((True) ∧
        (True) ∧
        ((IntKind.i64.wrap ((↑z1 : Int) + (1 : Int))) = (↑y3 : Int)) ∧
        True) ∧
       ((l) = l) ∧
       ((m) = m) ∧
       True)))
      (K' (Out.ret (V.bool true)) []))))) := by kernel_rfl
theorem r30 : FreshOk Tryz.prog 30 (ofD g30) := by
  refine fresh_of_runQ Z1_ok (noD_ok _) An30 Tryz.func30 c30q fun args obs K' hk => ?_
  unfold ofD g30 at hk
  split at hk
  · rename_i d_ out news hg
    split at hg
    · rename_i l m
      cases hg
      obtain ⟨hc, hk⟩ := hk
      obtain ⟨l, rfl⟩ : ∃ v' : List St4, v' = l := ⟨l, rfl⟩
      obtain ⟨m, rfl⟩ : ∃ v' : List St4, v' = m := ⟨m, rfl⟩
      refine Eq.mpr (k30 l m K') ?_
      refine bcase_i (fun h => ?_) (fun h => ?_)
      · have h : l.length ≠ m.length := fun e => by simp [e] at h
        refine lfb hk ?_
        symm
        exact decide_eq_false fun e => h (by rw [e])
      have hlm : l.length = m.length := by
        have h2 : (l.length : Int) = m.length := by simpa using h
        omega
      refine And.intro ⟨0, ⟨Nat.zero_le _, hlm, rfl⟩, ⟨trivial, trivial, rfl, trivial⟩, rfl, rfl, trivial⟩ ?_
      rintro x ⟨hx, _, hp⟩
      refine bcase_i (fun h => ?_) (fun h => ?_)
      · have h : x < l.length := by simpa using h
        rw [drop_at l st0 x h, drop_at m st0 x (by omega)] at hp
        refine ⟨⟨by omega, by omega⟩, h, ⟨by omega, by omega⟩, by omega, ?_⟩
        rw [Int.toNat_natCast]
        generalize List.getD l x st0 = b at *
        generalize List.getD m x st0 = c at *
        obtain ⟨b1, b2, b3, b4⟩ := b
        obtain ⟨c1, c2, c3, c4⟩ := c
        refine bcase_i (fun h1 => ?_) (fun h1 => ?_)
        · refine lfb hk ?_
          rw [← hp]
          symm
          refine decide_eq_false fun e => ?_
          obtain ⟨e, _⟩ := List.cons.inj e
          cases e
          simp at h1
        · refine ⟨x + 1, (by simp only [M30_0]; omega), ⟨h, hlm, ?_⟩, ⟨trivial, trivial, incN x (by omega), trivial⟩, rfl, rfl, trivial⟩
          rw [← hp]
          simp only [Bool.not_eq_false', Bool.and_eq_true, beq_iff_eq] at h1
          obtain ⟨rfl, rfl, rfl, rfl, _⟩ := h1
          simp [sameL]
      · have h : ¬ x < l.length := by simpa using h
        refine lfb hk ?_
        rw [← hp, List.drop_eq_nil_of_le (by omega), List.drop_eq_nil_of_le (by omega)]; rfl
    · cases hg
  · exact hk.elim
def Z6 : Tab := (((((((((((((noTab.add 19 (liftA (ofD g19))).add 20 (liftA (ofD g20))).add 21 (liftA (ofD g21))).add 22 (liftA (ofD g22))).add 23 (liftA (ofD g23))).add 24 (liftA (ofD g24))).add 25 (liftA (ofD g25))).add 26 (liftA (ofD g26))).add 27 (liftA (ofD g27))).add 28 (liftA (ofD g28))).add 29 (liftA (ofD g29))).add 30 (liftA (ofD g30))).add 31 (liftA (ofD g31)))
theorem Z6_ok : TabOk Tryz.prog Z6 := ((((((((((((((noTab_ok _).add (entry_of_fresh r19)).add (entry_of_fresh r20)).add (entry_of_fresh r21)).add (entry_of_fresh r22)).add (entry_of_fresh r23)).add (entry_of_fresh r24)).add (entry_of_fresh r25)).add (entry_of_fresh r26)).add (entry_of_fresh r27)).add (entry_of_fresh r28)).add (entry_of_fresh r29)).add (entry_of_fresh r30)).add (entry_of_fresh r31))
/-- ContactScenes -/
def g4 : GSpec := fun args obs => match args, obs with
  | [.osl 0, .osl 1], [.ro [.int .i64, .int .i64, .int .i64, .int .i64, .int .i64, .int .i64, .int .i64, .bool] l, .ro [.int .i64, .int .i64, .int .i64, .int .i64] s] => some (True, .ret (.bool true), [])
  | _, _ => none
theorem k4 (l : List Bd) (s : List St4) (K' : Out → List Ob → Prop) : runFn (Z6) (noD) noIv a4 [.osl 0, .osl 1] (lookO [.ro [.int .i64, .int .i64, .int .i64, .int .i64, .int .i64, .int .i64, .int .i64, .bool] l, .ro [.int .i64, .int .i64, .int .i64, .int .i64] s]) 2 (closeK K') =
    (bcase (decide ((↑l.length : Int) > (20 : Int)))
     ((True) ∧
     (True) ∧
     K' (Out.ret (V.bool true)) [])
     (bcase (bif false then true else decide ((↑s.length : Int) > (20 : Int)))
      ((True) ∧
      (True) ∧
      K' (Out.ret (V.bool true)) [])
      ((True ∧ True) ∧
      (True) ∧
      (True) ∧
      (True) ∧
      (True ∧ True) ∧
      (True) ∧
      (True) ∧
      (True) ∧
      (True ∧ True) ∧
      (True) ∧
      (True ∧ True) ∧
      (True) ∧
      (True ∧ True) ∧
      (True) ∧
      (True ∧ True) ∧
      (True) ∧
      (True ∧ True) ∧
      (True) ∧
      (True ∧ True) ∧
      (True) ∧
      (True ∧ True) ∧
      (True) ∧
      (True ∧ True) ∧
      (True) ∧
      bcase (errI (sceneL l) == errI (sceneL l))
       (bcase (bif true then
  ((bif sceneL l then momX l else (0 : Int)) == bif sceneL l then momX l else (0 : Int)) &&
    (((bif sceneL l then momY l else (0 : Int)) == bif sceneL l then momY l else (0 : Int)) && true)
  else false)
        (bcase (bif true then errI (sceneL l) == errI (sceneL l) else false)
         (bcase (bif true then (sceneL l && stillL l) == (sceneL l && stillL l) else false)
          (bcase (bif true then errI (sceneL l) == errI (sceneL l) else false)
           ((True ∧ True ∧ True) ∧
           ((bif sceneL l then stonesL l else []).length < (1000000 : Nat)) ∧
           bcase (bif true then sameL (bif sceneL l then stonesL l else []) (bif sceneL l then stonesL l else []) else false)
            (bcase (bif true then errI (sceneL l) == errI (sceneL l) else false)
             ((True ∧ True ∧ True) ∧
             ((bif sceneL (List.map placeB s) then List.map placeB s else []).length < (1000000 : Nat)) ∧
             bcase (bif true then
  sameL (bif sceneL (List.map placeB s) then List.map placeB s else [])
    (bif sceneL (List.map placeB s) then List.map placeB s else [])
  else false)
              (bcase (bif true then
  (if (16 : Nat) < s.length then (3 : Int) else errI (sceneL (List.map placeB s))) ==
    if (16 : Nat) < s.length then (3 : Int) else errI (sceneL (List.map placeB s))
  else false)
               ((True) ∧
               (True) ∧
               K' (Out.ret (V.bool (bif true then true else false))) [])
               (K' (Out.ret (V.bool false)) []))
              (K' (Out.ret (V.bool false)) []))
             (K' (Out.ret (V.bool false)) []))
            (K' (Out.ret (V.bool false)) []))
           (K' (Out.ret (V.bool false)) []))
          (K' (Out.ret (V.bool false)) []))
         (K' (Out.ret (V.bool false)) []))
        (K' (Out.ret (V.bool false)) []))
       (K' (Out.ret (V.bool false)) [])))) := by kernel_rfl
theorem r4 : FreshOk Tryz.prog 4 (ofD g4) := by
  refine fresh_of_run Z6_ok (noD_ok _) (fun _ _ => noIv) Tryz.func4 c4 fun args obs K' hk => ?_
  unfold ofD g4 at hk
  split at hk
  · rename_i d_ out news hg
    split at hg
    · rename_i l s
      cases hg
      obtain ⟨hc, hk⟩ := hk
      refine Eq.mpr (k4 l s K') ?_
      · have hk1 : K' (.ret (.bool true)) [] := hk
        refine bcase_i (fun h => ?_) (fun h => ?_)
        · exact ⟨trivial, trivial, hk⟩
        refine bcase_i (fun h2 => ?_) (fun h2 => ?_)
        · exact ⟨trivial, trivial, hk⟩
        have hl : l.length ≤ 20 := by
          have h := of_decide_eq_false h
          omega
        have hs : s.length ≤ 20 := by
          have h2 : decide ((s.length : Int) > 20) = false := h2
          have h := of_decide_eq_false h2
          omega
        repeat refine And.intro (by first | exact trivial | exact ⟨trivial, trivial⟩) ?_
        refine bcase_t (by simp) (bcase_t (by simp) (bcase_t (by simp) (bcase_t (by simp) (bcase_t (by simp) ?_))))
        refine And.intro ⟨trivial, trivial, trivial⟩ (And.intro ?_ ?_)
        · have := stonesL_le l
          cases sceneL l
          · simp
          · simp only [cond_true]; omega
        refine bcase_t (by simp [sameL_refl]) (bcase_t (by simp) ?_)
        refine And.intro ⟨trivial, trivial, trivial⟩ (And.intro ?_ ?_)
        · cases sceneL (s.map placeB)
          · simp
          · simp only [cond_true, List.length_map]; omega
        refine bcase_t (by simp [sameL_refl]) (bcase_t (by simp) ?_)
        exact ⟨trivial, trivial, hk⟩
    · cases hg
  · exact hk.elim

end Go.Proofs.YtbolfnkgbjkbjaaGreat.AM
