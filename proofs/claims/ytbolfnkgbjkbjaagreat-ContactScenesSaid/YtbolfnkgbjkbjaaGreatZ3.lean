/- Contracts, part 3: Scene. -/
import Derived.Test.YtbolfnkgbjkbjaaGreatZ2
set_option linter.unusedVariables false
set_option linter.unusedSimpArgs false
namespace Go.Proofs.YtbolfnkgbjkbjaaGreat.AM
open Go Go.RowKit
set_option maxRecDepth 100000

abbrev bdName (a b : Bd) : Bool := a.1 == b.1 && a.2.1 == b.2.1
def bdFit (b : Bd) : Bool := decide (bdOk b) && (!b.2.2.2.2.2.2.2 || decide (bdRest b ∧ b.2.2.2.2.2.2.1 = 0))
def sceneGo (seen : List Bd) : List Bd → Bool
  | [] => true
  | b :: r => bdFit b && !(seen.any fun c => bdName c b) && sceneGo (seen ++ [b]) r
theorem take_at {α : Type} (l : List α) (d : α) (x : Nat) (h : x < l.length) : l.take (x + 1) = l.take x ++ [l.getD x d] := by
  rw [List.take_succ_eq_append_getElem h, List.getD_eq_getElem?_getD, List.getElem?_eq_getElem h]; rfl
theorem any_at {α : Type} (f : α → Bool) (l : List α) (d : α) (k i : Nat) (h : k < i) (hi : i ≤ l.length) (hf : f (l.getD k d) = true) : (l.take i).any f = true := by
  rw [List.any_eq_true]
  refine ⟨_, ?_, hf⟩
  rw [List.getD_eq_getElem?_getD, List.getElem?_eq_getElem (by omega)]
  show l[k] ∈ _
  rw [List.mem_take_iff_getElem]
  exact ⟨k, by omega, rfl⟩
theorem sceneGo_cons (s : List Bd) (b : Bd) (r : List Bd) : sceneGo s (b :: r) = (bdFit b && !(s.any fun c => bdName c b) && sceneGo (s ++ [b]) r) := rfl
/-- Is a scene valid? -/
def sceneL (l : List Bd) : Bool := decide (l.length ≤ 16) && sceneGo [] l

def Z3a : Tab := Z1.add 46 (liftA (ofD g46))
theorem Z3a_ok : TabOk Tryz.prog Z3a := Z1_ok.add (entry_of_fresh r46)
abbrev P58_0 (l : List Bd) (c x : Nat × Nat) : Prop := x.1 ≤ l.length ∧ l.length ≤ 16 ∧ sceneGo (l.take x.1) (l.drop x.1) = sceneGo [] l
abbrev M58_0 (l : List Bd) (x : Nat × Nat) : Nat := l.length - x.1
abbrev P58_1 (l : List Bd) (c x : Nat × Nat) : Prop := x.1 = c.1 ∧ x.1 < l.length ∧ l.length ≤ 16 ∧ sceneGo (l.take x.1) (l.drop x.1) = sceneGo [] l ∧ x.2 ≤ x.1 ∧ bdFit (l.getD x.1 bd0) = true ∧ ((l.take x.2).any fun c => bdName c (l.getD x.1 bd0)) = false
abbrev M58_1 (l : List Bd) (x : Nat × Nat) : Nat := x.1 - x.2
def An58 : List V → List Ob → Ann := fun args obs => match args, obs with
  | [.osl 0], [.ro [.int .i64, .int .i64, .int .i64, .int .i64, .int .i64, .int .i64, .int .i64, .bool] l] => ⟨Nat × Nat, default, fun nm c x => match nm with | 0 => P58_0 l c x | _ => P58_1 l c x, fun nm x => match nm with | 0 => M58_0 l x | _ => M58_1 l x, fun nm x => match nm with | 0 => [(0, .osl 0), (3, i64 x.1)] | _ => [(0, .osl 0), (3, i64 x.1), (6, i64 x.2)], fun nm x => match nm with | 0 => [.ro [.int .i64, .int .i64, .int .i64, .int .i64, .int .i64, .int .i64, .int .i64, .bool] l] | _ => [.ro [.int .i64, .int .i64, .int .i64, .int .i64, .int .i64, .int .i64, .int .i64, .bool] l]⟩
  | _, _ => noAnn
theorem c58q : chkFn Tryz.prog Tryz.f58 (a58.lq) = true := by kernel_rfl
/-- ref05.Scene -/
def g58 : GSpec := fun args obs => match args, obs with
  | [.osl 0], [.ro [.int .i64, .int .i64, .int .i64, .int .i64, .int .i64, .int .i64, .int .i64, .bool] l] => some (True, .ret (.bool (sceneL l)), [])
  | _, _ => none
theorem k58 (l : List Bd) (K' : Out → List Ob → Prop) : runQ (Z3a) (noD) (An58 [.osl 0] [.ro [.int .i64, .int .i64, .int .i64, .int .i64, .int .i64, .int .i64, .int .i64, .bool] l]) (a58.lq) [.osl 0] (lookO [.ro [.int .i64, .int .i64, .int .i64, .int .i64, .int .i64, .int .i64, .int .i64, .bool] l]) 1 (closeK K') =
    (bcase (decide ((↑l.length : Int) > (16 : Int)))
     (K' (Out.ret (V.bool false)) [])
     (((∃ y0 : Nat × Nat,
      (P58_0 l (default, default) y0) ∧
      ((True) ∧
       ((0 : Int) = (↑y0.fst : Int)) ∧
       True) ∧
      ((l) = l) ∧
      True)) ∧
     (∀ (z1 : Nat × Nat),
     ((P58_0 l (default, default) z1) →
     bcase (decide ((↑z1.fst : Int) < (↑l.length : Int)))
      (((0 : Int) ≤ (↑z1.fst : Int) ∧ (↑z1.fst : Int) < (↑l.length : Int)) ∧
      ((↑z1.fst : Int).toNat < l.length) ∧
      ((True ∧ True ∧ True ∧ True ∧ True ∧ True ∧ True ∧ True ∧ True) ∧ True) ∧
      (True) ∧
      ((0 : Int) ≤ (↑z1.fst : Int) ∧ (↑z1.fst : Int) < (↑l.length : Int)) ∧
      ((↑z1.fst : Int).toNat < l.length) ∧
      ((True ∧ True ∧ True ∧ True ∧ True ∧ True) ∧ True) ∧
      (True) ∧
      bcase (!decide
    (BodyOk
      (l.getD (↑z1.fst : Int).toNat
          bd0).fst
      (l.getD (↑z1.fst : Int).toNat
            bd0).snd.fst
      (l.getD (↑z1.fst : Int).toNat
              bd0).snd.snd.fst
      (l.getD (↑z1.fst : Int).toNat
                bd0).snd.snd.snd.fst
      (l.getD (↑z1.fst : Int).toNat
                  bd0).snd.snd.snd.snd.fst
      (l.getD (↑z1.fst : Int).toNat
                    bd0).snd.snd.snd.snd.snd.fst
      (l.getD (↑z1.fst : Int).toNat
                      bd0).snd.snd.snd.snd.snd.snd.fst))
       (K' (Out.ret (V.bool false)) [])
       (((0 : Int) ≤ (↑z1.fst : Int) ∧ (↑z1.fst : Int) < (↑l.length : Int)) ∧
       ((↑z1.fst : Int).toNat < l.length) ∧
       bcase ((l.getD (↑z1.fst : Int).toNat
                bd0).snd.snd.snd.snd.snd.snd.snd)
        (bcase (!decide
    ((l.getD (↑z1.fst : Int).toNat
                    bd0).snd.snd.snd.snd.fst =
        (0 : Int) ∧
      (l.getD (↑z1.fst : Int).toNat
                      bd0).snd.snd.snd.snd.snd.fst =
        (0 : Int)))
         (K' (Out.ret (V.bool false)) [])
         (((0 : Int) ≤ (↑z1.fst : Int) ∧ (↑z1.fst : Int) < (↑l.length : Int)) ∧
         ((↑z1.fst : Int).toNat < l.length) ∧
         bcase (bif false then true
  else
  bif true then
    bif false then true
    else
      (l.getD (↑z1.fst : Int).toNat
                        bd0).snd.snd.snd.snd.snd.snd.fst !=
        (0 : Int)
  else false)
          (K' (Out.ret (V.bool false)) [])
          (((∃ y3 : Nat × Nat,
           (P58_1 l z1 y3) ∧
           ((True) ∧
            (((↑z1.fst : Int)) = (↑y3.fst : Int)) ∧
            ((0 : Int) = (↑y3.snd : Int)) ∧
            True) ∧
           ((l) = l) ∧
           True)) ∧
          (∀ (z4 : Nat × Nat),
          ((P58_1 l z1 z4) →
          bcase (decide ((↑z4.snd : Int) < (↑z4.fst : Int)))
           (((0 : Int) ≤ (↑z4.snd : Int) ∧ (↑z4.snd : Int) < (↑l.length : Int)) ∧
           ((↑z4.snd : Int).toNat < l.length) ∧
           ((0 : Int) ≤ (↑z4.fst : Int) ∧ (↑z4.fst : Int) < (↑l.length : Int)) ∧
           ((↑z4.fst : Int).toNat < l.length) ∧
           bcase ((l.getD (↑z4.snd : Int).toNat
      bd0).fst ==
  (l.getD (↑z4.fst : Int).toNat
      bd0).fst)
            (((0 : Int) ≤ (↑z4.snd : Int) ∧ (↑z4.snd : Int) < (↑l.length : Int)) ∧
            ((↑z4.snd : Int).toNat < l.length) ∧
            ((0 : Int) ≤ (↑z4.fst : Int) ∧ (↑z4.fst : Int) < (↑l.length : Int)) ∧
            ((↑z4.fst : Int).toNat < l.length) ∧
            bcase (bif true then
  (l.getD (↑z4.snd : Int).toNat
          bd0).snd.fst ==
    (l.getD (↑z4.fst : Int).toNat
          bd0).snd.fst
  else false)
             (K' (Out.ret (V.bool false)) [])
             ((∃ y6 : Nat × Nat,
             (M58_1 l y6 < M58_1 l z4) ∧
             (P58_1 l z1 y6) ∧
             ((True) ∧
              (((↑z4.fst : Int)) = (↑y6.fst : Int)) ∧
              ((IntKind.i64.wrap ((↑z4.snd : Int) + (1 : Int))) = (↑y6.snd : Int)) ∧
              True) ∧
             ((l) = l) ∧
             True)))
            ((∃ y7 : Nat × Nat,
            (M58_1 l y7 < M58_1 l z4) ∧
            (P58_1 l z1 y7) ∧
            ((True) ∧
             (((↑z4.fst : Int)) = (↑y7.fst : Int)) ∧
             ((IntKind.i64.wrap ((↑z4.snd : Int) + (1 : Int))) = (↑y7.snd : Int)) ∧
             True) ∧
            ((l) = l) ∧
            True)))
           ((∃ y8 : Nat × Nat,
           (M58_0 l y8 < M58_0 l z1) ∧
           (P58_0 l (default, default) y8) ∧
           ((True) ∧
            ((IntKind.i64.wrap ((↑z4.fst : Int) + (1 : Int))) = (↑y8.fst : Int)) ∧
            True) ∧
           ((l) = l) ∧
           True)))))))
        (((∃ y9 : Nat × Nat,
         (P58_1 l z1 y9) ∧
         ((True) ∧
          (((↑z1.fst : Int)) = (↑y9.fst : Int)) ∧
          ((0 : Int) = (↑y9.snd : Int)) ∧
          True) ∧
         ((l) = l) ∧
         True)) ∧
        (∀ (z10 : Nat × Nat),
        ((P58_1 l z1 z10) →
        bcase (decide ((↑z10.snd : Int) < (↑z10.fst : Int)))
         (((0 : Int) ≤ (↑z10.snd : Int) ∧ (↑z10.snd : Int) < (↑l.length : Int)) ∧
         ((↑z10.snd : Int).toNat < l.length) ∧
         ((0 : Int) ≤ (↑z10.fst : Int) ∧ (↑z10.fst : Int) < (↑l.length : Int)) ∧
         ((↑z10.fst : Int).toNat < l.length) ∧
         bcase ((l.getD (↑z10.snd : Int).toNat
      bd0).fst ==
  (l.getD (↑z10.fst : Int).toNat
      bd0).fst)
          (((0 : Int) ≤ (↑z10.snd : Int) ∧ (↑z10.snd : Int) < (↑l.length : Int)) ∧
          ((↑z10.snd : Int).toNat < l.length) ∧
          ((0 : Int) ≤ (↑z10.fst : Int) ∧ (↑z10.fst : Int) < (↑l.length : Int)) ∧
          ((↑z10.fst : Int).toNat < l.length) ∧
          bcase (bif true then
  (l.getD (↑z10.snd : Int).toNat
          bd0).snd.fst ==
    (l.getD (↑z10.fst : Int).toNat
          bd0).snd.fst
  else false)
           (K' (Out.ret (V.bool false)) [])
           ((∃ y12 : Nat × Nat,
           (M58_1 l y12 < M58_1 l z10) ∧
           (P58_1 l z1 y12) ∧
           ((True) ∧
            (((↑z10.fst : Int)) = (↑y12.fst : Int)) ∧
            ((IntKind.i64.wrap ((↑z10.snd : Int) + (1 : Int))) = (↑y12.snd : Int)) ∧
            True) ∧
           ((l) = l) ∧
           True)))
          ((∃ y13 : Nat × Nat,
          (M58_1 l y13 < M58_1 l z10) ∧
          (P58_1 l z1 y13) ∧
          ((True) ∧
           (((↑z10.fst : Int)) = (↑y13.fst : Int)) ∧
           ((IntKind.i64.wrap ((↑z10.snd : Int) + (1 : Int))) = (↑y13.snd : Int)) ∧
           True) ∧
          ((l) = l) ∧
          True)))
         ((∃ y14 : Nat × Nat,
         (M58_0 l y14 < M58_0 l z1) ∧
         (P58_0 l (default, default) y14) ∧
         ((True) ∧
          ((IntKind.i64.wrap ((↑z10.fst : Int) + (1 : Int))) = (↑y14.fst : Int)) ∧
          True) ∧
         ((l) = l) ∧
         True)))))))
      (K' (Out.ret (V.bool true)) []))))) := by kernel_rfl
theorem r58 : FreshOk Tryz.prog 58 (ofD g58) := by
  refine fresh_of_runQ Z3a_ok (noD_ok _) An58 Tryz.func58 c58q fun args obs K' hk => ?_
  unfold ofD g58 at hk
  split at hk
  · rename_i d_ out news hg
    split at hg
    · rename_i l
      cases hg
      obtain ⟨hc, hk⟩ := hk
      obtain ⟨l, rfl⟩ : ∃ v' : List Bd, v' = l := ⟨l, rfl⟩
      refine Eq.mpr (k58 l K') ?_
      refine bcase_i (fun h => ?_) (fun h => ?_)
      · have h : ¬ l.length ≤ 16 := by
          have h2 := of_decide_eq_true h
          omega
        exact lfb hk (by rw [sceneL, decide_eq_false h]; rfl)
      have hl : l.length ≤ 16 := by
        have h2 := of_decide_eq_false h
        omega
      have hs : sceneL l = sceneGo [] l := by simp [sceneL, hl]
      rw [hs] at hk
      refine And.intro ⟨(0, 0), ⟨Nat.zero_le _, hl, rfl⟩, ⟨trivial, rfl, trivial⟩, rfl, trivial⟩ ?_
      rintro ⟨i, k0⟩ ⟨hio, _, hpo⟩
      dsimp only at hio hpo ⊢
      have hp := hpo
      refine bcase_i (fun h => ?_) (fun h => ?_)
      · have h : i < l.length := by
          have h2 := of_decide_eq_true h
          omega
        have hp0 := hpo
        rw [drop_at l bd0 i h, sceneGo_cons] at hp
        refine ⟨⟨by omega, by omega⟩, by omega, ⟨⟨trivial, trivial, trivial, trivial, trivial, trivial, trivial, trivial, trivial⟩, trivial⟩, trivial, ⟨by omega, by omega⟩, by omega, ⟨⟨trivial, trivial, trivial, trivial, trivial, trivial⟩, trivial⟩, trivial, ?_⟩
        simp only [Int.toNat_natCast]
        have hfit : ∀ b : Bd, l.getD i bd0 = b → bdFit b = false → K' (.ret (.bool false)) [] := by
          intro b e hb
          refine lfb hk ?_
          rw [← hp, e, hb]
          rfl
        have hinner : bdFit (l.getD i bd0) = true → P58_1 l (i, k0) (i, 0) := fun hb => ⟨rfl, h, hl, hp0, Nat.zero_le _, hb, rfl⟩
        obtain ⟨b, hb⟩ : ∃ b, l.getD i bd0 = b := ⟨_, rfl⟩
        simp only [hb] at hinner ⊢
        refine bcase_i (fun h1 => ?_) (fun h1 => ?_)
        · exact hfit b hb (by simp only [Bool.not_eq_true'] at h1; simp [bdFit, h1])
        simp only [Bool.not_eq_false', decide_eq_true_eq] at h1
        refine ⟨⟨by omega, by omega⟩, by omega, ?_⟩
        refine bcase_i (fun h2 => ?_) (fun h2 => ?_)
        · refine bcase_i (fun h3 => ?_) (fun h3 => ?_)
          · exact hfit b hb (by simp only [Bool.not_eq_true', decide_eq_false_iff_not] at h3; have e : decide (bdRest b ∧ b.2.2.2.2.2.2.1 = 0) = false := decide_eq_false (fun h => h3 h.1); simp only [bdFit, h2, e]; simp)
          simp only [Bool.not_eq_false', decide_eq_true_eq] at h3
          refine ⟨⟨by omega, by omega⟩, by omega, ?_⟩
          refine bcase_i (fun h4 => ?_) (fun h4 => ?_)
          · have h4 : b.2.2.2.2.2.2.1 ≠ 0 := by simpa using h4
            exact hfit b hb (by simp [bdFit, h2, h4])
          have h4 : b.2.2.2.2.2.2.1 = 0 := by simpa using h4
          replace hinner := hinner (by simp [bdFit, h1, h3, h4])
          refine And.intro ⟨(i, 0), hinner, ⟨by trivial, by trivial, by trivial, trivial⟩, by trivial, trivial⟩ ?_
          clear hio hpo hp0 hfit hp hb
          rintro ⟨i', k⟩ ⟨hii, hi, hl, hp, hki, hb, han⟩
          dsimp only at hii hi hp hki hb han ⊢
          subst hii
          rw [drop_at l bd0 i' hi, sceneGo_cons, hb] at hp
          refine bcase_i (fun g1 => ?_) (fun g1 => ?_)
          · have g1 : k < i' := by
              have h2 := of_decide_eq_true g1
              omega
            have hstep : bdName (l.getD k bd0) (l.getD i' bd0) = false → P58_1 l (i', k0) (i', k + 1) := by
              intro hn
              refine ⟨rfl, hi, hl, ?_, g1, hb, ?_⟩
              · rw [drop_at l bd0 i' hi, sceneGo_cons, hb]; exact hp
              · dsimp only
                rw [take_at l bd0 k (by omega), List.any_append, han]
                show (false || (bdName _ _ || false)) = false
                rw [hn]
                rfl
            have hhit : bdName (l.getD k bd0) (l.getD i' bd0) = true → sceneGo [] l = false := by
              intro hn
              rw [← hp, any_at _ l bd0 k i' g1 (by omega) hn]
              rfl
            refine ⟨⟨by omega, by omega⟩, by omega, ⟨by omega, by omega⟩, by omega, ?_⟩
            try simp only [Int.toNat_natCast]
            obtain ⟨b, hb⟩ : ∃ b, l.getD i' bd0 = b := ⟨_, rfl⟩
            obtain ⟨c, hc⟩ : ∃ c, l.getD k bd0 = c := ⟨_, rfl⟩
            simp only [hb, hc] at hstep hhit ⊢
            refine bcase_i (fun g2 => ?_) (fun g2 => ?_)
            · refine ⟨⟨by omega, by omega⟩, by omega, ⟨by omega, by omega⟩, by omega, ?_⟩
              refine bcase_i (fun g3 => ?_) (fun g3 => ?_)
              · exact lfb hk (hhit (by simp only [bdName, g2]; simpa using g3)).symm
              · exact ⟨(i', k + 1), (by simp only [M58_1]; omega), hstep (by simp only [bdName, g2]; simpa using g3), ⟨by trivial, by trivial, incN k (by omega), trivial⟩, by trivial, trivial⟩
            · exact ⟨(i', k + 1), (by simp only [M58_1]; omega), hstep (by simp only [bdName, g2]; rfl), ⟨by trivial, by trivial, incN k (by omega), trivial⟩, by trivial, trivial⟩
          · have g1 : ¬ k < i' := by
              have h2 := of_decide_eq_false g1
              omega
            have : k = i' := by omega
            subst this
            refine ⟨(k + 1, 0), (by simp only [M58_0]; omega), ⟨hi, hl, ?_⟩, ⟨by trivial, incN k (by omega), trivial⟩, by trivial, trivial⟩
            dsimp only
            rw [← hp, han, take_at l bd0 k hi]
            rfl
        · replace hinner := hinner (by simp [bdFit, h1, h2])
          refine And.intro ⟨(i, 0), hinner, ⟨by trivial, by trivial, by trivial, trivial⟩, by trivial, trivial⟩ ?_
          clear hio hpo hp0 hfit hp hb
          rintro ⟨i', k⟩ ⟨hii, hi, hl, hp, hki, hb, han⟩
          dsimp only at hii hi hp hki hb han ⊢
          subst hii
          rw [drop_at l bd0 i' hi, sceneGo_cons, hb] at hp
          refine bcase_i (fun g1 => ?_) (fun g1 => ?_)
          · have g1 : k < i' := by
              have h2 := of_decide_eq_true g1
              omega
            have hstep : bdName (l.getD k bd0) (l.getD i' bd0) = false → P58_1 l (i', k0) (i', k + 1) := by
              intro hn
              refine ⟨rfl, hi, hl, ?_, g1, hb, ?_⟩
              · rw [drop_at l bd0 i' hi, sceneGo_cons, hb]; exact hp
              · dsimp only
                rw [take_at l bd0 k (by omega), List.any_append, han]
                show (false || (bdName _ _ || false)) = false
                rw [hn]
                rfl
            have hhit : bdName (l.getD k bd0) (l.getD i' bd0) = true → sceneGo [] l = false := by
              intro hn
              rw [← hp, any_at _ l bd0 k i' g1 (by omega) hn]
              rfl
            refine ⟨⟨by omega, by omega⟩, by omega, ⟨by omega, by omega⟩, by omega, ?_⟩
            try simp only [Int.toNat_natCast]
            obtain ⟨b, hb⟩ : ∃ b, l.getD i' bd0 = b := ⟨_, rfl⟩
            obtain ⟨c, hc⟩ : ∃ c, l.getD k bd0 = c := ⟨_, rfl⟩
            simp only [hb, hc] at hstep hhit ⊢
            refine bcase_i (fun g2 => ?_) (fun g2 => ?_)
            · refine ⟨⟨by omega, by omega⟩, by omega, ⟨by omega, by omega⟩, by omega, ?_⟩
              refine bcase_i (fun g3 => ?_) (fun g3 => ?_)
              · exact lfb hk (hhit (by simp only [bdName, g2]; simpa using g3)).symm
              · exact ⟨(i', k + 1), (by simp only [M58_1]; omega), hstep (by simp only [bdName, g2]; simpa using g3), ⟨by trivial, by trivial, incN k (by omega), trivial⟩, by trivial, trivial⟩
            · exact ⟨(i', k + 1), (by simp only [M58_1]; omega), hstep (by simp only [bdName, g2]; rfl), ⟨by trivial, by trivial, incN k (by omega), trivial⟩, by trivial, trivial⟩
          · have g1 : ¬ k < i' := by
              have h2 := of_decide_eq_false g1
              omega
            have : k = i' := by omega
            subst this
            refine ⟨(k + 1, 0), (by simp only [M58_0]; omega), ⟨hi, hl, ?_⟩, ⟨by trivial, incN k (by omega), trivial⟩, by trivial, trivial⟩
            dsimp only
            rw [← hp, han, take_at l bd0 k hi]
            rfl
      · have h : ¬ i < l.length := by
          have h2 := of_decide_eq_false h
          omega
        refine lfb hk ?_
        rw [← hp, List.drop_eq_nil_of_le (by omega)]; rfl
    · cases hg
  · exact hk.elim

end Go.Proofs.YtbolfnkgbjkbjaaGreat.AM
