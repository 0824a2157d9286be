/- Contracts, part 4: the document: scenes. -/
import Derived.Test.YtbolfnkgbjkbjaaGreatZ3
set_option linter.unusedVariables false
set_option linter.unusedSimpArgs false
namespace Go.Proofs.YtbolfnkgbjkbjaaGreat.AM
open Go Go.RowKit
set_option maxRecDepth 100000

theorem lfk {K' : Out → List Ob → Prop} {o o' : Out} {n n' : List Ob} (h : K' o n) (e1 : o' = o) (e2 : n' = n) : K' o' n' := by rw [e1, e2]; exact h
abbrev St4 := Int × Int × Int × Int
abbrev E4 : ET := [.int .i64, .int .i64, .int .i64, .int .i64]
abbrev st0 : den E4 := dflt E4
instance dec4i : DecidableEq St4 := instDecidableEqProd
def stoneOf (b : Bd) : St4 := (b.1, b.2.1, b.2.2.1, b.2.2.2.1)
def stonesL : List Bd → List St4
  | [] => []
  | b :: l => bif b.2.2.2.2.2.2.2 then stonesL l else stoneOf b :: stonesL l
def placeB (s : St4) : Bd := (s.1, s.2.1, s.2.2.1, s.2.2.2, 0, 0, 0, false)
def momX : List Bd → Int
  | [] => 0
  | b :: l => b.2.2.2.2.1 + momX l
def momY : List Bd → Int
  | [] => 0
  | b :: l => b.2.2.2.2.2.1 + momY l
theorem sceneGo_ok : ∀ (l s : List Bd), sceneGo s l = true → ∀ b ∈ l, bdFit b = true
  | b :: l, s, h, c, hc => by
    simp only [sceneGo, Bool.and_eq_true] at h
    rcases List.mem_cons.1 hc with rfl | hc
    · exact h.1.1
    · exact sceneGo_ok l _ h.2 c hc
theorem sceneL_ok {l : List Bd} (h : sceneL l = true) : l.length ≤ 16 ∧ ∀ b ∈ l, bdOk b := by
  simp only [sceneL, Bool.and_eq_true, decide_eq_true_eq] at h
  refine ⟨h.1, fun b hb => ?_⟩
  have := sceneGo_ok l [] h.2 b hb
  simp only [bdFit, Bool.and_eq_true, decide_eq_true_eq] at this
  exact this.1
theorem getD_mem {α : Type} (l : List α) (d : α) (x : Nat) (h : x < l.length) : l.getD x d ∈ l := by
  rw [List.getD_eq_getElem?_getD, List.getElem?_eq_getElem h]
  exact List.getElem_mem h
def errI (b : Bool) : Int := bif b then 0 else 2

def Z4a_0 : Tab := Z1.add 58 (liftA (ofD g58))
def Z4a : Tab := Z4a_0.add 61 (liftA (ofD g61))
theorem Z4a_0_ok : TabOk Tryz.prog Z4a_0 := Z1_ok.add (entry_of_fresh r58)
theorem Z4a_ok : TabOk Tryz.prog Z4a := Z4a_0_ok.add (entry_of_fresh r61)
/-- ref05.Check -/
def g29 : GSpec := fun args obs => match args, obs with
  | [.osl 0], [.ro [.int .i64, .int .i64, .int .i64, .int .i64, .int .i64, .int .i64, .int .i64, .bool] l] => some (True, .ret (i64 (errI (sceneL l))), [])
  | _, _ => none
theorem k29 (l : List Bd) (K' : Out → List Ob → Prop) : runFn (Z4a) (noD) noIv a29 [.osl 0] (lookO [.ro [.int .i64, .int .i64, .int .i64, .int .i64, .int .i64, .int .i64, .int .i64, .bool] l]) 1 (closeK K') =
    ((True ∧ True) ∧
    (True) ∧
    bcase (!sceneL l)
     (K' (Out.ret (V.int IntKind.i64 (2 : Int))) [])
     (K' (Out.ret (V.int IntKind.i64 (0 : Int))) [])) := by kernel_rfl
theorem r29 : FreshOk Tryz.prog 29 (ofD g29) := by
  refine fresh_of_run Z4a_ok (noD_ok _) (fun _ _ => noIv) Tryz.func29 c29 fun args obs K' hk => ?_
  unfold ofD g29 at hk
  split at hk
  · rename_i d_ out news hg
    split at hg
    · rename_i l
      cases hg
      obtain ⟨hc, hk⟩ := hk
      refine Eq.mpr (k29 l K') ⟨⟨trivial, trivial⟩, trivial, ?_⟩
      · refine bcase_i (fun h => ?_) (fun h => ?_)
        · simp only [Bool.not_eq_true'] at h
          exact lfk hk (by rw [h]; rfl) rfl
        · simp only [Bool.not_eq_false'] at h
          exact lfk hk (by rw [h]; rfl) rfl
    · cases hg
  · exact hk.elim
/-- ref05.Still -/
def g23 : GSpec := fun args obs => match args, obs with
  | [.osl 0], [.ro [.int .i64, .int .i64, .int .i64, .int .i64, .int .i64, .int .i64, .int .i64, .bool] l] => some (True, .ret (.tup [.bool (sceneL l && stillL l), i64 (errI (sceneL l))]), [])
  | _, _ => none
theorem k23 (l : List Bd) (K' : Out → List Ob → Prop) : runFn (Z4a) (noD) noIv a23 [.osl 0] (lookO [.ro [.int .i64, .int .i64, .int .i64, .int .i64, .int .i64, .int .i64, .int .i64, .bool] l]) 1 (closeK K') =
    ((True ∧ True) ∧
    (True) ∧
    bcase (!sceneL l)
     (K' (Out.ret (V.tup [V.bool false, V.int IntKind.i64 (2 : Int)])) [])
     ((True ∧ True) ∧
     (l.length < (1000000 : Nat)) ∧
     K' (Out.ret (V.tup [V.bool (stillL l), V.int IntKind.i64 (0 : Int)])) [])) := by kernel_rfl
theorem r23 : FreshOk Tryz.prog 23 (ofD g23) := by
  refine fresh_of_run Z4a_ok (noD_ok _) (fun _ _ => noIv) Tryz.func23 c23 fun args obs K' hk => ?_
  unfold ofD g23 at hk
  split at hk
  · rename_i d_ out news hg
    split at hg
    · rename_i l
      cases hg
      obtain ⟨hc, hk⟩ := hk
      refine Eq.mpr (k23 l K') ⟨⟨trivial, trivial⟩, trivial, ?_⟩
      · refine bcase_i (fun h => ?_) (fun h => ?_)
        · have h : sceneL l = false := by simpa using h
          exact (lfk hk (by rw [h]; rfl) rfl)
        have hs : sceneL l = true := by simpa using h
        obtain ⟨hl, hbs⟩ := sceneL_ok hs
        exact ⟨⟨trivial, trivial⟩, by omega, lfk hk (by rw [hs]; rfl) rfl⟩
    · cases hg
  · exact hk.elim
abbrev P21_0 (l : List Bd) (c x : Nat × Int × Int) : Prop := x.1 ≤ l.length ∧ sceneL l = true ∧ x.2.1 + momX (l.drop x.1) = momX l ∧ x.2.2 + momY (l.drop x.1) = momY l ∧ (-(x.1 : Int) * 65536000 ≤ x.2.1 ∧ x.2.1 ≤ x.1 * 65536000) ∧ -(x.1 : Int) * 65536000 ≤ x.2.2 ∧ x.2.2 ≤ x.1 * 65536000
abbrev M21_0 (l : List Bd) (x : Nat × Int × Int) : Nat := l.length - x.1
def An21 : List V → List Ob → Ann := fun args obs => match args, obs with
  | [.osl 0], [.ro [.int .i64, .int .i64, .int .i64, .int .i64, .int .i64, .int .i64, .int .i64, .bool] l] => ⟨Nat × Int × Int, default, fun nm c x => P21_0 l c x, fun nm x => M21_0 l x, fun nm x => [(0, .osl 0), (2, .ptr 1 0 0 0), (5, .ptr 2 0 0 0), (6, i64 x.1)], fun nm x => [.ro [.int .i64, .int .i64, .int .i64, .int .i64, .int .i64, .int .i64, .int .i64, .bool] l, .var 24 [i64 0, i64 0], .var 24 [i64 x.2.1, i64 x.2.2]]⟩
  | _, _ => noAnn
theorem c21q : chkFn Tryz.prog Tryz.f21 (a21.lq) = true := by kernel_rfl
/-- ref05.Momentum -/
def g21 : GSpec := fun args obs => match args, obs with
  | [.osl 0], [.ro [.int .i64, .int .i64, .int .i64, .int .i64, .int .i64, .int .i64, .int .i64, .bool] l] => some (True, .ret (.tup [.agg [i64 (bif sceneL l then momX l else 0), i64 (bif sceneL l then momY l else 0)], i64 (errI (sceneL l))]), [])
  | _, _ => none
theorem k21 (l : List Bd) (K' : Out → List Ob → Prop) : runQ (Z4a) (noD) (An21 [.osl 0] [.ro [.int .i64, .int .i64, .int .i64, .int .i64, .int .i64, .int .i64, .int .i64, .bool] l]) (a21.lq) [.osl 0] (lookO [.ro [.int .i64, .int .i64, .int .i64, .int .i64, .int .i64, .int .i64, .int .i64, .bool] l]) 1 (closeK K') =
    ((True) ∧
    (True ∧ True) ∧
    (True) ∧
    bcase (!sceneL l)
     ((True) ∧
     K' (Out.ret (V.tup [V.agg [V.int IntKind.i64 (0 : Int), V.int IntKind.i64 (0 : Int)], V.int IntKind.i64 (2 : Int)])) [])
     ((True) ∧
     (True) ∧
     ((∃ y0 : Nat × Int × Int,
      (P21_0 l (default, default) y0) ∧
      ((True) ∧
       ((nat_lit 0) = nat_lit 0) ∧
       ((nat_lit 0) = nat_lit 0) ∧
       ((0 : Int) = (↑y0.fst : Int)) ∧
       True) ∧
      ((l) = l) ∧
      (((0 : Int) = (0 : Int)) ∧
       ((0 : Int) = (0 : Int)) ∧
       True) ∧
      (((0 : Int) = y0.snd.fst) ∧
       ((0 : Int) = y0.snd.snd) ∧
       True) ∧
      True)) ∧
     (∀ (z1 : Nat × Int × Int),
     ((P21_0 l (default, default) z1) →
     bcase (decide ((↑z1.fst : Int) < (↑l.length : Int)))
      (((0 : Int) ≤ (↑z1.fst : Int) ∧ (↑z1.fst : Int) < (↑l.length : Int)) ∧
      ((↑z1.fst : Int).toNat < l.length) ∧
      (True) ∧
      ((0 : Int) ≤ (↑z1.fst : Int) ∧ (↑z1.fst : Int) < (↑l.length : Int)) ∧
      ((↑z1.fst : Int).toNat < l.length) ∧
      (True) ∧
      (∃ y3 : Nat × Int × Int,
      (M21_0 l y3 < M21_0 l z1) ∧
      (P21_0 l (default, default) y3) ∧
      ((True) ∧
       ((nat_lit 0) = nat_lit 0) ∧
       ((nat_lit 0) = nat_lit 0) ∧
       ((IntKind.i64.wrap ((↑z1.fst : Int) + (1 : Int))) = (↑y3.fst : Int)) ∧
       True) ∧
      ((l) = l) ∧
      (((0 : Int) = (0 : Int)) ∧
       ((0 : Int) = (0 : Int)) ∧
       True) ∧
      (((IntKind.i64.wrap
  (z1.snd.fst +
    (l.getD (↑z1.fst : Int).toNat
                bd0).snd.snd.snd.snd.fst)) = y3.snd.fst) ∧
       ((IntKind.i64.wrap
  (z1.snd.snd +
    (l.getD (↑z1.fst : Int).toNat
                  bd0).snd.snd.snd.snd.snd.fst)) = y3.snd.snd) ∧
       True) ∧
      True))
      ((True) ∧
      K' (Out.ret (V.tup [V.agg [V.int IntKind.i64 z1.snd.fst, V.int IntKind.i64 z1.snd.snd], V.int IntKind.i64 (0 : Int)]))
  []))))) := by kernel_rfl
theorem r21 : FreshOk Tryz.prog 21 (ofD g21) := by
  refine fresh_of_runQ Z4a_ok (noD_ok _) An21 Tryz.func21 c21q fun args obs K' hk => ?_
  unfold ofD g21 at hk
  split at hk
  · rename_i d_ out news hg
    split at hg
    · rename_i l
      cases hg
      obtain ⟨hc, hk⟩ := hk
      obtain ⟨l, rfl⟩ : ∃ v' : List Bd, v' = l := ⟨l, rfl⟩
      refine Eq.mpr (k21 l K') ?_
      refine ⟨trivial, ⟨trivial, trivial⟩, trivial, ?_⟩
      refine bcase_i (fun h => ?_) (fun h => ?_)
      · have h : sceneL l = false := by simpa using h
        exact ⟨trivial, lfk hk (by rw [h]; rfl) (by first | rfl | (rw [h]; rfl))⟩
      have hs : sceneL l = true := by simpa using h
      obtain ⟨hl, hbs⟩ := sceneL_ok hs
      refine ⟨trivial, trivial, ⟨(0, 0, 0), ⟨Nat.zero_le _, hs, Int.zero_add _, Int.zero_add _, by simp, by simp⟩, ⟨trivial, rfl, rfl, rfl, trivial⟩, rfl, ⟨rfl, rfl, trivial⟩, ⟨rfl, rfl, trivial⟩, trivial⟩, ?_⟩
      rintro ⟨i, sx, sy⟩ ⟨hi, _, h1, h2, ⟨h3, h4⟩, h5, h6⟩
      dsimp only at hi h1 h2 h3 h4 h5 h6 ⊢
      refine bcase_i (fun h => ?_) (fun h => ?_)
      · have h : i < l.length := by
          have h2 := of_decide_eq_true h
          omega
        have hm := hbs _ (getD_mem l bd0 i h)
        rw [drop_at l bd0 i h] at h1 h2
        simp only [momX, momY] at h1 h2
        refine ⟨⟨by omega, by omega⟩, by omega, trivial, ⟨by omega, by omega⟩, by omega, trivial, ?_⟩
        simp only [Int.toNat_natCast]
        obtain ⟨b, hb⟩ : ∃ b, l.getD i bd0 = b := ⟨_, rfl⟩
        simp only [hb] at hm h1 h2 ⊢
        obtain ⟨_, _, _, ⟨h7, h8⟩, _⟩ := hm
        refine ⟨(i + 1, sx + b.2.2.2.2.1, sy + b.2.2.2.2.2.1), (by simp only [M21_0]; omega), ⟨h, hs, by dsimp only; omega, by dsimp only; omega, by dsimp only; omega, by dsimp only; omega⟩, ⟨by trivial, by trivial, by trivial, incN i (by omega), trivial⟩, by trivial, ⟨by trivial, by trivial, trivial⟩, ⟨IntWalk.i64_in _ (by omega), IntWalk.i64_in _ (by omega), trivial⟩, trivial⟩
      · have h : ¬ i < l.length := by
          have h2 := of_decide_eq_false h
          omega
        rw [List.drop_eq_nil_of_le (by omega)] at h1 h2
        simp only [momX, momY, Int.add_zero] at h1 h2
        refine ⟨trivial, lfk hk ?_ rfl⟩
        rw [hs, h1, h2]; rfl
    · cases hg
  · exact hk.elim
abbrev P25_0 (l : List Bd) (c x : Nat × List St4) : Prop := x.1 ≤ l.length ∧ sceneL l = true ∧ x.2 ++ stonesL (l.drop x.1) = stonesL l ∧ x.2.length ≤ x.1
abbrev M25_0 (l : List Bd) (x : Nat × List St4) : Nat := l.length - x.1
def An25 : List V → List Ob → Ann := fun args obs => match args, obs with
  | [.osl 0], [.ro [.int .i64, .int .i64, .int .i64, .int .i64, .int .i64, .int .i64, .int .i64, .bool] l] => ⟨Nat × List St4, default, fun nm c x => P25_0 l c x, fun nm x => M25_0 l x, fun nm x => [(0, .osl 0), (5, .osl 1), (6, i64 x.1)], fun nm x => [.ro [.int .i64, .int .i64, .int .i64, .int .i64, .int .i64, .int .i64, .int .i64, .bool] l, .own 120 [.int .i64, .int .i64, .int .i64, .int .i64] x.2]⟩
  | _, _ => noAnn
theorem c25q : chkFn Tryz.prog Tryz.f25 (a25.lq) = true := by kernel_rfl
/-- ref05.Stones -/
def g25 : GSpec := fun args obs => match args, obs with
  | [.osl 0], [.ro [.int .i64, .int .i64, .int .i64, .int .i64, .int .i64, .int .i64, .int .i64, .bool] l] => some (True, .ret (.tup [.osl 0, i64 (errI (sceneL l))]), [.own 120 [.int .i64, .int .i64, .int .i64, .int .i64] (bif sceneL l then stonesL l else [])])
  | _, _ => none
theorem k25 (l : List Bd) (K' : Out → List Ob → Prop) : runQ (Z4a) (noD) (An25 [.osl 0] [.ro [.int .i64, .int .i64, .int .i64, .int .i64, .int .i64, .int .i64, .int .i64, .bool] l]) (a25.lq) [.osl 0] (lookO [.ro [.int .i64, .int .i64, .int .i64, .int .i64, .int .i64, .int .i64, .int .i64, .bool] l]) 1 (closeK K') =
    ((True) ∧
    (True ∧ True) ∧
    (True) ∧
    bcase (!sceneL l)
     ((True) ∧
     K' (Out.ret (V.tup [V.osl (nat_lit 0), V.int IntKind.i64 (2 : Int)]))
  [Ob.own (nat_lit 120) E4 []])
     ((True) ∧
     ((∃ y0 : Nat × List St4,
      (P25_0 l (default, default) y0) ∧
      ((True) ∧
       (True) ∧
       ((0 : Int) = (↑y0.fst : Int)) ∧
       True) ∧
      ((l) = l) ∧
      (([]) = y0.snd) ∧
      True)) ∧
     (∀ (z1 : Nat × List St4),
     ((P25_0 l (default, default) z1) →
     bcase (decide ((↑z1.fst : Int) < (↑l.length : Int)))
      (((0 : Int) ≤ (↑z1.fst : Int) ∧ (↑z1.fst : Int) < (↑l.length : Int)) ∧
      ((↑z1.fst : Int).toNat < l.length) ∧
      bcase (!(l.getD (↑z1.fst : Int).toNat
                  bd0).snd.snd.snd.snd.snd.snd.snd)
       (((0 : Int) ≤ (↑z1.fst : Int) ∧ (↑z1.fst : Int) < (↑l.length : Int)) ∧
       ((↑z1.fst : Int).toNat < l.length) ∧
       ((0 : Int) ≤ (↑z1.fst : Int) ∧ (↑z1.fst : Int) < (↑l.length : Int)) ∧
       ((↑z1.fst : Int).toNat < l.length) ∧
       ((0 : Int) ≤ (↑z1.fst : Int) ∧ (↑z1.fst : Int) < (↑l.length : Int)) ∧
       ((↑z1.fst : Int).toNat < l.length) ∧
       (True) ∧
       (True ∧
  (z1.snd.length +
        ([((l.getD (↑z1.fst : Int).toNat
                    bd0).fst,
                (l.getD (↑z1.fst : Int).toNat
                      bd0).snd.fst,
                (l.getD (↑z1.fst : Int).toNat
                        bd0).snd.snd.fst,
                (l.getD (↑z1.fst : Int).toNat
                          bd0).snd.snd.snd.fst)]).length) *
      (32 : Nat) ≤
    (140737488355328 : Nat)) ∧
       (∃ y3 : Nat × List St4,
       (M25_0 l y3 < M25_0 l z1) ∧
       (P25_0 l (default, default) y3) ∧
       ((True) ∧
        (True) ∧
        ((IntKind.i64.wrap ((↑z1.fst : Int) + (1 : Int))) = (↑y3.fst : Int)) ∧
        True) ∧
       ((l) = l) ∧
       (((z1.snd ++
    [((l.getD (↑z1.fst : Int).toNat
              bd0).fst,
          (l.getD (↑z1.fst : Int).toNat
                bd0).snd.fst,
          (l.getD (↑z1.fst : Int).toNat
                  bd0).snd.snd.fst,
          (l.getD (↑z1.fst : Int).toNat
                    bd0).snd.snd.snd.fst)])) = y3.snd) ∧
       True))
       ((∃ y4 : Nat × List St4,
       (M25_0 l y4 < M25_0 l z1) ∧
       (P25_0 l (default, default) y4) ∧
       ((True) ∧
        (True) ∧
        ((IntKind.i64.wrap ((↑z1.fst : Int) + (1 : Int))) = (↑y4.fst : Int)) ∧
        True) ∧
       ((l) = l) ∧
       ((z1.snd) = y4.snd) ∧
       True)))
      (K' (Out.ret (V.tup [V.osl (nat_lit 0), V.int IntKind.i64 (0 : Int)]))
  [Ob.own (nat_lit 120) E4 z1.snd]))))) := by kernel_rfl
theorem r25 : FreshOk Tryz.prog 25 (ofD g25) := by
  refine fresh_of_runQ Z4a_ok (noD_ok _) An25 Tryz.func25 c25q fun args obs K' hk => ?_
  unfold ofD g25 at hk
  split at hk
  · rename_i d_ out news hg
    split at hg
    · rename_i l
      cases hg
      obtain ⟨hc, hk⟩ := hk
      obtain ⟨l, rfl⟩ : ∃ v' : List Bd, v' = l := ⟨l, rfl⟩
      refine Eq.mpr (k25 l K') ?_
      refine ⟨trivial, ⟨trivial, trivial⟩, trivial, ?_⟩
      refine bcase_i (fun h => ?_) (fun h => ?_)
      · have h : sceneL l = false := by simpa using h
        exact ⟨trivial, lfk hk (by rw [h]; rfl) (by first | rfl | (rw [h]; rfl))⟩
      have hs : sceneL l = true := by simpa using h
      obtain ⟨hl, hbs⟩ := sceneL_ok hs
      refine ⟨trivial, ⟨(0, []), ⟨Nat.zero_le _, hs, rfl, Nat.le_refl _⟩, ⟨trivial, trivial, rfl, trivial⟩, rfl, rfl, trivial⟩, ?_⟩
      rintro ⟨i, acc⟩ ⟨hi, _, h1, h2⟩
      dsimp only at hi h1 h2 ⊢
      refine bcase_i (fun h => ?_) (fun h => ?_)
      · have h : i < l.length := by
          have h2 := of_decide_eq_true h
          omega
        rw [drop_at l bd0 i h] at h1
        refine ⟨⟨by omega, by omega⟩, by omega, ?_⟩
        simp only [Int.toNat_natCast]
        obtain ⟨b, hb⟩ : ∃ b, l.getD i bd0 = b := ⟨_, rfl⟩
        simp only [hb] at h1 ⊢
        refine bcase_i (fun ho => ?_) (fun ho => ?_)
        · have ho : b.2.2.2.2.2.2.2 = false := by simpa using ho
          simp only [stonesL, ho, cond_false] at h1
          refine ⟨⟨by omega, by omega⟩, by omega, ⟨by omega, by omega⟩, by omega, ⟨by omega, by omega⟩, by omega, trivial, ⟨trivial, by simp only [List.length_cons, List.length_nil]; omega⟩, (i + 1, acc ++ [stoneOf b]), (by simp only [M25_0]; omega), ⟨h, hs, ?_, ?_⟩, ⟨by trivial, by trivial, incN i (by omega), trivial⟩, by trivial, by trivial, trivial⟩
          · show (acc ++ [stoneOf b]) ++ stonesL (l.drop (i + 1)) = stonesL l
            rw [← h1]; simp
          · simp only [List.length_append, List.length_cons, List.length_nil]; omega
        · have ho : b.2.2.2.2.2.2.2 = true := by simpa using ho
          simp only [stonesL, ho, cond_true] at h1
          exact ⟨(i + 1, acc), (by simp only [M25_0]; omega), ⟨h, hs, h1, by simp only []; omega⟩, ⟨by trivial, by trivial, incN i (by omega), trivial⟩, by trivial, by trivial, trivial⟩
      · have h : ¬ i < l.length := by
          have h2 := of_decide_eq_false h
          omega
        rw [List.drop_eq_nil_of_le (by omega)] at h1
        simp only [stonesL, List.append_nil] at h1
        refine lfk hk (by rw [hs]; rfl) ?_
        rw [hs, h1]; rfl
    · cases hg
  · exact hk.elim
abbrev P27_0 (l : List St4) (c x : Nat × List Bd) : Prop := x.1 ≤ l.length ∧ l.length ≤ 16 ∧ x.2 = (l.take x.1).map placeB
abbrev M27_0 (l : List St4) (x : Nat × List Bd) : Nat := l.length - x.1
def An27 : List V → List Ob → Ann := fun args obs => match args, obs with
  | [.osl 0], [.ro [.int .i64, .int .i64, .int .i64, .int .i64] l] => ⟨Nat × List Bd, default, fun nm c x => P27_0 l c x, fun nm x => M27_0 l x, fun nm x => [(0, .osl 0), (4, .osl 1), (5, i64 x.1)], fun nm x => [.ro [.int .i64, .int .i64, .int .i64, .int .i64] l, .own 28 [.int .i64, .int .i64, .int .i64, .int .i64, .int .i64, .int .i64, .int .i64, .bool] x.2]⟩
  | _, _ => noAnn
theorem c27q : chkFn Tryz.prog Tryz.f27 (a27.lq) = true := by kernel_rfl
/-- ref05.Place -/
def g27 : GSpec := fun args obs => match args, obs with
  | [.osl 0], [.ro [.int .i64, .int .i64, .int .i64, .int .i64] l] => some (True, .ret (.tup [.osl 0, i64 (if 16 < l.length then 3 else errI (sceneL (l.map placeB)))]), [.own 28 [.int .i64, .int .i64, .int .i64, .int .i64, .int .i64, .int .i64, .int .i64, .bool] (bif sceneL ((l : List St4).map placeB) then (l : List St4).map placeB else [])])
  | _, _ => none
theorem k27 (l : List St4) (K' : Out → List Ob → Prop) : runQ (Z4a) (noD) (An27 [.osl 0] [.ro [.int .i64, .int .i64, .int .i64, .int .i64] l]) (a27.lq) [.osl 0] (lookO [.ro [.int .i64, .int .i64, .int .i64, .int .i64] l]) 1 (closeK K') =
    ((True) ∧
    bcase (decide ((↑l.length : Int) > (16 : Int)))
     ((True) ∧
     K' (Out.ret (V.tup [V.osl (nat_lit 0), V.int IntKind.i64 (3 : Int)]))
  [Ob.own (nat_lit 28)
      E8
      []])
     ((True) ∧
     ((∃ y0 : Nat × List Bd,
      (P27_0 l (default, default) y0) ∧
      ((True) ∧
       (True) ∧
       ((0 : Int) = (↑y0.fst : Int)) ∧
       True) ∧
      ((l) = l) ∧
      (([]) = y0.snd) ∧
      True)) ∧
     (∀ (z1 : Nat × List Bd),
     ((P27_0 l (default, default) z1) →
     bcase (decide ((↑z1.fst : Int) < (↑l.length : Int)))
      (((0 : Int) ≤ (↑z1.fst : Int) ∧ (↑z1.fst : Int) < (↑l.length : Int)) ∧
      ((↑z1.fst : Int).toNat < l.length) ∧
      ((0 : Int) ≤ (↑z1.fst : Int) ∧ (↑z1.fst : Int) < (↑l.length : Int)) ∧
      ((↑z1.fst : Int).toNat < l.length) ∧
      ((0 : Int) ≤ (↑z1.fst : Int) ∧ (↑z1.fst : Int) < (↑l.length : Int)) ∧
      ((↑z1.fst : Int).toNat < l.length) ∧
      (True) ∧
      (True ∧
  (z1.snd.length +
        ([((l.getD (↑z1.fst : Int).toNat
                    st0).fst,
                (l.getD (↑z1.fst : Int).toNat
                      st0).snd.fst,
                (l.getD (↑z1.fst : Int).toNat
                        st0).snd.snd.fst,
                (l.getD (↑z1.fst : Int).toNat
                        st0).snd.snd.snd,
                (0 : Int), (0 : Int), (0 : Int), false)]).length) *
      (64 : Nat) ≤
    (140737488355328 : Nat)) ∧
      (∃ y3 : Nat × List Bd,
      (M27_0 l y3 < M27_0 l z1) ∧
      (P27_0 l (default, default) y3) ∧
      ((True) ∧
       (True) ∧
       ((IntKind.i64.wrap ((↑z1.fst : Int) + (1 : Int))) = (↑y3.fst : Int)) ∧
       True) ∧
      ((l) = l) ∧
      (((z1.snd ++
    [((l.getD (↑z1.fst : Int).toNat
              st0).fst,
          (l.getD (↑z1.fst : Int).toNat
                st0).snd.fst,
          (l.getD (↑z1.fst : Int).toNat
                  st0).snd.snd.fst,
          (l.getD (↑z1.fst : Int).toNat
                  st0).snd.snd.snd,
          (0 : Int), (0 : Int), (0 : Int), false)])) = y3.snd) ∧
      True))
      ((True ∧ True) ∧
      (True) ∧
      bcase (!sceneL z1.snd)
       ((True) ∧
       K' (Out.ret (V.tup [V.osl (nat_lit 0), V.int IntKind.i64 (2 : Int)]))
  [Ob.own (nat_lit 28)
      E8
      []])
       (K' (Out.ret (V.tup [V.osl (nat_lit 0), V.int IntKind.i64 (0 : Int)]))
  [Ob.own (nat_lit 28)
      E8
      z1.snd])))))) := by kernel_rfl
theorem r27 : FreshOk Tryz.prog 27 (ofD g27) := by
  refine fresh_of_runQ Z4a_ok (noD_ok _) An27 Tryz.func27 c27q fun args obs K' hk => ?_
  unfold ofD g27 at hk
  split at hk
  · rename_i d_ out news hg
    split at hg
    · rename_i l
      cases hg
      obtain ⟨hc, hk⟩ := hk
      obtain ⟨l, rfl⟩ : ∃ v' : List St4, v' = l := ⟨l, rfl⟩
      refine Eq.mpr (k27 l K') ?_
      refine ⟨trivial, ?_⟩
      refine bcase_i (fun h => ?_) (fun h => ?_)
      · have h : 16 < l.length := by
          have h2 := of_decide_eq_true h
          omega
        have hn : sceneL (l.map placeB) = false := by
          rw [sceneL, decide_eq_false (by rw [List.length_map]; omega), Bool.false_and]
        exact ⟨trivial, lfk hk (by rw [if_pos h]) (by simp only [hn, cond_false])⟩
      have hl : ¬ 16 < l.length := by
        have h2 := of_decide_eq_false h
        omega
      rw [if_neg hl] at hk
      refine ⟨trivial, ⟨(0, []), ⟨Nat.zero_le _, by omega, rfl⟩, ⟨trivial, trivial, rfl, trivial⟩, rfl, rfl, trivial⟩, ?_⟩
      rintro ⟨i, acc⟩ ⟨hi, _, ha⟩
      dsimp only at hi ha ⊢
      subst ha
      refine bcase_i (fun h => ?_) (fun h => ?_)
      · have h : i < l.length := by
          have h2 := of_decide_eq_true h
          omega
        refine ⟨⟨by omega, by omega⟩, by omega, ⟨by omega, by omega⟩, by omega, ⟨by omega, by omega⟩, by omega, trivial, ⟨trivial, by simp only [List.length_cons, List.length_nil, List.length_map, List.length_take]; omega⟩, (i + 1, (l.take (i + 1)).map placeB), (by simp only [M27_0]; omega), ⟨h, by omega, rfl⟩, ⟨by trivial, by trivial, incN i (by omega), trivial⟩, by trivial, ?_, trivial⟩
        simp only [Int.toNat_natCast]
        rw [take_at l st0 i h, List.map_append]
        rfl
      · have h : ¬ i < l.length := by
          have h2 := of_decide_eq_false h
          omega
        rw [List.take_of_length_le (by omega)]
        refine ⟨⟨trivial, trivial⟩, trivial, ?_⟩
        refine bcase_i (fun h1 => ?_) (fun h1 => ?_)
        · have h1 : sceneL (l.map placeB) = false := by simpa using h1
          exact ⟨trivial, lfk hk (by rw [h1]; rfl) (by rw [h1]; rfl)⟩
        · have h1 : sceneL (l.map placeB) = true := by simpa using h1
          exact lfk hk (by rw [h1]; rfl) (by rw [h1]; rfl)
    · cases hg
  · exact hk.elim

end Go.Proofs.YtbolfnkgbjkbjaaGreat.AM
