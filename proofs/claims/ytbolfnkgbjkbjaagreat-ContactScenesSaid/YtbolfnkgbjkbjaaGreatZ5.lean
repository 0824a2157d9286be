/- Contracts, part 5: scenes. -/
import Derived.Test.YtbolfnkgbjkbjaaGreatZ4
set_option linter.unusedVariables false
set_option linter.unusedSimpArgs false
namespace Go.Proofs.YtbolfnkgbjkbjaaGreat.AM
open Go Go.RowKit
set_option maxRecDepth 100000

def moves (b : Bd) : Bool := !b.2.2.2.2.2.2.2 && !decide (bdRest b)
def idxGo : Nat → List Bd → Int
  | _, [] => -1
  | i, b :: l => bif moves b then (i : Int) else idxGo (i + 1) l
theorem idxGo_still : ∀ (l : List Bd) (i : Nat), decide (idxGo i l ≥ 0) = !stillL l
  | [], i => by simp [idxGo, stillL]
  | b :: l, i => by
    rw [still_cons, idxGo]
    cases h : moves b
    · rw [cond_false, idxGo_still l]
      simp only [moves] at h
      cases h2 : b.2.2.2.2.2.2.2 <;> simp [h2] at h ⊢
      simp [h]
    · rw [cond_true]
      simp only [moves, Bool.and_eq_true, Bool.not_eq_true', decide_eq_false_iff_not] at h
      simp [h.1, h.2]
abbrev K2 : ET := [.int .i64, .int .i64]
theorem denB2 (a b : Int × Int) : denB K2 a b = decide (a = b) := by
  obtain ⟨a1, a2⟩ := a
  obtain ⟨b1, b2⟩ := b
  show (a1 == b1 && a2 == b2) = _
  rw [Bool.eq_iff_iff]
  simp
theorem mget_mput (k k' : Int × Int) : ∀ m : List ((Int × Int) × Bool), (mget K2 k (mput K2 k' true m)).getD false = (decide (k' = k) || (mget K2 k m).getD false)
  | [] => by
    by_cases h : k = k'
    · subst h; simp [mput, mget, denB2]
    · have h' : ¬ k' = k := fun e => h e.symm
      simp [mput, mget, denB2, h, h']
  | p :: m => by
    have ih := mget_mput k k' m
    simp only [mput, denB2]
    by_cases h : k' = p.1
    · by_cases h2 : k = k'
      · subst h2; simp [h, mget, denB2]
      · have h3 : ¬ k = p.1 := fun e => h2 (e.trans h.symm)
        have h4 : ¬ k' = k := fun e => h2 e.symm
        simp only [h, decide_true, cond_true, mget, denB2, h3, decide_false, cond_false]
        rw [← h]
        simp [h2, h4]
    · simp only [h, decide_false, cond_false, mget, denB2]
      by_cases h2 : k = p.1
      · have h4 : ¬ k' = k := fun e => h (e.trans h2)
        simp [h2]
        simp [← h2, h4]
      · simp only [h2, decide_false, cond_false]
        exact ih
theorem notT {p : Prop} [Decidable p] (h : (!decide p) = true) : ¬ p := fun hp => by rw [decide_eq_true hp] at h; cases h
theorem notF {p : Prop} [Decidable p] (h : (!decide p) = false) : p := Decidable.byContradiction fun hp => by rw [decide_eq_false hp] at h; cases h
theorem errI_ne (b : Bool) : (errI b != 0) = !b := by cases b <;> rfl

def Z5a_0 : Tab := T20d.add 57 (liftA (ofD g57))
def Z5a : Tab := Z5a_0.add 41 (liftA (ofD g41))
theorem Z5a_0_ok : TabOk Tryz.prog Z5a_0 := T20d_ok.add (entry_of_fresh r57)
theorem Z5a_ok : TabOk Tryz.prog Z5a := Z5a_0_ok.add (entry_of_fresh r41)
/-- still$1 -/
def g95 : GSpec := fun args obs => match args, obs with
  | [.agg [.int .i64 tm, .int .i64 n, .int .i64 ax, .int .i64 ay, .int .i64 sx, .int .i64 sy, .int .i64 sp, .bool o]], [] => some (True, .ret (.bool (!o && !decide (sx = 0 ∧ sy = 0))), [])
  | _, _ => none
theorem k95 (tm n ax ay sx sy sp : Int) (o : Bool) (K' : Out → List Ob → Prop) : runFn (Z5a) (noD) noIv a95 [.agg [.int .i64 tm, .int .i64 n, .int .i64 ax, .int .i64 ay, .int .i64 sx, .int .i64 sy, .int .i64 sp, .bool o]] (lookO []) 0 (closeK K') =
    ((True) ∧
    bcase (!o)
     (((True ∧ True ∧ True ∧ True ∧ True ∧ True ∧ True ∧ True ∧ True) ∧ True) ∧
     (True) ∧
     K' (Out.ret (V.bool (bif true then !decide (sx = (0 : Int) ∧ sy = (0 : Int)) else false))) [])
     (K' (Out.ret (V.bool false)) [])) := by kernel_rfl
theorem r95 : FreshOk Tryz.prog 95 (ofD g95) := by
  refine fresh_of_run Z5a_ok (noD_ok _) (fun _ _ => noIv) Tryz.func95 c95 fun args obs K' hk => ?_
  unfold ofD g95 at hk
  split at hk
  · rename_i d_ out news hg
    split at hg
    · rename_i tm n ax ay sx sy sp o
      cases hg
      obtain ⟨hc, hk⟩ := hk
      refine Eq.mpr (k95 tm n ax ay sx sy sp o K') ⟨trivial, ?_⟩
      · cases o
        · refine bcase_t rfl ⟨⟨⟨trivial, trivial, trivial, trivial, trivial, trivial, trivial, trivial, trivial⟩, trivial⟩, trivial, hk⟩
        · exact bcase_f rfl hk
    · cases hg
  · exact hk.elim
def Z5b : Tab := Z5a.add 95 (liftA (ofD g95))
theorem Z5b_ok : TabOk Tryz.prog Z5b := Z5a_ok.add (entry_of_fresh r95)
abbrev P159_0 (l : List Bd) (c x : Nat) : Prop := x ≤ l.length ∧ idxGo x (l.drop x) = idxGo 0 l
abbrev M159_0 (l : List Bd) (x : Nat) : Nat := l.length - x
def An159 : List V → List Ob → Ann := fun args obs => match args, obs with
  | [.osl 0, .fn 95 [] []], [.ro [.int .i64, .int .i64, .int .i64, .int .i64, .int .i64, .int .i64, .int .i64, .bool] l] => ⟨Nat, default, fun nm c x => P159_0 l c x, fun nm x => M159_0 l x, fun nm x => [(0, .osl 0), (1, .fn 95 [] []), (7, i64 l.length), (8, i64 x)], fun nm x => [.ro [.int .i64, .int .i64, .int .i64, .int .i64, .int .i64, .int .i64, .int .i64, .bool] l]⟩
  | _, _ => noAnn
theorem c159q : chkFn Tryz.prog Tryz.f159 (a159.lq) = true := by kernel_rfl
/-- IndexFunc -/
def g159 : GSpec := fun args obs => match args, obs with
  | [.osl 0, .fn 95 [] []], [.ro [.int .i64, .int .i64, .int .i64, .int .i64, .int .i64, .int .i64, .int .i64, .bool] l] => some (l.length < 1000000, .ret (i64 (idxGo 0 l)), [])
  | _, _ => none
theorem k159 (l : List Bd) (K' : Out → List Ob → Prop) : runQ (Z5b) (noD) (An159 [.osl 0, .fn 95 [] []] [.ro [.int .i64, .int .i64, .int .i64, .int .i64, .int .i64, .int .i64, .int .i64, .bool] l]) (a159.lq) [.osl 0, .fn 95 [] []] (lookO [.ro [.int .i64, .int .i64, .int .i64, .int .i64, .int .i64, .int .i64, .int .i64, .bool] l]) 1 (closeK K') =
    (((∃ y0 : Nat,
     (P159_0 l Nat.zero y0) ∧
     ((True) ∧
      ((True) ∧
       True) ∧
      (((↑l.length : Int)) = (↑l.length : Int)) ∧
      ((0 : Int) = (↑y0 : Int)) ∧
      True) ∧
     ((l) = l) ∧
     True)) ∧
    (∀ (z1 : Nat),
    ((P159_0 l Nat.zero z1) →
    bcase (decide ((↑z1 : Int) < (↑l.length : Int)))
     (((0 : Int) ≤ (↑z1 : Int) ∧ (↑z1 : Int) < (↑l.length : Int)) ∧
     ((↑z1 : Int).toNat < l.length) ∧
     ((True ∧ True ∧ True ∧ True ∧ True ∧ True ∧ True ∧ True ∧ True) ∧ True) ∧
     (True) ∧
     bcase (!(l.getD (↑z1 : Int).toNat
                    bd0).snd.snd.snd.snd.snd.snd.snd &&
  !decide
      ((l.getD (↑z1 : Int).toNat
                      bd0).snd.snd.snd.snd.fst =
          (0 : Int) ∧
        (l.getD (↑z1 : Int).toNat
                        bd0).snd.snd.snd.snd.snd.fst =
          (0 : Int)))
      (K' (Out.ret (V.int IntKind.i64 (↑z1 : Int))) [])
      ((∃ y3 : Nat,
      (M159_0 l y3 < M159_0 l z1) ∧
      (P159_0 l Nat.zero y3) ∧
      ((True) ∧
       ((True) ∧
        True) ∧
       (((↑l.length : Int)) = (↑l.length : Int)) ∧
       ((IntKind.i64.wrap ((↑z1 : Int) + (1 : Int))) = (↑y3 : Int)) ∧
       True) ∧
      ((l) = l) ∧
      True)))
     (K' (Out.ret (V.int IntKind.i64 (-1 : Int))) [])))) := by kernel_rfl
theorem r159 : FreshOk Tryz.prog 159 (ofD g159) := by
  refine fresh_of_runQ Z5b_ok (noD_ok _) An159 Tryz.func159 c159q fun args obs K' hk => ?_
  unfold ofD g159 at hk
  split at hk
  · rename_i d_ out news hg
    split at hg
    · rename_i l
      cases hg
      obtain ⟨hc, hk⟩ := hk
      obtain ⟨l, rfl⟩ : ∃ v' : List Bd, v' = l := ⟨l, rfl⟩
      refine Eq.mpr (k159 l K') ?_
      refine And.intro ⟨0, ⟨Nat.zero_le _, rfl⟩, ⟨trivial, ⟨trivial, trivial⟩, rfl, rfl, trivial⟩, rfl, trivial⟩ ?_
      rintro i ⟨hi, hp⟩
      refine bcase_i (fun h => ?_) (fun h => ?_)
      · have h : i < l.length := by
          have h2 := of_decide_eq_true h
          omega
        rw [drop_at l bd0 i h] at hp
        refine ⟨⟨by omega, by omega⟩, by omega, ⟨⟨trivial, trivial, trivial, trivial, trivial, trivial, trivial, trivial, trivial⟩, trivial⟩, trivial, ?_⟩
        simp only [Int.toNat_natCast]
        obtain ⟨b, hb⟩ : ∃ b, l.getD i bd0 = b := ⟨_, rfl⟩
        simp only [hb, idxGo] at hp ⊢
        refine bcase_i (fun h1 => ?_) (fun h1 => ?_)
        · rw [show moves b = true from h1, cond_true] at hp
          exact lfk hk (by rw [hp]) rfl
        · rw [show moves b = false from h1, cond_false] at hp
          exact ⟨i + 1, (by simp only [M159_0]; omega), ⟨h, hp⟩, ⟨trivial, ⟨trivial, trivial⟩, by trivial, incN i (by omega), trivial⟩, by trivial, trivial⟩
      · have h : ¬ i < l.length := by
          have h2 := of_decide_eq_false h
          omega
        rw [List.drop_eq_nil_of_le (by omega)] at hp
        exact lfk hk (by rw [← hp]; rfl) rfl
    · cases hg
  · exact hk.elim
def Z5c_0 : Tab := Z5b.add 159 (liftA (ofD g159))
def Z5c : Tab := Z5c_0.add 94 (runFn Z5c_0 noD noIv a94)
theorem Z5c_0_ok : TabOk Tryz.prog Z5c_0 := Z5b_ok.add (entry_of_fresh r159)
theorem Z5c_ok : TabOk Tryz.prog Z5c := Z5c_0_ok.add (fn_entry Z5c_0_ok (noD_ok _) noIv Tryz.func94 c94)
/-- scene.still -/
def g60 : GSpec := fun args obs => match args, obs with
  | [.osl 0], [.ro [.int .i64, .int .i64, .int .i64, .int .i64, .int .i64, .int .i64, .int .i64, .bool] l] => some (l.length < 1000000, .ret (.bool (stillL l)), [])
  | _, _ => none
theorem k60 (l : List Bd) (K' : Out → List Ob → Prop) : runFn (Z5c) (noD) noIv a60 [.osl 0] (lookO [.ro [.int .i64, .int .i64, .int .i64, .int .i64, .int .i64, .int .i64, .int .i64, .bool] l]) 1 (closeK K') =
    ((True ∧ True ∧ True) ∧
    (l.length < (1000000 : Nat)) ∧
    K' (Out.ret (V.bool !decide (idxGo (0 : Nat) l ≥ (0 : Int)))) []) := by kernel_rfl
theorem r60 : FreshOk Tryz.prog 60 (ofD g60) := by
  refine fresh_of_run Z5c_ok (noD_ok _) (fun _ _ => noIv) Tryz.func60 c60 fun args obs K' hk => ?_
  unfold ofD g60 at hk
  split at hk
  · rename_i d_ out news hg
    split at hg
    · rename_i l
      cases hg
      obtain ⟨hc, hk⟩ := hk
      refine Eq.mpr (k60 l K') ⟨⟨trivial, ⟨trivial, trivial⟩⟩, ?_, ?_⟩
      · first | omega | (simp only [true_and, and_true]; omega) | exact in_fix (by simp) (by simp; omega)
      · exact lfk hk (by rw [idxGo_still, Bool.not_not]) rfl
    · cases hg
  · exact hk.elim
abbrev P59_0 (l : List Bd) (c x : Nat × List Bd) : Prop := x.1 ≤ l.length ∧ l.length < 1000000 ∧ x.2 = l.take x.1
abbrev M59_0 (l : List Bd) (x : Nat × List Bd) : Nat := l.length - x.1
def An59 : List V → List Ob → Ann := fun args obs => match args, obs with
  | [.osl 0], [.ro [.int .i64, .int .i64, .int .i64, .int .i64, .int .i64, .int .i64, .int .i64, .bool] l] => ⟨Nat × List Bd, default, fun nm c x => P59_0 l c x, fun nm x => M59_0 l x, fun nm x => [(3, .osl 1), (6, .osl 0), (7, i64 l.length), (8, i64 x.1)], fun nm x => [.ro [.int .i64, .int .i64, .int .i64, .int .i64, .int .i64, .int .i64, .int .i64, .bool] l, .own 106 [.int .i64, .int .i64, .int .i64, .int .i64, .int .i64, .int .i64, .int .i64, .bool] x.2]⟩
  | _, _ => noAnn
theorem c59q : chkFn Tryz.prog Tryz.f59 (a59.lq) = true := by kernel_rfl
/-- of -/
def g59 : GSpec := fun args obs => match args, obs with
  | [.osl 0], [.ro [.int .i64, .int .i64, .int .i64, .int .i64, .int .i64, .int .i64, .int .i64, .bool] l] => some (l.length < 1000000, .ret (.osl 0), [.own 106 [.int .i64, .int .i64, .int .i64, .int .i64, .int .i64, .int .i64, .int .i64, .bool] l])
  | _, _ => none
theorem k59 (l : List Bd) (K' : Out → List Ob → Prop) : runQ (Z5c) (noD) (An59 [.osl 0] [.ro [.int .i64, .int .i64, .int .i64, .int .i64, .int .i64, .int .i64, .int .i64, .bool] l]) (a59.lq) [.osl 0] (lookO [.ro [.int .i64, .int .i64, .int .i64, .int .i64, .int .i64, .int .i64, .int .i64, .bool] l]) 1 (closeK K') =
    ((True) ∧
    (True) ∧
    ((∃ y0 : Nat × List Bd,
     (P59_0 l (default, default) y0) ∧
     ((True) ∧
      (True) ∧
      (((↑l.length : Int)) = (↑l.length : Int)) ∧
      ((0 : Int) = (↑y0.fst : Int)) ∧
      True) ∧
     ((l) = l) ∧
     (([]) = y0.snd) ∧
     True)) ∧
    (∀ (z1 : Nat × List Bd),
    ((P59_0 l (default, default) z1) →
    bcase (decide ((↑z1.fst : Int) < (↑l.length : Int)))
     (((0 : Int) ≤ (↑z1.fst : Int) ∧ (↑z1.fst : Int) < (↑l.length : Int)) ∧
     ((↑z1.fst : Int).toNat < l.length) ∧
     (True) ∧
     (True) ∧
     (True) ∧
     (True ∧
  (z1.snd.length +
        ([((l.getD (↑z1.fst : Int).toNat
                    bd0).fst,
                (l.getD (↑z1.fst : Int).toNat
                      bd0).snd.fst,
                (l.getD (↑z1.fst : Int).toNat
                        bd0).snd.snd.fst,
                (l.getD (↑z1.fst : Int).toNat
                          bd0).snd.snd.snd.fst,
                (l.getD (↑z1.fst : Int).toNat
                            bd0).snd.snd.snd.snd.fst,
                (l.getD (↑z1.fst : Int).toNat
                              bd0).snd.snd.snd.snd.snd.fst,
                (l.getD (↑z1.fst : Int).toNat
                                bd0).snd.snd.snd.snd.snd.snd.fst,
                (l.getD (↑z1.fst : Int).toNat
                                bd0).snd.snd.snd.snd.snd.snd.snd)]).length) *
      (64 : Nat) ≤
    (140737488355328 : Nat)) ∧
     (∃ y3 : Nat × List Bd,
     (M59_0 l y3 < M59_0 l z1) ∧
     (P59_0 l (default, default) y3) ∧
     ((True) ∧
      (True) ∧
      (((↑l.length : Int)) = (↑l.length : Int)) ∧
      ((IntKind.i64.wrap ((↑z1.fst : Int) + (1 : Int))) = (↑y3.fst : Int)) ∧
      True) ∧
     ((l) = l) ∧
     (((z1.snd ++
    [((l.getD (↑z1.fst : Int).toNat
              bd0).fst,
          (l.getD (↑z1.fst : Int).toNat
                bd0).snd.fst,
          (l.getD (↑z1.fst : Int).toNat
                  bd0).snd.snd.fst,
          (l.getD (↑z1.fst : Int).toNat
                    bd0).snd.snd.snd.fst,
          (l.getD (↑z1.fst : Int).toNat
                      bd0).snd.snd.snd.snd.fst,
          (l.getD (↑z1.fst : Int).toNat
                        bd0).snd.snd.snd.snd.snd.fst,
          (l.getD (↑z1.fst : Int).toNat
                          bd0).snd.snd.snd.snd.snd.snd.fst,
          (l.getD (↑z1.fst : Int).toNat
                          bd0).snd.snd.snd.snd.snd.snd.snd)])) = y3.snd) ∧
     True))
     (K' (Out.ret (V.osl (nat_lit 0)))
  [Ob.own (nat_lit 106)
      E8
      z1.snd])))) := by kernel_rfl
theorem r59 : FreshOk Tryz.prog 59 (ofD g59) := by
  refine fresh_of_runQ Z5c_ok (noD_ok _) An59 Tryz.func59 c59q fun args obs K' hk => ?_
  unfold ofD g59 at hk
  split at hk
  · rename_i d_ out news hg
    split at hg
    · rename_i l
      cases hg
      obtain ⟨hc, hk⟩ := hk
      obtain ⟨l, rfl⟩ : ∃ v' : List Bd, v' = l := ⟨l, rfl⟩
      refine Eq.mpr (k59 l K') ?_
      refine ⟨trivial, trivial, ⟨(0, []), ⟨Nat.zero_le _, hc, rfl⟩, ⟨trivial, trivial, rfl, rfl, trivial⟩, rfl, rfl, trivial⟩, ?_⟩
      rintro ⟨i, acc⟩ ⟨hi, _, ha⟩
      dsimp only at hi ha ⊢
      subst ha
      refine bcase_i (fun h => ?_) (fun h => ?_)
      · have h : i < l.length := by
          have h2 := of_decide_eq_true h
          omega
        refine ⟨⟨by omega, by omega⟩, by omega, trivial, trivial, trivial, ⟨trivial, by simp only [List.length_cons, List.length_nil, List.length_take]; omega⟩, (i + 1, l.take (i + 1)), (by simp only [M59_0]; omega), ⟨h, hc, rfl⟩, ⟨by trivial, by trivial, by trivial, incN i (by omega), trivial⟩, by trivial, ?_, trivial⟩
        simp only [Int.toNat_natCast]
        rw [take_at l bd0 i h]
      · have h : ¬ i < l.length := by
          have h2 := of_decide_eq_false h
          omega
        exact lfk hk rfl (by rw [List.take_of_length_le (by omega)])
    · cases hg
  · exact hk.elim
abbrev P28_0 (l : List Bd) (c x : Nat × List ((Int × Int) × Bool)) : Prop := x.1 ≤ l.length ∧ l.length ≤ 16 ∧ sceneGo (l.take x.1) (l.drop x.1) = sceneGo [] l ∧ ∀ k : Int × Int, (mget K2 k x.2).getD false = (l.take x.1).any fun c => c.1 == k.1 && c.2.1 == k.2
abbrev M28_0 (l : List Bd) (x : Nat × List ((Int × Int) × Bool)) : Nat := l.length - x.1
def An28 : List V → List Ob → Ann := fun args obs => match args, obs with
  | [.osl 0], [.ro [.int .i64, .int .i64, .int .i64, .int .i64, .int .i64, .int .i64, .int .i64, .bool] l] => ⟨Nat × List ((Int × Int) × Bool), default, fun nm c x => P28_0 l c x, fun nm x => M28_0 l x, fun nm x => [(3, .mp 1), (11, .osl 0), (12, i64 l.length), (13, i64 x.1)], fun nm x => [.ro [.int .i64, .int .i64, .int .i64, .int .i64, .int .i64, .int .i64, .int .i64, .bool] l, .mp true [.int .i64, .int .i64] false [.bool] x.2]⟩
  | _, _ => noAnn
theorem c28q : chkFn Tryz.prog Tryz.f28 (a28.lq) = true := by kernel_rfl
/-- Check -/
def g28 : GSpec := fun args obs => match args, obs with
  | [.osl 0], [.ro [.int .i64, .int .i64, .int .i64, .int .i64, .int .i64, .int .i64, .int .i64, .bool] l] => some (True, .ret (i64 (errI (sceneL l))), [])
  | _, _ => none
theorem k28 (l : List Bd) (K' : Out → List Ob → Prop) : runQ (Z5c) (noD) (An28 [.osl 0] [.ro [.int .i64, .int .i64, .int .i64, .int .i64, .int .i64, .int .i64, .int .i64, .bool] l]) (a28.lq) [.osl 0] (lookO [.ro [.int .i64, .int .i64, .int .i64, .int .i64, .int .i64, .int .i64, .int .i64, .bool] l]) 1 (closeK K') =
    (bcase (decide ((↑l.length : Int) > (16 : Int)))
     (K' (Out.ret (V.int IntKind.i64 (2 : Int))) [])
     ((True) ∧
     ((∃ y0 : Nat × List ((Int × Int) × Bool),
      (P28_0 l (default, default) y0) ∧
      ((True) ∧
       (True) ∧
       (((↑l.length : Int)) = (↑l.length : Int)) ∧
       ((0 : Int) = (↑y0.fst : Int)) ∧
       True) ∧
      ((l) = l) ∧
      (([]) = y0.snd) ∧
      True)) ∧
     (∀ (z1 : Nat × List ((Int × Int) × Bool)),
     ((P28_0 l (default, default) z1) →
     bcase (decide ((↑z1.fst : Int) < (↑l.length : Int)))
      (((0 : Int) ≤ (↑z1.fst : Int) ∧ (↑z1.fst : Int) < (↑l.length : Int)) ∧
      ((↑z1.fst : Int).toNat < l.length) ∧
      (True) ∧
      (True) ∧
      (True) ∧
      (True) ∧
      ((True ∧ True ∧ True ∧ True ∧ True ∧ True ∧ True ∧ True ∧ True) ∧ True) ∧
      (True) ∧
      bcase (!decide
    (BodyOk
      (l.getD (↑z1.fst : Int).toNat
          bd0).fst
      (l.getD (↑z1.fst : Int).toNat
            bd0).snd.fst
      (l.getD (↑z1.fst : Int).toNat
              bd0).snd.snd.fst
      (l.getD (↑z1.fst : Int).toNat
                bd0).snd.snd.snd.fst
      (l.getD (↑z1.fst : Int).toNat
                  bd0).snd.snd.snd.snd.fst
      (l.getD (↑z1.fst : Int).toNat
                    bd0).snd.snd.snd.snd.snd.fst
      (l.getD (↑z1.fst : Int).toNat
                      bd0).snd.snd.snd.snd.snd.snd.fst))
       (K' (Out.ret (V.int IntKind.i64 (2 : Int))) [])
       (bcase (bif false then true
  else
  (mget K2
        ((l.getD (↑z1.fst : Int).toNat
              bd0).fst,
          (l.getD (↑z1.fst : Int).toNat
                bd0).snd.fst)
        (z1.snd)).getD
    false)
        (K' (Out.ret (V.int IntKind.i64 (2 : Int))) [])
        (bcase ((l.getD (↑z1.fst : Int).toNat
                bd0).snd.snd.snd.snd.snd.snd.snd)
         (((True ∧ True ∧ True ∧ True ∧ True ∧ True ∧ True ∧ True ∧ True) ∧ True) ∧
         (True) ∧
         bcase (!decide
    ((l.getD (↑z1.fst : Int).toNat
                    bd0).snd.snd.snd.snd.fst =
        (0 : Int) ∧
      (l.getD (↑z1.fst : Int).toNat
                      bd0).snd.snd.snd.snd.snd.fst =
        (0 : Int)))
          (K' (Out.ret (V.int IntKind.i64 (2 : Int))) [])
          (bcase (bif false then true
  else
  bif true then
    bif false then true
    else
      (l.getD (↑z1.fst : Int).toNat
                        bd0).snd.snd.snd.snd.snd.snd.fst !=
        (0 : Int)
  else false)
           (K' (Out.ret (V.int IntKind.i64 (2 : Int))) [])
           ((True) ∧
           (∃ y3 : Nat × List ((Int × Int) × Bool),
           (M28_0 l y3 < M28_0 l z1) ∧
           (P28_0 l (default, default) y3) ∧
           ((True) ∧
            (True) ∧
            (((↑l.length : Int)) = (↑l.length : Int)) ∧
            ((IntKind.i64.wrap ((↑z1.fst : Int) + (1 : Int))) = (↑y3.fst : Int)) ∧
            True) ∧
           ((l) = l) ∧
           (((mput K2
    ((l.getD (↑z1.fst : Int).toNat
          bd0).fst,
      (l.getD (↑z1.fst : Int).toNat
            bd0).snd.fst)
    true (z1.snd))) = y3.snd) ∧
           True))))
         ((True) ∧
         (∃ y4 : Nat × List ((Int × Int) × Bool),
         (M28_0 l y4 < M28_0 l z1) ∧
         (P28_0 l (default, default) y4) ∧
         ((True) ∧
          (True) ∧
          (((↑l.length : Int)) = (↑l.length : Int)) ∧
          ((IntKind.i64.wrap ((↑z1.fst : Int) + (1 : Int))) = (↑y4.fst : Int)) ∧
          True) ∧
         ((l) = l) ∧
         (((mput K2
    ((l.getD (↑z1.fst : Int).toNat
          bd0).fst,
      (l.getD (↑z1.fst : Int).toNat
            bd0).snd.fst)
    true (z1.snd))) = y4.snd) ∧
         True)))))
      (K' (Out.ret (V.int IntKind.i64 (0 : Int))) []))))) := by kernel_rfl
theorem r28 : FreshOk Tryz.prog 28 (ofD g28) := by
  refine fresh_of_runQ Z5c_ok (noD_ok _) An28 Tryz.func28 c28q fun args obs K' hk => ?_
  unfold ofD g28 at hk
  split at hk
  · rename_i d_ out news hg
    split at hg
    · rename_i l
      cases hg
      obtain ⟨hc, hk⟩ := hk
      obtain ⟨l, rfl⟩ : ∃ v' : List Bd, v' = l := ⟨l, rfl⟩
      refine Eq.mpr (k28 l K') ?_
      refine bcase_i (fun h => ?_) (fun h => ?_)
      · have h : ¬ l.length ≤ 16 := by
          have h2 := of_decide_eq_true h
          omega
        exact lfk hk (by rw [sceneL, decide_eq_false h]; rfl) rfl
      have hl : l.length ≤ 16 := by
        have h2 := of_decide_eq_false h
        omega
      have hs : sceneL l = sceneGo [] l := by simp [sceneL, hl]
      rw [hs] at hk
      refine ⟨trivial, ⟨(0, []), ⟨Nat.zero_le _, hl, rfl, fun k => rfl⟩, ⟨trivial, trivial, rfl, rfl, trivial⟩, rfl, rfl, trivial⟩, ?_⟩
      rintro ⟨i, m⟩ ⟨hi, _, hp, hm⟩
      dsimp only at hi hp hm ⊢
      refine bcase_i (fun h => ?_) (fun h => ?_)
      · have h : i < l.length := by
          have h2 := of_decide_eq_true h
          omega
        rw [drop_at l bd0 i h, sceneGo_cons] at hp
        have hx := hm ((l.getD i bd0).1, (l.getD i bd0).2.1)
        have hnext : bdFit (l.getD i bd0) = true → ((l.take i).any fun c => bdName c (l.getD i bd0)) = false → P28_0 l (default, default) (i + 1, mput K2 ((l.getD i bd0).1, (l.getD i bd0).2.1) true m) := by
          intro hf hn
          refine ⟨h, hl, ?_, fun k => ?_⟩
          · dsimp only
            rw [← hp, hf, hn, take_at l bd0 i h]
            rfl
          · dsimp only
            rw [mget_mput, hm k, take_at l bd0 i h, List.any_append, Bool.or_comm]
            congr 1
            obtain ⟨k1, k2⟩ := k
            rw [Bool.eq_iff_iff]
            simp
        refine ⟨⟨by omega, by omega⟩, by omega, trivial, trivial, trivial, trivial, ⟨⟨trivial, trivial, trivial, trivial, trivial, trivial, trivial, trivial, trivial⟩, trivial⟩, trivial, ?_⟩
        simp only [Int.toNat_natCast]
        obtain ⟨b, hb⟩ : ∃ b, l.getD i bd0 = b := ⟨_, rfl⟩
        simp only [hb] at hp hx hnext ⊢
        have bad : (bdFit b && !((l.take i).any fun c => bdName c b)) = false → K' (.ret (.int .i64 2)) [] := fun e => lfk hk (by rw [← hp, e]; rfl) rfl
        refine bcase_i (fun h1 => ?_) (fun h1 => ?_)
        · have h1 : decide (bdOk b) = false := decide_eq_false (notT h1)
          exact bad (by rw [bdFit, h1]; rfl)
        have h1 : decide (bdOk b) = true := decide_eq_true (notF h1)
        refine bcase_i (fun h2 => ?_) (fun h2 => ?_)
        · have h2 : ((l.take i).any fun c => bdName c b) = true := hx.symm.trans h2
          exact bad (by rw [h2]; simp)
        have h2 : ((l.take i).any fun c => bdName c b) = false := hx.symm.trans h2
        refine bcase_i (fun h3 => ?_) (fun h3 => ?_)
        · refine ⟨⟨⟨trivial, trivial, trivial, trivial, trivial, trivial, trivial, trivial, trivial⟩, trivial⟩, trivial, ?_⟩
          refine bcase_i (fun h4 => ?_) (fun h4 => ?_)
          · have h4 : ¬ bdRest b := notT h4
            have e : decide (bdRest b ∧ b.2.2.2.2.2.2.1 = 0) = false := decide_eq_false (fun h => h4 h.1)
            exact bad (by rw [bdFit, h3, e, h1]; rfl)
          have h4 : bdRest b := notF h4
          refine bcase_i (fun h5 => ?_) (fun h5 => ?_)
          · have h5 : b.2.2.2.2.2.2.1 ≠ 0 := by simpa using h5
            have e : decide (bdRest b ∧ b.2.2.2.2.2.2.1 = 0) = false := decide_eq_false (fun h => h5 h.2)
            exact bad (by rw [bdFit, h3, e, h1]; rfl)
          have h5 : b.2.2.2.2.2.2.1 = 0 := by simpa using h5
          have e : decide (bdRest b ∧ b.2.2.2.2.2.2.1 = 0) = true := decide_eq_true ⟨h4, h5⟩
          exact ⟨trivial, (i + 1, mput K2 (b.1, b.2.1) true m), (by simp only [M28_0]; omega), hnext (by rw [bdFit, h3, e, h1]; rfl) h2, ⟨by trivial, by trivial, by trivial, incN i (by omega), trivial⟩, by trivial, by trivial, trivial⟩
        · exact ⟨trivial, (i + 1, mput K2 (b.1, b.2.1) true m), (by simp only [M28_0]; omega), hnext (by rw [bdFit, h3, h1]; rfl) h2, ⟨by trivial, by trivial, by trivial, incN i (by omega), trivial⟩, by trivial, by trivial, trivial⟩
      · have h : ¬ i < l.length := by
          have h2 := of_decide_eq_false h
          omega
        rw [List.drop_eq_nil_of_le (by omega)] at hp
        exact lfk hk (by rw [← hp]; rfl) rfl
    · cases hg
  · exact hk.elim
def Z5d_0 : Tab := Z5c.add 28 (liftA (ofD g28))
def Z5d_1 : Tab := Z5d_0.add 59 (liftA (ofD g59))
def Z5d : Tab := Z5d_1.add 60 (liftA (ofD g60))
theorem Z5d_0_ok : TabOk Tryz.prog Z5d_0 := Z5c_ok.add (entry_of_fresh r28)
theorem Z5d_1_ok : TabOk Tryz.prog Z5d_1 := Z5d_0_ok.add (entry_of_fresh r59)
theorem Z5d_ok : TabOk Tryz.prog Z5d := Z5d_1_ok.add (entry_of_fresh r60)
/-- Still -/
def g22 : GSpec := fun args obs => match args, obs with
  | [.osl 0], [.ro [.int .i64, .int .i64, .int .i64, .int .i64, .int .i64, .int .i64, .int .i64, .bool] l] => some (True, .ret (.tup [.bool (sceneL l && stillL l), i64 (errI (sceneL l))]), [])
  | _, _ => none
theorem k22 (l : List Bd) (K' : Out → List Ob → Prop) : runFn (Z5d) (noD) noIv a22 [.osl 0] (lookO [.ro [.int .i64, .int .i64, .int .i64, .int .i64, .int .i64, .int .i64, .int .i64, .bool] l]) 1 (closeK K') =
    ((True ∧ True) ∧
    (True) ∧
    bcase (errI (sceneL l) != (0 : Int))
     (K' (Out.ret (V.tup [V.bool false, V.int IntKind.i64 (errI (sceneL l))])) [])
     ((True ∧ True) ∧
     (l.length < (1000000 : Nat)) ∧
     (True ∧ True) ∧
     (l.length < (1000000 : Nat)) ∧
     K' (Out.ret (V.tup [V.bool (stillL l), V.int IntKind.i64 (0 : Int)])) [])) := by kernel_rfl
theorem r22 : FreshOk Tryz.prog 22 (ofD g22) := by
  refine fresh_of_run Z5d_ok (noD_ok _) (fun _ _ => noIv) Tryz.func22 c22 fun args obs K' hk => ?_
  unfold ofD g22 at hk
  split at hk
  · rename_i d_ out news hg
    split at hg
    · rename_i l
      cases hg
      obtain ⟨hc, hk⟩ := hk
      refine Eq.mpr (k22 l K') ⟨⟨trivial, trivial⟩, trivial, ?_⟩
      · refine bcase_i (fun h => ?_) (fun h => ?_)
        · rw [errI_ne] at h
          have h : sceneL l = false := by simpa using h
          exact (lfk hk (by first | (rw [h]; done) | (rw [h]; rfl)) rfl)
        have hs : sceneL l = true := by rw [errI_ne] at h; simpa using h
        obtain ⟨hl, hbs⟩ := sceneL_ok hs
        exact ⟨⟨trivial, trivial⟩, by omega, ⟨trivial, trivial⟩, by omega, lfk hk (by rw [hs]; rfl) rfl⟩
    · cases hg
  · exact hk.elim
abbrev P20_0 (l : List Bd) (c x : Nat × Int × Int) : Prop := x.1 ≤ l.length ∧ sceneL l = true ∧ x.2.1 + momX (l.drop x.1) = momX l ∧ x.2.2 + momY (l.drop x.1) = momY l ∧ (-(x.1 : Int) * 65536000 ≤ x.2.1 ∧ x.2.1 ≤ x.1 * 65536000) ∧ -(x.1 : Int) * 65536000 ≤ x.2.2 ∧ x.2.2 ≤ x.1 * 65536000
abbrev M20_0 (l : List Bd) (x : Nat × Int × Int) : Nat := l.length - x.1
def An20 : List V → List Ob → Ann := fun args obs => match args, obs with
  | [.osl 0], [.ro [.int .i64, .int .i64, .int .i64, .int .i64, .int .i64, .int .i64, .int .i64, .bool] l] => ⟨Nat × Int × Int, default, fun nm c x => P20_0 l c x, fun nm x => M20_0 l x, fun nm x => [(2, .ptr 1 0 0 0), (5, .ptr 2 0 0 0), (14, .osl 0), (15, i64 l.length), (16, i64 x.1)], fun nm x => [.ro [.int .i64, .int .i64, .int .i64, .int .i64, .int .i64, .int .i64, .int .i64, .bool] l, .var 24 [i64 0, i64 0], .var 24 [i64 x.2.1, i64 x.2.2]]⟩
  | _, _ => noAnn
theorem c20q : chkFn Tryz.prog Tryz.f20 (a20.lq) = true := by kernel_rfl
/-- Momentum -/
def g20 : GSpec := fun args obs => match args, obs with
  | [.osl 0], [.ro [.int .i64, .int .i64, .int .i64, .int .i64, .int .i64, .int .i64, .int .i64, .bool] l] => some (True, .ret (.tup [.agg [i64 (bif sceneL l then momX l else 0), i64 (bif sceneL l then momY l else 0)], i64 (errI (sceneL l))]), [])
  | _, _ => none
theorem k20 (l : List Bd) (K' : Out → List Ob → Prop) : runQ (Z5d) (noD) (An20 [.osl 0] [.ro [.int .i64, .int .i64, .int .i64, .int .i64, .int .i64, .int .i64, .int .i64, .bool] l]) (a20.lq) [.osl 0] (lookO [.ro [.int .i64, .int .i64, .int .i64, .int .i64, .int .i64, .int .i64, .int .i64, .bool] l]) 1 (closeK K') =
    ((True) ∧
    (True ∧ True) ∧
    (True) ∧
    bcase (errI (sceneL l) != (0 : Int))
     ((True) ∧
     K'
  (Out.ret
    (V.tup [V.agg [V.int IntKind.i64 (0 : Int), V.int IntKind.i64 (0 : Int)], V.int IntKind.i64 (errI (sceneL l))]))
  [])
     ((True) ∧
     ((∃ y0 : Nat × Int × Int,
      (P20_0 l (default, default) y0) ∧
      (((nat_lit 0) = nat_lit 0) ∧
       ((nat_lit 0) = nat_lit 0) ∧
       (True) ∧
       (((↑l.length : Int)) = (↑l.length : Int)) ∧
       ((0 : Int) = (↑y0.fst : Int)) ∧
       True) ∧
      ((l) = l) ∧
      (((0 : Int) = (0 : Int)) ∧
       ((0 : Int) = (0 : Int)) ∧
       True) ∧
      (((0 : Int) = y0.snd.fst) ∧
       ((0 : Int) = y0.snd.snd) ∧
       True) ∧
      True)) ∧
     (∀ (z1 : Nat × Int × Int),
     ((P20_0 l (default, default) z1) →
     bcase (decide ((↑z1.fst : Int) < (↑l.length : Int)))
      (((0 : Int) ≤ (↑z1.fst : Int) ∧ (↑z1.fst : Int) < (↑l.length : Int)) ∧
      ((↑z1.fst : Int).toNat < l.length) ∧
      (True) ∧
      (True) ∧
      ((True ∧ True ∧ True) ∧ (True ∧ True ∧ True) ∧ True) ∧
      ((fixOk z1.snd.fst ∧
    fixOk z1.snd.snd ∧
      fixOk
          (l.getD (↑z1.fst : Int).toNat
                      bd0).snd.snd.snd.snd.fst ∧
        fixOk
          (l.getD (↑z1.fst : Int).toNat
                        bd0).snd.snd.snd.snd.snd.fst) ∧
  fixOk
      (z1.snd.fst +
        (l.getD (↑z1.fst : Int).toNat
                    bd0).snd.snd.snd.snd.fst) ∧
    fixOk
      (z1.snd.snd +
        (l.getD (↑z1.fst : Int).toNat
                      bd0).snd.snd.snd.snd.snd.fst)) ∧
      (True) ∧
      (∃ y3 : Nat × Int × Int,
      (M20_0 l y3 < M20_0 l z1) ∧
      (P20_0 l (default, default) y3) ∧
      (((nat_lit 0) = nat_lit 0) ∧
       ((nat_lit 0) = nat_lit 0) ∧
       (True) ∧
       (((↑l.length : Int)) = (↑l.length : Int)) ∧
       ((IntKind.i64.wrap ((↑z1.fst : Int) + (1 : Int))) = (↑y3.fst : Int)) ∧
       True) ∧
      ((l) = l) ∧
      (((0 : Int) = (0 : Int)) ∧
       ((0 : Int) = (0 : Int)) ∧
       True) ∧
      (((z1.snd.fst +
  (l.getD (↑z1.fst : Int).toNat
              bd0).snd.snd.snd.snd.fst) = y3.snd.fst) ∧
       ((z1.snd.snd +
  (l.getD (↑z1.fst : Int).toNat
                bd0).snd.snd.snd.snd.snd.fst) = y3.snd.snd) ∧
       True) ∧
      True))
      ((True) ∧
      K' (Out.ret (V.tup [V.agg [V.int IntKind.i64 z1.snd.fst, V.int IntKind.i64 z1.snd.snd], V.int IntKind.i64 (0 : Int)]))
  []))))) := by kernel_rfl
theorem r20 : FreshOk Tryz.prog 20 (ofD g20) := by
  refine fresh_of_runQ Z5d_ok (noD_ok _) An20 Tryz.func20 c20q fun args obs K' hk => ?_
  unfold ofD g20 at hk
  split at hk
  · rename_i d_ out news hg
    split at hg
    · rename_i l
      cases hg
      obtain ⟨hc, hk⟩ := hk
      obtain ⟨l, rfl⟩ : ∃ v' : List Bd, v' = l := ⟨l, rfl⟩
      refine Eq.mpr (k20 l K') ?_
      refine ⟨trivial, ⟨trivial, trivial⟩, trivial, ?_⟩
      refine bcase_i (fun h => ?_) (fun h => ?_)
      · rw [errI_ne] at h
        have h : sceneL l = false := by simpa using h
        exact ⟨trivial, lfk hk (by first | (rw [h]; done) | (rw [h]; rfl)) (by first | rfl | (rw [h]; rfl))⟩
      have hs : sceneL l = true := by rw [errI_ne] at h; simpa using h
      obtain ⟨hl, hbs⟩ := sceneL_ok hs
      refine ⟨trivial, ⟨(0, 0, 0), ⟨Nat.zero_le _, hs, Int.zero_add _, Int.zero_add _, by simp, by simp⟩, ⟨rfl, rfl, trivial, rfl, rfl, trivial⟩, rfl, ⟨rfl, rfl, trivial⟩, ⟨rfl, rfl, trivial⟩, trivial⟩, ?_⟩
      rintro ⟨i, sx, sy⟩ ⟨hi, _, h1, h2, ⟨h3, h4⟩, h5, h6⟩
      dsimp only at hi h1 h2 h3 h4 h5 h6 ⊢
      refine bcase_i (fun h => ?_) (fun h => ?_)
      · have h : i < l.length := by
          have h2 := of_decide_eq_true h
          omega
        have hm := hbs _ (getD_mem l bd0 i h)
        rw [drop_at l bd0 i h] at h1 h2
        simp only [momX, momY] at h1 h2
        simp only [Int.toNat_natCast]
        obtain ⟨b, hb⟩ : ∃ b, l.getD i bd0 = b := ⟨_, rfl⟩
        simp only [hb] at hm h1 h2 ⊢
        obtain ⟨_, _, _, ⟨h7, h8⟩, _⟩ := hm
        refine ⟨⟨by omega, by omega⟩, by omega, trivial, trivial, ⟨⟨trivial, trivial, trivial⟩, ⟨trivial, trivial, trivial⟩, trivial⟩, ⟨⟨by omega, by omega, by omega, by omega⟩, by omega, by omega⟩, trivial, (i + 1, sx + b.2.2.2.2.1, sy + b.2.2.2.2.2.1), (by simp only [M20_0]; omega), ⟨h, hs, by dsimp only; omega, by dsimp only; omega, by dsimp only; omega, by dsimp only; omega⟩, ⟨by trivial, by trivial, by trivial, by trivial, incN i (by omega), trivial⟩, by trivial, ⟨by trivial, by trivial, trivial⟩, ⟨by trivial, by trivial, trivial⟩, trivial⟩
      · have h : ¬ i < l.length := by
          have h2 := of_decide_eq_false h
          omega
        rw [List.drop_eq_nil_of_le (by omega)] at h1 h2
        simp only [momX, momY, Int.add_zero] at h1 h2
        refine ⟨trivial, lfk hk ?_ rfl⟩
        rw [hs, h1, h2]; rfl
    · cases hg
  · exact hk.elim
abbrev P24_0 (l : List Bd) (c x : Nat × List St4) : Prop := x.1 ≤ l.length ∧ sceneL l = true ∧ x.2 ++ stonesL (l.drop x.1) = stonesL l ∧ x.2.length ≤ x.1
abbrev M24_0 (l : List Bd) (x : Nat × List St4) : Nat := l.length - x.1
def An24 : List V → List Ob → Ann := fun args obs => match args, obs with
  | [.osl 0], [.ro [.int .i64, .int .i64, .int .i64, .int .i64, .int .i64, .int .i64, .int .i64, .bool] l] => ⟨Nat × List St4, default, fun nm c x => P24_0 l c x, fun nm x => M24_0 l x, fun nm x => [(5, .osl 1), (13, .osl 0), (14, i64 l.length), (15, i64 x.1)], fun nm x => [.ro [.int .i64, .int .i64, .int .i64, .int .i64, .int .i64, .int .i64, .int .i64, .bool] l, .own 120 [.int .i64, .int .i64, .int .i64, .int .i64] x.2]⟩
  | _, _ => noAnn
theorem c24q : chkFn Tryz.prog Tryz.f24 (a24.lq) = true := by kernel_rfl
/-- Stones -/
def g24 : GSpec := fun args obs => match args, obs with
  | [.osl 0], [.ro [.int .i64, .int .i64, .int .i64, .int .i64, .int .i64, .int .i64, .int .i64, .bool] l] => some (True, .ret (.tup [.osl 0, i64 (errI (sceneL l))]), [.own 120 [.int .i64, .int .i64, .int .i64, .int .i64] (bif sceneL l then stonesL l else [])])
  | _, _ => none
theorem k24 (l : List Bd) (K' : Out → List Ob → Prop) : runQ (Z5d) (noD) (An24 [.osl 0] [.ro [.int .i64, .int .i64, .int .i64, .int .i64, .int .i64, .int .i64, .int .i64, .bool] l]) (a24.lq) [.osl 0] (lookO [.ro [.int .i64, .int .i64, .int .i64, .int .i64, .int .i64, .int .i64, .int .i64, .bool] l]) 1 (closeK K') =
    ((True) ∧
    (True ∧ True) ∧
    (True) ∧
    bcase (errI (sceneL l) != (0 : Int))
     ((True) ∧
     K' (Out.ret (V.tup [V.osl (nat_lit 0), V.int IntKind.i64 (errI (sceneL l))]))
  [Ob.own (nat_lit 120) E4 []])
     ((True) ∧
     ((∃ y0 : Nat × List St4,
      (P24_0 l (default, default) y0) ∧
      ((True) ∧
       (True) ∧
       (((↑l.length : Int)) = (↑l.length : Int)) ∧
       ((0 : Int) = (↑y0.fst : Int)) ∧
       True) ∧
      ((l) = l) ∧
      (([]) = y0.snd) ∧
      True)) ∧
     (∀ (z1 : Nat × List St4),
     ((P24_0 l (default, default) z1) →
     bcase (decide ((↑z1.fst : Int) < (↑l.length : Int)))
      (((0 : Int) ≤ (↑z1.fst : Int) ∧ (↑z1.fst : Int) < (↑l.length : Int)) ∧
      ((↑z1.fst : Int).toNat < l.length) ∧
      (True) ∧
      (True) ∧
      bcase (!(l.getD (↑z1.fst : Int).toNat
                  bd0).snd.snd.snd.snd.snd.snd.snd)
       ((True) ∧
       (True ∧
  (z1.snd.length +
        ([((l.getD (↑z1.fst : Int).toNat
                    bd0).fst,
                (l.getD (↑z1.fst : Int).toNat
                      bd0).snd.fst,
                (l.getD (↑z1.fst : Int).toNat
                        bd0).snd.snd.fst,
                (l.getD (↑z1.fst : Int).toNat
                          bd0).snd.snd.snd.fst)]).length) *
      (32 : Nat) ≤
    (140737488355328 : Nat)) ∧
       (∃ y3 : Nat × List St4,
       (M24_0 l y3 < M24_0 l z1) ∧
       (P24_0 l (default, default) y3) ∧
       ((True) ∧
        (True) ∧
        (((↑l.length : Int)) = (↑l.length : Int)) ∧
        ((IntKind.i64.wrap ((↑z1.fst : Int) + (1 : Int))) = (↑y3.fst : Int)) ∧
        True) ∧
       ((l) = l) ∧
       (((z1.snd ++
    [((l.getD (↑z1.fst : Int).toNat
              bd0).fst,
          (l.getD (↑z1.fst : Int).toNat
                bd0).snd.fst,
          (l.getD (↑z1.fst : Int).toNat
                  bd0).snd.snd.fst,
          (l.getD (↑z1.fst : Int).toNat
                    bd0).snd.snd.snd.fst)])) = y3.snd) ∧
       True))
       ((∃ y4 : Nat × List St4,
       (M24_0 l y4 < M24_0 l z1) ∧
       (P24_0 l (default, default) y4) ∧
       ((True) ∧
        (True) ∧
        (((↑l.length : Int)) = (↑l.length : Int)) ∧
        ((IntKind.i64.wrap ((↑z1.fst : Int) + (1 : Int))) = (↑y4.fst : Int)) ∧
        True) ∧
       ((l) = l) ∧
       ((z1.snd) = y4.snd) ∧
       True)))
      (K' (Out.ret (V.tup [V.osl (nat_lit 0), V.int IntKind.i64 (0 : Int)]))
  [Ob.own (nat_lit 120) E4 z1.snd]))))) := by kernel_rfl
theorem r24 : FreshOk Tryz.prog 24 (ofD g24) := by
  refine fresh_of_runQ Z5d_ok (noD_ok _) An24 Tryz.func24 c24q fun args obs K' hk => ?_
  unfold ofD g24 at hk
  split at hk
  · rename_i d_ out news hg
    split at hg
    · rename_i l
      cases hg
      obtain ⟨hc, hk⟩ := hk
      obtain ⟨l, rfl⟩ : ∃ v' : List Bd, v' = l := ⟨l, rfl⟩
      refine Eq.mpr (k24 l K') ?_
      refine ⟨trivial, ⟨trivial, trivial⟩, trivial, ?_⟩
      refine bcase_i (fun h => ?_) (fun h => ?_)
      · rw [errI_ne] at h
        have h : sceneL l = false := by simpa using h
        exact ⟨trivial, lfk hk (by first | (rw [h]; done) | (rw [h]; rfl)) (by first | rfl | (rw [h]; rfl))⟩
      have hs : sceneL l = true := by rw [errI_ne] at h; simpa using h
      obtain ⟨hl, hbs⟩ := sceneL_ok hs
      refine ⟨trivial, ⟨(0, []), ⟨Nat.zero_le _, hs, rfl, Nat.le_refl _⟩, ⟨trivial, trivial, rfl, rfl, trivial⟩, rfl, rfl, trivial⟩, ?_⟩
      rintro ⟨i, acc⟩ ⟨hi, _, h1, h2⟩
      dsimp only at hi h1 h2 ⊢
      refine bcase_i (fun h => ?_) (fun h => ?_)
      · have h : i < l.length := by
          have h2 := of_decide_eq_true h
          omega
        rw [drop_at l bd0 i h] at h1
        refine ⟨⟨by omega, by omega⟩, by omega, trivial, trivial, ?_⟩
        simp only [Int.toNat_natCast]
        obtain ⟨b, hb⟩ : ∃ b, l.getD i bd0 = b := ⟨_, rfl⟩
        simp only [hb] at h1 ⊢
        refine bcase_i (fun ho => ?_) (fun ho => ?_)
        · have ho : b.2.2.2.2.2.2.2 = false := by simpa using ho
          simp only [stonesL, ho, cond_false] at h1
          refine ⟨trivial, ⟨trivial, by simp only [List.length_cons, List.length_nil]; omega⟩, (i + 1, acc ++ [stoneOf b]), (by simp only [M24_0]; omega), ⟨h, hs, ?_, ?_⟩, ⟨by trivial, by trivial, by trivial, incN i (by omega), trivial⟩, by trivial, by trivial, trivial⟩
          · show (acc ++ [stoneOf b]) ++ stonesL (l.drop (i + 1)) = stonesL l
            rw [← h1]; simp
          · simp only [List.length_append, List.length_cons, List.length_nil]; omega
        · have ho : b.2.2.2.2.2.2.2 = true := by simpa using ho
          simp only [stonesL, ho, cond_true] at h1
          exact ⟨(i + 1, acc), (by simp only [M24_0]; omega), ⟨h, hs, h1, by simp only []; omega⟩, ⟨by trivial, by trivial, by trivial, incN i (by omega), trivial⟩, by trivial, by trivial, trivial⟩
      · have h : ¬ i < l.length := by
          have h2 := of_decide_eq_false h
          omega
        rw [List.drop_eq_nil_of_le (by omega)] at h1
        simp only [stonesL, List.append_nil] at h1
        refine lfk hk (by rw [hs]; rfl) ?_
        rw [hs, h1]; rfl
    · cases hg
  · exact hk.elim
abbrev P26_0 (l : List St4) (c x : Nat × List Bd) : Prop := x.1 ≤ l.length ∧ l.length ≤ 16 ∧ x.2 = (l.take x.1).map placeB
abbrev M26_0 (l : List St4) (x : Nat × List Bd) : Nat := l.length - x.1
def An26 : List V → List Ob → Ann := fun args obs => match args, obs with
  | [.osl 0], [.ro [.int .i64, .int .i64, .int .i64, .int .i64] l] => ⟨Nat × List Bd, default, fun nm c x => P26_0 l c x, fun nm x => M26_0 l x, fun nm x => [(4, .osl 1), (11, .osl 0), (12, i64 l.length), (13, i64 x.1)], fun nm x => [.ro [.int .i64, .int .i64, .int .i64, .int .i64] l, .own 28 [.int .i64, .int .i64, .int .i64, .int .i64, .int .i64, .int .i64, .int .i64, .bool] x.2]⟩
  | _, _ => noAnn
theorem c26q : chkFn Tryz.prog Tryz.f26 (a26.lq) = true := by kernel_rfl
/-- Place -/
def g26 : GSpec := fun args obs => match args, obs with
  | [.osl 0], [.ro [.int .i64, .int .i64, .int .i64, .int .i64] l] => some (True, .ret (.tup [.osl 0, i64 (if 16 < l.length then 3 else errI (sceneL (l.map placeB)))]), [.own 28 [.int .i64, .int .i64, .int .i64, .int .i64, .int .i64, .int .i64, .int .i64, .bool] (bif sceneL ((l : List St4).map placeB) then (l : List St4).map placeB else [])])
  | _, _ => none
theorem k26 (l : List St4) (K' : Out → List Ob → Prop) : runQ (Z5d) (noD) (An26 [.osl 0] [.ro [.int .i64, .int .i64, .int .i64, .int .i64] l]) (a26.lq) [.osl 0] (lookO [.ro [.int .i64, .int .i64, .int .i64, .int .i64] l]) 1 (closeK K') =
    ((True) ∧
    bcase (decide ((↑l.length : Int) > (16 : Int)))
     ((True) ∧
     K' (Out.ret (V.tup [V.osl (nat_lit 0), V.int IntKind.i64 (3 : Int)]))
  [Ob.own (nat_lit 28)
      E8
      []])
     ((True) ∧
     ((∃ y0 : Nat × List Bd,
      (P26_0 l (default, default) y0) ∧
      ((True) ∧
       (True) ∧
       (((↑l.length : Int)) = (↑l.length : Int)) ∧
       ((0 : Int) = (↑y0.fst : Int)) ∧
       True) ∧
      ((l) = l) ∧
      (([]) = y0.snd) ∧
      True)) ∧
     (∀ (z1 : Nat × List Bd),
     ((P26_0 l (default, default) z1) →
     bcase (decide ((↑z1.fst : Int) < (↑l.length : Int)))
      (((0 : Int) ≤ (↑z1.fst : Int) ∧ (↑z1.fst : Int) < (↑l.length : Int)) ∧
      ((↑z1.fst : Int).toNat < l.length) ∧
      (True) ∧
      (True) ∧
      (True) ∧
      (True ∧
  (z1.snd.length +
        ([((l.getD (↑z1.fst : Int).toNat
                    st0).fst,
                (l.getD (↑z1.fst : Int).toNat
                      st0).snd.fst,
                (l.getD (↑z1.fst : Int).toNat
                        st0).snd.snd.fst,
                (l.getD (↑z1.fst : Int).toNat
                        st0).snd.snd.snd,
                (0 : Int), (0 : Int), (0 : Int), false)]).length) *
      (64 : Nat) ≤
    (140737488355328 : Nat)) ∧
      (∃ y3 : Nat × List Bd,
      (M26_0 l y3 < M26_0 l z1) ∧
      (P26_0 l (default, default) y3) ∧
      ((True) ∧
       (True) ∧
       (((↑l.length : Int)) = (↑l.length : Int)) ∧
       ((IntKind.i64.wrap ((↑z1.fst : Int) + (1 : Int))) = (↑y3.fst : Int)) ∧
       True) ∧
      ((l) = l) ∧
      (((z1.snd ++
    [((l.getD (↑z1.fst : Int).toNat
              st0).fst,
          (l.getD (↑z1.fst : Int).toNat
                st0).snd.fst,
          (l.getD (↑z1.fst : Int).toNat
                  st0).snd.snd.fst,
          (l.getD (↑z1.fst : Int).toNat
                  st0).snd.snd.snd,
          (0 : Int), (0 : Int), (0 : Int), false)])) = y3.snd) ∧
      True))
      ((True ∧ True) ∧
      (True) ∧
      bcase (errI (sceneL z1.snd) != (0 : Int))
       ((True) ∧
       K' (Out.ret (V.tup [V.osl (nat_lit 0), V.int IntKind.i64 (errI (sceneL z1.snd))]))
  [Ob.own (nat_lit 28)
      E8
      []])
       (K' (Out.ret (V.tup [V.osl (nat_lit 0), V.int IntKind.i64 (0 : Int)]))
  [Ob.own (nat_lit 28)
      E8
      z1.snd])))))) := by kernel_rfl
theorem r26 : FreshOk Tryz.prog 26 (ofD g26) := by
  refine fresh_of_runQ Z5d_ok (noD_ok _) An26 Tryz.func26 c26q fun args obs K' hk => ?_
  unfold ofD g26 at hk
  split at hk
  · rename_i d_ out news hg
    split at hg
    · rename_i l
      cases hg
      obtain ⟨hc, hk⟩ := hk
      obtain ⟨l, rfl⟩ : ∃ v' : List St4, v' = l := ⟨l, rfl⟩
      refine Eq.mpr (k26 l K') ?_
      refine ⟨trivial, ?_⟩
      refine bcase_i (fun h => ?_) (fun h => ?_)
      · have h : 16 < l.length := by
          have h2 := of_decide_eq_true h
          omega
        have hn : sceneL (l.map placeB) = false := by
          rw [sceneL, decide_eq_false (by rw [List.length_map]; omega), Bool.false_and]
        exact ⟨trivial, lfk hk (by rw [if_pos h]) (by simp only [hn, cond_false])⟩
      have hl : ¬ 16 < l.length := by
        have h2 := of_decide_eq_false h
        omega
      rw [if_neg hl] at hk
      refine ⟨trivial, ⟨(0, []), ⟨Nat.zero_le _, by omega, rfl⟩, ⟨trivial, trivial, rfl, rfl, trivial⟩, rfl, rfl, trivial⟩, ?_⟩
      rintro ⟨i, acc⟩ ⟨hi, _, ha⟩
      dsimp only at hi ha ⊢
      subst ha
      refine bcase_i (fun h => ?_) (fun h => ?_)
      · have h : i < l.length := by
          have h2 := of_decide_eq_true h
          omega
        refine ⟨⟨by omega, by omega⟩, by omega, trivial, trivial, trivial, ⟨trivial, by simp only [List.length_cons, List.length_nil, List.length_map, List.length_take]; omega⟩, (i + 1, (l.take (i + 1)).map placeB), (by simp only [M26_0]; omega), ⟨h, by omega, rfl⟩, ⟨by trivial, by trivial, by trivial, incN i (by omega), trivial⟩, by trivial, ?_, trivial⟩
        simp only [Int.toNat_natCast]
        rw [take_at l st0 i h, List.map_append]
        rfl
      · have h : ¬ i < l.length := by
          have h2 := of_decide_eq_false h
          omega
        rw [List.take_of_length_le (by omega)]
        refine ⟨⟨trivial, trivial⟩, trivial, ?_⟩
        refine bcase_i (fun h1 => ?_) (fun h1 => ?_)
        · rw [errI_ne] at h1
          have h1 : sceneL (l.map placeB) = false := by simpa using h1
          exact ⟨trivial, lfk hk rfl (by rw [h1]; rfl)⟩
        · rw [errI_ne] at h1
          have h1 : sceneL (l.map placeB) = true := by simpa using h1
          exact lfk hk (by rw [h1]; rfl) (by rw [h1]; rfl)
    · cases hg
  · exact hk.elim

end Go.Proofs.YtbolfnkgbjkbjaaGreat.AM
