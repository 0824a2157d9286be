/- Contracts, part 17: what Times does with a coordinate; Dot; Scale; Within. -/
import Derived.Test.YtbolfnkgbjkbjaaGreatS16
set_option linter.unusedVariables false
set_option linter.unusedSimpArgs false
namespace Go.Proofs.YtbolfnkgbjkbjaaGreat.AM
open Go Go.RowKit
set_option maxRecDepth 100000

def T17 : Tab := T16.add 147 (liftA (ofD g147))
theorem T17_ok : TabOk Tryz.prog T17 := T16_ok.add (entry_of_fresh r147)
def D17 : DTab := D16.add 102 ((viewD g102).abs .all)
theorem D17_ok : TabOk Tryz.prog (tabD D17) := DTab.add_ok D16_ok (dabs_ok .all (dok r102))
def T17d : Tab := (T17.add 140 (runFn T17 D17 noIv a140)).add 96 (runTried (T17.add 140 (runFn T17 D17 noIv a140)) D17 noIv a96)
theorem T17d_ok : TabOk Tryz.prog T17d := (T17_ok.add (fn_entry T17_ok D17_ok noIv Tryz.func140 c140)).add (tried_entry (T17_ok.add (fn_entry T17_ok D17_ok noIv Tryz.func140 c140)) D17_ok noIv Tryz.func96 Tryz.func160 c96 d96)
def T17s : Tab := (T17.add 148 (runFn T17 D17 noIv a148)).add 96 (runTried (T17.add 148 (runFn T17 D17 noIv a148)) D17 noIv a96)
theorem T17s_ok : TabOk Tryz.prog T17s := (T17_ok.add (fn_entry T17_ok D17_ok noIv Tryz.func148 c148)).add (tried_entry (T17_ok.add (fn_entry T17_ok D17_ok noIv Tryz.func148 c148)) D17_ok noIv Tryz.func96 Tryz.func160 c96 d96)
def T17w0 : Tab := T17.add 124 (liftA (ofD g124))
theorem T17w0_ok : TabOk Tryz.prog T17w0 := T17_ok.add (entry_of_fresh r124)
def T17w : Tab := (T17w0.add 123 (runFn T17w0 D17 noIv a123)).add 122 (runTried (T17w0.add 123 (runFn T17w0 D17 noIv a123)) D17 noIv a122)
theorem T17w_ok : TabOk Tryz.prog T17w := (T17w0_ok.add (fn_entry T17w0_ok D17_ok noIv Tryz.func123 c123)).add (tried_entry (T17w0_ok.add (fn_entry T17w0_ok D17_ok noIv Tryz.func123 c123)) D17_ok noIv Tryz.func122 Tryz.func187 c122 d122)
theorem sg_mul (a c : Int) : sg (!(decide (a < 0) == decide (c < 0))) ((a.natAbs : Int) * (c.natAbs : Int)) = a * c := by
  rw [natAbs_nn, natAbs_nn]
  unfold sg
  by_cases hx : a < 0 <;> by_cases hb : c < 0 <;> simp only [hx, hb, decide_true, decide_false, if_true, if_false]
  · show -a * -c = _; rw [Int.neg_mul_neg]
  · show -(-a * c) = _; rw [Int.neg_mul, Int.neg_neg]
  · show -(a * -c) = _; rw [Int.mul_neg, Int.neg_neg]
  · rfl
theorem sg_down (neg : Bool) (N : Int) : sg neg (if 0 < N % 65536 ∧ neg = true then N / 65536 + 1 else N / 65536) = sg neg N / 65536 := by
  cases neg <;> simp only [sg, cond_true, cond_false]
  · rw [if_neg (by simp)]
  · by_cases h : 0 < N % 65536
    · rw [if_pos ⟨h, trivial⟩]; omega
    · rw [if_neg (fun hh => h hh.1)]; omega

/-- fixed.Dot, down -/
def g84 : GSpec := fun args obs => match args, obs with
  | [.agg [.int .i64 a, .int .i64 b], .agg [.int .i64 c, .int .i64 d], .int .i64 1], [] => some ((fixOk a ∧ fixOk b ∧ fixOk c ∧ fixOk d) ∧ ((a.natAbs : Int) * (c.natAbs : Int) + (b.natAbs : Int) * (d.natAbs : Int)) / 65536 < 70368744177664, .ret (.tup [i64 ((a * c + b * d) / 65536), i64 0]), [])
  | _, _ => none
theorem k84 (a b c d : Int) (K' : Out → List Ob → Prop) : runFn (T17d) (D17) noIv a84 [.agg [.int .i64 a, .int .i64 b], .agg [.int .i64 c, .int .i64 d], .int .i64 1] (lookO []) 0 (closeK K') =
    ((True) ∧
    (True) ∧
    (True) ∧
    (True) ∧
    (True) ∧
    (True) ∧
    (True ∧ True) ∧
    ([a, b, c, d].length < (1000000 : Nat) ∧
  ∀ (x : den [SK.int IntKind.i64]),
    x ∈ [a, b, c, d] →
      (-70368744177664 : den [SK.int IntKind.i64]) ≤ x ∧ x ≤ (70368744177664 : den [SK.int IntKind.i64])) ∧
    ((True ∧ True) ∧ (-9223372036854775808 : Int) ≤ a ∧ a < (9223372036854775808 : Int)) ∧
    ((True ∧ True) ∧ (-9223372036854775808 : Int) ≤ c ∧ c < (9223372036854775808 : Int)) ∧
    ((True ∧ True ∧ True) ∧ w64 ↑a.natAbs ∧ w64 ↑c.natAbs) ∧
    (∀ (z0 : Int),
    ((z0 = ↑a.natAbs * ↑c.natAbs / (18446744073709551616 : Int)) →
    (∀ (z2 : Int),
    ((z2 = ↑a.natAbs * ↑c.natAbs % (18446744073709551616 : Int)) →
    ((True ∧ True) ∧ (-9223372036854775808 : Int) ≤ b ∧ b < (9223372036854775808 : Int)) ∧
    ((True ∧ True) ∧ (-9223372036854775808 : Int) ≤ d ∧ d < (9223372036854775808 : Int)) ∧
    ((True ∧ True ∧ True) ∧ w64 ↑b.natAbs ∧ w64 ↑d.natAbs) ∧
    (∀ (z4 : Int),
    ((z4 = ↑b.natAbs * ↑d.natAbs / (18446744073709551616 : Int)) →
    (∀ (z6 : Int),
    ((z6 = ↑b.natAbs * ↑d.natAbs % (18446744073709551616 : Int)) →
    (True) ∧
    (True) ∧
    (True) ∧
    (True) ∧
    bcase (match false with
  | true =>
  !(match true with
      | true => !decide (a < (0 : Int)) == decide (c < (0 : Int))
      | false => decide (a < (0 : Int)) == decide (c < (0 : Int))) ==
      match true with
      | true => !decide (b < (0 : Int)) == decide (d < (0 : Int))
      | false => decide (b < (0 : Int)) == decide (d < (0 : Int))
  | false =>
  (match true with
    | true => !decide (a < (0 : Int)) == decide (c < (0 : Int))
    | false => decide (a < (0 : Int)) == decide (c < (0 : Int))) ==
    match true with
    | true => !decide (b < (0 : Int)) == decide (d < (0 : Int))
    | false => decide (b < (0 : Int)) == decide (d < (0 : Int)))
     (((True ∧ True ∧ True) ∧ (True ∧ True ∧ True) ∧ True) ∧
     ((w64 z0 ∧ w64 z2 ∧ w64 z4 ∧ w64 z6) ∧ z0 + z4 < (18446744073709551616 : Int) - (1 : Int)) ∧
     ((True ∧ True ∧ True) ∧ True ∧ True ∧ True ∧ True) ∧
     (((0 : Int) ≤
      (z0 * (18446744073709551616 : Int) + z2 + (z4 * (18446744073709551616 : Int) + z6)) /
        (18446744073709551616 : Int) ∧
    (z0 * (18446744073709551616 : Int) + z2 + (z4 * (18446744073709551616 : Int) + z6)) / (18446744073709551616 : Int) <
        (65536 : Int) ∧
      w64
          ((z0 * (18446744073709551616 : Int) + z2 + (z4 * (18446744073709551616 : Int) + z6)) %
            (18446744073709551616 : Int)) ∧
        (0 : Int) < (65536 : Int) ∧ (65536 : Int) < (4294967296 : Int)) ∧
  ((z0 * (18446744073709551616 : Int) + z2 + (z4 * (18446744073709551616 : Int) + z6)) / (18446744073709551616 : Int) *
          (18446744073709551616 : Int) +
        (z0 * (18446744073709551616 : Int) + z2 + (z4 * (18446744073709551616 : Int) + z6)) %
          (18446744073709551616 : Int)) /
      (65536 : Int) <
    (70368744177664 : Int)) ∧
     (True) ∧
     (True) ∧
     (True) ∧
     (True) ∧
     K'
  (Out.ret
    (V.tup
      [V.int IntKind.i64
          (sg
            (match true with
            | true => !decide (a < (0 : Int)) == decide (c < (0 : Int))
            | false => decide (a < (0 : Int)) == decide (c < (0 : Int)))
            (if
                (0 : Int) <
                    ((z0 * (18446744073709551616 : Int) + z2 + (z4 * (18446744073709551616 : Int) + z6)) /
                            (18446744073709551616 : Int) *
                          (18446744073709551616 : Int) +
                        (z0 * (18446744073709551616 : Int) + z2 + (z4 * (18446744073709551616 : Int) + z6)) %
                          (18446744073709551616 : Int)) %
                      (65536 : Int) ∧
                  (match true with
                    | true => !decide (a < (0 : Int)) == decide (c < (0 : Int))
                    | false => decide (a < (0 : Int)) == decide (c < (0 : Int))) =
                    true then
              ((z0 * (18446744073709551616 : Int) + z2 + (z4 * (18446744073709551616 : Int) + z6)) /
                        (18446744073709551616 : Int) *
                      (18446744073709551616 : Int) +
                    (z0 * (18446744073709551616 : Int) + z2 + (z4 * (18446744073709551616 : Int) + z6)) %
                      (18446744073709551616 : Int)) /
                  (65536 : Int) +
                (1 : Int)
            else
              ((z0 * (18446744073709551616 : Int) + z2 + (z4 * (18446744073709551616 : Int) + z6)) /
                      (18446744073709551616 : Int) *
                    (18446744073709551616 : Int) +
                  (z0 * (18446744073709551616 : Int) + z2 + (z4 * (18446744073709551616 : Int) + z6)) %
                    (18446744073709551616 : Int)) /
                (65536 : Int))),
        V.int IntKind.i64 (0 : Int)]))
  [])
     (((True ∧ True ∧ True) ∧ (True ∧ True ∧ True) ∧ True) ∧
     (w64 z0 ∧ w64 z2 ∧ w64 z4 ∧ w64 z6) ∧
     bcase (decide (cmpI (z0 * (18446744073709551616 : Int) + z2) (z4 * (18446744073709551616 : Int) + z6) ≥ (0 : Int)))
      (((True ∧ True ∧ True) ∧ (True ∧ True ∧ True) ∧ True) ∧
      ((w64 z0 ∧ w64 z2 ∧ w64 z4 ∧ w64 z6) ∧ z4 * (18446744073709551616 : Int) + z6 ≤ z0 * (18446744073709551616 : Int) + z2) ∧
      ((True ∧ True ∧ True) ∧ True ∧ True ∧ True ∧ True) ∧
      (((0 : Int) ≤
      (z0 * (18446744073709551616 : Int) + z2 - (z4 * (18446744073709551616 : Int) + z6)) /
        (18446744073709551616 : Int) ∧
    (z0 * (18446744073709551616 : Int) + z2 - (z4 * (18446744073709551616 : Int) + z6)) / (18446744073709551616 : Int) <
        (65536 : Int) ∧
      w64
          ((z0 * (18446744073709551616 : Int) + z2 - (z4 * (18446744073709551616 : Int) + z6)) %
            (18446744073709551616 : Int)) ∧
        (0 : Int) < (65536 : Int) ∧ (65536 : Int) < (4294967296 : Int)) ∧
  ((z0 * (18446744073709551616 : Int) + z2 - (z4 * (18446744073709551616 : Int) + z6)) / (18446744073709551616 : Int) *
          (18446744073709551616 : Int) +
        (z0 * (18446744073709551616 : Int) + z2 - (z4 * (18446744073709551616 : Int) + z6)) %
          (18446744073709551616 : Int)) /
      (65536 : Int) <
    (70368744177664 : Int)) ∧
      (True) ∧
      (True) ∧
      (True) ∧
      (True) ∧
      K'
  (Out.ret
    (V.tup
      [V.int IntKind.i64
          (sg
            (match true with
            | true => !decide (a < (0 : Int)) == decide (c < (0 : Int))
            | false => decide (a < (0 : Int)) == decide (c < (0 : Int)))
            (if
                (0 : Int) <
                    ((z0 * (18446744073709551616 : Int) + z2 - (z4 * (18446744073709551616 : Int) + z6)) /
                            (18446744073709551616 : Int) *
                          (18446744073709551616 : Int) +
                        (z0 * (18446744073709551616 : Int) + z2 - (z4 * (18446744073709551616 : Int) + z6)) %
                          (18446744073709551616 : Int)) %
                      (65536 : Int) ∧
                  (match true with
                    | true => !decide (a < (0 : Int)) == decide (c < (0 : Int))
                    | false => decide (a < (0 : Int)) == decide (c < (0 : Int))) =
                    true then
              ((z0 * (18446744073709551616 : Int) + z2 - (z4 * (18446744073709551616 : Int) + z6)) /
                        (18446744073709551616 : Int) *
                      (18446744073709551616 : Int) +
                    (z0 * (18446744073709551616 : Int) + z2 - (z4 * (18446744073709551616 : Int) + z6)) %
                      (18446744073709551616 : Int)) /
                  (65536 : Int) +
                (1 : Int)
            else
              ((z0 * (18446744073709551616 : Int) + z2 - (z4 * (18446744073709551616 : Int) + z6)) /
                      (18446744073709551616 : Int) *
                    (18446744073709551616 : Int) +
                  (z0 * (18446744073709551616 : Int) + z2 - (z4 * (18446744073709551616 : Int) + z6)) %
                    (18446744073709551616 : Int)) /
                (65536 : Int))),
        V.int IntKind.i64 (0 : Int)]))
  [])
      (((True ∧ True ∧ True) ∧ (True ∧ True ∧ True) ∧ True) ∧
      ((w64 z4 ∧ w64 z6 ∧ w64 z0 ∧ w64 z2) ∧ z0 * (18446744073709551616 : Int) + z2 ≤ z4 * (18446744073709551616 : Int) + z6) ∧
      ((True ∧ True ∧ True) ∧ True ∧ True ∧ True ∧ True) ∧
      (((0 : Int) ≤
      (z4 * (18446744073709551616 : Int) + z6 - (z0 * (18446744073709551616 : Int) + z2)) /
        (18446744073709551616 : Int) ∧
    (z4 * (18446744073709551616 : Int) + z6 - (z0 * (18446744073709551616 : Int) + z2)) / (18446744073709551616 : Int) <
        (65536 : Int) ∧
      w64
          ((z4 * (18446744073709551616 : Int) + z6 - (z0 * (18446744073709551616 : Int) + z2)) %
            (18446744073709551616 : Int)) ∧
        (0 : Int) < (65536 : Int) ∧ (65536 : Int) < (4294967296 : Int)) ∧
  ((z4 * (18446744073709551616 : Int) + z6 - (z0 * (18446744073709551616 : Int) + z2)) / (18446744073709551616 : Int) *
          (18446744073709551616 : Int) +
        (z4 * (18446744073709551616 : Int) + z6 - (z0 * (18446744073709551616 : Int) + z2)) %
          (18446744073709551616 : Int)) /
      (65536 : Int) <
    (70368744177664 : Int)) ∧
      (True) ∧
      (True) ∧
      (True) ∧
      (True) ∧
      K'
  (Out.ret
    (V.tup
      [V.int IntKind.i64
          (sg
            (match true with
            | true => !decide (b < (0 : Int)) == decide (d < (0 : Int))
            | false => decide (b < (0 : Int)) == decide (d < (0 : Int)))
            (if
                (0 : Int) <
                    ((z4 * (18446744073709551616 : Int) + z6 - (z0 * (18446744073709551616 : Int) + z2)) /
                            (18446744073709551616 : Int) *
                          (18446744073709551616 : Int) +
                        (z4 * (18446744073709551616 : Int) + z6 - (z0 * (18446744073709551616 : Int) + z2)) %
                          (18446744073709551616 : Int)) %
                      (65536 : Int) ∧
                  (match true with
                    | true => !decide (b < (0 : Int)) == decide (d < (0 : Int))
                    | false => decide (b < (0 : Int)) == decide (d < (0 : Int))) =
                    true then
              ((z4 * (18446744073709551616 : Int) + z6 - (z0 * (18446744073709551616 : Int) + z2)) /
                        (18446744073709551616 : Int) *
                      (18446744073709551616 : Int) +
                    (z4 * (18446744073709551616 : Int) + z6 - (z0 * (18446744073709551616 : Int) + z2)) %
                      (18446744073709551616 : Int)) /
                  (65536 : Int) +
                (1 : Int)
            else
              ((z4 * (18446744073709551616 : Int) + z6 - (z0 * (18446744073709551616 : Int) + z2)) /
                      (18446744073709551616 : Int) *
                    (18446744073709551616 : Int) +
                  (z4 * (18446744073709551616 : Int) + z6 - (z0 * (18446744073709551616 : Int) + z2)) %
                    (18446744073709551616 : Int)) /
                (65536 : Int))),
        V.int IntKind.i64 (0 : Int)]))
  []))))))))))) := by kernel_rfl
theorem r84 : FreshOk Tryz.prog 84 (ofD g84) := by
  refine fresh_of_run T17d_ok D17_ok (fun _ _ => noIv) Tryz.func84 c84 fun args obs K' hk => ?_
  unfold ofD g84 at hk
  split at hk
  · rename_i d_ out news hg
    split at hg
    · rename_i a b c d
      cases hg
      obtain ⟨hc, hk⟩ := hk
      obtain ⟨⟨h1, h2, h3, h4⟩, h5⟩ := hc
      refine Eq.mpr (k84 a b c d K') ⟨trivial, trivial, trivial, trivial, trivial, trivial, ⟨trivial, trivial⟩, ?_, ?_, ?_, ?_, ?_⟩
      · first | omega | (simp only [true_and, and_true]; omega) | exact in_fix (by simp) (by simp; omega)
      · first | omega | (simp only [true_and, and_true]; omega) | exact in_fix (by simp) (by simp; omega)
      · first | omega | (simp only [true_and, and_true]; omega) | exact in_fix (by simp) (by simp; omega)
      · first | omega | (simp only [true_and, and_true]; omega) | exact in_fix (by simp) (by simp; omega)
      · intro z0 e0 z2 e2
        refine And.intro (by first | omega | (simp only [true_and, and_true]; done) | (simp only [true_and, and_true]; omega)) (And.intro (by first | omega | (simp only [true_and, and_true]; done) | (simp only [true_and, and_true]; omega)) (And.intro (by first | omega | (simp only [true_and, and_true]; done) | (simp only [true_and, and_true]; omega)) ?_))
        intro z4 e4 z6 e6
        repeat refine And.intro True.intro ?_
        have hP := abs_mul_le a c h1 h3
        have hQ := abs_mul_le b d h2 h4
        have sP := sg_mul a c
        have sQ := sg_mul b d
        generalize (a.natAbs : Int) * (c.natAbs : Int) = P at *
        generalize (b.natAbs : Int) * (d.natAbs : Int) = Q at *
        have eP : z0 * 18446744073709551616 + z2 = P := by omega
        have eQ : z4 * 18446744073709551616 + z6 = Q := by omega
        have ew : w64 z0 ∧ w64 z2 ∧ w64 z4 ∧ w64 z6 := by omega
        dsimp only
        generalize hm : (!decide (a < 0) == decide (c < 0)) = m at *
        generalize hn : (!decide (b < 0) == decide (d < 0)) = n at *
        simp only [eP, eQ, split64, sg_down]
        refine bcase_i (fun h => ?_) (fun h => ?_)
        · have h : m = n := eq_of_beq h
          refine And.intro (by first | omega | (simp only [true_and, and_true]; done) | (simp only [true_and, and_true]; omega)) (And.intro (by first | omega | (simp only [true_and, and_true]; done) | (simp only [true_and, and_true]; omega)) (And.intro (by first | omega | (simp only [true_and, and_true]; done) | (simp only [true_and, and_true]; omega)) (And.intro (by first | omega | (simp only [true_and, and_true]; done) | (simp only [true_and, and_true]; omega)) ?_)))
          repeat refine And.intro True.intro ?_
          rw [show sg m (P + Q) = a * c + b * d by rw [← sP, ← sQ, ← h]; cases m <;> simp only [sg, cond_true, cond_false] <;> omega]
          exact hk
        · have h : m ≠ n := fun e => by rw [e] at h; simp at h
          have hmn : n = !m := by cases m <;> cases n <;> simp_all
          refine And.intro (by first | omega | (simp only [true_and, and_true]; done) | (simp only [true_and, and_true]; omega)) (And.intro (by first | omega | (simp only [true_and, and_true]; done) | (simp only [true_and, and_true]; omega)) ?_)
          refine bcase_i (fun h => ?_) (fun h => ?_)
          · have h : Q ≤ P := (cmpI_ge _ _).1 (of_decide_eq_true h)
            refine And.intro (by first | omega | (simp only [true_and, and_true]; done) | (simp only [true_and, and_true]; omega)) (And.intro (by first | omega | (simp only [true_and, and_true]; done) | (simp only [true_and, and_true]; omega)) (And.intro (by first | omega | (simp only [true_and, and_true]; done) | (simp only [true_and, and_true]; omega)) (And.intro (by first | omega | (simp only [true_and, and_true]; done) | (simp only [true_and, and_true]; omega)) ?_)))
            repeat refine And.intro True.intro ?_
            rw [show sg m (P - Q) = a * c + b * d by rw [← sP, ← sQ, hmn]; cases m <;> simp only [sg, cond_true, cond_false, Bool.not_true, Bool.not_false] <;> omega]
            exact hk
          · have h : ¬ Q ≤ P := fun hh => of_decide_eq_false h ((cmpI_ge _ _).2 hh)
            refine And.intro (by first | omega | (simp only [true_and, and_true]; done) | (simp only [true_and, and_true]; omega)) (And.intro (by first | omega | (simp only [true_and, and_true]; done) | (simp only [true_and, and_true]; omega)) (And.intro (by first | omega | (simp only [true_and, and_true]; done) | (simp only [true_and, and_true]; omega)) (And.intro (by first | omega | (simp only [true_and, and_true]; done) | (simp only [true_and, and_true]; omega)) ?_)))
            repeat refine And.intro True.intro ?_
            rw [show sg n (Q - P) = a * c + b * d by rw [← sP, ← sQ, hmn]; cases m <;> simp only [sg, cond_true, cond_false, Bool.not_true, Bool.not_false] <;> omega]
            exact hk
    · cases hg
  · exact hk.elim

end Go.Proofs.YtbolfnkgbjkbjaaGreat.AM
