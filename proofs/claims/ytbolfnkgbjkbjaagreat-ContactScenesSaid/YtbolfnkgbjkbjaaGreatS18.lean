/- Contracts, part 18: Scale, Within, what Times does with a coordinate. -/
import Derived.Test.YtbolfnkgbjkbjaaGreatS17
set_option linter.unusedVariables false
set_option linter.unusedSimpArgs false
namespace Go.Proofs.YtbolfnkgbjkbjaaGreat.AM
open Go Go.RowKit
set_option maxRecDepth 100000

def T18s : Tab := (T17.add 148 (runFn T17 D17 noIv a148)).add 96 (runTried (T17.add 148 (runFn T17 D17 noIv a148)) D17 noIv a96)
theorem T18s_ok : TabOk Tryz.prog T18s := (T17_ok.add (fn_entry T17_ok D17_ok noIv Tryz.func148 c148)).add (tried_entry (T17_ok.add (fn_entry T17_ok D17_ok noIv Tryz.func148 c148)) D17_ok noIv Tryz.func96 Tryz.func160 c96 d96)
def T18w0 : Tab := T17.add 124 (absT .all (liftA (ofD g124)))
theorem T18w0_ok : TabOk Tryz.prog T18w0 := T17_ok.add (absT_ok .all (entry_of_fresh r124))
def T18w : Tab := (T18w0.add 123 (runFn T18w0 D17 noIv a123)).add 122 (runTried (T18w0.add 123 (runFn T18w0 D17 noIv a123)) D17 noIv a122)
theorem T18w_ok : TabOk Tryz.prog T18w := (T18w0_ok.add (fn_entry T18w0_ok D17_ok noIv Tryz.func123 c123)).add (tried_entry (T18w0_ok.add (fn_entry T18w0_ok D17_ok noIv Tryz.func123 c123)) D17_ok noIv Tryz.func122 Tryz.func187 c122 d122)
/-- To the nearest, halves away from 0. -/
def nearI (n d : Int) : Int := if n < 0 then -((2 * -n + d) / (2 * d)) else (2 * n + d) / (2 * d)
theorem near_nat (N d : Int) (hN : 0 ≤ N) (hd : 0 < d) : (if d ≤ 2 * (N % d) then N / d + 1 else N / d) = (2 * N + d) / (2 * d) := by
  have h1 := Int.mul_ediv_add_emod N d
  have h2 := Int.emod_nonneg N (show d ≠ 0 by omega)
  have h3 := Int.emod_lt_of_pos N hd
  generalize N / d = q at *
  generalize N % d = r at *
  symm
  split
  · refine ((Int.ediv_emod_unique (b := 2 * d) (r := 2 * r - d) (by omega)).2 ⟨?_, by omega, by omega⟩).1
    rw [← h1]; grind
  · refine ((Int.ediv_emod_unique (b := 2 * d) (r := 2 * r + d) (by omega)).2 ⟨?_, by omega, by omega⟩).1
    rw [← h1]; grind
theorem sg_near (a n d : Int) (hd : 0 < d) : sg (!(decide (a < 0) == decide (n < 0))) ((2 * ((a.natAbs : Int) * (n.natAbs : Int)) + d) / (2 * d)) = nearI (a * n) d := by
  have h := sg_mul a n
  have h0 : 0 ≤ (a.natAbs : Int) * (n.natAbs : Int) := Int.mul_nonneg (by omega) (by omega)
  generalize (a.natAbs : Int) * (n.natAbs : Int) = N at *
  generalize (!(decide (a < 0) == decide (n < 0))) = m at *
  rw [← h]
  cases m
  · show (2 * N + d) / (2 * d) = nearI N d
    unfold nearI
    rw [if_neg (by omega)]
  · show -((2 * N + d) / (2 * d)) = nearI (-N) d
    unfold nearI
    by_cases e : N = 0
    · subst e
      have : d / (2 * d) = 0 := Int.ediv_eq_zero_of_lt (by omega) (by omega)
      simp [this]
    · rw [if_pos (by omega), Int.neg_neg]
theorem cmpI_le (a b : Int) : cmpI a b ≤ 0 ↔ a ≤ b := by
  unfold cmpI
  split
  · omega
  · split <;> omega
theorem bnot_false (b : Bool) : (!(b == false)) = b := by cases b <;> rfl
theorem lt_of_quot {P d : Int} (hd : 0 < d) (h : P / d < 70368744177664) : P < d * 70368744177664 := by
  have h1 := Int.mul_ediv_add_emod P d
  have h3 := Int.emod_lt_of_pos P hd
  have h4 : d * (P / d) ≤ d * 70368744177663 := Int.mul_le_mul_of_nonneg_left (by omega) (by omega)
  omega

/-- fixed.Scale -/
def g86_0 : GSpec := fun args obs => match args, obs with
  | [.int .i64 a, .int .i64 n, .int .i64 d, .int .i64 0], [] => some (fixOk a ∧ (-2147483648 ≤ n ∧ n ≤ 2147483648) ∧ (0 < d ∧ d ≤ 2147483648) ∧ (a.natAbs : Int) * (n.natAbs : Int) / d < 70368744177664, .ret (.tup [i64 ((a * n).tdiv d), i64 0]), [])
  | _, _ => none
theorem k86_0 (a n d : Int) (K' : Out → List Ob → Prop) : runFn (T18s) (D17) noIv a86 [.int .i64 a, .int .i64 n, .int .i64 d, .int .i64 0] (lookO []) 0 (closeK K') =
    ((True) ∧
    (True) ∧
    (True) ∧
    (True) ∧
    (True) ∧
    (True) ∧
    (True) ∧
    (True ∧ True) ∧
    ([a].length < (1000000 : Nat) ∧
  ∀ (x : den [SK.int IntKind.i64]),
    x ∈ [a] → (-70368744177664 : den [SK.int IntKind.i64]) ≤ x ∧ x ≤ (70368744177664 : den [SK.int IntKind.i64])) ∧
    bcase (decide (n ≥ (-2147483648 : Int)))
     (bcase (bif true then decide (n ≤ (2147483648 : Int)) else false)
      (bcase (bif true then decide (d ≥ (-2147483648 : Int)) else false)
       ((True ∧ True ∧ True) ∧
       ((bif true then decide (d ≤ (2147483648 : Int)) else false) = true) ∧
       (True ∧ True ∧ True) ∧
       ((d != (0 : Int)) = true) ∧
       ((True ∧ True) ∧ (-9223372036854775808 : Int) ≤ a ∧ a < (9223372036854775808 : Int)) ∧
       ((True ∧ True) ∧ (-9223372036854775808 : Int) ≤ n ∧ n < (9223372036854775808 : Int)) ∧
       ((True ∧ True ∧ True) ∧ w64 ↑a.natAbs ∧ w64 ↑n.natAbs) ∧
       (∀ (z0 : Int),
       ((z0 = ↑a.natAbs * ↑n.natAbs / (18446744073709551616 : Int)) →
       (∀ (z2 : Int),
       ((z2 = ↑a.natAbs * ↑n.natAbs % (18446744073709551616 : Int)) →
       ((True ∧ True) ∧ (-9223372036854775808 : Int) ≤ d ∧ d < (9223372036854775808 : Int)) ∧
       (((True ∧ True ∧ True) ∧ True ∧ True ∧ True ∧ True) ∧
  ((0 : Int) ≤ z0 ∧ z0 < ↑d.natAbs ∧ w64 z2 ∧ (0 : Int) < ↑d.natAbs ∧ ↑d.natAbs < (4294967296 : Int)) ∧
    (z0 * (18446744073709551616 : Int) + z2) / ↑d.natAbs < (70368744177664 : Int)) ∧
       (True) ∧
       (True) ∧
       (True) ∧
       (True) ∧
       K'
  (Out.ret
    (V.tup
      [V.int IntKind.i64
          (sg
            (match true with
            | true =>
              !decide (a < (0 : Int)) ==
                  match true with
                  | true => !decide (n < (0 : Int)) == decide (d < (0 : Int))
                  | false => decide (n < (0 : Int)) == decide (d < (0 : Int))
            | false =>
              decide (a < (0 : Int)) ==
                match true with
                | true => !decide (n < (0 : Int)) == decide (d < (0 : Int))
                | false => decide (n < (0 : Int)) == decide (d < (0 : Int)))
            ((z0 * (18446744073709551616 : Int) + z2) / ↑d.natAbs)),
        V.int IntKind.i64 (0 : Int)]))
  [])))))
       ((True ∧ True ∧ True) ∧
       (false = true) ∧
       (True ∧ True ∧ True) ∧
       ((d != (0 : Int)) = true) ∧
       ((True ∧ True) ∧ (-9223372036854775808 : Int) ≤ a ∧ a < (9223372036854775808 : Int)) ∧
       ((True ∧ True) ∧ (-9223372036854775808 : Int) ≤ n ∧ n < (9223372036854775808 : Int)) ∧
       ((True ∧ True ∧ True) ∧ w64 ↑a.natAbs ∧ w64 ↑n.natAbs) ∧
       (∀ (z4 : Int),
       ((z4 = ↑a.natAbs * ↑n.natAbs / (18446744073709551616 : Int)) →
       (∀ (z6 : Int),
       ((z6 = ↑a.natAbs * ↑n.natAbs % (18446744073709551616 : Int)) →
       ((True ∧ True) ∧ (-9223372036854775808 : Int) ≤ d ∧ d < (9223372036854775808 : Int)) ∧
       (((True ∧ True ∧ True) ∧ True ∧ True ∧ True ∧ True) ∧
  ((0 : Int) ≤ z4 ∧ z4 < ↑d.natAbs ∧ w64 z6 ∧ (0 : Int) < ↑d.natAbs ∧ ↑d.natAbs < (4294967296 : Int)) ∧
    (z4 * (18446744073709551616 : Int) + z6) / ↑d.natAbs < (70368744177664 : Int)) ∧
       (True) ∧
       (True) ∧
       (True) ∧
       (True) ∧
       K'
  (Out.ret
    (V.tup
      [V.int IntKind.i64
          (sg
            (match true with
            | true =>
              !decide (a < (0 : Int)) ==
                  match true with
                  | true => !decide (n < (0 : Int)) == decide (d < (0 : Int))
                  | false => decide (n < (0 : Int)) == decide (d < (0 : Int))
            | false =>
              decide (a < (0 : Int)) ==
                match true with
                | true => !decide (n < (0 : Int)) == decide (d < (0 : Int))
                | false => decide (n < (0 : Int)) == decide (d < (0 : Int)))
            ((z4 * (18446744073709551616 : Int) + z6) / ↑d.natAbs)),
        V.int IntKind.i64 (0 : Int)]))
  []))))))
      ((True ∧ True ∧ True) ∧
      (false = true) ∧
      (True ∧ True ∧ True) ∧
      ((d != (0 : Int)) = true) ∧
      ((True ∧ True) ∧ (-9223372036854775808 : Int) ≤ a ∧ a < (9223372036854775808 : Int)) ∧
      ((True ∧ True) ∧ (-9223372036854775808 : Int) ≤ n ∧ n < (9223372036854775808 : Int)) ∧
      ((True ∧ True ∧ True) ∧ w64 ↑a.natAbs ∧ w64 ↑n.natAbs) ∧
      (∀ (z8 : Int),
      ((z8 = ↑a.natAbs * ↑n.natAbs / (18446744073709551616 : Int)) →
      (∀ (z10 : Int),
      ((z10 = ↑a.natAbs * ↑n.natAbs % (18446744073709551616 : Int)) →
      ((True ∧ True) ∧ (-9223372036854775808 : Int) ≤ d ∧ d < (9223372036854775808 : Int)) ∧
      (((True ∧ True ∧ True) ∧ True ∧ True ∧ True ∧ True) ∧
  ((0 : Int) ≤ z8 ∧ z8 < ↑d.natAbs ∧ w64 z10 ∧ (0 : Int) < ↑d.natAbs ∧ ↑d.natAbs < (4294967296 : Int)) ∧
    (z8 * (18446744073709551616 : Int) + z10) / ↑d.natAbs < (70368744177664 : Int)) ∧
      (True) ∧
      (True) ∧
      (True) ∧
      (True) ∧
      K'
  (Out.ret
    (V.tup
      [V.int IntKind.i64
          (sg
            (match true with
            | true =>
              !decide (a < (0 : Int)) ==
                  match true with
                  | true => !decide (n < (0 : Int)) == decide (d < (0 : Int))
                  | false => decide (n < (0 : Int)) == decide (d < (0 : Int))
            | false =>
              decide (a < (0 : Int)) ==
                match true with
                | true => !decide (n < (0 : Int)) == decide (d < (0 : Int))
                | false => decide (n < (0 : Int)) == decide (d < (0 : Int)))
            ((z8 * (18446744073709551616 : Int) + z10) / ↑d.natAbs)),
        V.int IntKind.i64 (0 : Int)]))
  []))))))
     ((True ∧ True ∧ True) ∧
     (false = true) ∧
     (True ∧ True ∧ True) ∧
     ((d != (0 : Int)) = true) ∧
     ((True ∧ True) ∧ (-9223372036854775808 : Int) ≤ a ∧ a < (9223372036854775808 : Int)) ∧
     ((True ∧ True) ∧ (-9223372036854775808 : Int) ≤ n ∧ n < (9223372036854775808 : Int)) ∧
     ((True ∧ True ∧ True) ∧ w64 ↑a.natAbs ∧ w64 ↑n.natAbs) ∧
     (∀ (z12 : Int),
     ((z12 = ↑a.natAbs * ↑n.natAbs / (18446744073709551616 : Int)) →
     (∀ (z14 : Int),
     ((z14 = ↑a.natAbs * ↑n.natAbs % (18446744073709551616 : Int)) →
     ((True ∧ True) ∧ (-9223372036854775808 : Int) ≤ d ∧ d < (9223372036854775808 : Int)) ∧
     (((True ∧ True ∧ True) ∧ True ∧ True ∧ True ∧ True) ∧
  ((0 : Int) ≤ z12 ∧ z12 < ↑d.natAbs ∧ w64 z14 ∧ (0 : Int) < ↑d.natAbs ∧ ↑d.natAbs < (4294967296 : Int)) ∧
    (z12 * (18446744073709551616 : Int) + z14) / ↑d.natAbs < (70368744177664 : Int)) ∧
     (True) ∧
     (True) ∧
     (True) ∧
     (True) ∧
     K'
  (Out.ret
    (V.tup
      [V.int IntKind.i64
          (sg
            (match true with
            | true =>
              !decide (a < (0 : Int)) ==
                  match true with
                  | true => !decide (n < (0 : Int)) == decide (d < (0 : Int))
                  | false => decide (n < (0 : Int)) == decide (d < (0 : Int))
            | false =>
              decide (a < (0 : Int)) ==
                match true with
                | true => !decide (n < (0 : Int)) == decide (d < (0 : Int))
                | false => decide (n < (0 : Int)) == decide (d < (0 : Int)))
            ((z12 * (18446744073709551616 : Int) + z14) / ↑d.natAbs)),
        V.int IntKind.i64 (0 : Int)]))
  [])))))) := by kernel_rfl
theorem r86_0 : FreshOk Tryz.prog 86 (ofD g86_0) := by
  refine fresh_of_run T18s_ok D17_ok (fun _ _ => noIv) Tryz.func86 c86 fun args obs K' hk => ?_
  unfold ofD g86_0 at hk
  split at hk
  · rename_i d_ out news hg
    split at hg
    · rename_i a n d
      cases hg
      obtain ⟨hc, hk⟩ := hk
      obtain ⟨h1, ⟨h2, h3⟩, ⟨h4, h5⟩, h6⟩ := hc
      refine Eq.mpr (k86_0 a n d K') ⟨trivial, trivial, trivial, trivial, trivial, trivial, trivial, ⟨trivial, trivial⟩, ?_, ?_⟩
      · first | omega | (simp only [true_and, and_true]; omega) | exact in_fix (by simp) (by simp; omega)
      · refine bcase_t (decide_eq_true (show n ≥ -2147483648 by omega)) ?_
        refine bcase_t (show (bif true then decide (n ≤ (2147483648 : Int)) else false) = true from decide_eq_true (by omega)) ?_
        refine bcase_t (show (bif true then decide (d ≥ (-2147483648 : Int)) else false) = true from decide_eq_true (by omega)) ?_
        have hd : decide (d < 0) = false := decide_eq_false (by omega)
        have hnd : (d.natAbs : Int) = d := by omega
        have hp := abs_mul_le a n h1 ⟨by omega, by omega⟩
        have sC := sg_cut a n d h4
        have hN := near_nat ((a.natAbs : Int) * (n.natAbs : Int)) d hp.1 h4
        refine And.intro (by first | omega | (simp only [true_and, and_true]; done) | (simp only [true_and, and_true]; omega)) (And.intro (show (bif true then decide (d ≤ (2147483648 : Int)) else false) = true from decide_eq_true (by omega)) (And.intro (by first | omega | (simp only [true_and, and_true]; done) | (simp only [true_and, and_true]; omega)) (And.intro (show (d != 0) = true from bne_iff_ne.2 (by omega)) (And.intro (by first | omega | (simp only [true_and, and_true]; done) | (simp only [true_and, and_true]; omega)) (And.intro (by first | omega | (simp only [true_and, and_true]; done) | (simp only [true_and, and_true]; omega)) (And.intro (by first | omega | (simp only [true_and, and_true]; done) | (simp only [true_and, and_true]; omega)) ?_))))))
        intro z0 e0 z2 e2
        have hlt := lt_of_quot h4 h6
        have eP : z0 * 18446744073709551616 + z2 = (a.natAbs : Int) * (n.natAbs : Int) := by omega
        dsimp only
        simp only [hnd, hd, bnot_false, eP]
        rw [sC]
        generalize (a.natAbs : Int) * (n.natAbs : Int) = P at *
        refine And.intro (by first | omega | (simp only [true_and, and_true]; done) | (simp only [true_and, and_true]; omega)) (And.intro (by first | omega | (simp only [true_and, and_true]; done) | (simp only [true_and, and_true]; omega)) ?_)
        repeat refine And.intro True.intro ?_
        exact hk
    · cases hg
  · exact hk.elim
/-- fixed.Scale -/
def g86_3 : GSpec := fun args obs => match args, obs with
  | [.int .i64 a, .int .i64 n, .int .i64 d, .int .i64 3], [] => some (fixOk a ∧ (-2147483648 ≤ n ∧ n ≤ 2147483648) ∧ (0 < d ∧ d ≤ 2147483648) ∧ (a.natAbs : Int) * (n.natAbs : Int) / d < 70368744177664, .ret (.tup [i64 (nearI (a * n) d), i64 0]), [])
  | _, _ => none
theorem k86_3 (a n d : Int) (K' : Out → List Ob → Prop) : runFn (T18s) (D17) noIv a86 [.int .i64 a, .int .i64 n, .int .i64 d, .int .i64 3] (lookO []) 0 (closeK K') =
    ((True) ∧
    (True) ∧
    (True) ∧
    (True) ∧
    (True) ∧
    (True) ∧
    (True) ∧
    (True ∧ True) ∧
    ([a].length < (1000000 : Nat) ∧
  ∀ (x : den [SK.int IntKind.i64]),
    x ∈ [a] → (-70368744177664 : den [SK.int IntKind.i64]) ≤ x ∧ x ≤ (70368744177664 : den [SK.int IntKind.i64])) ∧
    bcase (decide (n ≥ (-2147483648 : Int)))
     (bcase (bif true then decide (n ≤ (2147483648 : Int)) else false)
      (bcase (bif true then decide (d ≥ (-2147483648 : Int)) else false)
       ((True ∧ True ∧ True) ∧
       ((bif true then decide (d ≤ (2147483648 : Int)) else false) = true) ∧
       (True ∧ True ∧ True) ∧
       ((d != (0 : Int)) = true) ∧
       ((True ∧ True) ∧ (-9223372036854775808 : Int) ≤ a ∧ a < (9223372036854775808 : Int)) ∧
       ((True ∧ True) ∧ (-9223372036854775808 : Int) ≤ n ∧ n < (9223372036854775808 : Int)) ∧
       ((True ∧ True ∧ True) ∧ w64 ↑a.natAbs ∧ w64 ↑n.natAbs) ∧
       (∀ (z0 : Int),
       ((z0 = ↑a.natAbs * ↑n.natAbs / (18446744073709551616 : Int)) →
       (∀ (z2 : Int),
       ((z2 = ↑a.natAbs * ↑n.natAbs % (18446744073709551616 : Int)) →
       ((True ∧ True) ∧ (-9223372036854775808 : Int) ≤ d ∧ d < (9223372036854775808 : Int)) ∧
       (((True ∧ True ∧ True) ∧ True ∧ True ∧ True ∧ True) ∧
  ((0 : Int) ≤ z0 ∧ z0 < ↑d.natAbs ∧ w64 z2 ∧ (0 : Int) < ↑d.natAbs ∧ ↑d.natAbs < (4294967296 : Int)) ∧
    (z0 * (18446744073709551616 : Int) + z2) / ↑d.natAbs < (70368744177664 : Int)) ∧
       (True) ∧
       (True) ∧
       (True) ∧
       (True) ∧
       K'
  (Out.ret
    (V.tup
      [V.int IntKind.i64
          (sg
            (match true with
            | true =>
              !decide (a < (0 : Int)) ==
                  match true with
                  | true => !decide (n < (0 : Int)) == decide (d < (0 : Int))
                  | false => decide (n < (0 : Int)) == decide (d < (0 : Int))
            | false =>
              decide (a < (0 : Int)) ==
                match true with
                | true => !decide (n < (0 : Int)) == decide (d < (0 : Int))
                | false => decide (n < (0 : Int)) == decide (d < (0 : Int)))
            (if ↑d.natAbs ≤ (2 : Int) * ((z0 * (18446744073709551616 : Int) + z2) % ↑d.natAbs) then
              (z0 * (18446744073709551616 : Int) + z2) / ↑d.natAbs + (1 : Int)
            else (z0 * (18446744073709551616 : Int) + z2) / ↑d.natAbs)),
        V.int IntKind.i64 (0 : Int)]))
  [])))))
       ((True ∧ True ∧ True) ∧
       (false = true) ∧
       (True ∧ True ∧ True) ∧
       ((d != (0 : Int)) = true) ∧
       ((True ∧ True) ∧ (-9223372036854775808 : Int) ≤ a ∧ a < (9223372036854775808 : Int)) ∧
       ((True ∧ True) ∧ (-9223372036854775808 : Int) ≤ n ∧ n < (9223372036854775808 : Int)) ∧
       ((True ∧ True ∧ True) ∧ w64 ↑a.natAbs ∧ w64 ↑n.natAbs) ∧
       (∀ (z4 : Int),
       ((z4 = ↑a.natAbs * ↑n.natAbs / (18446744073709551616 : Int)) →
       (∀ (z6 : Int),
       ((z6 = ↑a.natAbs * ↑n.natAbs % (18446744073709551616 : Int)) →
       ((True ∧ True) ∧ (-9223372036854775808 : Int) ≤ d ∧ d < (9223372036854775808 : Int)) ∧
       (((True ∧ True ∧ True) ∧ True ∧ True ∧ True ∧ True) ∧
  ((0 : Int) ≤ z4 ∧ z4 < ↑d.natAbs ∧ w64 z6 ∧ (0 : Int) < ↑d.natAbs ∧ ↑d.natAbs < (4294967296 : Int)) ∧
    (z4 * (18446744073709551616 : Int) + z6) / ↑d.natAbs < (70368744177664 : Int)) ∧
       (True) ∧
       (True) ∧
       (True) ∧
       (True) ∧
       K'
  (Out.ret
    (V.tup
      [V.int IntKind.i64
          (sg
            (match true with
            | true =>
              !decide (a < (0 : Int)) ==
                  match true with
                  | true => !decide (n < (0 : Int)) == decide (d < (0 : Int))
                  | false => decide (n < (0 : Int)) == decide (d < (0 : Int))
            | false =>
              decide (a < (0 : Int)) ==
                match true with
                | true => !decide (n < (0 : Int)) == decide (d < (0 : Int))
                | false => decide (n < (0 : Int)) == decide (d < (0 : Int)))
            (if ↑d.natAbs ≤ (2 : Int) * ((z4 * (18446744073709551616 : Int) + z6) % ↑d.natAbs) then
              (z4 * (18446744073709551616 : Int) + z6) / ↑d.natAbs + (1 : Int)
            else (z4 * (18446744073709551616 : Int) + z6) / ↑d.natAbs)),
        V.int IntKind.i64 (0 : Int)]))
  []))))))
      ((True ∧ True ∧ True) ∧
      (false = true) ∧
      (True ∧ True ∧ True) ∧
      ((d != (0 : Int)) = true) ∧
      ((True ∧ True) ∧ (-9223372036854775808 : Int) ≤ a ∧ a < (9223372036854775808 : Int)) ∧
      ((True ∧ True) ∧ (-9223372036854775808 : Int) ≤ n ∧ n < (9223372036854775808 : Int)) ∧
      ((True ∧ True ∧ True) ∧ w64 ↑a.natAbs ∧ w64 ↑n.natAbs) ∧
      (∀ (z8 : Int),
      ((z8 = ↑a.natAbs * ↑n.natAbs / (18446744073709551616 : Int)) →
      (∀ (z10 : Int),
      ((z10 = ↑a.natAbs * ↑n.natAbs % (18446744073709551616 : Int)) →
      ((True ∧ True) ∧ (-9223372036854775808 : Int) ≤ d ∧ d < (9223372036854775808 : Int)) ∧
      (((True ∧ True ∧ True) ∧ True ∧ True ∧ True ∧ True) ∧
  ((0 : Int) ≤ z8 ∧ z8 < ↑d.natAbs ∧ w64 z10 ∧ (0 : Int) < ↑d.natAbs ∧ ↑d.natAbs < (4294967296 : Int)) ∧
    (z8 * (18446744073709551616 : Int) + z10) / ↑d.natAbs < (70368744177664 : Int)) ∧
      (True) ∧
      (True) ∧
      (True) ∧
      (True) ∧
      K'
  (Out.ret
    (V.tup
      [V.int IntKind.i64
          (sg
            (match true with
            | true =>
              !decide (a < (0 : Int)) ==
                  match true with
                  | true => !decide (n < (0 : Int)) == decide (d < (0 : Int))
                  | false => decide (n < (0 : Int)) == decide (d < (0 : Int))
            | false =>
              decide (a < (0 : Int)) ==
                match true with
                | true => !decide (n < (0 : Int)) == decide (d < (0 : Int))
                | false => decide (n < (0 : Int)) == decide (d < (0 : Int)))
            (if ↑d.natAbs ≤ (2 : Int) * ((z8 * (18446744073709551616 : Int) + z10) % ↑d.natAbs) then
              (z8 * (18446744073709551616 : Int) + z10) / ↑d.natAbs + (1 : Int)
            else (z8 * (18446744073709551616 : Int) + z10) / ↑d.natAbs)),
        V.int IntKind.i64 (0 : Int)]))
  []))))))
     ((True ∧ True ∧ True) ∧
     (false = true) ∧
     (True ∧ True ∧ True) ∧
     ((d != (0 : Int)) = true) ∧
     ((True ∧ True) ∧ (-9223372036854775808 : Int) ≤ a ∧ a < (9223372036854775808 : Int)) ∧
     ((True ∧ True) ∧ (-9223372036854775808 : Int) ≤ n ∧ n < (9223372036854775808 : Int)) ∧
     ((True ∧ True ∧ True) ∧ w64 ↑a.natAbs ∧ w64 ↑n.natAbs) ∧
     (∀ (z12 : Int),
     ((z12 = ↑a.natAbs * ↑n.natAbs / (18446744073709551616 : Int)) →
     (∀ (z14 : Int),
     ((z14 = ↑a.natAbs * ↑n.natAbs % (18446744073709551616 : Int)) →
     ((True ∧ True) ∧ (-9223372036854775808 : Int) ≤ d ∧ d < (9223372036854775808 : Int)) ∧
     (((True ∧ True ∧ True) ∧ True ∧ True ∧ True ∧ True) ∧
  ((0 : Int) ≤ z12 ∧ z12 < ↑d.natAbs ∧ w64 z14 ∧ (0 : Int) < ↑d.natAbs ∧ ↑d.natAbs < (4294967296 : Int)) ∧
    (z12 * (18446744073709551616 : Int) + z14) / ↑d.natAbs < (70368744177664 : Int)) ∧
     (True) ∧
     (True) ∧
     (True) ∧
     (True) ∧
     K'
  (Out.ret
    (V.tup
      [V.int IntKind.i64
          (sg
            (match true with
            | true =>
              !decide (a < (0 : Int)) ==
                  match true with
                  | true => !decide (n < (0 : Int)) == decide (d < (0 : Int))
                  | false => decide (n < (0 : Int)) == decide (d < (0 : Int))
            | false =>
              decide (a < (0 : Int)) ==
                match true with
                | true => !decide (n < (0 : Int)) == decide (d < (0 : Int))
                | false => decide (n < (0 : Int)) == decide (d < (0 : Int)))
            (if ↑d.natAbs ≤ (2 : Int) * ((z12 * (18446744073709551616 : Int) + z14) % ↑d.natAbs) then
              (z12 * (18446744073709551616 : Int) + z14) / ↑d.natAbs + (1 : Int)
            else (z12 * (18446744073709551616 : Int) + z14) / ↑d.natAbs)),
        V.int IntKind.i64 (0 : Int)]))
  [])))))) := by kernel_rfl
theorem r86_3 : FreshOk Tryz.prog 86 (ofD g86_3) := by
  refine fresh_of_run T18s_ok D17_ok (fun _ _ => noIv) Tryz.func86 c86 fun args obs K' hk => ?_
  unfold ofD g86_3 at hk
  split at hk
  · rename_i d_ out news hg
    split at hg
    · rename_i a n d
      cases hg
      obtain ⟨hc, hk⟩ := hk
      obtain ⟨h1, ⟨h2, h3⟩, ⟨h4, h5⟩, h6⟩ := hc
      refine Eq.mpr (k86_3 a n d K') ⟨trivial, trivial, trivial, trivial, trivial, trivial, trivial, ⟨trivial, trivial⟩, ?_, ?_⟩
      · first | omega | (simp only [true_and, and_true]; omega) | exact in_fix (by simp) (by simp; omega)
      · refine bcase_t (decide_eq_true (show n ≥ -2147483648 by omega)) ?_
        refine bcase_t (show (bif true then decide (n ≤ (2147483648 : Int)) else false) = true from decide_eq_true (by omega)) ?_
        refine bcase_t (show (bif true then decide (d ≥ (-2147483648 : Int)) else false) = true from decide_eq_true (by omega)) ?_
        have hd : decide (d < 0) = false := decide_eq_false (by omega)
        have hnd : (d.natAbs : Int) = d := by omega
        have hp := abs_mul_le a n h1 ⟨by omega, by omega⟩
        have sC := sg_near a n d h4
        have hN := near_nat ((a.natAbs : Int) * (n.natAbs : Int)) d hp.1 h4
        refine And.intro (by first | omega | (simp only [true_and, and_true]; done) | (simp only [true_and, and_true]; omega)) (And.intro (show (bif true then decide (d ≤ (2147483648 : Int)) else false) = true from decide_eq_true (by omega)) (And.intro (by first | omega | (simp only [true_and, and_true]; done) | (simp only [true_and, and_true]; omega)) (And.intro (show (d != 0) = true from bne_iff_ne.2 (by omega)) (And.intro (by first | omega | (simp only [true_and, and_true]; done) | (simp only [true_and, and_true]; omega)) (And.intro (by first | omega | (simp only [true_and, and_true]; done) | (simp only [true_and, and_true]; omega)) (And.intro (by first | omega | (simp only [true_and, and_true]; done) | (simp only [true_and, and_true]; omega)) ?_))))))
        intro z0 e0 z2 e2
        have hlt := lt_of_quot h4 h6
        have eP : z0 * 18446744073709551616 + z2 = (a.natAbs : Int) * (n.natAbs : Int) := by omega
        dsimp only
        simp only [hnd, hd, bnot_false, eP, hN]
        rw [sC]
        generalize (a.natAbs : Int) * (n.natAbs : Int) = P at *
        refine And.intro (by first | omega | (simp only [true_and, and_true]; done) | (simp only [true_and, and_true]; omega)) (And.intro (by first | omega | (simp only [true_and, and_true]; done) | (simp only [true_and, and_true]; omega)) ?_)
        repeat refine And.intro True.intro ?_
        exact hk
    · cases hg
  · exact hk.elim
/-- fixed.Within -/
def g77 : GSpec := fun args obs => match args, obs with
  | [.agg [.int .i64 x, .int .i64 y], .int .i64 r], [] => some ((fixOk x ∧ fixOk y ∧ fixOk r) ∧ 0 ≤ r, .ret (.tup [.bool (decide (x * x + y * y ≤ r * r)), i64 0]), [])
  | _, _ => none
theorem k77 (x y r : Int) (K' : Out → List Ob → Prop) : runFn (T18w) (D17) noIv a77 [.agg [.int .i64 x, .int .i64 y], .int .i64 r] (lookO []) 0 (closeK K') =
    ((True) ∧
    (True) ∧
    (True) ∧
    (True) ∧
    ((True ∧ True ∧ True) ∧ True) ∧
    (fixOk x ∧ fixOk y) ∧
    (∀ (z0 : Int),
    ((z0 = (x * x + y * y) / (18446744073709551616 : Int)) →
    (∀ (z2 : Int),
    ((z2 = (x * x + y * y) % (18446744073709551616 : Int)) →
    (True) ∧
    (True) ∧
    (True) ∧
    (True ∧ True) ∧
    ([r].length < (1000000 : Nat) ∧
  ∀ (x : den [SK.int IntKind.i64]),
    x ∈ [r] → (-70368744177664 : den [SK.int IntKind.i64]) ≤ x ∧ x ≤ (70368744177664 : den [SK.int IntKind.i64])) ∧
    bcase (decide (r ≥ (0 : Int)))
     (((True ∧ True) ∧ (-9223372036854775808 : Int) ≤ r ∧ r < (9223372036854775808 : Int)) ∧
     ((True ∧ True) ∧ (-9223372036854775808 : Int) ≤ r ∧ r < (9223372036854775808 : Int)) ∧
     ((True ∧ True ∧ True) ∧ w64 ↑r.natAbs ∧ w64 ↑r.natAbs) ∧
     (∀ (z4 : Int),
     ((z4 = ↑r.natAbs * ↑r.natAbs / (18446744073709551616 : Int)) →
     (∀ (z6 : Int),
     ((z6 = ↑r.natAbs * ↑r.natAbs % (18446744073709551616 : Int)) →
     (((True ∧ True ∧ True) ∧ (True ∧ True ∧ True) ∧ True) ∧ w64 z0 ∧ w64 z2 ∧ w64 z4 ∧ w64 z6) ∧
     (True) ∧
     (True) ∧
     (True) ∧
     (True) ∧
     K'
  (Out.ret
    (V.tup
      [V.bool
          (bif true then
            decide (cmpI (z0 * (18446744073709551616 : Int) + z2) (z4 * (18446744073709551616 : Int) + z6) ≤ (0 : Int))
          else false),
        V.int IntKind.i64 (0 : Int)]))
  [])))))
     ((True) ∧
     (True) ∧
     (True) ∧
     (True) ∧
     K' (Out.ret (V.tup [V.bool false, V.int IntKind.i64 (0 : Int)])) [])))))) := by kernel_rfl
theorem r77 : FreshOk Tryz.prog 77 (ofD g77) := by
  refine fresh_of_run T18w_ok D17_ok (fun _ _ => noIv) Tryz.func77 c77 fun args obs K' hk => ?_
  unfold ofD g77 at hk
  split at hk
  · rename_i d_ out news hg
    split at hg
    · rename_i x y r
      cases hg
      obtain ⟨hc, hk⟩ := hk
      obtain ⟨⟨h1, h2, h3⟩, h4⟩ := hc
      refine Eq.mpr (k77 x y r K') ⟨trivial, trivial, trivial, trivial, ⟨⟨trivial, ⟨trivial, trivial⟩⟩, trivial⟩, ?_, ?_⟩
      · first | omega | (simp only [true_and, and_true]; omega) | exact in_fix (by simp) (by simp; omega)
      · intro z0 e0 z2 e2
        repeat refine And.intro True.intro ?_
        refine And.intro (by first | omega | (simp only [true_and, and_true]; done) | (simp only [true_and, and_true]; omega)) (And.intro (in_fix (by simp) (by simp; omega)) ?_)
        refine bcase_t (decide_eq_true h4) ?_
        refine And.intro (by first | omega | (simp only [true_and, and_true]; done) | (simp only [true_and, and_true]; omega)) (And.intro (by first | omega | (simp only [true_and, and_true]; done) | (simp only [true_and, and_true]; omega)) (And.intro (by first | omega | (simp only [true_and, and_true]; done) | (simp only [true_and, and_true]; omega)) ?_))
        intro z4 e4 z6 e6
        have hr : (r.natAbs : Int) = r := by omega
        have hx := sq_le x h1
        have hy := sq_le y h2
        have hz := sq_le r h3
        rw [hr] at e4 e6
        have eS : z0 * 18446744073709551616 + z2 = x * x + y * y := by omega
        have eR : z4 * 18446744073709551616 + z6 = r * r := by omega
        refine And.intro ?_ ?_
        · generalize x * x = p at *
          generalize y * y = q at *
          generalize r * r = s at *
          simp only [true_and, and_true]
          omega
        repeat refine And.intro True.intro ?_
        rw [eS, eR, show (bif true then decide (cmpI (x * x + y * y) (r * r) ≤ (0 : Int)) else false) = decide (x * x + y * y ≤ r * r) from decide_eq_decide.2 (cmpI_le _ _)]
        exact hk
    · cases hg
  · exact hk.elim
/-- fixed.Times$2, cut -/
def g146 : GSpec := fun args obs => match args, obs with
  | [.int .i64 x, .int .i64 y, .ptr 0 0 0 0, .ptr 1 0 0 0], [.rv [.int .i64 b], .rv [.fn 161 [] []]] => some ((fixOk x ∧ fixOk b) ∧ (x.natAbs : Int) * (b.natAbs : Int) / 65536 < 70368744177664, .ret (i64 ((x * b).tdiv 65536)), [])
  | _, _ => none
theorem k146 (x y b : Int) (K' : Out → List Ob → Prop) : runFn (T17) (D16) noIv a146 [.int .i64 x, .int .i64 y, .ptr 0 0 0 0, .ptr 1 0 0 0] (lookO [.rv [.int .i64 b], .rv [.fn 161 [] []]]) 2 (closeK K') =
    ((True ∧ True ∧ True ∧ True) ∧
    ((fixOk x ∧ fixOk b) ∧ ↑x.natAbs * ↑b.natAbs / (65536 : Int) < (70368744177664 : Int)) ∧
    K' (Out.ret (V.int IntKind.i64 ((x * b).tdiv (65536 : Int)))) []) := by kernel_rfl
theorem r146 : FreshOk Tryz.prog 146 (ofD g146) := by
  refine fresh_of_run T17_ok D16_ok (fun _ _ => noIv) Tryz.func146 c146 fun args obs K' hk => ?_
  unfold ofD g146 at hk
  split at hk
  · rename_i d_ out news hg
    split at hg
    · rename_i x y b
      cases hg
      obtain ⟨hc, hk⟩ := hk
      refine Eq.mpr (k146 x y b K') ⟨⟨trivial, ⟨trivial, ⟨trivial, trivial⟩⟩⟩, ?_, hk⟩
      · exact hc
    · cases hg
  · exact hk.elim

end Go.Proofs.YtbolfnkgbjkbjaaGreat.AM
