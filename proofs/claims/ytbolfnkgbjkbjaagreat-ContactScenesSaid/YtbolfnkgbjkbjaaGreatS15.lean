/- Contracts, part 15: quotients. -/
import Derived.Test.YtbolfnkgbjkbjaaGreatS14
set_option linter.unusedVariables false
set_option linter.unusedSimpArgs false
namespace Go.Proofs.YtbolfnkgbjkbjaaGreat.AM
open Go Go.RowKit
set_option maxRecDepth 100000

def T15a : Tab := ((((T14.add 217 (liftA (ofD g217))).add 161 (runFn T14 D6 noIv a161)).add 162 (runFn T14 D6 noIv a162)).add 163 (runFn T14 D6 noIv a163)).add 164 (runFn T14 D6 noIv a164)
theorem T15a_ok : TabOk Tryz.prog T15a := ((((T14_ok.add (entry_of_fresh r217)).add (fn_entry T14_ok D6_ok noIv Tryz.func161 c161)).add (fn_entry T14_ok D6_ok noIv Tryz.func162 c162)).add (fn_entry T14_ok D6_ok noIv Tryz.func163 c163)).add (fn_entry T14_ok D6_ok noIv Tryz.func164 c164)
def T15b : Tab := T15a.add 194 (runFn T15a D6 noIv a194)
theorem T15b_ok : TabOk Tryz.prog T15b := T15a_ok.add (fn_entry T15a_ok D6_ok noIv Tryz.func194 c194)

/-- With a sign. -/
def sg (neg : Bool) (n : Int) : Int := bif neg then -n else n
/-- fixed.quotient: cut, down, to the nearest -/
def g141 : GSpec := fun args obs => match args, obs with
  | [.agg [.int .u64 h, .int .u64 l], .int .u64 d, .bool neg, .fn f [] []], [] => match Nat.beq f 161 with
    | true => some ((0 ≤ h ∧ h < d ∧ w64 l ∧ 0 < d ∧ d < 4294967296) ∧ (h * 18446744073709551616 + l) / d < 70368744177664, .ret (i64 (sg neg ((h * 18446744073709551616 + l) / d))), [])
    | false => match Nat.beq f 162 with
      | true => some ((0 ≤ h ∧ h < d ∧ w64 l ∧ 0 < d ∧ d < 4294967296) ∧ (h * 18446744073709551616 + l) / d < 70368744177664, .ret (i64 (sg neg (if 0 < (h * 18446744073709551616 + l) % d ∧ neg = true then (h * 18446744073709551616 + l) / d + 1 else (h * 18446744073709551616 + l) / d))), [])
      | false => match Nat.beq f 164 with
        | true => some ((0 ≤ h ∧ h < d ∧ w64 l ∧ 0 < d ∧ d < 4294967296) ∧ (h * 18446744073709551616 + l) / d < 70368744177664, .ret (i64 (sg neg (if d ≤ 2 * ((h * 18446744073709551616 + l) % d) then (h * 18446744073709551616 + l) / d + 1 else (h * 18446744073709551616 + l) / d))), [])
        | false => none
  | _, _ => none
theorem cmpI_ge (a b : Int) : cmpI a b ≥ 0 ↔ b ≤ a := by
  unfold cmpI
  split
  · omega
  · split <;> omega
theorem quo_facts (h l d : Int) (h0 : 0 ≤ h) (h2 : 0 ≤ l) (h3 : 0 < d) : 0 ≤ (h * 18446744073709551616 + l) / d ∧ 0 ≤ (h * 18446744073709551616 + l) % d ∧ (h * 18446744073709551616 + l) % d < d :=
  ⟨Int.ediv_nonneg (by omega) (by omega), Int.emod_nonneg _ (by omega), Int.emod_lt_of_pos _ h3⟩

theorem k141_72 (h l d : Int) (neg : Bool) (K' : Out → List Ob → Prop) : runFn (T15b) (D6) noIv a141 [.agg [.int .u64 h, .int .u64 l], .int .u64 d, .bool neg, .fn 161 [] []] (lookO []) 0 (closeK K') =
    ((True) ∧
    (True) ∧
    bcase (decide (h ≥ d))
     ((True ∧ True ∧ True) ∧
     (false = true) ∧
     (True ∧ True ∧ True) ∧
     ((0 : Int) ≤ (0 : Int) ∧ (0 : Int) ≤ (70368744177664 : Int)) ∧
     K' (Out.ret (V.int IntKind.i64 (bif neg then (-0 : Int) else (0 : Int)))) [])
     ((True ∧ True ∧ True ∧ True) ∧
     ((0 : Int) ≤ h ∧ h < d ∧ w64 l ∧ (0 : Int) < d ∧ d < (4294967296 : Int)) ∧
     (True ∧ True ∧ True) ∧
     ((bif true then decide ((h * (18446744073709551616 : Int) + l) / d < (9223372036854775808 : Int)) else false) = true) ∧
     bcase (decide ((h * (18446744073709551616 : Int) + l) % d > (0 : Int)))
      (((True ∧ True ∧ True) ∧ (True ∧ True ∧ True) ∧ True) ∧
      ((w64 (0 : Int) ∧
    w64 ((h * (18446744073709551616 : Int) + l) % d) ∧
      w64 (0 : Int) ∧ w64 ((h * (18446744073709551616 : Int) + l) % d)) ∧
  (0 : Int) + (0 : Int) < (18446744073709551616 : Int) - (1 : Int)) ∧
      ((True ∧ True ∧ True) ∧ (True ∧ True ∧ True) ∧ True) ∧
      (w64
    (((0 : Int) * (18446744073709551616 : Int) + (h * (18446744073709551616 : Int) + l) % d +
        ((0 : Int) * (18446744073709551616 : Int) + (h * (18446744073709551616 : Int) + l) % d)) /
      (18446744073709551616 : Int)) ∧
  w64
      (((0 : Int) * (18446744073709551616 : Int) + (h * (18446744073709551616 : Int) + l) % d +
          ((0 : Int) * (18446744073709551616 : Int) + (h * (18446744073709551616 : Int) + l) % d)) %
        (18446744073709551616 : Int)) ∧
    w64 (0 : Int) ∧ w64 d) ∧
      (True ∧ True ∧ True) ∧
      ((0 : Int) ≤ (h * (18446744073709551616 : Int) + l) / d ∧
  (h * (18446744073709551616 : Int) + l) / d ≤ (70368744177664 : Int)) ∧
      K'
  (Out.ret
    (V.int IntKind.i64
      (bif neg then -((h * (18446744073709551616 : Int) + l) / d) else (h * (18446744073709551616 : Int) + l) / d)))
  [])
      ((True ∧ True ∧ True) ∧
      ((0 : Int) ≤ (h * (18446744073709551616 : Int) + l) / d ∧
  (h * (18446744073709551616 : Int) + l) / d ≤ (70368744177664 : Int)) ∧
      K'
  (Out.ret
    (V.int IntKind.i64
      (bif neg then -((h * (18446744073709551616 : Int) + l) / d) else (h * (18446744073709551616 : Int) + l) / d)))
  []))) := by kernel_rfl
theorem k141_73 (h l d : Int) (neg : Bool) (K' : Out → List Ob → Prop) : runFn (T15b) (D6) noIv a141 [.agg [.int .u64 h, .int .u64 l], .int .u64 d, .bool neg, .fn 162 [] []] (lookO []) 0 (closeK K') =
    ((True) ∧
    (True) ∧
    bcase (decide (h ≥ d))
     ((True ∧ True ∧ True) ∧
     (false = true) ∧
     (True ∧ True ∧ True) ∧
     ((0 : Int) ≤ (0 : Int) ∧ (0 : Int) ≤ (70368744177664 : Int)) ∧
     K' (Out.ret (V.int IntKind.i64 (bif neg then (-0 : Int) else (0 : Int)))) [])
     ((True ∧ True ∧ True ∧ True) ∧
     ((0 : Int) ≤ h ∧ h < d ∧ w64 l ∧ (0 : Int) < d ∧ d < (4294967296 : Int)) ∧
     (True ∧ True ∧ True) ∧
     ((bif true then decide ((h * (18446744073709551616 : Int) + l) / d < (9223372036854775808 : Int)) else false) = true) ∧
     bcase (decide ((h * (18446744073709551616 : Int) + l) % d > (0 : Int)))
      (((True ∧ True ∧ True) ∧ (True ∧ True ∧ True) ∧ True) ∧
      ((w64 (0 : Int) ∧
    w64 ((h * (18446744073709551616 : Int) + l) % d) ∧
      w64 (0 : Int) ∧ w64 ((h * (18446744073709551616 : Int) + l) % d)) ∧
  (0 : Int) + (0 : Int) < (18446744073709551616 : Int) - (1 : Int)) ∧
      ((True ∧ True ∧ True) ∧ (True ∧ True ∧ True) ∧ True) ∧
      (w64
    (((0 : Int) * (18446744073709551616 : Int) + (h * (18446744073709551616 : Int) + l) % d +
        ((0 : Int) * (18446744073709551616 : Int) + (h * (18446744073709551616 : Int) + l) % d)) /
      (18446744073709551616 : Int)) ∧
  w64
      (((0 : Int) * (18446744073709551616 : Int) + (h * (18446744073709551616 : Int) + l) % d +
          ((0 : Int) * (18446744073709551616 : Int) + (h * (18446744073709551616 : Int) + l) % d)) %
        (18446744073709551616 : Int)) ∧
    w64 (0 : Int) ∧ w64 d) ∧
      bcase (bif true then neg else false)
       ((True ∧ True ∧ True) ∧
       ((0 : Int) ≤ IntKind.u64.wrap ((h * (18446744073709551616 : Int) + l) / d + (1 : Int)) ∧
  IntKind.u64.wrap ((h * (18446744073709551616 : Int) + l) / d + (1 : Int)) ≤ (70368744177664 : Int)) ∧
       K'
  (Out.ret
    (V.int IntKind.i64
      (bif neg then -IntKind.u64.wrap ((h * (18446744073709551616 : Int) + l) / d + (1 : Int))
      else IntKind.u64.wrap ((h * (18446744073709551616 : Int) + l) / d + (1 : Int)))))
  [])
       ((True ∧ True ∧ True) ∧
       ((0 : Int) ≤ (h * (18446744073709551616 : Int) + l) / d ∧
  (h * (18446744073709551616 : Int) + l) / d ≤ (70368744177664 : Int)) ∧
       K'
  (Out.ret
    (V.int IntKind.i64
      (bif neg then -((h * (18446744073709551616 : Int) + l) / d) else (h * (18446744073709551616 : Int) + l) / d)))
  []))
      ((True ∧ True ∧ True) ∧
      ((0 : Int) ≤ (h * (18446744073709551616 : Int) + l) / d ∧
  (h * (18446744073709551616 : Int) + l) / d ≤ (70368744177664 : Int)) ∧
      K'
  (Out.ret
    (V.int IntKind.i64
      (bif neg then -((h * (18446744073709551616 : Int) + l) / d) else (h * (18446744073709551616 : Int) + l) / d)))
  []))) := by kernel_rfl
theorem k141_75 (h l d : Int) (neg : Bool) (K' : Out → List Ob → Prop) : runFn (T15b) (D6) noIv a141 [.agg [.int .u64 h, .int .u64 l], .int .u64 d, .bool neg, .fn 164 [] []] (lookO []) 0 (closeK K') =
    ((True) ∧
    (True) ∧
    bcase (decide (h ≥ d))
     ((True ∧ True ∧ True) ∧
     (false = true) ∧
     (True ∧ True ∧ True) ∧
     ((0 : Int) ≤ (0 : Int) ∧ (0 : Int) ≤ (70368744177664 : Int)) ∧
     K' (Out.ret (V.int IntKind.i64 (bif neg then (-0 : Int) else (0 : Int)))) [])
     ((True ∧ True ∧ True ∧ True) ∧
     ((0 : Int) ≤ h ∧ h < d ∧ w64 l ∧ (0 : Int) < d ∧ d < (4294967296 : Int)) ∧
     (True ∧ True ∧ True) ∧
     ((bif true then decide ((h * (18446744073709551616 : Int) + l) / d < (9223372036854775808 : Int)) else false) = true) ∧
     bcase (decide ((h * (18446744073709551616 : Int) + l) % d > (0 : Int)))
      (((True ∧ True ∧ True) ∧ (True ∧ True ∧ True) ∧ True) ∧
      ((w64 (0 : Int) ∧
    w64 ((h * (18446744073709551616 : Int) + l) % d) ∧
      w64 (0 : Int) ∧ w64 ((h * (18446744073709551616 : Int) + l) % d)) ∧
  (0 : Int) + (0 : Int) < (18446744073709551616 : Int) - (1 : Int)) ∧
      ((True ∧ True ∧ True) ∧ (True ∧ True ∧ True) ∧ True) ∧
      (w64
    (((0 : Int) * (18446744073709551616 : Int) + (h * (18446744073709551616 : Int) + l) % d +
        ((0 : Int) * (18446744073709551616 : Int) + (h * (18446744073709551616 : Int) + l) % d)) /
      (18446744073709551616 : Int)) ∧
  w64
      (((0 : Int) * (18446744073709551616 : Int) + (h * (18446744073709551616 : Int) + l) % d +
          ((0 : Int) * (18446744073709551616 : Int) + (h * (18446744073709551616 : Int) + l) % d)) %
        (18446744073709551616 : Int)) ∧
    w64 (0 : Int) ∧ w64 d) ∧
      bcase (bif true then
  decide
    (cmpI
        (((0 : Int) * (18446744073709551616 : Int) + (h * (18446744073709551616 : Int) + l) % d +
                ((0 : Int) * (18446744073709551616 : Int) + (h * (18446744073709551616 : Int) + l) % d)) /
              (18446744073709551616 : Int) *
            (18446744073709551616 : Int) +
          ((0 : Int) * (18446744073709551616 : Int) + (h * (18446744073709551616 : Int) + l) % d +
              ((0 : Int) * (18446744073709551616 : Int) + (h * (18446744073709551616 : Int) + l) % d)) %
            (18446744073709551616 : Int))
        ((0 : Int) * (18446744073709551616 : Int) + d) ≥
      (0 : Int))
  else false)
       ((True ∧ True ∧ True) ∧
       ((0 : Int) ≤ IntKind.u64.wrap ((h * (18446744073709551616 : Int) + l) / d + (1 : Int)) ∧
  IntKind.u64.wrap ((h * (18446744073709551616 : Int) + l) / d + (1 : Int)) ≤ (70368744177664 : Int)) ∧
       K'
  (Out.ret
    (V.int IntKind.i64
      (bif neg then -IntKind.u64.wrap ((h * (18446744073709551616 : Int) + l) / d + (1 : Int))
      else IntKind.u64.wrap ((h * (18446744073709551616 : Int) + l) / d + (1 : Int)))))
  [])
       ((True ∧ True ∧ True) ∧
       ((0 : Int) ≤ (h * (18446744073709551616 : Int) + l) / d ∧
  (h * (18446744073709551616 : Int) + l) / d ≤ (70368744177664 : Int)) ∧
       K'
  (Out.ret
    (V.int IntKind.i64
      (bif neg then -((h * (18446744073709551616 : Int) + l) / d) else (h * (18446744073709551616 : Int) + l) / d)))
  []))
      ((True ∧ True ∧ True) ∧
      ((0 : Int) ≤ (h * (18446744073709551616 : Int) + l) / d ∧
  (h * (18446744073709551616 : Int) + l) / d ≤ (70368744177664 : Int)) ∧
      K'
  (Out.ret
    (V.int IntKind.i64
      (bif neg then -((h * (18446744073709551616 : Int) + l) / d) else (h * (18446744073709551616 : Int) + l) / d)))
  []))) := by kernel_rfl
theorem r141 : FreshOk Tryz.prog 141 (ofD g141) := by
  refine fresh_of_run T15b_ok D6_ok (fun _ _ => noIv) Tryz.func141 c141 fun args obs K' hk => ?_
  unfold ofD g141 at hk
  split at hk
  · rename_i d_ out news hg
    split at hg
    · rename_i h l d neg f
      split at hg
      · rename_i hf
        have := Nat.eq_of_beq_eq_true hf
        subst this
        cases hg
        obtain ⟨⟨⟨h0, h1, h2, h3, h4⟩, h5⟩, hk⟩ := hk
        refine Eq.mpr (k141_72 h l d neg K') ?_
        repeat refine And.intro True.intro ?_
        refine bcase_f (decide_eq_false (by omega)) ?_
        refine And.intro ⟨trivial, trivial, trivial, trivial⟩ (And.intro ⟨h0, h1, h2, h3, h4⟩ (And.intro ⟨trivial, trivial, trivial⟩ (And.intro (decide_eq_true (by omega)) ?_)))
        have q0 := quo_facts h l d h0 h2.1 h3
        generalize (h * 18446744073709551616 + l) / d = q at *
        generalize (h * 18446744073709551616 + l) % d = r at *
        have u1 : IntKind.u64.wrap (q + 1) = q + 1 := w64id (by omega)
        refine bcase_i (fun hr => ?_) (fun hr => ?_)
        · have hr := of_decide_eq_true hr
          refine And.intro (by first | omega | trivial | (simp; done) | (simp only [true_and, and_true]; omega)) (And.intro (by first | omega | trivial | (simp; done) | (simp only [true_and, and_true]; omega)) (And.intro (by first | omega | trivial | (simp; done) | (simp only [true_and, and_true]; omega)) (And.intro (by first | omega | trivial | (simp; done) | (simp only [true_and, and_true]; omega)) ?_)))
          refine And.intro (by first | omega | trivial | (simp; done) | (simp only [true_and, and_true]; omega)) (And.intro (by first | omega | trivial | (simp; done) | (simp only [true_and, and_true]; omega)) ?_)
          exact hk
        · refine And.intro (by first | omega | trivial | (simp; done) | (simp only [true_and, and_true]; omega)) (And.intro (by first | omega | trivial | (simp; done) | (simp only [true_and, and_true]; omega)) ?_)
          exact hk
      · split at hg
        · rename_i hf
          have := Nat.eq_of_beq_eq_true hf
          subst this
          cases hg
          obtain ⟨⟨⟨h0, h1, h2, h3, h4⟩, h5⟩, hk⟩ := hk
          refine Eq.mpr (k141_73 h l d neg K') ?_
          repeat refine And.intro True.intro ?_
          refine bcase_f (decide_eq_false (by omega)) ?_
          refine And.intro ⟨trivial, trivial, trivial, trivial⟩ (And.intro ⟨h0, h1, h2, h3, h4⟩ (And.intro ⟨trivial, trivial, trivial⟩ (And.intro (decide_eq_true (by omega)) ?_)))
          have q0 := quo_facts h l d h0 h2.1 h3
          generalize (h * 18446744073709551616 + l) / d = q at *
          generalize (h * 18446744073709551616 + l) % d = r at *
          have u1 : IntKind.u64.wrap (q + 1) = q + 1 := w64id (by omega)
          refine bcase_i (fun hr => ?_) (fun hr => ?_)
          · have hr := of_decide_eq_true hr
            refine And.intro (by first | omega | trivial | (simp; done) | (simp only [true_and, and_true]; omega)) (And.intro (by first | omega | trivial | (simp; done) | (simp only [true_and, and_true]; omega)) (And.intro (by first | omega | trivial | (simp; done) | (simp only [true_and, and_true]; omega)) (And.intro (by first | omega | trivial | (simp; done) | (simp only [true_and, and_true]; omega)) ?_)))
            refine bcase_i (fun hn => ?_) (fun hn => ?_)
            · have hn : neg = true := hn
              rw [if_pos ⟨hr, hn⟩] at hk
              rw [u1]
              refine And.intro (by first | omega | trivial | (simp; done) | (simp only [true_and, and_true]; omega)) (And.intro (by first | omega | trivial | (simp; done) | (simp only [true_and, and_true]; omega)) ?_)
              exact hk
            · have hn : neg = false := hn
              rw [if_neg (by rw [hn]; simp)] at hk
              refine And.intro (by first | omega | trivial | (simp; done) | (simp only [true_and, and_true]; omega)) (And.intro (by first | omega | trivial | (simp; done) | (simp only [true_and, and_true]; omega)) ?_)
              exact hk
          · have hr := of_decide_eq_false hr
            rw [if_neg (fun hh => hr hh.1)] at hk
            refine And.intro (by first | omega | trivial | (simp; done) | (simp only [true_and, and_true]; omega)) (And.intro (by first | omega | trivial | (simp; done) | (simp only [true_and, and_true]; omega)) ?_)
            exact hk
        · split at hg
          · rename_i hf
            have := Nat.eq_of_beq_eq_true hf
            subst this
            cases hg
            obtain ⟨⟨⟨h0, h1, h2, h3, h4⟩, h5⟩, hk⟩ := hk
            refine Eq.mpr (k141_75 h l d neg K') ?_
            repeat refine And.intro True.intro ?_
            refine bcase_f (decide_eq_false (by omega)) ?_
            refine And.intro ⟨trivial, trivial, trivial, trivial⟩ (And.intro ⟨h0, h1, h2, h3, h4⟩ (And.intro ⟨trivial, trivial, trivial⟩ (And.intro (decide_eq_true (by omega)) ?_)))
            have q0 := quo_facts h l d h0 h2.1 h3
            generalize (h * 18446744073709551616 + l) / d = q at *
            generalize (h * 18446744073709551616 + l) % d = r at *
            have u1 : IntKind.u64.wrap (q + 1) = q + 1 := w64id (by omega)
            refine bcase_i (fun hr => ?_) (fun hr => ?_)
            · have hr := of_decide_eq_true hr
              refine And.intro (by first | omega | trivial | (simp; done) | (simp only [true_and, and_true]; omega)) (And.intro (by first | omega | trivial | (simp; done) | (simp only [true_and, and_true]; omega)) (And.intro (by first | omega | trivial | (simp; done) | (simp only [true_and, and_true]; omega)) (And.intro (by first | omega | trivial | (simp; done) | (simp only [true_and, and_true]; omega)) ?_)))
              have e1 : (0 * 18446744073709551616 + r + (0 * 18446744073709551616 + r)) / 18446744073709551616 * 18446744073709551616 + (0 * 18446744073709551616 + r + (0 * 18446744073709551616 + r)) % 18446744073709551616 = 2 * r := by omega
              have e2 : 0 * 18446744073709551616 + d = d := by omega
              rw [e1, e2]
              refine bcase_i (fun hn => ?_) (fun hn => ?_)
              · have hn : d ≤ 2 * r := (cmpI_ge _ _).1 (of_decide_eq_true (show decide (cmpI (2 * r) d ≥ 0) = true from hn))
                rw [if_pos hn] at hk
                rw [u1]
                refine And.intro (by first | omega | trivial | (simp; done) | (simp only [true_and, and_true]; omega)) (And.intro (by first | omega | trivial | (simp; done) | (simp only [true_and, and_true]; omega)) ?_)
                exact hk
              · have hn : ¬ d ≤ 2 * r := fun hh => of_decide_eq_false (show decide (cmpI (2 * r) d ≥ 0) = false from hn) ((cmpI_ge _ _).2 hh)
                rw [if_neg hn] at hk
                refine And.intro (by first | omega | trivial | (simp; done) | (simp only [true_and, and_true]; omega)) (And.intro (by first | omega | trivial | (simp; done) | (simp only [true_and, and_true]; omega)) ?_)
                exact hk
            · have hr := of_decide_eq_false hr
              rw [if_neg (by omega)] at hk
              refine And.intro (by first | omega | trivial | (simp; done) | (simp only [true_and, and_true]; omega)) (And.intro (by first | omega | trivial | (simp; done) | (simp only [true_and, and_true]; omega)) ?_)
              exact hk
          · cases hg
    · cases hg
  · exact hk.elim


end Go.Proofs.YtbolfnkgbjkbjaaGreat.AM
