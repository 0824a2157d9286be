/- Contracts, part 8: below. -/
import Derived.Test.YtbolfnkgbjkbjaaGreatS7
set_option linter.unusedVariables false
set_option linter.unusedSimpArgs false
namespace Go.Proofs.YtbolfnkgbjkbjaaGreat.AM
open Go Go.RowKit
set_option maxRecDepth 100000
set_option maxHeartbeats 4000000
def ob70 (q0 q1 q2 r0 r1 r2 : Int) : List Ob := [.no, .no, .no, .var 268 [u64 q0, u64 q1, u64 q2], .var 268 [u64 r0, u64 r1, u64 r2]]
def sl70 (i : Int) : List (Nat × V) := [(10, .ptr 3 0 0 0), (11, .ptr 4 0 0 0), (44, i64 i)]
def I70 (q0 q1 q2 r0 r1 r2 : Int) : Inv := fun _ m sl ob => ob = ob70 q0 q1 q2 r0 r1 r2 ∧ ((m = 3 ∧ sl = sl70 0) ∨ (m = 2 ∧ r0 = q0 ∧ sl = sl70 1) ∨
  (m = 1 ∧ r0 = q0 ∧ r1 = q1 ∧ sl = sl70 2) ∨ (m = 0 ∧ r0 = q0 ∧ r1 = q1 ∧ r2 = q2 ∧ sl = sl70 3))
/-- The order of three words each. -/
def lex3 (r0 r1 r2 q0 q1 q2 : Int) : Bool := if r0 ≠ q0 then decide (r0 < q0) else if r1 ≠ q1 then decide (r1 < q1) else if r2 ≠ q2 then decide (r2 < q2) else true
def rq0 (x : Int) : Int := (x * x / 18446744073709551616).fdiv (2 ^ min (Int.toNat 32) IntKind.u64.bits)
def rq1 (x : Int) : Int := IntKind.u64.wrap ↑(BitVec.ofInt IntKind.u64.bits (IntKind.u64.wrap (x * x / 18446744073709551616 * 2 ^ min (Int.toNat 32) IntKind.u64.bits)) ||| BitVec.ofInt IntKind.u64.bits ((x * x % 18446744073709551616).fdiv (2 ^ min (Int.toNat 32) IntKind.u64.bits))).toNat
def rq2 (x : Int) : Int := IntKind.u64.wrap (x * x % 18446744073709551616 * 2 ^ min (Int.toNat 32) IntKind.u64.bits)
def rr0 (n h l : Int) : Int := (IntKind.u64.wrap (n * n) * h + IntKind.u64.wrap (n * n) * l / 18446744073709551616) / 18446744073709551616
def rr1 (n h l : Int) : Int := (IntKind.u64.wrap (n * n) * h + IntKind.u64.wrap (n * n) * l / 18446744073709551616) % 18446744073709551616
def rr2 (n l : Int) : Int := IntKind.u64.wrap (n * n) * l % 18446744073709551616
def g70a : GSpec := fun args obs => match args, obs with
  | [.int .u64 n, .agg [.int .u64 h, .int .u64 l], .int .u64 x], [] => some (((w64 (IntKind.u64.wrap (n * n)) ∧ w64 h ∧ w64 l) ∧ IntKind.u64.wrap (n * n) * h < 170141183460469231731687303715884105728) ∧ w64 x,
      .ret (.bool (lex3 (rr0 n h l) (rr1 n h l) (rr2 n l) (rq0 x) (rq1 x) (rq2 x))), [])
  | _, _ => none
def Iv70 : List V → List Ob → Inv := fun args _ => match args with
  | [.int .u64 n, .agg [.int .u64 h, .int .u64 l], .int .u64 x] => I70 (rq0 x) (rq1 x) (rq2 x) (rr0 n h l) (rr1 n h l) (rr2 n l)
  | _ => noIv
def T8 : Tab := (T6.add 216 (liftA (ofD g216))).add 124 (liftA (ofD g124))
theorem T8_ok : TabOk Tryz.prog T8 := (T6_ok.add (entry_of_fresh r216)).add (entry_of_fresh r124)
theorem r70a : FreshOk Tryz.prog 193 (ofD g70a) := by
  refine fresh_of_run T8_ok D6_ok Iv70 Tryz.func193 c193 fun args obs K' hk => ?_
  unfold ofD g70a at hk
  split at hk
  · rename_i d out news hg
    split at hg
    · rename_i n h_ l x
      cases hg
      obtain ⟨⟨h1, h2⟩, hk⟩ := hk
      refine And.intro trivial ?_
      refine And.intro ⟨trivial, ⟨trivial, trivial, trivial⟩, trivial⟩ ?_
      refine And.intro h1 ?_
      iterate 2 refine And.intro trivial ?_
      refine And.intro ⟨trivial, trivial, trivial⟩ ?_
      refine And.intro ⟨h2, h2⟩ ?_
      iterate 2 refine And.intro trivial ?_
      iterate 4 refine And.intro (by decide) ?_
      iterate 4 refine And.intro trivial ?_
      refine And.intro ?_ ?_
      · exact ⟨3, sl70 0, ob70 _ _ _ _ _ _, ⟨rfl, .inl ⟨rfl, rfl⟩⟩, ⟨Nat.zero_le _, Nat.le_refl _, ⟨⟨rfl, rfl⟩, ⟨rfl, rfl⟩, ⟨rfl, rfl⟩, trivial⟩, ⟨⟨.inl rfl, trivial⟩, ⟨.inl rfl, trivial⟩, ⟨.inl rfl, trivial⟩, ⟨.inr rfl, rfl⟩, ⟨.inr rfl, rfl⟩, trivial⟩⟩⟩
      · rintro m sl ob ⟨rfl, ⟨rfl, rfl⟩ | ⟨rfl, e0, rfl⟩ | ⟨rfl, e0, e1, rfl⟩ | ⟨rfl, e0, e1, e2, rfl⟩⟩
        · refine And.intro (by decide) ?_
          refine And.intro (by decide) ?_
          refine bcase_i (fun h => ?_) (fun h => ?_)
          · refine And.intro (by decide) ?_
            refine And.intro (by decide) ?_
            have h' := bne_iff_ne.1 h
            have e : lex3 (rr0 n h_ l) (rr1 n h_ l) (rr2 n l) (rq0 x) (rq1 x) (rq2 x) = decide (rr0 n h_ l < rq0 x) := by
              unfold lex3
              rw [if_pos h']
            rw [e] at hk
            exact hk
          · have h' : rr0 n h_ l = rq0 x := by
              have := h
              simpa using this
            exact ⟨2, sl70 1, ob70 _ _ _ _ _ _, by decide, ⟨rfl, .inr (.inl ⟨rfl, h', rfl⟩)⟩, ⟨Nat.zero_le _, Nat.le_of_ble_eq_true rfl, ⟨⟨rfl, rfl⟩, ⟨rfl, rfl⟩, ⟨rfl, rfl⟩, trivial⟩, ⟨⟨.inl rfl, trivial⟩, ⟨.inl rfl, trivial⟩, ⟨.inl rfl, trivial⟩, ⟨.inr rfl, rfl⟩, ⟨.inr rfl, rfl⟩, trivial⟩⟩⟩
        · refine And.intro (by decide) ?_
          refine And.intro (by decide) ?_
          refine bcase_i (fun h => ?_) (fun h => ?_)
          · refine And.intro (by decide) ?_
            refine And.intro (by decide) ?_
            have h' := bne_iff_ne.1 h
            have e : lex3 (rr0 n h_ l) (rr1 n h_ l) (rr2 n l) (rq0 x) (rq1 x) (rq2 x) = decide (rr1 n h_ l < rq1 x) := by
              unfold lex3
              rw [if_neg (by simpa using e0)]
              rw [if_pos h']
            rw [e] at hk
            exact hk
          · have h' : rr1 n h_ l = rq1 x := by
              have := h
              simpa using this
            exact ⟨1, sl70 2, ob70 _ _ _ _ _ _, by decide, ⟨rfl, .inr (.inr (.inl ⟨rfl, e0, h', rfl⟩))⟩, ⟨Nat.zero_le _, Nat.le_of_ble_eq_true rfl, ⟨⟨rfl, rfl⟩, ⟨rfl, rfl⟩, ⟨rfl, rfl⟩, trivial⟩, ⟨⟨.inl rfl, trivial⟩, ⟨.inl rfl, trivial⟩, ⟨.inl rfl, trivial⟩, ⟨.inr rfl, rfl⟩, ⟨.inr rfl, rfl⟩, trivial⟩⟩⟩
        · refine And.intro (by decide) ?_
          refine And.intro (by decide) ?_
          refine bcase_i (fun h => ?_) (fun h => ?_)
          · refine And.intro (by decide) ?_
            refine And.intro (by decide) ?_
            have h' := bne_iff_ne.1 h
            have e : lex3 (rr0 n h_ l) (rr1 n h_ l) (rr2 n l) (rq0 x) (rq1 x) (rq2 x) = decide (rr2 n l < rq2 x) := by
              unfold lex3
              rw [if_neg (by simpa using e0)]
              rw [if_neg (by simpa using e1)]
              rw [if_pos h']
            rw [e] at hk
            exact hk
          · have h' : rr2 n l = rq2 x := by
              have := h
              simpa using this
            exact ⟨0, sl70 3, ob70 _ _ _ _ _ _, by decide, ⟨rfl, .inr (.inr (.inr ⟨rfl, e0, e1, h', rfl⟩))⟩, ⟨Nat.zero_le _, Nat.le_of_ble_eq_true rfl, ⟨⟨rfl, rfl⟩, ⟨rfl, rfl⟩, ⟨rfl, rfl⟩, trivial⟩, ⟨⟨.inl rfl, trivial⟩, ⟨.inl rfl, trivial⟩, ⟨.inl rfl, trivial⟩, ⟨.inr rfl, rfl⟩, ⟨.inr rfl, rfl⟩, trivial⟩⟩⟩
        · have e : lex3 (rr0 n h_ l) (rr1 n h_ l) (rr2 n l) (rq0 x) (rq1 x) (rq2 x) = true := by
            unfold lex3
            rw [if_neg (by simpa using e0), if_neg (by simpa using e1), if_neg (by simpa using e2)]
          rw [e] at hk
          exact hk
    · cases hg
  · exact hk.elim
end Go.Proofs.YtbolfnkgbjkbjaaGreat.AM
