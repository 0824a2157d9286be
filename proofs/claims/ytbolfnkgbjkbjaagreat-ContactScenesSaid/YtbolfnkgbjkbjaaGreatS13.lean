/- Contracts, part 13: lengths in bits. -/
import Derived.Test.YtbolfnkgbjkbjaaGreatS12
set_option linter.unusedVariables false
set_option linter.unusedSimpArgs false
namespace Go.Proofs.YtbolfnkgbjkbjaaGreat.AM
open Go Go.RowKit
set_option maxRecDepth 100000

/-- The length of a byte, of a number below 2^32, in bits. -/
def tbl (x : Int) : Int := ((tb232_0.getD x.toNat 0 : Nat) : Int)
def blen (x : Int) : Int := if 65536 ≤ x then (if 16777216 ≤ x then 24 + tbl (x / 16777216) else 16 + tbl (x / 65536)) else if 256 ≤ x then 8 + tbl (x / 256) else tbl x
theorem tbl_nat : ∀ b : Fin 256, tb232_0.getD b.val 0 ≤ 8 ∧ (0 < b.val → 1 ≤ tb232_0.getD b.val 0 ∧ 2 ^ (tb232_0.getD b.val 0 - 1) ≤ b.val ∧ b.val < 2 ^ tb232_0.getD b.val 0) := by decide
theorem tbl_spec (x : Int) (h0 : 0 < x) (h1 : x < 256) : ∃ n : Nat, tbl x = n ∧ 1 ≤ n ∧ n ≤ 8 ∧ (2 : Int) ^ (n - 1) ≤ x ∧ x < 2 ^ n := by
  obtain ⟨m, rfl⟩ := Int.eq_ofNat_of_zero_le (Int.le_of_lt h0)
  have h := tbl_nat ⟨m, by omega⟩
  simp only [] at h
  obtain ⟨h2, h3⟩ := h
  obtain ⟨h4, h5, h6⟩ := h3 (by omega)
  refine ⟨_, rfl, h4, h2, ?_, ?_⟩
  · exact_mod_cast h5
  · exact_mod_cast h6
theorem tbl_le (x : Int) (h0 : 0 ≤ x) (h1 : x < 256) : 0 ≤ tbl x ∧ tbl x ≤ 8 := by
  obtain ⟨m, rfl⟩ := Int.eq_ofNat_of_zero_le h0
  have h := (tbl_nat ⟨m, by omega⟩).1
  simp only [] at h
  unfold tbl
  simp only [Int.toNat_natCast]
  omega
theorem blen_spec (x : Int) (h0 : 0 < x) (h1 : x < 4294967296) : ∃ n : Nat, blen x = n ∧ 1 ≤ n ∧ n ≤ 32 ∧ (2 : Int) ^ (n - 1) ≤ x ∧ x < 2 ^ n := by
  have go : ∀ (k : Nat) (c q : Int), k = 0 ∧ c = 1 ∨ k = 8 ∧ c = 256 ∨ k = 16 ∧ c = 65536 ∨ k = 24 ∧ c = 16777216 → x / c = q → 0 < q → q < 256 → ∃ n : Nat, (k : Int) + tbl q = n ∧ 1 ≤ n ∧ n ≤ 32 ∧ (2 : Int) ^ (n - 1) ≤ x ∧ x < 2 ^ n := by
    intro k c q hk hq h2 h3
    obtain ⟨n, e, h4, h5, h6, h7⟩ := tbl_spec q h2 h3
    refine ⟨k + n, by omega, by omega, by omega, ?_⟩
    have hn : n = 1 ∨ n = 2 ∨ n = 3 ∨ n = 4 ∨ n = 5 ∨ n = 6 ∨ n = 7 ∨ n = 8 := by omega
    rcases hk with ⟨rfl, rfl⟩ | ⟨rfl, rfl⟩ | ⟨rfl, rfl⟩ | ⟨rfl, rfl⟩ <;> rcases hn with rfl | rfl | rfl | rfl | rfl | rfl | rfl | rfl <;> simp only [Nat.add_one_sub_one, Nat.reduceAdd, Nat.reduceSub, Int.reducePow] at * <;> omega
  unfold blen
  split
  · split
    · exact go 24 16777216 _ (by simp) rfl (by omega) (by omega)
    · exact go 16 65536 _ (by simp) rfl (by omega) (by omega)
  · split
    · exact go 8 256 _ (by simp) rfl (by omega) (by omega)
    · have := go 0 1 x (by simp) (by omega) h0 (by omega)
      simpa using this
theorem fdivp (x c : Int) (h : 0 ≤ c) : x.fdiv c = x / c := Int.fdiv_eq_ediv_of_nonneg _ h

/-- math/bits.Len64 -/
def g232 : GSpec := fun args obs => match args, obs with
  | [.int .u64 x], [] => some (0 ≤ x ∧ x < 4294967296, .ret (i64 (blen x)), [])
  | _, _ => none
theorem k232 (x : Int) (K' : Out → List Ob → Prop) : runFn (T6) (D6) noIv a232 [.int .u64 x] (lookO []) 0 (closeK K') =
    (bcase (decide (x ≥ (4294967296 : Int)))
     (((0 : Int) ≤ (32 : Int)) ∧
     bcase (decide (x.fdiv (4294967296 : Int) ≥ (65536 : Int)))
      (((0 : Int) ≤ (16 : Int)) ∧
      bcase (decide
  ((x.fdiv (4294967296 : Int)).fdiv
      (65536 : Int) ≥
    (256 : Int)))
       (((0 : Int) ≤ (8 : Int)) ∧
       ((0 : Int) ≤
    IntKind.u8.wrap
      (((x.fdiv (4294967296 : Int)).fdiv
            (65536 : Int)).fdiv
        (256 : Int)) ∧
  IntKind.u8.wrap
      (((x.fdiv (4294967296 : Int)).fdiv
            (65536 : Int)).fdiv
        (256 : Int)) <
    ↑tb232_0.length) ∧
       K'
  (Out.ret
    (V.int IntKind.i64
      (IntKind.i64.wrap
        ((56 : Int) +
          IntKind.i64.wrap
            ↑(tb232_0.getD
                (IntKind.u8.wrap
                    (((x.fdiv (4294967296 : Int)).fdiv
                          (65536 : Int)).fdiv
                      (256 : Int))).toNat
                (0 : Nat))))))
  [])
       (((0 : Int) ≤
    IntKind.u8.wrap
      ((x.fdiv (4294967296 : Int)).fdiv
        (65536 : Int)) ∧
  IntKind.u8.wrap
      ((x.fdiv (4294967296 : Int)).fdiv
        (65536 : Int)) <
    ↑tb232_0.length) ∧
       K'
  (Out.ret
    (V.int IntKind.i64
      (IntKind.i64.wrap
        ((48 : Int) +
          IntKind.i64.wrap
            ↑(tb232_0.getD
                (IntKind.u8.wrap
                    ((x.fdiv (4294967296 : Int)).fdiv
                      (65536 : Int))).toNat
                (0 : Nat))))))
  []))
      (bcase (decide (x.fdiv (4294967296 : Int) ≥ (256 : Int)))
       (((0 : Int) ≤ (8 : Int)) ∧
       ((0 : Int) ≤
    IntKind.u8.wrap
      ((x.fdiv (4294967296 : Int)).fdiv
        (256 : Int)) ∧
  IntKind.u8.wrap
      ((x.fdiv (4294967296 : Int)).fdiv
        (256 : Int)) <
    ↑tb232_0.length) ∧
       K'
  (Out.ret
    (V.int IntKind.i64
      (IntKind.i64.wrap
        ((40 : Int) +
          IntKind.i64.wrap
            ↑(tb232_0.getD
                (IntKind.u8.wrap
                    ((x.fdiv (4294967296 : Int)).fdiv
                      (256 : Int))).toNat
                (0 : Nat))))))
  [])
       (((0 : Int) ≤ IntKind.u8.wrap (x.fdiv (4294967296 : Int)) ∧
  IntKind.u8.wrap (x.fdiv (4294967296 : Int)) < ↑tb232_0.length) ∧
       K'
  (Out.ret
    (V.int IntKind.i64
      (IntKind.i64.wrap
        ((32 : Int) +
          IntKind.i64.wrap
            ↑(tb232_0.getD (IntKind.u8.wrap (x.fdiv (4294967296 : Int))).toNat
                (0 : Nat))))))
  [])))
     (bcase (decide (x ≥ (65536 : Int)))
      (((0 : Int) ≤ (16 : Int)) ∧
      bcase (decide (x.fdiv (65536 : Int) ≥ (256 : Int)))
       (((0 : Int) ≤ (8 : Int)) ∧
       ((0 : Int) ≤
    IntKind.u8.wrap
      ((x.fdiv (65536 : Int)).fdiv
        (256 : Int)) ∧
  IntKind.u8.wrap
      ((x.fdiv (65536 : Int)).fdiv
        (256 : Int)) <
    ↑tb232_0.length) ∧
       K'
  (Out.ret
    (V.int IntKind.i64
      (IntKind.i64.wrap
        ((24 : Int) +
          IntKind.i64.wrap
            ↑(tb232_0.getD
                (IntKind.u8.wrap
                    ((x.fdiv (65536 : Int)).fdiv
                      (256 : Int))).toNat
                (0 : Nat))))))
  [])
       (((0 : Int) ≤ IntKind.u8.wrap (x.fdiv (65536 : Int)) ∧
  IntKind.u8.wrap (x.fdiv (65536 : Int)) < ↑tb232_0.length) ∧
       K'
  (Out.ret
    (V.int IntKind.i64
      (IntKind.i64.wrap
        ((16 : Int) +
          IntKind.i64.wrap
            ↑(tb232_0.getD (IntKind.u8.wrap (x.fdiv (65536 : Int))).toNat
                (0 : Nat))))))
  []))
      (bcase (decide (x ≥ (256 : Int)))
       (((0 : Int) ≤ (8 : Int)) ∧
       ((0 : Int) ≤ IntKind.u8.wrap (x.fdiv (256 : Int)) ∧
  IntKind.u8.wrap (x.fdiv (256 : Int)) < ↑tb232_0.length) ∧
       K'
  (Out.ret
    (V.int IntKind.i64
      (IntKind.i64.wrap
        ((8 : Int) +
          IntKind.i64.wrap
            ↑(tb232_0.getD (IntKind.u8.wrap (x.fdiv (256 : Int))).toNat
                (0 : Nat))))))
  [])
       (((0 : Int) ≤ IntKind.u8.wrap x ∧ IntKind.u8.wrap x < ↑tb232_0.length) ∧
       K'
  (Out.ret
    (V.int IntKind.i64
      (IntKind.i64.wrap ((0 : Int) + IntKind.i64.wrap ↑(tb232_0.getD (IntKind.u8.wrap x).toNat (0 : Nat))))))
  [])))) := by kernel_rfl
theorem r232 : FreshOk Tryz.prog 232 (ofD g232) := by
  refine fresh_of_run T6_ok D6_ok (fun _ _ => noIv) Tryz.func232 c232 fun args obs K' hk => ?_
  unfold ofD g232 at hk
  split at hk
  · rename_i d_ out news hg
    split at hg
    · rename_i x
      cases hg
      obtain ⟨hc, hk⟩ := hk
      refine Eq.mpr (k232 x K') ?_
      · refine bcase_f (decide_eq_false (by omega)) ?_
        refine bcase_i (fun h1 => ?_) (fun h1 => ?_)
        · have h1 := of_decide_eq_true h1
          refine And.intro (by decide) ?_
          refine bcase_i (fun h2 => ?_) (fun h2 => ?_)
          · have h2 := of_decide_eq_true h2
            rw [fdivp _ _ (by decide)] at h2
            refine And.intro (by decide) ?_
            have hq : 0 ≤ (x / 16777216) ∧ (x / 16777216) < 256 := by omega
            have ht := tbl_le (x / 16777216) hq.1 hq.2
            have hl : (tb232_0.length : Int) = 256 := rfl
            simp only [fdivp _ _ (show (0 : Int) ≤ 256 by decide), fdivp _ _ (show (0 : Int) ≤ 65536 by decide), IntKind.wrap_u8, hl]
            have e1 : (x / 65536 / 256) % 256 = (x / 16777216) := by omega
            refine And.intro (by omega) ?_
            rw [e1]
            have e2 : IntKind.i64.wrap (24 + IntKind.i64.wrap (tbl (x / 16777216))) = 24 + tbl (x / 16777216) := by
              have : IntKind.i64.wrap (tbl (x / 16777216)) = tbl (x / 16777216) := IntWalk.i64_in _ (by omega)
              rw [this]
              exact IntWalk.i64_in _ (by omega)
            refine Eq.mpr (congrArg (fun z => K' (Out.ret (V.int .i64 z)) []) e2) ?_
            unfold blen at hk
            rw [if_pos (by omega), if_pos (by omega)] at hk
            exact hk
          · have h2 := of_decide_eq_false h2
            rw [fdivp _ _ (by decide)] at h2
            have hq : 0 ≤ (x / 65536) ∧ (x / 65536) < 256 := by omega
            have ht := tbl_le (x / 65536) hq.1 hq.2
            have hl : (tb232_0.length : Int) = 256 := rfl
            simp only [fdivp _ _ (show (0 : Int) ≤ 256 by decide), fdivp _ _ (show (0 : Int) ≤ 65536 by decide), IntKind.wrap_u8, hl]
            have e1 : (x / 65536) % 256 = (x / 65536) := by omega
            refine And.intro (by omega) ?_
            rw [e1]
            have e2 : IntKind.i64.wrap (16 + IntKind.i64.wrap (tbl (x / 65536))) = 16 + tbl (x / 65536) := by
              have : IntKind.i64.wrap (tbl (x / 65536)) = tbl (x / 65536) := IntWalk.i64_in _ (by omega)
              rw [this]
              exact IntWalk.i64_in _ (by omega)
            refine Eq.mpr (congrArg (fun z => K' (Out.ret (V.int .i64 z)) []) e2) ?_
            unfold blen at hk
            rw [if_pos (by omega), if_neg (by omega)] at hk
            exact hk
        · have h1 := of_decide_eq_false h1
          refine bcase_i (fun h2 => ?_) (fun h2 => ?_)
          · have h2 := of_decide_eq_true h2
            refine And.intro (by decide) ?_
            have hq : 0 ≤ (x / 256) ∧ (x / 256) < 256 := by omega
            have ht := tbl_le (x / 256) hq.1 hq.2
            have hl : (tb232_0.length : Int) = 256 := rfl
            simp only [fdivp _ _ (show (0 : Int) ≤ 256 by decide), fdivp _ _ (show (0 : Int) ≤ 65536 by decide), IntKind.wrap_u8, hl]
            have e1 : (x / 256) % 256 = (x / 256) := by omega
            refine And.intro (by omega) ?_
            rw [e1]
            have e2 : IntKind.i64.wrap (8 + IntKind.i64.wrap (tbl (x / 256))) = 8 + tbl (x / 256) := by
              have : IntKind.i64.wrap (tbl (x / 256)) = tbl (x / 256) := IntWalk.i64_in _ (by omega)
              rw [this]
              exact IntWalk.i64_in _ (by omega)
            refine Eq.mpr (congrArg (fun z => K' (Out.ret (V.int .i64 z)) []) e2) ?_
            unfold blen at hk
            rw [if_neg (by omega), if_pos (by omega)] at hk
            exact hk
          · have h2 := of_decide_eq_false h2
            have hq : 0 ≤ (x) ∧ (x) < 256 := by omega
            have ht := tbl_le (x) hq.1 hq.2
            have hl : (tb232_0.length : Int) = 256 := rfl
            simp only [fdivp _ _ (show (0 : Int) ≤ 256 by decide), fdivp _ _ (show (0 : Int) ≤ 65536 by decide), IntKind.wrap_u8, hl]
            have e1 : (x) % 256 = (x) := by omega
            refine And.intro (by omega) ?_
            rw [e1]
            have e2 : IntKind.i64.wrap (0 + IntKind.i64.wrap (tbl (x))) = 0 + tbl (x) := by
              have : IntKind.i64.wrap (tbl (x)) = tbl (x) := IntWalk.i64_in _ (by omega)
              rw [this]
              exact IntWalk.i64_in _ (by omega)
            refine Eq.mpr (congrArg (fun z => K' (Out.ret (V.int .i64 z)) []) e2) ?_
            unfold blen at hk
            rw [if_neg (by omega), if_neg (by omega), ← Int.zero_add (tbl x)] at hk
            exact hk
    · cases hg
  · exact hk.elim

end Go.Proofs.YtbolfnkgbjkbjaaGreat.AM
