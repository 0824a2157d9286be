/- Contracts, part 14: divisions. -/
import Derived.Test.YtbolfnkgbjkbjaaGreatS13
set_option linter.unusedVariables false
set_option linter.unusedSimpArgs false
namespace Go.Proofs.YtbolfnkgbjkbjaaGreat.AM
open Go Go.RowKit
set_option maxRecDepth 100000
theorem div_main (N p y Y a u v1 v0 : Int) (hp : 0 < p) (hy : 0 < y) (hY : Y = y * p) (ha : Y = a * 4294967296) (hN : N * p = u * 18446744073709551616 + v1 * 4294967296 + v0)
    (hu : 0 ≤ u ∧ u < Y) (hv1 : 0 ≤ v1 ∧ v1 < 4294967296) (hv0 : 0 ≤ v0 ∧ v0 < 4294967296) (ha0 : 0 < a) :
    N / y = u / a * 4294967296 + (u % a * 4294967296 + v1) / a ∧ N % y = ((u % a * 4294967296 + v1) % a * 4294967296 + v0) / p ∧ 0 ≤ (u % a * 4294967296 + v1) % a * 4294967296 + v0 ∧ (u % a * 4294967296 + v1) % a * 4294967296 + v0 < Y ∧
    0 ≤ u / a ∧ u / a < 4294967296 ∧ 0 ≤ u % a * 4294967296 + v1 ∧ u % a * 4294967296 + v1 < Y ∧ 0 ≤ (u % a * 4294967296 + v1) / a ∧ (u % a * 4294967296 + v1) / a < 4294967296 := by
  have b1 := Int.emod_nonneg u (show a ≠ 0 by omega)
  have b2 := Int.emod_lt_of_pos u ha0
  have b3 := Int.mul_ediv_add_emod u a
  generalize u / a = q1 at *
  generalize u % a = r1 at *
  generalize hw : r1 * 4294967296 + v1 = w at *
  have c1 := Int.emod_nonneg w (show a ≠ 0 by omega)
  have c2 := Int.emod_lt_of_pos w ha0
  have c3 := Int.mul_ediv_add_emod w a
  have hq0 : 0 ≤ w / a := Int.ediv_nonneg (by omega) (by omega)
  generalize w / a = q0 at *
  generalize w % a = r0 at *
  have hq1 : 0 ≤ q1 := by
    by_cases h : 0 ≤ q1
    · exact h
    · have h1 : a * q1 ≤ a * (-1) := Int.mul_le_mul_of_nonneg_left (by omega) (by omega)
      omega
  have hq1' : q1 < 4294967296 := by
    by_cases h : q1 < 4294967296
    · exact h
    · have h1 : a * 4294967296 ≤ a * q1 := Int.mul_le_mul_of_nonneg_left (by omega) (by omega)
      omega
  have hq0' : q0 < 4294967296 := by
    by_cases h : q0 < 4294967296
    · exact h
    · have h1 : a * 4294967296 ≤ a * q0 := Int.mul_le_mul_of_nonneg_left (by omega) (by omega)
      omega
  have key : (N - (q1 * 4294967296 + q0) * y) * p = r0 * 4294967296 + v0 := by
    have e1 : (N - (q1 * 4294967296 + q0) * y) * p = N * p - (q1 * 4294967296 + q0) * (y * p) := by grind
    rw [e1, ← hY, hN, ha]
    have e2 : (q1 * 4294967296 + q0) * (a * 4294967296) = (a * q1) * 18446744073709551616 + (a * q0) * 4294967296 := by grind
    rw [e2]
    omega
  have hR0 : 0 ≤ N - (q1 * 4294967296 + q0) * y := by
    by_cases h : 0 ≤ N - (q1 * 4294967296 + q0) * y
    · exact h
    · have h1 : (N - (q1 * 4294967296 + q0) * y) * p ≤ (-1) * p := Int.mul_le_mul_of_nonneg_right (by omega) (by omega)
      omega
  have hR1 : N - (q1 * 4294967296 + q0) * y < y := by
    by_cases h : N - (q1 * 4294967296 + q0) * y < y
    · exact h
    · have h1 : y * p ≤ (N - (q1 * 4294967296 + q0) * y) * p := Int.mul_le_mul_of_nonneg_right (by omega) (by omega)
      omega
  have hdm : N / y = q1 * 4294967296 + q0 ∧ N % y = N - (q1 * 4294967296 + q0) * y := by
    refine (Int.ediv_emod_unique hy).2 ⟨?_, hR0, hR1⟩
    rw [Int.mul_comm y]
    omega
  refine ⟨hdm.1, ?_, by omega, by omega, hq1, hq1', by omega, by omega, hq0, hq0'⟩
  rw [hdm.2, ← key, Int.mul_ediv_cancel _ (by omega)]
theorem div_prep (h l y : Int) (n : Nat) (hn : 1 ≤ n ∧ n ≤ 32) (hy1 : (2 : Int) ^ (n - 1) ≤ y) (hy2 : y < 2 ^ n) (hh : 0 ≤ h ∧ h < y) (hl : 0 ≤ l ∧ l < 18446744073709551616) :
    ∃ a : Int, 0 < a ∧ y * 2 ^ (64 - n) = a * 4294967296 ∧ y * 2 ^ (64 - n) < 18446744073709551616 ∧ 0 ≤ h * 2 ^ (64 - n) + l / 2 ^ n ∧ h * 2 ^ (64 - n) + l / 2 ^ n < y * 2 ^ (64 - n) ∧
      (h * 18446744073709551616 + l) * 2 ^ (64 - n) = (h * 2 ^ (64 - n) + l / 2 ^ n) * 18446744073709551616 + (l * 2 ^ (64 - n)) % 18446744073709551616 ∧ l / 2 ^ n < 2 ^ (64 - n) ∧ 0 ≤ l / 2 ^ n := by
  have hp : (2 : Int) ^ (64 - n) * 2 ^ n = 18446744073709551616 := by
    rw [← Int.pow_add, show 64 - n + n = 64 by omega]
    rfl
  have hp2 : (2 : Int) ^ (64 - n) = 2 ^ (32 - n) * 4294967296 := by
    rw [show 64 - n = (32 - n) + 32 by omega, Int.pow_add]
    rfl
  have h0 : (0 : Int) < 2 ^ (64 - n) := Int.pow_pos (by decide)
  have h1 : (0 : Int) < 2 ^ n := Int.pow_pos (by decide)
  have h2 : (0 : Int) < 2 ^ (32 - n) := Int.pow_pos (by decide)
  have d1 := Int.emod_nonneg l (show (2 : Int) ^ n ≠ 0 by omega)
  have d2 := Int.emod_lt_of_pos l h1
  have d3 := Int.mul_ediv_add_emod l (2 ^ n)
  have d0 : 0 ≤ l / 2 ^ n := Int.ediv_nonneg hl.1 (by omega)
  have hy0 : 0 < y := by omega
  clear hy1
  generalize (2 : Int) ^ (64 - n) = p at *
  generalize (2 : Int) ^ n = p2 at *
  generalize (2 : Int) ^ (32 - n) = p3 at *
  generalize l / p2 = c at *
  generalize l % p2 = d at *
  have b1 : y * p < p2 * p := Int.mul_lt_mul_of_pos_right hy2 h0
  have e1 : p2 * p = p * p2 := Int.mul_comm _ _
  have b2 : c < p := by
    by_cases hc : c < p
    · exact hc
    · have : p2 * p ≤ p2 * c := Int.mul_le_mul_of_nonneg_left (by omega) (by omega)
      omega
  have b3 : h * p ≤ (y - 1) * p := Int.mul_le_mul_of_nonneg_right (by omega) (by omega)
  have b4 : 0 ≤ h * p := Int.mul_nonneg hh.1 (by omega)
  have e2 : (y - 1) * p = y * p - p := by grind
  have e3 : l * p = c * 18446744073709551616 + d * p := by
    rw [← d3, ← hp]
    grind
  have b5 : d * p < p2 * p := Int.mul_lt_mul_of_pos_right d2 h0
  have b6 : 0 ≤ d * p := Int.mul_nonneg d1 (by omega)
  refine ⟨y * p3, Int.mul_pos hy0 h2, ?_, by omega, by omega, by omega, ?_, b2, d0⟩
  · rw [hp2]; grind
  · have e4 : (h * 18446744073709551616 + l) * p = h * p * 18446744073709551616 + l * p := by grind
    rw [e4, e3]
    generalize h * p = hp' at *
    generalize d * p = dp at *
    omega

def T14 : Tab := T6.add 232 (liftA (ofD g232))
theorem T14_ok : TabOk Tryz.prog T14 := T6_ok.add (entry_of_fresh r232)
def T14b : Tab := T14.add 228 (runFn T14 D6 noIv a228)
theorem T14b_ok : TabOk Tryz.prog T14b := T14_ok.add (fn_entry T14_ok D6_ok noIv Tryz.func228 c228)
def a81c : AFn := ((a217.unroll 1).cutP 0 [1,1,1,1,1,1,1,1,1,1,1]).cutP 1 [1,1,1,1,1,1,1,1,1,1,1,1,1,1,1]
theorem c81c : chkFn Tryz.prog Tryz.f217 a81c = true := by kernel_rfl
/-- math/bits.Div64, a divisor below 2^32 -/
def g217 : GSpec := fun args obs => match args, obs with
  | [.int .u64 h, .int .u64 l, .int .u64 y], [] => some (0 ≤ h ∧ h < y ∧ w64 l ∧ 0 < y ∧ y < 4294967296, .ret (.tup [u64 ((h * 18446744073709551616 + l) / y), u64 ((h * 18446744073709551616 + l) % y)]), [])
  | _, _ => none
def Iv81 : List V → List Ob → Inv := fun args _ nm m sl ob => match args with
  | [.int .u64 h, .int .u64 l, .int .u64 y] => match nm with
    | 0 => ∃ (k : Nat) (Y a u v1 v0 : Int), k < 64 ∧ Y = y * 2 ^ k ∧ Y = a * 4294967296 ∧ 0 < a ∧ Y < 18446744073709551616 ∧ (0 ≤ u ∧ u < Y) ∧ (0 ≤ v1 ∧ v1 < 4294967296) ∧ (0 ≤ v0 ∧ v0 < 4294967296) ∧
        (h * 18446744073709551616 + l) * 2 ^ k = u * 18446744073709551616 + v1 * 4294967296 + v0 ∧ ob = [] ∧
        sl = [(2, u64 Y), (8, u64 (k : Nat)), (9, u64 a), (10, u64 0), (11, u64 u), (13, u64 v1), (14, u64 v0)]
    | _ => ∃ (k : Nat) (Y a u v1 v0 : Int), k < 64 ∧ Y = y * 2 ^ k ∧ Y = a * 4294967296 ∧ 0 < a ∧ Y < 18446744073709551616 ∧ (0 ≤ u ∧ u < Y) ∧ (0 ≤ v1 ∧ v1 < 4294967296) ∧ (0 ≤ v0 ∧ v0 < 4294967296) ∧
        (h * 18446744073709551616 + l) * 2 ^ k = u * 18446744073709551616 + v1 * 4294967296 + v0 ∧ ob = [] ∧
        sl = [(2, u64 Y), (8, u64 (k : Nat)), (9, u64 a), (10, u64 0), (14, u64 v0), (15, u64 (u / a)), (17, u64 (u % a * 4294967296 + v1))]
  | _ => False
theorem w64id {n : Int} (h : 0 ≤ n ∧ n < 18446744073709551616) : IntKind.u64.wrap n = n := by rw [IntKind.wrap_u64]; omega
theorem w64e {n m : Int} (h : 0 ≤ m ∧ m < 18446744073709551616) (k : Int) (e : n = m + k * 18446744073709551616) : IntKind.u64.wrap n = m := by rw [IntKind.wrap_u64]; omega
theorem div_r1 (q1 q0 : Int) (h1 : 0 ≤ q1 ∧ q1 < 4294967296) (h2 : 0 ≤ q0 ∧ q0 < 4294967296) : IntKind.u64.wrap (IntKind.u64.wrap (q1 * 4294967296) + q0) = q1 * 4294967296 + q0 := by
  simp only [IntKind.wrap_u64]
  omega
theorem div_r2 (w a v0 Y : Int) (eY : Y = a * 4294967296) (ha : 0 < a) (hY2 : Y < 18446744073709551616) (hv0 : 0 ≤ v0 ∧ v0 < 4294967296) (t : 0 ≤ w % a * 4294967296 + v0 ∧ w % a * 4294967296 + v0 < Y) :
    IntKind.u64.wrap (IntKind.u64.wrap (IntKind.u64.wrap (w * 4294967296) + v0) - IntKind.u64.wrap (w / a * Y)) = w % a * 4294967296 + v0 := by
  have d3 := Int.mul_ediv_add_emod w a
  have e5 : w / a * Y = a * (w / a) * 4294967296 := by rw [eY]; grind
  rw [e5]
  simp only [IntKind.wrap_u64]
  clear e5
  generalize a * (w / a) = X at *
  generalize w % a = r at *
  omega
theorem and_low (Y : Int) (h : 0 ≤ Y ∧ Y < 18446744073709551616) : IntKind.u64.wrap ↑(BitVec.ofInt IntKind.u64.bits Y &&& BitVec.ofInt IntKind.u64.bits (4294967295 : Int)).toNat = Y % 4294967296 := by
  obtain ⟨m, rfl⟩ := Int.eq_ofNat_of_zero_le h.1
  have e1 : (BitVec.ofInt IntKind.u64.bits (m : Int)).toNat = m := by
    rw [BitVec.toNat_ofInt]
    show ((m : Int) % ((2 ^ 64 : Nat) : Int)).toNat = _
    omega
  have e2 : (BitVec.ofInt IntKind.u64.bits (4294967295 : Int)).toNat = 2 ^ 32 - 1 := by decide
  rw [BitVec.toNat_and, e1, e2, Nat.and_two_pow_sub_one_eq_mod, IntKind.wrap_u64]
  omega
theorem or_low (n k : Nat) (j : Nat) (hj : j < 2 ^ k) (hl : 2 ^ k * n + j < 18446744073709551616) : IntKind.u64.wrap ↑(BitVec.ofInt IntKind.u64.bits ((2 ^ k * n : Nat) : Int) ||| BitVec.ofInt IntKind.u64.bits (j : Int)).toNat = ((2 ^ k * n + j : Nat) : Int) := by
  have e1 : (BitVec.ofInt IntKind.u64.bits ((2 ^ k * n : Nat) : Int)).toNat = 2 ^ k * n := by
    rw [BitVec.toNat_ofInt]
    show (((2 ^ k * n : Nat) : Int) % ((2 ^ 64 : Nat) : Int)).toNat = _
    generalize 2 ^ k * n = z at *
    omega
  have e2 : (BitVec.ofInt IntKind.u64.bits (j : Int)).toNat = j := by
    rw [BitVec.toNat_ofInt]
    show ((j : Int) % ((2 ^ 64 : Nat) : Int)).toNat = _
    omega
  rw [BitVec.toNat_or, e1, e2, ← Nat.two_pow_add_eq_or_of_lt hj, IntKind.wrap_u64]
  generalize 2 ^ k * n + j = z at *
  omega

set_option maxHeartbeats 1000000 in
theorem r217 : FreshOk Tryz.prog 217 (ofD g217) := by
  refine fresh_of_run T14b_ok D6_ok Iv81 Tryz.func217 c81c fun args obs K' hk => ?_
  unfold ofD g217 at hk
  split at hk
  · rename_i d_ out news hg
    split at hg
    · rename_i h l y
      cases hg
      obtain ⟨⟨h0, h1, h2, h3, h4⟩, hk⟩ := hk
      refine bcase_f (beq_eq_false_iff_ne.2 (by omega) : (y == (0 : Int)) = false) ?_
      refine bcase_f (decide_eq_false (by omega) : decide (y ≤ h) = false) ?_
      refine bcase_i (fun hz => ?_) (fun hz => ?_)
      · have hz : h = 0 := eq_of_beq hz
        subst hz
        refine And.intro (show y ≠ 0 by omega) (And.intro (show y ≠ 0 by omega) ?_)
        have e1 : IntKind.u64.wrap (l.tdiv y) = (0 * 18446744073709551616 + l) / y := by
          rw [Int.tdiv_eq_ediv_of_nonneg h2.1, Int.zero_mul, Int.zero_add]
          exact w64id ⟨Int.ediv_nonneg h2.1 (by omega), Int.lt_of_le_of_lt (Int.ediv_le_self _ h2.1) h2.2⟩
        have e2 : l.tmod y = (0 * 18446744073709551616 + l) % y := by
          rw [Int.tmod_eq_emod_of_nonneg h2.1, Int.zero_mul, Int.zero_add]
        rw [← e1, ← e2] at hk
        exact hk
      · obtain ⟨n, en, hn1, hn2, hn3, hn4⟩ := blen_spec y h3 h4
        obtain ⟨a, pa, eY, hY, hu0, hu1, hN, hc1, hc0⟩ := div_prep h l y n ⟨hn1, hn2⟩ hn3 hn4 ⟨h0, h1⟩ h2
        have es : IntKind.u64.wrap (IntKind.i64.wrap ((64 : Int) - blen y)) = ((64 - n : Nat) : Int) := by
          rw [en, IntWalk.i64_in _ (by omega), w64id (by omega)]
          omega
        have es2 : IntKind.u64.wrap ((64 : Int) - IntKind.u64.wrap (IntKind.i64.wrap ((64 : Int) - blen y))) = (n : Int) := by
          rw [es, w64id (by omega)]
          omega
        have m1 : min (IntKind.u64.wrap (IntKind.i64.wrap ((64 : Int) - blen y))).toNat IntKind.u64.bits = 64 - n := by
          rw [es, Int.toNat_natCast]
          exact Nat.min_eq_left (show 64 - n ≤ 64 by omega)
        have m2 : min (IntKind.u64.wrap ((64 : Int) - IntKind.u64.wrap (IntKind.i64.wrap ((64 : Int) - blen y)))).toNat IntKind.u64.bits = n := by
          rw [es2, Int.toNat_natCast]
          exact Nat.min_eq_left (show n ≤ 64 by omega)
        have yY : IntKind.u64.wrap (y * 2 ^ min (IntKind.u64.wrap (IntKind.i64.wrap ((64 : Int) - blen y))).toNat IntKind.u64.bits) = y * 2 ^ (64 - n) := by
          rw [m1]; exact w64id ⟨by omega, hY⟩
        refine And.intro ⟨trivial, trivial⟩ ?_
        refine And.intro (show (0 : Int) ≤ y ∧ y < 4294967296 from ⟨by omega, h4⟩) ?_
        refine And.intro (show (0 : Int) ≤ IntKind.u64.wrap (IntKind.i64.wrap ((64 : Int) - blen y)) by rw [es]; omega) ?_
        refine And.intro (show (0 : Int) ≤ 32 by decide) ?_
        refine And.intro (show (0 : Int) ≤ IntKind.u64.wrap (IntKind.i64.wrap ((64 : Int) - blen y)) by rw [es]; omega) ?_
        refine And.intro (show (0 : Int) ≤ IntKind.u64.wrap ((64 : Int) - IntKind.u64.wrap (IntKind.i64.wrap ((64 : Int) - blen y))) by rw [es2]; omega) ?_
        refine And.intro (show (0 : Int) ≤ IntKind.u64.wrap (IntKind.i64.wrap ((64 : Int) - blen y)) by rw [es]; omega) ?_
        refine And.intro (show (0 : Int) ≤ 32 by decide) ?_
        have p0 : (0 : Int) < 2 ^ (64 - n) := Int.pow_pos (by decide)
        have hl64 : 0 ≤ (l * 2 ^ (64 - n)) % 18446744073709551616 ∧ (l * 2 ^ (64 - n)) % 18446744073709551616 < 18446744073709551616 := by omega
        have f9 : (IntKind.u64.wrap (y * 2 ^ min (IntKind.u64.wrap (IntKind.i64.wrap ((64 : Int) - blen y))).toNat IntKind.u64.bits)).fdiv ((2 : Int) ^ min (Int.toNat 32) IntKind.u64.bits) = a := by
          rw [yY, eY]
          show (a * 4294967296).fdiv 4294967296 = a
          rw [fdivp _ _ (by decide)]
          omega
        have f10 : IntKind.u64.wrap ↑(BitVec.ofInt IntKind.u64.bits (IntKind.u64.wrap (y * 2 ^ min (IntKind.u64.wrap (IntKind.i64.wrap ((64 : Int) - blen y))).toNat IntKind.u64.bits)) &&& BitVec.ofInt IntKind.u64.bits (4294967295 : Int)).toNat = 0 := by
          rw [yY, and_low _ ⟨by omega, hY⟩, eY]
          omega
        have f11 : IntKind.u64.wrap ↑(BitVec.ofInt IntKind.u64.bits (IntKind.u64.wrap (h * 2 ^ min (IntKind.u64.wrap (IntKind.i64.wrap ((64 : Int) - blen y))).toNat IntKind.u64.bits)) |||
            BitVec.ofInt IntKind.u64.bits (l.fdiv ((2 : Int) ^ min (IntKind.u64.wrap ((64 : Int) - IntKind.u64.wrap (IntKind.i64.wrap ((64 : Int) - blen y)))).toNat IntKind.u64.bits))).toNat = h * 2 ^ (64 - n) + l / 2 ^ n := by
          rw [m1, m2, fdivp _ _ (Int.le_of_lt (Int.pow_pos (by decide)))]
          obtain ⟨H, rfl⟩ := Int.eq_ofNat_of_zero_le h0
          obtain ⟨c, hc⟩ := Int.eq_ofNat_of_zero_le hc0
          have hpn : ((2 ^ (64 - n) : Nat) : Int) = (2 : Int) ^ (64 - n) := by norm_cast
          have e3 : (H : Int) * 2 ^ (64 - n) = ((2 ^ (64 - n) * H : Nat) : Int) := by rw [Int.natCast_mul, hpn, Int.mul_comm]
          rw [hc] at hc1
          rw [hc, e3] at hu0 hu1 ⊢
          have hc1' : c < 2 ^ (64 - n) := by rw [← hpn] at hc1; exact Int.ofNat_lt.1 hc1
          have hb : 2 ^ (64 - n) * H + c < 18446744073709551616 := by
            clear e3 hpn
            generalize 2 ^ (64 - n) * H = z at hu1 hu0
            omega
          have i1 : IntKind.u64.wrap ((2 ^ (64 - n) * H : Nat) : Int) = ((2 ^ (64 - n) * H : Nat) : Int) := w64id ⟨Int.natCast_nonneg _, by omega⟩
          rw [i1, or_low H (64 - n) c hc1' hb]
          exact Int.natCast_add _ _
        have f12 : IntKind.u64.wrap (l * 2 ^ min (IntKind.u64.wrap (IntKind.i64.wrap ((64 : Int) - blen y))).toNat IntKind.u64.bits) = (l * 2 ^ (64 - n)) % 18446744073709551616 := by
          rw [m1, IntKind.wrap_u64]
        have f13 : (IntKind.u64.wrap (l * 2 ^ min (IntKind.u64.wrap (IntKind.i64.wrap ((64 : Int) - blen y))).toNat IntKind.u64.bits)).fdiv ((2 : Int) ^ min (Int.toNat 32) IntKind.u64.bits) = (l * 2 ^ (64 - n)) % 18446744073709551616 / 4294967296 := by
          rw [f12]
          show ((l * 2 ^ (64 - n)) % 18446744073709551616).fdiv 4294967296 = _
          rw [fdivp _ _ (by decide)]
        have f14 : IntKind.u64.wrap ↑(BitVec.ofInt IntKind.u64.bits (IntKind.u64.wrap (l * 2 ^ min (IntKind.u64.wrap (IntKind.i64.wrap ((64 : Int) - blen y))).toNat IntKind.u64.bits)) &&& BitVec.ofInt IntKind.u64.bits (4294967295 : Int)).toNat = (l * 2 ^ (64 - n)) % 18446744073709551616 % 4294967296 := by
          rw [f12, and_low _ hl64]
        refine And.intro ?_ ?_
        · refine ⟨0, _, _, ⟨64 - n, y * 2 ^ (64 - n), a, h * 2 ^ (64 - n) + l / 2 ^ n, (l * 2 ^ (64 - n)) % 18446744073709551616 / 4294967296, (l * 2 ^ (64 - n)) % 18446744073709551616 % 4294967296, by omega, rfl, eY, pa, hY, ⟨hu0, hu1⟩, by omega, by omega, ?_, rfl, rfl⟩,
            ⟨Nat.zero_le _, Nat.zero_le _, ⟨⟨congrArg u64 yY, rfl⟩, ⟨congrArg u64 es, rfl⟩, ⟨congrArg u64 f9, rfl⟩, ⟨congrArg u64 f10, rfl⟩, ⟨congrArg u64 f11, rfl⟩, ⟨congrArg u64 f13, rfl⟩, ⟨congrArg u64 f14, rfl⟩, trivial⟩, trivial⟩⟩
          rw [hN]
          generalize (l * 2 ^ (64 - n)) % 18446744073709551616 = z at *
          omega
        · clear es es2 m1 m2 yY f9 f10 f11 f12 f13 f14 hN hl64 hu0 hu1 hc1 hc0 hY eY pa p0
          rintro m sl ob ⟨k, Y, a, u, v1, v0, hk6, hY, eY, pa, hY2, hu, hv1, hv0, hN, rfl, rfl⟩
          obtain ⟨t1, t2, t3, t4, t5, t6, t7, t8, t9, t10⟩ := div_main _ (2 ^ k) y Y a u v1 v0 (Int.pow_pos (by decide)) h3 hY eY hN hu hv1 hv0 pa
          have q1 : IntKind.u64.wrap (u.tdiv a) = u / a := by
            rw [Int.tdiv_eq_ediv_of_nonneg hu.1]
            exact w64id (by omega)
          have d3 := Int.mul_ediv_add_emod u a
          have d1 := Int.emod_nonneg u (show a ≠ 0 by omega)
          have d2 := Int.emod_lt_of_pos u pa
          refine And.intro (show a ≠ 0 by omega) ?_
          refine bcase_f (show decide (IntKind.u64.wrap (u.tdiv a) ≥ 4294967296) = false by rw [q1]; exact decide_eq_false (by omega)) ?_
          refine bcase_f (show (bif false then true else decide (IntKind.u64.wrap (IntKind.u64.wrap (u.tdiv a) * 0) > IntKind.u64.wrap (IntKind.u64.wrap (4294967296 * IntKind.u64.wrap (u - IntKind.u64.wrap (IntKind.u64.wrap (u.tdiv a) * a))) + v1))) = false from ?_) ?_
          · rw [Int.mul_zero]
            refine decide_eq_false ?_
            rw [IntKind.wrap_u64, IntKind.wrap_u64]
            omega
          have f17 : IntKind.u64.wrap (IntKind.u64.wrap (IntKind.u64.wrap (u * 4294967296) + v1) - IntKind.u64.wrap (IntKind.u64.wrap (u.tdiv a) * Y)) = u % a * 4294967296 + v1 := by
            rw [q1, div_r2 u a v1 Y eY pa hY2 hv1 ⟨t7, t8⟩]
          refine And.intro ?_ ?_
          · exact ⟨0, _, _, ⟨k, Y, a, u, v1, v0, hk6, hY, eY, pa, hY2, hu, hv1, hv0, hN, rfl, rfl⟩,
              ⟨Nat.zero_le _, Nat.zero_le _, ⟨⟨rfl, rfl⟩, ⟨rfl, rfl⟩, ⟨rfl, rfl⟩, ⟨rfl, rfl⟩, ⟨rfl, rfl⟩, ⟨congrArg u64 q1, rfl⟩, ⟨congrArg u64 f17, rfl⟩, trivial⟩, trivial⟩⟩
          · clear q1 f17 d1 d2 d3
            clear t1 t2 t3 t4 t5 t6 t7 t8 t9 t10 hY eY pa hY2 hu hv1 hv0 hN hk6 k Y a u v1 v0
            rintro m sl ob ⟨k, Y, a, u, v1, v0, hk6, hY, eY, pa, hY2, hu, hv1, hv0, hN, rfl, rfl⟩
            obtain ⟨t1, t2, t3, t4, t5, t6, t7, t8, t9, t10⟩ := div_main _ (2 ^ k) y Y a u v1 v0 (Int.pow_pos (by decide)) h3 hY eY hN hu hv1 hv0 pa
            generalize u / a = q1 at *
            generalize hw : u % a * 4294967296 + v1 = w at *
            have q0 : IntKind.u64.wrap (w.tdiv a) = w / a := by
              rw [Int.tdiv_eq_ediv_of_nonneg t7]
              exact w64id (by omega)
            have d3 := Int.mul_ediv_add_emod w a
            refine And.intro (show a ≠ 0 by omega) ?_
            refine bcase_f (show decide (IntKind.u64.wrap (w.tdiv a) ≥ 4294967296) = false by rw [q0]; exact decide_eq_false (by omega)) ?_
            refine bcase_f (show (bif false then true else decide (IntKind.u64.wrap (IntKind.u64.wrap (w.tdiv a) * 0) > IntKind.u64.wrap (IntKind.u64.wrap (4294967296 * IntKind.u64.wrap (w - IntKind.u64.wrap (IntKind.u64.wrap (w.tdiv a) * a))) + v0))) = false from ?_) ?_
            · rw [Int.mul_zero]
              refine decide_eq_false ?_
              rw [IntKind.wrap_u64, IntKind.wrap_u64]
              omega
            refine And.intro (show (0 : Int) ≤ ((k : Nat) : Int) by omega) ?_
            have r1 : IntKind.u64.wrap (IntKind.u64.wrap (q1 * 4294967296) + IntKind.u64.wrap (w.tdiv a)) = (h * 18446744073709551616 + l) / y := by
              rw [t1, q0]
              exact div_r1 _ _ ⟨t5, t6⟩ ⟨t9, t10⟩
            have m1 : min ((k : Nat) : Int).toNat IntKind.u64.bits = k := by
              rw [Int.toNat_natCast]
              exact Nat.min_eq_left (show k ≤ 64 by omega)
            have r2 : (IntKind.u64.wrap (IntKind.u64.wrap (IntKind.u64.wrap (w * 4294967296) + v0) - IntKind.u64.wrap (IntKind.u64.wrap (w.tdiv a) * Y))).fdiv ((2 : Int) ^ min ((k : Nat) : Int).toNat IntKind.u64.bits) = (h * 18446744073709551616 + l) % y := by
              rw [m1, t2, fdivp _ _ (Int.le_of_lt (Int.pow_pos (by decide))), q0, div_r2 w a v0 Y eY pa hY2 hv0 ⟨t3, t4⟩]
            rw [← r1, ← r2] at hk
            exact hk
    · cases hg
  · exact hk.elim


end Go.Proofs.YtbolfnkgbjkbjaaGreat.AM
