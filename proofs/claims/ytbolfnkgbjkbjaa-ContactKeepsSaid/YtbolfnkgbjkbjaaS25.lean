/- Contracts, part 25: ContactKeeps. -/
import Derived.Test.YtbolfnkgbjkbjaaS24
set_option linter.unusedVariables false
set_option linter.unusedSimpArgs false
namespace Go.Proofs.Ytbolfnkgbjkbjaa.AM
open Go Go.RowKit
set_option maxRecDepth 100000
theorem sq_le_of_abs {a b : Int} (h1 : -b ≤ a) (h2 : a ≤ b) : a * a ≤ b * b := by
  rcases Int.le_total 0 a with h | h
  · exact Int.mul_le_mul h2 h2 h (by omega)
  · have : (-a) * (-a) ≤ b * b := Int.mul_le_mul (by omega) (by omega) (by omega) (by omega)
    rw [Int.neg_mul_neg] at this
    exact this
theorem tdiv_parts (n : Int) : ∃ q e, n.tdiv 65536 = q ∧ n = 65536 * q + e ∧ -65535 ≤ e ∧ e ≤ 65535 ∧ (0 ≤ n → 0 ≤ q ∧ 0 ≤ e) ∧ (n ≤ 0 → q ≤ 0 ∧ e ≤ 0) := by
  refine ⟨n.tdiv 65536, n.tmod 65536, rfl, (Int.mul_tdiv_add_tmod n 65536).symm, ?_⟩
  have h1 := Int.mul_tdiv_add_tmod n 65536
  rcases Int.le_total 0 n with h | h
  · have h2 := Int.tmod_nonneg 65536 h
    have h3 := Int.tmod_lt_of_pos n (b := 65536) (by decide)
    have h4 : 0 ≤ n.tdiv 65536 := Int.tdiv_nonneg h (by decide)
    refine ⟨by omega, by omega, fun _ => ⟨h4, h2⟩, fun h' => ?_⟩
    have : n = 0 := by omega
    subst this
    simp
  · have h2 : 0 ≤ (-n).tmod 65536 := Int.tmod_nonneg 65536 (by omega)
    have h3 := Int.tmod_lt_of_pos (-n) (b := 65536) (by decide)
    have h4 : 0 ≤ (-n).tdiv 65536 := Int.tdiv_nonneg (by omega) (by decide)
    rw [Int.neg_tmod] at h2 h3
    rw [Int.neg_tdiv] at h4
    refine ⟨by omega, by omega, fun h' => ?_, fun _ => ⟨by omega, by omega⟩⟩
    have : n = 0 := by omega
    subst this
    simp
theorem part_sq (n : Int) : n.tdiv 65536 * n.tdiv 65536 * 4294967296 ≤ n * n := by
  obtain ⟨q, e, h1, h2, h3, h4, h5, h6⟩ := tdiv_parts n
  rw [h1]
  have : (65536 * q) * (65536 * q) ≤ n * n := by
    rcases Int.le_total 0 n with h | h
    · have := h5 h
      exact Int.mul_le_mul (by omega) (by omega) (by omega) (by omega)
    · have := h6 h
      have h7 : (-(65536 * q)) * (-(65536 * q)) ≤ (-n) * (-n) := Int.mul_le_mul (by omega) (by omega) (by omega) (by omega)
      rw [Int.neg_mul_neg, Int.neg_mul_neg] at h7
      exact h7
  have e1 : (65536 * q) * (65536 * q) = q * q * 4294967296 := by grind
  omega
theorem energy_law (ux uy rx ry i j ax ay : Int) (hU : ux * ux + uy * uy ≤ 4294967296) (hj : 65536 * j ≤ ux * rx + uy * ry) (hi0 : 0 ≤ i) (hij : i ≤ j)
    (hax : -ax ≤ rx ∧ rx ≤ ax) (hay : -ay ≤ ry ∧ ry ≤ ay) :
    (ux * i).tdiv 65536 * (ux * i).tdiv 65536 + (uy * i).tdiv 65536 * (uy * i).tdiv 65536 - ((ux * i).tdiv 65536 * rx + (uy * i).tdiv 65536 * ry) ≤ ax + ay := by
  have hx := part_sq (ux * i)
  have hy := part_sq (uy * i)
  obtain ⟨px, ex, h1, h2, h3, h4, _, _⟩ := tdiv_parts (ux * i)
  obtain ⟨py, ey, g1, g2, g3, g4, _, _⟩ := tdiv_parts (uy * i)
  rw [h1] at hx ⊢
  rw [g1] at hy ⊢
  have hU' : (ux * ux + uy * uy) * (i * i) ≤ 4294967296 * (i * i) := Int.mul_le_mul_of_nonneg_right hU (Int.mul_nonneg hi0 hi0)
  have e1 : (ux * ux + uy * uy) * (i * i) = ux * i * (ux * i) + uy * i * (uy * i) := by grind
  have hpp : px * px + py * py ≤ i * i := by omega
  have e2 : 65536 * (px * rx + py * ry) = i * (ux * rx + uy * ry) - (ex * rx + ey * ry) := by
    have : 65536 * (px * rx + py * ry) = (65536 * px) * rx + (65536 * py) * ry := by grind
    rw [this]
    have hp : 65536 * px = ux * i - ex := by omega
    have hq : 65536 * py = uy * i - ey := by omega
    rw [hp, hq]
    grind
  have h5 : i * (65536 * j) ≤ i * (ux * rx + uy * ry) := Int.mul_le_mul_of_nonneg_left hj hi0
  have h6 : i * i ≤ i * j := Int.mul_le_mul_of_nonneg_left hij hi0
  have e3 : i * (65536 * j) = 65536 * (i * j) := by grind
  have bnd : ∀ e r a : Int, -65535 ≤ e → e ≤ 65535 → -a ≤ r → r ≤ a → e * r ≤ 65535 * a := by
    intro e r a he1 he2 hr1 hr2
    have ha : 0 ≤ a := by omega
    rcases Int.le_total 0 r with h | h
    · have : e * r ≤ 65535 * r := Int.mul_le_mul_of_nonneg_right he2 h
      omega
    · have : (-e) * (-r) ≤ 65535 * (-r) := Int.mul_le_mul_of_nonneg_right (by omega) (by omega)
      rw [Int.neg_mul_neg] at this
      omega
  have b1 := bnd ex rx ax h3 h4 hax.1 hax.2
  have b2 := bnd ey ry ay g3 g4 hay.1 hay.2
  omega

theorem shGo_sq (x s : Int) : ∀ (k n : Nat), (n : Int) * (n : Int) * s ≤ 4294967296 * (x * x) → (shGo x s k n : Int) * (shGo x s k n : Int) * s ≤ 4294967296 * (x * x)
  | 0, n, h => h
  | k + 1, n, h => by
    rw [shGo_succ]
    split
    · rename_i h2
      exact shGo_sq x s k _ h2.2
    · exact shGo_sq x s k _ h
theorem shareS_sq (x s : Int) : shareS x s * shareS x s * s ≤ 4294967296 * (x * x) := by
  have hx : (x.natAbs : Int) * (x.natAbs : Int) = x * x := Int.natAbs_mul_self' x
  have h0 : (0 : Int) ≤ 4294967296 * (x * x) := by rw [← hx]; exact Int.mul_nonneg (by decide) (Int.mul_nonneg (by omega) (by omega))
  have h := shGo_sq x.natAbs s 17 0 (by rw [hx]; simpa using h0)
  rw [hx] at h
  unfold shareS
  split
  · rw [Int.neg_mul_neg]; exact h
  · exact h
theorem unit_sq (dx dy : Int) (h : 0 < dx * dx + dy * dy) : unitX dx dy * unitX dx dy + unitY dx dy * unitY dx dy ≤ 4294967296 := by
  have h1 := shareS_sq dx (dx * dx + dy * dy)
  have h2 := shareS_sq dy (dx * dx + dy * dy)
  unfold unitX unitY
  generalize shareS dx (dx * dx + dy * dy) = u at *
  generalize shareS dy (dx * dx + dy * dy) = v at *
  have h3 : (u * u + v * v) * (dx * dx + dy * dy) ≤ 4294967296 * (dx * dx + dy * dy) := by
    have e : (u * u + v * v) * (dx * dx + dy * dy) = u * u * (dx * dx + dy * dy) + v * v * (dx * dx + dy * dy) := Int.add_mul _ _ _
    rw [e]
    omega
  exact Int.le_of_mul_le_mul_right h3 h
theorem pushI_le (j el : Int) (hj : 0 ≤ j) (hl : 0 ≤ el ∧ el ≤ 1000) : 0 ≤ pushI j el ∧ pushI j el ≤ j := by
  unfold pushI
  have h0 : 0 ≤ j * (1000 + el) := Int.mul_nonneg hj (by omega)
  have h1 : j * (1000 + el) ≤ j * 2000 := Int.mul_le_mul_of_nonneg_left (by omega) hj
  rw [Int.tdiv_eq_ediv_of_nonneg h0]
  omega
/-- What a contact does to the energy. -/
theorem push_energy (dx dy sx sy ux uy el : Int) (h : 0 < dx * dx + dy * dy) (hl : 0 ≤ el ∧ el ≤ 1000) (hj : 0 < closeJ dx dy (sx - ux) (sy - uy)) (px py : Int) (hx : pushX dx dy (sx - ux) (sy - uy) el = px) (hy : pushY dx dy (sx - ux) (sy - uy) el = py) :
    (sx + -px) * (sx + -px) + (sy + -py) * (sy + -py) + (ux + px) * (ux + px) + (uy + py) * (uy + py) ≤ sx * sx + sy * sy + ux * ux + uy * uy + 2 * (((sx - ux).natAbs : Int) + ((sy - uy).natAbs : Int)) := by
  have hU := unit_sq dx dy h
  have hi := pushI_le (closeJ dx dy (sx - ux) (sy - uy)) el (by omega) hl
  have hj2 : 65536 * closeJ dx dy (sx - ux) (sy - uy) ≤ unitX dx dy * (sx - ux) + unitY dx dy * (sy - uy) := by
    unfold closeJ
    rw [Int.mul_comm (unitX dx dy), Int.mul_comm (unitY dx dy)]
    omega
  have e := energy_law (unitX dx dy) (unitY dx dy) (sx - ux) (sy - uy) (pushI (closeJ dx dy (sx - ux) (sy - uy)) el) (closeJ dx dy (sx - ux) (sy - uy)) ((sx - ux).natAbs) ((sy - uy).natAbs) hU hj2 hi.1 hi.2 (by omega) (by omega)
  change pushX dx dy (sx - ux) (sy - uy) el * pushX dx dy (sx - ux) (sy - uy) el + pushY dx dy (sx - ux) (sy - uy) el * pushY dx dy (sx - ux) (sy - uy) el - (pushX dx dy (sx - ux) (sy - uy) el * (sx - ux) + pushY dx dy (sx - ux) (sy - uy) el * (sy - uy)) ≤ _ at e
  rw [hx, hy] at e
  have e2 : (sx + -px) * (sx + -px) + (sy + -py) * (sy + -py) + (ux + px) * (ux + px) + (uy + py) * (uy + py) = sx * sx + sy * sy + ux * ux + uy * uy + 2 * (px * px + py * py - (px * (sx - ux) + py * (sy - uy))) := by grind
  rw [e2]
  omega
/-- How a contact may end. -/
theorem meetT_cases (a b : Bd) (el : Int) : (∃ e, meetT a b el = (bdZero, bdZero, false, e) ∧ e ≠ 0) ∨ meetT a b el = (a, b, false, 0) ∨
    (bdOk a ∧ bdOk b ∧ (0 ≤ el ∧ el ≤ 1000) ∧ bdTouch a b ∧ ∃ j px py, closeJ (b.2.2.1 - a.2.2.1) (b.2.2.2.1 - a.2.2.2.1) (a.2.2.2.2.1 - b.2.2.2.2.1) (a.2.2.2.2.2.1 - b.2.2.2.2.2.1) = j ∧
      pushX (b.2.2.1 - a.2.2.1) (b.2.2.2.1 - a.2.2.2.1) (a.2.2.2.2.1 - b.2.2.2.2.1) (a.2.2.2.2.2.1 - b.2.2.2.2.2.1) el = px ∧ pushY (b.2.2.1 - a.2.2.1) (b.2.2.2.1 - a.2.2.2.1) (a.2.2.2.2.1 - b.2.2.2.2.1) (a.2.2.2.2.2.1 - b.2.2.2.2.2.1) el = py ∧
      0 < j ∧ bdOk (bdPush a (-px) (-py)) ∧ bdOk (bdPush b px py) ∧ meetT a b el = (bdPush a (-px) (-py), bdPush b px py, true, 0)) := by
  by_cases ha : bdOk a
  · by_cases hb : bdOk b
    · by_cases hl : 0 ≤ el ∧ el ≤ 1000
      · by_cases ht : bdTouch a b
        · have e := meetT_near a b el ha hb hl ht
          have e2 := meetB_eq a b el _ _ _ rfl rfl rfl
          by_cases hj : closeJ (b.2.2.1 - a.2.2.1) (b.2.2.2.1 - a.2.2.2.1) (a.2.2.2.2.1 - b.2.2.2.2.1) (a.2.2.2.2.2.1 - b.2.2.2.2.2.1) ≤ 0
          · rw [if_pos hj] at e2
            rw [e2] at e
            exact .inr (.inl e)
          · rw [if_neg hj] at e2
            split at e2
            · rw [e2] at e
              exact .inl ⟨4, e, by decide⟩
            · split at e2
              · rw [e2] at e
                exact .inl ⟨4, e, by decide⟩
              · rename_i h1 h2
                rw [e2] at e
                exact .inr (.inr ⟨ha, hb, hl, ht, _, _, _, rfl, rfl, rfl, by omega, Decidable.of_not_not h1, Decidable.of_not_not h2, e⟩)
        · exact .inr (.inl (meetT_far a b el ha hb hl ht))
      · exact .inl ⟨2, meetT_l a b el hl, by decide⟩
    · exact .inl ⟨2, meetT_b a b el hb, by decide⟩
  · exact .inl ⟨2, meetT_a a b el ha, by decide⟩
theorem mostE (r q : Int) (hr : -131072000 ≤ r ∧ r ≤ 131072000) (hq : -131072000 ≤ q ∧ q ≤ 131072000) : IntKind.u64.wrap (IntKind.i64.wrap (IntKind.i64.wrap (4 * IntKind.i64.wrap ((if IntKind.i64.wrap (0 - IntKind.i64.wrap r) > IntKind.i64.wrap r then IntKind.i64.wrap (0 - IntKind.i64.wrap r) else IntKind.i64.wrap r) +
    if IntKind.i64.wrap (0 - IntKind.i64.wrap q) > IntKind.i64.wrap q then IntKind.i64.wrap (0 - IntKind.i64.wrap q) else IntKind.i64.wrap q)) + 8)) = 4 * ((r.natAbs : Int) + (q.natAbs : Int)) + 8 := by
  rw [IntWalk.i64_in r (by omega), IntWalk.i64_in q (by omega), IntWalk.i64_in (0 - r) (by omega), IntWalk.i64_in (0 - q) (by omega)]
  have e1 : (if 0 - r > r then 0 - r else r) = (r.natAbs : Int) := by split <;> omega
  have e2 : (if 0 - q > q then 0 - q else q) = (q.natAbs : Int) := by split <;> omega
  rw [e1, e2, IntWalk.i64_in ((r.natAbs : Int) + (q.natAbs : Int)) (by omega), IntWalk.i64_in (4 * ((r.natAbs : Int) + (q.natAbs : Int))) (by omega), IntWalk.i64_in _ (by omega), w64id (by omega)]

def T25_0 : Tab := T22a.add 5 (liftA (ofD g5))
def T25_1 : Tab := T25_0.add 6 (absT .all (liftA (ofD g6)))
def T25_2 : Tab := T25_1.add 7 (absT (.l [.no, .all]) (liftA (ofD g7)))
def T25 : Tab := T25_2.add 8 (absT .all (liftA (ofD g8)))
theorem T25_0_ok : TabOk Try.prog T25_0 := T22a_ok.add (entry_of_fresh r5)
theorem T25_1_ok : TabOk Try.prog T25_1 := T25_0_ok.add (absT_ok .all (entry_of_fresh r6))
theorem T25_2_ok : TabOk Try.prog T25_2 := T25_1_ok.add (absT_ok (.l [.no, .all]) (entry_of_fresh r7))
theorem T25_ok : TabOk Try.prog T25 := T25_2_ok.add (absT_ok .all (entry_of_fresh r8))
/-- besomlaw05.ContactKeeps -/
def g3 : GSpec := fun args obs => match args, obs with
  | [.agg [.int .i64 t1, .int .i64 n1, .int .i64 ax, .int .i64 ay, .int .i64 sx, .int .i64 sy, .int .i64 sp, .bool o1], .agg [.int .i64 t2, .int .i64 n2, .int .i64 bx, .int .i64 cy, .int .i64 ux, .int .i64 uy, .int .i64 up, .bool o2], .int .i64 el], [] => some (True, .ret (.bool true), [])
  | _, _ => none
theorem k3 (t1 n1 ax ay sx sy sp : Int) (o1 : Bool) (t2 n2 bx cy ux uy up : Int) (o2 : Bool) (el : Int) (K' : Out → List Ob → Prop) : runFn (T25) (noD) noIv a3 [.agg [.int .i64 t1, .int .i64 n1, .int .i64 ax, .int .i64 ay, .int .i64 sx, .int .i64 sy, .int .i64 sp, .bool o1], .agg [.int .i64 t2, .int .i64 n2, .int .i64 bx, .int .i64 cy, .int .i64 ux, .int .i64 uy, .int .i64 up, .bool o2], .int .i64 el] (lookO []) 0 (closeK K') =
    ((True) ∧
    (True) ∧
    (True) ∧
    (True) ∧
    ((True ∧ True ∧ True ∧ True ∧ True ∧ True ∧ True ∧ True ∧ True) ∧
  (True ∧ True ∧ True ∧ True ∧ True ∧ True ∧ True ∧ True ∧ True) ∧ True ∧ True) ∧
    (True) ∧
    (∀ (z0 : Int),
    ((z0 = (meetT (t1, n1, ax, ay, sx, sy, sp, o1) (t2, n2, bx, cy, ux, uy, up, o2) el).fst.fst) →
    (∀ (z2 : Int),
    ((z2 = (meetT (t1, n1, ax, ay, sx, sy, sp, o1) (t2, n2, bx, cy, ux, uy, up, o2) el).fst.snd.fst) →
    (∀ (z4 : Int),
    ((z4 = (meetT (t1, n1, ax, ay, sx, sy, sp, o1) (t2, n2, bx, cy, ux, uy, up, o2) el).fst.snd.snd.fst) →
    (∀ (z6 : Int),
    ((z6 = (meetT (t1, n1, ax, ay, sx, sy, sp, o1) (t2, n2, bx, cy, ux, uy, up, o2) el).fst.snd.snd.snd.fst) →
    (∀ (z8 : Int),
    ((z8 = (meetT (t1, n1, ax, ay, sx, sy, sp, o1) (t2, n2, bx, cy, ux, uy, up, o2) el).fst.snd.snd.snd.snd.fst) →
    (∀ (z10 : Int),
    ((z10 = (meetT (t1, n1, ax, ay, sx, sy, sp, o1) (t2, n2, bx, cy, ux, uy, up, o2) el).fst.snd.snd.snd.snd.snd.fst) →
    (∀ (z12 : Int),
    ((z12 = (meetT (t1, n1, ax, ay, sx, sy, sp, o1) (t2, n2, bx, cy, ux, uy, up, o2) el).fst.snd.snd.snd.snd.snd.snd.fst) →
    (∀ (z14 : Bool),
    ((z14 = (meetT (t1, n1, ax, ay, sx, sy, sp, o1) (t2, n2, bx, cy, ux, uy, up, o2) el).fst.snd.snd.snd.snd.snd.snd.snd) →
    (∀ (z16 : Int),
    ((z16 = (meetT (t1, n1, ax, ay, sx, sy, sp, o1) (t2, n2, bx, cy, ux, uy, up, o2) el).snd.fst.fst) →
    (∀ (z18 : Int),
    ((z18 = (meetT (t1, n1, ax, ay, sx, sy, sp, o1) (t2, n2, bx, cy, ux, uy, up, o2) el).snd.fst.snd.fst) →
    (∀ (z20 : Int),
    ((z20 = (meetT (t1, n1, ax, ay, sx, sy, sp, o1) (t2, n2, bx, cy, ux, uy, up, o2) el).snd.fst.snd.snd.fst) →
    (∀ (z22 : Int),
    ((z22 = (meetT (t1, n1, ax, ay, sx, sy, sp, o1) (t2, n2, bx, cy, ux, uy, up, o2) el).snd.fst.snd.snd.snd.fst) →
    (∀ (z24 : Int),
    ((z24 = (meetT (t1, n1, ax, ay, sx, sy, sp, o1) (t2, n2, bx, cy, ux, uy, up, o2) el).snd.fst.snd.snd.snd.snd.fst) →
    (∀ (z26 : Int),
    ((z26 = (meetT (t1, n1, ax, ay, sx, sy, sp, o1) (t2, n2, bx, cy, ux, uy, up, o2) el).snd.fst.snd.snd.snd.snd.snd.fst) →
    (∀ (z28 : Int),
    ((z28 = (meetT (t1, n1, ax, ay, sx, sy, sp, o1) (t2, n2, bx, cy, ux, uy, up, o2) el).snd.fst.snd.snd.snd.snd.snd.snd.fst) →
    (∀ (z30 : Bool),
    ((z30 = (meetT (t1, n1, ax, ay, sx, sy, sp, o1) (t2, n2, bx, cy, ux, uy, up, o2) el).snd.fst.snd.snd.snd.snd.snd.snd.snd) →
    (∀ (z32 : Bool),
    ((z32 = (meetT (t1, n1, ax, ay, sx, sy, sp, o1) (t2, n2, bx, cy, ux, uy, up, o2) el).snd.snd.fst) →
    (∀ (z34 : Int),
    ((z34 = (meetT (t1, n1, ax, ay, sx, sy, sp, o1) (t2, n2, bx, cy, ux, uy, up, o2) el).snd.snd.snd) →
    (True) ∧
    (True) ∧
    (True) ∧
    (True) ∧
    bcase (z34 != (0 : Int))
     (bcase (bif true then
  z0 == (0 : Int) &&
    (z2 == (0 : Int) &&
      (z4 == (0 : Int) &&
        (z6 == (0 : Int) && (z8 == (0 : Int) && (z10 == (0 : Int) && (z12 == (0 : Int) && (z14 == false && true)))))))
  else false)
      (bcase (bif true then
  z16 == (0 : Int) &&
    (z18 == (0 : Int) &&
      (z20 == (0 : Int) &&
        (z22 == (0 : Int) && (z24 == (0 : Int) && (z26 == (0 : Int) && (z28 == (0 : Int) && (z30 == false && true)))))))
  else false)
       (K' (Out.ret (V.bool (bif true then !z32 else false))) [])
       (K' (Out.ret (V.bool false)) []))
      (K' (Out.ret (V.bool false)) []))
     (bcase (!z32)
      (bcase (bif true then
  z0 == t1 && (z2 == n1 && (z4 == ax && (z6 == ay && (z8 == sx && (z10 == sy && (z12 == sp && (z14 == o1 && true)))))))
  else false)
       (K'
  (Out.ret
    (V.bool
      (bif true then
        z16 == t2 &&
          (z18 == n2 && (z20 == bx && (z22 == cy && (z24 == ux && (z26 == uy && (z28 == up && (z30 == o2 && true)))))))
      else false)))
  [])
       (K' (Out.ret (V.bool false)) []))
      ((True) ∧
      (True) ∧
      (True) ∧
      (True) ∧
      (True) ∧
      (True) ∧
      bcase (!(z0 == t1 && (z2 == n1 && (z4 == ax && (z6 == ay && (sx == sx && (sy == sy && (z12 == sp && (z14 == o1 && true)))))))))
       (K' (Out.ret (V.bool false)) [])
       (bcase (bif false then true
  else
  !(z16 == t2 &&
      (z18 == n2 && (z20 == bx && (z22 == cy && (ux == ux && (uy == uy && (z28 == up && (z30 == o2 && true)))))))))
        (K' (Out.ret (V.bool false)) [])
        (bcase (bif false then true else IntKind.i64.wrap (z8 + z24) != IntKind.i64.wrap (sx + ux))
         (K' (Out.ret (V.bool false)) [])
         (bcase (bif false then true else IntKind.i64.wrap (z10 + z26) != IntKind.i64.wrap (sy + uy))
          (K' (Out.ret (V.bool false)) [])
          ((True) ∧
          (True) ∧
          ((True ∧ True ∧ True ∧ True ∧ True ∧ True ∧ True ∧ True ∧ True) ∧
  (True ∧ True ∧ True ∧ True ∧ True ∧ True ∧ True ∧ True ∧ True) ∧ True) ∧
          ((((-65536000 : Int) ≤ sx ∧ sx ≤ (65536000 : Int)) ∧ (-65536000 : Int) ≤ sy ∧ sy ≤ (65536000 : Int)) ∧
  ((-65536000 : Int) ≤ ux ∧ ux ≤ (65536000 : Int)) ∧ (-65536000 : Int) ≤ uy ∧ uy ≤ (65536000 : Int)) ∧
          (∀ (z36 : Int),
          ((z36 = sx * sx + sy * sy + ux * ux + uy * uy) →
          (True ∧ True ∧ True ∧ True) ∧
          ((0 : Int) ≤ z36 ∧
  (0 : Int) ≤
      IntKind.u64.wrap
        (IntKind.i64.wrap
          (IntKind.i64.wrap
              ((4 : Int) *
                IntKind.i64.wrap
                  ((if IntKind.i64.wrap ((0 : Int) - IntKind.i64.wrap (sx - ux)) > IntKind.i64.wrap (sx - ux) then
                      IntKind.i64.wrap ((0 : Int) - IntKind.i64.wrap (sx - ux))
                    else IntKind.i64.wrap (sx - ux)) +
                    if IntKind.i64.wrap ((0 : Int) - IntKind.i64.wrap (sy - uy)) > IntKind.i64.wrap (sy - uy) then
                      IntKind.i64.wrap ((0 : Int) - IntKind.i64.wrap (sy - uy))
                    else IntKind.i64.wrap (sy - uy))) +
            (8 : Int))) ∧
    (0 : Int) ≤ (0 : Int) ∧ (0 : Int) ≤ (1 : Int)) ∧
          (∀ (z38 : Int),
          ((z38 =
  (z36 +
        IntKind.u64.wrap
          (IntKind.i64.wrap
            (IntKind.i64.wrap
                ((4 : Int) *
                  IntKind.i64.wrap
                    ((if IntKind.i64.wrap ((0 : Int) - IntKind.i64.wrap (sx - ux)) > IntKind.i64.wrap (sx - ux) then
                        IntKind.i64.wrap ((0 : Int) - IntKind.i64.wrap (sx - ux))
                      else IntKind.i64.wrap (sx - ux)) +
                      if IntKind.i64.wrap ((0 : Int) - IntKind.i64.wrap (sy - uy)) > IntKind.i64.wrap (sy - uy) then
                        IntKind.i64.wrap ((0 : Int) - IntKind.i64.wrap (sy - uy))
                      else IntKind.i64.wrap (sy - uy))) +
              (8 : Int))) +
      (0 : Int)) %
    (18446744073709551616 : Int)) →
          (∀ (z40 : Int),
          ((z40 =
  (z36 +
        IntKind.u64.wrap
          (IntKind.i64.wrap
            (IntKind.i64.wrap
                ((4 : Int) *
                  IntKind.i64.wrap
                    ((if IntKind.i64.wrap ((0 : Int) - IntKind.i64.wrap (sx - ux)) > IntKind.i64.wrap (sx - ux) then
                        IntKind.i64.wrap ((0 : Int) - IntKind.i64.wrap (sx - ux))
                      else IntKind.i64.wrap (sx - ux)) +
                      if IntKind.i64.wrap ((0 : Int) - IntKind.i64.wrap (sy - uy)) > IntKind.i64.wrap (sy - uy) then
                        IntKind.i64.wrap ((0 : Int) - IntKind.i64.wrap (sy - uy))
                      else IntKind.i64.wrap (sy - uy))) +
              (8 : Int))) +
      (0 : Int)) /
    (18446744073709551616 : Int)) →
          ((True ∧ True ∧ True ∧ True ∧ True ∧ True ∧ True ∧ True ∧ True) ∧
  (True ∧ True ∧ True ∧ True ∧ True ∧ True ∧ True ∧ True ∧ True) ∧ True) ∧
          ((((-65536000 : Int) ≤ z8 ∧ z8 ≤ (65536000 : Int)) ∧ (-65536000 : Int) ≤ z10 ∧ z10 ≤ (65536000 : Int)) ∧
  ((-65536000 : Int) ≤ z24 ∧ z24 ≤ (65536000 : Int)) ∧ (-65536000 : Int) ≤ z26 ∧ z26 ≤ (65536000 : Int)) ∧
          (∀ (z42 : Int),
          ((z42 = z8 * z8 + z10 * z10 + z24 * z24 + z26 * z26) →
          bcase (decide ((0 : Int) < IntKind.u64.wrap ((0 : Int) + z40)))
           (False)
           (bcase ((0 : Int) == IntKind.u64.wrap ((0 : Int) + z40))
            (K' (Out.ret (V.bool (bif true then bif false then true else bif true then decide (z42 ≤ z38) else false else false))) [])
            (K' (Out.ret (V.bool (bif true then bif false then true else false else false))) []))))))))))))))))))))))))))))))))))))))))))))))))))))) := by kernel_rfl
theorem r3 : FreshOk Try.prog 3 (ofD g3) := by
  refine fresh_of_run T25_ok (noD_ok _) (fun _ _ => noIv) Try.func3 c3 fun args obs K' hk => ?_
  unfold ofD g3 at hk
  split at hk
  · rename_i d_ out news hg
    split at hg
    · rename_i t1 n1 ax ay sx sy sp o1 t2 n2 bx cy ux uy up o2 el
      cases hg
      obtain ⟨hc, hk⟩ := hk
      refine Eq.mpr (k3 t1 n1 ax ay sx sy sp o1 t2 n2 bx cy ux uy up o2 el K') ⟨trivial, trivial, trivial, trivial, ⟨⟨trivial, ⟨trivial, ⟨trivial, ⟨trivial, ⟨trivial, ⟨trivial, ⟨trivial, ⟨trivial, trivial⟩⟩⟩⟩⟩⟩⟩⟩, ⟨⟨trivial, ⟨trivial, ⟨trivial, ⟨trivial, ⟨trivial, ⟨trivial, ⟨trivial, ⟨trivial, trivial⟩⟩⟩⟩⟩⟩⟩⟩, ⟨trivial, trivial⟩⟩⟩, trivial, ?_⟩
      · rcases meetT_cases (t1, n1, ax, ay, sx, sy, sp, o1) (t2, n2, bx, cy, ux, uy, up, o2) el with ⟨e, h, he⟩ | h | ⟨ha, hb, hl, ht, j, px, py, ej, epx, epy, hj, hp1, hp2, h⟩
        · rw [h]
          dsimp only [bdZero]
          intro z0 e0
          subst z0
          intro z2 e2
          subst z2
          intro z4 e4
          subst z4
          intro z6 e6
          subst z6
          intro z8 e8
          subst z8
          intro z10 e10
          subst z10
          intro z12 e12
          subst z12
          intro z14 e14
          subst z14
          intro z16 e16
          subst z16
          intro z18 e18
          subst z18
          intro z20 e20
          subst z20
          intro z22 e22
          subst z22
          intro z24 e24
          subst z24
          intro z26 e26
          subst z26
          intro z28 e28
          subst z28
          intro z30 e30
          subst z30
          intro z32 e32
          subst z32
          intro z34 e34
          subst z34
          repeat refine And.intro True.intro ?_
          exact bcase_t (bne_iff_ne.2 he) (bcase_t rfl (bcase_t rfl hk))
        · rw [h]
          dsimp only
          intro z0 e0
          subst z0
          intro z2 e2
          subst z2
          intro z4 e4
          subst z4
          intro z6 e6
          subst z6
          intro z8 e8
          subst z8
          intro z10 e10
          subst z10
          intro z12 e12
          subst z12
          intro z14 e14
          subst z14
          intro z16 e16
          subst z16
          intro z18 e18
          subst z18
          intro z20 e20
          subst z20
          intro z22 e22
          subst z22
          intro z24 e24
          subst z24
          intro z26 e26
          subst z26
          intro z28 e28
          subst z28
          intro z30 e30
          subst z30
          intro z32 e32
          subst z32
          intro z34 e34
          subst z34
          repeat refine And.intro True.intro ?_
          exact bcase_f rfl (bcase_t rfl (bcase_t (by simp) (lfb hk (by simp))))
        · rw [h]
          dsimp only [bdPush] at hp1 hp2 ej epx epy ht ha hb ⊢
          intro z0 e0
          subst z0
          intro z2 e2
          subst z2
          intro z4 e4
          subst z4
          intro z6 e6
          subst z6
          intro z8 e8
          subst z8
          intro z10 e10
          subst z10
          intro z12 e12
          subst z12
          intro z14 e14
          subst z14
          intro z16 e16
          subst z16
          intro z18 e18
          subst z18
          intro z20 e20
          subst z20
          intro z22 e22
          subst z22
          intro z24 e24
          subst z24
          intro z26 e26
          subst z26
          intro z28 e28
          subst z28
          intro z30 e30
          subst z30
          intro z32 e32
          subst z32
          intro z34 e34
          subst z34
          repeat refine And.intro True.intro ?_
          have e1 : sx + -px + (ux + px) = sx + ux := by omega
          have e2 : sy + -py + (uy + py) = sy + uy := by omega
          refine bcase_f (by simp) (bcase_f (by simp) (bcase_f (by rw [e1]; simp) (bcase_f (by rw [e2]; simp) ?_)))
          have hs : ((-65536000 ≤ sx ∧ sx ≤ 65536000) ∧ -65536000 ≤ sy ∧ sy ≤ 65536000) ∧ (-65536000 ≤ ux ∧ ux ≤ 65536000) ∧ -65536000 ≤ uy ∧ uy ≤ 65536000 := ⟨ha.2.2.2.1, hb.2.2.2.1⟩
          have hs2 : ((-65536000 ≤ sx + -px ∧ sx + -px ≤ 65536000) ∧ -65536000 ≤ sy + -py ∧ sy + -py ≤ 65536000) ∧ (-65536000 ≤ ux + px ∧ ux + px ≤ 65536000) ∧ -65536000 ≤ uy + py ∧ uy + py ≤ 65536000 := ⟨hp1.2.2.2.1, hp2.2.2.2.1⟩
          have hM := mostE (sx - ux) (sy - uy) (by omega) (by omega)
          simp only [hM]
          have hE := push_energy (bx - ax) (cy - ay) sx sy ux uy el (sum_sq_pos _ _ ht.2.2) hl (by rw [ej]; exact hj) px py epx epy
          have q1 := mul_bnd sx sx 65536000 65536000 hs.1.1 hs.1.1
          have q2 := mul_bnd sy sy 65536000 65536000 hs.1.2 hs.1.2
          have q3 := mul_bnd ux ux 65536000 65536000 hs.2.1 hs.2.1
          have q4 := mul_bnd uy uy 65536000 65536000 hs.2.2 hs.2.2
          rw [Int.natAbs_mul_self'] at q1 q2 q3 q4
          repeat refine And.intro True.intro ?_
          refine And.intro ⟨⟨trivial, trivial, trivial, trivial, trivial, trivial, trivial, trivial, trivial⟩, ⟨trivial, trivial, trivial, trivial, trivial, trivial, trivial, trivial, trivial⟩, trivial⟩ (And.intro hs ?_)
          intro z36 e36
          refine And.intro ⟨trivial, trivial, trivial, trivial⟩ (And.intro (by omega) ?_)
          intro z38 e38 z40 e40
          refine And.intro ⟨⟨trivial, trivial, trivial, trivial, trivial, trivial, trivial, trivial, trivial⟩, ⟨trivial, trivial, trivial, trivial, trivial, trivial, trivial, trivial, trivial⟩, trivial⟩ (And.intro hs2 ?_)
          intro z42 e42
          rw [← e42, ← e36] at hE
          have r40 : z40 = 0 := by omega
          have r38 : z42 ≤ z38 := by omega
          subst r40
          refine bcase_f rfl (bcase_t rfl ?_)
          exact lfb hk (by simp [r38])
    · cases hg
  · exact hk.elim

end Go.Proofs.Ytbolfnkgbjkbjaa.AM
