/- The abstract machine, part 8: struct equality; all operations; lists of operations; code. -/
import Derived.Test.YtbolfnkgbjkbjaaGreatAm7
import Derived.ChangeKeysEq
import Derived.MapKept
import Derived.WideKeyRuns
set_option linter.unusedVariables false
set_option linter.unusedSimpArgs false
namespace Go.Proofs.YtbolfnkgbjkbjaaGreat.AM
open Go Go.RowKit
section
variable {P : Program} {N B : Nat} {ρ : Nat → Bnd} {s : S} {a : Act} {w : World} {K : S → Prop} {o : Oper}
theorem eqL_len : ∀ (ks : ET) (xs ys : List V) (b : Bool), eqL ks xs ys = some b → xs.length = ks.length ∧ ys.length = ks.length
  | [], [], [], _, _ => ⟨rfl, rfl⟩
  | k :: ks, x :: xs, y :: ys, b, h => by
    have : ∃ r, eqL ks xs ys = some r := by
      cases k <;> cases x <;> cases y <;> simp only [eqL] at h <;> first | (cases h; done) | skip
      · split at h
        · rename_i r _ hr; exact ⟨r, hr⟩
        · cases h
      · split at h
        · rename_i r hr; exact ⟨r, hr⟩
        · cases h
    obtain ⟨r, hr⟩ := this
    have := eqL_len ks xs ys r hr
    simp [this.1, this.2]
  | [], _ :: _, _, _, h => by simp [eqL] at h
  | [], [], _ :: _, _, h => by simp [eqL] at h
  | _ :: _, [], _, _, h => by simp [eqL] at h
  | _ :: _, _ :: _, [], _, h => by simp [eqL] at h
theorem eqL_split : ∀ (k1 k2 : ET) (cs ds : List V) (b : Bool), eqL (k1 ++ k2) cs ds = some b →
    ∃ b1 b2, eqL k1 (cs.take k1.length) (ds.take k1.length) = some b1 ∧ eqL k2 (cs.drop k1.length) (ds.drop k1.length) = some b2 ∧ b = (b1 && b2)
  | [], k2, cs, ds, b, h => ⟨true, b, rfl, h, by simp⟩
  | k :: k1, k2, [], ds, b, h => by simp [eqL] at h
  | k :: k1, k2, _ :: _, [], b, h => by simp [eqL] at h
  | k :: k1, k2, c :: cs, d :: ds, b, h => by
    simp only [List.cons_append] at h
    have step : ∃ e r, eqL (k1 ++ k2) cs ds = some r ∧ b = (e && r) ∧ ∀ ks xs ys r, eqL ks xs ys = some r → eqL (k :: ks) (c :: xs) (d :: ys) = some (e && r) := by
      cases k <;> cases c <;> cases d <;> simp only [eqL] at h <;> first | (cases h; done) | skip
      · rename_i k k1 a k2 a'
        split at h
        · rename_i r hk hr
          refine ⟨a == a', r, hr, by simpa using h.symm, fun ks xs ys r hr => ?_⟩
          simp only [eqL, hk, hr]
        · cases h
      · rename_i a a'
        split at h
        · rename_i r hr
          refine ⟨a == a', r, hr, by simpa using h.symm, fun ks xs ys r hr => ?_⟩
          simp only [eqL, hr]
        · cases h
    obtain ⟨e, r, hr, rfl, hst⟩ := step
    obtain ⟨b1, b2, e1, e2, rfl⟩ := eqL_split k1 k2 cs ds r hr
    refine ⟨e && b1, b2, ?_, by simpa using e2, by rw [Bool.and_assoc]⟩
    simp only [List.length_cons, List.take_succ_cons]
    exact hst _ _ _ _ e1
def valOf (P : Program) (t : TypeId) (xs : List Value) : Value := match aggOf P t with
  | some true => .agg xs.toArray
  | _ => xs.headD undef
theorem aggOf_struct {t : TypeId} {fs : Array Field} (h : P.underlying t = some (.struct fs)) : aggOf P t = some true := by simp [aggOf, h]
theorem part_val {t : TypeId} {xs : Array Value} {off m : Nat} {w : World} (hsz : szOf P t = some m) (hag : aggOf P t = some true ∨ (aggOf P t = some false ∧ m = 1)) (hle : m = 0 ∨ off + m ≤ xs.size) :
    (part t xs off).run P w = .ok (valOf P t ((xs.toList.drop off).take m)) w := by
  unfold szOf at hsz
  simp only [Option.map_eq_some_iff] at hsz
  obtain ⟨i, hi, hin⟩ := hsz
  rcases hag with hag | ⟨hag, rfl⟩
  · have hagg : (isAgg t).run P w = .ok true w := by
      have h2 := hag
      unfold aggOf at h2
      split at h2
      · rename_i fs hu; simp [isAgg, run_underlying hu]
      · rename_i m e hu; simp [isAgg, run_underlying hu]
      · simp at h2
      · simp at h2
    simp [part, hagg, sizeOf, typeInfo, hi, hin, valOf, hag]
    apply Array.ext'
    simp [Array.toList_extract, List.extract_eq_take_drop]
  · have hagg : (isAgg t).run P w = .ok false w := by
      have h2 := hag
      unfold aggOf at h2
      split at h2
      · simp at h2
      · simp at h2
      · rename_i d h1 h2 hu
        cases d <;> first | (simp [isAgg, run_underlying hu]; done) | exact (h1 _ rfl).elim | exact (h2 _ _ rfl).elim
      · simp at h2
    have hlt : off < xs.size := by omega
    have hd : xs.toList.drop off = xs[off] :: xs.toList.drop (off + 1) := by
      rw [List.drop_eq_getElem_cons (by simpa using hlt)]
      simp
    simp [part, hagg, hlt, valOf, hag, hd]
theorem flat_agg {d : Nat} {t : TypeId} {ks : ET} (h : flatTy P d t = some ks) : aggOf P t = some true ∨ (aggOf P t = some false ∧ ks.length = 1) := by
  cases d with
  | zero => simp [flatTy] at h
  | succ d =>
    simp only [flatTy] at h
    split at h
    · rename_i k hu; cases h; exact .inr ⟨by simp [aggOf, hu], rfl⟩
    · rename_i hu; cases h; exact .inr ⟨by simp [aggOf, hu], rfl⟩
    · rename_i fs hu; exact .inl (aggOf_struct hu)
    · rename_i n e hu; exact .inl (by simp [aggOf, hu])
    · cases h
theorem fields_flat {n d d' : Nat} (ih : ∀ (t : TypeId) (ks : ET), flatTy P d t = some ks → ∀ (cs ds : List V) (xs ys : List Value) (b : Bool) (w : World), RL ρ n cs xs → RL ρ n ds ys → eqL ks cs ds = some b →
      (Op.equalIn d' t (valOf P t xs) (valOf P t ys)).run P w = .ok b w) (cs ds : List V) (xs ys : Array Value) (hx : RL ρ n cs xs.toList) (hy : RL ρ n ds ys.toList) (w : World) :
    ∀ (fs : List Field) (off : Nat) (ks : ET) (b : Bool), flatFs P (flatTy P d) off fs = some ks → eqL ks (cs.drop off) (ds.drop off) = some b → (Op.eqFields d' xs ys fs).run P w = .ok b w
  | [], off, ks, b, h, heq => by
    simp only [flatFs, Option.some.injEq] at h
    subst h
    cases hc : cs.drop off <;> cases hd : ds.drop off <;> rw [hc, hd] at heq <;> simp [eqL] at heq
    subst heq
    simp [Op.eqFields]
  | f :: fs, off, ks, b, h, heq => by
    simp only [flatFs] at h
    split at h
    · rename_i m hm
      split at h
      · rename_i r hr
        split at h
        · rename_i hc
          obtain ⟨hoff, hname, hsz⟩ := hc
          simp only [Option.some.injEq] at h
          subst h
          obtain ⟨b1, b2, e1, e2, rfl⟩ := eqL_split m r _ _ b heq
          have hl := eqL_len _ _ _ _ e1
          simp only [List.length_take, List.length_drop] at hl
          have hxl := hx.length
          have hyl := hy.length
          simp only [Array.length_toList] at hxl hyl
          have hag : aggOf P f.type = some true ∨ (aggOf P f.type = some false ∧ m.length = 1) := flat_agg hm
          have p1 := part_val (P := P) (xs := xs) (off := off) (w := w) hsz hag (by omega)
          have p2 := part_val (P := P) (xs := ys) (off := off) (w := w) hsz hag (by omega)
          have q := ih f.type m hm _ _ _ _ b1 w ((hx.drop off).take m.length) ((hy.drop off).take m.length) e1
          rw [List.drop_drop, List.drop_drop] at e2
          have rest := fields_flat ih cs ds xs ys hx hy w fs (off + m.length) r b2 hr e2
          simp only [Op.eqFields, if_pos hname, Sem.run_bind, hoff, p1, p2, Result.andThen_ok, q]
          cases b1 with
          | true => simpa using rest
          | false => simp
        · cases h
      · cases h
    · cases h
theorem items_flat {n d' : Nat} {e : TypeId} {m : ET} (hsz : szOf P e = some m.length) (hag : aggOf P e = some true ∨ (aggOf P e = some false ∧ m.length = 1))
    (ih : ∀ (cs ds : List V) (xs ys : List Value) (b : Bool) (w : World), RL ρ n cs xs → RL ρ n ds ys → eqL m cs ds = some b → (Op.equalIn d' e (valOf P e xs) (valOf P e ys)).run P w = .ok b w)
    (cs ds : List V) (xs ys : Array Value) (hx : RL ρ n cs xs.toList) (hy : RL ρ n ds ys.toList) (w : World) :
    ∀ (k st : Nat) (b : Bool), eqL (List.replicate k m).flatten (cs.drop (st * m.length)) (ds.drop (st * m.length)) = some b → (Op.eqItems d' e (P.cellsOf e) xs ys (List.range' st k)).run P w = .ok b w
  | 0, st, b, heq => by
    simp only [List.replicate_zero, List.flatten_nil] at heq
    cases hc : cs.drop (st * m.length) <;> cases hd : ds.drop (st * m.length) <;> rw [hc, hd] at heq <;> simp [eqL] at heq
    subst heq
    simp [Op.eqItems]
  | k + 1, st, b, heq => by
    rw [List.replicate_succ, List.flatten_cons] at heq
    obtain ⟨b1, b2, e1, e2, rfl⟩ := eqL_split m _ _ _ b heq
    have hl := eqL_len _ _ _ _ e1
    simp only [List.length_take, List.length_drop] at hl
    have hxl := hx.length
    have hyl := hy.length
    simp only [Array.length_toList] at hxl hyl
    have hc : P.cellsOf e = m.length := by
      unfold szOf at hsz
      simp only [Program.cellsOf, hsz, Option.getD_some]
    have p1 := part_val (P := P) (xs := xs) (off := st * m.length) (w := w) hsz hag (by omega)
    have p2 := part_val (P := P) (xs := ys) (off := st * m.length) (w := w) hsz hag (by omega)
    have q := ih _ _ _ _ b1 w ((hx.drop (st * m.length)).take m.length) ((hy.drop (st * m.length)).take m.length) e1
    rw [List.drop_drop, List.drop_drop, show st * m.length + m.length = (st + 1) * m.length by rw [Nat.succ_mul]] at e2
    have rest := items_flat hsz hag ih cs ds xs ys hx hy w k (st + 1) b2 e2
    simp only [List.range'_succ, Op.eqItems, Sem.run_bind, hc, p1, p2, Result.andThen_ok, q]
    cases b1 with
    | true => simpa [hc] using rest
    | false => simp
theorem eqIn_flat {n : Nat} : ∀ (d : Nat) (t : TypeId) (ks : ET), flatTy P d t = some ks → ∀ (d' : Nat), d ≤ d' → ∀ (cs ds : List V) (xs ys : List Value) (b : Bool) (w : World), RL ρ n cs xs → RL ρ n ds ys →
    eqL ks cs ds = some b → (Op.equalIn d' t (valOf P t xs) (valOf P t ys)).run P w = .ok b w
  | 0, t, ks, h => by simp [flatTy] at h
  | d + 1, t, ks, h => by
    intro d' hd cs ds xs ys b w hx hy heq
    obtain ⟨d', rfl⟩ : ∃ m, d' = m + 1 := ⟨d' - 1, by omega⟩
    simp only [flatTy] at h
    split at h
    · rename_i k hu
      cases h
      obtain ⟨h1, h2⟩ := eqL_len _ _ _ _ heq
      obtain ⟨c, rfl⟩ := List.length_eq_one_iff.1 h1
      obtain ⟨e, rfl⟩ := List.length_eq_one_iff.1 h2
      obtain ⟨x, rfl⟩ := List.length_eq_one_iff.1 (hx.length.symm.trans h1)
      obtain ⟨y, rfl⟩ := List.length_eq_one_iff.1 (hy.length.symm.trans h2)
      simp only [RL, and_true] at hx hy
      have ha : aggOf P t = some false := by simp [aggOf, hu]
      simp only [valOf, ha, List.headD_cons]
      cases c <;> cases e <;> simp only [eqL] at heq <;> first | (cases heq; done) | skip
      rename_i k1 p k2 q
      split at heq
      · rename_i r hk hr
        simp only [decide_eq_true_eq] at hk
        obtain ⟨rfl, rfl⟩ := hk
        simp only [Option.some.injEq] at hr heq
        simp only [R] at hx hy
        rw [hx, hy, run_equalIn_int w d' t k2 k2 p q hu, ← heq, ← hr]
        simp
      · cases heq
    · rename_i hu
      cases h
      obtain ⟨h1, h2⟩ := eqL_len _ _ _ _ heq
      obtain ⟨c, rfl⟩ := List.length_eq_one_iff.1 h1
      obtain ⟨e, rfl⟩ := List.length_eq_one_iff.1 h2
      obtain ⟨x, rfl⟩ := List.length_eq_one_iff.1 (hx.length.symm.trans h1)
      obtain ⟨y, rfl⟩ := List.length_eq_one_iff.1 (hy.length.symm.trans h2)
      simp only [RL, and_true] at hx hy
      have ha : aggOf P t = some false := by simp [aggOf, hu]
      simp only [valOf, ha, List.headD_cons]
      cases c <;> cases e <;> simp only [eqL] at heq <;> first | (cases heq; done) | skip
      simp only [Option.some.injEq] at heq
      simp only [R] at hx hy
      rw [hx, hy, run_equalIn_bool w d' t _ _ hu, ← heq]
      simp
    · rename_i fs hu
      split at h
      · rename_i hst
        have hf : P.fieldsOf t = fs := by simp [Program.fieldsOf, hu]
        simp only [valOf, aggOf_struct hu]
        rw [run_equalIn_struct w d' t _ _ (by rw [hf]; exact hu) hst, hf]
        exact fields_flat (n := n) (d := d) (fun t ks h cs ds xs ys b w h1 h2 h3 => eqIn_flat d t ks h d' (by omega) cs ds xs ys b w h1 h2 h3) cs ds _ _ (by simpa using hx) (by simpa using hy) w fs.toList 0 ks b h (by simpa using heq)
      · cases h
    · rename_i k e hu
      split at h
      · rename_i m hm
        split at h
        · rename_i hsz
          cases h
          have ha : aggOf P t = some true := by simp [aggOf, hu]
          have hi : ∃ i, P.info? e = some i := by
            unfold szOf at hsz
            simp only [Option.map_eq_some_iff] at hsz
            obtain ⟨i, hi, _⟩ := hsz
            exact ⟨i, hi⟩
          obtain ⟨i, hi⟩ := hi
          simp only [valOf, ha]
          rw [run_equalIn_array w d' _ _ hu hi, List.range_eq_range']
          exact items_flat hsz (flat_agg hm) (fun cs ds xs ys b w h1 h2 h3 => eqIn_flat d e m hm d' (by omega) cs ds xs ys b w h1 h2 h3) cs ds _ _ (by simpa using hx) (by simpa using hy) w k 0 b (by simpa using heq)
        · cases h
      · cases h
    · cases h
theorem good_eqa {neg : Bool} {ks : ET} {x y : AO} (hs : RelS N B ρ s a w) (hd : ∀ e, o.dst = some e → e < N) (hc : chkOp P o.op (.eqa neg ks x y) = true) (h : (opF s (.eqa neg ks x y)).run s o.dst K) : Good P N B ρ s a w K o := by
  have key : ∀ (op : BinOp) (t : TypeId) (x' y' : Operand) (ty : TypeId), o.op = .binOp op t x' y' ty → (op = .eql ∧ neg = false ∨ op = .neq ∧ neg = true) → opd x' x = true → opd y' y = true → eqOk P t ks = true → Good P N B ρ s a w K o := by
    intro op t x' y' ty ho hop hx hy hb
    have h1 := opd_R hs hx
    have h2 := opd_R hs hy
    unfold eqOk at hb
    simp only [Bool.and_eq_true, decide_eq_true_eq, Bool.not_eq_true'] at hb
    obtain ⟨⟨hfl, hgu⟩, hag⟩ := hb
    simp only [opF] at h
    split at h
    · rename_i cs ds hp hq
      rw [hp] at h1
      rw [hq] at h2
      simp only [R] at h1 h2
      obtain ⟨xs, e1, hx1⟩ := h1
      obtain ⟨ys, e2, hy1⟩ := h2
      split at h
      · rename_i b hb
        have hrun := eqIn_flat (P := P) (n := s.nx) 6 t ks hfl 10000 (by omega) cs ds xs.toList ys.toList b w hx1 hy1 hb
        simp only [valOf, hag, Array.toArray_toList] at hrun
        have hg := run_eqGuard_agg (P := P) w op t x' y' xs ys hgu
        have h : (OR.val (.bool (match neg with | true => !b | false => b))).run s o.dst K := by cases neg <;> exact h
        refine good_ok hs hd h (tv_R rfl) ?_
        rcases hop with ⟨rfl, rfl⟩ | ⟨rfl, rfl⟩
        · simp [tv, execOp, ho, e1, e2, hg, run_eql_struct, hrun]
        · simp [tv, execOp, ho, e1, e2, hg, run_neq_struct, hrun]
      · exact h.elim
    · exact h.elim
  simp only [chkOp] at hc
  split at hc
  · rename_i t x' y' ty ho
    simp only [Bool.and_eq_true, Bool.not_eq_true'] at hc
    exact key _ _ _ _ _ ho (.inl ⟨rfl, hc.2⟩) hc.1.1.1 hc.1.1.2 hc.1.2
  · rename_i t x' y' ty ho
    simp only [Bool.and_eq_true] at hc
    exact key _ _ _ _ _ ho (.inr ⟨rfl, hc.2⟩) hc.1.1.1 hc.1.1.2 hc.1.2
  · cases hc
end
end Go.Proofs.YtbolfnkgbjkbjaaGreat.AM
