/- The abstract machine, part 9d: regions that draw their order. -/
import Derived.Test.YtbolfnkgbjkbjaaGreatAm9
import Derived.Orders
set_option linter.unusedVariables false
set_option linter.unusedSimpArgs false
namespace Go.Proofs.YtbolfnkgbjkbjaaGreat.AM
open Go Go.RowKit

/-! ### What a step looks at -/
def aoSl : AO → List Nat
  | .t n => [n]
  | _ => []
def aosSl : List AO → List Nat
  | [] => []
  | x :: l => aoSl x ++ aosSl l
def partsSl : List (Nat × Nat × AO) → List Nat
  | [] => []
  | (_, _, x) :: l => aoSl x ++ partsSl l
/-- The slots that an operation looks at. -/
def opSl : AOp → List Nat
  | .mv x => aoSl x
  | .mvn _ _ => []
  | .pick c a b => aoSl c ++ (aoSl a ++ aoSl b)
  | .alloc _ _ => []
  | .box _ x => aoSl x
  | .ld _ _ x => aoSl x
  | .st _ a x => aoSl a ++ aoSl x
  | .nck x => aoSl x
  | .bin _ x y => aoSl x ++ aoSl y
  | .binb _ x y => aoSl x ++ aoSl y
  | .eqa _ _ x y => aoSl x ++ aoSl y
  | .not x => aoSl x
  | .neg x => aoSl x
  | .cv _ x => aoSl x
  | .fa x _ => aoSl x
  | .fld x _ _ _ => aoSl x
  | .ia x i _ => aoSl x ++ aoSl i
  | .iaa x i _ _ => aoSl x ++ aoSl i
  | .ixs _ i => aoSl i
  | .ixa x i _ _ _ => aoSl x ++ aoSl i
  | .ext x _ => aoSl x
  | .mkf _ fs cs => aosSl fs ++ aosSl cs
  | .mki _ x => aoSl x
  | .tas _ _ x => aoSl x
  | .ifn _ x => aoSl x
  | .bld _ ps => partsSl ps
  | .bsl _ _ _ _ ps => partsSl ps
  | .msl _ _ _ _ x c => aoSl x ++ aoSl c
  | .slc x lo hi _ => aoSl x ++ (aosSl (optA lo) ++ aosSl (optA hi))
  | .len x => aoSl x
  | .app _ _ _ x y => aoSl x ++ aoSl y
  | .mx _ x y => aoSl x ++ aoSl y
  | .mkm _ _ _ _ => []
  | .mlk _ _ _ _ _ x k => aoSl x ++ aoSl k
  | .mup _ _ _ _ x k v => aoSl x ++ (aoSl k ++ aoSl v)
  | .call f args => aoSl f ++ aosSl args
  | .pan x => aoSl x
  | .no => []
def gSl : Option (Nat × Bool) → List Nat
  | none => []
  | some (g, _) => [g]
def looks (o : AOper) : List Nat := opSl o.op ++ gSl o.g
theorem rd_congr {s s' : S} {x : AO} (h : ∀ t ∈ aoSl x, s.sl t = s'.sl t) : rd s x = rd s' x := by
  cases x with
  | t n => exact h n (by simp [aoSl])
  | _ => rfl
theorem rds_congr {s s' : S} : ∀ {l : List AO}, (∀ t ∈ aosSl l, s.sl t = s'.sl t) → l.map (rd s) = l.map (rd s')
  | [], _ => rfl
  | x :: l, h => by
    simp only [List.map_cons]
    rw [rd_congr (s := s) (s' := s') (x := x) (fun t ht => h t (by simp [aosSl, ht])), rds_congr (l := l) (fun t ht => h t (by simp [aosSl, ht]))]
theorem fill_congr {s s' : S} : ∀ {l : List (Nat × Nat × AO)} (z : List V), (∀ t ∈ partsSl l, s.sl t = s'.sl t) → fillV s z l = fillV s' z l
  | [], _, _ => rfl
  | (a, b, x) :: l, z, h => by
    simp only [fillV]
    rw [rd_congr (s := s) (s' := s') (x := x) (fun t ht => h t (by simp [partsSl, ht]))]
    split
    · exact fill_congr _ (fun t ht => h t (by simp [partsSl, ht]))
    · rfl
theorem ldF_congr {h h' : Nat → Ob} {n : Nat} {agg : Bool} {v : V} (hh : ∀ id ∈ idsV v, h id = h' id) : ldF h n agg v = ldF h' n agg v := by
  cases v <;> simp only [ldF]
  rename_i id e z f
  rw [hh id (by simp [idsV])]
theorem stF_congr {h h' : Nat → Ob} {n : Nat} {v : V} {vs : List V} (hh : ∀ id ∈ idsV v, h id = h' id) : stF h n v vs = stF h' n v vs := by
  cases v <;> simp only [stF]
  rename_i id e z f
  rw [hh id (by simp [idsV])]
theorem lenF_congr {h h' : Nat → Ob} {v : V} (hh : ∀ id ∈ idsV v, h id = h' id) : lenF h v = lenF h' v := by
  cases v <;> simp only [lenF]
  rename_i id
  rw [hh id (by simp [idsV])]
theorem lst_congr {E : ET} {h h' : Nat → Ob} {v : V} (hh : ∀ id ∈ idsV v, h id = h' id) : lst E h v = lst E h' v := by
  cases v <;> simp only [lst]
  · rename_i id a b c
    rw [hh id (by simp [idsV])]
  · rename_i id
    rw [hh id (by simp [idsV])]
theorem sbase_congr {h h' : Nat → Ob} {v : V} {z : Nat} (hh : ∀ id ∈ idsV v, h id = h' id) : sbase h v z = sbase h' v z := by
  cases v <;> simp only [sbase]
  rename_i id
  rw [hh id (by simp [idsV])]
theorem appF_congr {h h' : Nat → Ob} {t : Nat} {E : ET} {b : Nat} {x y : V} (hx : ∀ id ∈ idsV x, h id = h' id) (hy : ∀ id ∈ idsV y, h id = h' id) : appF h t E b x y = appF h' t E b x y := by
  unfold appF
  rw [lst_congr hy]
  cases x <;> try rfl
  rename_i id
  simp only [hx id (by simp [idsV])]
theorem opF_congr {s s' : S} (op : AOp) (h : ∀ t ∈ opSl op, s.sl t = s'.sl t) (hh : ∀ id ∈ rdsOf s op, s.hp id = s'.hp id) : opF s op = opF s' op := by
  have r : ∀ x, (∀ t ∈ aoSl x, t ∈ opSl op) → rd s x = rd s' x := fun x hx => rd_congr fun t ht => h t (hx t ht)
  cases op <;> simp only [opF]
  case mv x => rw [r x (by simp [opSl])]
  case pick c x y =>
    rw [r c (fun t ht => by simp [opSl, ht]), r x (fun t ht => by simp [opSl, ht]), r y (fun t ht => by simp [opSl, ht])]
  case box t x => rw [r x (by simp [opSl])]
  case ld n agg x => rw [← r x (by simp [opSl])]; exact ldF_congr hh
  case st n x y =>
    rw [← r x (fun t ht => by simp [opSl, ht]), ← r y (fun t ht => by simp [opSl, ht])]
    exact stF_congr hh
  case nck x => rw [r x (by simp [opSl])]
  case bin b x y => rw [r x (fun t ht => by simp [opSl, ht]), r y (fun t ht => by simp [opSl, ht])]
  case binb b x y => rw [r x (fun t ht => by simp [opSl, ht]), r y (fun t ht => by simp [opSl, ht])]
  case eqa b ks x y => rw [r x (fun t ht => by simp [opSl, ht]), r y (fun t ht => by simp [opSl, ht])]
  case not x => rw [r x (by simp [opSl])]
  case neg x => rw [r x (by simp [opSl])]
  case cv k x => rw [r x (by simp [opSl])]
  case fa x off => rw [r x (by simp [opSl])]
  case fld x a b c => rw [r x (by simp [opSl])]
  case ia x i z =>
    rw [← r x (fun t ht => by simp [opSl, ht]), ← r i (fun t ht => by simp [opSl, ht]), lenF_congr (h := s.hp) (h' := s'.hp) hh]
  case iaa x i l z => rw [r x (fun t ht => by simp [opSl, ht]), r i (fun t ht => by simp [opSl, ht])]
  case ixs l i => rw [r i (by simp [opSl])]
  case ixa x i l z g => rw [r x (fun t ht => by simp [opSl, ht]), r i (fun t ht => by simp [opSl, ht])]
  case ext x i => rw [r x (by simp [opSl])]
  case mkf f fs cs =>
    rw [rds_congr (s := s) (s' := s') (l := fs) (fun t ht => h t (by simp [opSl, ht])), rds_congr (s := s) (s' := s') (l := cs) (fun t ht => h t (by simp [opSl, ht]))]
  case mki t x => rw [r x (by simp [opSl])]
  case tas t zs x => rw [r x (by simp [opSl])]
  case ifn b x => rw [r x (by simp [opSl])]
  case bld z ps => rw [fill_congr (s := s) (s' := s') z (fun t ht => h t (by simpa [opSl] using ht))]
  case bsl t E n z ps => rw [fill_congr (s := s) (s' := s') z (fun t ht => h t (by simpa [opSl] using ht))]
  case msl t E b z x c => rw [r x (fun t ht => by simp [opSl, ht]), r c (fun t ht => by simp [opSl, ht])]
  case slc x lo hi z =>
    have hlo : lo.map (rd s) = lo.map (rd s') := by
      cases lo with
      | none => rfl
      | some y => simp only [Option.map_some]; rw [r y (fun t ht => by simp [opSl, optA, aosSl, ht])]
    have hhi : hi.map (rd s) = hi.map (rd s') := by
      cases hi with
      | none => rfl
      | some y => simp only [Option.map_some]; rw [r y (fun t ht => by simp [opSl, optA, aosSl, ht])]
    rw [← r x (fun t ht => by simp [opSl, ht]), hlo, hhi]
    unfold sliceF
    rw [sbase_congr (h := s.hp) (h' := s'.hp) hh]
  case len x => rw [← r x (by simp [opSl]), lenF_congr (h := s.hp) (h' := s'.hp) hh]
  case app t E b x y =>
    rw [← r x (fun t ht => by simp [opSl, ht]), ← r y (fun t ht => by simp [opSl, ht])]
    exact appF_congr (fun id hid => hh id (by simp [rdsOf, hid])) (fun id hid => hh id (by simp [rdsOf, hid]))
  case mlk ka KE va VE ok x k =>
    rw [← r x (fun t ht => by simp [opSl, ht]), ← r k (fun t ht => by simp [opSl, ht])]
    simp only [rdsOf] at hh
    split
    · rename_i id hv
      rw [hv] at hh
      rw [hh id (by simp [idsV])]
    · rfl
    · rfl
  case mup ka KE va VE x k v =>
    rw [← r x (fun t ht => by simp [opSl, ht]), ← r k (fun t ht => by simp [opSl, ht]), ← r v (fun t ht => by simp [opSl, ht])]
    simp only [rdsOf] at hh
    split
    · rename_i id hv
      rw [hv] at hh
      rw [hh id (by simp [idsV])]
    · rfl
  case mx b x y => rw [r x (fun t ht => by simp [opSl, ht]), r y (fun t ht => by simp [opSl, ht])]
mutual
theorem viewV_congr {h h' : Nat → Ob} : ∀ (v : V) (obs : List Ob), (∀ id ∈ idsV v, h id = h' id) → viewV h obs v = viewV h' obs v
  | .osl id, obs, hh => by simp only [viewV]; rw [hh id (by simp [idsV])]
  | .sl id _ _ _, obs, hh => by simp only [viewV]; rw [hh id (by simp [idsV])]
  | .agg cs, obs, hh => by simp only [viewV]; rw [viewL_congr cs obs (by simpa [idsV] using hh)]
  | .int _ _, _, _ => by simp [viewV]
  | .bool _, _, _ => by simp [viewV]
  | .nilp, _, _ => by simp [viewV]
  | .nsl, _, _ => by simp [viewV]
  | .nfn, _, _ => by simp [viewV]
  | .nifc, _, _ => by simp [viewV]
  | .nmp, _, _ => by simp [viewV]
  | .mp _, _, _ => by simp [viewV]
  | .fn _ [] [], _, _ => by simp [viewV]
  | .fn _ (_ :: _) _, _, _ => by simp [viewV]
  | .fn _ [] (_ :: _), _, _ => by simp [viewV]
  | .top, _, _ => by simp [viewV]
  | .ptr id _ _ _, obs, hh => by simp only [viewV]; rw [hh id (by simp [idsV])]
  | .ifc _ _, _, _ => by simp [viewV]
  | .tup _, _, _ => by simp [viewV]
theorem viewL_congr {h h' : Nat → Ob} : ∀ (vs : List V) (obs : List Ob), (∀ id ∈ idsL vs, h id = h' id) → viewL h obs vs = viewL h' obs vs
  | [], _, _ => by simp [viewL]
  | v :: vs, obs, hh => by
    simp only [viewL]
    rw [viewV_congr v obs (fun id hid => hh id (by simp [idsL, hid]))]
    cases viewV h' obs v with
    | none => rfl
    | some p =>
      obtain ⟨c, v', obs'⟩ := p
      simp only []
      rw [viewL_congr vs obs' (fun id hid => hh id (by simp [idsL, hid]))]
end
theorem idsL_append (a b : List V) : idsL (a ++ b) = idsL a ++ idsL b := by
  induction a with
  | nil => simp [idsL]
  | cons x l ih => simp [idsL, ih]
theorem dexec_congr {D : DTab} {k : Nat} {s s' : S} {op : AOp} {K : V → List (Nat × Ob) → Prop} {PQ : V → Prop} (h : ∀ t ∈ opSl op, s.sl t = s'.sl t) (hh : ∀ id ∈ rdsOf s op, s.hp id = s'.hp id)
    (hd : dexec D k op s K PQ) : dexec D k op s' K PQ := by
  have ho := opF_congr op h hh
  cases op
  case call f args =>
    simp only [dexec] at hd ⊢
    have hf : rd s f = rd s' f := rd_congr fun t ht => h t (by simp [opSl, ht])
    have ha : args.map (rd s) = args.map (rd s') := rds_congr fun t ht => h t (by simp [opSl, ht])
    rw [← hf, ← ha]
    simp only [rdsOf] at hh
    split at hd
    · rename_i fi fs cs hfv
      rw [hfv] at hh
      have hsame : ∀ id ∈ idsL (fs ++ args.map (rd s) ++ cs), s.hp id = s'.hp id := (fun id hid => hh id (by
        rw [idsL_append, idsL_append] at hid
        simp only [idsV]
        simp only [List.mem_append] at hid ⊢
        rcases hid with (hid | hid) | hid
        · exact .inl (.inl hid)
        · exact .inr hid
        · exact .inl (.inr hid)))
      split at hd
      · rename_i g hg
        rw [g.same _ _ _ hsame] at hd
        exact hd
      · exact hd.elim
    · exact hd.elim
  case pan => exact hd
  all_goals
    simp only [dexec] at hd ⊢
    rw [← ho]
    exact hd
theorem rdsOf_congr {s s' : S} {op : AOp} (h : ∀ t ∈ opSl op, s.sl t = s'.sl t) : rdsOf s op = rdsOf s' op := by
  have r : ∀ x, (∀ t ∈ aoSl x, t ∈ opSl op) → rd s x = rd s' x := fun x hx => rd_congr fun t ht => h t (hx t ht)
  cases op <;> simp only [rdsOf]
  case ld n agg x => rw [r x (by simp [opSl])]
  case st n x y => rw [r x (fun t ht => by simp [opSl, ht])]
  case ia x i z => rw [r x (fun t ht => by simp [opSl, ht])]
  case slc x lo hi z => rw [r x (fun t ht => by simp [opSl, ht])]
  case len x => rw [r x (by simp [opSl])]
  case app t E b x y => rw [r x (fun t ht => by simp [opSl, ht]), r y (fun t ht => by simp [opSl, ht])]
  case mlk ka KE va VE ok x k => rw [r x (fun t ht => by simp [opSl, ht])]
  case mup ka KE va VE x k v => rw [r x (fun t ht => by simp [opSl, ht])]
  case call f args =>
    rw [rd_congr (s := s) (s' := s') (x := f) (fun t ht => h t (by simp [opSl, ht])), rds_congr (s := s) (s' := s') (l := args) (fun t ht => h t (by simp [opSl, ht]))]
theorem dexec_mono {D : DTab} {k : Nat} {s : S} {op : AOp} {K K' : V → List (Nat × Ob) → Prop} {PQ PQ' : V → Prop} (hK : ∀ v e, K v e → K' v e) (hP : ∀ v, PQ v → PQ' v) (hd : dexec D k op s K PQ) : dexec D k op s K' PQ' := by
  cases op
  case call f args =>
    simp only [dexec] at hd ⊢
    repeat' (split at hd)
    all_goals first
      | exact ⟨hd.1, (absM_iff _ _ _).2 (hK _ _ ((absM_iff _ _ _).1 hd.2))⟩
      | exact ⟨hd.1, hP _ hd.2⟩
      | exact hd.elim
  case pan => exact hd
  all_goals
    simp only [dexec] at hd ⊢
    split at hd
    all_goals first
      | exact hd.elim
      | (rw [force_iff] at hd ⊢; exact hK _ _ hd)
      | (obtain ⟨h1, h2⟩ := hd; rw [force_iff] at h2; exact ⟨h1, (force_iff _ _).2 (hK _ _ h2)⟩)
      | exact ⟨hd.1, hK _ _ hd.2⟩
/-- One outcome. -/
theorem dexec_det {D : DTab} {k : Nat} {s : S} {op : AOp} {K : V → List (Nat × Ob) → Prop} {PQ : V → Prop} (hd : dexec D k op s K PQ) :
    (∃ v e, K v e ∧ dexec D k op s (fun v' e' => v' = v ∧ e' = e) (fun _ => False)) ∨ (∃ v, PQ v ∧ dexec D k op s (fun _ _ => False) (fun v' => v' = v)) := by
  cases op
  case call f args =>
    simp only [dexec] at hd ⊢
    repeat' (split at hd)
    all_goals first
      | exact .inl ⟨_, _, (absM_iff _ _ _).1 hd.2, hd.1, (absM_iff _ _ _).2 ⟨rfl, rfl⟩⟩
      | exact .inr ⟨_, hd.2, hd.1, rfl⟩
      | exact hd.elim
  case pan => exact hd.elim
  all_goals
    simp only [dexec] at hd ⊢
    split at hd
    all_goals first
      | exact hd.elim
      | (rw [force_iff] at hd; exact .inl ⟨_, _, hd, (force_iff _ _).2 ⟨rfl, rfl⟩⟩)
      | (obtain ⟨h1, h2⟩ := hd; rw [force_iff] at h2; exact .inl ⟨_, _, h2, h1, (force_iff _ _).2 ⟨rfl, rfl⟩⟩)
      | exact .inl ⟨_, _, hd.2, hd.1, rfl, rfl⟩
end Go.Proofs.YtbolfnkgbjkbjaaGreat.AM
