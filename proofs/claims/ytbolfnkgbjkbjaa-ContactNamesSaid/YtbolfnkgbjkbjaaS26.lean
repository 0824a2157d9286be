/- Contracts, part 26: ContactNames. -/
import Derived.Test.YtbolfnkgbjkbjaaS24
set_option linter.unusedVariables false
set_option linter.unusedSimpArgs false
namespace Go.Proofs.Ytbolfnkgbjkbjaa.AM
open Go Go.RowKit
set_option maxRecDepth 100000

theorem c12u : chkFn Try.prog Try.f12 (a12.unroll 3) = true := by kernel_rfl
theorem c13u : chkFn Try.prog Try.f13 (a13.unroll 3) = true := by kernel_rfl

def T26_0 : Tab := T23b.add 14 (liftA (ofD g14))
def T26_1 : Tab := T26_0.add 21 (liftA (ofD g21))
def T26_2 : Tab := T26_1.add 22 (liftA (ofD g22))
def T26_3 : Tab := T26_2.add 5 (liftA (ofD g5))
def T26_4 : Tab := T26_3.add 11 (runFn T26_3 D23 noIv a11)
def T26_5 : Tab := T26_4.add 12 (runFn T26_4 D23 noIv (a12.unroll 3))
def T26 : Tab := T26_5.add 13 (runFn T26_5 D23 noIv (a13.unroll 3))
theorem T26_0_ok : TabOk Try.prog T26_0 := T23b_ok.add (entry_of_fresh r14)
theorem T26_1_ok : TabOk Try.prog T26_1 := T26_0_ok.add (entry_of_fresh r21)
theorem T26_2_ok : TabOk Try.prog T26_2 := T26_1_ok.add (entry_of_fresh r22)
theorem T26_3_ok : TabOk Try.prog T26_3 := T26_2_ok.add (entry_of_fresh r5)
theorem T26_4_ok : TabOk Try.prog T26_4 := T26_3_ok.add (fn_entry T26_3_ok D23_ok noIv Try.func11 c11)
theorem T26_5_ok : TabOk Try.prog T26_5 := T26_4_ok.add (fn_entry T26_4_ok D23_ok noIv Try.func12 c12u)
theorem T26_ok : TabOk Try.prog T26 := T26_5_ok.add (fn_entry T26_5_ok D23_ok noIv Try.func13 c13u)
def D26 : DTab := ((D23).add 6 (viewD g6)).add 10 (viewD g10)
theorem D26_ok : TabOk Try.prog (tabD D26) := DTab.add_ok (DTab.add_ok (D23_ok) (dok r6)) (dok r10)
/-- besomlaw05.ContactNames -/
def g4 : GSpec := fun args obs => match args, obs with
  | [], [] => some (True, .ret (.bool true), [])
  | _, _ => none
theorem k4  (K' : Out → List Ob → Prop) : runFn (T26) (D26) noIv a4 [] (lookO []) 0 (closeK K') =
    ((True) ∧
    (True) ∧
    (True) ∧
    (True) ∧
    (True) ∧
    (True) ∧
    (True) ∧
    (True) ∧
    ((True ∧ True ∧ True ∧ True) ∧ True) ∧
    (((True ∧ True ∧ True ∧ True ∧ True ∧ True ∧ True ∧ True ∧ True) ∧
    (True ∧ True ∧ True ∧ True ∧ True ∧ True ∧ True ∧ True ∧ True) ∧ True) ∧
  True) ∧
    ((True ∧ True ∧ True ∧ True) ∧ True) ∧
    (((True ∧ True ∧ True ∧ True ∧ True ∧ True ∧ True ∧ True ∧ True) ∧
    (True ∧ True ∧ True ∧ True ∧ True ∧ True ∧ True ∧ True ∧ True) ∧ True) ∧
  True) ∧
    ((True ∧ True ∧ True ∧ True ∧ True ∧ True ∧ True ∧ True ∧ True) ∧
  (True ∧ True ∧ True ∧ True ∧ True ∧ True ∧ True ∧ True ∧ True) ∧ True ∧ True) ∧
    (True) ∧
    (True) ∧
    (True) ∧
    (True) ∧
    (True) ∧
    ((True ∧ True ∧ True ∧ True) ∧ True) ∧
    (((True ∧ True ∧ True ∧ True ∧ True ∧ True ∧ True ∧ True ∧ True) ∧
    (True ∧ True ∧ True ∧ True ∧ True ∧ True ∧ True ∧ True ∧ True) ∧ True ∧ True) ∧
  True) ∧
    (True) ∧
    (True) ∧
    (True) ∧
    (True) ∧
    (True) ∧
    (True) ∧
    (True) ∧
    (True) ∧
    (True) ∧
    (True) ∧
    (True) ∧
    (True) ∧
    ((True ∧ True ∧ True ∧ True ∧ True ∧ True ∧ True ∧ True ∧ True) ∧ True) ∧
    (True) ∧
    ((True ∧ True ∧ True ∧ True ∧ True ∧ True ∧ True ∧ True ∧ True) ∧ True) ∧
    ((-6553600000 : Int) ≤ (-146145280 : Int) ∧ (-146145280 : Int) ≤ (6553600000 : Int)) ∧
    (True) ∧
    (True) ∧
    (True) ∧
    (True) ∧
    (True) ∧
    ((True ∧ True ∧ True ∧ True ∧ True ∧ True ∧ True ∧ True ∧ True) ∧ True) ∧
    (True) ∧
    ((True ∧ True ∧ True ∧ True ∧ True ∧ True ∧ True ∧ True ∧ True) ∧ True) ∧
    ((-6553600000 : Int) ≤ (0 : Int) ∧ (0 : Int) ≤ (6553600000 : Int)) ∧
    (True) ∧
    (True) ∧
    (True) ∧
    (True) ∧
    (True) ∧
    ((True ∧ True ∧ True ∧ True ∧ True ∧ True ∧ True ∧ True ∧ True) ∧ True) ∧
    (True) ∧
    ((True ∧ True ∧ True ∧ True ∧ True ∧ True ∧ True ∧ True ∧ True) ∧ True) ∧
    ((-6553600000 : Int) ≤ (0 : Int) ∧ (0 : Int) ≤ (6553600000 : Int)) ∧
    (True) ∧
    (True) ∧
    ((0 : Int) ≤ (0 : Int) ∧
  (0 : Int) <
    ↑[((0 : Int), (0 : Int), (0 : Int), (0 : Int), (0 : Int), (20000 : Int), (0 : Int), false),
          ((0 : Int), (0 : Int), (0 : Int), (0 : Int), (0 : Int), (20000 : Int), (0 : Int), false)].length) ∧
    (Int.toNat (0 : Int) <
  [((0 : Int), (0 : Int), (0 : Int), (0 : Int), (0 : Int), (20000 : Int), (0 : Int), false),
      ((0 : Int), (0 : Int), (0 : Int), (0 : Int), (0 : Int), (20000 : Int), (0 : Int), false)].length) ∧
    (True) ∧
    (True) ∧
    (True) ∧
    (True) ∧
    ((True ∧ True ∧ True ∧ True ∧ True ∧ True ∧ True ∧ True ∧ True) ∧ True) ∧
    (True) ∧
    (True) ∧
    ((0 : Int) ≤ IntKind.i64.wrap ((0 : Int) + (1 : Int)) ∧
  IntKind.i64.wrap ((0 : Int) + (1 : Int)) <
    ↑[((0 : Int), (0 : Int), (0 : Int), (0 : Int), (0 : Int), (20000 : Int), (0 : Int), false),
          ((0 : Int), (0 : Int), (0 : Int), (0 : Int), (0 : Int), (20000 : Int), (0 : Int), false)].length) ∧
    ((1 : Int).toNat <
  [((0 : Int), (0 : Int), (0 : Int), (0 : Int), (0 : Int), (20000 : Int), (0 : Int), false),
      ((0 : Int), (0 : Int), (0 : Int), (0 : Int), (0 : Int), (20000 : Int), (0 : Int), false)].length) ∧
    (True) ∧
    (True) ∧
    (True) ∧
    (True) ∧
    ((True ∧ True ∧ True ∧ True ∧ True ∧ True ∧ True ∧ True ∧ True) ∧ True) ∧
    (True) ∧
    (True) ∧
    (True) ∧
    ((0 : Int) ≤ (0 : Int) ∧
  (0 : Int) < ↑[((0 : Int), (0 : Int), (0 : Int), (0 : Int), (0 : Int), (0 : Int), (1 : Int), true)].length) ∧
    (Int.toNat (0 : Int) < [((0 : Int), (0 : Int), (0 : Int), (0 : Int), (0 : Int), (0 : Int), (1 : Int), true)].length) ∧
    (True) ∧
    (True) ∧
    (True) ∧
    (True) ∧
    ((True ∧ True ∧ True ∧ True ∧ True ∧ True ∧ True ∧ True ∧ True) ∧ True) ∧
    (True) ∧
    ((True ∧ True ∧ True ∧ True ∧ True ∧ True ∧ True ∧ True ∧ True) ∧ True) ∧
    (True) ∧
    ((17 : Int) = (17 : Int) ∧ (0 : Int) ≤ (17 : Int) ∧ (17 : Int) * ↑(32 : Nat) ≤ (140737488355328 : Int)) ∧
    (True) ∧
    (True) ∧
    ((True ∧ True ∧ True ∧ True) ∧ True) ∧
    ((True ∧ True ∧ True ∧ True) ∧ True) ∧
    ((True ∧ True ∧ True ∧ True) ∧ True) ∧
    (True) ∧
    (True) ∧
    K' (Out.ret (V.bool true)) []) := by kernel_rfl
theorem r4 : FreshOk Try.prog 4 (ofD g4) := by
  refine fresh_of_run T26_ok D26_ok (fun _ _ => noIv) Try.func4 c4 fun args obs K' hk => ?_
  unfold ofD g4 at hk
  split at hk
  · rename_i d_ out news hg
    split at hg
    · skip
      cases hg
      obtain ⟨hc, hk⟩ := hk
      refine Eq.mpr (k4  K') ⟨trivial, trivial, trivial, trivial, trivial, trivial, trivial, trivial, ⟨⟨trivial, ⟨trivial, ⟨trivial, trivial⟩⟩⟩, trivial⟩, ⟨⟨⟨trivial, ⟨trivial, ⟨trivial, ⟨trivial, ⟨trivial, ⟨trivial, ⟨trivial, ⟨trivial, trivial⟩⟩⟩⟩⟩⟩⟩⟩, ⟨⟨trivial, ⟨trivial, ⟨trivial, ⟨trivial, ⟨trivial, ⟨trivial, ⟨trivial, ⟨trivial, trivial⟩⟩⟩⟩⟩⟩⟩⟩, trivial⟩⟩, trivial⟩, ⟨⟨trivial, ⟨trivial, ⟨trivial, trivial⟩⟩⟩, trivial⟩, ⟨⟨⟨trivial, ⟨trivial, ⟨trivial, ⟨trivial, ⟨trivial, ⟨trivial, ⟨trivial, ⟨trivial, trivial⟩⟩⟩⟩⟩⟩⟩⟩, ⟨⟨trivial, ⟨trivial, ⟨trivial, ⟨trivial, ⟨trivial, ⟨trivial, ⟨trivial, ⟨trivial, trivial⟩⟩⟩⟩⟩⟩⟩⟩, trivial⟩⟩, trivial⟩, ⟨⟨trivial, ⟨trivial, ⟨trivial, ⟨trivial, ⟨trivial, ⟨trivial, ⟨trivial, ⟨trivial, trivial⟩⟩⟩⟩⟩⟩⟩⟩, ⟨⟨trivial, ⟨trivial, ⟨trivial, ⟨trivial, ⟨trivial, ⟨trivial, ⟨trivial, ⟨trivial, trivial⟩⟩⟩⟩⟩⟩⟩⟩, ⟨trivial, trivial⟩⟩⟩, trivial, trivial, trivial, trivial, trivial, ⟨⟨trivial, ⟨trivial, ⟨trivial, trivial⟩⟩⟩, trivial⟩, ⟨⟨⟨trivial, ⟨trivial, ⟨trivial, ⟨trivial, ⟨trivial, ⟨trivial, ⟨trivial, ⟨trivial, trivial⟩⟩⟩⟩⟩⟩⟩⟩, ⟨⟨trivial, ⟨trivial, ⟨trivial, ⟨trivial, ⟨trivial, ⟨trivial, ⟨trivial, ⟨trivial, trivial⟩⟩⟩⟩⟩⟩⟩⟩, ⟨trivial, trivial⟩⟩⟩, trivial⟩, trivial, trivial, trivial, trivial, trivial, trivial, trivial, trivial, trivial, trivial, trivial, trivial, ⟨⟨trivial, ⟨trivial, ⟨trivial, ⟨trivial, ⟨trivial, ⟨trivial, ⟨trivial, ⟨trivial, trivial⟩⟩⟩⟩⟩⟩⟩⟩, trivial⟩, trivial, ⟨⟨trivial, ⟨trivial, ⟨trivial, ⟨trivial, ⟨trivial, ⟨trivial, ⟨trivial, ⟨trivial, trivial⟩⟩⟩⟩⟩⟩⟩⟩, trivial⟩, ?_, trivial, trivial, trivial, trivial, trivial, ⟨⟨trivial, ⟨trivial, ⟨trivial, ⟨trivial, ⟨trivial, ⟨trivial, ⟨trivial, ⟨trivial, trivial⟩⟩⟩⟩⟩⟩⟩⟩, trivial⟩, trivial, ⟨⟨trivial, ⟨trivial, ⟨trivial, ⟨trivial, ⟨trivial, ⟨trivial, ⟨trivial, ⟨trivial, trivial⟩⟩⟩⟩⟩⟩⟩⟩, trivial⟩, ?_, trivial, trivial, trivial, trivial, trivial, ⟨⟨trivial, ⟨trivial, ⟨trivial, ⟨trivial, ⟨trivial, ⟨trivial, ⟨trivial, ⟨trivial, trivial⟩⟩⟩⟩⟩⟩⟩⟩, trivial⟩, trivial, ⟨⟨trivial, ⟨trivial, ⟨trivial, ⟨trivial, ⟨trivial, ⟨trivial, ⟨trivial, ⟨trivial, trivial⟩⟩⟩⟩⟩⟩⟩⟩, trivial⟩, ?_, trivial, trivial, ?_, ?_, trivial, trivial, trivial, trivial, ⟨⟨trivial, ⟨trivial, ⟨trivial, ⟨trivial, ⟨trivial, ⟨trivial, ⟨trivial, ⟨trivial, trivial⟩⟩⟩⟩⟩⟩⟩⟩, trivial⟩, trivial, trivial, ?_, ?_, trivial, trivial, trivial, trivial, ⟨⟨trivial, ⟨trivial, ⟨trivial, ⟨trivial, ⟨trivial, ⟨trivial, ⟨trivial, ⟨trivial, trivial⟩⟩⟩⟩⟩⟩⟩⟩, trivial⟩, trivial, trivial, trivial, ?_, ?_, trivial, trivial, trivial, trivial, ⟨⟨trivial, ⟨trivial, ⟨trivial, ⟨trivial, ⟨trivial, ⟨trivial, ⟨trivial, ⟨trivial, trivial⟩⟩⟩⟩⟩⟩⟩⟩, trivial⟩, trivial, ⟨⟨trivial, ⟨trivial, ⟨trivial, ⟨trivial, ⟨trivial, ⟨trivial, ⟨trivial, ⟨trivial, trivial⟩⟩⟩⟩⟩⟩⟩⟩, trivial⟩, trivial, ?_, trivial, trivial, ⟨⟨trivial, ⟨trivial, ⟨trivial, trivial⟩⟩⟩, trivial⟩, ⟨⟨trivial, ⟨trivial, ⟨trivial, trivial⟩⟩⟩, trivial⟩, ⟨⟨trivial, ⟨trivial, ⟨trivial, trivial⟩⟩⟩, trivial⟩, trivial, trivial, hk⟩
      · decide
      · decide
      · decide
      · decide
      · decide
      · decide
      · decide
      · decide
      · decide
      · decide
    · cases hg
  · exact hk.elim

end Go.Proofs.Ytbolfnkgbjkbjaa.AM
