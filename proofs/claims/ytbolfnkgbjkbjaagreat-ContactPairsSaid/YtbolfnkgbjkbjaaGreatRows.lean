/-
  No cell of these rows narrows 'for every input' (looked for: loops, veiled, ifaces, maps, wideKeys, modest, calm, conditions, laid).
  DERIVED. THE GIVEN ROWS OF THIS SEAT. 10 by the template 'for every input the law returns true; each argument reads behind the call as it read before'; 0 by the template 'total and deterministic' (their statements: YtbolfnkgbjkbjaaGreatTotals.lean).
  GIVEN WITH THE SEED: the statements are not yours to turn. If you find one false, say at which input.
  Laid BY PROGRAM, IN A SANDBOX (cutbox-rows.mjs): the forced cells as the released guide's own fill.sh prints them over the translation d97c2c2528df27e6… (all of the seat's roots in one cut). By AI agents, Wed Nov 11 2026. No macro, syntax, notation, axiom, sorry.
-/
import Derived.Test.YtbolfnkgbjkbjaaGreatChecked
import GoSem.Claim
import GoSem.ClaimJoined
import GoSem.ClaimMapViews
import Derived.JoinedTies
import Derived.KernelRfl
namespace Go.Proofs.YtbolfnkgbjkbjaaGreat
/- THE CELL 'sum', in the pinned program and in every row, IS THE sha256 OF THE DUMP (.gsa) THAT YtbolfnkgbjkbjaaGreatProg.lean LOADS. Nothing in Lean hashes anything: it is a label: what it is worth is what the hold of that sum in a sandbox is worth. -/
noncomputable def Tryz.pinned : Pinned := { name := "ytbolfnkgbjkbjaagreat", sum := "d97c2c2528df27e6a7057bca98962a5f1ce83f012d6cdb8ce1f7c725c07626e6", checked := Tryz.checked }
namespace Rows
def none {H : Type} : Left H := { results := [], args := [] }

/-- 'besomlaw05.ContactPairs': WHATEVER THE INPUT: true; the input reads as it did. -/
def contactPairsSpec : ChangeSpec := { name := "contactPairs", fn := fun _ => fun
  | [d1, d2, d3] => { results := [.lit (.bool true)], args := [d1, d2, d3] }
  | _ => none }
def contactPairsRow : OpenClaim := { program := "ytbolfnkgbjkbjaagreat", sum := "d97c2c2528df27e6a7057bca98962a5f1ce83f012d6cdb8ce1f7c725c07626e6", func := "besom/besomlaw05.ContactPairs", spec := "contactPairs", inPlace := ["math/bits.Add64", "math/bits.Sub64"], unfollowed := true, recurses := true, named := ["math/bits.divideError", "math/bits.overflowError"], plainKeys := false, apart := false }
def ContactPairsSaid : Prop := contactPairsRow.holds Tryz.pinned (OpenSpec.ofChange contactPairsSpec)

/-- ITS FALSE NEIGHBOUR: 'it returns false'. Refute it at one input. -/
def contactPairsWrong : ChangeSpec := { name := "contactPairs", fn := fun _ => fun
  | [d1, d2, d3] => { results := [.lit (.bool false)], args := [d1, d2, d3] }
  | _ => none }
def ContactPairsWrongFalsely : Prop := contactPairsRow.holds Tryz.pinned (OpenSpec.ofChange contactPairsWrong)

/-- 'besomlaw05.ContactScenes': WHATEVER THE INPUT: true; the input reads as it did. -/
def contactScenesSpec : ChangeSpec := { name := "contactScenes", fn := fun _ => fun
  | [d1, d2] => { results := [.lit (.bool true)], args := [d1, d2] }
  | _ => none }
def contactScenesRow : OpenClaim := { program := "ytbolfnkgbjkbjaagreat", sum := "d97c2c2528df27e6a7057bca98962a5f1ce83f012d6cdb8ce1f7c725c07626e6", func := "besom/besomlaw05.ContactScenes", spec := "contactScenes", inPlace := ["math/bits.Add64", "math/bits.Sub64"], unfollowed := true, recurses := true, named := ["math/bits.divideError", "math/bits.overflowError"], plainKeys := false, apart := false }
def ContactScenesSaid : Prop := contactScenesRow.holds Tryz.pinned (OpenSpec.ofChange contactScenesSpec)

/-- ITS FALSE NEIGHBOUR: 'it returns false'. Refute it at one input. -/
def contactScenesWrong : ChangeSpec := { name := "contactScenes", fn := fun _ => fun
  | [d1, d2] => { results := [.lit (.bool false)], args := [d1, d2] }
  | _ => none }
def ContactScenesWrongFalsely : Prop := contactScenesRow.holds Tryz.pinned (OpenSpec.ofChange contactScenesWrong)

/-- 'besomtop.TopPairs': WHATEVER THE INPUT: true; the input reads as it did. -/
def topPairsSpec : ChangeSpec := { name := "topPairs", fn := fun _ => fun
  | [d1, d2, d3, d4] => { results := [.lit (.bool true)], args := [d1, d2, d3, d4] }
  | _ => none }
def topPairsRow : OpenClaim := { program := "ytbolfnkgbjkbjaagreat", sum := "d97c2c2528df27e6a7057bca98962a5f1ce83f012d6cdb8ce1f7c725c07626e6", func := "besom/besomtop.TopPairs", spec := "topPairs", inPlace := ["math/bits.Add64", "math/bits.Sub64"], unfollowed := true, recurses := true, named := ["math/bits.divideError", "math/bits.overflowError"], plainKeys := false, apart := false }
def TopPairsSaid : Prop := topPairsRow.holds Tryz.pinned (OpenSpec.ofChange topPairsSpec)

/-- ITS FALSE NEIGHBOUR: 'it returns false'. Refute it at one input. -/
def topPairsWrong : ChangeSpec := { name := "topPairs", fn := fun _ => fun
  | [d1, d2, d3, d4] => { results := [.lit (.bool false)], args := [d1, d2, d3, d4] }
  | _ => none }
def TopPairsWrongFalsely : Prop := topPairsRow.holds Tryz.pinned (OpenSpec.ofChange topPairsWrong)

/-- 'besomtop.TopParted': WHATEVER THE INPUT: true; the input reads as it did. -/
def topPartedSpec : ChangeSpec := { name := "topParted", fn := fun _ => fun
  | [d1, d2, d3, d4] => { results := [.lit (.bool true)], args := [d1, d2, d3, d4] }
  | _ => none }
def topPartedRow : OpenClaim := { program := "ytbolfnkgbjkbjaagreat", sum := "d97c2c2528df27e6a7057bca98962a5f1ce83f012d6cdb8ce1f7c725c07626e6", func := "besom/besomtop.TopParted", spec := "topParted", inPlace := ["math/bits.Add64", "math/bits.Sub64"], unfollowed := true, recurses := true, named := ["math/bits.divideError", "math/bits.overflowError"], plainKeys := false, apart := false }
def TopPartedSaid : Prop := topPartedRow.holds Tryz.pinned (OpenSpec.ofChange topPartedSpec)

/-- ITS FALSE NEIGHBOUR: 'it returns false'. Refute it at one input. -/
def topPartedWrong : ChangeSpec := { name := "topParted", fn := fun _ => fun
  | [d1, d2, d3, d4] => { results := [.lit (.bool false)], args := [d1, d2, d3, d4] }
  | _ => none }
def TopPartedWrongFalsely : Prop := topPartedRow.holds Tryz.pinned (OpenSpec.ofChange topPartedWrong)

/-- 'besomlaw05.ContactTicks': WHATEVER THE INPUT: true; the input reads as it did. -/
def contactTicksSpec : ChangeSpec := { name := "contactTicks", fn := fun _ => fun
  | [d1, d2, d3] => { results := [.lit (.bool true)], args := [d1, d2, d3] }
  | _ => none }
def contactTicksRow : OpenClaim := { program := "ytbolfnkgbjkbjaagreat", sum := "d97c2c2528df27e6a7057bca98962a5f1ce83f012d6cdb8ce1f7c725c07626e6", func := "besom/besomlaw05.ContactTicks", spec := "contactTicks", inPlace := ["math/bits.Add64", "math/bits.Sub64"], unfollowed := true, recurses := true, named := ["math/bits.divideError", "math/bits.overflowError"], plainKeys := false, apart := false }
def ContactTicksSaid : Prop := contactTicksRow.holds Tryz.pinned (OpenSpec.ofChange contactTicksSpec)

/-- ITS FALSE NEIGHBOUR: 'it returns false'. Refute it at one input. -/
def contactTicksWrong : ChangeSpec := { name := "contactTicks", fn := fun _ => fun
  | [d1, d2, d3] => { results := [.lit (.bool false)], args := [d1, d2, d3] }
  | _ => none }
def ContactTicksWrongFalsely : Prop := contactTicksRow.holds Tryz.pinned (OpenSpec.ofChange contactTicksWrong)

/-- 'besomlaw05.ContactSums': WHATEVER THE INPUT: true; the input reads as it did. -/
def contactSumsSpec : ChangeSpec := { name := "contactSums", fn := fun _ => fun
  | [d1, d2] => { results := [.lit (.bool true)], args := [d1, d2] }
  | _ => none }
def contactSumsRow : OpenClaim := { program := "ytbolfnkgbjkbjaagreat", sum := "d97c2c2528df27e6a7057bca98962a5f1ce83f012d6cdb8ce1f7c725c07626e6", func := "besom/besomlaw05.ContactSums", spec := "contactSums", inPlace := ["math/bits.Add64", "math/bits.Sub64"], unfollowed := true, recurses := true, named := ["math/bits.divideError", "math/bits.overflowError"], plainKeys := false, apart := false }
def ContactSumsSaid : Prop := contactSumsRow.holds Tryz.pinned (OpenSpec.ofChange contactSumsSpec)

/-- ITS FALSE NEIGHBOUR: 'it returns false'. Refute it at one input. -/
def contactSumsWrong : ChangeSpec := { name := "contactSums", fn := fun _ => fun
  | [d1, d2] => { results := [.lit (.bool false)], args := [d1, d2] }
  | _ => none }
def ContactSumsWrongFalsely : Prop := contactSumsRow.holds Tryz.pinned (OpenSpec.ofChange contactSumsWrong)

/-- 'besomlaw05.ContactShots': WHATEVER THE INPUT: true; the input reads as it did. -/
def contactShotsSpec : ChangeSpec := { name := "contactShots", fn := fun _ => fun
  | [d1, d2, d3] => { results := [.lit (.bool true)], args := [d1, d2, d3] }
  | _ => none }
def contactShotsRow : OpenClaim := { program := "ytbolfnkgbjkbjaagreat", sum := "d97c2c2528df27e6a7057bca98962a5f1ce83f012d6cdb8ce1f7c725c07626e6", func := "besom/besomlaw05.ContactShots", spec := "contactShots", inPlace := ["math/bits.Add64", "math/bits.Sub64"], unfollowed := true, recurses := true, named := ["math/bits.divideError", "math/bits.overflowError"], plainKeys := false, apart := false }
def ContactShotsSaid : Prop := contactShotsRow.holds Tryz.pinned (OpenSpec.ofChange contactShotsSpec)

/-- ITS FALSE NEIGHBOUR: 'it returns false'. Refute it at one input. -/
def contactShotsWrong : ChangeSpec := { name := "contactShots", fn := fun _ => fun
  | [d1, d2, d3] => { results := [.lit (.bool false)], args := [d1, d2, d3] }
  | _ => none }
def ContactShotsWrongFalsely : Prop := contactShotsRow.holds Tryz.pinned (OpenSpec.ofChange contactShotsWrong)

/-- 'besomlaw05.ContactAlone': WHATEVER THE INPUT: true; the input reads as it did. -/
def contactAloneSpec : ChangeSpec := { name := "contactAlone", fn := fun _ => fun
  | [d1, d2, d3] => { results := [.lit (.bool true)], args := [d1, d2, d3] }
  | _ => none }
def contactAloneRow : OpenClaim := { program := "ytbolfnkgbjkbjaagreat", sum := "d97c2c2528df27e6a7057bca98962a5f1ce83f012d6cdb8ce1f7c725c07626e6", func := "besom/besomlaw05.ContactAlone", spec := "contactAlone", inPlace := ["math/bits.Add64", "math/bits.Sub64"], unfollowed := true, recurses := true, named := ["math/bits.divideError", "math/bits.overflowError"], plainKeys := false, apart := false }
def ContactAloneSaid : Prop := contactAloneRow.holds Tryz.pinned (OpenSpec.ofChange contactAloneSpec)

/-- ITS FALSE NEIGHBOUR: 'it returns false'. Refute it at one input. -/
def contactAloneWrong : ChangeSpec := { name := "contactAlone", fn := fun _ => fun
  | [d1, d2, d3] => { results := [.lit (.bool false)], args := [d1, d2, d3] }
  | _ => none }
def ContactAloneWrongFalsely : Prop := contactAloneRow.holds Tryz.pinned (OpenSpec.ofChange contactAloneWrong)

/-- 'besomlaw05.ContactMirrors': WHATEVER THE INPUT: true; the input reads as it did. -/
def contactMirrorsSpec : ChangeSpec := { name := "contactMirrors", fn := fun _ => fun
  | [d1, d2, d3, d4, d5] => { results := [.lit (.bool true)], args := [d1, d2, d3, d4, d5] }
  | _ => none }
def contactMirrorsRow : OpenClaim := { program := "ytbolfnkgbjkbjaagreat", sum := "d97c2c2528df27e6a7057bca98962a5f1ce83f012d6cdb8ce1f7c725c07626e6", func := "besom/besomlaw05.ContactMirrors", spec := "contactMirrors", inPlace := ["math/bits.Add64", "math/bits.Sub64"], unfollowed := true, recurses := true, named := ["math/bits.divideError", "math/bits.overflowError"], plainKeys := false, apart := false }
def ContactMirrorsSaid : Prop := contactMirrorsRow.holds Tryz.pinned (OpenSpec.ofChange contactMirrorsSpec)

/-- ITS FALSE NEIGHBOUR: 'it returns false'. Refute it at one input. -/
def contactMirrorsWrong : ChangeSpec := { name := "contactMirrors", fn := fun _ => fun
  | [d1, d2, d3, d4, d5] => { results := [.lit (.bool false)], args := [d1, d2, d3, d4, d5] }
  | _ => none }
def ContactMirrorsWrongFalsely : Prop := contactMirrorsRow.holds Tryz.pinned (OpenSpec.ofChange contactMirrorsWrong)

/-- 'besomlaw05.ContactPlaced': WHATEVER THE INPUT: true; the input reads as it did. -/
def contactPlacedSpec : ChangeSpec := { name := "contactPlaced", fn := fun _ => fun
  | [d1, d2, d3] => { results := [.lit (.bool true)], args := [d1, d2, d3] }
  | _ => none }
def contactPlacedRow : OpenClaim := { program := "ytbolfnkgbjkbjaagreat", sum := "d97c2c2528df27e6a7057bca98962a5f1ce83f012d6cdb8ce1f7c725c07626e6", func := "besom/besomlaw05.ContactPlaced", spec := "contactPlaced", inPlace := ["math/bits.Add64", "math/bits.Sub64"], unfollowed := true, recurses := true, named := ["math/bits.divideError", "math/bits.overflowError"], plainKeys := false, apart := false }
def ContactPlacedSaid : Prop := contactPlacedRow.holds Tryz.pinned (OpenSpec.ofChange contactPlacedSpec)

/-- ITS FALSE NEIGHBOUR: 'it returns false'. Refute it at one input. -/
def contactPlacedWrong : ChangeSpec := { name := "contactPlaced", fn := fun _ => fun
  | [d1, d2, d3] => { results := [.lit (.bool false)], args := [d1, d2, d3] }
  | _ => none }
def ContactPlacedWrongFalsely : Prop := contactPlacedRow.holds Tryz.pinned (OpenSpec.ofChange contactPlacedWrong)

/- THE SECOND FORM. 'bulk': how many values and letters a reading holds, each counted each time it is reached (what is shared counts as often as it is met; a slice's spare places count too). A statement '..UptoSaid' is the law's where the arguments, and the package variables that the reading takes, are together of bulk at most 1048576: NARROWER than '..Said'. Prove '..Said' where nothing that the law and all that it calls make is longer than what came in: it says more and counts as full. Else prove '..UptoSaid'. A law counts once. -/
mutual
def uptoBulk {H : Type} : DataW H → Nat
  | .lit (.string bytes) => bytes.length + 1
  | .lit _ => 1
  | .nil => 1
  | .ptr d => uptoBulk d + 1
  | .slice elems spare => uptoBulkAll elems + uptoBulkAll spare + 1
  | .agg parts => uptoBulkAll parts + 1
  | .iface _ d => uptoBulk d + 1
  | .map entries => uptoBulkEntries entries + 1
  | .held _ => 1
def uptoBulkAll {H : Type} : List (DataW H) → Nat
  | [] => 0
  | d :: r => uptoBulk d + uptoBulkAll r
def uptoBulkEntries {H : Type} : List (Lit × DataW H) → Nat
  | [] => 0
  | x :: r => uptoBulkEntry x + uptoBulkEntries r
def uptoBulkEntry {H : Type} : Lit × DataW H → Nat
  | (.string bytes, d) => bytes.length + uptoBulk d + 1
  | (_, d) => uptoBulk d + 1
 end
def uptoSmall : (H : Type) → List (DataW H) → Bool := fun _ ds => decide (uptoBulkAll ds ≤ 1048576)
def OpenSpec.upto (s : _root_.Go.ChangeSpec) : _root_.Go.OpenSpec := { _root_.Go.OpenSpec.ofChange s with cond := some uptoSmall }

/-- 'besomlaw05.ContactPairs', WHERE WHAT IT READS IS OF BULK AT MOST 1048576: true; the input reads as it did. -/
def contactPairsUptoRow : OpenClaim := { program := "ytbolfnkgbjkbjaagreat", sum := "d97c2c2528df27e6a7057bca98962a5f1ce83f012d6cdb8ce1f7c725c07626e6", func := "besom/besomlaw05.ContactPairs", spec := "contactPairs", inPlace := ["math/bits.Add64", "math/bits.Sub64"], unfollowed := true, recurses := true, named := ["math/bits.divideError", "math/bits.overflowError"], plainKeys := false, apart := false, narrowed := true }
def ContactPairsUptoSaid : Prop := contactPairsUptoRow.holds Tryz.pinned (OpenSpec.upto contactPairsSpec)

/-- 'besomlaw05.ContactScenes', WHERE WHAT IT READS IS OF BULK AT MOST 1048576: true; the input reads as it did. -/
def contactScenesUptoRow : OpenClaim := { program := "ytbolfnkgbjkbjaagreat", sum := "d97c2c2528df27e6a7057bca98962a5f1ce83f012d6cdb8ce1f7c725c07626e6", func := "besom/besomlaw05.ContactScenes", spec := "contactScenes", inPlace := ["math/bits.Add64", "math/bits.Sub64"], unfollowed := true, recurses := true, named := ["math/bits.divideError", "math/bits.overflowError"], plainKeys := false, apart := false, narrowed := true }
def ContactScenesUptoSaid : Prop := contactScenesUptoRow.holds Tryz.pinned (OpenSpec.upto contactScenesSpec)

/-- 'besomtop.TopPairs', WHERE WHAT IT READS IS OF BULK AT MOST 1048576: true; the input reads as it did. -/
def topPairsUptoRow : OpenClaim := { program := "ytbolfnkgbjkbjaagreat", sum := "d97c2c2528df27e6a7057bca98962a5f1ce83f012d6cdb8ce1f7c725c07626e6", func := "besom/besomtop.TopPairs", spec := "topPairs", inPlace := ["math/bits.Add64", "math/bits.Sub64"], unfollowed := true, recurses := true, named := ["math/bits.divideError", "math/bits.overflowError"], plainKeys := false, apart := false, narrowed := true }
def TopPairsUptoSaid : Prop := topPairsUptoRow.holds Tryz.pinned (OpenSpec.upto topPairsSpec)

/-- 'besomtop.TopParted', WHERE WHAT IT READS IS OF BULK AT MOST 1048576: true; the input reads as it did. -/
def topPartedUptoRow : OpenClaim := { program := "ytbolfnkgbjkbjaagreat", sum := "d97c2c2528df27e6a7057bca98962a5f1ce83f012d6cdb8ce1f7c725c07626e6", func := "besom/besomtop.TopParted", spec := "topParted", inPlace := ["math/bits.Add64", "math/bits.Sub64"], unfollowed := true, recurses := true, named := ["math/bits.divideError", "math/bits.overflowError"], plainKeys := false, apart := false, narrowed := true }
def TopPartedUptoSaid : Prop := topPartedUptoRow.holds Tryz.pinned (OpenSpec.upto topPartedSpec)

/-- 'besomlaw05.ContactTicks', WHERE WHAT IT READS IS OF BULK AT MOST 1048576: true; the input reads as it did. -/
def contactTicksUptoRow : OpenClaim := { program := "ytbolfnkgbjkbjaagreat", sum := "d97c2c2528df27e6a7057bca98962a5f1ce83f012d6cdb8ce1f7c725c07626e6", func := "besom/besomlaw05.ContactTicks", spec := "contactTicks", inPlace := ["math/bits.Add64", "math/bits.Sub64"], unfollowed := true, recurses := true, named := ["math/bits.divideError", "math/bits.overflowError"], plainKeys := false, apart := false, narrowed := true }
def ContactTicksUptoSaid : Prop := contactTicksUptoRow.holds Tryz.pinned (OpenSpec.upto contactTicksSpec)

/-- 'besomlaw05.ContactSums', WHERE WHAT IT READS IS OF BULK AT MOST 1048576: true; the input reads as it did. -/
def contactSumsUptoRow : OpenClaim := { program := "ytbolfnkgbjkbjaagreat", sum := "d97c2c2528df27e6a7057bca98962a5f1ce83f012d6cdb8ce1f7c725c07626e6", func := "besom/besomlaw05.ContactSums", spec := "contactSums", inPlace := ["math/bits.Add64", "math/bits.Sub64"], unfollowed := true, recurses := true, named := ["math/bits.divideError", "math/bits.overflowError"], plainKeys := false, apart := false, narrowed := true }
def ContactSumsUptoSaid : Prop := contactSumsUptoRow.holds Tryz.pinned (OpenSpec.upto contactSumsSpec)

/-- 'besomlaw05.ContactShots', WHERE WHAT IT READS IS OF BULK AT MOST 1048576: true; the input reads as it did. -/
def contactShotsUptoRow : OpenClaim := { program := "ytbolfnkgbjkbjaagreat", sum := "d97c2c2528df27e6a7057bca98962a5f1ce83f012d6cdb8ce1f7c725c07626e6", func := "besom/besomlaw05.ContactShots", spec := "contactShots", inPlace := ["math/bits.Add64", "math/bits.Sub64"], unfollowed := true, recurses := true, named := ["math/bits.divideError", "math/bits.overflowError"], plainKeys := false, apart := false, narrowed := true }
def ContactShotsUptoSaid : Prop := contactShotsUptoRow.holds Tryz.pinned (OpenSpec.upto contactShotsSpec)

/-- 'besomlaw05.ContactAlone', WHERE WHAT IT READS IS OF BULK AT MOST 1048576: true; the input reads as it did. -/
def contactAloneUptoRow : OpenClaim := { program := "ytbolfnkgbjkbjaagreat", sum := "d97c2c2528df27e6a7057bca98962a5f1ce83f012d6cdb8ce1f7c725c07626e6", func := "besom/besomlaw05.ContactAlone", spec := "contactAlone", inPlace := ["math/bits.Add64", "math/bits.Sub64"], unfollowed := true, recurses := true, named := ["math/bits.divideError", "math/bits.overflowError"], plainKeys := false, apart := false, narrowed := true }
def ContactAloneUptoSaid : Prop := contactAloneUptoRow.holds Tryz.pinned (OpenSpec.upto contactAloneSpec)

/-- 'besomlaw05.ContactMirrors', WHERE WHAT IT READS IS OF BULK AT MOST 1048576: true; the input reads as it did. -/
def contactMirrorsUptoRow : OpenClaim := { program := "ytbolfnkgbjkbjaagreat", sum := "d97c2c2528df27e6a7057bca98962a5f1ce83f012d6cdb8ce1f7c725c07626e6", func := "besom/besomlaw05.ContactMirrors", spec := "contactMirrors", inPlace := ["math/bits.Add64", "math/bits.Sub64"], unfollowed := true, recurses := true, named := ["math/bits.divideError", "math/bits.overflowError"], plainKeys := false, apart := false, narrowed := true }
def ContactMirrorsUptoSaid : Prop := contactMirrorsUptoRow.holds Tryz.pinned (OpenSpec.upto contactMirrorsSpec)

/-- 'besomlaw05.ContactPlaced', WHERE WHAT IT READS IS OF BULK AT MOST 1048576: true; the input reads as it did. -/
def contactPlacedUptoRow : OpenClaim := { program := "ytbolfnkgbjkbjaagreat", sum := "d97c2c2528df27e6a7057bca98962a5f1ce83f012d6cdb8ce1f7c725c07626e6", func := "besom/besomlaw05.ContactPlaced", spec := "contactPlaced", inPlace := ["math/bits.Add64", "math/bits.Sub64"], unfollowed := true, recurses := true, named := ["math/bits.divideError", "math/bits.overflowError"], plainKeys := false, apart := false, narrowed := true }
def ContactPlacedUptoSaid : Prop := contactPlacedUptoRow.holds Tryz.pinned (OpenSpec.upto contactPlacedSpec)

end Rows
end Go.Proofs.YtbolfnkgbjkbjaaGreat
