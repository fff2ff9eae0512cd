/-
  No cell of these rows narrows 'for every input' (looked for: loops, veiled, ifaces, maps, wideKeys, modest, calm, conditions, laid).
  DERIVED. THE GIVEN ROWS OF THIS SEAT. 14 by the template 'for every input the law returns true; each argument reads behind the call as it read before'; 0 by the template 'total and deterministic' (their statements: YtdfplhoijapoeaaTotals.lean).
  GIVEN WITH THE SEED: the statements are not yours to turn. If you find one false, say at which input.
  Laid BY PROGRAM, IN A SANDBOX (cutbox-rows.mjs): the forced cells as the released guide's own fill.sh prints them over the translation 6fd83a7276498e79… (all of the seat's roots in one cut). By AI agents, Wed Nov 11 2026. No macro, syntax, notation, axiom, sorry.
-/
import Derived.Test.YtdfplhoijapoeaaChecked
import GoSem.Claim
import GoSem.ClaimJoined
import GoSem.ClaimMapViews
import Derived.JoinedTies
import Derived.KernelRfl
namespace Go.Proofs.Ytdfplhoijapoeaa
/- THE CELL 'sum', in the pinned program and in every row, IS THE sha256 OF THE DUMP (.gsa) THAT YtdfplhoijapoeaaProg.lean LOADS. Nothing in Lean hashes anything: it is a label: what it is worth is what the hold of that sum in a sandbox is worth. -/
noncomputable def Try.pinned : Pinned := { name := "ytdfplhoijapoeaa", sum := "6fd83a7276498e7935b41e8dce62f4d2c2aeae94ea9b46fe39aefb7f7aee7acb", checked := Try.checked }
namespace Rows
def none {H : Type} : Left H := { results := [], args := [] }

/-- 'cloisterlaw01.LabelPairs': WHATEVER THE INPUT: true; the input reads as it did. -/
def labelPairsSpec : ChangeSpec := { name := "labelPairs", fn := fun _ => fun
  | [d1, d2] => { results := [.lit (.bool true)], args := [d1, d2] }
  | _ => none }
def labelPairsRow : OpenClaim := { program := "ytdfplhoijapoeaa", sum := "6fd83a7276498e7935b41e8dce62f4d2c2aeae94ea9b46fe39aefb7f7aee7acb", func := "cloister/cloisterlaw01.LabelPairs", spec := "labelPairs", plainKeys := false, apart := false }
def LabelPairsSaid : Prop := labelPairsRow.holds Try.pinned (OpenSpec.ofChange labelPairsSpec)

/-- ITS FALSE NEIGHBOUR: 'it returns false'. Refute it at one input. -/
def labelPairsWrong : ChangeSpec := { name := "labelPairs", fn := fun _ => fun
  | [d1, d2] => { results := [.lit (.bool false)], args := [d1, d2] }
  | _ => none }
def LabelPairsWrongFalsely : Prop := labelPairsRow.holds Try.pinned (OpenSpec.ofChange labelPairsWrong)

/-- 'cloisterlaw01.LabelMay': WHATEVER THE INPUT: true; the input reads as it did. -/
def labelMaySpec : ChangeSpec := { name := "labelMay", fn := fun _ => fun
  | [d] => { results := [.lit (.bool true)], args := [d] }
  | _ => none }
def labelMayRow : OpenClaim := { program := "ytdfplhoijapoeaa", sum := "6fd83a7276498e7935b41e8dce62f4d2c2aeae94ea9b46fe39aefb7f7aee7acb", func := "cloister/cloisterlaw01.LabelMay", spec := "labelMay", plainKeys := false, apart := false }
def LabelMaySaid : Prop := labelMayRow.holds Try.pinned (OpenSpec.ofChange labelMaySpec)

/-- ITS FALSE NEIGHBOUR: 'it returns false'. Refute it at one input. -/
def labelMayWrong : ChangeSpec := { name := "labelMay", fn := fun _ => fun
  | [d] => { results := [.lit (.bool false)], args := [d] }
  | _ => none }
def LabelMayWrongFalsely : Prop := labelMayRow.holds Try.pinned (OpenSpec.ofChange labelMayWrong)

/-- 'cloisterlaw01.LabelHeights': WHATEVER THE INPUT: true; the input reads as it did. -/
def labelHeightsSpec : ChangeSpec := { name := "labelHeights", fn := fun _ => fun
  | [d] => { results := [.lit (.bool true)], args := [d] }
  | _ => none }
def labelHeightsRow : OpenClaim := { program := "ytdfplhoijapoeaa", sum := "6fd83a7276498e7935b41e8dce62f4d2c2aeae94ea9b46fe39aefb7f7aee7acb", func := "cloister/cloisterlaw01.LabelHeights", spec := "labelHeights", unfollowed := true, recurses := true, plainKeys := false, apart := false }
def LabelHeightsSaid : Prop := labelHeightsRow.holds Try.pinned (OpenSpec.ofChange labelHeightsSpec)

/-- ITS FALSE NEIGHBOUR: 'it returns false'. Refute it at one input. -/
def labelHeightsWrong : ChangeSpec := { name := "labelHeights", fn := fun _ => fun
  | [d] => { results := [.lit (.bool false)], args := [d] }
  | _ => none }
def LabelHeightsWrongFalsely : Prop := labelHeightsRow.holds Try.pinned (OpenSpec.ofChange labelHeightsWrong)

/-- 'cloisterlaw01.LabelNames': WHATEVER THE INPUT: true; the input reads as it did. -/
def labelNamesSpec : ChangeSpec := { name := "labelNames", fn := fun _ => fun
  | [] => { results := [.lit (.bool true)], args := [] }
  | _ => none }
def labelNamesRow : OpenClaim := { program := "ytdfplhoijapoeaa", sum := "6fd83a7276498e7935b41e8dce62f4d2c2aeae94ea9b46fe39aefb7f7aee7acb", func := "cloister/cloisterlaw01.LabelNames", spec := "labelNames", unfollowed := true, recurses := true, plainKeys := false, apart := false }
def LabelNamesSaid : Prop := labelNamesRow.holds Try.pinned (OpenSpec.ofChange labelNamesSpec)

/-- ITS FALSE NEIGHBOUR: 'it returns false'. Refute it at one input. -/
def labelNamesWrong : ChangeSpec := { name := "labelNames", fn := fun _ => fun
  | [] => { results := [.lit (.bool false)], args := [] }
  | _ => none }
def LabelNamesWrongFalsely : Prop := labelNamesRow.holds Try.pinned (OpenSpec.ofChange labelNamesWrong)

/-- 'cloisterlaw01.LabelLattice': WHATEVER THE INPUT: true; the input reads as it did. -/
def labelLatticeSpec : ChangeSpec := { name := "labelLattice", fn := fun _ => fun
  | [d1, d2, d3] => { results := [.lit (.bool true)], args := [d1, d2, d3] }
  | _ => none }
def labelLatticeRow : OpenClaim := { program := "ytdfplhoijapoeaa", sum := "6fd83a7276498e7935b41e8dce62f4d2c2aeae94ea9b46fe39aefb7f7aee7acb", func := "cloister/cloisterlaw01.LabelLattice", spec := "labelLattice", unfollowed := true, recurses := true, plainKeys := false, apart := false }
def LabelLatticeSaid : Prop := labelLatticeRow.holds Try.pinned (OpenSpec.ofChange labelLatticeSpec)

/-- ITS FALSE NEIGHBOUR: 'it returns false'. Refute it at one input. -/
def labelLatticeWrong : ChangeSpec := { name := "labelLattice", fn := fun _ => fun
  | [d1, d2, d3] => { results := [.lit (.bool false)], args := [d1, d2, d3] }
  | _ => none }
def LabelLatticeWrongFalsely : Prop := labelLatticeRow.holds Try.pinned (OpenSpec.ofChange labelLatticeWrong)

/-- 'cloisterlaw01.LabelChecks': WHATEVER THE INPUT: true; the input reads as it did. -/
def labelChecksSpec : ChangeSpec := { name := "labelChecks", fn := fun _ => fun
  | [d] => { results := [.lit (.bool true)], args := [d] }
  | _ => none }
def labelChecksRow : OpenClaim := { program := "ytdfplhoijapoeaa", sum := "6fd83a7276498e7935b41e8dce62f4d2c2aeae94ea9b46fe39aefb7f7aee7acb", func := "cloister/cloisterlaw01.LabelChecks", spec := "labelChecks", unfollowed := true, recurses := true, plainKeys := false, apart := false }
def LabelChecksSaid : Prop := labelChecksRow.holds Try.pinned (OpenSpec.ofChange labelChecksSpec)

/-- ITS FALSE NEIGHBOUR: 'it returns false'. Refute it at one input. -/
def labelChecksWrong : ChangeSpec := { name := "labelChecks", fn := fun _ => fun
  | [d] => { results := [.lit (.bool false)], args := [d] }
  | _ => none }
def LabelChecksWrongFalsely : Prop := labelChecksRow.holds Try.pinned (OpenSpec.ofChange labelChecksWrong)

/-- 'cloisterlaw01.LabelCovers': WHATEVER THE INPUT: true; the input reads as it did. -/
def labelCoversSpec : ChangeSpec := { name := "labelCovers", fn := fun _ => fun
  | [d] => { results := [.lit (.bool true)], args := [d] }
  | _ => none }
def labelCoversRow : OpenClaim := { program := "ytdfplhoijapoeaa", sum := "6fd83a7276498e7935b41e8dce62f4d2c2aeae94ea9b46fe39aefb7f7aee7acb", func := "cloister/cloisterlaw01.LabelCovers", spec := "labelCovers", unfollowed := true, recurses := true, plainKeys := false, apart := false }
def LabelCoversSaid : Prop := labelCoversRow.holds Try.pinned (OpenSpec.ofChange labelCoversSpec)

/-- ITS FALSE NEIGHBOUR: 'it returns false'. Refute it at one input. -/
def labelCoversWrong : ChangeSpec := { name := "labelCovers", fn := fun _ => fun
  | [d] => { results := [.lit (.bool false)], args := [d] }
  | _ => none }
def LabelCoversWrongFalsely : Prop := labelCoversRow.holds Try.pinned (OpenSpec.ofChange labelCoversWrong)

/-- 'cloisterlaw01.LabelCloses': WHATEVER THE INPUT: true; the input reads as it did. -/
def labelClosesSpec : ChangeSpec := { name := "labelCloses", fn := fun _ => fun
  | [d] => { results := [.lit (.bool true)], args := [d] }
  | _ => none }
def labelClosesRow : OpenClaim := { program := "ytdfplhoijapoeaa", sum := "6fd83a7276498e7935b41e8dce62f4d2c2aeae94ea9b46fe39aefb7f7aee7acb", func := "cloister/cloisterlaw01.LabelCloses", spec := "labelCloses", unfollowed := true, recurses := true, plainKeys := false, apart := false }
def LabelClosesSaid : Prop := labelClosesRow.holds Try.pinned (OpenSpec.ofChange labelClosesSpec)

/-- ITS FALSE NEIGHBOUR: 'it returns false'. Refute it at one input. -/
def labelClosesWrong : ChangeSpec := { name := "labelCloses", fn := fun _ => fun
  | [d] => { results := [.lit (.bool false)], args := [d] }
  | _ => none }
def LabelClosesWrongFalsely : Prop := labelClosesRow.holds Try.pinned (OpenSpec.ofChange labelClosesWrong)

/-- 'cloisterlaw01.LabelKeepsLists': WHATEVER THE INPUT: true; the input reads as it did. -/
def labelKeepsListsSpec : ChangeSpec := { name := "labelKeepsLists", fn := fun _ => fun
  | [d1, d2] => { results := [.lit (.bool true)], args := [d1, d2] }
  | _ => none }
def labelKeepsListsRow : OpenClaim := { program := "ytdfplhoijapoeaa", sum := "6fd83a7276498e7935b41e8dce62f4d2c2aeae94ea9b46fe39aefb7f7aee7acb", func := "cloister/cloisterlaw01.LabelKeepsLists", spec := "labelKeepsLists", unfollowed := true, recurses := true, plainKeys := false, apart := false }
def LabelKeepsListsSaid : Prop := labelKeepsListsRow.holds Try.pinned (OpenSpec.ofChange labelKeepsListsSpec)

/-- ITS FALSE NEIGHBOUR: 'it returns false'. Refute it at one input. -/
def labelKeepsListsWrong : ChangeSpec := { name := "labelKeepsLists", fn := fun _ => fun
  | [d1, d2] => { results := [.lit (.bool false)], args := [d1, d2] }
  | _ => none }
def LabelKeepsListsWrongFalsely : Prop := labelKeepsListsRow.holds Try.pinned (OpenSpec.ofChange labelKeepsListsWrong)

/-- 'cloisterlaw01.LabelCloseLeast': WHATEVER THE INPUT: true; the input reads as it did. -/
def labelCloseLeastSpec : ChangeSpec := { name := "labelCloseLeast", fn := fun _ => fun
  | [d1, d2] => { results := [.lit (.bool true)], args := [d1, d2] }
  | _ => none }
def labelCloseLeastRow : OpenClaim := { program := "ytdfplhoijapoeaa", sum := "6fd83a7276498e7935b41e8dce62f4d2c2aeae94ea9b46fe39aefb7f7aee7acb", func := "cloister/cloisterlaw01.LabelCloseLeast", spec := "labelCloseLeast", unfollowed := true, recurses := true, plainKeys := false, apart := false }
def LabelCloseLeastSaid : Prop := labelCloseLeastRow.holds Try.pinned (OpenSpec.ofChange labelCloseLeastSpec)

/-- ITS FALSE NEIGHBOUR: 'it returns false'. Refute it at one input. -/
def labelCloseLeastWrong : ChangeSpec := { name := "labelCloseLeast", fn := fun _ => fun
  | [d1, d2] => { results := [.lit (.bool false)], args := [d1, d2] }
  | _ => none }
def LabelCloseLeastWrongFalsely : Prop := labelCloseLeastRow.holds Try.pinned (OpenSpec.ofChange labelCloseLeastWrong)

/-- 'cloisterlaw01.LabelPlaces': WHATEVER THE INPUT: true; the input reads as it did. -/
def labelPlacesSpec : ChangeSpec := { name := "labelPlaces", fn := fun _ => fun
  | [d1, d2] => { results := [.lit (.bool true)], args := [d1, d2] }
  | _ => none }
def labelPlacesRow : OpenClaim := { program := "ytdfplhoijapoeaa", sum := "6fd83a7276498e7935b41e8dce62f4d2c2aeae94ea9b46fe39aefb7f7aee7acb", func := "cloister/cloisterlaw01.LabelPlaces", spec := "labelPlaces", unfollowed := true, recurses := true, plainKeys := false, apart := false }
def LabelPlacesSaid : Prop := labelPlacesRow.holds Try.pinned (OpenSpec.ofChange labelPlacesSpec)

/-- ITS FALSE NEIGHBOUR: 'it returns false'. Refute it at one input. -/
def labelPlacesWrong : ChangeSpec := { name := "labelPlaces", fn := fun _ => fun
  | [d1, d2] => { results := [.lit (.bool false)], args := [d1, d2] }
  | _ => none }
def LabelPlacesWrongFalsely : Prop := labelPlacesRow.holds Try.pinned (OpenSpec.ofChange labelPlacesWrong)

/-- 'cloisterlaw01.LabelLeaves': WHATEVER THE INPUT: true; the input reads as it did. -/
def labelLeavesSpec : ChangeSpec := { name := "labelLeaves", fn := fun _ => fun
  | [d1, d2] => { results := [.lit (.bool true)], args := [d1, d2] }
  | _ => none }
def labelLeavesRow : OpenClaim := { program := "ytdfplhoijapoeaa", sum := "6fd83a7276498e7935b41e8dce62f4d2c2aeae94ea9b46fe39aefb7f7aee7acb", func := "cloister/cloisterlaw01.LabelLeaves", spec := "labelLeaves", unfollowed := true, recurses := true, plainKeys := false, apart := false }
def LabelLeavesSaid : Prop := labelLeavesRow.holds Try.pinned (OpenSpec.ofChange labelLeavesSpec)

/-- ITS FALSE NEIGHBOUR: 'it returns false'. Refute it at one input. -/
def labelLeavesWrong : ChangeSpec := { name := "labelLeaves", fn := fun _ => fun
  | [d1, d2] => { results := [.lit (.bool false)], args := [d1, d2] }
  | _ => none }
def LabelLeavesWrongFalsely : Prop := labelLeavesRow.holds Try.pinned (OpenSpec.ofChange labelLeavesWrong)

/-- 'cloisterlaw01.LabelWays': WHATEVER THE INPUT: true; the input reads as it did. -/
def labelWaysSpec : ChangeSpec := { name := "labelWays", fn := fun _ => fun
  | [d1, d2, d3] => { results := [.lit (.bool true)], args := [d1, d2, d3] }
  | _ => none }
def labelWaysRow : OpenClaim := { program := "ytdfplhoijapoeaa", sum := "6fd83a7276498e7935b41e8dce62f4d2c2aeae94ea9b46fe39aefb7f7aee7acb", func := "cloister/cloisterlaw01.LabelWays", spec := "labelWays", unfollowed := true, recurses := true, plainKeys := false, apart := false }
def LabelWaysSaid : Prop := labelWaysRow.holds Try.pinned (OpenSpec.ofChange labelWaysSpec)

/-- ITS FALSE NEIGHBOUR: 'it returns false'. Refute it at one input. -/
def labelWaysWrong : ChangeSpec := { name := "labelWays", fn := fun _ => fun
  | [d1, d2, d3] => { results := [.lit (.bool false)], args := [d1, d2, d3] }
  | _ => none }
def LabelWaysWrongFalsely : Prop := labelWaysRow.holds Try.pinned (OpenSpec.ofChange labelWaysWrong)

/-- 'cloisterlaw01.LabelKeeps': WHATEVER THE INPUT: true; the input reads as it did. -/
def labelKeepsSpec : ChangeSpec := { name := "labelKeeps", fn := fun _ => fun
  | [d1, d2, d3] => { results := [.lit (.bool true)], args := [d1, d2, d3] }
  | _ => none }
def labelKeepsRow : OpenClaim := { program := "ytdfplhoijapoeaa", sum := "6fd83a7276498e7935b41e8dce62f4d2c2aeae94ea9b46fe39aefb7f7aee7acb", func := "cloister/cloisterlaw01.LabelKeeps", spec := "labelKeeps", unfollowed := true, recurses := true, plainKeys := false, apart := false }
def LabelKeepsSaid : Prop := labelKeepsRow.holds Try.pinned (OpenSpec.ofChange labelKeepsSpec)

/-- ITS FALSE NEIGHBOUR: 'it returns false'. Refute it at one input. -/
def labelKeepsWrong : ChangeSpec := { name := "labelKeeps", fn := fun _ => fun
  | [d1, d2, d3] => { results := [.lit (.bool false)], args := [d1, d2, d3] }
  | _ => none }
def LabelKeepsWrongFalsely : Prop := labelKeepsRow.holds Try.pinned (OpenSpec.ofChange labelKeepsWrong)

/- THE SECOND FORM. 'bulk': how many values and letters a reading holds, each counted each time it is reached (what is shared counts as often as it is met; a slice's spare places count too). A statement '..UptoSaid' is the law's where the arguments, and the package variables that the reading takes, are together of bulk at most 1048576: NARROWER than '..Said'. Prove '..Said' where nothing that the law and all that it calls make is longer than what came in: it says more and counts as full. Else prove '..UptoSaid'. A law counts once. -/
mutual
def uptoBulk {H : Type} : DataW H → Nat
  | .lit (.string bytes) => bytes.length + 1
  | .lit _ => 1
  | .nil => 1
  | .ptr d => uptoBulk d + 1
  | .slice elems spare => uptoBulkAll elems + uptoBulkAll spare + 1
  | .agg parts => uptoBulkAll parts + 1
  | .iface _ d => uptoBulk d + 1
  | .map entries => uptoBulkEntries entries + 1
  | .held _ => 1
def uptoBulkAll {H : Type} : List (DataW H) → Nat
  | [] => 0
  | d :: r => uptoBulk d + uptoBulkAll r
def uptoBulkEntries {H : Type} : List (Lit × DataW H) → Nat
  | [] => 0
  | x :: r => uptoBulkEntry x + uptoBulkEntries r
def uptoBulkEntry {H : Type} : Lit × DataW H → Nat
  | (.string bytes, d) => bytes.length + uptoBulk d + 1
  | (_, d) => uptoBulk d + 1
 end
def uptoSmall : (H : Type) → List (DataW H) → Bool := fun _ ds => decide (uptoBulkAll ds ≤ 1048576)
def OpenSpec.upto (s : _root_.Go.ChangeSpec) : _root_.Go.OpenSpec := { _root_.Go.OpenSpec.ofChange s with cond := some uptoSmall }

/-- 'cloisterlaw01.LabelPairs', WHERE WHAT IT READS IS OF BULK AT MOST 1048576: true; the input reads as it did. -/
def labelPairsUptoRow : OpenClaim := { program := "ytdfplhoijapoeaa", sum := "6fd83a7276498e7935b41e8dce62f4d2c2aeae94ea9b46fe39aefb7f7aee7acb", func := "cloister/cloisterlaw01.LabelPairs", spec := "labelPairs", plainKeys := false, apart := false, narrowed := true }
def LabelPairsUptoSaid : Prop := labelPairsUptoRow.holds Try.pinned (OpenSpec.upto labelPairsSpec)

/-- 'cloisterlaw01.LabelMay', WHERE WHAT IT READS IS OF BULK AT MOST 1048576: true; the input reads as it did. -/
def labelMayUptoRow : OpenClaim := { program := "ytdfplhoijapoeaa", sum := "6fd83a7276498e7935b41e8dce62f4d2c2aeae94ea9b46fe39aefb7f7aee7acb", func := "cloister/cloisterlaw01.LabelMay", spec := "labelMay", plainKeys := false, apart := false, narrowed := true }
def LabelMayUptoSaid : Prop := labelMayUptoRow.holds Try.pinned (OpenSpec.upto labelMaySpec)

/-- 'cloisterlaw01.LabelHeights', WHERE WHAT IT READS IS OF BULK AT MOST 1048576: true; the input reads as it did. -/
def labelHeightsUptoRow : OpenClaim := { program := "ytdfplhoijapoeaa", sum := "6fd83a7276498e7935b41e8dce62f4d2c2aeae94ea9b46fe39aefb7f7aee7acb", func := "cloister/cloisterlaw01.LabelHeights", spec := "labelHeights", unfollowed := true, recurses := true, plainKeys := false, apart := false, narrowed := true }
def LabelHeightsUptoSaid : Prop := labelHeightsUptoRow.holds Try.pinned (OpenSpec.upto labelHeightsSpec)

/-- 'cloisterlaw01.LabelNames', WHERE WHAT IT READS IS OF BULK AT MOST 1048576: true; the input reads as it did. -/
def labelNamesUptoRow : OpenClaim := { program := "ytdfplhoijapoeaa", sum := "6fd83a7276498e7935b41e8dce62f4d2c2aeae94ea9b46fe39aefb7f7aee7acb", func := "cloister/cloisterlaw01.LabelNames", spec := "labelNames", unfollowed := true, recurses := true, plainKeys := false, apart := false, narrowed := true }
def LabelNamesUptoSaid : Prop := labelNamesUptoRow.holds Try.pinned (OpenSpec.upto labelNamesSpec)

/-- 'cloisterlaw01.LabelLattice', WHERE WHAT IT READS IS OF BULK AT MOST 1048576: true; the input reads as it did. -/
def labelLatticeUptoRow : OpenClaim := { program := "ytdfplhoijapoeaa", sum := "6fd83a7276498e7935b41e8dce62f4d2c2aeae94ea9b46fe39aefb7f7aee7acb", func := "cloister/cloisterlaw01.LabelLattice", spec := "labelLattice", unfollowed := true, recurses := true, plainKeys := false, apart := false, narrowed := true }
def LabelLatticeUptoSaid : Prop := labelLatticeUptoRow.holds Try.pinned (OpenSpec.upto labelLatticeSpec)

/-- 'cloisterlaw01.LabelChecks', WHERE WHAT IT READS IS OF BULK AT MOST 1048576: true; the input reads as it did. -/
def labelChecksUptoRow : OpenClaim := { program := "ytdfplhoijapoeaa", sum := "6fd83a7276498e7935b41e8dce62f4d2c2aeae94ea9b46fe39aefb7f7aee7acb", func := "cloister/cloisterlaw01.LabelChecks", spec := "labelChecks", unfollowed := true, recurses := true, plainKeys := false, apart := false, narrowed := true }
def LabelChecksUptoSaid : Prop := labelChecksUptoRow.holds Try.pinned (OpenSpec.upto labelChecksSpec)

/-- 'cloisterlaw01.LabelCovers', WHERE WHAT IT READS IS OF BULK AT MOST 1048576: true; the input reads as it did. -/
def labelCoversUptoRow : OpenClaim := { program := "ytdfplhoijapoeaa", sum := "6fd83a7276498e7935b41e8dce62f4d2c2aeae94ea9b46fe39aefb7f7aee7acb", func := "cloister/cloisterlaw01.LabelCovers", spec := "labelCovers", unfollowed := true, recurses := true, plainKeys := false, apart := false, narrowed := true }
def LabelCoversUptoSaid : Prop := labelCoversUptoRow.holds Try.pinned (OpenSpec.upto labelCoversSpec)

/-- 'cloisterlaw01.LabelCloses', WHERE WHAT IT READS IS OF BULK AT MOST 1048576: true; the input reads as it did. -/
def labelClosesUptoRow : OpenClaim := { program := "ytdfplhoijapoeaa", sum := "6fd83a7276498e7935b41e8dce62f4d2c2aeae94ea9b46fe39aefb7f7aee7acb", func := "cloister/cloisterlaw01.LabelCloses", spec := "labelCloses", unfollowed := true, recurses := true, plainKeys := false, apart := false, narrowed := true }
def LabelClosesUptoSaid : Prop := labelClosesUptoRow.holds Try.pinned (OpenSpec.upto labelClosesSpec)

/-- 'cloisterlaw01.LabelKeepsLists', WHERE WHAT IT READS IS OF BULK AT MOST 1048576: true; the input reads as it did. -/
def labelKeepsListsUptoRow : OpenClaim := { program := "ytdfplhoijapoeaa", sum := "6fd83a7276498e7935b41e8dce62f4d2c2aeae94ea9b46fe39aefb7f7aee7acb", func := "cloister/cloisterlaw01.LabelKeepsLists", spec := "labelKeepsLists", unfollowed := true, recurses := true, plainKeys := false, apart := false, narrowed := true }
def LabelKeepsListsUptoSaid : Prop := labelKeepsListsUptoRow.holds Try.pinned (OpenSpec.upto labelKeepsListsSpec)

/-- 'cloisterlaw01.LabelCloseLeast', WHERE WHAT IT READS IS OF BULK AT MOST 1048576: true; the input reads as it did. -/
def labelCloseLeastUptoRow : OpenClaim := { program := "ytdfplhoijapoeaa", sum := "6fd83a7276498e7935b41e8dce62f4d2c2aeae94ea9b46fe39aefb7f7aee7acb", func := "cloister/cloisterlaw01.LabelCloseLeast", spec := "labelCloseLeast", unfollowed := true, recurses := true, plainKeys := false, apart := false, narrowed := true }
def LabelCloseLeastUptoSaid : Prop := labelCloseLeastUptoRow.holds Try.pinned (OpenSpec.upto labelCloseLeastSpec)

/-- 'cloisterlaw01.LabelPlaces', WHERE WHAT IT READS IS OF BULK AT MOST 1048576: true; the input reads as it did. -/
def labelPlacesUptoRow : OpenClaim := { program := "ytdfplhoijapoeaa", sum := "6fd83a7276498e7935b41e8dce62f4d2c2aeae94ea9b46fe39aefb7f7aee7acb", func := "cloister/cloisterlaw01.LabelPlaces", spec := "labelPlaces", unfollowed := true, recurses := true, plainKeys := false, apart := false, narrowed := true }
def LabelPlacesUptoSaid : Prop := labelPlacesUptoRow.holds Try.pinned (OpenSpec.upto labelPlacesSpec)

/-- 'cloisterlaw01.LabelLeaves', WHERE WHAT IT READS IS OF BULK AT MOST 1048576: true; the input reads as it did. -/
def labelLeavesUptoRow : OpenClaim := { program := "ytdfplhoijapoeaa", sum := "6fd83a7276498e7935b41e8dce62f4d2c2aeae94ea9b46fe39aefb7f7aee7acb", func := "cloister/cloisterlaw01.LabelLeaves", spec := "labelLeaves", unfollowed := true, recurses := true, plainKeys := false, apart := false, narrowed := true }
def LabelLeavesUptoSaid : Prop := labelLeavesUptoRow.holds Try.pinned (OpenSpec.upto labelLeavesSpec)

/-- 'cloisterlaw01.LabelWays', WHERE WHAT IT READS IS OF BULK AT MOST 1048576: true; the input reads as it did. -/
def labelWaysUptoRow : OpenClaim := { program := "ytdfplhoijapoeaa", sum := "6fd83a7276498e7935b41e8dce62f4d2c2aeae94ea9b46fe39aefb7f7aee7acb", func := "cloister/cloisterlaw01.LabelWays", spec := "labelWays", unfollowed := true, recurses := true, plainKeys := false, apart := false, narrowed := true }
def LabelWaysUptoSaid : Prop := labelWaysUptoRow.holds Try.pinned (OpenSpec.upto labelWaysSpec)

/-- 'cloisterlaw01.LabelKeeps', WHERE WHAT IT READS IS OF BULK AT MOST 1048576: true; the input reads as it did. -/
def labelKeepsUptoRow : OpenClaim := { program := "ytdfplhoijapoeaa", sum := "6fd83a7276498e7935b41e8dce62f4d2c2aeae94ea9b46fe39aefb7f7aee7acb", func := "cloister/cloisterlaw01.LabelKeeps", spec := "labelKeeps", unfollowed := true, recurses := true, plainKeys := false, apart := false, narrowed := true }
def LabelKeepsUptoSaid : Prop := labelKeepsUptoRow.holds Try.pinned (OpenSpec.upto labelKeepsSpec)

end Rows
end Go.Proofs.Ytdfplhoijapoeaa
