/-
  No cell of these rows narrows 'for every input' (looked for: loops, veiled, ifaces, maps, wideKeys, modest, calm, conditions, laid).
  DERIVED. THE GIVEN ROWS OF THIS SEAT. 7 by the template 'for every input the law returns true; each argument reads behind the call as it read before'; 0 by the template 'total and deterministic' (their statements: YtecppcgleidhkaaTotals.lean).
  GIVEN WITH THE SEED: the statements are not yours to turn. If you find one false, say at which input.
  Laid BY PROGRAM, IN A SANDBOX (cutbox-rows.mjs): the forced cells as the released guide's own fill.sh prints them over the translation 5cab8ea2ae56076a… (all of the seat's roots in one cut). By AI agents, Wed Nov 11 2026. No macro, syntax, notation, axiom, sorry.
-/
import Derived.Test.YtecppcgleidhkaaChecked
import GoSem.Claim
import GoSem.ClaimJoined
import GoSem.ClaimMapViews
import Derived.JoinedTies
import Derived.KernelRfl
namespace Go.Proofs.Ytecppcgleidhkaa
/- THE CELL 'sum', in the pinned program and in every row, IS THE sha256 OF THE DUMP (.gsa) THAT YtecppcgleidhkaaProg.lean LOADS. Nothing in Lean hashes anything: it is a label: what it is worth is what the hold of that sum in a sandbox is worth. -/
noncomputable def Try.pinned : Pinned := { name := "ytecppcgleidhkaa", sum := "5cab8ea2ae56076a8b577509432651c4f72dddd197ba6a18a19520cae63c5f3b", checked := Try.checked }
namespace Rows
def none {H : Type} : Left H := { results := [], args := [] }

/-- 'cloisterlaw27.GaugeOrder': WHATEVER THE INPUT: true; the input reads as it did. -/
def gaugeOrderSpec : ChangeSpec := { name := "gaugeOrder", fn := fun _ => fun
  | [d1, d2, d3] => { results := [.lit (.bool true)], args := [d1, d2, d3] }
  | _ => none }
def gaugeOrderRow : OpenClaim := { program := "ytecppcgleidhkaa", sum := "5cab8ea2ae56076a8b577509432651c4f72dddd197ba6a18a19520cae63c5f3b", func := "cloister/cloisterlaw27.GaugeOrder", spec := "gaugeOrder", inPlace := ["math.Float64bits"], unfollowed := true, recurses := true, apart := false }
def GaugeOrderSaid : Prop := gaugeOrderRow.holds Try.pinned (OpenSpec.ofChange gaugeOrderSpec)

/-- ITS FALSE NEIGHBOUR: 'it returns false'. Refute it at one input. -/
def gaugeOrderWrong : ChangeSpec := { name := "gaugeOrder", fn := fun _ => fun
  | [d1, d2, d3] => { results := [.lit (.bool false)], args := [d1, d2, d3] }
  | _ => none }
def GaugeOrderWrongFalsely : Prop := gaugeOrderRow.holds Try.pinned (OpenSpec.ofChange gaugeOrderWrong)

/-- 'cloisterlaw27.GaugeBetween': WHATEVER THE INPUT: true; the input reads as it did. -/
def gaugeBetweenSpec : ChangeSpec := { name := "gaugeBetween", fn := fun _ => fun
  | [d] => { results := [.lit (.bool true)], args := [d] }
  | _ => none }
def gaugeBetweenRow : OpenClaim := { program := "ytecppcgleidhkaa", sum := "5cab8ea2ae56076a8b577509432651c4f72dddd197ba6a18a19520cae63c5f3b", func := "cloister/cloisterlaw27.GaugeBetween", spec := "gaugeBetween", inPlace := ["math.Float64bits"], unfollowed := true, recurses := true, apart := false }
def GaugeBetweenSaid : Prop := gaugeBetweenRow.holds Try.pinned (OpenSpec.ofChange gaugeBetweenSpec)

/-- ITS FALSE NEIGHBOUR: 'it returns false'. Refute it at one input. -/
def gaugeBetweenWrong : ChangeSpec := { name := "gaugeBetween", fn := fun _ => fun
  | [d] => { results := [.lit (.bool false)], args := [d] }
  | _ => none }
def GaugeBetweenWrongFalsely : Prop := gaugeBetweenRow.holds Try.pinned (OpenSpec.ofChange gaugeBetweenWrong)

/-- 'cloisterlaw27.GaugeScript': WHATEVER THE INPUT: true; the input reads as it did. -/
def gaugeScriptSpec : ChangeSpec := { name := "gaugeScript", fn := fun _ => fun
  | [d] => { results := [.lit (.bool true)], args := [d] }
  | _ => none }
def gaugeScriptRow : OpenClaim := { program := "ytecppcgleidhkaa", sum := "5cab8ea2ae56076a8b577509432651c4f72dddd197ba6a18a19520cae63c5f3b", func := "cloister/cloisterlaw27.GaugeScript", spec := "gaugeScript", inPlace := ["math.Float64bits"], unfollowed := true, recurses := true, apart := false }
def GaugeScriptSaid : Prop := gaugeScriptRow.holds Try.pinned (OpenSpec.ofChange gaugeScriptSpec)

/-- ITS FALSE NEIGHBOUR: 'it returns false'. Refute it at one input. -/
def gaugeScriptWrong : ChangeSpec := { name := "gaugeScript", fn := fun _ => fun
  | [d] => { results := [.lit (.bool false)], args := [d] }
  | _ => none }
def GaugeScriptWrongFalsely : Prop := gaugeScriptRow.holds Try.pinned (OpenSpec.ofChange gaugeScriptWrong)

/-- 'cloisterlaw27.GaugeMeasure': WHATEVER THE INPUT: true; the input reads as it did. -/
def gaugeMeasureSpec : ChangeSpec := { name := "gaugeMeasure", fn := fun _ => fun
  | [d1, d2, d3] => { results := [.lit (.bool true)], args := [d1, d2, d3] }
  | _ => none }
def gaugeMeasureRow : OpenClaim := { program := "ytecppcgleidhkaa", sum := "5cab8ea2ae56076a8b577509432651c4f72dddd197ba6a18a19520cae63c5f3b", func := "cloister/cloisterlaw27.GaugeMeasure", spec := "gaugeMeasure", inPlace := ["math.Float64bits"], unfollowed := true, recurses := true, apart := false }
def GaugeMeasureSaid : Prop := gaugeMeasureRow.holds Try.pinned (OpenSpec.ofChange gaugeMeasureSpec)

/-- ITS FALSE NEIGHBOUR: 'it returns false'. Refute it at one input. -/
def gaugeMeasureWrong : ChangeSpec := { name := "gaugeMeasure", fn := fun _ => fun
  | [d1, d2, d3] => { results := [.lit (.bool false)], args := [d1, d2, d3] }
  | _ => none }
def GaugeMeasureWrongFalsely : Prop := gaugeMeasureRow.holds Try.pinned (OpenSpec.ofChange gaugeMeasureWrong)

/-- 'cloisterlaw27.GaugePieces': WHATEVER THE INPUT: true; the input reads as it did. -/
def gaugePiecesSpec : ChangeSpec := { name := "gaugePieces", fn := fun _ => fun
  | [d] => { results := [.lit (.bool true)], args := [d] }
  | _ => none }
def gaugePiecesRow : OpenClaim := { program := "ytecppcgleidhkaa", sum := "5cab8ea2ae56076a8b577509432651c4f72dddd197ba6a18a19520cae63c5f3b", func := "cloister/cloisterlaw27.GaugePieces", spec := "gaugePieces", inPlace := ["math.Float64bits"], unfollowed := true, recurses := true, apart := false }
def GaugePiecesSaid : Prop := gaugePiecesRow.holds Try.pinned (OpenSpec.ofChange gaugePiecesSpec)

/-- ITS FALSE NEIGHBOUR: 'it returns false'. Refute it at one input. -/
def gaugePiecesWrong : ChangeSpec := { name := "gaugePieces", fn := fun _ => fun
  | [d] => { results := [.lit (.bool false)], args := [d] }
  | _ => none }
def GaugePiecesWrongFalsely : Prop := gaugePiecesRow.holds Try.pinned (OpenSpec.ofChange gaugePiecesWrong)

/-- 'cloisterlaw27.GaugeMoved': WHATEVER THE INPUT: true; the input reads as it did. -/
def gaugeMovedSpec : ChangeSpec := { name := "gaugeMoved", fn := fun _ => fun
  | [d1, d2, d3] => { results := [.lit (.bool true)], args := [d1, d2, d3] }
  | _ => none }
def gaugeMovedRow : OpenClaim := { program := "ytecppcgleidhkaa", sum := "5cab8ea2ae56076a8b577509432651c4f72dddd197ba6a18a19520cae63c5f3b", func := "cloister/cloisterlaw27.GaugeMoved", spec := "gaugeMoved", inPlace := ["math.Float64bits"], unfollowed := true, recurses := true, apart := false }
def GaugeMovedSaid : Prop := gaugeMovedRow.holds Try.pinned (OpenSpec.ofChange gaugeMovedSpec)

/-- ITS FALSE NEIGHBOUR: 'it returns false'. Refute it at one input. -/
def gaugeMovedWrong : ChangeSpec := { name := "gaugeMoved", fn := fun _ => fun
  | [d1, d2, d3] => { results := [.lit (.bool false)], args := [d1, d2, d3] }
  | _ => none }
def GaugeMovedWrongFalsely : Prop := gaugeMovedRow.holds Try.pinned (OpenSpec.ofChange gaugeMovedWrong)

/-- 'cloisterlaw27.GaugeLeaves': WHATEVER THE INPUT: true; the input reads as it did. -/
def gaugeLeavesSpec : ChangeSpec := { name := "gaugeLeaves", fn := fun _ => fun
  | [d1, d2] => { results := [.lit (.bool true)], args := [d1, d2] }
  | _ => none }
def gaugeLeavesRow : OpenClaim := { program := "ytecppcgleidhkaa", sum := "5cab8ea2ae56076a8b577509432651c4f72dddd197ba6a18a19520cae63c5f3b", func := "cloister/cloisterlaw27.GaugeLeaves", spec := "gaugeLeaves", inPlace := ["math.Float64bits"], unfollowed := true, recurses := true, apart := false }
def GaugeLeavesSaid : Prop := gaugeLeavesRow.holds Try.pinned (OpenSpec.ofChange gaugeLeavesSpec)

/-- ITS FALSE NEIGHBOUR: 'it returns false'. Refute it at one input. -/
def gaugeLeavesWrong : ChangeSpec := { name := "gaugeLeaves", fn := fun _ => fun
  | [d1, d2] => { results := [.lit (.bool false)], args := [d1, d2] }
  | _ => none }
def GaugeLeavesWrongFalsely : Prop := gaugeLeavesRow.holds Try.pinned (OpenSpec.ofChange gaugeLeavesWrong)

/- THE SECOND FORM. 'bulk': how many values and letters a reading holds, each counted each time it is reached (what is shared counts as often as it is met; a slice's spare places count too). A statement '..UptoSaid' is the law's where the arguments, and the package variables that the reading takes, are together of bulk at most 1048576: NARROWER than '..Said'. Prove '..Said' where nothing that the law and all that it calls make is longer than what came in: it says more and counts as full. Else prove '..UptoSaid'. A law counts once. -/
mutual
def uptoBulk {H : Type} : DataW H → Nat
  | .lit (.string bytes) => bytes.length + 1
  | .lit _ => 1
  | .nil => 1
  | .ptr d => uptoBulk d + 1
  | .slice elems spare => uptoBulkAll elems + uptoBulkAll spare + 1
  | .agg parts => uptoBulkAll parts + 1
  | .iface _ d => uptoBulk d + 1
  | .map entries => uptoBulkEntries entries + 1
  | .held _ => 1
def uptoBulkAll {H : Type} : List (DataW H) → Nat
  | [] => 0
  | d :: r => uptoBulk d + uptoBulkAll r
def uptoBulkEntries {H : Type} : List (Lit × DataW H) → Nat
  | [] => 0
  | x :: r => uptoBulkEntry x + uptoBulkEntries r
def uptoBulkEntry {H : Type} : Lit × DataW H → Nat
  | (.string bytes, d) => bytes.length + uptoBulk d + 1
  | (_, d) => uptoBulk d + 1
 end
def uptoSmall : (H : Type) → List (DataW H) → Bool := fun _ ds => decide (uptoBulkAll ds ≤ 1048576)
def OpenSpec.upto (s : _root_.Go.ChangeSpec) : _root_.Go.OpenSpec := { _root_.Go.OpenSpec.ofChange s with cond := some uptoSmall }

/-- 'cloisterlaw27.GaugeOrder', WHERE WHAT IT READS IS OF BULK AT MOST 1048576: true; the input reads as it did. -/
def gaugeOrderUptoRow : OpenClaim := { program := "ytecppcgleidhkaa", sum := "5cab8ea2ae56076a8b577509432651c4f72dddd197ba6a18a19520cae63c5f3b", func := "cloister/cloisterlaw27.GaugeOrder", spec := "gaugeOrder", inPlace := ["math.Float64bits"], unfollowed := true, recurses := true, apart := false, narrowed := true }
def GaugeOrderUptoSaid : Prop := gaugeOrderUptoRow.holds Try.pinned (OpenSpec.upto gaugeOrderSpec)

/-- 'cloisterlaw27.GaugeBetween', WHERE WHAT IT READS IS OF BULK AT MOST 1048576: true; the input reads as it did. -/
def gaugeBetweenUptoRow : OpenClaim := { program := "ytecppcgleidhkaa", sum := "5cab8ea2ae56076a8b577509432651c4f72dddd197ba6a18a19520cae63c5f3b", func := "cloister/cloisterlaw27.GaugeBetween", spec := "gaugeBetween", inPlace := ["math.Float64bits"], unfollowed := true, recurses := true, apart := false, narrowed := true }
def GaugeBetweenUptoSaid : Prop := gaugeBetweenUptoRow.holds Try.pinned (OpenSpec.upto gaugeBetweenSpec)

/-- 'cloisterlaw27.GaugeScript', WHERE WHAT IT READS IS OF BULK AT MOST 1048576: true; the input reads as it did. -/
def gaugeScriptUptoRow : OpenClaim := { program := "ytecppcgleidhkaa", sum := "5cab8ea2ae56076a8b577509432651c4f72dddd197ba6a18a19520cae63c5f3b", func := "cloister/cloisterlaw27.GaugeScript", spec := "gaugeScript", inPlace := ["math.Float64bits"], unfollowed := true, recurses := true, apart := false, narrowed := true }
def GaugeScriptUptoSaid : Prop := gaugeScriptUptoRow.holds Try.pinned (OpenSpec.upto gaugeScriptSpec)

/-- 'cloisterlaw27.GaugeMeasure', WHERE WHAT IT READS IS OF BULK AT MOST 1048576: true; the input reads as it did. -/
def gaugeMeasureUptoRow : OpenClaim := { program := "ytecppcgleidhkaa", sum := "5cab8ea2ae56076a8b577509432651c4f72dddd197ba6a18a19520cae63c5f3b", func := "cloister/cloisterlaw27.GaugeMeasure", spec := "gaugeMeasure", inPlace := ["math.Float64bits"], unfollowed := true, recurses := true, apart := false, narrowed := true }
def GaugeMeasureUptoSaid : Prop := gaugeMeasureUptoRow.holds Try.pinned (OpenSpec.upto gaugeMeasureSpec)

/-- 'cloisterlaw27.GaugePieces', WHERE WHAT IT READS IS OF BULK AT MOST 1048576: true; the input reads as it did. -/
def gaugePiecesUptoRow : OpenClaim := { program := "ytecppcgleidhkaa", sum := "5cab8ea2ae56076a8b577509432651c4f72dddd197ba6a18a19520cae63c5f3b", func := "cloister/cloisterlaw27.GaugePieces", spec := "gaugePieces", inPlace := ["math.Float64bits"], unfollowed := true, recurses := true, apart := false, narrowed := true }
def GaugePiecesUptoSaid : Prop := gaugePiecesUptoRow.holds Try.pinned (OpenSpec.upto gaugePiecesSpec)

/-- 'cloisterlaw27.GaugeMoved', WHERE WHAT IT READS IS OF BULK AT MOST 1048576: true; the input reads as it did. -/
def gaugeMovedUptoRow : OpenClaim := { program := "ytecppcgleidhkaa", sum := "5cab8ea2ae56076a8b577509432651c4f72dddd197ba6a18a19520cae63c5f3b", func := "cloister/cloisterlaw27.GaugeMoved", spec := "gaugeMoved", inPlace := ["math.Float64bits"], unfollowed := true, recurses := true, apart := false, narrowed := true }
def GaugeMovedUptoSaid : Prop := gaugeMovedUptoRow.holds Try.pinned (OpenSpec.upto gaugeMovedSpec)

/-- 'cloisterlaw27.GaugeLeaves', WHERE WHAT IT READS IS OF BULK AT MOST 1048576: true; the input reads as it did. -/
def gaugeLeavesUptoRow : OpenClaim := { program := "ytecppcgleidhkaa", sum := "5cab8ea2ae56076a8b577509432651c4f72dddd197ba6a18a19520cae63c5f3b", func := "cloister/cloisterlaw27.GaugeLeaves", spec := "gaugeLeaves", inPlace := ["math.Float64bits"], unfollowed := true, recurses := true, apart := false, narrowed := true }
def GaugeLeavesUptoSaid : Prop := gaugeLeavesUptoRow.holds Try.pinned (OpenSpec.upto gaugeLeavesSpec)

end Rows
end Go.Proofs.Ytecppcgleidhkaa
