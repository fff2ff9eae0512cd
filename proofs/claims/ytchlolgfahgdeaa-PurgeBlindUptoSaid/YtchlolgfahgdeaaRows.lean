/-
  No cell of these rows narrows 'for every input' (looked for: loops, veiled, ifaces, maps, wideKeys, modest, calm, conditions, laid).
  DERIVED. THE GIVEN ROWS OF THIS SEAT. 11 by the template 'for every input the law returns true; each argument reads behind the call as it read before'; 0 by the template 'total and deterministic' (their statements: YtchlolgfahgdeaaTotals.lean).
  GIVEN WITH THE SEED: the statements are not yours to turn. If you find one false, say at which input.
  Laid BY PROGRAM, IN A SANDBOX (cutbox-rows.mjs): the forced cells as the released guide's own fill.sh prints them over the translation d1e72f2a0d126672… (all of the seat's roots in one cut). By AI agents, Wed Nov 11 2026. No macro, syntax, notation, axiom, sorry.
-/
import Derived.Test.YtchlolgfahgdeaaChecked
import GoSem.Claim
import GoSem.ClaimJoined
import GoSem.ClaimMapViews
import Derived.JoinedTies
import Derived.KernelRfl
namespace Go.Proofs.Ytchlolgfahgdeaa
/- THE CELL 'sum', in the pinned program and in every row, IS THE sha256 OF THE DUMP (.gsa) THAT YtchlolgfahgdeaaProg.lean LOADS. Nothing in Lean hashes anything: it is a label: what it is worth is what the hold of that sum in a sandbox is worth. -/
noncomputable def Try.pinned : Pinned := { name := "ytchlolgfahgdeaa", sum := "d1e72f2a0d126672ec60154e6a9c64d315f3b0d17f3819a57d5ae4a8f12d9867", checked := Try.checked }
namespace Rows
def none {H : Type} : Left H := { results := [], args := [] }

/-- 'cloisterlaw25.PurgeNames': WHATEVER THE INPUT: true; the input reads as it did. -/
def purgeNamesSpec : ChangeSpec := { name := "purgeNames", fn := fun _ => fun
  | [] => { results := [.lit (.bool true)], args := [] }
  | _ => none }
def purgeNamesRow : OpenClaim := { program := "ytchlolgfahgdeaa", sum := "d1e72f2a0d126672ec60154e6a9c64d315f3b0d17f3819a57d5ae4a8f12d9867", func := "cloister/cloisterlaw25.PurgeNames", spec := "purgeNames", unfollowed := true, recurses := true, apart := false }
def PurgeNamesSaid : Prop := purgeNamesRow.holds Try.pinned (OpenSpec.ofChange purgeNamesSpec)

/-- ITS FALSE NEIGHBOUR: 'it returns false'. Refute it at one input. -/
def purgeNamesWrong : ChangeSpec := { name := "purgeNames", fn := fun _ => fun
  | [] => { results := [.lit (.bool false)], args := [] }
  | _ => none }
def PurgeNamesWrongFalsely : Prop := purgeNamesRow.holds Try.pinned (OpenSpec.ofChange purgeNamesWrong)

/-- 'cloisterlaw25.PurgeMays': WHATEVER THE INPUT: true; the input reads as it did. -/
def purgeMaysSpec : ChangeSpec := { name := "purgeMays", fn := fun _ => fun
  | [d1, d2] => { results := [.lit (.bool true)], args := [d1, d2] }
  | _ => none }
def purgeMaysRow : OpenClaim := { program := "ytchlolgfahgdeaa", sum := "d1e72f2a0d126672ec60154e6a9c64d315f3b0d17f3819a57d5ae4a8f12d9867", func := "cloister/cloisterlaw25.PurgeMays", spec := "purgeMays", unfollowed := true, recurses := true, apart := false }
def PurgeMaysSaid : Prop := purgeMaysRow.holds Try.pinned (OpenSpec.ofChange purgeMaysSpec)

/-- ITS FALSE NEIGHBOUR: 'it returns false'. Refute it at one input. -/
def purgeMaysWrong : ChangeSpec := { name := "purgeMays", fn := fun _ => fun
  | [d1, d2] => { results := [.lit (.bool false)], args := [d1, d2] }
  | _ => none }
def PurgeMaysWrongFalsely : Prop := purgeMaysRow.holds Try.pinned (OpenSpec.ofChange purgeMaysWrong)

/-- 'cloisterlaw25.PurgeIs': WHATEVER THE INPUT: true; the input reads as it did. -/
def purgeIsSpec : ChangeSpec := { name := "purgeIs", fn := fun _ => fun
  | [d1, d2, d3] => { results := [.lit (.bool true)], args := [d1, d2, d3] }
  | _ => none }
def purgeIsRow : OpenClaim := { program := "ytchlolgfahgdeaa", sum := "d1e72f2a0d126672ec60154e6a9c64d315f3b0d17f3819a57d5ae4a8f12d9867", func := "cloister/cloisterlaw25.PurgeIs", spec := "purgeIs", unfollowed := true, recurses := true, apart := false }
def PurgeIsSaid : Prop := purgeIsRow.holds Try.pinned (OpenSpec.ofChange purgeIsSpec)

/-- ITS FALSE NEIGHBOUR: 'it returns false'. Refute it at one input. -/
def purgeIsWrong : ChangeSpec := { name := "purgeIs", fn := fun _ => fun
  | [d1, d2, d3] => { results := [.lit (.bool false)], args := [d1, d2, d3] }
  | _ => none }
def PurgeIsWrongFalsely : Prop := purgeIsRow.holds Try.pinned (OpenSpec.ofChange purgeIsWrong)

/-- 'cloisterlaw25.PurgeStill': WHATEVER THE INPUT: true; the input reads as it did. -/
def purgeStillSpec : ChangeSpec := { name := "purgeStill", fn := fun _ => fun
  | [d1, d2] => { results := [.lit (.bool true)], args := [d1, d2] }
  | _ => none }
def purgeStillRow : OpenClaim := { program := "ytchlolgfahgdeaa", sum := "d1e72f2a0d126672ec60154e6a9c64d315f3b0d17f3819a57d5ae4a8f12d9867", func := "cloister/cloisterlaw25.PurgeStill", spec := "purgeStill", unfollowed := true, recurses := true, apart := false }
def PurgeStillSaid : Prop := purgeStillRow.holds Try.pinned (OpenSpec.ofChange purgeStillSpec)

/-- ITS FALSE NEIGHBOUR: 'it returns false'. Refute it at one input. -/
def purgeStillWrong : ChangeSpec := { name := "purgeStill", fn := fun _ => fun
  | [d1, d2] => { results := [.lit (.bool false)], args := [d1, d2] }
  | _ => none }
def PurgeStillWrongFalsely : Prop := purgeStillRow.holds Try.pinned (OpenSpec.ofChange purgeStillWrong)

/-- 'cloisterlaw25.PurgeSame': WHATEVER THE INPUT: true; the input reads as it did. -/
def purgeSameSpec : ChangeSpec := { name := "purgeSame", fn := fun _ => fun
  | [d1, d2] => { results := [.lit (.bool true)], args := [d1, d2] }
  | _ => none }
def purgeSameRow : OpenClaim := { program := "ytchlolgfahgdeaa", sum := "d1e72f2a0d126672ec60154e6a9c64d315f3b0d17f3819a57d5ae4a8f12d9867", func := "cloister/cloisterlaw25.PurgeSame", spec := "purgeSame", unfollowed := true, recurses := true, apart := false }
def PurgeSameSaid : Prop := purgeSameRow.holds Try.pinned (OpenSpec.ofChange purgeSameSpec)

/-- ITS FALSE NEIGHBOUR: 'it returns false'. Refute it at one input. -/
def purgeSameWrong : ChangeSpec := { name := "purgeSame", fn := fun _ => fun
  | [d1, d2] => { results := [.lit (.bool false)], args := [d1, d2] }
  | _ => none }
def PurgeSameWrongFalsely : Prop := purgeSameRow.holds Try.pinned (OpenSpec.ofChange purgeSameWrong)

/-- 'cloisterlaw25.PurgeTwice': WHATEVER THE INPUT: true; the input reads as it did. -/
def purgeTwiceSpec : ChangeSpec := { name := "purgeTwice", fn := fun _ => fun
  | [d1, d2, d3, d4] => { results := [.lit (.bool true)], args := [d1, d2, d3, d4] }
  | _ => none }
def purgeTwiceRow : OpenClaim := { program := "ytchlolgfahgdeaa", sum := "d1e72f2a0d126672ec60154e6a9c64d315f3b0d17f3819a57d5ae4a8f12d9867", func := "cloister/cloisterlaw25.PurgeTwice", spec := "purgeTwice", unfollowed := true, recurses := true, apart := false }
def PurgeTwiceSaid : Prop := purgeTwiceRow.holds Try.pinned (OpenSpec.ofChange purgeTwiceSpec)

/-- ITS FALSE NEIGHBOUR: 'it returns false'. Refute it at one input. -/
def purgeTwiceWrong : ChangeSpec := { name := "purgeTwice", fn := fun _ => fun
  | [d1, d2, d3, d4] => { results := [.lit (.bool false)], args := [d1, d2, d3, d4] }
  | _ => none }
def PurgeTwiceWrongFalsely : Prop := purgeTwiceRow.holds Try.pinned (OpenSpec.ofChange purgeTwiceWrong)

/-- 'cloisterlaw25.PurgeParts': WHATEVER THE INPUT: true; the input reads as it did. -/
def purgePartsSpec : ChangeSpec := { name := "purgeParts", fn := fun _ => fun
  | [d1, d2, d3, d4] => { results := [.lit (.bool true)], args := [d1, d2, d3, d4] }
  | _ => none }
def purgePartsRow : OpenClaim := { program := "ytchlolgfahgdeaa", sum := "d1e72f2a0d126672ec60154e6a9c64d315f3b0d17f3819a57d5ae4a8f12d9867", func := "cloister/cloisterlaw25.PurgeParts", spec := "purgeParts", unfollowed := true, recurses := true, apart := false }
def PurgePartsSaid : Prop := purgePartsRow.holds Try.pinned (OpenSpec.ofChange purgePartsSpec)

/-- ITS FALSE NEIGHBOUR: 'it returns false'. Refute it at one input. -/
def purgePartsWrong : ChangeSpec := { name := "purgeParts", fn := fun _ => fun
  | [d1, d2, d3, d4] => { results := [.lit (.bool false)], args := [d1, d2, d3, d4] }
  | _ => none }
def PurgePartsWrongFalsely : Prop := purgePartsRow.holds Try.pinned (OpenSpec.ofChange purgePartsWrong)

/-- 'cloisterlaw25.PurgeSlots': WHATEVER THE INPUT: true; the input reads as it did. -/
def purgeSlotsSpec : ChangeSpec := { name := "purgeSlots", fn := fun _ => fun
  | [d1, d2, d3] => { results := [.lit (.bool true)], args := [d1, d2, d3] }
  | _ => none }
def purgeSlotsRow : OpenClaim := { program := "ytchlolgfahgdeaa", sum := "d1e72f2a0d126672ec60154e6a9c64d315f3b0d17f3819a57d5ae4a8f12d9867", func := "cloister/cloisterlaw25.PurgeSlots", spec := "purgeSlots", unfollowed := true, recurses := true, apart := false }
def PurgeSlotsSaid : Prop := purgeSlotsRow.holds Try.pinned (OpenSpec.ofChange purgeSlotsSpec)

/-- ITS FALSE NEIGHBOUR: 'it returns false'. Refute it at one input. -/
def purgeSlotsWrong : ChangeSpec := { name := "purgeSlots", fn := fun _ => fun
  | [d1, d2, d3] => { results := [.lit (.bool false)], args := [d1, d2, d3] }
  | _ => none }
def PurgeSlotsWrongFalsely : Prop := purgeSlotsRow.holds Try.pinned (OpenSpec.ofChange purgeSlotsWrong)

/-- 'cloisterlaw25.PurgeBlind': WHATEVER THE INPUT: true; the input reads as it did. -/
def purgeBlindSpec : ChangeSpec := { name := "purgeBlind", fn := fun _ => fun
  | [d1, d2, d3, d4] => { results := [.lit (.bool true)], args := [d1, d2, d3, d4] }
  | _ => none }
def purgeBlindRow : OpenClaim := { program := "ytchlolgfahgdeaa", sum := "d1e72f2a0d126672ec60154e6a9c64d315f3b0d17f3819a57d5ae4a8f12d9867", func := "cloister/cloisterlaw25.PurgeBlind", spec := "purgeBlind", unfollowed := true, recurses := true, apart := false }
def PurgeBlindSaid : Prop := purgeBlindRow.holds Try.pinned (OpenSpec.ofChange purgeBlindSpec)

/-- ITS FALSE NEIGHBOUR: 'it returns false'. Refute it at one input. -/
def purgeBlindWrong : ChangeSpec := { name := "purgeBlind", fn := fun _ => fun
  | [d1, d2, d3, d4] => { results := [.lit (.bool false)], args := [d1, d2, d3, d4] }
  | _ => none }
def PurgeBlindWrongFalsely : Prop := purgeBlindRow.holds Try.pinned (OpenSpec.ofChange purgeBlindWrong)

/-- 'cloisterlaw25.PurgeCommutes': WHATEVER THE INPUT: true; the input reads as it did. -/
def purgeCommutesSpec : ChangeSpec := { name := "purgeCommutes", fn := fun _ => fun
  | [d1, d2, d3] => { results := [.lit (.bool true)], args := [d1, d2, d3] }
  | _ => none }
def purgeCommutesRow : OpenClaim := { program := "ytchlolgfahgdeaa", sum := "d1e72f2a0d126672ec60154e6a9c64d315f3b0d17f3819a57d5ae4a8f12d9867", func := "cloister/cloisterlaw25.PurgeCommutes", spec := "purgeCommutes", unfollowed := true, recurses := true, apart := false }
def PurgeCommutesSaid : Prop := purgeCommutesRow.holds Try.pinned (OpenSpec.ofChange purgeCommutesSpec)

/-- ITS FALSE NEIGHBOUR: 'it returns false'. Refute it at one input. -/
def purgeCommutesWrong : ChangeSpec := { name := "purgeCommutes", fn := fun _ => fun
  | [d1, d2, d3] => { results := [.lit (.bool false)], args := [d1, d2, d3] }
  | _ => none }
def PurgeCommutesWrongFalsely : Prop := purgeCommutesRow.holds Try.pinned (OpenSpec.ofChange purgeCommutesWrong)

/-- 'cloisterlaw25.PurgeKeeps': WHATEVER THE INPUT: true; the input reads as it did. -/
def purgeKeepsSpec : ChangeSpec := { name := "purgeKeeps", fn := fun _ => fun
  | [d1, d2, d3, d4] => { results := [.lit (.bool true)], args := [d1, d2, d3, d4] }
  | _ => none }
def purgeKeepsRow : OpenClaim := { program := "ytchlolgfahgdeaa", sum := "d1e72f2a0d126672ec60154e6a9c64d315f3b0d17f3819a57d5ae4a8f12d9867", func := "cloister/cloisterlaw25.PurgeKeeps", spec := "purgeKeeps", unfollowed := true, recurses := true, apart := false }
def PurgeKeepsSaid : Prop := purgeKeepsRow.holds Try.pinned (OpenSpec.ofChange purgeKeepsSpec)

/-- ITS FALSE NEIGHBOUR: 'it returns false'. Refute it at one input. -/
def purgeKeepsWrong : ChangeSpec := { name := "purgeKeeps", fn := fun _ => fun
  | [d1, d2, d3, d4] => { results := [.lit (.bool false)], args := [d1, d2, d3, d4] }
  | _ => none }
def PurgeKeepsWrongFalsely : Prop := purgeKeepsRow.holds Try.pinned (OpenSpec.ofChange purgeKeepsWrong)

/- THE SECOND FORM. 'bulk': how many values and letters a reading holds, each counted each time it is reached (what is shared counts as often as it is met; a slice's spare places count too). A statement '..UptoSaid' is the law's where the arguments, and the package variables that the reading takes, are together of bulk at most 1048576: NARROWER than '..Said'. Prove '..Said' where nothing that the law and all that it calls make is longer than what came in: it says more and counts as full. Else prove '..UptoSaid'. A law counts once. -/
mutual
def uptoBulk {H : Type} : DataW H → Nat
  | .lit (.string bytes) => bytes.length + 1
  | .lit _ => 1
  | .nil => 1
  | .ptr d => uptoBulk d + 1
  | .slice elems spare => uptoBulkAll elems + uptoBulkAll spare + 1
  | .agg parts => uptoBulkAll parts + 1
  | .iface _ d => uptoBulk d + 1
  | .map entries => uptoBulkEntries entries + 1
  | .held _ => 1
def uptoBulkAll {H : Type} : List (DataW H) → Nat
  | [] => 0
  | d :: r => uptoBulk d + uptoBulkAll r
def uptoBulkEntries {H : Type} : List (Lit × DataW H) → Nat
  | [] => 0
  | x :: r => uptoBulkEntry x + uptoBulkEntries r
def uptoBulkEntry {H : Type} : Lit × DataW H → Nat
  | (.string bytes, d) => bytes.length + uptoBulk d + 1
  | (_, d) => uptoBulk d + 1
 end
def uptoSmall : (H : Type) → List (DataW H) → Bool := fun _ ds => decide (uptoBulkAll ds ≤ 1048576)
def OpenSpec.upto (s : _root_.Go.ChangeSpec) : _root_.Go.OpenSpec := { _root_.Go.OpenSpec.ofChange s with cond := some uptoSmall }

/-- 'cloisterlaw25.PurgeNames', WHERE WHAT IT READS IS OF BULK AT MOST 1048576: true; the input reads as it did. -/
def purgeNamesUptoRow : OpenClaim := { program := "ytchlolgfahgdeaa", sum := "d1e72f2a0d126672ec60154e6a9c64d315f3b0d17f3819a57d5ae4a8f12d9867", func := "cloister/cloisterlaw25.PurgeNames", spec := "purgeNames", unfollowed := true, recurses := true, apart := false, narrowed := true }
def PurgeNamesUptoSaid : Prop := purgeNamesUptoRow.holds Try.pinned (OpenSpec.upto purgeNamesSpec)

/-- 'cloisterlaw25.PurgeMays', WHERE WHAT IT READS IS OF BULK AT MOST 1048576: true; the input reads as it did. -/
def purgeMaysUptoRow : OpenClaim := { program := "ytchlolgfahgdeaa", sum := "d1e72f2a0d126672ec60154e6a9c64d315f3b0d17f3819a57d5ae4a8f12d9867", func := "cloister/cloisterlaw25.PurgeMays", spec := "purgeMays", unfollowed := true, recurses := true, apart := false, narrowed := true }
def PurgeMaysUptoSaid : Prop := purgeMaysUptoRow.holds Try.pinned (OpenSpec.upto purgeMaysSpec)

/-- 'cloisterlaw25.PurgeIs', WHERE WHAT IT READS IS OF BULK AT MOST 1048576: true; the input reads as it did. -/
def purgeIsUptoRow : OpenClaim := { program := "ytchlolgfahgdeaa", sum := "d1e72f2a0d126672ec60154e6a9c64d315f3b0d17f3819a57d5ae4a8f12d9867", func := "cloister/cloisterlaw25.PurgeIs", spec := "purgeIs", unfollowed := true, recurses := true, apart := false, narrowed := true }
def PurgeIsUptoSaid : Prop := purgeIsUptoRow.holds Try.pinned (OpenSpec.upto purgeIsSpec)

/-- 'cloisterlaw25.PurgeStill', WHERE WHAT IT READS IS OF BULK AT MOST 1048576: true; the input reads as it did. -/
def purgeStillUptoRow : OpenClaim := { program := "ytchlolgfahgdeaa", sum := "d1e72f2a0d126672ec60154e6a9c64d315f3b0d17f3819a57d5ae4a8f12d9867", func := "cloister/cloisterlaw25.PurgeStill", spec := "purgeStill", unfollowed := true, recurses := true, apart := false, narrowed := true }
def PurgeStillUptoSaid : Prop := purgeStillUptoRow.holds Try.pinned (OpenSpec.upto purgeStillSpec)

/-- 'cloisterlaw25.PurgeSame', WHERE WHAT IT READS IS OF BULK AT MOST 1048576: true; the input reads as it did. -/
def purgeSameUptoRow : OpenClaim := { program := "ytchlolgfahgdeaa", sum := "d1e72f2a0d126672ec60154e6a9c64d315f3b0d17f3819a57d5ae4a8f12d9867", func := "cloister/cloisterlaw25.PurgeSame", spec := "purgeSame", unfollowed := true, recurses := true, apart := false, narrowed := true }
def PurgeSameUptoSaid : Prop := purgeSameUptoRow.holds Try.pinned (OpenSpec.upto purgeSameSpec)

/-- 'cloisterlaw25.PurgeTwice', WHERE WHAT IT READS IS OF BULK AT MOST 1048576: true; the input reads as it did. -/
def purgeTwiceUptoRow : OpenClaim := { program := "ytchlolgfahgdeaa", sum := "d1e72f2a0d126672ec60154e6a9c64d315f3b0d17f3819a57d5ae4a8f12d9867", func := "cloister/cloisterlaw25.PurgeTwice", spec := "purgeTwice", unfollowed := true, recurses := true, apart := false, narrowed := true }
def PurgeTwiceUptoSaid : Prop := purgeTwiceUptoRow.holds Try.pinned (OpenSpec.upto purgeTwiceSpec)

/-- 'cloisterlaw25.PurgeParts', WHERE WHAT IT READS IS OF BULK AT MOST 1048576: true; the input reads as it did. -/
def purgePartsUptoRow : OpenClaim := { program := "ytchlolgfahgdeaa", sum := "d1e72f2a0d126672ec60154e6a9c64d315f3b0d17f3819a57d5ae4a8f12d9867", func := "cloister/cloisterlaw25.PurgeParts", spec := "purgeParts", unfollowed := true, recurses := true, apart := false, narrowed := true }
def PurgePartsUptoSaid : Prop := purgePartsUptoRow.holds Try.pinned (OpenSpec.upto purgePartsSpec)

/-- 'cloisterlaw25.PurgeSlots', WHERE WHAT IT READS IS OF BULK AT MOST 1048576: true; the input reads as it did. -/
def purgeSlotsUptoRow : OpenClaim := { program := "ytchlolgfahgdeaa", sum := "d1e72f2a0d126672ec60154e6a9c64d315f3b0d17f3819a57d5ae4a8f12d9867", func := "cloister/cloisterlaw25.PurgeSlots", spec := "purgeSlots", unfollowed := true, recurses := true, apart := false, narrowed := true }
def PurgeSlotsUptoSaid : Prop := purgeSlotsUptoRow.holds Try.pinned (OpenSpec.upto purgeSlotsSpec)

/-- 'cloisterlaw25.PurgeBlind', WHERE WHAT IT READS IS OF BULK AT MOST 1048576: true; the input reads as it did. -/
def purgeBlindUptoRow : OpenClaim := { program := "ytchlolgfahgdeaa", sum := "d1e72f2a0d126672ec60154e6a9c64d315f3b0d17f3819a57d5ae4a8f12d9867", func := "cloister/cloisterlaw25.PurgeBlind", spec := "purgeBlind", unfollowed := true, recurses := true, apart := false, narrowed := true }
def PurgeBlindUptoSaid : Prop := purgeBlindUptoRow.holds Try.pinned (OpenSpec.upto purgeBlindSpec)

/-- 'cloisterlaw25.PurgeCommutes', WHERE WHAT IT READS IS OF BULK AT MOST 1048576: true; the input reads as it did. -/
def purgeCommutesUptoRow : OpenClaim := { program := "ytchlolgfahgdeaa", sum := "d1e72f2a0d126672ec60154e6a9c64d315f3b0d17f3819a57d5ae4a8f12d9867", func := "cloister/cloisterlaw25.PurgeCommutes", spec := "purgeCommutes", unfollowed := true, recurses := true, apart := false, narrowed := true }
def PurgeCommutesUptoSaid : Prop := purgeCommutesUptoRow.holds Try.pinned (OpenSpec.upto purgeCommutesSpec)

/-- 'cloisterlaw25.PurgeKeeps', WHERE WHAT IT READS IS OF BULK AT MOST 1048576: true; the input reads as it did. -/
def purgeKeepsUptoRow : OpenClaim := { program := "ytchlolgfahgdeaa", sum := "d1e72f2a0d126672ec60154e6a9c64d315f3b0d17f3819a57d5ae4a8f12d9867", func := "cloister/cloisterlaw25.PurgeKeeps", spec := "purgeKeeps", unfollowed := true, recurses := true, apart := false, narrowed := true }
def PurgeKeepsUptoSaid : Prop := purgeKeepsUptoRow.holds Try.pinned (OpenSpec.upto purgeKeepsSpec)

end Rows
end Go.Proofs.Ytchlolgfahgdeaa
