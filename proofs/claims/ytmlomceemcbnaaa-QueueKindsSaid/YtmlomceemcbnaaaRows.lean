/-
  No cell of these rows narrows 'for every input' (looked for: loops, veiled, ifaces, maps, wideKeys, modest, calm, conditions, laid).
  DERIVED. THE GIVEN ROWS OF THIS SEAT. 9 by the template 'for every input the law returns true; each argument reads behind the call as it read before'; 0 by the template 'total and deterministic' (their statements: YtmlomceemcbnaaaTotals.lean).
  GIVEN WITH THE SEED: the statements are not yours to turn. If you find one false, say at which input.
  Laid BY PROGRAM, IN A SANDBOX (cutbox-rows.mjs): the forced cells as the released guide's own fill.sh prints them over the translation 7dc4eb6993f96a8c… (all of the seat's roots in one cut). By AI agents, Wed Nov 11 2026. No macro, syntax, notation, axiom, sorry.
-/
import Derived.Test.YtmlomceemcbnaaaChecked
import GoSem.Claim
import GoSem.ClaimJoined
import GoSem.ClaimMapViews
import Derived.JoinedTies
import Derived.KernelRfl
namespace Go.Proofs.Ytmlomceemcbnaaa
/- THE CELL 'sum', in the pinned program and in every row, IS THE sha256 OF THE DUMP (.gsa) THAT YtmlomceemcbnaaaProg.lean LOADS. Nothing in Lean hashes anything: it is a label: what it is worth is what the hold of that sum in a sandbox is worth. -/
noncomputable def Try.pinned : Pinned := { name := "ytmlomceemcbnaaa", sum := "7dc4eb6993f96a8c24281251e469bb744129da0ddbc232fbb7a8d6ba50c23690", checked := Try.checked }
namespace Rows
def none {H : Type} : Left H := { results := [], args := [] }

/-- 'cloisterlaw05.QueueNames': WHATEVER THE INPUT: true; the input reads as it did. -/
def queueNamesSpec : ChangeSpec := { name := "queueNames", fn := fun _ => fun
  | [] => { results := [.lit (.bool true)], args := [] }
  | _ => none }
def queueNamesRow : OpenClaim := { program := "ytmlomceemcbnaaa", sum := "7dc4eb6993f96a8c24281251e469bb744129da0ddbc232fbb7a8d6ba50c23690", func := "cloister/cloisterlaw05.QueueNames", spec := "queueNames", apart := false }
def QueueNamesSaid : Prop := queueNamesRow.holds Try.pinned (OpenSpec.ofChange queueNamesSpec)

/-- ITS FALSE NEIGHBOUR: 'it returns false'. Refute it at one input. -/
def queueNamesWrong : ChangeSpec := { name := "queueNames", fn := fun _ => fun
  | [] => { results := [.lit (.bool false)], args := [] }
  | _ => none }
def QueueNamesWrongFalsely : Prop := queueNamesRow.holds Try.pinned (OpenSpec.ofChange queueNamesWrong)

/-- 'cloisterlaw05.QueueNew': WHATEVER THE INPUT: true; the input reads as it did. -/
def queueNewSpec : ChangeSpec := { name := "queueNew", fn := fun _ => fun
  | [d] => { results := [.lit (.bool true)], args := [d] }
  | _ => none }
def queueNewRow : OpenClaim := { program := "ytmlomceemcbnaaa", sum := "7dc4eb6993f96a8c24281251e469bb744129da0ddbc232fbb7a8d6ba50c23690", func := "cloister/cloisterlaw05.QueueNew", spec := "queueNew", apart := false }
def QueueNewSaid : Prop := queueNewRow.holds Try.pinned (OpenSpec.ofChange queueNewSpec)

/-- ITS FALSE NEIGHBOUR: 'it returns false'. Refute it at one input. -/
def queueNewWrong : ChangeSpec := { name := "queueNew", fn := fun _ => fun
  | [d] => { results := [.lit (.bool false)], args := [d] }
  | _ => none }
def QueueNewWrongFalsely : Prop := queueNewRow.holds Try.pinned (OpenSpec.ofChange queueNewWrong)

/-- 'cloisterlaw05.QueueKinds': WHATEVER THE INPUT: true; the input reads as it did. -/
def queueKindsSpec : ChangeSpec := { name := "queueKinds", fn := fun _ => fun
  | [d] => { results := [.lit (.bool true)], args := [d] }
  | _ => none }
def queueKindsRow : OpenClaim := { program := "ytmlomceemcbnaaa", sum := "7dc4eb6993f96a8c24281251e469bb744129da0ddbc232fbb7a8d6ba50c23690", func := "cloister/cloisterlaw05.QueueKinds", spec := "queueKinds", apart := false }
def QueueKindsSaid : Prop := queueKindsRow.holds Try.pinned (OpenSpec.ofChange queueKindsSpec)

/-- ITS FALSE NEIGHBOUR: 'it returns false'. Refute it at one input. -/
def queueKindsWrong : ChangeSpec := { name := "queueKinds", fn := fun _ => fun
  | [d] => { results := [.lit (.bool false)], args := [d] }
  | _ => none }
def QueueKindsWrongFalsely : Prop := queueKindsRow.holds Try.pinned (OpenSpec.ofChange queueKindsWrong)

/-- 'cloisterlaw05.QueueLong': WHATEVER THE INPUT: true; the input reads as it did. -/
def queueLongSpec : ChangeSpec := { name := "queueLong", fn := fun _ => fun
  | [d1, d2, d3] => { results := [.lit (.bool true)], args := [d1, d2, d3] }
  | _ => none }
def queueLongRow : OpenClaim := { program := "ytmlomceemcbnaaa", sum := "7dc4eb6993f96a8c24281251e469bb744129da0ddbc232fbb7a8d6ba50c23690", func := "cloister/cloisterlaw05.QueueLong", spec := "queueLong", apart := false }
def QueueLongSaid : Prop := queueLongRow.holds Try.pinned (OpenSpec.ofChange queueLongSpec)

/-- ITS FALSE NEIGHBOUR: 'it returns false'. Refute it at one input. -/
def queueLongWrong : ChangeSpec := { name := "queueLong", fn := fun _ => fun
  | [d1, d2, d3] => { results := [.lit (.bool false)], args := [d1, d2, d3] }
  | _ => none }
def QueueLongWrongFalsely : Prop := queueLongRow.holds Try.pinned (OpenSpec.ofChange queueLongWrong)

/-- 'cloisterlaw05.QueueOrder': WHATEVER THE INPUT: true; the input reads as it did. -/
def queueOrderSpec : ChangeSpec := { name := "queueOrder", fn := fun _ => fun
  | [d1, d2] => { results := [.lit (.bool true)], args := [d1, d2] }
  | _ => none }
def queueOrderRow : OpenClaim := { program := "ytmlomceemcbnaaa", sum := "7dc4eb6993f96a8c24281251e469bb744129da0ddbc232fbb7a8d6ba50c23690", func := "cloister/cloisterlaw05.QueueOrder", spec := "queueOrder", unfollowed := true, recurses := true, apart := false }
def QueueOrderSaid : Prop := queueOrderRow.holds Try.pinned (OpenSpec.ofChange queueOrderSpec)

/-- ITS FALSE NEIGHBOUR: 'it returns false'. Refute it at one input. -/
def queueOrderWrong : ChangeSpec := { name := "queueOrder", fn := fun _ => fun
  | [d1, d2] => { results := [.lit (.bool false)], args := [d1, d2] }
  | _ => none }
def QueueOrderWrongFalsely : Prop := queueOrderRow.holds Try.pinned (OpenSpec.ofChange queueOrderWrong)

/-- 'cloisterlaw05.QueueDoes': WHATEVER THE INPUT: true; the input reads as it did. -/
def queueDoesSpec : ChangeSpec := { name := "queueDoes", fn := fun _ => fun
  | [d1, d2] => { results := [.lit (.bool true)], args := [d1, d2] }
  | _ => none }
def queueDoesRow : OpenClaim := { program := "ytmlomceemcbnaaa", sum := "7dc4eb6993f96a8c24281251e469bb744129da0ddbc232fbb7a8d6ba50c23690", func := "cloister/cloisterlaw05.QueueDoes", spec := "queueDoes", unfollowed := true, recurses := true, apart := false }
def QueueDoesSaid : Prop := queueDoesRow.holds Try.pinned (OpenSpec.ofChange queueDoesSpec)

/-- ITS FALSE NEIGHBOUR: 'it returns false'. Refute it at one input. -/
def queueDoesWrong : ChangeSpec := { name := "queueDoes", fn := fun _ => fun
  | [d1, d2] => { results := [.lit (.bool false)], args := [d1, d2] }
  | _ => none }
def QueueDoesWrongFalsely : Prop := queueDoesRow.holds Try.pinned (OpenSpec.ofChange queueDoesWrong)

/-- 'cloisterlaw05.QueueTwo': WHATEVER THE INPUT: true; the input reads as it did. -/
def queueTwoSpec : ChangeSpec := { name := "queueTwo", fn := fun _ => fun
  | [d1, d2, d3] => { results := [.lit (.bool true)], args := [d1, d2, d3] }
  | _ => none }
def queueTwoRow : OpenClaim := { program := "ytmlomceemcbnaaa", sum := "7dc4eb6993f96a8c24281251e469bb744129da0ddbc232fbb7a8d6ba50c23690", func := "cloister/cloisterlaw05.QueueTwo", spec := "queueTwo", unfollowed := true, recurses := true, apart := false }
def QueueTwoSaid : Prop := queueTwoRow.holds Try.pinned (OpenSpec.ofChange queueTwoSpec)

/-- ITS FALSE NEIGHBOUR: 'it returns false'. Refute it at one input. -/
def queueTwoWrong : ChangeSpec := { name := "queueTwo", fn := fun _ => fun
  | [d1, d2, d3] => { results := [.lit (.bool false)], args := [d1, d2, d3] }
  | _ => none }
def QueueTwoWrongFalsely : Prop := queueTwoRow.holds Try.pinned (OpenSpec.ofChange queueTwoWrong)

/-- 'cloisterlaw05.QueueZero': WHATEVER THE INPUT: true; the input reads as it did. -/
def queueZeroSpec : ChangeSpec := { name := "queueZero", fn := fun _ => fun
  | [d] => { results := [.lit (.bool true)], args := [d] }
  | _ => none }
def queueZeroRow : OpenClaim := { program := "ytmlomceemcbnaaa", sum := "7dc4eb6993f96a8c24281251e469bb744129da0ddbc232fbb7a8d6ba50c23690", func := "cloister/cloisterlaw05.QueueZero", spec := "queueZero", unfollowed := true, recurses := true, apart := false }
def QueueZeroSaid : Prop := queueZeroRow.holds Try.pinned (OpenSpec.ofChange queueZeroSpec)

/-- ITS FALSE NEIGHBOUR: 'it returns false'. Refute it at one input. -/
def queueZeroWrong : ChangeSpec := { name := "queueZero", fn := fun _ => fun
  | [d] => { results := [.lit (.bool false)], args := [d] }
  | _ => none }
def QueueZeroWrongFalsely : Prop := queueZeroRow.holds Try.pinned (OpenSpec.ofChange queueZeroWrong)

/-- 'cloisterlaw05.QueueWalk': WHATEVER THE INPUT: true; the input reads as it did. -/
def queueWalkSpec : ChangeSpec := { name := "queueWalk", fn := fun _ => fun
  | [d1, d2, d3, d4] => { results := [.lit (.bool true)], args := [d1, d2, d3, d4] }
  | _ => none }
def queueWalkRow : OpenClaim := { program := "ytmlomceemcbnaaa", sum := "7dc4eb6993f96a8c24281251e469bb744129da0ddbc232fbb7a8d6ba50c23690", func := "cloister/cloisterlaw05.QueueWalk", spec := "queueWalk", unfollowed := true, recurses := true, apart := false }
def QueueWalkSaid : Prop := queueWalkRow.holds Try.pinned (OpenSpec.ofChange queueWalkSpec)

/-- ITS FALSE NEIGHBOUR: 'it returns false'. Refute it at one input. -/
def queueWalkWrong : ChangeSpec := { name := "queueWalk", fn := fun _ => fun
  | [d1, d2, d3, d4] => { results := [.lit (.bool false)], args := [d1, d2, d3, d4] }
  | _ => none }
def QueueWalkWrongFalsely : Prop := queueWalkRow.holds Try.pinned (OpenSpec.ofChange queueWalkWrong)

/- THE SECOND FORM. 'bulk': how many values and letters a reading holds, each counted each time it is reached (what is shared counts as often as it is met; a slice's spare places count too). A statement '..UptoSaid' is the law's where the arguments, and the package variables that the reading takes, are together of bulk at most 1048576: NARROWER than '..Said'. Prove '..Said' where nothing that the law and all that it calls make is longer than what came in: it says more and counts as full. Else prove '..UptoSaid'. A law counts once. -/
mutual
def uptoBulk {H : Type} : DataW H → Nat
  | .lit (.string bytes) => bytes.length + 1
  | .lit _ => 1
  | .nil => 1
  | .ptr d => uptoBulk d + 1
  | .slice elems spare => uptoBulkAll elems + uptoBulkAll spare + 1
  | .agg parts => uptoBulkAll parts + 1
  | .iface _ d => uptoBulk d + 1
  | .map entries => uptoBulkEntries entries + 1
  | .held _ => 1
def uptoBulkAll {H : Type} : List (DataW H) → Nat
  | [] => 0
  | d :: r => uptoBulk d + uptoBulkAll r
def uptoBulkEntries {H : Type} : List (Lit × DataW H) → Nat
  | [] => 0
  | x :: r => uptoBulkEntry x + uptoBulkEntries r
def uptoBulkEntry {H : Type} : Lit × DataW H → Nat
  | (.string bytes, d) => bytes.length + uptoBulk d + 1
  | (_, d) => uptoBulk d + 1
 end
def uptoSmall : (H : Type) → List (DataW H) → Bool := fun _ ds => decide (uptoBulkAll ds ≤ 1048576)
def OpenSpec.upto (s : _root_.Go.ChangeSpec) : _root_.Go.OpenSpec := { _root_.Go.OpenSpec.ofChange s with cond := some uptoSmall }

/-- 'cloisterlaw05.QueueNames', WHERE WHAT IT READS IS OF BULK AT MOST 1048576: true; the input reads as it did. -/
def queueNamesUptoRow : OpenClaim := { program := "ytmlomceemcbnaaa", sum := "7dc4eb6993f96a8c24281251e469bb744129da0ddbc232fbb7a8d6ba50c23690", func := "cloister/cloisterlaw05.QueueNames", spec := "queueNames", apart := false, narrowed := true }
def QueueNamesUptoSaid : Prop := queueNamesUptoRow.holds Try.pinned (OpenSpec.upto queueNamesSpec)

/-- 'cloisterlaw05.QueueNew', WHERE WHAT IT READS IS OF BULK AT MOST 1048576: true; the input reads as it did. -/
def queueNewUptoRow : OpenClaim := { program := "ytmlomceemcbnaaa", sum := "7dc4eb6993f96a8c24281251e469bb744129da0ddbc232fbb7a8d6ba50c23690", func := "cloister/cloisterlaw05.QueueNew", spec := "queueNew", apart := false, narrowed := true }
def QueueNewUptoSaid : Prop := queueNewUptoRow.holds Try.pinned (OpenSpec.upto queueNewSpec)

/-- 'cloisterlaw05.QueueKinds', WHERE WHAT IT READS IS OF BULK AT MOST 1048576: true; the input reads as it did. -/
def queueKindsUptoRow : OpenClaim := { program := "ytmlomceemcbnaaa", sum := "7dc4eb6993f96a8c24281251e469bb744129da0ddbc232fbb7a8d6ba50c23690", func := "cloister/cloisterlaw05.QueueKinds", spec := "queueKinds", apart := false, narrowed := true }
def QueueKindsUptoSaid : Prop := queueKindsUptoRow.holds Try.pinned (OpenSpec.upto queueKindsSpec)

/-- 'cloisterlaw05.QueueLong', WHERE WHAT IT READS IS OF BULK AT MOST 1048576: true; the input reads as it did. -/
def queueLongUptoRow : OpenClaim := { program := "ytmlomceemcbnaaa", sum := "7dc4eb6993f96a8c24281251e469bb744129da0ddbc232fbb7a8d6ba50c23690", func := "cloister/cloisterlaw05.QueueLong", spec := "queueLong", apart := false, narrowed := true }
def QueueLongUptoSaid : Prop := queueLongUptoRow.holds Try.pinned (OpenSpec.upto queueLongSpec)

/-- 'cloisterlaw05.QueueOrder', WHERE WHAT IT READS IS OF BULK AT MOST 1048576: true; the input reads as it did. -/
def queueOrderUptoRow : OpenClaim := { program := "ytmlomceemcbnaaa", sum := "7dc4eb6993f96a8c24281251e469bb744129da0ddbc232fbb7a8d6ba50c23690", func := "cloister/cloisterlaw05.QueueOrder", spec := "queueOrder", unfollowed := true, recurses := true, apart := false, narrowed := true }
def QueueOrderUptoSaid : Prop := queueOrderUptoRow.holds Try.pinned (OpenSpec.upto queueOrderSpec)

/-- 'cloisterlaw05.QueueDoes', WHERE WHAT IT READS IS OF BULK AT MOST 1048576: true; the input reads as it did. -/
def queueDoesUptoRow : OpenClaim := { program := "ytmlomceemcbnaaa", sum := "7dc4eb6993f96a8c24281251e469bb744129da0ddbc232fbb7a8d6ba50c23690", func := "cloister/cloisterlaw05.QueueDoes", spec := "queueDoes", unfollowed := true, recurses := true, apart := false, narrowed := true }
def QueueDoesUptoSaid : Prop := queueDoesUptoRow.holds Try.pinned (OpenSpec.upto queueDoesSpec)

/-- 'cloisterlaw05.QueueTwo', WHERE WHAT IT READS IS OF BULK AT MOST 1048576: true; the input reads as it did. -/
def queueTwoUptoRow : OpenClaim := { program := "ytmlomceemcbnaaa", sum := "7dc4eb6993f96a8c24281251e469bb744129da0ddbc232fbb7a8d6ba50c23690", func := "cloister/cloisterlaw05.QueueTwo", spec := "queueTwo", unfollowed := true, recurses := true, apart := false, narrowed := true }
def QueueTwoUptoSaid : Prop := queueTwoUptoRow.holds Try.pinned (OpenSpec.upto queueTwoSpec)

/-- 'cloisterlaw05.QueueZero', WHERE WHAT IT READS IS OF BULK AT MOST 1048576: true; the input reads as it did. -/
def queueZeroUptoRow : OpenClaim := { program := "ytmlomceemcbnaaa", sum := "7dc4eb6993f96a8c24281251e469bb744129da0ddbc232fbb7a8d6ba50c23690", func := "cloister/cloisterlaw05.QueueZero", spec := "queueZero", unfollowed := true, recurses := true, apart := false, narrowed := true }
def QueueZeroUptoSaid : Prop := queueZeroUptoRow.holds Try.pinned (OpenSpec.upto queueZeroSpec)

/-- 'cloisterlaw05.QueueWalk', WHERE WHAT IT READS IS OF BULK AT MOST 1048576: true; the input reads as it did. -/
def queueWalkUptoRow : OpenClaim := { program := "ytmlomceemcbnaaa", sum := "7dc4eb6993f96a8c24281251e469bb744129da0ddbc232fbb7a8d6ba50c23690", func := "cloister/cloisterlaw05.QueueWalk", spec := "queueWalk", unfollowed := true, recurses := true, apart := false, narrowed := true }
def QueueWalkUptoSaid : Prop := queueWalkUptoRow.holds Try.pinned (OpenSpec.upto queueWalkSpec)

end Rows
end Go.Proofs.Ytmlomceemcbnaaa
