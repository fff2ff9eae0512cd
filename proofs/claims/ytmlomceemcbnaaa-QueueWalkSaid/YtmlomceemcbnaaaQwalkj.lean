/- QueueWalk, joined. Conditions: what is handed in reads. -/
import Derived.Test.YtmlomceemcbnaaaQwalkw
import Derived.Test.YtmlomceemcbnaaaRel
set_option linter.unusedVariables false
namespace Go.Proofs.Ytmlomceemcbnaaa.Qwalkj
open Go.RowKit Go.Proofs.Ytmlomceemcbnaaa.Lib1 Go.Proofs.Ytmlomceemcbnaaa.Qheld Go.Proofs.Ytmlomceemcbnaaa.Qwalkw Go.Proofs.Ytmlomceemcbnaaa.Rel

theorem opens_strs : Opens Try.prog 23 (Kd.slice 16 Kd.str) :=
  opens_slice (e := 9) Try.underlying23 (by kernel_rfl) (by decide) (by kernel_rfl) (opens_str Try.underlying9)
theorem walk_all (at_ stop : Int) {A B : Option Addr} {n c m d : Nat} {y : List ByteArray} {z : List (Int × ByteArray × Unit)} (w : World) (hr : (Kd.slice 16 Kd.str).rel (fun k => k < w.heap.size) w y [.slice A n c]) (hr2 : (Kd.slice 24 stepK).rel (fun k => k < w.heap.size) w z [.slice B m d]) (hf2 : (Kd.slice 24 stepK).fits z) :
    Calls Try.prog 11 #[.slice A n c, .int .i64 at_, .int .i64 stop, .slice B m d] w fun e w' => e = .returned (.bool true) ∧ Below w.heap.size w w' := by
  obtain ⟨f, hs⟩ := script_of hr2 hf2
  obtain ⟨rfl, hA⟩ := strs_of hr
  by_cases hn : 64 < y.length
  · exact callsIn_wide.1 (walk_many A _ c at_ stop B m d w hn)
  · exact callsIn_wide.1 (walk_few A c at_ stop B m d w y (by omega) hA f hs)
end Go.Proofs.Ytmlomceemcbnaaa.Qwalkj
