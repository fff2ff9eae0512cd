/- QueueNames returns true. Conditions: none. -/
import Derived.Test.YtmlomceemcbnaaaProg
import Derived.Test.YtmlomceemcbnaaaLib
import Derived.KernelRfl
namespace Go.Proofs.Ytmlomceemcbnaaa.Qnames
open Go.RowKit Go.Proofs.Ytmlomceemcbnaaa.Lib1
theorem queueNames_walk (w : World) : Calls Try.prog 3 #[] w fun e w' => e = .returned (.bool true) ∧ Below w.heap.size w w' := by
  go_enter Try.func3, Try.ntmps3
  go_wp2
  go_ret
  exact ⟨rfl, Below.refl _ _⟩
end Go.Proofs.Ytmlomceemcbnaaa.Qnames
