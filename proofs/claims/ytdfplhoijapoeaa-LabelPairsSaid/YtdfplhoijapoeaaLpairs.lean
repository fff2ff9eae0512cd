/- LabelPairs returns true at any two labels. Conditions: each is a uint64. -/
import Derived.Test.YtdfplhoijapoeaaLbw
set_option linter.unusedVariables false
namespace Go.Proofs.Ytdfplhoijapoeaa.Lpairs
open Go.RowKit Go.Proofs.Ytdfplhoijapoeaa.Lib1 Go.Proofs.Ytdfplhoijapoeaa.Lbl Go.Proofs.Ytdfplhoijapoeaa.Lbw

theorem pairs_nat (a b : Nat) (w : World) (ha : a < 18446744073709551616) (hb : b < 18446744073709551616) :
    Calls Try.prog 3 #[.int .u64 a, .int .u64 b] w fun e w' => e = .returned (.bool true) ∧ Below w.heap.size w w' := by
  go_enter Try.func3, Try.ntmps3
  go_wp2_with fail
  refine (leq_any a b _ ha hb).mono ?_
  rintro e w1 ⟨rfl, rfl⟩
  go_wp2_with fail
  refine (rleq_any a b _ ha hb).mono ?_
  rintro e w1 ⟨rfl, rfl⟩
  go_wp2_with fail
  refine (join_any a b _ ha hb).mono ?_
  rintro e w1 ⟨rfl, rfl⟩
  go_wp2_with fail
  refine (rjoin_any a b _ ha hb).mono ?_
  rintro e w1 ⟨rfl, c1⟩
  go_wp2_with fail
  refine (meet_any a b _ ha hb).mono ?_
  rintro e w2 ⟨rfl, rfl⟩
  go_wp2_with fail
  refine (rmeet_any a b _ ha hb).mono ?_
  rintro e w3 ⟨rfl, c3⟩
  go_wp2
  go_ret
  exact ⟨rfl, c1.trans (c3.mono c1.size)⟩
theorem pairs_walk (a b : Int) (w : World) (ha : (Lit.int .u64 a).wf = true) (hb : (Lit.int .u64 b).wf = true) :
    Calls Try.prog 3 #[.int .u64 a, .int .u64 b] w fun e w' => e = .returned (.bool true) ∧ Below w.heap.size w w' := by
  have h1 : 0 ≤ a ∧ a < 18446744073709551616 := wf_u64 ha
  have h2 : 0 ≤ b ∧ b < 18446744073709551616 := wf_u64 hb
  obtain ⟨m, rfl⟩ := Int.eq_ofNat_of_zero_le h1.1
  obtain ⟨n, rfl⟩ := Int.eq_ofNat_of_zero_le h2.1
  exact pairs_nat m n w (by omega) (by omega)
end Go.Proofs.Ytdfplhoijapoeaa.Lpairs
