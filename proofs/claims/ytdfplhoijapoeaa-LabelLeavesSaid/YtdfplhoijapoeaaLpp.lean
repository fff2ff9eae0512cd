/- label.Place by contract. Conditions: the labels read so. -/
import Derived.Test.YtdfplhoijapoeaaLaw
set_option linter.unusedVariables false
set_option linter.unusedSimpArgs false
namespace Go.Proofs.Ytdfplhoijapoeaa.Lpp
open Go.RowKit Go.Proofs.Ytdfplhoijapoeaa.Lib1 Go.Proofs.Ytdfplhoijapoeaa.Lat Go.Proofs.Ytdfplhoijapoeaa.Lbl Go.Proofs.Ytdfplhoijapoeaa.Lbw Go.Proofs.Ytdfplhoijapoeaa.Lck
theorem place_any (ls : List Nat) (x : Nat) (A : Option Addr) (n c : Nat) (w : World) (ok : Nat → Prop) (h : Rd ok w A n c 1 (us ls)) (hn : n ≤ 9223372036854775807) :
    Calls Try.prog 41 #[.slice A n c, .int .u64 x] w fun e w' => e = .returned (.tuple #[.int .i64 (max 0 (place ls x)), .bool (decide (0 ≤ place ls x))]) ∧ w = w' := by
  have HI := Lib.hid (index_any ls x A n c w ok h hn)
  clear h
  obtain ⟨p, hp⟩ : ∃ p, p = place ls x := ⟨_, rfl⟩
  rw [← hp] at HI ⊢
  clear hp
  go_enter Try.func41, Try.ntmps41
  go_wp2_with fail
  refine HI.out.mono ?_
  rintro e w1 ⟨rfl, rfl⟩
  go_wp2
  all_goals
    refine bodyPost_ret (v := .tuple #[.int .i64 (max 0 p), .bool (decide (0 ≤ p))]) ?_ rfl ⟨rfl, rfl⟩
    simp [results, Try.results41, go_sem]
    try omega
end Go.Proofs.Ytdfplhoijapoeaa.Lpp
