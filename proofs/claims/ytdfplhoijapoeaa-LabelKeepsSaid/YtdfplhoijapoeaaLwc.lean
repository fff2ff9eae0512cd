/- A list of labels as an argument; the walk of LabelChecks. Conditions: what comes in reads so. -/
import Derived.Test.YtdfplhoijapoeaaLkd
import Derived.Test.YtdfplhoijapoeaaLaw
import Derived.Test.YtdfplhoijapoeaaLrck
set_option linter.unusedVariables false
set_option linter.unusedSimpArgs false
namespace Go.Proofs.Ytdfplhoijapoeaa.Lwc
open Go.RowKit Go.Proofs.Ytdfplhoijapoeaa.Lib1 Go.Proofs.Ytdfplhoijapoeaa.Rel Go.Proofs.Ytdfplhoijapoeaa.Own Go.Proofs.Ytdfplhoijapoeaa.Lat Go.Proofs.Ytdfplhoijapoeaa.Lbl Go.Proofs.Ytdfplhoijapoeaa.Lbw Go.Proofs.Ytdfplhoijapoeaa.Lck Go.Proofs.Ytdfplhoijapoeaa.Lck Go.Proofs.Ytdfplhoijapoeaa.Lpl Go.Proofs.Ytdfplhoijapoeaa.Lkd Go.Proofs.Ytdfplhoijapoeaa.Law

def labsK : Kd (List Nat) := Kd.slice 8 u64K
theorem opens_labs : Opens Try.prog 28 labsK := opens_slice (e := 23) Try.underlying28 (by kernel_rfl) (by decide) (by kernel_rfl) (opens_u64 Try.underlying23)
theorem labs_rd {ok : Nat → Prop} {w : World} {ls : List Nat} {A : Option Addr} {n c : Nat} (h : labsK.rel ok w ls [.slice A n c]) (hf : labsK.fits ls) : Rd ok w A n c 1 (us ls) ∧ n * 8 ≤ 140737488351232 ∧ ∀ x ∈ ls, x < 18446744073709551616 := by
  obtain ⟨A', c', cells, e, r1, g1⟩ := h
  simp only [List.cons.injEq, Value.slice.injEq, and_true] at e
  obtain ⟨rfl, rfl, rfl⟩ := e
  have e1 := flat_cells (d := u64K) (fun x => [.int .u64 (x : Int)]) (fun _ _ _ _ h => h) (by decide) _ cells ok w r1.len g1
  rw [flatMap_one] at e1
  rw [e1] at r1
  exact ⟨r1, hf.1, hf.2⟩

set_option maxRecDepth 100000 in
set_option maxHeartbeats 1600000 in
theorem checks_walk {ok : Nat → Prop} {w : World} (ls : List Nat) (A : Option Addr) (n c : Nat) (h : labsK.rel ok w ls [.slice A n c]) (hok : ∀ k, ok k → k < w.heap.size) (hf : labsK.fits ls) :
    Calls Try.prog 8 #[.slice A n c] w fun e w' => e = .returned (.bool true) ∧ Below w.heap.size w w' := by
  obtain ⟨hr, hn, hl⟩ := labs_rd h hf
  have HR := Lib.hid hr
  have HL := Lib.hid hl
  clear h hr hl hf
  have H1 := Lib.hid (check_any ls A n c w ok HR.out HL.out (by omega))
  go_enter Try.func8, Try.ntmps8
  go_wp2_with fail
  refine H1.out.mono ?_
  clear H1
  rintro e w1 ⟨rfl, q, hq⟩
  have C1 : Hid (Chg (fun _ => False) w w1) := by rw [hq]; exact (Chg.refl _ w).drewN _
  clear hq
  have R1 := Lib.hid (HR.out.move (w1 := w1) (fun k hk => C1.out.block k (hok k hk) (fun h => h)))
  have H2 := Lib.hid (plain_any ls A n c R1.out (fun k hk => Nat.lt_of_lt_of_le (hok k hk) C1.out.size) hn)
  go_wp2_with fail
  refine H2.out.mono ?_
  clear H2
  rintro e w2 ⟨v, rfl, ho, hc⟩
  obtain ⟨A2, c2, rfl, hr2⟩ := Rd.of_own ho
  have C2 : Hid (Chg (fun _ => False) w w2) := C1.out.trans hc (fun _ _ h => h)
  have H3 := Lib.hid (rcheck_any ls A2 n c2 w2 _ hr2 (fun k hk => (ho.lt k hk).2) HL.out (by omega))
  clear ho hc hr2
  go_wp2_with fail
  refine H3.out.mono ?_
  clear H3
  rintro e w3 ⟨rfl, hc⟩
  have C3 : Hid (Chg (fun _ => False) w w3) := C2.out.trans hc (fun _ _ h => h)
  clear hc
  have hb : (chk ls == chk ls) = true := beq_self_eq_true _
  go_wp2_with fail
  refine (awake_any _).mono ?_
  rintro e w4 ⟨rfl, hc⟩
  have C4 : Hid (Chg (fun _ => False) w w4) := C3.out.trans hc (fun _ _ h => h)
  clear hc
  go_wp2
  go_ret
  exact ⟨rfl, C4.out.below⟩
end Go.Proofs.Ytdfplhoijapoeaa.Lwc
