/- The law's kept, by contract: a list and its spare room that are as they were. Conditions: the rows read so. -/
import Derived.Test.YtdfplhoijapoeaaLwr
set_option linter.unusedVariables false
set_option linter.unusedSimpArgs false
namespace Go.Proofs.Ytdfplhoijapoeaa.Lke
open Go.RowKit Go.Proofs.Ytdfplhoijapoeaa.Lib1 Go.Proofs.Ytdfplhoijapoeaa.Lat Go.Proofs.Ytdfplhoijapoeaa.Lbl Go.Proofs.Ytdfplhoijapoeaa.Lbw Go.Proofs.Ytdfplhoijapoeaa.Lck Go.Proofs.Ytdfplhoijapoeaa.Lwr

theorem room_get1 (ls : List Nat) (m k : Nat) (h : k < ls.length) : (room ls m).getD k 0 = ls.getD k 0 := by
  unfold room
  rw [List.getD_eq_getElem?_getD, List.getElem?_append_left h, ← List.getD_eq_getElem?_getD]
theorem room_get2 (ls : List Nat) (m k : Nat) (h : ls.length ≤ k) (h2 : k < ls.length + m) : (room ls m).getD k 0 = 9000 + (k - ls.length) := by
  unfold room
  rw [List.getD_eq_getElem?_getD, List.getElem?_append_right h, List.getElem?_map, List.getElem?_range (by omega)]
  rfl
set_option maxRecDepth 100000 in
set_option maxHeartbeats 1600000 in
theorem kept_any (ls : List Nat) (A B : Option Addr) (N n c d : Nat) (hN : N = n + 70) (w : World) (ok ok' : Nat → Prop) (ha : Rd ok w A N c 1 (us (room ls 70))) (hb : Rd ok' w B n d 1 (us ls)) (hn : n ≤ 4611686018427387904) :
    Calls Try.prog 40 #[.slice A N c, .slice B n d] w fun e w' => e = .returned (.bool true) ∧ ∃ q, w' = w.drewN q := by
  have HB : Hid (ls.length = n) := by have := hb.len; rw [us_len] at this; show _ = _; omega
  have HRA := Lib.hid (rd_us ha (by omega))
  have HRB := Lib.hid (fun hp => rd_us hb hp)
  have HN := Lib.hid hN
  have hNle : N ≤ n + 70 := by omega
  have hNge : n + 70 ≤ N := by omega
  clear ha hb hN
  go_enter Try.func40, Try.ntmps40
  go_wp2
  go_loopw [5] (fun i wr => ∃ (k q : Nat), k ≤ N ∧ i = .int .i64 k ∧ wr = w.drewN q) (fun i _ => N - (intOf i).toNat)
  case atStart => exact ⟨0, 0, by omega, rfl, rfl⟩
  case round =>
    obtain ⟨k, q, hk, rfl, rfl⟩ := hrel
    by_cases hlt : k < N
    · obtain ⟨b1, off1, rfl, _, hc1⟩ := HRA.out
      have k1 := hc1 k hlt
      clear hc1
      have i5 : decide ((k : Int) < (N : Int)) = true := decide_eq_true (by omega)
      by_cases hin : k < n
      · obtain ⟨b2, off2, rfl, _, hc2⟩ := HRB.out (by omega)
        have k2 := hc2 k hin
        clear hc2
        rw [room_get1 ls 70 k (by have := HB.out; omega)] at k1
        obtain ⟨x, hx⟩ : ∃ x, x = ls.getD k 0 := ⟨_, rfl⟩
        rw [← hx] at k1 k2
        clear hx
        have i6 : (k : Int) < (n : Int) := by omega
        have i7 : decide ((n : Int) ≤ (k : Int)) = false := decide_eq_false (by omega)
        have i8 : decide (n ≤ k) = false := decide_eq_false (by omega)
        have hne : ((x : Int) != (x : Int)) = false := by simp
        go_wp2_with fail
        go_quiet (fail)
        go_wp2
        go_roundw
        case rel => exact ⟨k + 1, _, hlt, by go_num, rfl⟩
        case measure => simp [intOf]; omega
      · rw [room_get2 ls 70 k (by have := HB.out; omega) (by have := HB.out; omega), HB.out] at k1
        obtain ⟨x, hx⟩ : ∃ x : Nat, x = 9000 + (k - n) := ⟨_, rfl⟩
        rw [← hx] at k1
        have i6 : decide ((k : Int) < (n : Int)) = false := decide_eq_false (by omega)
        have i7 : (n : Int) ≤ (k : Int) := by omega
        have i8 : decide (k < n) = false := decide_eq_false (by omega)
        have i9 : decide (n ≤ k) = true := decide_eq_true (by omega)
        have e1 : IntKind.i64.wrap (9000 + (k : Int)) = 9000 + (k : Int) := by rw [IntKind.wrap_i64]; omega
        have e2 : IntKind.i64.wrap (9000 + (k : Int) - (n : Int)) = (x : Int) := by rw [IntKind.wrap_i64]; omega
        have e4 : 9000 + (k : Int) - (n : Int) = (x : Int) := by omega
        have e3 : IntKind.u64.wrap (x : Int) = (x : Int) := by rw [IntKind.wrap_u64]; omega
        have hne : ((x : Int) != (x : Int)) = false := by simp
        clear hx
        go_wp2_with fail
        go_quiet (fail)
        go_wp2
        go_roundw
        case rel => exact ⟨k + 1, _, hlt, by go_num, rfl⟩
        case measure => simp [intOf]; omega
    · have i5 : decide ((k : Int) < (N : Int)) = false := decide_eq_false (by omega)
      go_wp2
      go_ret
      exact ⟨rfl, q, rfl⟩
end Go.Proofs.Ytdfplhoijapoeaa.Lke
