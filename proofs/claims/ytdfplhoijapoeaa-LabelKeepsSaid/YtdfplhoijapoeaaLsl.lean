/- The law's sameLabels, by contract. Conditions: the rows read so. -/
import Derived.Test.YtdfplhoijapoeaaLis
set_option linter.unusedVariables false
set_option linter.unusedSimpArgs false
namespace Go.Proofs.Ytdfplhoijapoeaa.Lsl
open Go.RowKit Go.Proofs.Ytdfplhoijapoeaa.Lib1 Go.Proofs.Ytdfplhoijapoeaa.Lat Go.Proofs.Ytdfplhoijapoeaa.Lbl Go.Proofs.Ytdfplhoijapoeaa.Lbw Go.Proofs.Ytdfplhoijapoeaa.Lck

theorem getD_eq {xs ys : List Nat} (hl : xs.length = ys.length) (h : ∀ j, j < xs.length → xs.getD j 0 = ys.getD j 0) : xs = ys := by
  refine List.ext_getElem hl (fun j h1 h2 => ?_)
  have := h j h1
  rwa [List.getD_eq_getElem?_getD, List.getD_eq_getElem?_getD, List.getElem?_eq_getElem h1, List.getElem?_eq_getElem h2] at this

set_option maxRecDepth 100000 in
set_option maxHeartbeats 1600000 in
theorem same_any (xs ys : List Nat) (A B : Option Addr) (n m c d : Nat) (w : World) (ok ok' : Nat → Prop) (ha : Rd ok w A n c 1 (us xs)) (hb : Rd ok' w B m d 1 (us ys)) (hn : n ≤ 9223372036854775807) (hm : m ≤ 9223372036854775807) :
    Calls Try.prog 38 #[.slice A n c, .slice B m d] w fun e w' => e = .returned (.bool (decide (xs = ys))) ∧ ∃ q, w' = w.drewN q := by
  have HA : Hid (xs.length = n) := by have := ha.len; rw [us_len] at this; show _ = _; omega
  have HB : Hid (ys.length = m) := by have := hb.len; rw [us_len] at this; show _ = _; omega
  by_cases hnm : n = m
  · subst hnm
    have HRA := Lib.hid (fun hp => rd_us ha hp)
    have HRB := Lib.hid (fun hp => rd_us hb hp)
    clear ha hb
    go_enter Try.func38, Try.ntmps38
    go_wp2
    go_loopw [5] (fun i wr => ∃ (k q : Nat), k ≤ n ∧ i = .int .i64 k ∧ wr = w.drewN q ∧ ∀ j, j < k → xs.getD j 0 = ys.getD j 0) (fun i _ => n - (intOf i).toNat)
    case atStart => exact ⟨0, 0, by omega, rfl, rfl, fun j hj => absurd hj (by omega)⟩
    case round =>
      obtain ⟨k, q, hk, rfl, rfl, hall⟩ := hrel
      have HALL := Lib.hid hall
      clear hall
      by_cases hlt : k < n
      · obtain ⟨b1, off1, rfl, _, hc1⟩ := HRA.out (by omega)
        obtain ⟨b2, off2, rfl, _, hc2⟩ := HRB.out (by omega)
        have k1 := hc1 k hlt
        have k2 := hc2 k hlt
        clear hc1 hc2
        obtain ⟨x, hx⟩ : ∃ x, x = xs.getD k 0 := ⟨_, rfl⟩
        obtain ⟨y, hy⟩ : ∃ y, y = ys.getD k 0 := ⟨_, rfl⟩
        rw [← hx] at k1
        rw [← hy] at k2
        have HX := Lib.hid hx
        have HY := Lib.hid hy
        clear hx hy
        have i5 : (k : Int) < (n : Int) := by omega
        by_cases he : x = y
        · subst he
          have hne : ((x : Int) != (x : Int)) = false := by simp
          go_wp2_with fail
          go_quiet (fail)
          go_wp2
          go_roundw
          case rel => exact ⟨k + 1, _, hlt, by go_num, rfl, fun j hj => by
            rcases Nat.lt_succ_iff_lt_or_eq.1 hj with hj | rfl
            · exact HALL.out j hj
            · rw [← HX.out, ← HY.out]⟩
          case measure => simp [intOf]; omega
        · have e2 : ((x : Int) == (y : Int)) = false := by rw [beq_eq_false_iff_ne]; omega
          have hne : ((x : Int) != (y : Int)) = true := by rw [bne, e2]; rfl
          have HE := Lib.hid he
          clear he
          go_wp2_with fail
          go_quiet (fail)
          go_wp2
          go_ret
          refine ⟨ret_bool (decide_eq_false (fun e => ?_)).symm, _, World.drewN_drewN _ _ _⟩
          exact HE.out (by rw [HX.out, HY.out, e])
      · have : k = n := by omega
        subst this
        go_wp2
        go_ret
        exact ⟨ret_bool (decide_eq_true (getD_eq (by rw [HA.out, HB.out]) (fun j hj => HALL.out j (by have := HA.out; omega)))).symm, _, rfl⟩
  · have h1 : ((n : Int) == (m : Int)) = false := by rw [beq_eq_false_iff_ne]; omega
    clear ha hb
    go_enter Try.func38, Try.ntmps38
    go_wp2
    go_ret
    refine ⟨ret_bool (decide_eq_false (fun e => ?_)).symm, 0, rfl⟩
    have := HA.out; have := HB.out
    subst e
    omega
end Go.Proofs.Ytdfplhoijapoeaa.Lsl
