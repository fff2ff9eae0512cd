/- label.below, the closure of Covers, slices.IndexFunc and ContainsFunc with it, by contract. Conditions: the row reads so, labels below 2^64. -/
import Derived.Test.YtdfplhoijapoeaaLis
set_option linter.unusedVariables false
set_option linter.unusedSimpArgs false
namespace Go.Proofs.Ytdfplhoijapoeaa.Lcb
open Go.RowKit Go.Proofs.Ytdfplhoijapoeaa.Lib1 Go.Proofs.Ytdfplhoijapoeaa.Lat Go.Proofs.Ytdfplhoijapoeaa.Lbl Go.Proofs.Ytdfplhoijapoeaa.Lbw Go.Proofs.Ytdfplhoijapoeaa.Lck

def bel (a b : Nat) : Bool := !(a == b) && leq a b
abbrev B64 : Nat := 18446744073709551616
theorem below_any (a b : Nat) (w : World) (ha : a < B64) (hb : b < B64) :
    Calls Try.prog 57 #[.int .u64 a, .int .u64 b] w fun e w' => e = .returned (.bool (bel a b)) ∧ w = w' := by
  have HL := Lib.hid (leq_any a b w ha hb)
  by_cases h : a = b
  · subst h
    go_enter Try.func57, Try.ntmps57
    go_wp2
    go_ret
    exact ⟨ret_bool (by simp [bel]), rfl⟩
  · have h1 : ((a : Int) == (b : Int)) = false := by rw [beq_eq_false_iff_ne]; omega
    have h2 : bel a b = leq a b := by simp [bel, h]
    go_enter Try.func57, Try.ntmps57
    go_wp2_with fail
    refine HL.out.mono ?_
    rintro e w1 ⟨rfl, rfl⟩
    go_wp2
    go_ret
    exact ⟨ret_bool (by rw [h2, bne, h1]; rfl), rfl⟩

theorem between_any {w : World} {da db a b : Nat} (x : Nat) (hca : w.cell? ⟨da, 0, none⟩ = some (.int .u64 (a : Int))) (hcb : w.cell? ⟨db, 0, none⟩ = some (.int .u64 (b : Int))) (ha : a < B64) (hb : b < B64) (hx : x < B64) :
    Calls Try.prog 63 #[.int .u64 x, .pointer (some ⟨da, 0, none⟩), .pointer (some ⟨db, 0, none⟩)] w fun e w' => e = .returned (.bool (bel a x && bel x b)) ∧ w = w' := by
  have HA := Lib.hid (below_any a x w ha hx)
  have HB := Lib.hid (below_any x b w hx hb)
  cases h1 : bel a x with
  | false =>
    rw [h1] at HA
    go_enter Try.func63, Try.ntmps63
    go_wp2_with fail
    refine HA.out.mono ?_
    rintro e w1 ⟨rfl, rfl⟩
    go_wp2
    go_ret
    exact ⟨ret_bool (by simp), rfl⟩
  | true =>
    rw [h1] at HA
    go_enter Try.func63, Try.ntmps63
    go_wp2_with fail
    refine HA.out.mono ?_
    rintro e w1 ⟨rfl, rfl⟩
    go_wp2_with fail
    refine HB.out.mono ?_
    rintro e w1 ⟨rfl, rfl⟩
    go_wp2
    go_ret
    exact ⟨ret_bool (by simp), rfl⟩

def btw (a b x : Nat) : Bool := bel a x && bel x b
def betF (da db : Nat) : Value := .func (.func 63) #[] #[.pointer (some ⟨da, 0, none⟩), .pointer (some ⟨db, 0, none⟩)]

variable (ls : List Nat) (A : Option Addr) (n c : Nat) (w : World) (ok : Nat → Prop) {da db a b : Nat}
set_option maxRecDepth 100000 in
set_option maxHeartbeats 1600000 in
theorem idxf_any (h : Rd ok w A n c 1 (us ls)) (hn : n ≤ 9223372036854775807) (hca : w.cell? ⟨da, 0, none⟩ = some (.int .u64 (a : Int))) (hcb : w.cell? ⟨db, 0, none⟩ = some (.int .u64 (b : Int))) (ha : a < B64) (hb : b < B64) (hl : ∀ x ∈ ls, x < B64) :
    Calls Try.prog 75 #[.slice A n c, betF da db] w fun e w' => (∃ m : Int, e = .returned (.int .i64 m) ∧ (0 ≤ m ↔ ls.any (btw a b) = true)) ∧ w = w' := by
  have HL : Hid (ls.length = n) := by have := h.len; rw [us_len] at this; show _ = _; omega
  have HR := Lib.hid (fun hp => rd_us h hp)
  have HB : Hid (∀ x, x < B64 → Calls Try.prog 63 #[.int .u64 x, .pointer (some ⟨da, 0, none⟩), .pointer (some ⟨db, 0, none⟩)] w fun e w' => e = .returned (.bool (btw a b x)) ∧ w = w') := fun x hx => between_any x hca hcb ha hb hx
  have H64 : Hid (∀ k, k < ls.length → ls.getD k 0 < B64) := fun k hk => hl _ (by rw [List.getD_eq_getElem?_getD, List.getElem?_eq_getElem hk]; simp)
  clear h hca hcb hl
  unfold betF
  go_enter Try.func75, Try.ntmps75
  go_wp2
  go_loop [8] (fun i => ∃ k : Nat, k ≤ n ∧ i = .int .i64 k ∧ ∀ j, j < k → btw a b (ls.getD j 0) = false) (fun i => n - (intOf i).toNat)
  case atStart => exact ⟨0, by omega, rfl, fun j hj => absurd hj (by omega)⟩
  case round =>
    obtain ⟨k, hk, rfl, hall⟩ := hrel
    have HA := Lib.hid hall
    clear hall
    by_cases hlt : k < n
    · obtain ⟨bb, off, rfl, _, hc⟩ := HR.out (by omega)
      have hck := hc k hlt
      clear hc
      have HC := Lib.hid (HB.out (ls.getD k 0) (H64.out k (by have := HL.out; omega)))
      cases he : btw a b (ls.getD k 0) with
      | true =>
        rw [he] at HC
        have HE := Lib.hid he
        clear he
        go_wp2_with fail
        refine HC.out.mono ?_
        rintro e w1 ⟨rfl, rfl⟩
        go_wp2
        go_ret
        refine ⟨⟨k, rfl, iff_of_true (by omega) ?_⟩, rfl⟩
        rw [List.any_eq_true]
        have hkl : k < ls.length := by have := HL.out; omega
        refine ⟨ls.getD k 0, ?_, HE.out⟩
        rw [List.getD_eq_getElem?_getD, List.getElem?_eq_getElem hkl]; simp
      | false =>
        rw [he] at HC
        have HE := Lib.hid he
        clear he
        go_wp2_with fail
        refine HC.out.mono ?_
        rintro e w1 ⟨rfl, rfl⟩
        go_wp2
        go_round
        case rel => exact ⟨k + 1, hlt, by go_num, fun j hj => by
          by_cases hj' : j < k
          · exact HA.out j hj'
          · rw [show j = k by omega]; exact HE.out⟩
        case measure => simp [intOf]; omega
    · go_wp2
      go_ret
      refine ⟨⟨-1, rfl, iff_of_false (by omega) ?_⟩, rfl⟩

      rintro ⟨x, hx, hb⟩
      obtain ⟨j, hj, rfl⟩ := List.getElem_of_mem hx
      have := HA.out j (by have := HL.out; omega)
      rw [List.getD_eq_getElem?_getD, List.getElem?_eq_getElem hj] at this
      simp only [Option.getD_some] at this
      rw [this] at hb; cases hb
set_option maxRecDepth 100000 in
theorem contf_any (h : Rd ok w A n c 1 (us ls)) (hn : n ≤ 9223372036854775807) (hca : w.cell? ⟨da, 0, none⟩ = some (.int .u64 (a : Int))) (hcb : w.cell? ⟨db, 0, none⟩ = some (.int .u64 (b : Int))) (ha : a < B64) (hb : b < B64) (hl : ∀ x ∈ ls, x < B64) :
    Calls Try.prog 64 #[.slice A n c, betF da db] w fun e w' => e = .returned (.bool (ls.any (btw a b))) ∧ w = w' := by
  have HI := Lib.hid (idxf_any ls A n c w ok h hn hca hcb ha hb hl)
  clear h hca hcb hl
  unfold betF at HI ⊢
  go_enter Try.func64, Try.ntmps64
  go_wp2_with fail
  refine HI.out.mono ?_
  rintro e w1 ⟨⟨m, rfl, hm⟩, rfl⟩
  have HM := Lib.hid hm
  clear hm
  go_wp2
  go_ret
  refine ⟨ret_bool ?_, rfl⟩
  have := HM.out
  cases hx : ls.any (btw a b) with
  | true => rw [hx] at this; simpa using this
  | false => rw [hx] at this; simpa using this
end Go.Proofs.Ytdfplhoijapoeaa.Lcb
