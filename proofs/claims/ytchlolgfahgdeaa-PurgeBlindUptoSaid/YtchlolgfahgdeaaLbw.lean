/- The walks of label's functions and of the reference's, each by its contract. Conditions: as told. -/
import Derived.Test.YtchlolgfahgdeaaProg
import Derived.Test.YtchlolgfahgdeaaLib
import Derived.Test.YtchlolgfahgdeaaLbl
import Derived.KernelRfl
import Derived.Deep.QuietTactic
import Derived.BigQuiet
import Derived.Lib.Hide
import Derived.Outline
import Derived.Deep.MidRow
set_option linter.unusedVariables false
set_option linter.unusedSimpArgs false
namespace Go.Proofs.Ytchlolgfahgdeaa.Lbw
open Go.RowKit Go.Proofs.Ytchlolgfahgdeaa.Lib1 Go.Proofs.Ytchlolgfahgdeaa.Lbl

theorem wf_u64 {a : Int} (h : (Lit.int .u64 a).wf = true) : 0 ≤ a ∧ a < 18446744073709551616 := by
  simp only [Lit.wf, Bool.and_eq_true, decide_eq_true_eq, IntKind.min, IntKind.max, IntKind.signed, IntKind.bits] at h
  simp at h; omega
theorem wf_i64 {a : Int} (h : (Lit.int .i64 a).wf = true) : -9223372036854775808 ≤ a ∧ a ≤ 9223372036854775807 := by
  simp only [Lit.wf, Bool.and_eq_true, decide_eq_true_eq, IntKind.min, IntKind.max, IntKind.signed, IntKind.bits] at h
  simp at h; omega
theorem wf_u8 {a : Int} (h : (Lit.int .u8 a).wf = true) : 0 ≤ a ∧ a < 256 := by
  simp only [Lit.wf, Bool.and_eq_true, decide_eq_true_eq, IntKind.min, IntKind.max, IntKind.signed, IntKind.bits] at h
  simp at h; omega
theorem ret_bool {a b : Bool} (h : a = b) : Ending.returned (.bool a) = .returned (.bool b) := by rw [h]
theorem ret_int {k : IntKind} {a b : Int} (h : a = b) : Ending.returned (.int k a) = .returned (.int k b) := by rw [h]

theorem leq_any (a b : Nat) (w : World) (ha : a < 18446744073709551616) (hb : b < 18446744073709551616) :
    Calls Try.prog 61 #[.int .u64 a, .int .u64 b] w fun e w' => e = .returned (.bool (leq a b)) ∧ w = w' := by
  have h1 := u64_andNot_nat a b ha hb
  have h2 : ((((a &&& (18446744073709551615 - b) : Nat) : Int)) == 0) = leq a b := by
    rw [Bool.eq_iff_iff, ← andNot_zero ha hb]; simp
  go_enter Try.func61, Try.ntmps61
  go_wp2
  go_ret
  exact ⟨rfl, rfl⟩

theorem has_bit (l i : Nat) (hl : l < 18446744073709551616) : (bits BinOp.and IntKind.u64 ((l : Int) / 2 ^ i) 1 == 1) = l.testBit i := by
  have e : (l : Int) / 2 ^ i = ((l / 2 ^ i : Nat) : Int) := by simp
  rw [e, show (1 : Int) = ((1 : Nat) : Int) by rfl, u64_and_nat _ _ (Nat.lt_of_le_of_lt (Nat.div_le_self _ _) hl) (by omega), Nat.testBit_eq_decide_div_mod_eq, Nat.and_one_is_mod, Bool.eq_iff_iff]
  simp; omega
theorem has_any (l i : Nat) (w : World) (hl : l < 18446744073709551616) (hi : i < 64) :
    Calls Try.prog 66 #[.int .u64 l, .int .i64 i] w fun e w' => e = .returned (.bool (l.testBit i)) ∧ w = w' := by
  have h := has_bit l i hl
  go_enter Try.func66, Try.ntmps66
  go_wp2
  go_ret
  exact ⟨rfl, rfl⟩

theorem rleq_any (a b : Nat) (w : World) (ha : a < 18446744073709551616) (hb : b < 18446744073709551616) :
    Calls Try.prog 55 #[.int .u64 a, .int .u64 b] w fun e w' => e = .returned (.bool (leq a b)) ∧ w = w' := by
  have HL := Lib.hid (leq_low (b := b) ha)
  go_enter Try.func55, Try.ntmps55
  go_wp2
  go_loop [5] (fun i => ∃ k : Nat, k ≤ 64 ∧ i = .int .i64 k ∧ ∀ j, j < k → a.testBit j = true → b.testBit j = true) (fun i => 64 - (intOf i).toNat)
  case atStart => exact ⟨0, by omega, rfl, fun j hj => absurd hj (by omega)⟩
  case round =>
    obtain ⟨k, hk, rfl, hall⟩ := hrel
    have HA := Lib.hid hall
    clear hall
    by_cases hlt : k < 64
    · have HB := Lib.hid (has_any a k w ha hlt)
      have HC := Lib.hid (has_any b k w hb hlt)
      cases h1 : a.testBit k with
      | false =>
        have H1 := Lib.hid h1
        rw [h1] at HB
        clear h1
        go_wp2_with fail
        refine HB.out.mono ?_
        rintro e w1 ⟨rfl, rfl⟩
        go_wp2
        go_round
        case rel => exact ⟨k + 1, hlt, by go_num, fun j hj h => by
          rcases Nat.lt_succ_iff_lt_or_eq.1 hj with hj | rfl
          · exact HA.out j hj h
          · rw [H1.out] at h; cases h⟩
        case measure => simp [intOf]; omega
      | true =>
        have H1 := Lib.hid h1
        rw [h1] at HB
        clear h1
        cases h2 : b.testBit k with
        | true =>
          have H2 := Lib.hid h2
          rw [h2] at HC
          clear h2
          go_wp2_with fail
          refine HB.out.mono ?_
          rintro e w1 ⟨rfl, rfl⟩
          go_wp2_with fail
          refine HC.out.mono ?_
          rintro e w1 ⟨rfl, rfl⟩
          go_wp2
          go_round
          case rel => exact ⟨k + 1, hlt, by go_num, fun j hj h => by
            rcases Nat.lt_succ_iff_lt_or_eq.1 hj with hj | rfl
            · exact HA.out j hj h
            · exact H2.out⟩
          case measure => simp [intOf]; omega
        | false =>
          have H2 := Lib.hid h2
          rw [h2] at HC
          clear h2
          have HR : Hid (leq a b = false) := by
            show leq a b = false
            rw [← Bool.not_eq_true, HL.out]
            intro h
            have := h k hlt H1.out
            rw [H2.out] at this; cases this
          go_wp2_with fail
          refine HB.out.mono ?_
          rintro e w1 ⟨rfl, rfl⟩
          go_wp2_with fail
          refine HC.out.mono ?_
          rintro e w1 ⟨rfl, rfl⟩
          go_wp2
          go_ret
          exact ⟨ret_bool HR.out.symm, rfl⟩
    · obtain rfl : k = 64 := by omega
      have HR : Hid (leq a b = true) := HL.out.2 HA.out
      go_wp2
      go_ret
      exact ⟨ret_bool HR.out.symm, rfl⟩

theorem join_any (a b : Nat) (w : World) (ha : a < 18446744073709551616) (hb : b < 18446744073709551616) :
    Calls Try.prog 68 #[.int .u64 a, .int .u64 b] w fun e w' => e = .returned (.int .u64 ((a ||| b : Nat) : Int)) ∧ w = w' := by
  have h1 := u64_or_nat a b ha hb
  go_enter Try.func68, Try.ntmps68
  go_wp2
  go_ret
  exact ⟨rfl, rfl⟩
theorem meet_any (a b : Nat) (w : World) (ha : a < 18446744073709551616) (hb : b < 18446744073709551616) :
    Calls Try.prog 69 #[.int .u64 a, .int .u64 b] w fun e w' => e = .returned (.int .u64 ((a &&& b : Nat) : Int)) ∧ w = w' := by
  have h1 := u64_and_nat a b ha hb
  go_enter Try.func69, Try.ntmps69
  go_wp2
  go_ret
  exact ⟨rfl, rfl⟩

theorem of_step (x m : Nat) (hx : x < 18446744073709551616) : x / 2 ^ (m + 1) * 2 < 18446744073709551616 ∧ x / 2 ^ m = x / 2 ^ (m + 1) * 2 + (if x.testBit m = true then 1 else 0) := by
  have h1 := half_step x m
  have h2 := bit_eq x m
  have h3 := Nat.div_le_self x (2 ^ m)
  rw [h2] at h1
  omega
theorem of_any (x : Nat) (arr : Array Value) (w : World) (hx : x < 18446744073709551616) (hs : arr.size = 64) (ha : ∀ j, j < 64 → arr[j]? = some (.bool (x.testBit j))) :
    Calls Try.prog 74 #[.agg arr] w fun e w' => e = .returned (.int .u64 (x : Int)) ∧ w' = w.alloc (.cells arr 104) := by
  have hcell : ∀ j, j < 64 → (w.alloc (.cells arr 104)).cell? ⟨w.heap.size, j, none⟩ = some (.bool (x.testBit j)) := fun j hj => cell_at (heap_new w _) j (ha j hj)
  have HC := Lib.hid hcell
  clear hcell
  have HS := Lib.hid hs
  clear hs ha
  go_enter Try.func74, Try.ntmps74
  go_wp2
  go_loop [3, 4] (fun l i => ∃ (k y : Nat) (n : Int), k ≤ 64 ∧ n = (k : Int) - 1 ∧ i = .int .i64 n ∧ y = x / 2 ^ k ∧ l = .int .u64 y) (fun _ i => (intOf i + 1).toNat)
  case atStart => exact ⟨64, 0, _, by omega, rfl, rfl, by rw [Nat.div_eq_of_lt (by omega)], rfl⟩
  case round =>
    obtain ⟨k, y, n, hk, hn, rfl, hy, rfl⟩ := hrel
    by_cases h0 : k = 0
    · subst h0
      have hneg : n < 0 := by omega
      have HY : Hid (y = x) := by show y = x; simpa using hy
      clear hn hy
      go_wp2
      go_ret
      exact ⟨ret_int (by rw [HY.out]), rfl⟩
    · obtain ⟨m, rfl⟩ : ∃ m, k = m + 1 := ⟨k - 1, by omega⟩
      obtain rfl : n = (m : Int) := by omega
      clear hn
      have hc := HC.out m (by omega)
      have hb := of_step x m hx
      rw [← hy] at hb
      have HO := Lib.hid hb.2
      have hb1 := hb.1
      have hw1 : IntKind.u64.wrap ((y : Int) * 2) = (y : Int) * 2 := by rw [IntKind.wrap_u64]; omega
      have hw2 : IntKind.u64.wrap ((y : Int) * 2 + 1) = (y : Int) * 2 + 1 := by rw [IntKind.wrap_u64]; omega
      clear hb hy
      cases ht : x.testBit m with
      | true =>
        have HT := Lib.hid ht
        rw [ht] at hc
        clear ht
        go_wp2
        go_round
        case rel => exact ⟨m, y * 2 + 1, _, by omega, rfl, rfl, by rw [HO.out, if_pos HT.out], congrArg (Value.int .u64) (by omega)⟩
        case measure => simp [intOf]
      | false =>
        have HT := Lib.hid ht
        rw [ht] at hc
        clear ht
        go_wp2
        go_round
        case rel => exact ⟨m, y * 2, _, by omega, rfl, rfl, by rw [HO.out, if_neg (by rw [HT.out]; simp)]; omega, congrArg (Value.int .u64) (by omega)⟩
        case measure => simp [intOf]

def Fill (x : Nat) (w : World) (i : Value) (wr : World) : Prop :=
  ∃ (k : Nat) (arr : Array Value), k ≤ 64 ∧ i = .int .i64 k ∧ wr.heap[w.heap.size]? = some (.cells arr 104 (0, 0)) ∧ arr.size = 64 ∧ (∀ j, j < k → arr[j]? = some (.bool (x.testBit j))) ∧ Chg (fun _ => False) w wr
theorem fill_step {x k : Nat} {w wr : World} {arr : Array Value} (hk : k < 64) (hb : wr.heap[w.heap.size]? = some (.cells arr 104 (0, 0))) (hs : arr.size = 64) (ha : ∀ j, j < k → arr[j]? = some (.bool (x.testBit j))) (hc : Chg (fun _ => False) w wr) {v : Bool} (hv : v = x.testBit k) :
    Fill x w (.int .i64 ((k : Int) + 1)) (wr.setCell ⟨w.heap.size, k, none⟩ (.bool v)) := by
  refine ⟨k + 1, _, hk, by go_num, heap_set hb k _, by simpa using hs, fun j hj => ?_, hc.set (.inl (Nat.le_refl _))⟩
  by_cases hjk : j = k
  · subst hjk
    rw [Array.getElem?_setIfInBounds_self_of_lt (by omega), hv]
  · rw [Array.getElem?_setIfInBounds_ne (fun h => hjk h.symm), ha j (by omega)]
theorem lt_or (a b : Nat) (ha : a < 18446744073709551616) (hb : b < 18446744073709551616) : a ||| b < 18446744073709551616 := Nat.or_lt_two_pow (n := 64) ha hb
theorem lt_and (a b : Nat) (ha : a < 18446744073709551616) : a &&& b < 18446744073709551616 := Nat.lt_of_le_of_lt Nat.and_le_left ha

set_option maxRecDepth 100000 in
theorem rjoin_any (a b : Nat) (w : World) (ha : a < 18446744073709551616) (hb : b < 18446744073709551616) :
    Calls Try.prog 71 #[.int .u64 a, .int .u64 b] w fun e w' => e = .returned (.int .u64 ((a ||| b : Nat) : Int)) ∧ Below w.heap.size w w' := by
  have HLT : Hid (a ||| b < 18446744073709551616) := lt_or a b ha hb
  go_enter Try.func71, Try.ntmps71
  go_wp2
  go_loopw [6] (fun i wr => Fill (a ||| b) w i wr) (fun i _ => 64 - (intOf i).toNat)
  case atStart => exact ⟨0, _, by omega, rfl, heap_new w _, rfl, fun j hj => absurd hj (by omega), (Chg.refl _ w).alloc _⟩
  case round =>
    obtain ⟨k, arr, hk, rfl, hbl, hsz, hall, hchg⟩ := hrel
    by_cases hlt : k < 64
    · have HB := Lib.hid (has_any a k wr ha hlt)
      have HC := Lib.hid (has_any b k wr hb hlt)
      obtain ⟨v0, c1⟩ : ∃ v, wr.cell? ⟨w.heap.size, k, none⟩ = some v := ⟨_, cell_at hbl k (v := arr[k]'(by omega)) (Array.getElem?_eq_getElem (by omega))⟩
      have c2 := free_at hbl k
      have HS := Lib.hid (fun v hv => fill_step (x := a ||| b) (v := v) hlt hbl hsz hall hchg hv)
      clear hbl hsz hall hchg
      cases h1 : a.testBit k with
      | true =>
        have H1 := Lib.hid h1
        rw [h1] at HB
        clear h1
        go_wp2_with fail
        refine HB.out.mono ?_
        rintro e w1 ⟨rfl, rfl⟩
        go_wp2
        go_roundw
        case rel => exact HS.out _ (by rw [Nat.testBit_or, H1.out]; rfl)
        case measure => simp [intOf]; omega
      | false =>
        have H1 := Lib.hid h1
        rw [h1] at HB
        clear h1
        cases h2 : b.testBit k with
        | true =>
          have H2 := Lib.hid h2
          rw [h2] at HC
          clear h2
          go_wp2_with fail
          refine HB.out.mono ?_
          rintro e w1 ⟨rfl, rfl⟩
          go_wp2_with fail
          refine HC.out.mono ?_
          rintro e w1 ⟨rfl, rfl⟩
          go_wp2
          go_roundw
          case rel => exact HS.out _ (by rw [Nat.testBit_or, H1.out, H2.out]; rfl)
          case measure => simp [intOf]; omega
        | false =>
          have H2 := Lib.hid h2
          rw [h2] at HC
          clear h2
          go_wp2_with fail
          refine HB.out.mono ?_
          rintro e w1 ⟨rfl, rfl⟩
          go_wp2_with fail
          refine HC.out.mono ?_
          rintro e w1 ⟨rfl, rfl⟩
          go_wp2
          go_roundw
          case rel => exact HS.out _ (by rw [Nat.testBit_or, H1.out, H2.out]; rfl)
          case measure => simp [intOf]; omega
    · obtain rfl : k = 64 := by omega
      have hsz' : (Try.prog.info? 104).map (·.size) = some arr.size := by rw [hsz]; kernel_rfl
      have HO := Lib.hid (fun W => of_any (a ||| b) arr W HLT.out hsz hall)
      have HC := Lib.hid hchg
      clear hchg hall hsz
      go_wp2_with (refine wpList_load_row rfl 104 _ rfl w.heap.size rfl 104 arr (0, 0) _ hbl Try.underlying104 rfl hsz' ?_)
      refine (HO.out _).mono ?_
      rintro e w1 ⟨rfl, rfl⟩
      go_wp2
      go_ret
      exact ⟨rfl, (HC.out.alloc _).below⟩

set_option maxRecDepth 100000 in
theorem rmeet_any (a b : Nat) (w : World) (ha : a < 18446744073709551616) (hb : b < 18446744073709551616) :
    Calls Try.prog 72 #[.int .u64 a, .int .u64 b] w fun e w' => e = .returned (.int .u64 ((a &&& b : Nat) : Int)) ∧ Below w.heap.size w w' := by
  have HLT : Hid (a &&& b < 18446744073709551616) := lt_and a b ha
  go_enter Try.func72, Try.ntmps72
  go_wp2
  go_loopw [6] (fun i wr => Fill (a &&& b) w i wr) (fun i _ => 64 - (intOf i).toNat)
  case atStart => exact ⟨0, _, by omega, rfl, heap_new w _, rfl, fun j hj => absurd hj (by omega), (Chg.refl _ w).alloc _⟩
  case round =>
    obtain ⟨k, arr, hk, rfl, hbl, hsz, hall, hchg⟩ := hrel
    by_cases hlt : k < 64
    · have HB := Lib.hid (has_any a k wr ha hlt)
      have HC := Lib.hid (has_any b k wr hb hlt)
      obtain ⟨v0, c1⟩ : ∃ v, wr.cell? ⟨w.heap.size, k, none⟩ = some v := ⟨_, cell_at hbl k (v := arr[k]'(by omega)) (Array.getElem?_eq_getElem (by omega))⟩
      have c2 := free_at hbl k
      have HS := Lib.hid (fun v hv => fill_step (x := a &&& b) (v := v) hlt hbl hsz hall hchg hv)
      clear hbl hsz hall hchg
      cases h1 : a.testBit k with
      | false =>
        have H1 := Lib.hid h1
        rw [h1] at HB
        clear h1
        go_wp2_with fail
        refine HB.out.mono ?_
        rintro e w1 ⟨rfl, rfl⟩
        go_wp2
        go_roundw
        case rel => exact HS.out _ (by rw [Nat.testBit_and, H1.out]; rfl)
        case measure => simp [intOf]; omega
      | true =>
        have H1 := Lib.hid h1
        rw [h1] at HB
        clear h1
        cases h2 : b.testBit k with
        | true =>
          have H2 := Lib.hid h2
          rw [h2] at HC
          clear h2
          go_wp2_with fail
          refine HB.out.mono ?_
          rintro e w1 ⟨rfl, rfl⟩
          go_wp2_with fail
          refine HC.out.mono ?_
          rintro e w1 ⟨rfl, rfl⟩
          go_wp2
          go_roundw
          case rel => exact HS.out _ (by rw [Nat.testBit_and, H1.out, H2.out]; rfl)
          case measure => simp [intOf]; omega
        | false =>
          have H2 := Lib.hid h2
          rw [h2] at HC
          clear h2
          go_wp2_with fail
          refine HB.out.mono ?_
          rintro e w1 ⟨rfl, rfl⟩
          go_wp2_with fail
          refine HC.out.mono ?_
          rintro e w1 ⟨rfl, rfl⟩
          go_wp2
          go_roundw
          case rel => exact HS.out _ (by rw [Nat.testBit_and, H1.out, H2.out]; rfl)
          case measure => simp [intOf]; omega
    · obtain rfl : k = 64 := by omega
      have hsz' : (Try.prog.info? 104).map (·.size) = some arr.size := by rw [hsz]; kernel_rfl
      have HO := Lib.hid (fun W => of_any (a &&& b) arr W HLT.out hsz hall)
      have HC := Lib.hid hchg
      clear hchg hall hsz
      go_wp2_with (refine wpList_load_row rfl 104 _ rfl w.heap.size rfl 104 arr (0, 0) _ hbl Try.underlying104 rfl hsz' ?_)
      refine (HO.out _).mono ?_
      rintro e w1 ⟨rfl, rfl⟩
      go_wp2
      go_ret
      exact ⟨rfl, (HC.out.alloc _).below⟩
end Go.Proofs.Ytchlolgfahgdeaa.Lbw
