/- Labels as numbers in new memory: plain by contract. Conditions: what comes in reads so. -/
import Derived.Test.YtdfplhoijapoeaaLmay
import Derived.Laws.MakeOwn
set_option linter.unusedVariables false
set_option linter.unusedSimpArgs false
namespace Go.Proofs.Ytdfplhoijapoeaa.Lpl
open Go.RowKit Go.Proofs.Ytdfplhoijapoeaa.Lib1 Go.Proofs.Ytdfplhoijapoeaa.Lat Go.Proofs.Ytdfplhoijapoeaa.Lbl Go.Proofs.Ytdfplhoijapoeaa.Lbw Go.Proofs.Ytdfplhoijapoeaa.Lck Go.Proofs.Ytdfplhoijapoeaa.Lmay

theorem info_u64 : (Try.prog.info? 22).map (fun i => (i.zero, i.size, i.bytes)) = some (some (.int .u64 0), 1, 8) := by kernel_rfl
theorem make_u64 (n : Nat) (hn : n * 8 ≤ 140737488351232) (W : World) : (Instr.makeSlice 37 (.int .i64 (n : Int)) (.int .i64 (n : Int))).run Try.prog W = .ok (.slice (some ⟨W.heap.size, 0, none⟩) n n) (W.alloc (.cells (madeCells #[.int .u64 0] n) 22)) := by
  obtain ⟨i0, hi, hz0, hz1, hz2⟩ := info_parts info_u64
  have hb : (i0.bytes : Int) * (n : Int) ≤ 281474976710656 := by rw [hz2]; omega
  have hr := run_make (P := Try.prog) W 37 22 i0 _ Try.underlying37 hi hz0 .i64 .i64 n n (by omega) (by omega) hb (by omega)
  rw [hz1] at hr
  simp only [Int.toNat_natCast] at hr
  simp only [Nat.mul_one] at hr
  exact hr
/-- How far the numbers are laid. -/
structure UArr (arr : Array Value) (ls : List Nat) (k : Nat) : Prop where
  size : arr.size = ls.length
  at_ : ∀ q, q < k → arr[q]? = some (.int .u64 ((ls.getD q 0 : Nat) : Int))
theorem UArr.set {arr : Array Value} {ls : List Nat} {k : Nat} (h : UArr arr ls k) (hk : k < ls.length) : UArr (arr.setIfInBounds k (.int .u64 ((ls.getD k 0 : Nat) : Int))) ls (k + 1) := by
  refine ⟨by simpa using h.size, fun q hq => ?_⟩
  by_cases e : q = k
  · subst e; rw [Array.getElem?_setIfInBounds_self_of_lt (by rw [h.size]; exact hk)]
  · rw [Array.getElem?_setIfInBounds_ne (Ne.symm e)]; exact h.at_ q (by omega)
set_option maxRecDepth 100000 in
set_option maxHeartbeats 1600000 in
theorem plain_any {ok : Nat → Prop} {w : World} (ls : List Nat) (A : Option Addr) (n c : Nat) (h : Rd ok w A n c 1 (us ls)) (hok : ∀ k, ok k → k < w.heap.size) (hf : n * 8 ≤ 140737488351232) :
    Calls Try.prog 29 #[.slice A n c] w fun e w' => ∃ v, e = .returned v ∧ w'.ownsRow w.heap.size 22 1 v n (us ls) ∧ Chg (fun _ => False) w w' := by
  have HL : Hid (ls.length = n) := by have := h.len; rw [us_len] at this; show _ = _; omega
  have HRd : Hid (∀ w', Chg (fun k => k = w.heap.size) w w' → Rd ok w' A n c 1 (us ls)) := fun w' hc => h.move (fun k hk => hc.block k (hok k hk) (fun he => by have := hok k hk; omega))
  have hmk := make_u64 n hf
  have HOK := Lib.hid hok
  clear h hok
  obtain ⟨w1, hw1⟩ : ∃ w1, w1 = w.alloc (.cells (madeCells #[.int .u64 0] n) 22) := ⟨_, rfl⟩
  have HW1 := Lib.hid hw1
  have hb1 : w1.heap[w.heap.size]? = some (.cells (madeCells #[.int .u64 0] n) 22 (0, 0)) := by rw [hw1]; exact heap_new w _
  have C1 : Hid (Chg (fun _ => False) w w1) := by show Chg _ _ _; rw [hw1]; exact (Chg.refl _ w).alloc _
  have HB1 := Lib.hid hb1
  have U0 : Hid (UArr (madeCells #[.int .u64 0] n) ls 0) := ⟨by rw [size_madeCells, HL.out], fun q hq => absurd hq (by omega)⟩
  clear hw1 hb1
  go_enter Try.func29, Try.ntmps29
  go_wp2
  go_loopw [4] (fun i wr => ∃ (k : Nat) (arr : Array Value), k ≤ n ∧ i = .int .i64 k ∧ wr.heap[w.heap.size]? = some (.cells arr 22 (0, 0)) ∧ UArr arr ls k ∧ Chg (fun _ => False) w wr) (fun i _ => n - (intOf i).toNat)
  case atStart => exact ⟨0, _, Nat.zero_le _, rfl, by rw [← HW1.out]; exact HB1.out, U0.out, by rw [← HW1.out]; exact C1.out⟩
  case round =>
    obtain ⟨k, arr, hk, rfl, hb, hu, hc⟩ := hrel
    have HB := Lib.hid hb
    have HU := Lib.hid hu
    have HC := Lib.hid hc
    by_cases hlt : k < n
    · obtain ⟨g, off, rfl, hg, hcell⟩ := rd_us (HRd.out _ (hc.mono (fun _ _ h => h.elim))) (by omega)
      have q0 := hcell k hlt
      obtain ⟨u, hu0⟩ : ∃ u, arr[k]? = some u := ⟨arr[k]'(by rw [hu.size, HL.out]; exact hlt), Array.getElem?_eq_getElem _⟩
      have o0 := cell_at hb k hu0
      have o1 := free_at hb k
      have HS : Hid (UArr (arr.setIfInBounds k (.int .u64 ((ls.getD k 0 : Nat) : Int))) ls (k + 1)) := hu.set (by rw [HL.out]; exact hlt)
      have hgw := HOK.out g hg
      generalize hx : ls.getD k 0 = x at *
      clear hb hu hc hcell hg hx hu0
      have i1 : (k : Int) < (n : Int) := by omega
      go_wp2
      go_roundw
      case rel => exact ⟨k + 1, _, hlt, by go_num, heap_set HB.out _ _, HS.out, HC.out.set (.inl (Nat.le_refl _))⟩
      case measure => simp [intOf]; omega
    · clear hb hu hc
      go_wp2
      go_ret
      have hkn : k = n := by omega
      refine ⟨_, rfl, ⟨by rw [us_len, HL.out]; omega, .inr ⟨w.heap.size, n, arr, rfl, Nat.le_refl _, HB.out, Nat.le_refl _, by simp only [maxLen]; omega, by rw [HU.out.size, HL.out]; omega, ?_⟩⟩, HC.out⟩
      have hsz : arr.size = n := by rw [HU.out.size, HL.out]
      apply List.ext_getElem?
      intro j
      rw [Nat.mul_one, List.take_of_length_le (by simp [hsz])]
      rcases Nat.lt_or_ge j n with hj | hj
      · rw [us_get (by rw [HL.out]; exact hj)]
        have := HU.out.at_ j (by omega)
        simpa using this
      · rw [List.getElem?_eq_none (by simp [hsz]; exact hj), List.getElem?_eq_none (by rw [us_len, HL.out]; exact hj)]
end Go.Proofs.Ytdfplhoijapoeaa.Lpl
