/- The queue's methods at one type of things ([]int), each by its contract. Conditions: a queue as IsQ tells it. -/
import Derived.Test.YtmlomceemcbnaaaProg
import Derived.Test.YtmlomceemcbnaaaQ
import Derived.KernelRfl
import Derived.Deep.QuietTactic
import Derived.BigQuiet
import Derived.Lib.Hide
import Derived.Deep.OwnRows
set_option linter.unusedVariables false
namespace Go.Proofs.Ytmlomceemcbnaaa.Qlst
open Go.RowKit Go.Proofs.Ytmlomceemcbnaaa.Lib1 Go.Proofs.Ytmlomceemcbnaaa.Q

abbrev QT : Nat := 96
abbrev ET : Nat := 49

theorem at_any {b g n first : Nat} {arr : Array Value} {most : Int} {xs : List Value} (x : Option Addr) (xn xc : Nat) (i : Int) (w : World)
    (h : HasQ QT ET w b g n first arr most xs) (hi0 : 0 ≤ i) (hx : xs[i.toNat]? = some (.slice x xn xc)) :
    Calls Try.prog 58 #[.pointer (some ⟨b, 0, none⟩), .int .i64 i] w fun e w' => e = .returned (.slice x xn xc) ∧ ∃ m, w' = w.drewN m := by
  obtain ⟨j, rfl⟩ := Int.eq_ofNat_of_zero_le hi0
  rw [Int.toNat_natCast] at hx
  have hj := (List.getElem?_eq_some_iff.1 hx).1
  have h1 := h.c1
  have h2 := h.c2
  have hc := cell_at h.hg _ (h.get hx)
  have a1 := h.pos
  have a2 := h.le
  have a3 := h.top
  have a4 := h.first_lt
  have a5 := h.fits
  have e1 : IntKind.i64.wrap ((first : Int) + (j : Int)) = (first : Int) + (j : Int) := IntWalk.i64_in _ (by omega)
  have e2 : ((first : Int) + (j : Int)).tmod n = ((first : Int) + (j : Int)) % n := Int.tmod_eq_emod_of_nonneg (by omega)
  have e3 : 0 ≤ ((first : Int) + (j : Int)) % n := Int.emod_nonneg _ (by omega)
  have e4 : ((first : Int) + (j : Int)) % n < n := Int.emod_lt_of_pos _ (by omega)
  clear hx hi0 h
  go_enter Try.func58, Try.ntmps58
  go_wp2
  go_quiet (fail)
  go_wp2
  go_ret
  exact ⟨rfl, _, rfl⟩


theorem len_nil (w : World) : Calls Try.prog 61 #[.pointer none] w fun e w' => e = .returned (.int .i64 0) ∧ w = w' := by
  go_enter Try.func61, Try.ntmps61
  go_wp2
  go_ret
  exact ⟨rfl, rfl⟩

theorem len_any {b : Nat} {l : Option Nat} {most : Int} {xs : List Value} (w : World) (h : IsQ QT ET w b l most xs) :
    Calls Try.prog 61 #[.pointer (some ⟨b, 0, none⟩)] w fun e w' => e = .returned (.int .i64 (xs.length : Int)) ∧ w = w' := by
  have h3 : w.cell? ⟨b, 3, none⟩ = some (.int .i64 (xs.length : Int)) := by
    rcases h with ⟨_, rfl, _, _, h⟩ | ⟨g, n, first, arr, _, h⟩
    · exact cell_at h 3 rfl
    · exact h.c3
  clear h
  go_enter Try.func61, Try.ntmps61
  go_wp2
  go_ret
  exact ⟨rfl, rfl⟩

theorem new_ok (most : Int) (w : World) (h0 : 0 ≤ most) (h1 : most ≤ 65536) :
    Calls Try.prog 20 #[.int .i64 most] w fun e w' => e = .returned (.tuple #[.pointer (some ⟨w.heap.size, 0, none⟩), .int .i64 0]) ∧ w' = w.alloc (.cells #[.int .i64 most, .slice none 0 0, .int .i64 0, .int .i64 0] QT) := by
  go_enter Try.func20, Try.ntmps20
  go_wp2
  go_ret2
  exact ⟨rfl, rfl⟩
theorem new_low (most : Int) (w : World) (h0 : most < 0) :
    Calls Try.prog 20 #[.int .i64 most] w fun e w' => e = .returned (.tuple #[.pointer none, .int .i64 2]) ∧ w = w' := by
  go_enter Try.func20, Try.ntmps20
  go_wp2
  go_ret2
  exact ⟨rfl, rfl⟩
theorem new_high (most : Int) (w : World) (h0 : 0 ≤ most) (h1 : 65536 < most) :
    Calls Try.prog 20 #[.int .i64 most] w fun e w' => e = .returned (.tuple #[.pointer none, .int .i64 3]) ∧ w = w' := by
  go_enter Try.func20, Try.ntmps20
  go_wp2
  go_ret2
  exact ⟨rfl, rfl⟩

theorem first_nil (w : World) : Calls Try.prog 44 #[.pointer none] w fun e w' => e = .returned (.tuple #[.slice none 0 0, .bool false]) ∧ w = w' := by
  go_enter Try.func44, Try.ntmps44
  go_wp2_with fail
  refine (len_nil _).mono ?_
  rintro e w' ⟨rfl, rfl⟩
  go_wp2
  go_ret2
  exact ⟨rfl, rfl⟩
theorem first_none {b : Nat} {l : Option Nat} {most : Int} (w : World) (h : IsQ QT ET w b l most []) :
    Calls Try.prog 44 #[.pointer (some ⟨b, 0, none⟩)] w fun e w' => e = .returned (.tuple #[.slice none 0 0, .bool false]) ∧ w = w' := by
  have HL := Lib.hid (len_any w h)
  clear h
  go_enter Try.func44, Try.ntmps44
  go_wp2_with fail
  refine HL.out.mono ?_
  rintro e w' ⟨rfl, rfl⟩
  go_wp2
  go_ret2
  exact ⟨rfl, rfl⟩
theorem first_some {b g n first : Nat} {arr : Array Value} {most : Int} {xs : List Value} (x : Option Addr) (xn xc : Nat) (w : World) (h : HasQ QT ET w b g n first arr most xs) (hx : xs[0]? = some (.slice x xn xc)) :
    Calls Try.prog 44 #[.pointer (some ⟨b, 0, none⟩)] w fun e w' => e = .returned (.tuple #[.slice x xn xc, .bool true]) ∧ ∃ m, w' = w.drewN m := by
  have hl := (List.getElem?_eq_some_iff.1 hx).1
  have HL := Lib.hid (len_any (l := some g) w (.inr ⟨g, n, first, arr, rfl, h⟩))
  have HA := Lib.hid (at_any x xn xc 0 w h (by omega) (by simpa using hx))
  have e0 : ((xs.length : Int) == 0) = false := by rw [beq_eq_false_iff_ne]; omega
  clear h hx hl
  go_enter Try.func44, Try.ntmps44
  go_wp2_with fail
  refine HL.out.mono ?_
  rintro e w' ⟨rfl, rfl⟩
  go_wp2_with fail
  refine HA.out.mono ?_
  rintro e w' ⟨rfl, m, rfl⟩
  go_wp2
  go_ret2
  exact ⟨rfl, m, rfl⟩


theorem grow_room {b g n first : Nat} {arr : Array Value} {most : Int} {xs : List Value} (w : World) (h : HasQ QT ET w b g n first arr most xs) (hr : (xs.length : Int) < n) :
    Calls Try.prog 41 #[.pointer (some ⟨b, 0, none⟩)] w fun e w' => e = .returned (.tuple #[]) ∧ ∃ m, w' = w.drewN m := by
  have h1 := h.c1
  have h3 := h.c3
  clear h
  go_enter Try.func41, Try.ntmps41
  go_wp2
  go_quiet (fail)
  go_wp2
  refine bodyPost_ret (results_none rfl _ _ _) rfl ?_
  exact ⟨rfl, _, rfl⟩

theorem made (E : Int) (M : Nat) (hE : E = M) (hM : M ≤ 65536) (W : World) :
    (Instr.makeSlice 51 (.int .i64 E) (.int .i64 E)).run Try.prog W = .ok (.slice (some ⟨W.heap.size, 0, none⟩) M M) (W.alloc (.cells (madeCells #[.slice none 0 0] M) ET)) := by
  subst hE
  exact run_make_row' 51 ET (.slice none 0 0) 24 Try.underlying51 (by kernel_rfl) rfl .i64 .i64 M (by omega) (by omega) W

set_option maxRecDepth 100000 in
theorem grow_full {b g n first : Nat} {arr : Array Value} {most : Int} {xs : List Value} (w : World) (h : HasQ QT ET w b g n first arr most xs) (hr : xs.length = n) (hm : (n : Int) < most)
    (M : Nat) (hif : (if 2 * (n : Int) + 1 < most then 2 * (n : Int) + 1 else most) = (M : Int)) (henc : ∀ v, v ∈ xs → ∃ (x : Option Addr) (xn xc : Nat), v = .slice x xn xc) :
    Calls Try.prog 41 #[.pointer (some ⟨b, 0, none⟩)] w fun e w' => e = .returned (.tuple #[]) ∧ ∃ arr', HasQ QT ET w' b w.heap.size M 0 arr' most xs ∧ Chg (fun k => k = b) w w' := by
  have h0 := h.c0
  have h1 := h.c1
  have h2 := h.c2
  have h3 := h.c3
  have a1 := h.pos
  have a2 := h.le
  have a3 := h.top
  have hM : n < M ∧ M ≤ 65536 := by
    split at hif <;> omega
  have hmk := made M M rfl hM.2
  have HX := Lib.hid hr
  have hbl := lt_of w h.hb
  have hgl := lt_of w h.hg
  have d1 : decide ((xs.length : Int) < n) = false := by simp; omega
  have k3 : ∀ (m : Nat) (o : Obj), ((w.drewN m).alloc o).cell? ⟨b, 3, none⟩ = some (.int .i64 (xs.length : Int)) := fun m o => (World.cell?_alloc_lt (w.drewN m) o ⟨b, 3, none⟩ hbl).trans h3
  go_enter Try.func41, Try.ntmps41
  go_wp2
  go_quiet (fail)
  go_wp2
  go_region
  go_wp2
  go_loopw [31] (fun i wr => GrowRel ET w n M xs i wr) (fun i _ => n - (intOf i).toNat)
  case atStart => exact GrowRel.start ..
  case round =>
    obtain ⟨k, hk, rfl, arr', hnew, hsz, hcopy, hchg⟩ := hrel
    have HQ := h.moved (hchg.block b hbl (fun h => h)) (hchg.block g hgl (fun h => h))
    by_cases hlt : k < n
    · have hkx : k < xs.length := by omega
      obtain ⟨x, xn, xc, hxe⟩ := henc xs[k] (List.getElem_mem hkx)
      have hxk : xs[k]? = some (.slice x xn xc) := by rw [List.getElem?_eq_getElem hkx, hxe]
      have HA := Lib.hid (at_any x xn xc (k : Int) wr HQ (by omega) (by simpa using hxk))
      have hck := cell_at hnew k (v := arr'[k]'(by omega)) (Array.getElem?_eq_getElem (by omega))
      have hfk := free_at hnew k
      have HXK := Lib.hid hxk
      clear hxk hxe
      go_wp2_with fail
      refine HA.out.mono ?_
      rintro e w' ⟨rfl, m, rfl⟩
      go_wp2
      go_roundw
      case rel => exact GrowRel.step hnew hsz hcopy hchg hlt hM.1 HXK.out rfl rfl rfl rfl
      case measure => simp [intOf]; omega
    · obtain rfl : k = n := by omega
      have q1 := HQ.c1
      have q2 := HQ.c2
      have r1 := HQ.fb 1
      have r2 := HQ.fb 2
      go_wp2
      go_end0
      exact ⟨rfl, _, h.grown hr hM.1 (by split at hif <;> omega) hnew hsz hcopy hchg rfl rfl rfl rfl⟩

set_option maxRecDepth 100000 in
theorem grow_nil {b : Nat} {most : Int} (w : World) (h : w.heap[b]? = some (.cells #[.int .i64 most, .slice none 0 0, .int .i64 0, .int .i64 0] QT (0, 0))) (hm : 0 < most) (h1 : most ≤ 65536) :
    Calls Try.prog 41 #[.pointer (some ⟨b, 0, none⟩)] w fun e w' => e = .returned (.tuple #[]) ∧ HasQ QT ET w' b w.heap.size 1 0 (madeCells #[.slice none 0 0] 1) most [] ∧ Chg (fun k => k = b) w w' := by
  have q0 : w.cell? ⟨b, 0, none⟩ = some (.int .i64 most) := cell_at h 0 rfl
  have q1 : w.cell? ⟨b, 1, none⟩ = some (.slice none 0 0) := cell_at h 1 rfl
  have q2 : w.cell? ⟨b, 2, none⟩ = some (.int .i64 0) := cell_at h 2 rfl
  have q3 : w.cell? ⟨b, 3, none⟩ = some (.int .i64 0) := cell_at h 3 rfl
  have f1 := free_at h 1
  have f2 := free_at h 2
  have hbl := lt_of w h
  have hmk := made 1 1 rfl (by omega)
  have k0 : ∀ (m : Nat) (o : Obj), ((w.drewN m).alloc o).cell? ⟨b, 3, none⟩ = some (.int .i64 0) := fun m o => (World.cell?_alloc_lt (w.drewN m) o ⟨b, 3, none⟩ hbl).trans q3
  have k1 : ∀ (m : Nat) (o : Obj), ((w.drewN m).alloc o).cell? ⟨b, 1, none⟩ = some (.slice none 0 0) := fun m o => (World.cell?_alloc_lt (w.drewN m) o ⟨b, 1, none⟩ hbl).trans q1
  have k2 : ∀ (m : Nat) (o : Obj), ((w.drewN m).alloc o).cell? ⟨b, 2, none⟩ = some (.int .i64 0) := fun m o => (World.cell?_alloc_lt (w.drewN m) o ⟨b, 2, none⟩ hbl).trans q2
  have l1 : ∀ (m : Nat) (o : Obj), ((w.drewN m).alloc o).frozen? ⟨b, 1, none⟩ = false := fun m o => by
    have h' : (w.drewN m).heap[b]? = _ := h
    exact free_at (heap_old o h') 1
  have l2 : ∀ (m : Nat) (o : Obj), ((w.drewN m).alloc o).frozen? ⟨b, 2, none⟩ = false := fun m o => by
    have h' : (w.drewN m).heap[b]? = _ := h
    exact free_at (heap_old o h') 2
  have hif : (if 1 < most then 1 else most) = 1 := by split <;> omega
  go_enter Try.func41, Try.ntmps41
  go_wp2
  go_quiet (fail)
  go_wp2
  go_region
  go_wp2
  go_loopw [31] (fun i wr => i = .int .i64 0 ∧ ∃ m, wr = (w.drewN m).alloc (.cells (madeCells #[.slice none 0 0] 1) ET)) (fun i _ => 0)
  case atStart => exact ⟨rfl, _, rfl⟩
  case round =>
    obtain ⟨rfl, m, rfl⟩ := hrel
    go_wp2
    go_end0
    exact ⟨rfl, grown_nil h (by omega) (by omega) h1 rfl rfl rfl rfl⟩

/-- grow, where one more will fit. -/
theorem grow_any {b : Nat} {l : Option Nat} {most : Int} {xs : List Value} (w : World) (h : IsQ QT ET w b l most xs) (hm : (xs.length : Int) < most) (henc : ∀ v, v ∈ xs → ∃ (x : Option Addr) (xn xc : Nat), v = .slice x xn xc) :
    Calls Try.prog 41 #[.pointer (some ⟨b, 0, none⟩)] w fun e w' => e = .returned (.tuple #[]) ∧ ∃ g n first arr, HasQ QT ET w' b g n first arr most xs ∧ xs.length < n ∧ (l = some g ∨ w.heap.size ≤ g) ∧ Chg (fun k => k = b) w w' := by
  rcases h with ⟨_, rfl, h0, h1, h⟩ | ⟨g, n, first, arr, e, h⟩
  · refine (grow_nil w h (by simpa using hm) h1).mono ?_
    rintro e w' ⟨rfl, hq, hc⟩
    exact ⟨rfl, _, _, _, _, hq, by simp, .inr (Nat.le_refl _), hc⟩
  · by_cases hr : xs.length < n
    · refine (grow_room w h (by omega)).mono ?_
      rintro e w' ⟨rfl, m, rfl⟩
      exact ⟨rfl, g, n, first, arr, h.moved rfl rfl, hr, .inl e, (Chg.refl _ _).drewN m⟩
    · have := h.fits
      have := h.le
      have := h.top
      obtain ⟨M, hM⟩ : ∃ M : Nat, (if 2 * (n : Int) + 1 < most then 2 * (n : Int) + 1 else most) = (M : Int) := ⟨(if 2 * (n : Int) + 1 < most then 2 * (n : Int) + 1 else most).toNat, by split <;> omega⟩
      refine (grow_full w h (by omega) (by omega) M hM henc).mono ?_
      rintro e w' ⟨rfl, arr', hq, hc⟩
      exact ⟨rfl, _, _, _, _, hq, by split at hM <;> omega, .inr (Nat.le_refl _), hc⟩

theorem push_nil (x : Option Addr) (xn xc : Nat) (w : World) : Calls Try.prog 23 #[.pointer none, .slice x xn xc] w fun e w' => e = .returned (.int .i64 1) ∧ w = w' := by
  go_enter Try.func23, Try.ntmps23
  go_wp2
  go_ret
  exact ⟨rfl, rfl⟩

theorem push_full {b : Nat} {l : Option Nat} {most : Int} {xs : List Value} (x : Option Addr) (xn xc : Nat) (w : World) (h : IsQ QT ET w b l most xs) (hm : most ≤ (xs.length : Int)) :
    Calls Try.prog 23 #[.pointer (some ⟨b, 0, none⟩), .slice x xn xc] w fun e w' => e = .returned (.int .i64 50) ∧ ∃ m, w' = w.drewN m := by
  have q0 := h.c0
  have q3 := h.c3
  clear h
  go_enter Try.func23, Try.ntmps23
  go_wp2
  go_quiet (fail)
  go_wp2
  go_ret
  exact ⟨rfl, _, rfl⟩

set_option maxRecDepth 100000 in
theorem push_room {b : Nat} {l : Option Nat} {most : Int} {xs : List Value} (x : Option Addr) (xn xc : Nat) (w : World) (h : IsQ QT ET w b l most xs) (hm : (xs.length : Int) < most) (henc : ∀ v, v ∈ xs → ∃ (x : Option Addr) (xn xc : Nat), v = .slice x xn xc) :
    Calls Try.prog 23 #[.pointer (some ⟨b, 0, none⟩), .slice x xn xc] w fun e w' => e = .returned (.int .i64 0) ∧ ∃ l', IsQ QT ET w' b l' most (xs ++ [.slice x xn xc]) ∧ (l' = l ∨ ∃ g, l' = some g ∧ w.heap.size ≤ g) ∧ Chg (fun k => k = b ∨ some k = l) w w' := by
  have q0 := h.c0
  have q3 := h.c3
  have HG : Hid (∀ m, Calls Try.prog 41 #[.pointer (some ⟨b, 0, none⟩)] (w.drewN m) fun e w' => e = .returned (.tuple #[]) ∧ ∃ g n first arr, HasQ QT ET w' b g n first arr most xs ∧ xs.length < n ∧ (l = some g ∨ w.heap.size ≤ g) ∧ Chg (fun k => k = b) w w') := by
    refine Lib.hid fun m => (grow_any (w.drewN m) (h.moved rfl (fun _ _ => rfl)) hm henc).mono ?_
    rintro e w' ⟨rfl, g, n, first, arr, h1, h2, h3, h4⟩
    exact ⟨rfl, g, n, first, arr, h1, h2, h3, h4.from_drewN⟩
  go_enter Try.func23, Try.ntmps23
  go_wp2
  go_quiet (fail)
  go_wp2_with fail
  refine (HG.out _).mono ?_
  rintro e w1 ⟨rfl, g, n, first, arr, hq, hroom, hl, hc⟩
  have c1 := hq.c1
  have c2 := hq.c2
  have c3 := hq.c3
  have f3 := hq.fb 3
  have a1 := hq.pos
  have a2 := hq.le
  have a3 := hq.top
  have a4 := hq.first_lt
  have a5 : (first + xs.length) % n < n := Nat.mod_lt _ a1
  have a6 := hq.ne
  have a7 : 0 ≤ ((first : Int) + (xs.length : Int)) % (n : Int) := Int.emod_nonneg _ (by omega)
  have a8 : ((first : Int) + (xs.length : Int)) % (n : Int) < (n : Int) := Int.emod_lt_of_pos _ (by omega)
  have HR := Lib.hid hq.size
  have cg : w1.cell? ⟨g, (first + xs.length) % n, none⟩ = some (arr[(first + xs.length) % n]'(by rw [HR.out]; exact a5)) := cell_at hq.hg _ (Array.getElem?_eq_getElem _)
  have fg := hq.fg ((first + xs.length) % n)
  clear q0 q3
  go_wp2_with fail
  go_region
  go_wp2
  go_ret
  exact ⟨rfl, push_end hq hroom hl hc rfl rfl rfl rfl⟩

theorem pop_nil (w : World) : Calls Try.prog 26 #[.pointer none] w fun e w' => e = .returned (.tuple #[.slice none 0 0, .bool false]) ∧ w = w' := by
  go_enter Try.func26, Try.ntmps26
  go_wp2_with fail
  refine (first_nil _).mono ?_
  rintro e w' ⟨rfl, rfl⟩
  go_wp2
  go_ret2
  exact ⟨rfl, rfl⟩

theorem pop_none {b : Nat} {l : Option Nat} {most : Int} (w : World) (h : IsQ QT ET w b l most []) :
    Calls Try.prog 26 #[.pointer (some ⟨b, 0, none⟩)] w fun e w' => e = .returned (.tuple #[.slice none 0 0, .bool false]) ∧ w = w' := by
  have HL := Lib.hid (first_none w h)
  clear h
  go_enter Try.func26, Try.ntmps26
  go_wp2_with fail
  refine HL.out.mono ?_
  rintro e w' ⟨rfl, rfl⟩
  go_wp2
  go_ret2
  exact ⟨rfl, rfl⟩

set_option maxRecDepth 100000 in
theorem pop_some {b g n first : Nat} {arr : Array Value} {most : Int} {xs : List Value} (x : Option Addr) (xn xc : Nat) (w : World) (h : HasQ QT ET w b g n first arr most xs) (hx : xs[0]? = some (.slice x xn xc)) :
    Calls Try.prog 26 #[.pointer (some ⟨b, 0, none⟩)] w fun e w' => e = .returned (.tuple #[.slice x xn xc, .bool true]) ∧ IsQ QT ET w' b (some g) most xs.tail ∧ Chg (fun k => k = b ∨ k = g) w w' := by
  have hl := (List.getElem?_eq_some_iff.1 hx).1
  have HL := Lib.hid (first_some x xn xc w h hx)
  have c1 := h.c1
  have c2 := h.c2
  have c3 := h.c3
  have f2 := h.fb 2
  have f3 := h.fb 3
  have a1 := h.pos
  have a2 := h.le
  have a3 := h.top
  have a4 := h.first_lt
  have a5 := h.fits
  have a6 := h.ne
  have HR := Lib.hid h.size
  have cg : w.cell? ⟨g, first, none⟩ = some (arr[first]'(by rw [HR.out]; exact a4)) := cell_at h.hg _ (Array.getElem?_eq_getElem _)
  have fg := h.fg first
  have HX := Lib.hid hx
  clear hx
  go_enter Try.func26, Try.ntmps26
  go_wp2_with fail
  refine HL.out.mono ?_
  rintro e w' ⟨rfl, m, rfl⟩
  go_wp2
  go_region
  go_wp2
  go_region
  go_wp2
  go_ret2
  exact ⟨rfl, pop_end h hl rfl rfl rfl rfl⟩


/-- A queue that was made since w0; nothing that lay before has turned. -/
def OwnQ (w0 w : World) (b : Nat) (most : Int) (xs : List Value) : Prop :=
  ∃ l, IsQ QT ET w b l most xs ∧ (∀ k, l = some k → w0.heap.size ≤ k) ∧ w0.heap.size ≤ b ∧ Chg (fun _ => False) w0 w

theorem OwnQ.new {w0 w : World} (h : Chg (fun _ => False) w0 w) {most : Int} (h0 : 0 ≤ most) (h1 : most ≤ 65536) : OwnQ w0 (w.alloc (.cells #[.int .i64 most, .slice none 0 0, .int .i64 0, .int .i64 0] QT)) w.heap.size most [] :=
  ⟨none, IsQ.new w h0 h1, fun k hk => by (cases hk), h.size, h.alloc _⟩
theorem OwnQ.drewN {w0 w : World} {b : Nat} {most : Int} {xs : List Value} (h : OwnQ w0 w b most xs) (n : Nat) : OwnQ w0 (w.drewN n) b most xs := by
  obtain ⟨l, h1, h2, h3, h4⟩ := h
  exact ⟨l, h1.moved rfl (fun _ _ => rfl), h2, h3, h4.drewN n⟩

theorem push_own {b : Nat} {most : Int} {xs : List Value} (x : Option Addr) (xn xc : Nat) (w0 w : World) (h : OwnQ w0 w b most xs) (hm : (xs.length : Int) < most) (henc : ∀ v, v ∈ xs → ∃ (x : Option Addr) (xn xc : Nat), v = .slice x xn xc) :
    Calls Try.prog 23 #[.pointer (some ⟨b, 0, none⟩), .slice x xn xc] w fun e w' => e = .returned (.int .i64 0) ∧ OwnQ w0 w' b most (xs ++ [.slice x xn xc]) := by
  obtain ⟨l, h1, h2, h3, h4⟩ := h
  refine (push_room x xn xc w h1 hm henc).mono ?_
  rintro e w' ⟨rfl, l', g1, g2, g3⟩
  refine ⟨rfl, l', g1, fun k hk => ?_, h3, h4.trans g3 (fun k hk h => ?_)⟩
  · rcases g2 with rfl | ⟨g, rfl, hg⟩
    · exact h2 k hk
    · cases hk; exact Nat.le_trans h4.size hg
  · rcases h with rfl | h
    · omega
    · have := h2 k h.symm; omega

theorem push_own_full {b : Nat} {most : Int} {xs : List Value} (x : Option Addr) (xn xc : Nat) (w0 w : World) (h : OwnQ w0 w b most xs) (hm : most ≤ (xs.length : Int)) :
    Calls Try.prog 23 #[.pointer (some ⟨b, 0, none⟩), .slice x xn xc] w fun e w' => e = .returned (.int .i64 50) ∧ OwnQ w0 w' b most xs := by
  obtain ⟨l, h1, h2, h3, h4⟩ := h
  refine (push_full x xn xc w h1 hm).mono ?_
  rintro e w' ⟨rfl, m, rfl⟩
  exact ⟨rfl, OwnQ.drewN ⟨l, h1, h2, h3, h4⟩ m⟩

theorem pop_own {b : Nat} {most : Int} {xs : List Value} (x : Option Addr) (xn xc : Nat) (w0 w : World) (h : OwnQ w0 w b most (.slice x xn xc :: xs)) :
    Calls Try.prog 26 #[.pointer (some ⟨b, 0, none⟩)] w fun e w' => e = .returned (.tuple #[.slice x xn xc, .bool true]) ∧ OwnQ w0 w' b most xs := by
  obtain ⟨l, h1, h2, h3, h4⟩ := h
  rcases h1 with ⟨_, hx, _⟩ | ⟨g, n, first, arr, rfl, hq⟩
  · cases hx
  · refine (pop_some x xn xc w hq rfl).mono ?_
    rintro e w' ⟨rfl, g1, g2⟩
    refine ⟨rfl, some g, g1, h2, h3, h4.trans g2 (fun k hk h => ?_)⟩
    have := h2 g rfl
    rcases h with rfl | rfl <;> omega

theorem pop_own_none {b : Nat} {most : Int} (w0 w : World) (h : OwnQ w0 w b most []) :
    Calls Try.prog 26 #[.pointer (some ⟨b, 0, none⟩)] w fun e w' => e = .returned (.tuple #[.slice none 0 0, .bool false]) ∧ w = w' := by
  obtain ⟨l, h1, h2, h3, h4⟩ := h
  exact pop_none w h1

theorem first_own {b : Nat} {most : Int} {xs : List Value} (x : Option Addr) (xn xc : Nat) (w0 w : World) (h : OwnQ w0 w b most (.slice x xn xc :: xs)) :
    Calls Try.prog 44 #[.pointer (some ⟨b, 0, none⟩)] w fun e w' => e = .returned (.tuple #[.slice x xn xc, .bool true]) ∧ ∃ m, w' = w.drewN m := by
  obtain ⟨l, h1, h2, h3, h4⟩ := h
  rcases h1 with ⟨_, hx, _⟩ | ⟨g, n, first, arr, rfl, hq⟩
  · cases hx
  · exact first_some x xn xc w hq rfl

theorem len_own {b : Nat} {most : Int} {xs : List Value} (w0 w : World) (h : OwnQ w0 w b most xs) :
    Calls Try.prog 61 #[.pointer (some ⟨b, 0, none⟩)] w fun e w' => e = .returned (.int .i64 (xs.length : Int)) ∧ w = w' := by
  obtain ⟨l, h1, h2, h3, h4⟩ := h
  exact len_any w h1

end Go.Proofs.Ytmlomceemcbnaaa.Qlst
