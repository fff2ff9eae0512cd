/- The queue's methods at one type of things (cloister/cloisterlaw05.Pair), each by its contract. Conditions: a queue as IsQ2 tells it. -/
import Derived.Test.YtmlomceemcbnaaaProg
import Derived.Test.YtmlomceemcbnaaaQ2
import Derived.KernelRfl
import Derived.Deep.QuietTactic
import Derived.BigQuiet
import Derived.Lib.Hide
import Derived.Deep.OwnRows
set_option linter.unusedVariables false
namespace Go.Proofs.Ytmlomceemcbnaaa.Qpr
open Go.RowKit Go.Proofs.Ytmlomceemcbnaaa.Lib1 Go.Proofs.Ytmlomceemcbnaaa.Q2

abbrev QT : Nat := 92
abbrev ET : Nat := 41

set_option linter.unusedSimpArgs false in
set_option maxRecDepth 100000 in
theorem at_any {b g n first : Nat} {arr : Array Value} {most : Int} {xs : List (Int × Bool)} (x : Int × Bool) (i : Int) (w : World)
    (h : HasQ2 QT ET w b g n first arr most xs) (hi0 : 0 ≤ i) (hx : xs[i.toNat]? = some x) :
    Calls Try.prog 56 #[.pointer (some ⟨b, 0, none⟩), .int .i64 i] w fun e w' => e = .returned (.agg #[.int .i64 x.1, .bool x.2]) ∧ Chg (fun _ => False) w w' := by
  obtain ⟨j, rfl⟩ := Int.eq_ofNat_of_zero_le hi0
  rw [Int.toNat_natCast] at hx
  have hj := (List.getElem?_eq_some_iff.1 hx).1
  obtain ⟨w1, hw1⟩ : ∃ w1, w1 = w.alloc (.cells #[.int .i64 0, .bool false] 41) := ⟨_, rfl⟩
  have hc0 : Chg (fun _ => False) w w1 := by rw [hw1]; exact (Chg.refl _ w).alloc _
  have hbx : w1.heap[w.heap.size]? = some (.cells #[.int .i64 0, .bool false] 41 (0, 0)) := by rw [hw1]; exact heap_new w _
  have hq := h.moved (hc0.block b (lt_of w h.hb) (fun h => h)) (hc0.block g (lt_of w h.hg) (fun h => h))
  have h1 := hq.c1
  have h2 := hq.c2
  have hring := h.ring j x hx
  have hd := cell_at hq.hg _ hring.1
  have hd2 := cell_at hq.hg _ hring.2
  have r0 := cell_at hbx 0 rfl
  have r1 := cell_at hbx 1 rfl
  have rf := free_at hbx
  have a1 := h.pos
  have a2 := h.le
  have a3 := h.top
  have a4 := h.first_lt
  have a5 := h.fits
  have hlt1 := lt_of w1 hbx
  have HC0 := Lib.hid hc0
  have e1 : IntKind.i64.wrap ((first : Int) + (j : Int)) = (first : Int) + (j : Int) := IntWalk.i64_in _ (by omega)
  have e2 : ((first : Int) + (j : Int)).tmod n = ((first : Int) + (j : Int)) % n := Int.tmod_eq_emod_of_nonneg (by omega)
  have e3 : 0 ≤ ((first : Int) + (j : Int)) % n := Int.emod_nonneg _ (by omega)
  have e4 : ((first : Int) + (j : Int)) % n < n := Int.emod_lt_of_pos _ (by omega)
  have HW := Lib.hid hw1
  clear hx hi0 h hq hring hbx hc0 hw1
  go_enter Try.func56, Try.ntmps56
  go_wp2
  rw [← HW.out]
  go_region
  go_wp2
  refine bodyPost_ret (v := .agg #[.int .i64 x.1, .bool x.2]) (by simp [results, Try.results56, go_sem, r0, r1, rf]) rfl ⟨rfl, ?_⟩
  exact ((HC0.out.drewN _).set (.inl (Nat.le_refl _))).set (.inl (Nat.le_refl _))



theorem len_any {b : Nat} {l : Option Nat} {most : Int} {xs : List (Int × Bool)} (w : World) (h : IsQ2 QT ET w b l most xs) :
    Calls Try.prog 59 #[.pointer (some ⟨b, 0, none⟩)] w fun e w' => e = .returned (.int .i64 (xs.length : Int)) ∧ w = w' := by
  have h3 : w.cell? ⟨b, 3, none⟩ = some (.int .i64 (xs.length : Int)) := by
    rcases h with ⟨_, rfl, _, _, h⟩ | ⟨g, n, first, arr, _, h⟩
    · exact cell_at h 3 rfl
    · exact h.c3
  clear h
  go_enter Try.func59, Try.ntmps59
  go_wp2
  go_ret
  exact ⟨rfl, rfl⟩

theorem new_ok (most : Int) (w : World) (h0 : 0 ≤ most) (h1 : most ≤ 65536) :
    Calls Try.prog 18 #[.int .i64 most] w fun e w' => e = .returned (.tuple #[.pointer (some ⟨w.heap.size, 0, none⟩), .int .i64 0]) ∧ w' = w.alloc (.cells #[.int .i64 most, .slice none 0 0, .int .i64 0, .int .i64 0] QT) := by
  go_enter Try.func18, Try.ntmps18
  go_wp2
  go_ret2
  exact ⟨rfl, rfl⟩
set_option linter.unusedSimpArgs false in
set_option maxRecDepth 100000 in
theorem first_some {b g n first : Nat} {arr : Array Value} {most : Int} {xs : List (Int × Bool)} (x : Int × Bool) (w : World) (h : HasQ2 QT ET w b g n first arr most xs) (hx : xs[0]? = some x) :
    Calls Try.prog 42 #[.pointer (some ⟨b, 0, none⟩)] w fun e w' => e = .returned (.tuple #[.agg #[.int .i64 x.1, .bool x.2], .bool true]) ∧ Chg (fun _ => False) w w' := by
  have hl := (List.getElem?_eq_some_iff.1 hx).1
  obtain ⟨w1, hw1⟩ : ∃ w1, w1 = w.alloc (.cells #[.int .i64 0, .bool false] 41) := ⟨_, rfl⟩
  have hc0 : Chg (fun _ => False) w w1 := by rw [hw1]; exact (Chg.refl _ w).alloc _
  have hbx : w1.heap[w.heap.size]? = some (.cells #[.int .i64 0, .bool false] 41 (0, 0)) := by rw [hw1]; exact heap_new w _
  have hq := h.moved (hc0.block b (lt_of w h.hb) (fun h => h)) (hc0.block g (lt_of w h.hg) (fun h => h))
  have HL := Lib.hid (len_any (l := some g) w1 (.inr ⟨g, n, first, arr, rfl, hq⟩))
  have HA := Lib.hid (at_any x 0 w1 hq (by omega) (by simpa using hx))
  have e0 : ((xs.length : Int) == 0) = false := by rw [beq_eq_false_iff_ne]; omega
  have HC0 := Lib.hid hc0
  have HBX := Lib.hid hbx
  have HW := Lib.hid hw1
  clear h hx hl hq hc0 hbx hw1
  go_enter Try.func42, Try.ntmps42
  go_wp2_with fail
  rw [← HW.out]
  refine HL.out.mono ?_
  rintro e w' ⟨rfl, rfl⟩
  go_wp2_with fail
  refine HA.out.mono ?_
  rintro e w2 ⟨rfl, hc2⟩
  have hb2 := hc2.at_ HBX.out (fun h => h)
  have r0 := cell_at hb2 0 rfl
  have r1 := cell_at hb2 1 rfl
  have rf := free_at hb2
  have hlt := lt_of w2 hb2
  have HC2 := Lib.hid hc2
  clear hb2 hc2
  go_wp2
  refine bodyPost_ret (v := .tuple #[.agg #[.int .i64 x.1, .bool x.2], .bool true]) (by simp [results, Try.results42, go_sem, r0, r1, rf]) rfl ⟨rfl, ?_⟩
  exact ((HC0.out.trans HC2.out (fun _ _ h => h)).set (.inl (Nat.le_refl _))).set (.inl (Nat.le_refl _))



theorem grow_room {b g n first : Nat} {arr : Array Value} {most : Int} {xs : List (Int × Bool)} (w : World) (h : HasQ2 QT ET w b g n first arr most xs) (hr : (xs.length : Int) < n) :
    Calls Try.prog 39 #[.pointer (some ⟨b, 0, none⟩)] w fun e w' => e = .returned (.tuple #[]) ∧ ∃ m, w' = w.drewN m := by
  have h1 := h.c1
  have h3 := h.c3
  clear h
  go_enter Try.func39, Try.ntmps39
  go_wp2
  go_quiet (fail)
  go_wp2
  refine bodyPost_ret (results_none rfl _ _ _) rfl ?_
  exact ⟨rfl, _, rfl⟩

theorem infoP : (Try.prog.info? ET).map (fun i => (i.zero, i.size, i.bytes)) = some (some (.agg #[.int .i64 0, .bool false]), 2, 16) := by kernel_rfl
theorem made (E : Int) (M : Nat) (hE : E = M) (hM : M ≤ 65536) (W : World) :
    (Instr.makeSlice 36 (.int .i64 E) (.int .i64 E)).run Try.prog W = .ok (.slice (some ⟨W.heap.size, 0, none⟩) M M) (W.alloc (.cells (madeCells #[.int .i64 0, .bool false] (M * 2)) ET)) := by
  subst hE
  obtain ⟨i, hi, hzz⟩ := Option.map_eq_some_iff.1 infoP
  simp only [Prod.mk.injEq] at hzz
  obtain ⟨hz, hs, hb⟩ := hzz
  have hr := run_make (P := Try.prog) W 36 ET i _ Try.underlying36 hi hz .i64 .i64 M M (by omega) (Int.le_refl _) (by rw [hb]; omega) (by omega)
  simp only [Int.toNat_natCast, hs] at hr
  exact hr

set_option linter.unusedSimpArgs false in
set_option maxRecDepth 100000 in
theorem grow_full {b g n first : Nat} {arr : Array Value} {most : Int} {xs : List (Int × Bool)} (w : World) (h : HasQ2 QT ET w b g n first arr most xs) (hr : xs.length = n) (hm : (n : Int) < most)
    (M : Nat) (hif : (if 2 * (n : Int) + 1 < most then 2 * (n : Int) + 1 else most) = (M : Int)) :
    Calls Try.prog 39 #[.pointer (some ⟨b, 0, none⟩)] w fun e w' => e = .returned (.tuple #[]) ∧ ∃ arr', HasQ2 QT ET w' b w.heap.size M 0 arr' most xs ∧ Chg (fun k => k = b) w w' := by
  have h0 := h.c0
  have h1 := h.c1
  have h2 := h.c2
  have h3 := h.c3
  have a1 := h.pos
  have a2 := h.le
  have a3 := h.top
  have hM : n < M ∧ M ≤ 65536 := by
    split at hif <;> omega
  have hmk := made M M rfl hM.2
  have HX := Lib.hid hr
  have hbl := lt_of w h.hb
  have hgl := lt_of w h.hg
  have d1 : decide ((xs.length : Int) < n) = false := by simp; omega
  have k3 : ∀ (m : Nat) (o : Obj), ((w.drewN m).alloc o).cell? ⟨b, 3, none⟩ = some (.int .i64 (xs.length : Int)) := fun m o => (World.cell?_alloc_lt (w.drewN m) o ⟨b, 3, none⟩ hbl).trans h3
  go_enter Try.func39, Try.ntmps39
  go_wp2
  go_quiet (fail)
  go_wp2
  go_region
  go_wp2
  go_loopw [31] (fun i wr => GrowRel ET w n M xs i wr) (fun i _ => n - (intOf i).toNat)
  case atStart => exact GrowRel.start ..
  case round =>
    obtain ⟨k, hk, rfl, arr', hnew, hsz, hcopy, hchg⟩ := hrel
    have HQ := h.moved (hchg.block b hbl (fun h => h)) (hchg.block g hgl (fun h => h))
    by_cases hlt : k < n
    · have hkx : k < xs.length := by omega
      have hxk : xs[k]? = some xs[k] := List.getElem?_eq_getElem hkx
      generalize xs[k] = x at hxk
      have HA := Lib.hid (at_any x (k : Int) wr HQ (by omega) (by simpa using hxk))
      have hlw := lt_of wr hnew
      have HXK := Lib.hid hxk
      clear hxk
      have HN := Lib.hid hnew
      have HCP := Lib.hid hcopy
      have HSZ := Lib.hid hsz
      have HCH := Lib.hid hchg
      clear hnew hcopy hsz hchg
      go_wp2_with fail
      refine HA.out.mono ?_
      rintro e w2 ⟨rfl, hc2⟩
      have hn2 := hc2.at_ HN.out (fun h => h)
      have k0 := cell_at hn2 (k * 2) (v := arr'[k * 2]'(by have := HSZ.out; omega)) (Array.getElem?_eq_getElem _)
      have k1 := cell_at hn2 (k * 2 + 1) (v := arr'[k * 2 + 1]'(by have := HSZ.out; omega)) (Array.getElem?_eq_getElem _)
      have kf := free_at hn2
      have HN2 := Lib.hid hn2
      have HC2 := Lib.hid hc2
      clear hn2 hc2
      go_wp2
      go_roundw
      case rel => exact GrowRel.step HN2.out HSZ.out HCP.out (HCH.out.trans HC2.out (fun _ _ h => h)) hlt hM.1 HXK.out rfl rfl rfl rfl
      case measure => simp [intOf]; omega
    · obtain rfl : k = n := by omega
      have q1 := HQ.c1
      have q2 := HQ.c2
      have r1 := HQ.fb 1
      have r2 := HQ.fb 2
      go_wp2
      go_end0
      exact ⟨rfl, _, h.grown hr hM.1 (by split at hif <;> omega) hnew hsz hcopy hchg rfl rfl rfl rfl⟩


set_option maxRecDepth 100000 in
theorem grow_nil {b : Nat} {most : Int} (w : World) (h : w.heap[b]? = some (.cells #[.int .i64 most, .slice none 0 0, .int .i64 0, .int .i64 0] QT (0, 0))) (hm : 0 < most) (h1 : most ≤ 65536) :
    Calls Try.prog 39 #[.pointer (some ⟨b, 0, none⟩)] w fun e w' => e = .returned (.tuple #[]) ∧ HasQ2 QT ET w' b w.heap.size 1 0 (madeCells #[.int .i64 0, .bool false] (1 * 2)) most [] ∧ Chg (fun k => k = b) w w' := by
  have q0 : w.cell? ⟨b, 0, none⟩ = some (.int .i64 most) := cell_at h 0 rfl
  have q1 : w.cell? ⟨b, 1, none⟩ = some (.slice none 0 0) := cell_at h 1 rfl
  have q2 : w.cell? ⟨b, 2, none⟩ = some (.int .i64 0) := cell_at h 2 rfl
  have q3 : w.cell? ⟨b, 3, none⟩ = some (.int .i64 0) := cell_at h 3 rfl
  have f1 := free_at h 1
  have f2 := free_at h 2
  have hbl := lt_of w h
  have hmk := made 1 1 rfl (by omega)
  have k0 : ∀ (m : Nat) (o : Obj), ((w.drewN m).alloc o).cell? ⟨b, 3, none⟩ = some (.int .i64 0) := fun m o => (World.cell?_alloc_lt (w.drewN m) o ⟨b, 3, none⟩ hbl).trans q3
  have k1 : ∀ (m : Nat) (o : Obj), ((w.drewN m).alloc o).cell? ⟨b, 1, none⟩ = some (.slice none 0 0) := fun m o => (World.cell?_alloc_lt (w.drewN m) o ⟨b, 1, none⟩ hbl).trans q1
  have k2 : ∀ (m : Nat) (o : Obj), ((w.drewN m).alloc o).cell? ⟨b, 2, none⟩ = some (.int .i64 0) := fun m o => (World.cell?_alloc_lt (w.drewN m) o ⟨b, 2, none⟩ hbl).trans q2
  have l1 : ∀ (m : Nat) (o : Obj), ((w.drewN m).alloc o).frozen? ⟨b, 1, none⟩ = false := fun m o => by
    have h' : (w.drewN m).heap[b]? = _ := h
    exact free_at (heap_old o h') 1
  have l2 : ∀ (m : Nat) (o : Obj), ((w.drewN m).alloc o).frozen? ⟨b, 2, none⟩ = false := fun m o => by
    have h' : (w.drewN m).heap[b]? = _ := h
    exact free_at (heap_old o h') 2
  have hif : (if 1 < most then 1 else most) = 1 := by split <;> omega
  go_enter Try.func39, Try.ntmps39
  go_wp2
  go_quiet (fail)
  go_wp2
  go_region
  go_wp2
  go_loopw [31] (fun i wr => i = .int .i64 0 ∧ ∃ m, wr = (w.drewN m).alloc (.cells (madeCells #[.int .i64 0, .bool false] (1 * 2)) ET)) (fun i _ => 0)
  case atStart => exact ⟨rfl, _, rfl⟩
  case round =>
    obtain ⟨rfl, m, rfl⟩ := hrel
    go_wp2
    go_end0
    exact ⟨rfl, grown_nil h (by omega) (by omega) h1 rfl rfl rfl rfl⟩

/-- grow, where one more will fit. -/
theorem grow_any {b : Nat} {l : Option Nat} {most : Int} {xs : List (Int × Bool)} (w : World) (h : IsQ2 QT ET w b l most xs) (hm : (xs.length : Int) < most) :
    Calls Try.prog 39 #[.pointer (some ⟨b, 0, none⟩)] w fun e w' => e = .returned (.tuple #[]) ∧ ∃ g n first arr, HasQ2 QT ET w' b g n first arr most xs ∧ xs.length < n ∧ (l = some g ∨ w.heap.size ≤ g) ∧ Chg (fun k => k = b) w w' := by
  rcases h with ⟨_, rfl, h0, h1, h⟩ | ⟨g, n, first, arr, e, h⟩
  · refine (grow_nil w h (by simpa using hm) h1).mono ?_
    rintro e w' ⟨rfl, hq, hc⟩
    exact ⟨rfl, _, _, _, _, hq, by simp, .inr (Nat.le_refl _), hc⟩
  · by_cases hr : xs.length < n
    · refine (grow_room w h (by omega)).mono ?_
      rintro e w' ⟨rfl, m, rfl⟩
      exact ⟨rfl, g, n, first, arr, h.moved rfl rfl, hr, .inl e, (Chg.refl _ _).drewN m⟩
    · have := h.fits
      have := h.le
      have := h.top
      obtain ⟨M, hM⟩ : ∃ M : Nat, (if 2 * (n : Int) + 1 < most then 2 * (n : Int) + 1 else most) = (M : Int) := ⟨(if 2 * (n : Int) + 1 < most then 2 * (n : Int) + 1 else most).toNat, by split <;> omega⟩
      refine (grow_full w h (by omega) (by omega) M hM).mono ?_
      rintro e w' ⟨rfl, arr', hq, hc⟩
      exact ⟨rfl, _, _, _, _, hq, by split at hM <;> omega, .inr (Nat.le_refl _), hc⟩

set_option linter.unusedSimpArgs false in
set_option maxRecDepth 100000 in
theorem push_room {b : Nat} {l : Option Nat} {most : Int} {xs : List (Int × Bool)} (x : Int × Bool) (w : World) (h : IsQ2 QT ET w b l most xs) (hm : (xs.length : Int) < most) :
    Calls Try.prog 21 #[.pointer (some ⟨b, 0, none⟩), .agg #[.int .i64 x.1, .bool x.2]] w fun e w' => e = .returned (.int .i64 0) ∧ ∃ l', IsQ2 QT ET w' b l' most (xs ++ [x]) ∧ (l' = l ∨ ∃ g, l' = some g ∧ w.heap.size ≤ g) ∧ Chg (fun k => k = b ∨ some k = l) w w' := by
  obtain ⟨w0, hw0⟩ : ∃ w0, w0 = w.alloc (.cells #[.int .i64 x.1, .bool x.2] 41) := ⟨_, rfl⟩
  have hc0 : Chg (fun _ => False) w w0 := by rw [hw0]; exact (Chg.refl _ w).alloc _
  have hbx : w0.heap[w.heap.size]? = some (.cells #[.int .i64 x.1, .bool x.2] 41 (0, 0)) := by rw [hw0]; exact heap_new w _
  have hlb := h.lt
  have hq0 := h.kept hc0 (fun h => h) (fun _ _ h => h)
  have q0 := hq0.c0
  have q3 := hq0.c3
  have HG : Hid (∀ m, Calls Try.prog 39 #[.pointer (some ⟨b, 0, none⟩)] (w0.drewN m) fun e w' => e = .returned (.tuple #[]) ∧ ∃ g n first arr, HasQ2 QT ET w' b g n first arr most xs ∧ xs.length < n ∧ (l = some g ∨ w.heap.size ≤ g) ∧ Chg (fun k => k = b) w0 w') := by
    refine Lib.hid fun m => (grow_any (w0.drewN m) (hq0.moved rfl (fun _ _ => rfl)) hm).mono ?_
    rintro e w' ⟨rfl, g, n, first, arr, h1, h2, h3, h4⟩
    exact ⟨rfl, g, n, first, arr, h1, h2, h3.imp id (fun h => Nat.le_trans hc0.size h), h4.from_drewN⟩
  have HC0 := Lib.hid hc0
  have HBX := Lib.hid hbx
  have HW := Lib.hid hw0
  clear h hc0 hbx hw0 hq0
  go_enter Try.func21, Try.ntmps21
  go_wp2
  rw [← HW.out]
  go_quiet (fail)
  go_wp2_with fail
  refine (HG.out _).mono ?_
  rintro e w1 ⟨rfl, g, n, first, arr, hq, hroom, hl, hc⟩
  have c1 := hq.c1
  have c2 := hq.c2
  have c3 := hq.c3
  have f3 := hq.fb 3
  have a1 := hq.pos
  have a2 := hq.le
  have a3 := hq.top
  have a4 := hq.first_lt
  have a5 : (first + xs.length) % n < n := Nat.mod_lt _ a1
  have a6 := hq.ne
  have a7 : 0 ≤ ((first : Int) + (xs.length : Int)) % (n : Int) := Int.emod_nonneg _ (by omega)
  have a8 : ((first : Int) + (xs.length : Int)) % (n : Int) < (n : Int) := Int.emod_lt_of_pos _ (by omega)
  have HR := Lib.hid hq.size
  have cg : w1.cell? ⟨g, (first + xs.length) % n * 2, none⟩ = some (arr[(first + xs.length) % n * 2]'(by rw [HR.out]; omega)) := cell_at hq.hg _ (Array.getElem?_eq_getElem _)
  have cg' : w1.cell? ⟨g, (first + xs.length) % n * 2 + 1, none⟩ = some (arr[(first + xs.length) % n * 2 + 1]'(by rw [HR.out]; omega)) := cell_at hq.hg _ (Array.getElem?_eq_getElem _)
  have fg := hq.fg
  have hb1 := hc.at_ HBX.out (by omega)
  have x0 := cell_at hb1 0 rfl
  have x1 := cell_at hb1 1 rfl
  have HQ := Lib.hid hq
  have HC := Lib.hid hc
  have HL := Lib.hid hl
  clear q0 q3 hb1 hq hc hl
  go_wp2_with fail
  go_region
  go_wp2
  go_ret
  exact ⟨rfl, push_end HQ.out hroom HL.out ((HC0.out.mono (T := fun k => k = b) (fun _ _ h => h.elim)).trans HC.out (fun _ _ h => h)) rfl rfl rfl rfl⟩


set_option linter.unusedSimpArgs false in
set_option maxRecDepth 100000 in
theorem pop_some {b g n first : Nat} {arr : Array Value} {most : Int} {xs : List (Int × Bool)} (x : Int × Bool) (w : World) (h : HasQ2 QT ET w b g n first arr most xs) (hx : xs[0]? = some x) :
    Calls Try.prog 24 #[.pointer (some ⟨b, 0, none⟩)] w fun e w' => e = .returned (.tuple #[.agg #[.int .i64 x.1, .bool x.2], .bool true]) ∧ IsQ2 QT ET w' b (some g) most xs.tail ∧ Chg (fun k => k = b ∨ k = g) w w' := by
  have hl := (List.getElem?_eq_some_iff.1 hx).1
  obtain ⟨w0, hw0⟩ : ∃ w0, w0 = w.alloc (.cells #[.int .i64 0, .bool false] 41) := ⟨_, rfl⟩
  have hc0 : Chg (fun _ => False) w w0 := by rw [hw0]; exact (Chg.refl _ w).alloc _
  have hbx : w0.heap[w.heap.size]? = some (.cells #[.int .i64 0, .bool false] 41 (0, 0)) := by rw [hw0]; exact heap_new w _
  have hq0 := h.moved (hc0.block b (lt_of w h.hb) (fun h => h)) (hc0.block g (lt_of w h.hg) (fun h => h))
  have HL := Lib.hid (first_some x w0 hq0 hx)
  have hbl := lt_of w h.hb
  have hgl := lt_of w h.hg
  have HC0 := Lib.hid hc0
  have HBX := Lib.hid hbx
  have HW := Lib.hid hw0
  have HQ0 := Lib.hid hq0
  clear h hc0 hbx hw0 hq0 hx
  go_enter Try.func24, Try.ntmps24
  go_wp2_with fail
  rw [← HW.out]
  refine HL.out.mono ?_
  rintro e w1 ⟨rfl, hc1⟩
  obtain ⟨w2, hw2⟩ : ∃ w2, w2 = (w1.alloc (.cells #[.int .i64 x.1, .bool x.2] 41)).alloc (.cells #[.int .i64 0, .bool false] 41) := ⟨_, rfl⟩
  have hc2 : Chg (fun _ => False) w0 w2 := by rw [hw2]; exact (hc1.alloc _).alloc _
  have hq2 := HQ0.out.moved (hc2.block b (lt_of w0 HQ0.out.hb) (fun h => h)) (hc2.block g (lt_of w0 HQ0.out.hg) (fun h => h))
  have hb0 := hc2.at_ HBX.out (fun h => h)
  have hb1 : w2.heap[w1.heap.size]? = some (.cells #[.int .i64 x.1, .bool x.2] 41 (0, 0)) := by rw [hw2]; exact heap_old _ (heap_new w1 _)
  have hb2 : w2.heap[w1.heap.size + 1]? = some (.cells #[.int .i64 0, .bool false] 41 (0, 0)) := by rw [hw2]; exact heap_new' _ _ (by simp)
  have c1 := hq2.c1
  have c2 := hq2.c2
  have c3 := hq2.c3
  have f2 := hq2.fb 2
  have f3 := hq2.fb 3
  have a1 := hq2.pos
  have a2 := hq2.le
  have a3 := hq2.top
  have a4 := hq2.first_lt
  have a5 := hq2.fits
  have a6 := hq2.ne
  have HR := Lib.hid hq2.size
  have cg : w2.cell? ⟨g, first * 2, none⟩ = some (arr[first * 2]'(by rw [HR.out]; omega)) := cell_at hq2.hg _ (Array.getElem?_eq_getElem _)
  have cg' : w2.cell? ⟨g, first * 2 + 1, none⟩ = some (arr[first * 2 + 1]'(by rw [HR.out]; omega)) := cell_at hq2.hg _ (Array.getElem?_eq_getElem _)
  have fg := hq2.fg
  have s1 := hc1.size
  have s0 := HC0.out.size
  have s00 := lt_of w0 HBX.out
  have r0 := cell_at hb0 0 rfl
  have r1 := cell_at hb0 1 rfl
  have rf := free_at hb0
  have y0 := cell_at hb1 0 rfl
  have y1 := cell_at hb1 1 rfl
  have z0 := cell_at hb2 0 rfl
  have z1 := cell_at hb2 1 rfl
  have n1 : w1.heap.size ≠ b := by omega
  have n2 : w1.heap.size ≠ g := by omega
  have n3 : w.heap.size ≠ b := by omega
  have n4 : w.heap.size ≠ g := by omega
  have HQ2 := Lib.hid hq2
  have HC2 := Lib.hid hc2
  have HW2 := Lib.hid hw2
  clear hq2 hc2 hw2 hb0 hb1 hb2 hc1
  go_wp2
  try rw [← HW2.out]
  go_region
  go_wp2
  go_region
  go_wp2
  refine bodyPost_ret (v := .tuple #[.agg #[.int .i64 x.1, .bool x.2], .bool true]) (by simp [results, Try.results24, go_sem, r0, r1, rf, y0, y1]) rfl ?_
  have fin : ∀ wm wf : World, Chg (fun k => k = w.heap.size) wm wf → wm.heap = ((((w2.setCell ⟨g, first * 2, none⟩ (.int .i64 0)).setCell ⟨g, first * 2 + 1, none⟩ (.bool false)).setCell ⟨b, 2, none⟩ (.int .i64 (((first : Int) + 1) % (n : Int)))).setCell ⟨b, 3, none⟩ (.int .i64 ((xs.length : Int) - 1))).heap → wm.os = w2.os → wm.tape = w2.tape → wm.output = w2.output →
      IsQ2 QT ET wf b (some g) most xs.tail ∧ Chg (fun k => k = b ∨ k = g) w wf := by
    intro wm wf hwf e1 e2 e3 e4
    obtain ⟨p1, p2⟩ := pop_end (w' := wm) HQ2.out hl e1 e2 e3 e4
    refine ⟨p1.kept hwf (Ne.symm n3) (fun k hk => by cases hk; exact Ne.symm n4), ?_⟩
    exact (((HC0.out.trans HC2.out (fun _ _ h => h)).mono (T := fun k => k = b ∨ k = g) (fun _ _ h => h.elim)).trans p2 (fun _ _ h => h)).trans hwf (fun k hk e => by omega)
  refine ⟨rfl, fin _ _ ?c rfl rfl rfl rfl⟩
  case c =>
    refine Chg.drew ?_
    refine Chg.drew ?_
    refine Chg.set (S := fun k => k = w.heap.size) ?_ (.inr rfl)
    refine Chg.set (S := fun k => k = w.heap.size) ?_ (.inr rfl)
    exact Chg.refl _ _



/-- A queue that was made since w0; nothing that lay before has turned. -/
def OwnQ (w0 w : World) (b : Nat) (most : Int) (xs : List (Int × Bool)) : Prop :=
  ∃ l, IsQ2 QT ET w b l most xs ∧ (∀ k, l = some k → w0.heap.size ≤ k) ∧ w0.heap.size ≤ b ∧ Chg (fun _ => False) w0 w

theorem OwnQ.new {w0 w : World} (h : Chg (fun _ => False) w0 w) {most : Int} (h0 : 0 ≤ most) (h1 : most ≤ 65536) : OwnQ w0 (w.alloc (.cells #[.int .i64 most, .slice none 0 0, .int .i64 0, .int .i64 0] QT)) w.heap.size most [] :=
  ⟨none, IsQ2.new w h0 h1, fun k hk => by (cases hk), h.size, h.alloc _⟩
theorem OwnQ.drewN {w0 w : World} {b : Nat} {most : Int} {xs : List (Int × Bool)} (h : OwnQ w0 w b most xs) (n : Nat) : OwnQ w0 (w.drewN n) b most xs := by
  obtain ⟨l, h1, h2, h3, h4⟩ := h
  exact ⟨l, h1.moved rfl (fun _ _ => rfl), h2, h3, h4.drewN n⟩

theorem push_own {b : Nat} {most : Int} {xs : List (Int × Bool)} (x : Int × Bool) (w0 w : World) (h : OwnQ w0 w b most xs) (hm : (xs.length : Int) < most) :
    Calls Try.prog 21 #[.pointer (some ⟨b, 0, none⟩), .agg #[.int .i64 x.1, .bool x.2]] w fun e w' => e = .returned (.int .i64 0) ∧ OwnQ w0 w' b most (xs ++ [x]) := by
  obtain ⟨l, h1, h2, h3, h4⟩ := h
  refine (push_room x w h1 hm).mono ?_
  rintro e w' ⟨rfl, l', g1, g2, g3⟩
  refine ⟨rfl, l', g1, fun k hk => ?_, h3, h4.trans g3 (fun k hk h => ?_)⟩
  · rcases g2 with rfl | ⟨g, rfl, hg⟩
    · exact h2 k hk
    · cases hk; exact Nat.le_trans h4.size hg
  · rcases h with rfl | h
    · omega
    · have := h2 k h.symm; omega

theorem pop_own {b : Nat} {most : Int} {xs : List (Int × Bool)} (x : Int × Bool) (w0 w : World) (h : OwnQ w0 w b most (x :: xs)) :
    Calls Try.prog 24 #[.pointer (some ⟨b, 0, none⟩)] w fun e w' => e = .returned (.tuple #[.agg #[.int .i64 x.1, .bool x.2], .bool true]) ∧ OwnQ w0 w' b most xs := by
  obtain ⟨l, h1, h2, h3, h4⟩ := h
  rcases h1 with ⟨_, hx, _⟩ | ⟨g, n, first, arr, rfl, hq⟩
  · cases hx
  · refine (pop_some x w hq rfl).mono ?_
    rintro e w' ⟨rfl, g1, g2⟩
    refine ⟨rfl, some g, g1, h2, h3, h4.trans g2 (fun k hk h => ?_)⟩
    have := h2 g rfl
    rcases h with rfl | rfl <;> omega

theorem len_own {b : Nat} {most : Int} {xs : List (Int × Bool)} (w0 w : World) (h : OwnQ w0 w b most xs) :
    Calls Try.prog 59 #[.pointer (some ⟨b, 0, none⟩)] w fun e w' => e = .returned (.int .i64 (xs.length : Int)) ∧ w = w' := by
  obtain ⟨l, h1, h2, h3, h4⟩ := h
  exact len_any w h1

end Go.Proofs.Ytmlomceemcbnaaa.Qpr
