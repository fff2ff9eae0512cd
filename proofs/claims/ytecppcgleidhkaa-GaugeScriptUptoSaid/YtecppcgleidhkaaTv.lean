/- slices.Values of floats, and slices.AppendSeq, slices.Collect, slices.Sorted over them. Conditions: the row reads so. -/
import Derived.Test.YtecppcgleidhkaaTh
import Derived.Test.YtecppcgleidhkaaGh
import Derived.Test.YtecppcgleidhkaaIter
import Derived.Sort.KeysCollected
import Derived.Sort.MapsRangeIn
import Derived.RangeFuncFrom
import Derived.RangeFuncStops
import Derived.RangeFuncOne
import Derived.WalkKit
import Derived.OwnWalkIn
import Derived.TacticsInMore
import Derived.RegionIn
import Derived.LoopNIn
import Derived.LoopIn
import Derived.Shelf.AbstractIn
set_option linter.unusedVariables false
set_option linter.unusedSimpArgs false
namespace Go.Proofs.Ytecppcgleidhkaa.Tv
open Go.RowKit Go.Sort Go.Proofs.Ytecppcgleidhkaa.Lib1 Go.Proofs.Ytecppcgleidhkaa.Iter Go.Proofs.Ytecppcgleidhkaa.Gw Go.Proofs.Ytecppcgleidhkaa.Fl Go.Proofs.Ytecppcgleidhkaa.Gp Go.Proofs.Ytecppcgleidhkaa.Lq
attribute [local go_sem] Oper.semAt_some

/-- All below M stays. -/
def Kp (M : Nat) (A B : World) : Prop := ∀ k, k < M → B.heap[k]? = A.heap[k]?
theorem Kp.trans {M : Nat} {A B C : World} (h : Kp M A B) (g : Kp M B C) : Kp M A C := fun k hk => (g k hk).trans (h k hk)
set_option maxRecDepth 100000 in
set_option maxHeartbeats 1600000 in
theorem vals1_any (n l Bv M : Nat) (A : Option Addr) (c : Nat) (xs : List Nat) (J Jx : List Nat → World → Prop)
    (hY : ∀ pre x W, J pre W → pre.length < xs.length → YieldAt Fence.wide (n - 1) Try.prog l #[.float .f64 x] W fun e W' => (e = .returned (.bool true) ∧ J (pre ++ [x]) W' ∧ Kp M W W') ∨ (e = .returned (.bool false) ∧ Jx (pre ++ [x]) W'))
    (W : World) (hm : W.cell? ⟨Bv, 0, none⟩ = some (.slice A xs.length c)) (hr : Rd (fun k => k < M) W A xs.length c 1 (fs xs)) (hl : xs.length ≤ 140737488351232) (h0 : J [] W) :
    CallsIn Fence.wide n Try.prog 41 #[.func (.yield l) #[] #[], .pointer (some ⟨Bv, 0, none⟩)] W fun e W' => (∃ v, e = .returned v) ∧
      ((∃ ss : List Nat, ss = xs ∧ J ss W') ∨ (∃ pre : List Nat, True ∧ Jx pre W')) := by
  refine callsIn_of_wp Try.func41 rfl trivial ?_ rfl
  simp only [Try.ntmps41, List.size_toArray, List.length_cons, List.length_nil, Nat.reduceAdd, Nat.reduceSub, Array.replicate_succ, Array.replicate_zero, List.push_toArray, List.append_toArray, List.nil_append, List.cons_append]
  gi_wp2
  gi_loopw [7] (fun i wr => ∃ j : Nat, j ≤ xs.length ∧ i = .int .i64 j ∧ J (xs.take j) wr ∧ Kp M W wr) (fun i _ => xs.length - (intOf i).toNat)
  case atStart => exact ⟨0, Nat.zero_le _, rfl, h0, fun _ _ => rfl⟩
  case round =>
    obtain ⟨j, hj, rfl, hJ, hK⟩ := hrel
    by_cases hlt : j < xs.length
    · obtain ⟨x, hx⟩ : ∃ x, xs[j]? = some x := ⟨_, List.getElem?_eq_getElem hlt⟩
      obtain ⟨b, off, rfl, hb, hc⟩ := hr.at_ (by omega)
      have hcx := (World.cell?_of_block (a := ⟨b, off + j, none⟩) (hK b hb)).trans (hc j _ (fs_get hx))
      obtain ⟨fn, tmps, assign, body, hy, hR⟩ := hY (xs.take j) x wr hJ (by rw [List.length_take]; omega)
      have htake : xs.take (j + 1) = xs.take j ++ [x] := by rw [List.take_add_one, hx]; rfl
      have HH : Hid (Kp M W wr ∧ xs.take (j + 1) = xs.take j ++ [x]) := ⟨hK, htake⟩
      clear hK htake hc hr
      gi_wp2
      refine ⟨fun h => (by cases h), hR.mono ?_⟩
      rintro e W3 (⟨rfl, hJ3, hk3⟩ | ⟨rfl, hJx3⟩)
      · gi_wp2
        go_roundw
        case rel => exact ⟨j + 1, hlt, by go_num, by rw [HH.out.2]; exact hJ3, HH.out.1.trans hk3⟩
        case measure => simp [intOf]; omega
      · gi_wp2
        refine bodyPost_ret (results_none rfl _ _ _) rfl ?_
        exact ⟨⟨_, rfl⟩, .inr ⟨_, trivial, hJx3⟩⟩
    · obtain rfl : j = xs.length := by omega
      gi_wp2
      go_end0
      exact ⟨⟨_, rfl⟩, .inl ⟨xs, rfl, by rw [List.take_length] at hJ; exact hJ⟩⟩
theorem vals_stops (n Bv M : Nat) (A : Option Addr) (c : Nat) (xs : List Nat) (w : World) (hM : M ≤ w.heap.size) (hB : Bv < M)
    (hm : w.cell? ⟨Bv, 0, none⟩ = some (.slice A xs.length c)) (hr : Rd (fun k => k < M) w A xs.length c 1 (fs xs)) (hl : xs.length ≤ 140737488351232) :
    SeqStopsK Fence.wide n Try.prog 41 #[.pointer (some ⟨Bv, 0, none⟩)] (fun x => #[Value.float .f64 x]) (Kp M) (fun ss => ss = xs) (fun _ => True) xs.length w := fun l J Jx W hW hJ hJx hY h0 =>
  vals1_any n l Bv M A c xs J Jx hY W ((World.cell?_of_block (hW.block Bv (by omega))).trans hm) (hr.move (fun k hk => hW.block k (by omega))) hl h0
theorem vals_any (v : Value) (A : Option Addr) (n c : Nat) (hv : v = .slice A n c) (w : World) :
    Calls Try.prog 31 #[.slice A n c] w fun e w' => e = .returned (.func (.func 41) #[] #[.pointer (some ⟨w.heap.size, 0, none⟩)]) ∧ w' = w.alloc (.cells #[.slice A n c] 75) := by
  go_enter Try.func31, Try.ntmps31
  go_wp2
  go_ret
  exact ⟨rfl, rfl⟩
/-- What the gathering loop keeps. -/
def GInv (N : Nat) (w : World) (pre : List Nat) (W : World) : Prop :=
  ∃ v, W.heap[w.heap.size]? = some (.cells #[v] 75 (0, 0)) ∧ W.ownsRow (w.heap.size + 1) 23 1 v pre.length (fs pre) ∧ Chg (fun _ => False) w W ∧ w.heap.size + 1 ≤ W.heap.size ∧ pre.length ≤ N
set_option maxRecDepth 100000 in
set_option maxHeartbeats 2000000 in
theorem appendSeq_any (Bv : Nat) (A : Option Addr) (c : Nat) (xs : List Nat) (w : World) (hm : w.cell? ⟨Bv, 0, none⟩ = some (.slice A xs.length c)) (hr : Rd (fun k => k < w.heap.size) w A xs.length c 1 (fs xs)) (hN : xs.length ≤ 17592186043904) :
    Calls Try.prog 43 #[.slice none 0 0, .func (.func 41) #[] #[.pointer (some ⟨Bv, 0, none⟩)]] w fun e w' =>
      ∃ v, e = .returned v ∧ w'.ownsRow w.heap.size 23 1 v xs.length (fs xs) ∧ Chg (fun _ => False) w w' := by
  refine callsIn_wide.1 (?_ : CallsIn Fence.wide 9 _ _ _ _ _)
  refine callsIn_of_wp_marks Try.func43 rfl trivial ?_ rfl
  simp only [Try.ntmps43, List.size_toArray, List.length_cons, List.length_nil, Nat.reduceAdd, Nat.reduceSub, Array.replicate_succ, Array.replicate_zero, List.push_toArray, List.append_toArray, List.nil_append, List.cons_append]
  gi_wp2
  obtain ⟨w0, hw0⟩ : ∃ w0, w.alloc (.cells #[.slice none 0 0] 75) = w0 := ⟨_, rfl⟩
  have hBl := World.block_lt_of_cell? _ _ hm
  have hc0 : Chg (fun _ => False) w w0 := by rw [← hw0]; exact (Chg.refl _ w).alloc _
  have hs0 : w0.heap.size = w.heap.size + 1 := by rw [← hw0]; simp
  have b0 : w0.heap[w.heap.size]? = some (.cells #[.slice none 0 0] 75 (0, 0)) := by rw [← hw0]; exact heap_new w _
  have hm0 : w0.cell? ⟨Bv, 0, none⟩ = some (.slice A xs.length c) := (World.cell?_of_block (hc0.block Bv hBl (fun h => h))).trans hm
  have hr0 : Rd (fun k => k < w.heap.size) w0 A xs.length c 1 (fs xs) := hr.move (fun k hk => hc0.block k hk (fun h => h))
  rw [hw0]
  have hI : OwnFrom w0.heap.size (GInv xs.length w) := by
    rintro pre A B row ⟨v, h1, h2, h5, h6, h7⟩ hg hr
    exact ⟨v, own_cells hg hr h1, own_row hg hr h2, own_chgF hg hr (by omega) h5, Nat.le_trans h6 hg.size, h7⟩
  refine wpIn_rangeFunc_ownF rfl (by decide) (gf := 41) (lb := #[.pointer (some ⟨Bv, 0, none⟩)]) rfl trivial (enters_of Try.func41 (by kernel_rfl) rfl)
    (vals_stops _ Bv w.heap.size A c xs w0 (by omega) hBl hm0 hr0 (by omega)) Kp.trans (fun W l o o' hl hWl ho hw k hk => World.putObj_heap_other (by omega)) (Below.refl _ _) (fun _ => rfl)
    (GInv xs.length w) (fun c pre _ => False) hI (fun c s A B row hs hg hr => hs)
    ⟨_, b0, World.ownsRow_nil _ _ _ _, hc0, Nat.le_of_eq hs0.symm, by simp⟩
    (fun x => { tmps := #[.slice none 0 0, .func (.func 41) #[] #[.pointer (some ⟨Bv, 0, none⟩)], .pointer (some ⟨w.heap.size, 0, none⟩), undef, .slice none 0 0, .float .f64 x, .func (.func 41) #[] #[.pointer (some ⟨Bv, 0, none⟩)], .float .f64 x, undef, undef, undef, undef, undef], defers := [] }) ?assign ?body ?done ?stop
  case assign =>
    intro l x W K hK
    gi_wp2
    exact hK
  case body =>
    rintro l0 pre x W ⟨v, h1, h2, h5, h6, h7⟩ hlt
    obtain ⟨A, c, rfl, -⟩ := Rd.of_own h2
    have c2 := cell_at h1 0 rfl
    have f2 := free_at h1 0
    have hsz := h5.size
    have hlW := lt_of W h1
    gi_wp2_with (gi_at_builtin; refine apIn_one rfl (.tmp 8) (.tmp 10) 75 rfl (w.heap.size + 1) 23 1 8 (.float .f64 0) Try.underlying75 infoF rfl (by decide) (by decide) (.slice A pre.length c) pre.length _ rfl h2 #[.float .f64 x] rfl rfl (by simp [Value.oneCell']) (by omega) (by omega) ?_; intro v1 w1 o1 g1 r1; obtain ⟨A1, c1', rfl, -⟩ := Rd.of_own o1; obtain ⟨e1, e2, e3, e4, e5, e6⟩ := box_append h1 h2 (by omega) g1 o1 r1; have n2 : w1.cell? ⟨w.heap.size, 0, none⟩ = some (.slice A pre.length c) := cell_at (grow_keep g1 h1 (fun h => by have := (h2.lt _ h.symm).1; omega)) 0 rfl; have n3 : w1.frozen? ⟨w.heap.size, 0, none⟩ = false := free_at (grow_keep g1 h1 (fun h => by have := (h2.lt _ h.symm).1; omega)) 0)
    refine ⟨e3, fun k hk => ?_, ⟨_, e1, ?_, e6 w h5 (by omega), Nat.le_trans h6 e4.size, by simp; omega⟩⟩
    · exact (heap_set_ne _ _ (by omega)).trans (g1.block k (by omega) (fun e => by have := (h2.lt k e.symm).1; omega))
    · simpa [fs] using e2
  case done =>
    rintro D' ys W hD hS ⟨v, h1, h2, h5, h6, h7⟩ hK
    subst hS
    obtain ⟨A, c, rfl, -⟩ := Rd.of_own h2
    have c2 := cell_at h1 0 rfl
    have hlW := lt_of W h1
    gi_wp2
    refine ⟨by simp, .inl ⟨_, _, rfl, run_takeDeferred hK, ?_⟩⟩
    refine ⟨_, results_tmp rfl _ _ _, _, rfl, ?_, ?_⟩
    · refine own_base_le (own_move h2 (fun k hk => World.putObj_heap_other (fun e => ?_))) (fun k hk => by have := (h2.lt k hk).1; omega)
      subst e
      rcases h2.2 with ⟨h, _⟩ | ⟨g, cap, cur, h, _, hg, _⟩
      · rw [h] at hk; simp [Value.ownBlock] at hk
      · rw [h] at hk
        obtain rfl : g = k := by simpa [Value.ownBlock] using hk
        rw [hg] at hK; cases hK
    · exact ⟨h5.os, h5.tape, h5.output, by simpa using h5.size, fun k hk hn => (World.putObj_heap_other (by omega)).trans (h5.block k hk hn)⟩
  case stop =>
    rintro D' c pre W hD hS h
    exact h.elim
end Go.Proofs.Ytecppcgleidhkaa.Tv
