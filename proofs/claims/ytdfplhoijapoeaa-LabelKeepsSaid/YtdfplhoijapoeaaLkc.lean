/- slices.AppendSeq, slices.Collect over a map's keys. Conditions: a map as ownsMap tells it. -/
import Derived.Test.YtdfplhoijapoeaaLkj
import Derived.Test.YtdfplhoijapoeaaIter
set_option linter.unusedVariables false
set_option linter.unusedSimpArgs false
namespace Go.Proofs.Ytdfplhoijapoeaa.Lkc
open Go.RowKit Go.Maps Go.Sort Go.Proofs.Ytdfplhoijapoeaa.Lib1 Go.Proofs.Ytdfplhoijapoeaa.Lck Go.Proofs.Ytdfplhoijapoeaa.Iter Go.Proofs.Ytdfplhoijapoeaa.Ki Go.Proofs.Ytdfplhoijapoeaa.Kj
attribute [local go_sem] Oper.semAt_some

theorem infoL : ((Try.prog).info? 23).map (fun i => (i.zero, i.size, i.bytes)) = some (some (.int .u64 0), 1, 8) := by kernel_rfl
/-- What the gathering loop keeps. -/
def GInv (N : Nat) (w : World) (pre : List Nat) (W : World) : Prop :=
  ∃ v, W.heap[w.heap.size]? = some (.cells #[v] 28 (0, 0)) ∧ W.ownsRow (w.heap.size + 1) 23 1 v pre.length (us pre) ∧ Chg (fun _ => False) w W ∧ w.heap.size + 1 ≤ W.heap.size ∧ pre.length ≤ N

set_option maxRecDepth 100000 in
set_option maxHeartbeats 2000000 in
theorem appendSeq_any {H : Type} (Bm b nn : Nat) (D : DataW H) {R : Value → Option (DataW H × List MemPlace)} (w : World) (hm : w.cell? ⟨Bm, 0, none⟩ = some (.map (some b))) (hown : w.ownsMap Try.prog 23 R b nn D) (hN : Maps.size D ≤ 17592186043904) :
    Calls Try.prog 78 #[.slice none 0 0, .func (.func 74) #[] #[.pointer (some ⟨Bm, 0, none⟩)]] w fun e w' =>
      ∃ v ss, e = .returned v ∧ (ss.Nodup ∧ ∀ x : Nat, x ∈ ss ↔ has D (kl x) = true) ∧ ss.length ≤ Maps.size D ∧ w'.ownsRow w.heap.size 23 1 v ss.length (us ss) ∧ Chg (fun _ => False) w w' := by
  refine callsIn_wide.1 (?_ : CallsIn Fence.wide 9 _ _ _ _ _)
  refine callsIn_of_wp_marks Try.func78 rfl trivial ?_ rfl
  simp only [Try.ntmps78, List.size_toArray, List.length_cons, List.length_nil, Nat.reduceAdd, Nat.reduceSub, Array.replicate_succ, Array.replicate_zero, List.push_toArray, List.append_toArray, List.nil_append, List.cons_append]
  gi_wp2
  obtain ⟨w0, hw0⟩ : ∃ w0, w.alloc (.cells #[.slice none 0 0] 28) = w0 := ⟨_, rfl⟩
  have hc0 : Chg (fun _ => False) w w0 := by rw [← hw0]; exact (Chg.refl _ w).alloc _
  have hs0 : w0.heap.size = w.heap.size + 1 := by rw [← hw0]; simp
  have b0 : w0.heap[w.heap.size]? = some (.cells #[.slice none 0 0] 28 (0, 0)) := by rw [← hw0]; exact heap_new w _
  have hm0 : w0.cell? ⟨Bm, 0, none⟩ = some (.map (some b)) := (World.cell?_of_block (hc0.block Bm (World.block_lt_of_cell? _ _ hm) (fun h => h))).trans hm
  have hown0 : w0.ownsMap Try.prog 23 R b nn D := by
    have hbl := hown.lt
    obtain ⟨es, clock, hb, Ft, hs, hD⟩ := hown
    exact ⟨es, clock, (hc0.block b hbl (fun h => h)).trans hb, Ft, hs, hD⟩
  rw [hw0]
  have hI : OwnFrom w0.heap.size (GInv (Maps.size D) w) := by
    rintro pre A B row ⟨v, h1, h2, h5, h6, h7⟩ hg hr
    exact ⟨v, own_cells hg hr h1, own_row hg hr h2, own_chgF hg hr (by omega) h5, Nat.le_trans h6 hg.size, h7⟩
  refine wpIn_rangeFunc_ownF rfl (by decide) (gf := 74) (lb := #[.pointer (some ⟨Bm, 0, none⟩)]) rfl trivial (enters_of Try.func74 (by kernel_rfl) rfl)
    (keys_stops _ Bm b nn D w0 hm0 hown0) walksK_t walksK_b (Below.refl _ _) (fun _ => rfl)
    (GInv (Maps.size D) w) (fun c pre _ => False) hI (fun c s A B row hs hg hr => hs)
    ⟨_, b0, World.ownsRow_nil _ _ _ _, hc0, Nat.le_of_eq hs0.symm, by simp⟩
    (fun x => { tmps := #[.slice none 0 0, .func (.func 74) #[] #[.pointer (some ⟨Bm, 0, none⟩)], .pointer (some ⟨w.heap.size, 0, none⟩), undef, .slice none 0 0, lab x, .func (.func 74) #[] #[.pointer (some ⟨Bm, 0, none⟩)], lab x, undef, undef, undef, undef, undef], defers := [] }) ?assign ?body ?done ?stop
  case assign =>
    intro l x W K hK
    gi_wp2
    exact hK
  case body =>
    rintro l0 pre x W ⟨v, h1, h2, h5, h6, h7⟩ hlt
    obtain ⟨A, c, rfl, -⟩ := Rd.of_own h2
    have c2 := cell_at h1 0 rfl
    have f2 := free_at h1 0
    have hsz := h5.size
    have hlW := lt_of W h1
    have hsl : (us pre).length = pre.length := us_len pre
    gi_wp2_with (gi_at_builtin; refine apIn_one rfl (.tmp 8) (.tmp 10) 28 rfl (w.heap.size + 1) 23 1 8 (.int .u64 0) Try.underlying28 infoL rfl (by decide) (by decide) (.slice A pre.length c) pre.length _ rfl h2 #[lab x] rfl rfl (by simp [Value.oneCell']) (by omega) (by omega) ?_; intro v1 w1 o1 g1 r1; obtain ⟨A1, c1', rfl, -⟩ := Rd.of_own o1; obtain ⟨e1, e2, e3, e4, e5, e6⟩ := box_append h1 h2 (by omega) g1 o1 r1; have n2 : w1.cell? ⟨w.heap.size, 0, none⟩ = some (.slice A pre.length c) := cell_at (grow_keep g1 h1 (fun h => by have := (h2.lt _ h.symm).1; omega)) 0 rfl; have n3 : w1.frozen? ⟨w.heap.size, 0, none⟩ = false := free_at (grow_keep g1 h1 (fun h => by have := (h2.lt _ h.symm).1; omega)) 0)
    refine ⟨e3, e3.walks, ⟨_, e1, ?_, e6 w h5 (by omega), Nat.le_trans h6 e4.size, by simp; omega⟩⟩
    simpa [us] using e2
  case done =>
    rintro D' ys W hD hS ⟨v, h1, h2, h5, h6, h7⟩ hK
    obtain ⟨A, c, rfl, -⟩ := Rd.of_own h2
    have c2 := cell_at h1 0 rfl
    have hlW := lt_of W h1
    gi_wp2
    refine ⟨by simp, .inl ⟨_, _, rfl, run_takeDeferred hK, ?_⟩⟩
    refine ⟨_, results_tmp rfl _ _ _, _, ys, rfl, hS, h7, ?_, ?_⟩
    · refine own_base_le (own_move h2 (fun k hk => World.putObj_heap_other (fun e => ?_))) (fun k hk => by have := (h2.lt k hk).1; omega)
      subst e
      rcases h2.2 with ⟨h, _⟩ | ⟨g, cap, cur, h, _, hg, _⟩
      · rw [h] at hk; simp [Value.ownBlock] at hk
      · rw [h] at hk
        obtain rfl : g = k := by simpa [Value.ownBlock] using hk
        rw [hg] at hK; cases hK
    · exact ⟨h5.os, h5.tape, h5.output, by simpa using h5.size, fun k hk hn => (World.putObj_heap_other (by omega)).trans (h5.block k hk hn)⟩
  case stop =>
    rintro D' c pre W hD hS h
    exact h.elim
end Go.Proofs.Ytdfplhoijapoeaa.Lkc
