/- maps.Keys of a map of labels, and the walk over it. Conditions: a map as ownsMap tells it. -/
import Derived.Test.YtdfplhoijapoeaaLki
import Derived.Test.YtdfplhoijapoeaaLso
set_option linter.unusedVariables false
set_option linter.unusedSimpArgs false
namespace Go.Proofs.Ytdfplhoijapoeaa.Kj
open Go.RowKit Go.Maps Go.Sort Go.Proofs.Ytdfplhoijapoeaa.Lib1 Go.Proofs.Ytdfplhoijapoeaa.Ki

theorem uL : (Try.prog).underlying 23 = some (.int .u64) := Try.underlying23
set_option maxRecDepth 100000 in
set_option maxHeartbeats 1600000 in
theorem keys1_any {H : Type} (n : Nat) (l Bm b nn : Nat) (D : DataW H) {R : Value → Option (DataW H × List MemPlace)} (J Jx : List Nat → World → Prop)
    (hY : ∀ pre x W, J pre W → pre.length < Maps.size D → YieldAt Fence.wide (n - 1) Try.prog l #[lab x] W fun e W' => (e = .returned (.bool true) ∧ J (pre ++ [x]) W' ∧ KeepsWalks W W') ∨ (e = .returned (.bool false) ∧ Jx (pre ++ [x]) W'))
    (W : World) (hJ : AbidesFrom W.heap.size J) (hm : W.cell? ⟨Bm, 0, none⟩ = some (.map (some b))) (hown : W.ownsMap Try.prog 23 R b nn D) (h0 : J [] W) :
    CallsIn Fence.wide n Try.prog 74 #[.func (.yield l) #[] #[], .pointer (some ⟨Bm, 0, none⟩)] W fun e W' => (∃ v, e = .returned v) ∧
      ((∃ ss : List Nat, (ss.Nodup ∧ ∀ x : Nat, x ∈ ss ↔ has D (kl x) = true) ∧ J ss W') ∨ (∃ pre : List Nat, (pre.Nodup ∧ ∀ x ∈ pre, has D (kl x) = true) ∧ Jx pre W')) := by
  refine callsIn_of_wp Try.func74 rfl trivial ?_ rfl
  simp only [Try.ntmps74, List.size_toArray, List.length_cons, List.length_nil, Nat.reduceAdd, Nat.reduceSub, Array.replicate_succ, Array.replicate_zero, List.push_toArray, List.append_toArray, List.nil_append, List.cons_append]
  gi_wp2_with (first
    | (gi_at_range; refine wpListIn_range_own _ rfl _ 87 rfl 23 3 (int_keyed uL) Try.underlying87 _ b nn _ rfl hown ?_; intro w0 hrg0 hg0 hs0)
    | gi_in)
  go_frame
  gi_loopw [3] (fun _ wr => ∃ (left : Lit → Bool) (cnt : Nat) (ss : List Nat), wr.ranges Try.prog 23 R b W.heap.size nn D left cnt ∧ ss.length + cnt ≤ Maps.size D ∧ Come D left ss ∧ J ss wr)
    (fun _ wr => wr.rangeLeft b W.heap.size)
  case atStart => exact ⟨_, _, [], hrg0, by simp, come_nil D, hJ [] W w0 none h0 hg0 (fun r e => by cases e)⟩
  case round =>
    obtain ⟨left, cnt, ss, hrg, hcs, hC, hJs⟩ := hrel
    gi_wp2_with (first
      | (gi_at_next; refine wpListIn_next_ranges _ rfl _ rfl 23 (int_keyed uL) R lab id (fun key l hk => by obtain ⟨x, hx, _⟩ := key_lab uL hk; exact ⟨x, hx⟩) (fun v _ _ => ⟨v, rfl⟩) b W.heap.size nn _ _ _ rfl hrg ?_ ?_)
      | gi_in)
    · intro hc0 hl0
      gi_wp2
      go_end0
      exact ⟨⟨_, rfl⟩, .inl ⟨ss, hC.all hl0, hJs⟩⟩
    · intro x c l' yd yp w2 cnt2 hkey hlk hv hat hrg2 hlt hg2 hs2 hen
      obtain ⟨x', ex, rfl, _⟩ := key_lab uL hkey
      obtain rfl : x = x' := lab_inj ex
      have hJ2 : J ss w2 := hJ ss wr w2 (some W.heap.size) hJs hg2 (fun r e => by cases e; exact ⟨Nat.le_refl _, hrg.iter_walk⟩)
      obtain ⟨fn, tmps, assign, body, hy, hR⟩ := hY ss x w2 hJ2 (by omega)
      clear hs2
      gi_wp2
      refine ⟨fun h => (by cases h), hR.mono ?_⟩
      have hC2 := hC.one hlk hat
      rintro e W3 (⟨rfl, hJ3, hk3⟩ | ⟨rfl, hJx3⟩)
      · gi_wp2
        have hrg3 := hrg2.of_walks hk3
        go_roundw
        case rel => exact ⟨_, cnt2, ss ++ [x], hrg3, by simp; omega, hC2, hJ3⟩
        case measure => rw [hrg3.left_eq, hrg.left_eq]; exact hlt
      · gi_wp2
        refine bodyPost_ret (results_none rfl _ _ _) rfl ?_
        exact ⟨⟨_, rfl⟩, .inr ⟨ss ++ [x], hC2.part, hJx3⟩⟩

/-- The walk over the keys, as the laws of a range over a function want it. -/
theorem keys_stops {H : Type} (n : Nat) (Bm b nn : Nat) (D : DataW H) {R : Value → Option (DataW H × List MemPlace)} (w : World)
    (hm : w.cell? ⟨Bm, 0, none⟩ = some (.map (some b))) (hown : w.ownsMap Try.prog 23 R b nn D) :
    SeqStopsK Fence.wide n Try.prog 74 #[.pointer (some ⟨Bm, 0, none⟩)] (fun x => #[lab x]) KeepsWalks
      (fun ss => ss.Nodup ∧ ∀ x : Nat, x ∈ ss ↔ has D (kl x) = true) (fun pre => pre.Nodup ∧ ∀ x ∈ pre, has D (kl x) = true) (Maps.size D) w := fun l J Jx W hW hJ hJx hY h0 => by
  have hown' : W.ownsMap Try.prog 23 R b nn D := by
    have hbl := hown.lt
    obtain ⟨es, clock, hb, Ft, hs, hD⟩ := hown
    exact ⟨es, clock, (hW.block b hbl).trans hb, Ft, hs, hD⟩
  exact keys1_any n l Bm b nn D J Jx hY W hJ ((World.cell?_of_block (hW.block Bm (World.block_lt_of_cell? _ _ hm))).trans hm) hown' h0

theorem keys_any (mb : Option Nat) (w : World) :
    Calls Try.prog 62 #[.map mb] w fun e w' => e = .returned (.func (.func 74) #[] #[.pointer (some ⟨w.heap.size, 0, none⟩)]) ∧ w' = w.alloc (.cells #[.map mb] 87) := by
  go_enter Try.func62, Try.ntmps62
  go_wp2
  go_ret
  exact ⟨rfl, rfl⟩
end Go.Proofs.Ytdfplhoijapoeaa.Kj
