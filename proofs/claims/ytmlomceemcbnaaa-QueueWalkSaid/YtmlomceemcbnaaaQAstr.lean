/- The queue's All at one type of things (string): the value that it hands back, and that value's contract as an iterator. Conditions: a queue as IsQ tells it. -/
import Derived.Test.YtmlomceemcbnaaaQstr
import Derived.Test.YtmlomceemcbnaaaIter
import Derived.Shelf.Abstract
import Derived.Shelf.RegionOpen
import Derived.TacticsInMore
import Derived.LoopNIn
import Derived.LoopIn
set_option linter.unusedVariables false
set_option linter.unusedSimpArgs false
namespace Go.Proofs.Ytmlomceemcbnaaa.QAstr
open Go.RowKit Go.Shelf Go.Proofs.Ytmlomceemcbnaaa.Lib1 Go.Proofs.Ytmlomceemcbnaaa.Q Go.Proofs.Ytmlomceemcbnaaa.Iter Go.Proofs.Ytmlomceemcbnaaa.Qstr
attribute [local go_sem] Oper.semAt_some

theorem all_any (p : Option Addr) (w : World) : Calls Try.prog 36 #[.pointer p] w fun e w' => e = .returned (.func (.func 53) #[] #[.pointer (some ⟨w.heap.size, 0, none⟩)]) ∧ w' = w.alloc (.cells #[.pointer p] 28) := by
  go_enter Try.func36, Try.ntmps36
  go_wp2
  go_ret
  exact ⟨rfl, rfl⟩

theorem infoE : (Try.prog.info? ET).map (fun i => (i.zero, i.size, i.bytes)) = some (some (.string ⟨#[]⟩), 1, 16) := by kernel_rfl

/-- What a round is handed: the place and the thing. -/
def encs (x : Nat × ByteArray) : Array Value := #[.int .i64 (x.1 : Int), (fun (x : ByteArray) => (.string x : Value)) x.2]
def vals (ss : List (ByteArray)) : List Value := ss.map fun x => .string x
theorem vals_get (ss : List (ByteArray)) {k : Nat} (h : k < ss.length) (x : ByteArray) (hx : x = ss[k]) : (vals ss)[k]? = some (.string x) := by subst hx; simp [vals, List.getElem?_eq_getElem h]
theorem vals_snoc (ss : List (ByteArray)) {k : Nat} (h : k < ss.length) (x : ByteArray) (hx : x = ss[k]) : vals (ss.take (k + 1)) = vals (ss.take k) ++ [.string x] := by subst hx; rw [List.take_succ_eq_append_getElem h, vals, List.map_append]; rfl
def upto (ss : List (ByteArray)) (k : Nat) : List (Nat × ByteArray) := (List.range k).map fun j => (j, ss[j]?.getD (⟨#[]⟩ : ByteArray))
theorem upto_succ (ss : List (ByteArray)) (k : Nat) : upto ss (k + 1) = upto ss k ++ [(k, ss[k]?.getD (⟨#[]⟩ : ByteArray))] := by simp [upto, List.range_succ]
theorem upto_length (ss : List (ByteArray)) (k : Nat) : (upto ss k).length = k := by simp [upto]

/-- The first loop: k things gathered. -/
def Gather (W : World) (ss : List (ByteArray)) (v i : Value) (wr : World) : Prop :=
  ∃ k : Nat, k ≤ ss.length ∧ i = .int .i64 k ∧ wr.ownsRow W.heap.size ET 1 v k (vals (ss.take k)) ∧ Chg (fun _ => False) W wr

/-- The second loop: k things told; the gathered row stays. -/
def Tell (W : World) (J : List (Nat × ByteArray) → World → Prop) (fp : World → Nat → Prop) (ss : List (ByteArray)) (A : Option Addr) (c : Nat) (wr : World) (i : Value) (wr2 : World) : Prop :=
  ∃ k : Nat, k ≤ ss.length ∧ i = .int .i64 k ∧ J (upto ss k) wr2 ∧ ∀ g, (Value.slice A ss.length c).ownBlock = some g → wr2.heap[g]? = wr.heap[g]? ∧ ¬ fp wr2 g
theorem row_next {fp : World → Nat → Prop} {wr wr2 W3 : World} {v : Value} {base n : Nat} {xs : List Value} (hk : KpF fp wr2 W3) (h : ∀ g, v.ownBlock = some g → wr2.heap[g]? = wr.heap[g]? ∧ ¬ fp wr2 g) (ho : wr.ownsRow base ET 1 v n xs) :
    ∀ g, v.ownBlock = some g → W3.heap[g]? = wr.heap[g]? ∧ ¬ fp W3 g := by
  intro g hg
  obtain ⟨h1, h2⟩ := h g hg
  rcases ho.2 with ⟨rfl, _⟩ | ⟨g', cap, cur, rfl, _, hb, _⟩
  · simp [Value.ownBlock] at hg
  · obtain rfl : g' = g := by simpa [Value.ownBlock] using hg
    have h3 := hk.same g' _ _ _ (h1.trans hb) h2
    refine ⟨h3.trans hb.symm, fun hf => ?_⟩
    rcases hk.grow g' hf with h4 | h4
    · exact h2 h4
    · have := lt_of wr2 (h1.trans hb); omega

set_option maxRecDepth 100000 in
theorem all1_any (n l0 Bn b : Nat) (l : Option Nat) (most : Int) (ss : List (ByteArray)) (W : World) (fp : World → Nat → Prop) (J Jx : List (Nat × ByteArray) → World → Prop)
    (hBn : W.cell? ⟨Bn, 0, none⟩ = some (.pointer (some ⟨b, 0, none⟩))) (hq : IsQ QT ET W b l most (vals ss))
    (hfp : ∀ W2, Chg (fun _ => False) W W2 → ∀ k, fp W2 k → k < W.heap.size)
    (hJ : AbidesFrom W.heap.size J) (h0 : J [] W)
    (hY : ∀ pre x W1, J pre W1 → pre.length < ss.length → YieldAt Fence.wide (n - 1) Try.prog l0 (encs x) W1 fun e W' =>
      (e = .returned (.bool true) ∧ J (pre ++ [x]) W' ∧ KpF fp W1 W') ∨ (e = .returned (.bool false) ∧ Jx (pre ++ [x]) W')) :
    CallsIn Fence.wide n Try.prog 53 #[.func (.yield l0) #[] #[], .pointer (some ⟨Bn, 0, none⟩)] W fun e W' => (∃ v, e = .returned v) ∧
      ((∃ ys, ys = upto ss ss.length ∧ J ys W') ∨ (∃ pre, (∃ k, k ≤ ss.length ∧ pre = upto ss k) ∧ Jx pre W')) := by
  have hlen := hq.len_le
  simp only [vals, List.length_map] at hlen
  refine callsIn_of_wp Try.func53 rfl trivial ?_ rfl
  simp only [Try.ntmps53, List.size_toArray, List.length_cons, List.length_nil, Nat.reduceAdd, Nat.reduceSub, Array.replicate_succ, Array.replicate_zero, List.push_toArray, List.append_toArray, List.nil_append, List.cons_append]
  gi_wp2_with fail
  refine wide_call (len_any W hq) ?_
  rintro e w' ⟨rfl, rfl⟩
  simp only [vals, List.length_map]
  gi_wp2
  gi_loopw [3, 9] (fun v i wr => Gather W ss v i wr) (fun _ i _ => ss.length - (intOf i).toNat)
  case atStart => exact ⟨0, Nat.zero_le _, rfl, World.ownsRow_nil _ _ _ _, Chg.refl _ _⟩
  case round =>
    obtain ⟨k, hk, rfl, hown, hchg⟩ := hrel
    by_cases hlt : k < ss.length
    · obtain ⟨A, c, rfl, -⟩ := Rd.of_own hown
      have hqr := hq.kept hchg (fun h => h) (fun _ _ h => h)
      have hBr : wr.cell? ⟨Bn, 0, none⟩ = some (.pointer (some ⟨b, 0, none⟩)) := (World.cell?_of_block (hchg.block Bn (World.block_lt_of_cell? _ _ hBn) (fun h => h))).trans hBn
      obtain ⟨x, hx⟩ : ∃ x, x = ss[k] := ⟨_, rfl⟩
      have hxv := vals_get ss hlt x hx
      have hsn := vals_snoc ss hlt x hx
      have HA : Hid (Calls Try.prog 54 #[.pointer (some ⟨b, 0, none⟩), .int .i64 (k : Int)] wr fun e w' => e = .returned (.string x) ∧ ∃ m, w' = wr.drewN m) := by
        rcases hqr with ⟨_, h, _⟩ | ⟨g, n', first, arr, _, h⟩
        · rw [h] at hxv; simp at hxv
        · exact at_any x (k : Int) wr h (by omega) (by simpa using hxv)
      have HS := Lib.hid hsn
      clear hx hxv hsn
      gi_wp2_with fail
      refine wide_call HA.out ?_
      rintro e w' ⟨rfl, m, rfl⟩
      have hown' : (wr.drewN m).ownsRow W.heap.size ET 1 (.slice A k c) k (vals (ss.take k)) := hown
      have hsz : W.heap.size ≤ (wr.drewN m).heap.size := hchg.size
      have hch' : Chg (fun _ => False) W (wr.drewN m) := hchg.drewN m
      gi_wp2_with (gi_at_builtin; refine apIn_one rfl (.tmp 12) (.tmp 16) 23 rfl W.heap.size ET 1 16 (.string ⟨#[]⟩) Try.underlying23 infoE rfl (by decide) (by decide) (.slice A k c) k _ rfl hown' #[.string x] rfl rfl (by simp [Value.oneCell']) (by omega) hsz ?_; intro v1 w1 o1 g1 r1)
      go_roundw
      case rel => exact ⟨k + 1, hlt, rfl, by rw [HS.out]; exact o1, hch'.of_grown g1 (fun j hj => .inl (hown.lt j hj).1)⟩
      case measure => simp [intOf]; omega
    · obtain rfl : k = ss.length := by omega
      obtain ⟨A, c, rfl, hrd⟩ := Rd.of_own hown
      rw [List.take_length] at hown hrd
      have hJ0 : J [] wr := hJ [] W wr none h0 ⟨hchg.os, hchg.tape, hchg.output, hchg.size, fun k hk _ => hchg.block k hk (fun h => h)⟩ (fun r h => by cases h)
      obtain ⟨wo, rfl⟩ : ∃ wo : World, wo = wr := ⟨_, rfl⟩
      have hn0 : ∀ g, (Value.slice A ss.length c).ownBlock = some g → ¬ fp wo g := fun g hg hf => by
        have := hfp wo hchg g hf
        have := (hown.lt g hg).1
        omega
      gi_wp2
      gi_loopw [21] (fun i wr => Tell W J fp ss A c wo i wr) (fun i _ => ss.length - (intOf i).toNat)
      case atStart => exact ⟨0, Nat.zero_le _, rfl, hJ0, fun g hg => ⟨rfl, hn0 g hg⟩⟩
      case round =>
        obtain ⟨k, hk, rfl, hJs, hrow⟩ := hrel
        by_cases hlt : k < ss.length
        · obtain ⟨x, hx⟩ : ∃ x, x = ss[k]?.getD (⟨#[]⟩ : ByteArray) := ⟨_, rfl⟩
          obtain ⟨fn, tmps, assign, body, hy, hR⟩ := hY (upto ss k) (k, x) wr hJs (by rw [upto_length]; exact hlt)
          obtain ⟨g, off, rfl, hk0, hcell⟩ := hrd.at_ (by omega)
          have hc2 : wr.cell? ⟨g, off + k, none⟩ = some (.string x) := (World.cell?_of_block (hrow g hk0).1).trans (hcell k _ (by have := vals_get ss hlt x (by rw [hx]; simp [hlt]); exact this))
          have hgl : g < wo.heap.size := (hown.lt g hk0).2
          dsimp only [encs] at hy
          have HX := Lib.hid hx
          clear hx
          gi_wp2
          refine ⟨fun h => (by cases h), hR.mono ?_⟩
          rintro e W3 (⟨rfl, hJ3, hk3⟩ | ⟨rfl, hJx3⟩)
          · gi_wp2
            go_roundw
            case rel => exact ⟨k + 1, hlt, rfl, by rw [upto_succ, ← HX.out]; exact hJ3, row_next hk3 hrow hown⟩
            case measure => simp [intOf]; omega
          · gi_wp2
            refine bodyPost_ret (results_none rfl _ _ _) rfl ?_
            exact ⟨⟨_, rfl⟩, .inr ⟨_, ⟨k + 1, by omega, by rw [upto_succ, ← HX.out]⟩, hJx3⟩⟩
        · obtain rfl : k = ss.length := by omega
          gi_wp2
          go_end0
          exact ⟨⟨_, rfl⟩, .inl ⟨_, rfl, hJs⟩⟩

set_option maxRecDepth 100000 in
theorem all1_nil (n l0 Bn : Nat) (W : World) (J Jx : List (Nat × ByteArray) → World → Prop) (hBn : W.cell? ⟨Bn, 0, none⟩ = some (.pointer none)) (h0 : J [] W) (hJ : AbidesFrom W.heap.size J) :
    CallsIn Fence.wide n Try.prog 53 #[.func (.yield l0) #[] #[], .pointer (some ⟨Bn, 0, none⟩)] W fun e W' => (∃ v, e = .returned v) ∧
      ((∃ ys, ys = upto [] 0 ∧ J ys W') ∨ (∃ pre, (∃ k, k ≤ 0 ∧ pre = upto [] k) ∧ Jx pre W')) := by
  refine callsIn_of_wp Try.func53 rfl trivial ?_ rfl
  simp only [Try.ntmps53, List.size_toArray, List.length_cons, List.length_nil, Nat.reduceAdd, Nat.reduceSub, Array.replicate_succ, Array.replicate_zero, List.push_toArray, List.append_toArray, List.nil_append, List.cons_append]
  gi_wp2_with fail
  refine wide_call (len_nil W) ?_
  rintro e w' ⟨rfl, rfl⟩
  gi_wp2
  gi_loopw [3, 9] (fun v i wr => v = .slice none 0 0 ∧ i = .int .i64 0 ∧ wr = W) (fun _ _ _ => 0)
  case atStart => exact ⟨rfl, rfl, rfl⟩
  case round =>
    obtain ⟨rfl, rfl, rfl⟩ := hrel
    obtain ⟨wo, rfl⟩ : ∃ wo : World, wo = wr := ⟨_, rfl⟩
    gi_wp2
    gi_loopw [21] (fun i wr => i = .int .i64 0 ∧ wr = wo) (fun _ _ => 0)
    case atStart => exact ⟨rfl, rfl⟩
    case round =>
      obtain ⟨rfl, rfl⟩ := hrel
      gi_wp2
      go_end0
      exact ⟨⟨_, rfl⟩, .inl ⟨_, rfl, h0⟩⟩
end Go.Proofs.Ytmlomceemcbnaaa.QAstr
