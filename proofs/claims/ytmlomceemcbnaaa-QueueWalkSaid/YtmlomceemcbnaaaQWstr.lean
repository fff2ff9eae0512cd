/- The law's walked at one type of things (string): the queue's All, ranged over, gathers the queue's list. Conditions: a queue as IsQ tells it. -/
import Derived.Test.YtmlomceemcbnaaaQAstr
set_option linter.unusedVariables false
set_option linter.unusedSimpArgs false
namespace Go.Proofs.Ytmlomceemcbnaaa.QAstr
open Go.RowKit Go.Shelf Go.Proofs.Ytmlomceemcbnaaa.Lib1 Go.Proofs.Ytmlomceemcbnaaa.Q Go.Proofs.Ytmlomceemcbnaaa.Iter Go.Proofs.Ytmlomceemcbnaaa.Qstr
attribute [local go_sem] Oper.semAt_some

/-- The value that All hands back is an iterator: all, or (where a round has said 'no more') what it told till then. -/
theorem all_stops (n Bn b : Nat) (l : Option Nat) (most : Int) (ss : List (ByteArray)) (w : World) (fp : World → Nat → Prop)
    (hBn : w.cell? ⟨Bn, 0, none⟩ = some (.pointer (some ⟨b, 0, none⟩))) (hq : IsQ QT ET w b l most (vals ss))
    (hfp : ∀ W2, Chg (fun _ => False) w W2 → ∀ k, fp W2 k → k < w.heap.size) :
    SeqStopsK Fence.wide n Try.prog 53 #[.pointer (some ⟨Bn, 0, none⟩)] encs (KpF fp) (fun ys => ys = upto ss ss.length) (fun pre => ∃ k, k ≤ ss.length ∧ pre = upto ss k) ss.length w := fun l0 J Jx W hW hJ hJx hY h0 => by
  have hch : Chg (fun _ => False) w W := Chg.of_below hW
  exact all1_any n l0 Bn b l most ss W fp J Jx ((World.cell?_of_block (hch.block Bn (World.block_lt_of_cell? _ _ hBn) (fun h => h))).trans hBn) (hq.kept hch (fun h => h) (fun _ _ h => h))
    (fun W2 h2 k hk => Nat.lt_of_lt_of_le (hfp W2 (hch.trans h2 (fun _ _ h => h)) k hk) hW.size) hJ h0 hY

theorem upto_snd (ss : List (ByteArray)) : (upto ss ss.length).map (·.2) = ss := by
  refine List.ext_getElem? fun i => ?_
  by_cases h : i < ss.length
  · simp [upto, h]
  · simp [upto, h]
theorem upto_not (ss : List (ByteArray)) (k : Nat) (p : List (Nat × ByteArray)) (x : Nat × ByteArray) (h : p ++ [x] = upto ss k) : x.1 = p.length := by
  have hl : k = p.length + 1 := by have := congrArg List.length h; simp [upto] at this; omega
  subst hl
  rw [upto_succ] at h
  have := List.append_inj_right' h rfl
  simp at this
  rw [this]

theorem func_nil (f : Fn) (a b : Array Value) (W : World) : (binOp .eql 88 (.func f a b) .nilFunc).run Try.prog W = .ok (.bool false) W := by kernel_rfl

/-- What the loop of walked keeps. -/
def WStop (pre : List (Nat × ByteArray)) : Prop := ∃ (p : List (Nat × ByteArray)) (x : Nat × ByteArray), pre = p ++ [x] ∧ x.1 ≠ p.length
def WInv (w : World) (pre : List (Nat × ByteArray)) (W : World) : Prop :=
  ∃ v, W.heap[w.heap.size + 2]? = some (.cells #[v] 23 (0, 0)) ∧ W.ownsRow (w.heap.size + 4) ET 1 v pre.length (vals (pre.map (·.2))) ∧
    W.heap[w.heap.size]? = some (.cells #[.slice none 0 0] 23 (0, 0)) ∧ W.heap[w.heap.size + 1]? = some (.cells #[.bool false] 4 (0, 0)) ∧ Chg (fun _ => False) w W ∧ w.heap.size + 4 ≤ W.heap.size

set_option maxRecDepth 100000 in
set_option maxHeartbeats 2000000 in
theorem walked_gen (p : Option Addr) (ss : List (ByteArray)) (w : World) (hlen : ss.length ≤ 65536)
    (HS : ∀ (w0 : World) (Bn : Nat), Chg (fun _ => False) w w0 → w0.cell? ⟨Bn, 0, none⟩ = some (.pointer p) → ∀ (fp : World → Nat → Prop), (∀ W2, Chg (fun _ => False) w0 W2 → ∀ k, fp W2 k → k < w0.heap.size) → ∀ n,
      SeqStopsK Fence.wide n Try.prog 53 #[.pointer (some ⟨Bn, 0, none⟩)] encs (KpF fp) (fun ys => ys = upto ss ss.length) (fun pre => ∃ k, k ≤ ss.length ∧ pre = upto ss k) ss.length w0) :
    Calls Try.prog 34 #[.pointer p] w fun e w' => ∃ v, e = .returned (.tuple #[v, .bool true]) ∧ w'.ownsRow w.heap.size ET 1 v ss.length (vals ss) ∧ Chg (fun _ => False) w w' := by
  refine callsIn_wide.1 (?_ : CallsIn Fence.wide 9 _ _ _ _ _)
  refine callsIn_of_wp_marks Try.func34 rfl trivial ?_ rfl
  simp only [Try.ntmps34, List.size_toArray, List.length_cons, List.length_nil, Nat.reduceAdd, Nat.reduceSub, Array.replicate_succ, Array.replicate_zero, List.push_toArray, List.append_toArray, List.nil_append, List.cons_append]
  gi_wp2_with fail
  refine ⟨trivial, (callsIn_wide.2 (all_any p _)).mono ?_⟩
  rintro e w' ⟨rfl, rfl⟩
  simp only [World.size_alloc]
  have hN := func_nil (.func 53) #[] #[.pointer (some ⟨w.heap.size + 1 + 1 + 1, 0, none⟩)]
  gi_wp2
  obtain ⟨w0, hw0⟩ : ∃ w0, (((w.alloc (.cells #[.slice none 0 0] 23)).alloc (.cells #[.bool false] 4)).alloc (.cells #[.slice none 0 0] 23)).alloc (.cells #[.pointer p] 28) = w0 := ⟨_, rfl⟩
  have hc0 : Chg (fun _ => False) w w0 := by rw [← hw0]; exact (((((Chg.refl _ w).alloc _).alloc _).alloc _).alloc _)
  have hs0 : w0.heap.size = w.heap.size + 4 := by rw [← hw0]; simp
  have b0 : w0.heap[w.heap.size]? = some (.cells #[.slice none 0 0] 23 (0, 0)) := by rw [← hw0]; exact heap_old _ (heap_old _ (heap_old _ (heap_new w _)))
  have b1 : w0.heap[w.heap.size + 1]? = some (.cells #[.bool false] 4 (0, 0)) := by rw [← hw0]; exact heap_old _ (heap_old _ (heap_new' _ _ (by simp)))
  have b2 : w0.heap[w.heap.size + 2]? = some (.cells #[.slice none 0 0] 23 (0, 0)) := by rw [← hw0]; exact heap_old _ (heap_new' _ _ (by simp))
  have b3 : w0.cell? ⟨w.heap.size + 1 + 1 + 1, 0, none⟩ = some (.pointer p) := by rw [← hw0]; exact cell_at (heap_new' _ _ (by simp)) 0 rfl
  rw [hw0]
  have hown : ∀ (A B : World) (row : Option Nat) (pre : List (Nat × ByteArray)), WInv w pre A → A.grownBy B row → (∀ r, row = some r → w0.heap.size ≤ r ∧ ∃ o : Obj, A.heap[r]? = some o ∧ o.isCells = false) → WInv w pre B := by
    rintro A B row pre ⟨v, h1, h2, h3, h4, h5, h6⟩ hg hr
    exact ⟨v, own_cells hg hr h1, own_row hg hr h2, own_cells hg hr h3, own_cells hg hr h4, own_chgF hg hr (by omega) h5, Nat.le_trans h6 hg.size⟩
  refine wpIn_rangeFunc_ownF rfl (by decide) (gf := 53) (lb := #[.pointer (some ⟨w.heap.size + 1 + 1 + 1, 0, none⟩)]) rfl trivial (enters_of Try.func53 (by kernel_rfl) rfl)
    (HS w0 (w.heap.size + 1 + 1 + 1) hc0 b3 (boxFp (w.heap.size + 2)) (fun W2 h2 k hk => ?hfp) _) KpF.trans (fun W l' o o' hl ho hcl _ => KpF.putObj W l' o o' ho hcl (by omega)) (Below.refl _ _) (fun _ => rfl)
    (WInv w) (fun c pre _ => c = .ret ∧ WStop pre) (fun s A B row hs hg hr => hown A B row s hs hg hr) (fun c s A B row hs hg hr => hs)
    ⟨_, b2, World.ownsRow_nil _ _ _ _, b0, b1, hc0, Nat.le_of_eq hs0.symm⟩
    (fun x => { tmps := #[.pointer p, undef, .pointer (some ⟨w.heap.size, 0, none⟩), .pointer (some ⟨w.heap.size + 1, 0, none⟩), .pointer (some ⟨w.heap.size + 1 + 1, 0, none⟩), .func (.func 53) #[] #[.pointer (some ⟨w.heap.size + 1 + 1 + 1, 0, none⟩)], .int .i64 (x.1 : Int), (fun (x : ByteArray) => (.string x : Value)) x.2, .pointer p, .func (.func 53) #[] #[.pointer (some ⟨w.heap.size + 1 + 1 + 1, 0, none⟩)], .func (.func 53) #[] #[.pointer (some ⟨w.heap.size + 1 + 1 + 1, 0, none⟩)], .bool false, .func (.func 53) #[] #[.pointer (some ⟨w.heap.size + 1 + 1 + 1, 0, none⟩)], .int .i64 (x.1 : Int), (fun (x : ByteArray) => (.string x : Value)) x.2, undef, undef, undef, undef, undef, undef, undef, undef, undef], defers := [] }) ?assign ?body ?done ?stop
  case hfp =>
    rcases hk with rfl | ⟨v, hv, he⟩
    · omega
    · have := cell_at (h2.at_ b2 (fun h => h)) 0 (v := .slice none 0 0) rfl
      rw [this] at hv; cases hv; simp [Value.ownBlock] at he
  case assign =>
    intro l x W K hK
    dsimp only [encs]
    gi_wp2
    exact hK
  case body =>
    rintro l0 pre ⟨i, x⟩ W ⟨v, h1, h2, h3, h4, h5, h6⟩ hlt
    obtain ⟨A, c, rfl, -⟩ := Rd.of_own h2
    have c2 := cell_at h1 0 rfl
    have f2 := free_at h1 0
    have c0 := cell_at h3 0 rfl
    have f0 := free_at h3 0
    have c1 := cell_at h4 0 rfl
    have f1 := free_at h4 0
    have hsz := h5.size
    have hlW := lt_of W h1
    by_cases hi : i = pre.length
    · subst hi
      gi_wp2_with (gi_at_builtin; refine apIn_one rfl (.tmp 19) (.tmp 21) 23 rfl (w.heap.size + 4) ET 1 16 (.string ⟨#[]⟩) Try.underlying23 infoE rfl (by decide) (by decide) (.slice A pre.length c) pre.length _ rfl h2 #[.string x] rfl rfl (by simp [Value.oneCell']) (by omega) (by omega) ?_; intro v1 w1 o1 g1 r1; obtain ⟨A1, c1', rfl, -⟩ := Rd.of_own o1; obtain ⟨e1, e2, e3, e4, e5, e6⟩ := box_append h1 h2 (by omega) g1 o1 r1; have n2 : w1.cell? ⟨w.heap.size + 1 + 1, 0, none⟩ = some (.slice A pre.length c) := cell_at (grow_keep g1 h1 (fun h => by have := (h2.lt _ h.symm).1; omega)) 0 rfl; have n3 : w1.frozen? ⟨w.heap.size + 1 + 1, 0, none⟩ = false := free_at (grow_keep g1 h1 (fun h => by have := (h2.lt _ h.symm).1; omega)) 0)
      refine ⟨e3, e4, ⟨_, e1, ?_, e5 _ _ (by omega) (by omega) h3, e5 _ _ (by omega) (by omega) h4, e6 w h5 (by omega), Nat.le_trans h6 e4.size⟩⟩
      simpa [vals] using e2
    · have hb : ((i : Int) == (pre.length : Int)) = false := by simpa using (by omega : ¬ (i : Int) = (pre.length : Int))
      gi_wp2
      exact ⟨(KeepsOthers.setCell _ _ _).trans (KeepsOthers.setCell _ _ _), ⟨rfl, pre, _, rfl, hi⟩⟩
  case done =>
    rintro D ys W hD rfl ⟨v, h1, h2, h3, h4, h5, h6⟩ hK
    rw [upto_length, upto_snd] at h2
    obtain ⟨A, c, rfl, -⟩ := Rd.of_own h2
    have c2 := cell_at h1 0 rfl
    have c0 := cell_at h3 0 rfl
    have f0 := free_at h3 0
    have c1 := cell_at h4 0 rfl
    have f1 := free_at h4 0
    gi_wp2
    have k0 := heap_set h3 0 (.slice A ss.length c)
    have k0' := (heap_set_ne (b := w.heap.size + 1) (k := w.heap.size) 0 (.bool true) (by omega)).trans k0
    have k1 := heap_set ((heap_set_ne (w := W) (b := w.heap.size) 0 (.slice A ss.length c) (by omega)).trans h4) 0 (.bool true)
    have hK2 : ((W.setCell ⟨w.heap.size, 0, none⟩ (.slice A ss.length c)).setCell ⟨w.heap.size + 1, 0, none⟩ (.bool true)).heap[D]? = some (.deferred (some [])) := (heap_set_ne 0 _ (by omega)).trans ((heap_set_ne 0 _ (by omega)).trans hK)
    refine ⟨by simp, .inl ⟨_, _, rfl, run_takeDeferred hK2, ?_⟩⟩
    have hp := fun k (hk : k ≠ D) => World.putObj_heap_other (w := (W.setCell ⟨w.heap.size, 0, none⟩ (.slice A ss.length c)).setCell ⟨w.heap.size + 1, 0, none⟩ (.bool true)) (r := D) (o := .deferred none) hk
    have r0 := cell_at ((hp w.heap.size (by omega)).trans k0') 0 rfl
    have r1 := cell_at ((hp (w.heap.size + 1) (by omega)).trans k1) 0 rfl
    refine ⟨.tuple #[.slice A ss.length c, .bool true], by simp [results, Try.f34, go_sem, r0, r1], _, rfl, ?_, ?_⟩
    · refine own_base_le (own_move h2 (fun k hk => (hp k (fun e => ?_)).trans ((heap_set_ne _ _ ?_).trans (heap_set_ne _ _ ?_)))) (fun k hk => by have := (h2.lt k hk).1; omega)
      · subst e
        rcases h2.2 with ⟨h, _⟩ | ⟨g, cap, cur, h, _, hg, _⟩
        · rw [h] at hk; simp [Value.ownBlock] at hk
        · rw [h] at hk
          obtain rfl : g = k := by simpa [Value.ownBlock] using hk
          rw [hg] at hK; cases hK
      all_goals have := (h2.lt k hk).1; omega
    · have c := (h5.set (b := w.heap.size) (i := 0) (u := .slice A ss.length c) (.inl (Nat.le_refl _))).set (b := w.heap.size + 1) (i := 0) (u := .bool true) (.inl (by omega))
      exact ⟨c.os, c.tape, c.output, by simpa using c.size, fun k hk hn => (hp k (by omega)).trans (c.block k hk hn)⟩
  case stop =>
    rintro D c pre W hD ⟨k, hk, rfl⟩ ⟨rfl, p', x, hp, hx⟩ hK
    exact absurd (upto_not ss k p' x hp.symm) hx

theorem walked_any (b : Nat) (l : Option Nat) (most : Int) (ss : List (ByteArray)) (w : World) (hq : IsQ QT ET w b l most (vals ss)) :
    Calls Try.prog 34 #[.pointer (some ⟨b, 0, none⟩)] w fun e w' => ∃ v, e = .returned (.tuple #[v, .bool true]) ∧ w'.ownsRow w.heap.size ET 1 v ss.length (vals ss) ∧ Chg (fun _ => False) w w' :=
  walked_gen _ ss w (by have := hq.len_le; simp only [vals, List.length_map] at this; omega) (fun w0 Bn hc hb fp hfp n => all_stops n Bn b l most ss w0 fp hb (hq.kept hc (fun h => h) (fun _ _ h => h)) hfp)
theorem walked_nil (w : World) :
    Calls Try.prog 34 #[.pointer none] w fun e w' => ∃ v, e = .returned (.tuple #[v, .bool true]) ∧ w'.ownsRow w.heap.size ET 1 v 0 [] ∧ Chg (fun _ => False) w w' :=
  walked_gen none [] w (by decide) (fun w0 Bn hc hb fp hfp n l0 J Jx W hW hJ hJx hY h0 =>
    all1_nil n l0 Bn W J Jx ((World.cell?_of_block ((Chg.of_below (S := fun _ => False) hW).block Bn (World.block_lt_of_cell? _ _ hb) (fun h => h))).trans hb) h0 hJ)
end Go.Proofs.Ytmlomceemcbnaaa.QAstr
