/- The queue's two blocks: what they hold, and how it is turned. Conditions: none. -/
import Derived.Test.YtmlomceemcbnaaaLib
namespace Go.Proofs.Ytmlomceemcbnaaa.Q
open Go.RowKit Go.Proofs.Ytmlomceemcbnaaa.Lib1

/-- The record at block b: its list is the row at block g, of n places; the things are xs (a cell each). -/
structure HasQ (QT ET : Nat) (w : World) (b g n first : Nat) (arr : Array Value) (most : Int) (xs : List Value) : Prop where
  hb : w.heap[b]? = some (.cells #[.int .i64 most, .slice (some ⟨g, 0, none⟩) n n, .int .i64 (first : Int), .int .i64 (xs.length : Int)] QT (0, 0))
  hg : w.heap[g]? = some (.cells arr ET (0, 0))
  ne : g ≠ b
  pos : 0 < n
  le : (n : Int) ≤ most
  top : most ≤ 65536
  size : arr.size = n
  first_lt : first < n
  fits : xs.length ≤ n
  ring : ∀ i, i < xs.length → arr[(first + i) % n]? = xs[i]?

/-- The record at block b, its list nil or a row (l: its block). -/
def IsQ (QT ET : Nat) (w : World) (b : Nat) (l : Option Nat) (most : Int) (xs : List Value) : Prop :=
  (l = none ∧ xs = [] ∧ 0 ≤ most ∧ most ≤ 65536 ∧ w.heap[b]? = some (.cells #[.int .i64 most, .slice none 0 0, .int .i64 0, .int .i64 0] QT (0, 0))) ∨
  ∃ g n first arr, l = some g ∧ HasQ QT ET w b g n first arr most xs

section
variable {QT ET : Nat} {w w' : World} {b g n first : Nat} {arr : Array Value} {most : Int} {xs : List Value} {l : Option Nat}

theorem HasQ.c0 (h : HasQ QT ET w b g n first arr most xs) : w.cell? ⟨b, 0, none⟩ = some (.int .i64 most) := cell_at h.hb 0 rfl
theorem HasQ.c1 (h : HasQ QT ET w b g n first arr most xs) : w.cell? ⟨b, 1, none⟩ = some (.slice (some ⟨g, 0, none⟩) n n) := cell_at h.hb 1 rfl
theorem HasQ.c2 (h : HasQ QT ET w b g n first arr most xs) : w.cell? ⟨b, 2, none⟩ = some (.int .i64 (first : Int)) := cell_at h.hb 2 rfl
theorem HasQ.c3 (h : HasQ QT ET w b g n first arr most xs) : w.cell? ⟨b, 3, none⟩ = some (.int .i64 (xs.length : Int)) := cell_at h.hb 3 rfl
theorem HasQ.fb (h : HasQ QT ET w b g n first arr most xs) (i : Nat) : w.frozen? ⟨b, i, none⟩ = false := free_at h.hb i
theorem HasQ.fg (h : HasQ QT ET w b g n first arr most xs) (i : Nat) : w.frozen? ⟨g, i, none⟩ = false := free_at h.hg i
theorem HasQ.moved (h : HasQ QT ET w b g n first arr most xs) (e1 : w'.heap[b]? = w.heap[b]?) (e2 : w'.heap[g]? = w.heap[g]?) : HasQ QT ET w' b g n first arr most xs :=
  ⟨e1.trans h.hb, e2.trans h.hg, h.ne, h.pos, h.le, h.top, h.size, h.first_lt, h.fits, h.ring⟩

theorem IsQ.lt (h : IsQ QT ET w b l most xs) : b < w.heap.size := by
  rcases h with ⟨_, _, _, _, h⟩ | ⟨g, n, first, arr, _, h⟩
  · exact lt_of w h
  · exact lt_of w h.hb
theorem IsQ.row_lt (h : IsQ QT ET w b l most xs) : ∀ k, l = some k → k < w.heap.size ∧ k ≠ b := by
  intro k hk
  rcases h with ⟨h, _⟩ | ⟨g, n, first, arr, e, h⟩
  · rw [h] at hk; cases hk
  · rw [e] at hk; cases hk; exact ⟨lt_of w h.hg, h.ne⟩
theorem IsQ.len_le (h : IsQ QT ET w b l most xs) : 0 ≤ most ∧ most ≤ 65536 ∧ (xs.length : Int) ≤ most := by
  rcases h with ⟨_, rfl, h0, h1, _⟩ | ⟨g, n, first, arr, _, h⟩
  · exact ⟨h0, h1, h0⟩
  · have := h.le; have := h.top; have := h.fits; have := h.pos; omega
theorem IsQ.moved (h : IsQ QT ET w b l most xs) (e1 : w'.heap[b]? = w.heap[b]?) (e2 : ∀ k, l = some k → w'.heap[k]? = w.heap[k]?) : IsQ QT ET w' b l most xs := by
  rcases h with ⟨h1, h2, h3, h4, h⟩ | ⟨g, n, first, arr, e, h⟩
  · exact .inl ⟨h1, h2, h3, h4, e1.trans h⟩
  · exact .inr ⟨g, n, first, arr, e, h.moved e1 (e2 g e)⟩
/-- What turns neither of its blocks leaves it. -/
theorem IsQ.kept {S : Nat → Prop} (h : IsQ QT ET w b l most xs) (c : Chg S w w') (hb : ¬ S b) (hl : ∀ k, l = some k → ¬ S k) : IsQ QT ET w' b l most xs :=
  h.moved (c.block b h.lt hb) (fun k hk => c.block k (h.row_lt k hk).1 (hl k hk))
theorem IsQ.new (w : World) (h0 : 0 ≤ most) (h1 : most ≤ 65536) : IsQ QT ET (w.alloc (.cells #[.int .i64 most, .slice none 0 0, .int .i64 0, .int .i64 0] QT)) w.heap.size none most [] :=
  .inl ⟨rfl, rfl, h0, h1, heap_new w _⟩

/-- What a thing at a place of the ring is. -/
theorem HasQ.get (h : HasQ QT ET w b g n first arr most xs) {i : Nat} {x : Value} (hx : xs[i]? = some x) : arr[(first + i) % n]? = some x := by
  rw [h.ring i (List.getElem?_eq_some_iff.1 hx).1]; exact hx

theorem mod_ne {first n i j : Nat} (hi : i < n) (hj : j < n) (hne : i ≠ j) : (first + i) % n ≠ (first + j) % n := by
  intro h
  have key : ∀ {a b : Nat}, a < b → b < n → (first + a) % n ≠ (first + b) % n := by
    intro a b hab hb h
    have h2 : (first + b - (first + a)) % n = 0 := Nat.sub_mod_eq_zero_of_mod_eq h.symm
    have h3 : first + b - (first + a) = b - a := by omega
    rw [h3, Nat.mod_eq_of_lt (by omega)] at h2
    omega
  rcases Nat.lt_or_gt_of_ne hne with h1 | h1
  · exact key h1 hj h
  · exact key h1 hi h.symm

/-- Push, room being there: the two stores. -/
theorem HasQ.pushed (h : HasQ QT ET w b g n first arr most xs) (hroom : xs.length < n) (x : Value)
    (e : w'.heap = ((w.setCell ⟨g, (first + xs.length) % n, none⟩ x).setCell ⟨b, 3, none⟩ (.int .i64 ((xs.length : Int) + 1))).heap) :
    HasQ QT ET w' b g n first (arr.setIfInBounds ((first + xs.length) % n) x) most (xs ++ [x]) := by
  have hm : (first + xs.length) % n < n := Nat.mod_lt _ h.pos
  have h1 : (w.setCell ⟨g, (first + xs.length) % n, none⟩ x).heap[b]? = _ := (heap_set_ne _ _ h.ne.symm).trans h.hb
  have h2 := heap_set h1 3 (.int .i64 ((xs.length : Int) + 1))
  have h3 := (heap_set_ne (w := w.setCell ⟨g, (first + xs.length) % n, none⟩ x) (b := b) 3 (.int .i64 ((xs.length : Int) + 1)) h.ne).trans (heap_set h.hg ((first + xs.length) % n) x)
  refine ⟨?_, ?_, h.ne, h.pos, h.le, h.top, by simp [h.size], h.first_lt, by simp; omega, fun i hi => ?_⟩
  · rw [e, h2]; simp
  · rw [e, h3]
  · simp only [List.length_append, List.length_singleton] at hi
    by_cases hil : i = xs.length
    · subst hil
      rw [Array.getElem?_setIfInBounds_self_of_lt (by rw [h.size]; exact hm)]
      simp
    · rw [Array.getElem?_setIfInBounds_ne (mod_ne (by omega) (by omega) (fun h => hil h.symm)), h.ring i (by omega), List.getElem?_append_left (by omega)]

/-- Pop, something being there: the three stores. -/
theorem HasQ.popped (h : HasQ QT ET w b g n first arr most xs) (hx : 0 < xs.length) (z : Value)
    (e : w'.heap = (((w.setCell ⟨g, first, none⟩ z).setCell ⟨b, 2, none⟩ (.int .i64 (((first : Int) + 1) % (n : Int)))).setCell ⟨b, 3, none⟩ (.int .i64 ((xs.length : Int) - 1))).heap) :
    HasQ QT ET w' b g n ((first + 1) % n) (arr.setIfInBounds first z) most xs.tail := by
  have h1 : (w.setCell ⟨g, first, none⟩ z).heap[b]? = _ := (heap_set_ne _ _ h.ne.symm).trans h.hb
  have h2 := heap_set h1 2 (.int .i64 (((first : Int) + 1) % (n : Int)))
  have h3 := heap_set h2 3 (.int .i64 ((xs.length : Int) - 1))
  have g1 := (heap_set_ne (w := w.setCell ⟨g, first, none⟩ z) (b := b) 2 (.int .i64 (((first : Int) + 1) % (n : Int))) h.ne).trans (heap_set h.hg first z)
  have g2 := (heap_set_ne (w := (w.setCell ⟨g, first, none⟩ z).setCell ⟨b, 2, none⟩ (.int .i64 (((first : Int) + 1) % (n : Int)))) (b := b) 3 (.int .i64 ((xs.length : Int) - 1)) h.ne).trans g1
  refine ⟨?_, ?_, h.ne, h.pos, h.le, h.top, by simp [h.size], Nat.mod_lt _ h.pos, by have := h.fits; simp; omega, fun i hi => ?_⟩
  · rw [e, h3]
    simp only [List.length_tail]
    rw [show ((xs.length - 1 : Nat) : Int) = (xs.length : Int) - 1 by omega]
    simp
  · rw [e, g2]
  · simp only [List.length_tail] at hi
    have hfit := h.fits
    rw [show ((first + 1) % n + i) % n = (first + (i + 1)) % n by rw [Nat.mod_add_mod]; congr 1; omega]
    rw [Array.getElem?_setIfInBounds_ne, h.ring (i + 1) (by omega)]
    · simp
    · have := mod_ne (first := first) (n := n) (i := 0) (j := i + 1) h.pos (by omega) (by omega)
      rwa [Nat.add_zero, Nat.mod_eq_of_lt h.first_lt] at this
end
/-- In the loop of grow: k things copied to the new row. -/
def GrowRel (ET : Nat) (w : World) (n M : Nat) (xs : List Value) (i : Value) (wr : World) : Prop :=
  ∃ k : Nat, k ≤ n ∧ i = .int .i64 k ∧ ∃ arr', wr.heap[w.heap.size]? = some (.cells arr' ET (0, 0)) ∧ arr'.size = M ∧ (∀ j, j < k → arr'[j]? = xs[j]?) ∧ Chg (fun _ => False) w wr

theorem GrowRel.start (ET : Nat) (w : World) (n M : Nat) (xs : List Value) (z : Value) (m : Nat) : GrowRel ET w n M xs (.int .i64 0) ((w.drewN m).alloc (.cells (madeCells #[z] M) ET)) :=
  ⟨0, Nat.zero_le _, rfl, _, heap_new (w.drewN m) _, by simp [madeCells], fun j hj => absurd hj (Nat.not_lt_zero _), ((Chg.refl _ w).drewN m).alloc _⟩

theorem GrowRel.step {ET : Nat} {w wr w2 : World} {n M k : Nat} {xs : List Value} {arr' : Array Value} {x : Value} (hnew : wr.heap[w.heap.size]? = some (.cells arr' ET (0, 0))) (hsz : arr'.size = M) (hcopy : ∀ j, j < k → arr'[j]? = xs[j]?)
    (hchg : Chg (fun _ => False) w wr) (hk : k < n) (hn : n < M) (hx : xs[k]? = some x) (e : w2.heap = (wr.setCell ⟨w.heap.size, k, none⟩ x).heap) (eo : w2.os = wr.os) (et : w2.tape = wr.tape) (ep : w2.output = wr.output) :
    GrowRel ET w n M xs (.int .i64 ((k : Int) + 1)) w2 := by
  have hh := heap_set hnew k x
  have c := hchg.setCell (p := ⟨w.heap.size, k, none⟩) (.inl (Nat.le_refl _)) x
  refine ⟨k + 1, hk, rfl, _, (congrArg (·[w.heap.size]?) e).trans hh, by simpa using hsz, fun j hj => ?_, ⟨eo.trans c.os, et.trans c.tape, ep.trans c.output, by rw [e]; exact c.size, fun i hi hn => by rw [e]; exact c.block i hi hn⟩⟩
  by_cases hjk : j = k
  · subst hjk
    rw [Array.getElem?_setIfInBounds_self_of_lt (by omega), hx]
  · rw [Array.getElem?_setIfInBounds_ne (fun h => hjk h.symm), hcopy j (by omega)]

/-- Behind grow: the record turned to the new row. -/
theorem HasQ.grown {QT ET : Nat} {w wr w' : World} {b g n first M : Nat} {arr arr' : Array Value} {most : Int} {xs : List Value} (h : HasQ QT ET w b g n first arr most xs) (hr : xs.length = n) (hM : n < M) (hMm : (M : Int) ≤ most)
    (hnew : wr.heap[w.heap.size]? = some (.cells arr' ET (0, 0))) (hsz : arr'.size = M) (hcopy : ∀ j, j < n → arr'[j]? = xs[j]?) (hchg : Chg (fun _ => False) w wr)
    (e : w'.heap = ((wr.setCell ⟨b, 1, none⟩ (.slice (some ⟨w.heap.size, 0, none⟩) M M)).setCell ⟨b, 2, none⟩ (.int .i64 0)).heap) (eo : w'.os = wr.os) (et : w'.tape = wr.tape) (ep : w'.output = wr.output) :
    HasQ QT ET w' b w.heap.size M 0 arr' most xs ∧ Chg (fun k => k = b) w w' := by
  have hb := lt_of w h.hb
  have b1 := heap_set (hchg.at_ h.hb (fun h => h)) 1 (.slice (some ⟨w.heap.size, 0, none⟩) M M)
  have b2 := heap_set b1 2 (.int .i64 0)
  have g2 := ((heap_set_ne (w := wr.setCell ⟨b, 1, none⟩ (.slice (some ⟨w.heap.size, 0, none⟩) M M)) (b := b) (k := w.heap.size) 2 (.int .i64 0) (by omega)).trans (heap_set_ne (w := wr) (b := b) 1 _ (by omega))).trans hnew
  have c := ((hchg.mono (T := fun k => k = b) (fun _ _ h => h.elim)).setCell (p := ⟨b, 1, none⟩) (.inr rfl) (.slice (some ⟨w.heap.size, 0, none⟩) M M)).setCell (p := ⟨b, 2, none⟩) (.inr rfl) (.int .i64 0)
  refine ⟨⟨?_, ?_, by omega, by omega, hMm, h.top, hsz, by omega, by omega, fun i hi => ?_⟩, ⟨eo.trans c.os, et.trans c.tape, ep.trans c.output, by rw [e]; exact c.size, fun i hi hn => by rw [e]; exact c.block i hi hn⟩⟩
  · rw [e, b2]; simp
  · rw [e, g2]
  · rw [Nat.zero_add, Nat.mod_eq_of_lt (by omega), hcopy i (by omega)]
/-- Behind the first grow: the record turned to a new row. -/
theorem grown_nil {QT ET : Nat} {w w' : World} {b M : Nat} {z : Value} {m : Nat} {most : Int} (h : w.heap[b]? = some (.cells #[.int .i64 most, .slice none 0 0, .int .i64 0, .int .i64 0] QT (0, 0))) (hM : 0 < M) (hMm : (M : Int) ≤ most) (h1 : most ≤ 65536)
    (e : w'.heap = ((((w.drewN m).alloc (.cells (madeCells #[z] M) ET)).setCell ⟨b, 1, none⟩ (.slice (some ⟨w.heap.size, 0, none⟩) M M)).setCell ⟨b, 2, none⟩ (.int .i64 0)).heap) (eo : w'.os = w.os) (et : w'.tape = w.tape) (ep : w'.output = w.output) :
    HasQ QT ET w' b w.heap.size M 0 (madeCells #[z] M) most [] ∧ Chg (fun k => k = b) w w' := by
  have hb := lt_of w h
  have h' : (w.drewN m).heap[b]? = some (.cells #[.int .i64 most, .slice none 0 0, .int .i64 0, .int .i64 0] QT (0, 0)) := h
  have b1 := heap_set (heap_old (.cells (madeCells #[z] M) ET) h') 1 (.slice (some ⟨w.heap.size, 0, none⟩) M M)
  have b2 := heap_set b1 2 (.int .i64 0)
  have hn : ((w.drewN m).alloc (.cells (madeCells #[z] M) ET)).heap[w.heap.size]? = some (.cells (madeCells #[z] M) ET) := heap_new (w.drewN m) _
  have g2 := ((heap_set_ne (w := ((w.drewN m).alloc (.cells (madeCells #[z] M) ET)).setCell ⟨b, 1, none⟩ (.slice (some ⟨w.heap.size, 0, none⟩) M M)) (b := b) (k := w.heap.size) 2 (.int .i64 0) (by omega)).trans (heap_set_ne (w := (w.drewN m).alloc (.cells (madeCells #[z] M) ET)) (b := b) 1 _ (by omega))).trans hn
  have c := ((((Chg.refl (fun k => k = b) w).drewN m).alloc (.cells (madeCells #[z] M) ET)).setCell (p := ⟨b, 1, none⟩) (.inr rfl) (.slice (some ⟨w.heap.size, 0, none⟩) M M)).setCell (p := ⟨b, 2, none⟩) (.inr rfl) (.int .i64 0)
  refine ⟨⟨?_, ?_, by omega, by omega, hMm, h1, by simp [madeCells], by omega, Nat.zero_le _, fun i hi => absurd hi (Nat.not_lt_zero _)⟩, ⟨eo.trans c.os, et.trans c.tape, ep.trans c.output, by rw [e]; exact c.size, fun i hi hn => by rw [e]; exact c.block i hi hn⟩⟩
  · rw [e, b2]; simp
  · rw [e, g2]
section
variable {QT ET : Nat} {w w' : World} {b g n first : Nat} {arr : Array Value} {most : Int} {xs : List Value} {l : Option Nat}
theorem IsQ.c0 (h : IsQ QT ET w b l most xs) : w.cell? ⟨b, 0, none⟩ = some (.int .i64 most) := by
  rcases h with ⟨_, _, _, _, h⟩ | ⟨g, n, first, arr, _, h⟩
  · exact cell_at h 0 rfl
  · exact h.c0
theorem IsQ.c3 (h : IsQ QT ET w b l most xs) : w.cell? ⟨b, 3, none⟩ = some (.int .i64 (xs.length : Int)) := by
  rcases h with ⟨_, rfl, _, _, h⟩ | ⟨g, n, first, arr, _, h⟩
  · exact cell_at h 3 rfl
  · exact h.c3
/-- Behind Push: grow, then the two stores. -/
theorem push_end {w1 : World} {x : Value} (h : HasQ QT ET w1 b g n first arr most xs) (hroom : xs.length < n) (hl : l = some g ∨ w.heap.size ≤ g) (hc : Chg (fun k => k = b) w w1)
    (e : w'.heap = ((w1.setCell ⟨g, (first + xs.length) % n, none⟩ x).setCell ⟨b, 3, none⟩ (.int .i64 ((xs.length : Int) + 1))).heap) (eo : w'.os = w1.os) (et : w'.tape = w1.tape) (ep : w'.output = w1.output) :
    ∃ l', IsQ QT ET w' b l' most (xs ++ [x]) ∧ (l' = l ∨ ∃ g, l' = some g ∧ w.heap.size ≤ g) ∧ Chg (fun k => k = b ∨ some k = l) w w' := by
  have c := ((hc.mono (T := fun k => k = b ∨ some k = l) (fun _ _ h => .inl h)).setCell (p := ⟨g, (first + xs.length) % n, none⟩) (by
    rcases hl with hl | hl
    · exact .inr (.inr hl.symm)
    · exact .inl hl) x).setCell (p := ⟨b, 3, none⟩) (.inr (.inl rfl)) (.int .i64 ((xs.length : Int) + 1))
  refine ⟨some g, .inr ⟨g, n, first, _, rfl, h.pushed hroom x e⟩, ?_, ⟨eo.trans c.os, et.trans c.tape, ep.trans c.output, by rw [e]; exact c.size, fun i hi hn => by rw [e]; exact c.block i hi hn⟩⟩
  rcases hl with hl | hl
  · exact .inl hl.symm
  · exact .inr ⟨g, rfl, hl⟩
/-- Behind Pop. -/
theorem pop_end {z : Value} (h : HasQ QT ET w b g n first arr most xs) (hx : 0 < xs.length)
    (e : w'.heap = (((w.setCell ⟨g, first, none⟩ z).setCell ⟨b, 2, none⟩ (.int .i64 (((first : Int) + 1) % (n : Int)))).setCell ⟨b, 3, none⟩ (.int .i64 ((xs.length : Int) - 1))).heap) (eo : w'.os = w.os) (et : w'.tape = w.tape) (ep : w'.output = w.output) :
    IsQ QT ET w' b (some g) most xs.tail ∧ Chg (fun k => k = b ∨ k = g) w w' := by
  have c := (((Chg.refl (fun k => k = b ∨ k = g) w).setCell (p := ⟨g, first, none⟩) (.inr (.inr rfl)) z).setCell (p := ⟨b, 2, none⟩) (.inr (.inl rfl)) (.int .i64 (((first : Int) + 1) % (n : Int)))).setCell (p := ⟨b, 3, none⟩) (.inr (.inl rfl)) (.int .i64 ((xs.length : Int) - 1))
  exact ⟨.inr ⟨g, n, _, _, rfl, h.popped hx z e⟩, ⟨eo.trans c.os, et.trans c.tape, ep.trans c.output, by rw [e]; exact c.size, fun i hi hn => by rw [e]; exact c.block i hi hn⟩⟩
end
end Go.Proofs.Ytmlomceemcbnaaa.Q
