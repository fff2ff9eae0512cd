/- The queue's two blocks where a thing has two cells (Pair): what they hold, and how it is turned. Conditions: none. -/
import Derived.Test.YtmlomceemcbnaaaQ
namespace Go.Proofs.Ytmlomceemcbnaaa.Q2
open Go.RowKit Go.Proofs.Ytmlomceemcbnaaa.Lib1 Go.Proofs.Ytmlomceemcbnaaa.Q

def PairAt (arr : Array Value) (i : Nat) (x : Int × Bool) : Prop := arr[i * 2]? = some (.int .i64 x.1) ∧ arr[i * 2 + 1]? = some (.bool x.2)
theorem PairAt.set {arr : Array Value} {i : Nat} (x : Int × Bool) (h : i * 2 + 1 < arr.size) : PairAt ((arr.setIfInBounds (i * 2) (.int .i64 x.1)).setIfInBounds (i * 2 + 1) (.bool x.2)) i x := by
  constructor
  · rw [Array.getElem?_setIfInBounds_ne (by omega), Array.getElem?_setIfInBounds_self_of_lt (by omega)]
  · rw [Array.getElem?_setIfInBounds_self_of_lt (by simp; omega)]
theorem PairAt.other {arr : Array Value} {i j : Nat} {x : Int × Bool} (h : PairAt arr i x) (hne : j ≠ i) (u v : Value) : PairAt ((arr.setIfInBounds (j * 2) u).setIfInBounds (j * 2 + 1) v) i x := by
  constructor
  · rw [Array.getElem?_setIfInBounds_ne (by omega), Array.getElem?_setIfInBounds_ne (by omega)]; exact h.1
  · rw [Array.getElem?_setIfInBounds_ne (by omega), Array.getElem?_setIfInBounds_ne (by omega)]; exact h.2

structure HasQ2 (QT ET : Nat) (w : World) (b g n first : Nat) (arr : Array Value) (most : Int) (xs : List (Int × Bool)) : Prop where
  hb : w.heap[b]? = some (.cells #[.int .i64 most, .slice (some ⟨g, 0, none⟩) n n, .int .i64 (first : Int), .int .i64 (xs.length : Int)] QT (0, 0))
  hg : w.heap[g]? = some (.cells arr ET (0, 0))
  ne : g ≠ b
  pos : 0 < n
  le : (n : Int) ≤ most
  top : most ≤ 65536
  size : arr.size = n * 2
  first_lt : first < n
  fits : xs.length ≤ n
  ring : ∀ i x, xs[i]? = some x → PairAt arr ((first + i) % n) x

def IsQ2 (QT ET : Nat) (w : World) (b : Nat) (l : Option Nat) (most : Int) (xs : List (Int × Bool)) : Prop :=
  (l = none ∧ xs = [] ∧ 0 ≤ most ∧ most ≤ 65536 ∧ w.heap[b]? = some (.cells #[.int .i64 most, .slice none 0 0, .int .i64 0, .int .i64 0] QT (0, 0))) ∨
  ∃ g n first arr, l = some g ∧ HasQ2 QT ET w b g n first arr most xs

section
variable {QT ET : Nat} {w w' : World} {b g n first : Nat} {arr : Array Value} {most : Int} {xs : List (Int × Bool)} {l : Option Nat}

theorem HasQ2.c0 (h : HasQ2 QT ET w b g n first arr most xs) : w.cell? ⟨b, 0, none⟩ = some (.int .i64 most) := cell_at h.hb 0 rfl
theorem HasQ2.c1 (h : HasQ2 QT ET w b g n first arr most xs) : w.cell? ⟨b, 1, none⟩ = some (.slice (some ⟨g, 0, none⟩) n n) := cell_at h.hb 1 rfl
theorem HasQ2.c2 (h : HasQ2 QT ET w b g n first arr most xs) : w.cell? ⟨b, 2, none⟩ = some (.int .i64 (first : Int)) := cell_at h.hb 2 rfl
theorem HasQ2.c3 (h : HasQ2 QT ET w b g n first arr most xs) : w.cell? ⟨b, 3, none⟩ = some (.int .i64 (xs.length : Int)) := cell_at h.hb 3 rfl
theorem HasQ2.fb (h : HasQ2 QT ET w b g n first arr most xs) (i : Nat) : w.frozen? ⟨b, i, none⟩ = false := free_at h.hb i
theorem HasQ2.fg (h : HasQ2 QT ET w b g n first arr most xs) (i : Nat) : w.frozen? ⟨g, i, none⟩ = false := free_at h.hg i
theorem HasQ2.moved (h : HasQ2 QT ET w b g n first arr most xs) (e1 : w'.heap[b]? = w.heap[b]?) (e2 : w'.heap[g]? = w.heap[g]?) : HasQ2 QT ET w' b g n first arr most xs :=
  ⟨e1.trans h.hb, e2.trans h.hg, h.ne, h.pos, h.le, h.top, h.size, h.first_lt, h.fits, h.ring⟩

theorem IsQ2.lt (h : IsQ2 QT ET w b l most xs) : b < w.heap.size := by
  rcases h with ⟨_, _, _, _, h⟩ | ⟨g, n, first, arr, _, h⟩
  · exact lt_of w h
  · exact lt_of w h.hb
theorem IsQ2.row_lt (h : IsQ2 QT ET w b l most xs) : ∀ k, l = some k → k < w.heap.size ∧ k ≠ b := by
  intro k hk
  rcases h with ⟨h, _⟩ | ⟨g, n, first, arr, e, h⟩
  · rw [h] at hk; cases hk
  · rw [e] at hk; cases hk; exact ⟨lt_of w h.hg, h.ne⟩
theorem IsQ2.moved (h : IsQ2 QT ET w b l most xs) (e1 : w'.heap[b]? = w.heap[b]?) (e2 : ∀ k, l = some k → w'.heap[k]? = w.heap[k]?) : IsQ2 QT ET w' b l most xs := by
  rcases h with ⟨h1, h2, h3, h4, h⟩ | ⟨g, n, first, arr, e, h⟩
  · exact .inl ⟨h1, h2, h3, h4, e1.trans h⟩
  · exact .inr ⟨g, n, first, arr, e, h.moved e1 (e2 g e)⟩
theorem IsQ2.kept {S : Nat → Prop} (h : IsQ2 QT ET w b l most xs) (c : Chg S w w') (hb : ¬ S b) (hl : ∀ k, l = some k → ¬ S k) : IsQ2 QT ET w' b l most xs :=
  h.moved (c.block b h.lt hb) (fun k hk => c.block k (h.row_lt k hk).1 (hl k hk))
theorem IsQ2.new (w : World) (h0 : 0 ≤ most) (h1 : most ≤ 65536) : IsQ2 QT ET (w.alloc (.cells #[.int .i64 most, .slice none 0 0, .int .i64 0, .int .i64 0] QT)) w.heap.size none most [] :=
  .inl ⟨rfl, rfl, h0, h1, heap_new w _⟩
theorem IsQ2.c0 (h : IsQ2 QT ET w b l most xs) : w.cell? ⟨b, 0, none⟩ = some (.int .i64 most) := by
  rcases h with ⟨_, _, _, _, h⟩ | ⟨g, n, first, arr, _, h⟩
  · exact cell_at h 0 rfl
  · exact h.c0
theorem IsQ2.c3 (h : IsQ2 QT ET w b l most xs) : w.cell? ⟨b, 3, none⟩ = some (.int .i64 (xs.length : Int)) := by
  rcases h with ⟨_, rfl, _, _, h⟩ | ⟨g, n, first, arr, _, h⟩
  · exact cell_at h 3 rfl
  · exact h.c3

theorem HasQ2.pushed (h : HasQ2 QT ET w b g n first arr most xs) (hroom : xs.length < n) (x : Int × Bool)
    (e : w'.heap = (((w.setCell ⟨g, (first + xs.length) % n * 2, none⟩ (.int .i64 x.1)).setCell ⟨g, (first + xs.length) % n * 2 + 1, none⟩ (.bool x.2)).setCell ⟨b, 3, none⟩ (.int .i64 ((xs.length : Int) + 1))).heap) :
    HasQ2 QT ET w' b g n first ((arr.setIfInBounds ((first + xs.length) % n * 2) (.int .i64 x.1)).setIfInBounds ((first + xs.length) % n * 2 + 1) (.bool x.2)) most (xs ++ [x]) := by
  have hm : (first + xs.length) % n < n := Nat.mod_lt _ h.pos
  have h1 : (w.setCell ⟨g, (first + xs.length) % n * 2, none⟩ (.int .i64 x.1)).heap[b]? = _ := (heap_set_ne _ _ h.ne.symm).trans h.hb
  have h1' := (heap_set_ne (w := w.setCell ⟨g, (first + xs.length) % n * 2, none⟩ (.int .i64 x.1)) (b := g) ((first + xs.length) % n * 2 + 1) (.bool x.2) h.ne.symm).trans h1
  have h2 := heap_set h1' 3 (.int .i64 ((xs.length : Int) + 1))
  have h3 := (heap_set_ne (b := b) 3 (.int .i64 ((xs.length : Int) + 1)) h.ne).trans (heap_set (heap_set h.hg ((first + xs.length) % n * 2) (.int .i64 x.1)) ((first + xs.length) % n * 2 + 1) (.bool x.2))
  refine ⟨?_, ?_, h.ne, h.pos, h.le, h.top, by simp [h.size], h.first_lt, by simp; omega, fun i y hy => ?_⟩
  · rw [e, h2]; simp
  · rw [e, h3]
  · have hi := (List.getElem?_eq_some_iff.1 hy).1
    simp only [List.length_append, List.length_singleton] at hi
    by_cases hil : i = xs.length
    · subst hil
      obtain rfl : x = y := by simpa using hy
      exact PairAt.set x (by rw [h.size]; omega)
    · rw [List.getElem?_append_left (by omega)] at hy
      exact (h.ring i y hy).other (mod_ne (by omega) (by omega) (fun h => hil h.symm)) _ _

set_option maxHeartbeats 1600000 in
theorem HasQ2.popped (h : HasQ2 QT ET w b g n first arr most xs) (hx : 0 < xs.length) (z1 z2 : Value)
    (e : w'.heap = ((((w.setCell ⟨g, first * 2, none⟩ z1).setCell ⟨g, first * 2 + 1, none⟩ z2).setCell ⟨b, 2, none⟩ (.int .i64 (((first : Int) + 1) % (n : Int)))).setCell ⟨b, 3, none⟩ (.int .i64 ((xs.length : Int) - 1))).heap) :
    HasQ2 QT ET w' b g n ((first + 1) % n) ((arr.setIfInBounds (first * 2) z1).setIfInBounds (first * 2 + 1) z2) most xs.tail := by
  have h0 : (w.setCell ⟨g, first * 2, none⟩ z1).heap[b]? = _ := (heap_set_ne _ _ h.ne.symm).trans h.hb
  have h1 := (heap_set_ne (w := w.setCell ⟨g, first * 2, none⟩ z1) (b := g) (first * 2 + 1) z2 h.ne.symm).trans h0
  have h2 := heap_set h1 2 (.int .i64 (((first : Int) + 1) % (n : Int)))
  have h3 := heap_set h2 3 (.int .i64 ((xs.length : Int) - 1))
  have g1 := (heap_set_ne (b := b) 2 (.int .i64 (((first : Int) + 1) % (n : Int))) h.ne).trans (heap_set (heap_set h.hg (first * 2) z1) (first * 2 + 1) z2)
  have g2 := (heap_set_ne (b := b) 3 (.int .i64 ((xs.length : Int) - 1)) h.ne).trans g1
  refine ⟨?_, ?_, h.ne, h.pos, h.le, h.top, by simp [h.size], Nat.mod_lt _ h.pos, by have := h.fits; simp; omega, fun i y hy => ?_⟩
  · rw [e, h3]
    simp only [List.length_tail]
    rw [show ((xs.length - 1 : Nat) : Int) = (xs.length : Int) - 1 by omega]
    simp
  · rw [e, g2]
  · clear h0 h1 h2 h3 g1 g2 e
    have hfit := h.fits
    have hi := (List.getElem?_eq_some_iff.1 hy).1
    simp only [List.length_tail] at hi
    rw [show ((first + 1) % n + i) % n = (first + (i + 1)) % n by rw [Nat.mod_add_mod]; congr 1; omega]
    refine (h.ring (i + 1) y (by rw [← hy]; simp)).other ?_ _ _
    have := mod_ne (first := first) (n := n) (i := 0) (j := i + 1) h.pos (by omega) (by omega)
    rwa [Nat.add_zero, Nat.mod_eq_of_lt h.first_lt] at this

theorem push_end {w1 : World} {x : Int × Bool} (h : HasQ2 QT ET w1 b g n first arr most xs) (hroom : xs.length < n) (hl : l = some g ∨ w.heap.size ≤ g) (hc : Chg (fun k => k = b) w w1)
    (e : w'.heap = (((w1.setCell ⟨g, (first + xs.length) % n * 2, none⟩ (.int .i64 x.1)).setCell ⟨g, (first + xs.length) % n * 2 + 1, none⟩ (.bool x.2)).setCell ⟨b, 3, none⟩ (.int .i64 ((xs.length : Int) + 1))).heap) (eo : w'.os = w1.os) (et : w'.tape = w1.tape) (ep : w'.output = w1.output) :
    ∃ l', IsQ2 QT ET w' b l' most (xs ++ [x]) ∧ (l' = l ∨ ∃ g, l' = some g ∧ w.heap.size ≤ g) ∧ Chg (fun k => k = b ∨ some k = l) w w' := by
  have hg : w.heap.size ≤ g ∨ (g = b ∨ some g = l) := by
    rcases hl with hl | hl
    · exact .inr (.inr hl.symm)
    · exact .inl hl
  have c := (((hc.mono (T := fun k => k = b ∨ some k = l) (fun _ _ h => .inl h)).setCell (p := ⟨g, (first + xs.length) % n * 2, none⟩) hg (.int .i64 x.1)).setCell (p := ⟨g, (first + xs.length) % n * 2 + 1, none⟩) hg (.bool x.2)).setCell (p := ⟨b, 3, none⟩) (.inr (.inl rfl)) (.int .i64 ((xs.length : Int) + 1))
  refine ⟨some g, .inr ⟨g, n, first, _, rfl, h.pushed hroom x e⟩, ?_, ⟨eo.trans c.os, et.trans c.tape, ep.trans c.output, by rw [e]; exact c.size, fun i hi hn => by rw [e]; exact c.block i hi hn⟩⟩
  rcases hl with hl | hl
  · exact .inl hl.symm
  · exact .inr ⟨g, rfl, hl⟩
theorem pop_end {z1 z2 : Value} (h : HasQ2 QT ET w b g n first arr most xs) (hx : 0 < xs.length)
    (e : w'.heap = ((((w.setCell ⟨g, first * 2, none⟩ z1).setCell ⟨g, first * 2 + 1, none⟩ z2).setCell ⟨b, 2, none⟩ (.int .i64 (((first : Int) + 1) % (n : Int)))).setCell ⟨b, 3, none⟩ (.int .i64 ((xs.length : Int) - 1))).heap) (eo : w'.os = w.os) (et : w'.tape = w.tape) (ep : w'.output = w.output) :
    IsQ2 QT ET w' b (some g) most xs.tail ∧ Chg (fun k => k = b ∨ k = g) w w' := by
  have c := ((((Chg.refl (fun k => k = b ∨ k = g) w).setCell (p := ⟨g, first * 2, none⟩) (.inr (.inr rfl)) z1).setCell (p := ⟨g, first * 2 + 1, none⟩) (.inr (.inr rfl)) z2).setCell (p := ⟨b, 2, none⟩) (.inr (.inl rfl)) (.int .i64 (((first : Int) + 1) % (n : Int)))).setCell (p := ⟨b, 3, none⟩) (.inr (.inl rfl)) (.int .i64 ((xs.length : Int) - 1))
  exact ⟨.inr ⟨g, n, _, _, rfl, h.popped hx z1 z2 e⟩, ⟨eo.trans c.os, et.trans c.tape, ep.trans c.output, by rw [e]; exact c.size, fun i hi hn => by rw [e]; exact c.block i hi hn⟩⟩
end

/-- In the loop of grow: k things copied to the new row. -/
def GrowRel (ET : Nat) (w : World) (n M : Nat) (xs : List (Int × Bool)) (i : Value) (wr : World) : Prop :=
  ∃ k : Nat, k ≤ n ∧ i = .int .i64 k ∧ ∃ arr', wr.heap[w.heap.size]? = some (.cells arr' ET (0, 0)) ∧ arr'.size = M * 2 ∧ (∀ j x, j < k → xs[j]? = some x → PairAt arr' j x) ∧ Chg (fun _ => False) w wr

theorem GrowRel.start (ET : Nat) (w : World) (n M : Nat) (xs : List (Int × Bool)) (z : Array Value) (m : Nat) : GrowRel ET w n M xs (.int .i64 0) ((w.drewN m).alloc (.cells (madeCells z (M * 2)) ET)) :=
  ⟨0, Nat.zero_le _, rfl, _, heap_new (w.drewN m) _, by simp [madeCells], fun j _ hj => absurd hj (Nat.not_lt_zero _), ((Chg.refl _ w).drewN m).alloc _⟩

theorem GrowRel.step {ET : Nat} {w wr w2 : World} {n M k : Nat} {xs : List (Int × Bool)} {arr' : Array Value} {x : Int × Bool} (hnew : wr.heap[w.heap.size]? = some (.cells arr' ET (0, 0))) (hsz : arr'.size = M * 2) (hcopy : ∀ j x, j < k → xs[j]? = some x → PairAt arr' j x)
    (hchg : Chg (fun _ => False) w wr) (hk : k < n) (hn : n < M) (hx : xs[k]? = some x) (e : w2.heap = ((wr.setCell ⟨w.heap.size, k * 2, none⟩ (.int .i64 x.1)).setCell ⟨w.heap.size, k * 2 + 1, none⟩ (.bool x.2)).heap) (eo : w2.os = wr.os) (et : w2.tape = wr.tape) (ep : w2.output = wr.output) :
    GrowRel ET w n M xs (.int .i64 ((k : Int) + 1)) w2 := by
  have hh := heap_set (heap_set hnew (k * 2) (.int .i64 x.1)) (k * 2 + 1) (.bool x.2)
  have c := (hchg.setCell (p := ⟨w.heap.size, k * 2, none⟩) (.inl (Nat.le_refl _)) (.int .i64 x.1)).setCell (p := ⟨w.heap.size, k * 2 + 1, none⟩) (.inl (Nat.le_refl _)) (.bool x.2)
  refine ⟨k + 1, hk, rfl, _, (congrArg (·[w.heap.size]?) e).trans hh, by simpa using hsz, fun j y hj hy => ?_, ⟨eo.trans c.os, et.trans c.tape, ep.trans c.output, by rw [e]; exact c.size, fun i hi hn => by rw [e]; exact c.block i hi hn⟩⟩
  by_cases hjk : j = k
  · subst hjk
    rw [hx] at hy; cases hy
    exact PairAt.set x (by omega)
  · exact (hcopy j y (by omega) hy).other (fun h => hjk h.symm) _ _

theorem HasQ2.grown {QT ET : Nat} {w wr w' : World} {b g n first M : Nat} {arr arr' : Array Value} {most : Int} {xs : List (Int × Bool)} (h : HasQ2 QT ET w b g n first arr most xs) (hr : xs.length = n) (hM : n < M) (hMm : (M : Int) ≤ most)
    (hnew : wr.heap[w.heap.size]? = some (.cells arr' ET (0, 0))) (hsz : arr'.size = M * 2) (hcopy : ∀ j x, j < n → xs[j]? = some x → PairAt arr' j x) (hchg : Chg (fun _ => False) w wr)
    (e : w'.heap = ((wr.setCell ⟨b, 1, none⟩ (.slice (some ⟨w.heap.size, 0, none⟩) M M)).setCell ⟨b, 2, none⟩ (.int .i64 0)).heap) (eo : w'.os = wr.os) (et : w'.tape = wr.tape) (ep : w'.output = wr.output) :
    HasQ2 QT ET w' b w.heap.size M 0 arr' most xs ∧ Chg (fun k => k = b) w w' := by
  have hb := lt_of w h.hb
  have b1 := heap_set (hchg.at_ h.hb (fun h => h)) 1 (.slice (some ⟨w.heap.size, 0, none⟩) M M)
  have b2 := heap_set b1 2 (.int .i64 0)
  have g2 := ((heap_set_ne (w := wr.setCell ⟨b, 1, none⟩ (.slice (some ⟨w.heap.size, 0, none⟩) M M)) (b := b) (k := w.heap.size) 2 (.int .i64 0) (by omega)).trans (heap_set_ne (w := wr) (b := b) 1 _ (by omega))).trans hnew
  have c := ((hchg.mono (T := fun k => k = b) (fun _ _ h => h.elim)).setCell (p := ⟨b, 1, none⟩) (.inr rfl) (.slice (some ⟨w.heap.size, 0, none⟩) M M)).setCell (p := ⟨b, 2, none⟩) (.inr rfl) (.int .i64 0)
  refine ⟨⟨?_, ?_, by omega, by omega, hMm, h.top, hsz, by omega, by omega, fun i x hx => ?_⟩, ⟨eo.trans c.os, et.trans c.tape, ep.trans c.output, by rw [e]; exact c.size, fun i hi hn => by rw [e]; exact c.block i hi hn⟩⟩
  · rw [e, b2]; simp
  · rw [e, g2]
  · have hi := (List.getElem?_eq_some_iff.1 hx).1
    rw [Nat.zero_add, Nat.mod_eq_of_lt (by omega)]
    exact hcopy i x (by omega) hx
theorem grown_nil {QT ET : Nat} {w w' : World} {b M : Nat} {z : Array Value} {m : Nat} {most : Int} (h : w.heap[b]? = some (.cells #[.int .i64 most, .slice none 0 0, .int .i64 0, .int .i64 0] QT (0, 0))) (hM : 0 < M) (hMm : (M : Int) ≤ most) (h1 : most ≤ 65536)
    (e : w'.heap = ((((w.drewN m).alloc (.cells (madeCells z (M * 2)) ET)).setCell ⟨b, 1, none⟩ (.slice (some ⟨w.heap.size, 0, none⟩) M M)).setCell ⟨b, 2, none⟩ (.int .i64 0)).heap) (eo : w'.os = w.os) (et : w'.tape = w.tape) (ep : w'.output = w.output) :
    HasQ2 QT ET w' b w.heap.size M 0 (madeCells z (M * 2)) most [] ∧ Chg (fun k => k = b) w w' := by
  have hb := lt_of w h
  have h' : (w.drewN m).heap[b]? = some (.cells #[.int .i64 most, .slice none 0 0, .int .i64 0, .int .i64 0] QT (0, 0)) := h
  have b1 := heap_set (heap_old (.cells (madeCells z (M * 2)) ET) h') 1 (.slice (some ⟨w.heap.size, 0, none⟩) M M)
  have b2 := heap_set b1 2 (.int .i64 0)
  have hn : ((w.drewN m).alloc (.cells (madeCells z (M * 2)) ET)).heap[w.heap.size]? = some (.cells (madeCells z (M * 2)) ET) := heap_new (w.drewN m) _
  have g2 := ((heap_set_ne (w := ((w.drewN m).alloc (.cells (madeCells z (M * 2)) ET)).setCell ⟨b, 1, none⟩ (.slice (some ⟨w.heap.size, 0, none⟩) M M)) (b := b) (k := w.heap.size) 2 (.int .i64 0) (by omega)).trans (heap_set_ne (w := (w.drewN m).alloc (.cells (madeCells z (M * 2)) ET)) (b := b) 1 _ (by omega))).trans hn
  have c := ((((Chg.refl (fun k => k = b) w).drewN m).alloc (.cells (madeCells z (M * 2)) ET)).setCell (p := ⟨b, 1, none⟩) (.inr rfl) (.slice (some ⟨w.heap.size, 0, none⟩) M M)).setCell (p := ⟨b, 2, none⟩) (.inr rfl) (.int .i64 0)
  refine ⟨⟨?_, ?_, by omega, by omega, hMm, h1, by simp [madeCells], by omega, Nat.zero_le _, fun i _ hi => by simp at hi⟩, ⟨eo.trans c.os, et.trans c.tape, ep.trans c.output, by rw [e]; exact c.size, fun i hi hn => by rw [e]; exact c.block i hi hn⟩⟩
  · rw [e, b2]; simp
  · rw [e, g2]
end Go.Proofs.Ytmlomceemcbnaaa.Q2
