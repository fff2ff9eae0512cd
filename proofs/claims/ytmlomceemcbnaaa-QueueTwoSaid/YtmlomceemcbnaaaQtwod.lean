/- One step of QueueTwo's second loop, by contract. Conditions: as told. -/
import Derived.Test.YtmlomceemcbnaaaQtwo
import Derived.Laws.Bits128
set_option linter.unusedVariables false
set_option linter.unusedSimpArgs false
namespace Go.Proofs.Ytmlomceemcbnaaa.Qtwod
open Go.RowKit Go.Proofs.Ytmlomceemcbnaaa.Lib1 Go.Proofs.Ytmlomceemcbnaaa.Q Go.Proofs.Ytmlomceemcbnaaa.Qstr Go.Proofs.Ytmlomceemcbnaaa.Qat Go.Proofs.Ytmlomceemcbnaaa.Qdoes Go.Proofs.Ytmlomceemcbnaaa.Qheld Go.Proofs.Ytmlomceemcbnaaa.Qtwo

theorem rowA {w5 : World} {bx g8 i j : Nat} {a b x y : Value} {cc : Array Value} {t : TypeId} (h : w5.heap[g8]? = some (.cells cc t (0, 0))) (hne : g8 ≠ bx) :
    ((((w5.setCell ⟨bx, 0, none⟩ a).setCell ⟨bx, 1, none⟩ b).setCell ⟨g8, i, none⟩ x).setCell ⟨g8, j, none⟩ y).heap[g8]? = ((w5.setCell ⟨g8, i, none⟩ x).setCell ⟨g8, j, none⟩ y).heap[g8]? := by
  have h2 : ((w5.setCell ⟨bx, 0, none⟩ a).setCell ⟨bx, 1, none⟩ b).heap[g8]? = some (.cells cc t (0, 0)) := (heap_set_ne _ _ hne).trans ((heap_set_ne _ _ hne).trans h)
  rw [heap_set (heap_set h2 i x) j y, heap_set (heap_set h i x) j y]
theorem rowB {w5 : World} {g8 i j : Nat} {x y : Value} {cc : Array Value} {t : TypeId} {o : Obj} (h : w5.heap[g8]? = some (.cells cc t (0, 0))) :
    (((w5.setCell ⟨g8, i, none⟩ x).setCell ⟨g8, j, none⟩ y).alloc o).heap[g8]? = ((w5.setCell ⟨g8, i, none⟩ x).setCell ⟨g8, j, none⟩ y).heap[g8]? := by
  have h1 := heap_set (heap_set h i x) j y
  rw [heap_old o h1, h1]
theorem rowC {w5 : World} {g8 i j : Nat} {x y : Value} {cc : Array Value} {t : TypeId} {o : Obj} (h : w5.heap[g8]? = some (.cells cc t (0, 0))) :
    (((w5.alloc o).setCell ⟨g8, i, none⟩ x).setCell ⟨g8, j, none⟩ y).heap[g8]? = ((w5.setCell ⟨g8, i, none⟩ x).setCell ⟨g8, j, none⟩ y).heap[g8]? := by
  rw [heap_set (heap_set (heap_old o h) i x) j y, heap_set (heap_set h i x) j y]

theorem step_two {wz wr w4 : World} {es : List Ent} {g8 c8 g9 c9 m : Nat} {e : Ent} {Av : Option Addr} {cv : Nat} (kd : Int) (s : ByteArray) (hh : Inv wz wr es (.slice (some ⟨g8, 0, none⟩) 2 c8) (.slice (some ⟨g9, 0, none⟩) 2 c9)) (he2 : es.length = 2) (he : es[m]? = some e)
    (hh1 : Inv wz w4 es (.slice (some ⟨g8, 0, none⟩) 2 c8) (.slice (some ⟨g9, 0, none⟩) 2 c9)) (hbx : w4.heap[wr.heap.size]? = some (.cells #[.int .i64 kd, .string s] 72 (0, 0))) (hmem : e ∈ es) (hve : e.v = .slice Av e.ss.length cv) :
    ∀ W, Chg (fun _ => False) w4 W → Calls Try.prog 33 #[.pointer (some ⟨e.b, 0, none⟩), .agg #[.int .i64 e.most, .slice Av e.ss.length cv], .agg #[.int .i64 kd, .string s]] W fun x w' => ∃ A2 c2 l', x = .returned (.tuple #[.bool true, .agg #[.int .i64 e.most, .slice A2 (after e.most e.ss kd s).length c2]]) ∧
              (∀ wf, Chg (fun j => j = g8 ∨ (j = wr.heap.size + 1 ∧ wr.heap.size + 1 < W.heap.size)) w' wf → wf.heap[g8]? = ((w'.setCell ⟨g8, m * 2, none⟩ (.int .i64 e.most)).setCell ⟨g8, m * 2 + 1, none⟩ (.slice A2 (after e.most e.ss kd s).length c2)).heap[g8]? → Inv wz wf (es.set m ⟨e.b, l', e.most, .slice A2 (after e.most e.ss kd s).length c2, after e.most e.ss kd s⟩) (.slice (some ⟨g8, 0, none⟩) 2 c8) (.slice (some ⟨g9, 0, none⟩) 2 c9)) ∧
              (∃ cc t, w'.heap[g8]? = some (.cells cc t (0, 0))) ∧
              (w'.cell? ⟨g9, m, none⟩ = some (.pointer (some ⟨e.b, 0, none⟩)) ∧ w'.cell? ⟨g8, m * 2, none⟩ = some (.int .i64 e.most) ∧ w'.cell? ⟨g8, m * 2 + 1, none⟩ = some (.slice Av e.ss.length cv) ∧ w'.cell? ⟨wr.heap.size, 0, none⟩ = some (.int .i64 kd) ∧ w'.cell? ⟨wr.heap.size, 1, none⟩ = some (.string s)) ∧ (∀ i, w'.frozen? ⟨g8, i, none⟩ = false) ∧ wr.heap.size < w'.heap.size ∧ g8 < w'.heap.size ∧ ∀ (j : Nat) (c : Array Value), wr.heap.size ≤ j → W.heap[j]? = some (.cells c QR (0, 0)) → w'.heap[j]? = some (.cells c QR (0, 0)) := by
  intro W hW
  have hhW := hh1.up hW
  have hg8 := (hhW.o8.lt g8 rfl).2
  have hag := hhW.each e hmem
  rw [hve] at hag
  refine (does_any W _ e.l e.most _ e.ss kd s hag (fun _ h => by cases h)).mono ?_
  rintro x w5 ⟨v', l', rfl, ha, hl, hv, hc⟩
  obtain ⟨A2, c2, rfl, -⟩ := Rd.of_own ha.own.choose_spec
  have hap := hhW.apart e hmem
  have hml : ∀ j, Mine (some ⟨e.b, 0, none⟩) e.l j → j ≠ wr.heap.size := fun j hj => by have := hh.lt hmem j (.inl hj); omega
  have f5 : ∀ j, j < W.heap.size → ¬ Mine (some ⟨e.b, 0, none⟩) e.l j → w5.heap[j]? = W.heap[j]? := fun j h1 h2 => hc.block j h1 h2
  have n8 : ¬ Mine (some ⟨e.b, 0, none⟩) e.l g8 := fun h => (hap g8 (.inl h)).2.1 rfl
  have n9 : ¬ Mine (some ⟨e.b, 0, none⟩) e.l g9 := fun h => (hap g9 (.inl h)).2.2 rfl
  have hg9 := (hhW.o9.lt g9 rfl).2
  have hbW := hW.at_ hbx (fun h => h)
  have nb : ¬ Mine (some ⟨e.b, 0, none⟩) e.l wr.heap.size := fun h => hml _ h rfl
  have hlW := lt_of W hbW
  obtain ⟨-, x0, x1, x2⟩ := hhW.cells8 e he
  obtain ⟨-, x3⟩ := hhW.cells9 e he
  obtain ⟨y0, y1, -, -⟩ := cells2 (hc.at_ hbW nb)
  refine ⟨A2, c2, l', rfl, fun wf hcf hrow => ?_, ?_, ⟨?_, ?_, ?_, y0, y1⟩, fun i => ?_, Nat.lt_of_lt_of_le hlW hc.size, Nat.lt_of_lt_of_le hg8 hc.size, fun j c hj hc' => hc.at_ hc' (fun h => by have := hh.lt hmem j (.inl h); omega)⟩
  · have := Inv.step (g8 := g8) (c8 := c8) (by rw [he2]; exact hhW) e he _ l' _ ha hl (by rw [hve]; exact hv) hc
    rw [he2] at this
    have ne8 : g8 ≠ wr.heap.size + 1 := by have := (hh.o8.lt g8 rfl).2; omega
    have hap8 := this.apart
    refine this.far (S := fun j => j = wr.heap.size + 1 ∧ wr.heap.size + 1 < W.heap.size) ⟨hcf.os, hcf.tape, hcf.output, ?_, fun j hj hn => ?_⟩ (fun j hj h => by have := (hh.o8.lt j hj).2; omega) (fun j hj h => by have := (hh.o9.lt j hj).2; omega) (fun x hx j hj h => ?_) (fun j h => by have := hh.chg.size; omega)
    · simpa [World.setCell] using hcf.size
    · by_cases hj8 : j = g8
      · subst hj8; exact hrow
      · exact ((hcf.block j (by simpa [World.setCell] using hj) (fun h => h.elim hj8 hn)).trans ((heap_set_ne _ _ hj8).trans (heap_set_ne _ _ hj8)).symm)
    · obtain ⟨i, hi⟩ := List.mem_iff_getElem?.1 hx
      rcases set_cases es m i _ x hi with ⟨_, rfl⟩ | ⟨_, hi⟩
      · rcases hj with (hj | hj) | hj
        · have := hh.lt hmem j (.inl (.inl hj)); omega
        · rcases hl with hl | hl
          · have := hh.lt hmem j (.inl (.inr (hl ▸ hj))); omega
          · have := hl j hj.symm; omega
        · rcases hv with hv | hv
          · have := hh.lt hmem j (.inr (by rw [hve]; exact hv ▸ hj)); omega
          · have := hv j hj; omega
      · have := hh.lt (List.mem_of_getElem? hi) j hj; omega
  · rcases hhW.o8.2 with ⟨h, _⟩ | ⟨g', cap', cur', h, _, hg', _⟩
    · cases h
    · simp only [Value.slice.injEq, Option.some.injEq, Addr.mk.injEq] at h; obtain ⟨⟨rfl, _⟩, _⟩ := h; exact ⟨_, _, (f5 g8 hg8 n8).trans hg'⟩
  · exact (World.cell?_of_block (f5 g9 hg9 n9)).trans x3
  · exact (World.cell?_of_block (f5 g8 hg8 n8)).trans x0
  · rw [hve] at x1; exact (World.cell?_of_block (f5 g8 hg8 n8)).trans x1
  · have := x2 i
    simp only [World.frozen?, f5 g8 hg8 n8] at this ⊢
    exact this

end Go.Proofs.Ytmlomceemcbnaaa.Qtwod
