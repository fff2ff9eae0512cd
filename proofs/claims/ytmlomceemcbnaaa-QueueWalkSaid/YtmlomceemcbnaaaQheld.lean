/- For loops over steps: a queue and the reference in a box that agree (Held); how a script reads (Script). Conditions: as told. -/
import Derived.Test.YtmlomceemcbnaaaQdoes2
import Derived.Test.YtmlomceemcbnaaaQfix
import Derived.Test.YtmlomceemcbnaaaRel
set_option linter.unusedVariables false
set_option linter.unusedSimpArgs false
namespace Go.Proofs.Ytmlomceemcbnaaa.Qheld
open Go.RowKit Go.Proofs.Ytmlomceemcbnaaa.Lib1 Go.Proofs.Ytmlomceemcbnaaa.Q Go.Proofs.Ytmlomceemcbnaaa.Qstr Go.Proofs.Ytmlomceemcbnaaa.Qat Go.Proofs.Ytmlomceemcbnaaa.Qdoes Go.Proofs.Ytmlomceemcbnaaa.Rel

abbrev QR : Nat := 25

/-- The parts: the box bx holds the reference's value, which agrees with the queue at p; all made since W. -/
structure HeldAt (W wr : World) (bx : Nat) (p : Option Addr) (most : Int) (l : Option Nat) (v : Value) (ss : List ByteArray) : Prop where
  box : wr.heap[bx]? = some (.cells #[.int .i64 most, v] QR (0, 0))
  agree : Agree wr p l most v ss
  apart : ∀ k, (Mine p l k ∨ v.ownBlock = some k) → W.heap.size ≤ k ∧ k ≠ bx
  low : W.heap.size ≤ bx
  chg : Chg (fun _ => False) W wr
def Held (W wr : World) (bx : Nat) (p : Option Addr) (most : Int) : Prop := ∃ l v ss, HeldAt W wr bx p most l v ss

theorem HeldAt.up {W wr w : World} {bx : Nat} {p : Option Addr} {most : Int} {l : Option Nat} {v : Value} {ss : List ByteArray} (h : HeldAt W wr bx p most l v ss) (c : Chg (fun _ => False) wr w) : HeldAt W w bx p most l v ss :=
  ⟨c.at_ h.box (fun h => h), h.agree.up c, h.apart, h.low, h.chg.trans c (fun _ _ h => h)⟩

/-- Behind a step, the new value laid into the box. -/
theorem HeldAt.step {W w w' wf : World} {bx : Nat} {p : Option Addr} {most : Int} {l l' : Option Nat} {v v' : Value} {ss ss' : List ByteArray} (h : HeldAt W w bx p most l v ss) (ha : Agree w' p l' most v' ss') (hl : Fresh w l l') (hv : Fresh w v.ownBlock v'.ownBlock) (hc : Chg (Mine p l) w w')
    (hf : Chg (fun k => k = bx) w' wf) (hb : wf.heap[bx]? = some (.cells #[.int .i64 most, v'] QR (0, 0))) : HeldAt W wf bx p most l' v' ss' := by
  have hbw := lt_of w h.box
  have hW := h.chg.size
  have hm : ∀ k, (Mine p l' k ∨ v'.ownBlock = some k) → W.heap.size ≤ k ∧ k ≠ bx := by
    rintro k (hk | hk)
    · rcases hl with rfl | hl
      · exact h.apart k (.inl hk)
      · rcases hk with hk | hk
        · exact h.apart k (.inl (.inl hk))
        · have := hl k hk.symm; omega
    · rcases hv with hv | hv
      · exact h.apart k (.inr (hv ▸ hk))
      · have := hv k hk; omega
  refine ⟨hb, ha.kept hf (fun k hk e => (hm k (.inl hk)).2 e) (fun k hk e => (hm k (.inr hk)).2 e), hm, h.low, ?_⟩
  refine (h.chg.trans hc (fun k hk e => ?_)).trans hf (fun k hk e => ?_)
  · have := (h.apart k (.inl e)).1; omega
  · have := h.low; omega

theorem HeldAt.new {W w : World} {bx b : Nat} {most : Int} (h0 : 0 ≤ most) (h1 : most ≤ 65536) (hb : w.heap[bx]? = some (.cells #[.int .i64 most, .slice none 0 0] QR (0, 0))) (hq : IsQ QT ET w b none most []) (hbx : W.heap.size ≤ bx) (hbq : W.heap.size ≤ b) (hne : b ≠ bx) (hc : Chg (fun _ => False) W w) :
    HeldAt W w bx (some ⟨b, 0, none⟩) most none (.slice none 0 0) [] :=
  ⟨hb, ⟨.inr ⟨b, rfl, hq⟩, ⟨0, World.ownsRow_nil _ _ _ _⟩, (fun k hk => by cases hk), h0, h1⟩, (fun k hk => by
    rcases hk with (hk | hk) | hk
    · cases hk; exact ⟨hbq, hne⟩
    · cases hk
    · cases hk), hbx, hc⟩

/-! ### The script -/
abbrev stepK : Kd (Int × ByteArray × Unit) := Kd.pair (Kd.int .i64) (Kd.pair Kd.str Kd.unit)
structure Script (W : World) (A : Option Addr) (n : Nat) (f : Nat → Int × ByteArray) : Prop where
  small : n * 24 ≤ 140737488351232
  at_ : ∀ i, i < n → ∃ g off, A = some ⟨g, off, none⟩ ∧ g < W.heap.size ∧ W.cell? ⟨g, off + i * 2, none⟩ = some (.int .i64 (f i).1) ∧ W.cell? ⟨g, off + i * 2 + 1, none⟩ = some (.string (f i).2)

theorem script_of {W : World} {A : Option Addr} {n c : Nat} {y : List (Int × ByteArray × Unit)} (h : (Kd.slice 24 stepK).rel (fun k => k < W.heap.size) W y [.slice A n c]) (hf : (Kd.slice 24 stepK).fits y) : ∃ f, Script W A n f := by
  obtain ⟨A', c', cells, e, hr, he⟩ := h
  simp only [List.cons.injEq, Value.slice.injEq, and_true] at e
  obtain ⟨rfl, rfl, rfl⟩ := e
  refine ⟨fun i => ((y[i]?.getD (0, ⟨#[]⟩, ())).1, (y[i]?.getD (0, ⟨#[]⟩, ())).2.1), hf.1, fun i hi => ?_⟩
  obtain ⟨g, off, rfl, hg, hc⟩ := hr.at_ (by omega)
  have hx : y[i]? = some y[i] := List.getElem?_eq_getElem hi
  obtain ⟨c1, c2, e1, e2, c3, c4, e3, e4, e5⟩ := he i _ hx
  replace e2 : c1 = [.int .i64 y[i].1] := e2
  replace e4 : c3 = [.string y[i].2.1] := e4
  replace e5 : c4 = [] := e5
  subst e5 e4 e2
  subst e3
  have d0 : (cells.drop (i * 2)).take 2 = [.int .i64 y[i].1, .string y[i].2.1] := e1
  have g0 : cells[i * 2]? = some (.int .i64 y[i].1) := by
    have := congrArg (·[0]?) d0
    simpa [List.getElem?_take, List.getElem?_drop] using this
  have g1 : cells[i * 2 + 1]? = some (.string y[i].2.1) := by
    have := congrArg (·[1]?) d0
    simpa [List.getElem?_take, List.getElem?_drop] using this
  have r0 := hc _ _ g0
  have r1 := hc _ _ g1
  refine ⟨g, off, rfl, hg, ?_, ?_⟩
  · simpa [hx] using r0
  · rw [Nat.add_assoc]; simpa [hx] using r1

theorem opens_step : Opens Try.prog 72 stepK := by
  apply opens_struct Try.underlying72 (by kernel_rfl)
  apply opensF_cons (a := Kd.int .i64) (b := Kd.pair Kd.str Kd.unit)
  · rfl
  · kernel_rfl
  · exact opens_int Try.underlying3
  apply opensF_cons (a := Kd.str) (b := Kd.unit)
  · rfl
  · kernel_rfl
  · exact opens_str Try.underlying9
  exact opensF_nil _
theorem opens_script : Opens Try.prog 70 (Kd.slice 24 stepK) :=
  opens_slice (e := 72) Try.underlying70 (by kernel_rfl) (by decide) (by kernel_rfl) opens_step
end Go.Proofs.Ytmlomceemcbnaaa.Qheld
