/- The law's does: at a queue and the reference that agree. Conditions: they agree. -/
import Derived.Test.YtmlomceemcbnaaaQat
import Derived.Deep.RegionWith
import Derived.StillTailTactics
import Derived.Deep.RegionHeld3
set_option linter.unusedVariables false
set_option linter.unusedSimpArgs false
namespace Go.Proofs.Ytmlomceemcbnaaa.Qdoes
open Go.RowKit Go.Proofs.Ytmlomceemcbnaaa.Lib1 Go.Proofs.Ytmlomceemcbnaaa.Q Go.Proofs.Ytmlomceemcbnaaa.Qstr Go.Proofs.Ytmlomceemcbnaaa.Qat

/-- The queue and the reference's value agree: both hold ss. -/
structure Agree (w : World) (p : Option Addr) (l : Option Nat) (most : Int) (v : Value) (ss : List ByteArray) : Prop where
  q : QAt w p l most (enc ss)
  own : ∃ base, w.ownsRow base ET 1 v ss.length (enc ss)
  apart : ∀ k, v.ownBlock = some k → ¬ Mine p l k
  few : (ss.length : Int) ≤ most
  size : most ≤ 65536

theorem Agree.kept {S : Nat → Prop} {w w' : World} {p : Option Addr} {l : Option Nat} {most : Int} {v : Value} {ss : List ByteArray} (h : Agree w p l most v ss) (c : Chg S w w') (hS : ∀ k, Mine p l k → ¬ S k) (hv : ∀ k, v.ownBlock = some k → ¬ S k) : Agree w' p l most v ss :=
  ⟨h.q.kept c hS, by obtain ⟨base, h1⟩ := h.own; exact ⟨base, own_chg c h1 hv⟩, h.apart, h.few, h.size⟩
theorem Agree.lt {w : World} {p : Option Addr} {l : Option Nat} {most : Int} {v : Value} {ss : List ByteArray} (h : Agree w p l most v ss) : ∀ k, (Mine p l k ∨ v.ownBlock = some k) → k < w.heap.size := by
  rintro k (hk | hk)
  · exact h.q.lt k hk
  · obtain ⟨base, h1⟩ := h.own; exact (h1.lt k hk).2
theorem Agree.up {w w' : World} {p : Option Addr} {l : Option Nat} {most : Int} {v : Value} {ss : List ByteArray} (h : Agree w p l most v ss) (c : Chg (fun _ => False) w w') : Agree w' p l most v ss := h.kept c (fun _ _ h => h) (fun _ _ h => h)

/-- What a step makes of the list. -/
def after (most : Int) (ss : List ByteArray) (kind : Int) (s : ByteArray) : List ByteArray :=
  if kind = 0 then (if (ss.length : Int) < most then ss ++ [s] else ss) else if kind = 1 then ss.tail else if kind = 5 then [] else ss

def Post (w : World) (p : Option Addr) (l : Option Nat) (most : Int) (v : Value) (ss : List ByteArray) (e : Ending) (w' : World) : Prop :=
  ∃ v' l', e = .returned (.tuple #[.bool true, .agg #[.int .i64 most, v']]) ∧ Agree w' p l' most v' ss ∧ Fresh w l l' ∧ Fresh w v.ownBlock v'.ownBlock ∧ Chg (Mine p l) w w'

/-- Three boxes laid. -/
theorem boxes (w : World) (o1 o2 o3 : Obj) : ∃ w0, ((w.alloc o1).alloc o2).alloc o3 = w0 ∧ w0.heap[w.heap.size]? = some o1 ∧ w0.heap[w.heap.size + 1]? = some o2 ∧ w0.heap[w.heap.size + 2]? = some o3 ∧ w0.heap.size = w.heap.size + 3 ∧ Chg (fun _ => False) w w0 :=
  ⟨_, rfl, heap_old _ (heap_old _ (heap_new w _)), heap_old _ (heap_new' _ _ (by simp)), heap_new' _ _ (by simp), by simp, (((Chg.refl _ w).alloc _).alloc _).alloc _⟩

theorem cell_two {W : World} {b c i : Nat} {x u u' : Value} (h : W.cell? ⟨b, i, none⟩ = some x) (hne : b ≠ c) : ((W.setCell ⟨c, 0, none⟩ u).setCell ⟨c, 1, none⟩ u').drew.cell? ⟨b, i, none⟩ = some x := by
  refine (World.cell?_of_block ?_).trans h
  exact (heap_set_ne _ _ hne).trans (heap_set_ne _ _ hne)
/-- The boxes' cells. -/
theorem cells2 {w : World} {b : Nat} {u v : Value} {t : TypeId} (h : w.heap[b]? = some (.cells #[u, v] t (0, 0))) : w.cell? ⟨b, 0, none⟩ = some u ∧ w.cell? ⟨b, 1, none⟩ = some v ∧ w.frozen? ⟨b, 0, none⟩ = false ∧ w.frozen? ⟨b, 1, none⟩ = false :=
  ⟨cell_at h 0 rfl, cell_at h 1 rfl, free_at h 0, free_at h 1⟩

theorem Post.done {w w2 wf : World} {p : Option Addr} {l l' : Option Nat} {most : Int} {v v' : Value} {ss ss' : List ByteArray} (h : Agree w p l most v ss) (w0 : World) (bx : Nat) (hbx : w.heap.size ≤ bx) (hb0 : bx < w0.heap.size) (h02 : w0.heap.size ≤ w2.heap.size)
    (hf1 : Fresh w0 v.ownBlock v'.ownBlock) (hf2 : Fresh w2 l l') (ho : ∃ base, w2.ownsRow base ET 1 v' ss'.length (enc ss')) (hc2 : Chg (fun _ => False) w w2) (hq3 : QAt wf p l' most (enc ss')) (hc3 : Chg (fun k => Mine p l k ∨ k = bx) w2 wf) (few : (ss'.length : Int) ≤ most) :
    Post w p l most v ss' (.returned (.tuple #[.bool true, .agg #[.int .i64 most, v']])) wf := by
  have hlt := fun k (hk : Mine p l k) => h.lt k (.inl hk)
  have hvl := fun k (hk : v.ownBlock = some k) => h.lt k (.inr hk)
  obtain ⟨base, ho⟩ := ho
  have hv : ∀ k, v'.ownBlock = some k → (v.ownBlock = some k ∨ w0.heap.size ≤ k) ∧ k < w2.heap.size := fun k hk => ⟨by
    rcases hf1 with hf | hf
    · exact .inl (hf ▸ hk)
    · exact .inr (hf k hk), (ho.lt k hk).2⟩
  have hm : ∀ k, Mine p l' k → Mine p l k ∨ w2.heap.size ≤ k := fun k hk => by
    rcases hf2 with rfl | hf
    · exact .inl hk
    · rcases hk with hk | hk
      · exact .inl (.inl hk)
      · exact .inr (hf k hk.symm)
  have hvm : ∀ k, v'.ownBlock = some k → ¬ Mine p l k := fun k hk hk2 => by
    have := hlt k hk2
    rcases (hv k hk).1 with h1 | h1
    · exact h.apart k h1 hk2
    · omega
  refine ⟨v', l', rfl, ⟨hq3, ⟨base, own_chg hc3 ho (fun k hk e => ?_)⟩, fun k hk hk2 => ?_, few, h.size⟩, ?_, ?_, ?_⟩
  · rcases e with e | e
    · exact hvm k hk e
    · subst e
      rcases (hv k hk).1 with h1 | h1
      · have := hvl k h1; omega
      · omega
  · rcases hm k hk2 with h1 | h1
    · exact hvm k hk h1
    · have := (hv k hk).2; omega
  · rcases hf2 with h1 | h1
    · exact .inl h1
    · exact .inr (fun g hg => Nat.le_trans hc2.size (h1 g hg))
  · rcases hf1 with h1 | h1
    · exact .inl h1
    · exact .inr (fun g hg => by have := h1 g hg; omega)
  · refine (hc2.mono (T := fun k => Mine p l k) (fun _ _ h => h.elim)).trans hc3 (fun k hk e => ?_)
    rcases e with e | e
    · exact e
    · omega
/-- Behind the store of the result. -/
theorem stored {w2 w3 : World} {p : Option Addr} {l l' : Option Nat} {most : Int} {xs : List Value} (bx : Nat) (hq3 : QAt w3 p l' most xs) (hc3 : Chg (fun k => Mine p l k ∨ k = bx) w2 w3) (hm : ∀ k, Mine p l' k → k ≠ bx) (u u' : Value) :
    QAt (((w3.setCell ⟨bx, 0, none⟩ u).setCell ⟨bx, 1, none⟩ u').drew) p l' most xs ∧ Chg (fun k => Mine p l k ∨ k = bx) w2 (((w3.setCell ⟨bx, 0, none⟩ u).setCell ⟨bx, 1, none⟩ u').drew) := by
  have cs : Chg (fun k => k = bx) w3 (((w3.setCell ⟨bx, 0, none⟩ u).setCell ⟨bx, 1, none⟩ u').drew) := (((Chg.refl (fun k => k = bx) w3).set (.inr rfl)).set (.inr rfl)).drew
  exact ⟨hq3.kept cs hm, hc3.trans cs (fun k _ e => .inr e)⟩
/-- What is the queue's own behind a call lies apart from the boxes. -/
theorem mine_ne {w w2 : World} {p : Option Addr} {l l' : Option Nat} (bx : Nat) (hlt : ∀ k, Mine p l k → k < w.heap.size) (hbx : w.heap.size ≤ bx) (hb2 : bx < w2.heap.size) (hf2 : Fresh w2 l l') : ∀ k, Mine p l' k → k ≠ bx := by
  rintro k hk rfl
  rcases hf2 with rfl | hf
  · have := hlt k hk; omega
  · rcases hk with hk | hk
    · have := hlt k (.inl hk); omega
    · have := hf k hk.symm; omega
set_option maxRecDepth 100000 in
theorem does_pop (w : World) (p : Option Addr) (l : Option Nat) (most : Int) (v : Value) (ss : List ByteArray) (s : ByteArray) (h : Agree w p l most v ss) :
    Calls Try.prog 33 #[.pointer p, .agg #[.int .i64 most, v], .agg #[.int .i64 1, .string s]] w (Post w p l most v ss.tail) := by
  obtain ⟨base, ho⟩ := h.own
  obtain ⟨A, c, rfl, -⟩ := Rd.of_own ho
  obtain ⟨w0, e0, b0, b1, b2, hs0, hc0⟩ := boxes w (.cells #[.int .i64 most, .slice A ss.length c] 25) (.cells #[.int .i64 1, .string s] 72) (.cells #[.int .i64 0, .slice none 0 0] 25)
  have H0 := h.up hc0
  obtain ⟨k00, k01, -, -⟩ := cells2 b0
  obtain ⟨k10, k11, -, -⟩ := cells2 b1
  have hq := h.few
  have hz := h.size
  have HR := Lib.hid (ref_pop most (.slice A ss.length c) ss w0 base (own_chg hc0 ho (fun _ _ h => h)) (by omega))
  have H := Lib.hid h
  have HH0 := Lib.hid H0
  clear h H0 ho
  go_enter Try.func33, Try.ntmps33
  go_wp2_with fail
  refine HR.out.mono ?_
  rintro e w1 ⟨v', rfl, ho1, hf1, hc1⟩
  obtain ⟨base1, ho1⟩ := ho1
  obtain ⟨A1, c1, rfl, -⟩ := Rd.of_own ho1
  have H1 := Lib.hid ho1
  clear ho1
  obtain ⟨w2, e2⟩ : ∃ w2, w1.alloc (.cells #[.int .i64 most, .slice A1 (ss.length - 1) c1] 25) = w2 := ⟨_, rfl⟩
  have hc2 : Chg (fun _ => False) w0 w2 := by rw [← e2]; exact hc1.alloc _
  have b12 : w2.heap[w1.heap.size]? = some (.cells #[.int .i64 most, .slice A1 (ss.length - 1) c1] 25 (0, 0)) := by rw [← e2]; exact heap_new w1 _
  have hlt : ∀ k, Mine p l k → k < w.heap.size := fun k hk => H.out.lt k (.inl hk)
  have hs1 := hc1.size
  go_wp2_with fail
  refine (pop_at w2 p l most ss (HH0.out.up hc2).q).mono ?_
  rintro e w3 ⟨rfl, hq3, hc3⟩
  have g2 := hc3.at_ (hc2.at_ b2 (fun h => h)) (fun h => by have := hlt _ h; omega)
  have g12 := hc3.at_ b12 (fun h => by have := hlt _ h; omega)
  obtain ⟨m0, m1, m2, m3⟩ := cells2 g2
  obtain ⟨n0, n1, -, -⟩ := cells2 g12
  have HD := Lib.hid (And.intro H.out (And.intro (Nat.le_trans hs1 (by rw [← e2]; simp : w1.heap.size ≤ w2.heap.size)) (And.intro hf1 (And.intro (⟨base1, by rw [← e2]; exact H1.out.alloc _⟩ : ∃ base, w2.ownsRow base ET 1 (.slice A1 ss.tail.length c1) ss.tail.length (enc ss.tail)) (And.intro (hc0.trans hc2 (fun _ _ h => h)) (And.intro hq3 hc3))))))
  clear hf1 b0 b1 b2 k00 k01 k10 k11 e0 e2 b12 hlt hs1 hc0 hc1 hc2 hc3 hq3 HH0 HR H1 H
  go_wp2_with fail
  go_region
  go_wp2
  refine bodyPost_ret (v := .tuple #[.bool true,   .agg #[.int .i64 most, .slice A1 ss.tail.length c1]]) (by simp [results, Try.results33, go_sem, *]) rfl ?_
  have D := HD.out
  have hlt := fun k (hk : Mine p l k) => D.1.lt k (.inl hk)
  have Z := stored (l := l) (w.heap.size + 2) D.2.2.2.2.2.1 (D.2.2.2.2.2.2.mono (fun _ _ h => .inl h)) (fun k hk => by have := hlt k hk; omega) (.int .i64 most) (.slice A1 (ss.length - 1) c1)
  exact Post.done D.1 w0 (w.heap.size + 2) (by omega) (by omega) D.2.1 D.2.2.1 (.inl rfl) D.2.2.2.1 D.2.2.2.2.1 Z.1 Z.2 (by rw [List.length_tail]; omega)

set_option maxRecDepth 100000 in
theorem does_first (w : World) (p : Option Addr) (l : Option Nat) (most : Int) (v : Value) (ss : List ByteArray) (s : ByteArray) (h : Agree w p l most v ss) :
    Calls Try.prog 33 #[.pointer p, .agg #[.int .i64 most, v], .agg #[.int .i64 2, .string s]] w (Post w p l most v ss) := by
  obtain ⟨base, ho⟩ := h.own
  obtain ⟨A, c, rfl, hrd⟩ := Rd.of_own ho
  obtain ⟨w0, e0, b0, b1, b2, hs0, hc0⟩ := boxes w (.cells #[.int .i64 most, .slice A ss.length c] 25) (.cells #[.int .i64 2, .string s] 72) (.cells #[.int .i64 0, .slice none 0 0] 25)
  have H0 := h.up hc0
  have ho0 := own_chg hc0 ho (fun _ _ h => h)
  obtain ⟨k00, k01, -, -⟩ := cells2 b0
  obtain ⟨k10, k11, -, -⟩ := cells2 b1
  obtain ⟨k20, k21, k22, k23⟩ := cells2 b2
  have hq := h.few
  have hz := h.size
  have hlt : ∀ k, Mine p l k → k < w.heap.size := fun k hk => h.lt k (.inl hk)
  have HR := Lib.hid (ref_first most (.slice A ss.length c) ss w0 base ho0)
  have H := Lib.hid h
  have HH0 := Lib.hid H0
  have HO := Lib.hid ho0
  clear h H0 ho ho0 hrd
  go_enter Try.func33, Try.ntmps33
  go_wp2_with fail
  refine HR.out.mono ?_
  rintro e w1 ⟨rfl, hc1⟩
  go_wp2_with fail
  refine (first_at w1 p l most ss (HH0.out.up hc1).q).mono ?_
  rintro e w3 ⟨rfl, hc3⟩
  have hc4 := hc1.trans hc3 (fun _ _ h => h)
  have g2 := hc4.at_ b2 (fun h => h)
  have g0 := hc4.at_ b0 (fun h => h)
  obtain ⟨m0, m1, m2, m3⟩ := cells2 g2
  obtain ⟨n0, n1, -, -⟩ := cells2 g0
  have HC := Lib.hid hc4
  have HC0 := Lib.hid hc0
  have HX := Lib.hid (hc0.trans hc4 (fun _ _ h => h))
  clear b0 b1 b2 k00 k01 k10 k11 k20 k21 k22 k23 e0 hlt hc0 hc1 hc3 hc4 HR g2 g0
  go_wp2_with fail
  go_region
  go_wp2
  refine bodyPost_ret (v := .tuple #[.bool true, .agg #[.int .i64 most, .slice A ss.length c]]) (by simp [results, Try.results33, go_sem, *]) rfl ?_
  have hlt := fun k (hk : Mine p l k) => H.out.lt k (.inl hk)
  have Z := stored (l := l) (w.heap.size + 2) (HH0.out.up HC.out).q (Chg.refl _ _) (fun k hk => by have := hlt k hk; omega) (.int .i64 most) (.slice A ss.length c)
  exact Post.done H.out w0 (w.heap.size + 2) (by omega) (by omega) HC.out.size (.inl rfl) (.inl rfl) ⟨base, own_chg HC.out HO.out (fun _ _ h => h)⟩ HX.out Z.1 Z.2 hq

set_option maxRecDepth 100000 in
theorem does_other (w : World) (p : Option Addr) (l : Option Nat) (most : Int) (v : Value) (ss : List ByteArray) (s : ByteArray) (h : Agree w p l most v ss) (kind : Int) (h0 : kind ≠ 0) (h1 : kind ≠ 1) (h2 : kind ≠ 2) (h3 : kind ≠ 3) (h4 : kind ≠ 4) (h5 : kind ≠ 5) :
    Calls Try.prog 33 #[.pointer p, .agg #[.int .i64 most, v], .agg #[.int .i64 kind, .string s]] w (Post w p l most v ss) := by
  obtain ⟨base, ho⟩ := h.own
  obtain ⟨A, c, rfl, hrd⟩ := Rd.of_own ho
  obtain ⟨w0, e0, b0, b1, b2, hs0, hc0⟩ := boxes w (.cells #[.int .i64 most, .slice A ss.length c] 25) (.cells #[.int .i64 kind, .string s] 72) (.cells #[.int .i64 0, .slice none 0 0] 25)
  have H0 := h.up hc0
  have ho0 := own_chg hc0 ho (fun _ _ h => h)
  obtain ⟨k00, k01, -, -⟩ := cells2 b0
  obtain ⟨k10, k11, -, -⟩ := cells2 b1
  obtain ⟨k20, k21, k22, k23⟩ := cells2 b2
  have hq := h.few
  have hz := h.size
  have hlt : ∀ k, Mine p l k → k < w.heap.size := fun k hk => h.lt k (.inl hk)
  have H := Lib.hid h
  have HO := Lib.hid ho0
  have HH0 := Lib.hid H0
  have HC0 := Lib.hid hc0
  have x0 : (kind == 0) = false := by simpa using h0
  have x1 : (kind == 1) = false := by simpa using h1
  have x2 : (kind == 2) = false := by simpa using h2
  have x3 : (kind == 3) = false := by simpa using h3
  have x4 : (kind == 4) = false := by simpa using h4
  have x5 : (kind == 5) = false := by simpa using h5
  clear h H0 ho ho0 hrd hlt b0 b1 b2 hc0
  go_enter Try.func33, Try.ntmps33
  go_wp2_with fail
  go_region
  go_wp2
  refine bodyPost_ret (v := .tuple #[.bool true, .agg #[.int .i64 most, .slice A ss.length c]]) (by simp [results, Try.results33, go_sem, *]) rfl ?_
  have hlt := fun k (hk : Mine p l k) => H.out.lt k (.inl hk)
  have Z := stored (l := l) (w.heap.size + 2) HH0.out.q (Chg.refl _ _) (fun k hk => by have := hlt k hk; omega) (.int .i64 most) (.slice A ss.length c)
  exact Post.done H.out w0 (w.heap.size + 2) (by omega) (by omega) (Nat.le_refl _) (.inl rfl) (.inl rfl) ⟨base, HO.out⟩ HC0.out Z.1 Z.2 hq

set_option maxRecDepth 100000 in
set_option maxHeartbeats 8000000 in
theorem does_len (w : World) (p : Option Addr) (l : Option Nat) (most : Int) (v : Value) (ss : List ByteArray) (s : ByteArray) (h : Agree w p l most v ss) :
    Calls Try.prog 33 #[.pointer p, .agg #[.int .i64 most, v], .agg #[.int .i64 3, .string s]] w (Post w p l most v ss) := by
  obtain ⟨base, ho⟩ := h.own
  obtain ⟨A, c, rfl, hrd⟩ := Rd.of_own ho
  obtain ⟨w0, e0, b0, b1, b2, hs0, hc0⟩ := boxes w (.cells #[.int .i64 most, .slice A ss.length c] 25) (.cells #[.int .i64 3, .string s] 72) (.cells #[.int .i64 0, .slice none 0 0] 25)
  have H0 := h.up hc0
  have ho0 := own_chg hc0 ho (fun _ _ h => h)
  obtain ⟨k00, k01, -, -⟩ := cells2 b0
  obtain ⟨k10, k11, -, -⟩ := cells2 b1
  obtain ⟨k20, k21, k22, k23⟩ := cells2 b2
  have hq := h.few
  have hz := h.size
  have hlt : ∀ k, Mine p l k → k < w.heap.size := fun k hk => h.lt k (.inl hk)
  have H := Lib.hid h
  have HO := Lib.hid ho0
  have HH0 := Lib.hid H0
  have HC0 := Lib.hid hc0
  have HL : Hid (∀ W, Chg (fun k => k = w.heap.size + 2) w0 W → Calls Try.prog 17 #[.pointer p] W fun e w' => e = .returned (.int .i64 (ss.length : Int)) ∧ W = w') := fun W hW => len_at W p l most ss (H0.q.kept hW (fun k hk e => by have := hlt k hk; omega))
  clear h H0 ho ho0 hrd hlt b0 b1 b2 hc0
  go_enter Try.func33, Try.ntmps33
  go_wp2_with fail
  go_region_held3 (fun w' => w'.cell? ⟨w.heap.size, 0, none⟩ = some (.int .i64 most) ∧ w'.cell? ⟨w.heap.size, 1, none⟩ = some (.slice A ss.length c)) (first | (refine ⟨cell_two ?_ ?_, cell_two ?_ ?_⟩; all_goals (first | assumption | omega)) | go_keep)
    ((go_at_call 17; refine (HL.out _ ?_).mono ?_; (repeat' (first | exact Chg.refl _ _ | refine Chg.drew ?_ | refine Chg.set ?_ (.inr rfl))); rintro e w' ⟨rfl, rfl⟩))
  go_wp2
  refine bodyPost_ret (v := .tuple #[.bool true, .agg #[.int .i64 most, .slice A ss.length c]]) (by simp [results, Try.results33, go_sem, *]) rfl ?_
  have hlt := fun k (hk : Mine p l k) => H.out.lt k (.inl hk)
  have Z := stored (l := l) (w.heap.size + 2) HH0.out.q (Chg.refl _ _) (fun k hk => by have := hlt k hk; omega) (.int .i64 most) (.slice A ss.length c)
  exact Post.done H.out w0 (w.heap.size + 2) (by omega) (by omega) (Nat.le_refl _) (.inl rfl) (.inl rfl) ⟨base, HO.out⟩ HC0.out Z.1 Z.2 hq
end Go.Proofs.Ytmlomceemcbnaaa.Qdoes
