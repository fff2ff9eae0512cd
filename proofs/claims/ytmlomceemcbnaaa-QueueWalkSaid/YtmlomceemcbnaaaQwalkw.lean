/- QueueWalk returns true. Conditions: what is handed in reads. -/
import Derived.Test.YtmlomceemcbnaaaQwalkl
set_option linter.unusedVariables false
set_option linter.unusedSimpArgs false
namespace Go.Proofs.Ytmlomceemcbnaaa.Qwalkw
open Go.RowKit Go.Shelf Go.Proofs.Ytmlomceemcbnaaa.Lib1 Go.Proofs.Ytmlomceemcbnaaa.Q Go.Proofs.Ytmlomceemcbnaaa.Qstr Go.Proofs.Ytmlomceemcbnaaa.Qat Go.Proofs.Ytmlomceemcbnaaa.Qdoes Go.Proofs.Ytmlomceemcbnaaa.Qheld Go.Proofs.Ytmlomceemcbnaaa.Iter Go.Proofs.Ytmlomceemcbnaaa.Qwalk
attribute [local go_sem] Oper.semAt_some

theorem strs_of {W : World} {A : Option Addr} {n c : Nat} {y : List ByteArray} (h : (Rel.Kd.slice 16 Rel.Kd.str).rel (fun k => k < W.heap.size) W y [.slice A n c]) : n = y.length ∧ Rd (fun k => k < W.heap.size) W A n c 1 (enc y) := by
  obtain ⟨A', c', cells, e, hr, he⟩ := h
  simp only [List.cons.injEq, Value.slice.injEq, and_true] at e
  obtain ⟨rfl, rfl, rfl⟩ := e
  refine ⟨rfl, ?_⟩
  have hl : cells.length = y.length := by have := hr.len; simpa [Rel.Kd.str] using this
  have : cells = enc y := by
    refine List.ext_getElem? fun i => ?_
    by_cases hi : i < y.length
    · have h1 : (cells.drop (i * 1)).take 1 = [.string y[i]] := he i _ (List.getElem?_eq_getElem hi)
      have h2 := congrArg (·[0]?) h1
      simp only [Nat.mul_one, List.getElem?_take, List.getElem?_drop] at h2
      simpa [hi] using h2
    · rw [List.getElem?_eq_none (by omega), List.getElem?_eq_none (by simp; omega)]
  rw [this] at hr
  exact hr

/-- The boxes of what was handed in, and of the result. -/
structure Bx (w W : World) (A : Option Addr) (n c : Nat) (at_ stop : Int) (B : Option Addr) (m d : Nat) : Prop where
  b0 : W.heap[w.heap.size]? = some (.cells #[.slice A n c] 23 (0, 0))
  b1 : W.heap[w.heap.size + 1]? = some (.cells #[.int .i64 at_] 3 (0, 0))
  b2 : W.heap[w.heap.size + 2]? = some (.cells #[.int .i64 stop] 3 (0, 0))
  b3 : W.heap[w.heap.size + 3]? = some (.cells #[.slice B m d] 70 (0, 0))
  b4 : W.heap[w.heap.size + 4]? = some (.cells #[.bool false] 4 (0, 0))
section
variable {w W W' : World} {A : Option Addr} {n c : Nat} {at_ stop : Int} {B : Option Addr} {m d : Nat}
theorem Bx.kept {S : Nat → Prop} (h : Bx w W A n c at_ stop B m d) (hc : Chg S W W') (hS : ∀ k, w.heap.size ≤ k → k < w.heap.size + 5 → ¬ S k) : Bx w W' A n c at_ stop B m d :=
  ⟨hc.at_ h.b0 (hS _ (by omega) (by omega)), hc.at_ h.b1 (hS _ (by omega) (by omega)), hc.at_ h.b2 (hS _ (by omega) (by omega)), hc.at_ h.b3 (hS _ (by omega) (by omega)), hc.at_ h.b4 (hS _ (by omega) (by omega))⟩
theorem Bx.up (h : Bx w W A n c at_ stop B m d) (hc : Chg (fun _ => False) W W') : Bx w W' A n c at_ stop B m d := h.kept hc (fun _ _ _ h => h)
theorem Bx.cells (h : Bx w W A n c at_ stop B m d) : W.cell? ⟨w.heap.size, 0, none⟩ = some (.slice A n c) ∧ W.cell? ⟨w.heap.size + 1, 0, none⟩ = some (.int .i64 at_) ∧ W.cell? ⟨w.heap.size + 1 + 1, 0, none⟩ = some (.int .i64 stop) ∧ W.cell? ⟨w.heap.size + 1 + 1 + 1, 0, none⟩ = some (.slice B m d) ∧
    W.cell? ⟨w.heap.size + 1 + 1 + 1 + 1, 0, none⟩ = some (.bool false) ∧ W.frozen? ⟨w.heap.size + 1 + 1 + 1 + 1, 0, none⟩ = false :=
  ⟨cell_at h.b0 0 rfl, cell_at h.b1 0 rfl, cell_at h.b2 0 rfl, cell_at h.b3 0 rfl, cell_at h.b4 0 rfl, free_at h.b4 0⟩
theorem bx_new (w : World) (A : Option Addr) (n c : Nat) (at_ stop : Int) (B : Option Addr) (m d : Nat) : ∃ w0, ((((w.alloc (.cells #[.slice A n c] 23)).alloc (.cells #[.int .i64 at_] 3)).alloc (.cells #[.int .i64 stop] 3)).alloc (.cells #[.slice B m d] 70)).alloc (.cells #[.bool false] 4) = w0 ∧
    Bx w w0 A n c at_ stop B m d ∧ w0.heap.size = w.heap.size + 5 ∧ Chg (fun _ => False) w w0 :=
  ⟨_, rfl, ⟨heap_old _ (heap_old _ (heap_old _ (heap_old _ (heap_new w _)))), heap_old _ (heap_old _ (heap_old _ (heap_new' _ _ (by simp)))), heap_old _ (heap_old _ (heap_new' _ _ (by simp))), heap_old _ (heap_new' _ _ (by simp)), heap_new' _ _ (by simp)⟩, by simp, (((((Chg.refl _ w).alloc _).alloc _).alloc _).alloc _).alloc _⟩
end

set_option maxRecDepth 100000 in
set_option maxHeartbeats 4000000 in
theorem walk_many (A : Option Addr) (n c : Nat) (at_ stop : Int) (B : Option Addr) (m d : Nat) (w : World) (hn : 64 < n) :
    CallsIn Fence.wide 9 Try.prog 11 #[.slice A n c, .int .i64 at_, .int .i64 stop, .slice B m d] w fun e w' => e = .returned (.bool true) ∧ Below w.heap.size w w' := by
  refine callsIn_of_wp_marks Try.func11 rfl trivial ?_ rfl
  simp only [Try.ntmps11, List.size_toArray, List.length_cons, List.length_nil, Nat.reduceAdd, Nat.reduceSub, Array.replicate_succ, Array.replicate_zero, List.push_toArray, List.append_toArray, List.nil_append, List.cons_append]
  obtain ⟨w0, e0, hb, hs0, hc0⟩ := bx_new w A n c at_ stop B m d
  gi_wp2_with fail
  refine ⟨trivial, (callsIn_wide.2 (Qfix.fixed_any w0)).mono ?_⟩
  rintro e w1 ⟨rfl, c1⟩
  obtain ⟨k0, k1, k2, k3, k4, k5⟩ := (hb.up c1).cells
  have hb1 := (hb.up c1).b4
  have hlt : (64 : Int) < (n : Int) := by omega
  gi_wp2
  refine ⟨.bool true, ?_, rfl, ?_⟩
  · have := cell_at (heap_set hb1 0 (.bool true)) 0 rfl
    simp [results, Try.f11, go_sem, *]
  · exact (((hc0.trans c1 (fun _ _ h => h)).set (.inl (by omega)))).below

/-- While all is walked: the queue and the reference agree, nn told; the boxes stay. -/
structure WI (w w1 : World) (b bx wa : Nat) (A : Option Addr) (n c : Nat) (at_ stop : Int) (B : Option Addr) (m d : Nat) (nn : Nat) (W : World) : Prop where
  held : ∃ l v ss, HeldAt w1 W bx (some ⟨b, 0, none⟩) 64 l v ss ∧ Off b bx (wa + 1) l v
  cnt : W.heap[wa + 1]? = some (.cells #[.int .i64 (nn : Int)] 3 (0, 0))
  sep : ∀ k, fp b bx (wa + 1) W k → b ≤ k ∧ k ≠ b + 1 ∧ k ≠ wa
  bxs : Bx w W A n c at_ stop B m d
  p9 : W.heap[b + 1]? = some (.cells #[.pointer (some ⟨b, 0, none⟩)] 28 (0, 0))
  pa : W.heap[wa]? = some (.cells #[.pointer (some ⟨b, 0, none⟩)] 28 (0, 0))
section
variable {w w1 W W' : World} {b bx wa : Nat} {A : Option Addr} {n c : Nat} {at_ stop : Int} {B : Option Addr} {m d : Nat} {nn : Nat}
theorem WI.round (h : WI w w1 b bx wa A n c at_ stop B m d nn W) (hb : w.heap.size + 5 ≤ b) (hR : Round w1 W W' b bx (wa + 1) 64) {n' : Nat} (hc : W'.heap[wa + 1]? = some (.cells #[.int .i64 (n' : Int)] 3 (0, 0))) : WI w w1 b bx wa A n c at_ stop B m d n' W' := by
  have hs := hR.chg.size
  have l1 := lt_of W h.p9
  have l2 := lt_of W h.pa
  refine ⟨hR.held, hc, fun k hk => ?_, h.bxs.kept hR.chg (fun k h1 h2 hf => by have := h.sep k hf; omega), hR.chg.at_ h.p9 (fun hf => (h.sep _ hf).2.1 rfl), hR.chg.at_ h.pa (fun hf => (h.sep _ hf).2.2 rfl)⟩
  rcases hR.grow k hk with h1 | h1
  · exact h.sep k h1
  · omega
theorem WI.up (h : WI w w1 b bx wa A n c at_ stop B m d nn W) (hb : w.heap.size + 5 ≤ b) (hc : Chg (fun _ => False) W W') : WI w w1 b bx wa A n c at_ stop B m d nn W' := by
  obtain ⟨l, v, ss, hh, ho⟩ := h.held
  refine h.round hb ⟨⟨l, v, ss, hh.up hc, ho⟩, hc.mono (fun _ _ h => h.elim), others_chg hc (fun _ _ h => h.elim), fun k hk => .inl ((fp_iff hh k).2 ((fp_iff (hh.up hc) k).1 hk))⟩ (hc.at_ h.cnt (fun h => h))
/-- The law's own book-keeping leaves it. -/
theorem WI.tick {W0 wr : World} (h : WI w w1 b bx wa A n c at_ stop B m d nn W0) (hb : w.heap.size + 5 ≤ b) (hwq : w1.heap.size ≤ wa + 1) (hR : Round w1 W0 wr b bx (wa + 1) 64) (hbn : wr.heap[wa + 1]? = W0.heap[wa + 1]?) :
    Round w1 W0 (wr.setCell ⟨wa + 1, 0, none⟩ (.int .i64 ((nn : Int) + 1))) b bx (wa + 1) 64 ∧ WI w w1 b bx wa A n c at_ stop B m d (nn + 1) (wr.setCell ⟨wa + 1, 0, none⟩ (.int .i64 ((nn : Int) + 1))) := by
  have hc := hbn.trans h.cnt
  obtain ⟨l, v, ss, hh, ho⟩ := hR.held
  have hR' := hR.count hh ho hwq hc (.int .i64 ((nn : Int) + 1))
  refine ⟨hR', h.round hb hR' ?_⟩
  have := heap_set hc 0 (.int .i64 ((nn : Int) + 1))
  simpa using this
theorem WI.facts (h : WI w w1 b bx wa A n c at_ stop B m d nn W) : W.cell? ⟨wa + 1, 0, none⟩ = some (.int .i64 (nn : Int)) ∧ W.frozen? ⟨wa + 1, 0, none⟩ = false ∧ W.cell? ⟨b + 1, 0, none⟩ = some (.pointer (some ⟨b, 0, none⟩)) ∧ W.cell? ⟨wa, 0, none⟩ = some (.pointer (some ⟨b, 0, none⟩)) :=
  ⟨cell_at h.cnt 0 rfl, free_at h.cnt 0, cell_at h.p9 0 rfl, cell_at h.pa 0 rfl⟩
theorem WI.own {row : Option Nat} {B0 : Nat} (h : WI w w1 b bx wa A n c at_ stop B m d nn W) (hg : W.grownBy W' row) (hr : ∀ r, row = some r → B0 ≤ r ∧ ∃ o : Obj, W.heap[r]? = some o ∧ o.isCells = false) (hB0 : w1.heap.size ≤ B0) : WI w w1 b bx wa A n c at_ stop B m d nn W' := by
  obtain ⟨l, v, ss, hh, ho⟩ := h.held
  have hkeep : ∀ {k : Nat} {cc : Array Value} {t : TypeId} {fr : Nat × Nat}, W.heap[k]? = some (.cells cc t fr) → W'.heap[k]? = some (.cells cc t fr) := fun hk => own_cells hg hr hk
  have hcw : Chg (fun k => some k = row) W W' := (Chg.refl _ W).of_grown hg (fun k hk => .inr hk.symm)
  have hnr : ∀ k (o : Obj), W.heap[k]? = some o → o.isCells = true → ¬ some k = row := fun k o hk hc e => by
    obtain ⟨_, o', ho', hc'⟩ := hr k e.symm
    rw [hk] at ho'; cases ho'; rw [hc] at hc'; cases hc'
  have hq := held_q hh
  have hmine : ∀ k, Mine (some ⟨b, 0, none⟩) l k → ¬ some k = row := fun k hk e => by
    have hlt := hh.agree.lt k (.inl hk)
    exact hnr k _ (Array.getElem?_eq_getElem hlt) (mine_cells hq k _ hk (Array.getElem?_eq_getElem hlt)) e
  have hvown : ∀ k, v.ownBlock = some k → ¬ some k = row := fun k hk e => by
    obtain ⟨base, h1⟩ := hh.agree.own
    rcases h1.2 with ⟨rfl, _⟩ | ⟨g, cap, cur, rfl, _, hgg, _⟩
    · simp [Value.ownBlock] at hk
    · obtain rfl : g = k := by simpa [Value.ownBlock] using hk
      exact hnr g _ hgg rfl e
  have hN : HeldAt w1 W' bx (some ⟨b, 0, none⟩) 64 l v ss := ⟨hkeep hh.box, hh.agree.kept hcw hmine hvown, hh.apart, hh.low, hh.chg.trans hcw (fun k hk e => by
    have := (hr k e.symm).1
    omega)⟩
  exact ⟨⟨l, v, ss, hN, ho⟩, hkeep h.cnt, fun k hk => h.sep k ((fp_iff hh k).2 ((fp_iff hN k).1 hk)), ⟨hkeep h.bxs.b0, hkeep h.bxs.b1, hkeep h.bxs.b2, hkeep h.bxs.b3, hkeep h.bxs.b4⟩, hkeep h.p9, hkeep h.pa⟩
end

/-- Left alone, or left at the place stop. -/
def Count (xs : List ByteArray) (stop : Int) (nn : Nat) : Prop := if 0 ≤ stop ∧ stop < (xs.length : Int) then (nn : Int) = stop + 1 else nn = xs.length
def Bad (xs : List ByteArray) (pre : List (Nat × ByteArray)) : Prop := ¬ ∃ k, k ≤ xs.length ∧ pre = QAstr.upto xs k
theorem bad_place {xs : List ByteArray} {pre : List (Nat × ByteArray)} {i : Nat} {y : ByteArray} (h : i ≠ pre.length) : Bad xs (pre ++ [(i, y)]) := by
  rintro ⟨k, _, hk⟩
  exact h (QAstr.upto_not xs k pre (i, y) hk)
theorem bad_thing {xs : List ByteArray} {pre : List (Nat × ByteArray)} {y x : ByteArray} (hx : xs[pre.length]? = some x) (h : y ≠ x) : Bad xs (pre ++ [(pre.length, y)]) := by
  rintro ⟨k, _, hk⟩
  have hl : k = pre.length + 1 := by have := congrArg List.length hk; simp [QAstr.upto_length] at this; omega
  subst hl
  rw [QAstr.upto_succ] at hk
  have := List.append_inj_right' hk rfl
  simp [hx] at this
  exact h this
/-- What a script's loop in a round keeps. -/
def ScrRel (w1 W0 : World) (b bx bn : Nat) (m : Nat) (i : Value) (wr : World) : Prop := ∃ k : Nat, k ≤ m ∧ i = .int .i64 k ∧ Round w1 W0 wr b bx bn 64 ∧ wr.heap[bn]? = W0.heap[bn]?

/-- The first loop: k things pushed. w2: where it begins. -/
def PushRel (w2 : World) (b : Nat) (xs : List ByteArray) (i : Value) (wr : World) : Prop :=
  ∃ (k : Nat) (l : Option Nat), k ≤ xs.length ∧ i = .int .i64 k ∧ IsQ QT ET wr b l 64 (enc (xs.take k)) ∧ (∀ g, l = some g → w2.heap.size ≤ g) ∧ Chg (fun j => j = b) w2 wr

/-- The second range: what was told gathered in a row; nothing that lay at W has turned. -/
def Gath (W : World) (Bl : Nat) (pre : List (Nat × ByteArray)) (W' : World) : Prop :=
  ∃ v, W'.heap[Bl]? = some (.cells #[v] 23 (0, 0)) ∧ W'.ownsRow (Bl + 1) ET 1 v pre.length (enc (pre.map (·.2))) ∧ Chg (fun _ => False) W W' ∧ Bl + 1 ≤ W'.heap.size
theorem Gath.own {W A0 B0 Wl : World} {s : List (Nat × ByteArray)} {row : Option Nat} (h : Gath W W.heap.size s A0) (hg : A0.grownBy B0 row) (hr : ∀ r, row = some r → Wl.heap.size ≤ r ∧ ∃ o : Obj, A0.heap[r]? = some o ∧ o.isCells = false) (hsl : Wl.heap.size = W.heap.size + 1) : Gath W W.heap.size s B0 := by
  obtain ⟨v, h1, h2, h3, h4⟩ := h
  exact ⟨v, own_cells hg hr h1, own_row hg hr h2, own_chgF hg hr (by omega) h3, Nat.le_trans h4 hg.size⟩
theorem boxFp_lt {W Wl : World} (hsl : Wl.heap.size = W.heap.size + 1) (bl : Wl.heap[W.heap.size]? = some (.cells #[.slice none 0 0] 23 (0, 0))) : ∀ W2, Chg (fun _ => False) Wl W2 → ∀ k, boxFp W.heap.size W2 k → k < Wl.heap.size := by
  intro W2 h2 k hk
  rcases hk with rfl | ⟨v, hv, he⟩
  · omega
  · have := cell_at (h2.at_ bl (fun h => h)) 0 (v := .slice none 0 0) rfl
    rw [this] at hv; cases hv; simp [Value.ownBlock] at he
theorem equal_row (ss : List ByteArray) (hn : ss.length ≤ 140737488355328) {W : World} {A B : Option Addr} {c d base : Nat} (h1 : Rd (fun _ => True) W A ss.length c 1 (enc ss)) (h2 : W.ownsRow base ET 1 (.slice B ss.length d) ss.length (enc ss)) :
    Calls Try.prog 35 #[.slice A ss.length c, .slice B ss.length d] W fun e w' => e = .returned (.bool true) ∧ ∃ m, w' = W.drewN m := by
  obtain ⟨_, _, e9, hr⟩ := Rd.of_own h2
  cases e9
  exact equal_same ss.length hn A B c d ss W _ _ h1 hr
theorem two_end {w W2 : World} {m9 D D2 : Nat} (zb : W2.heap[w.heap.size + 4]? = some (.cells #[.bool false] 4 (0, 0))) (hc : Chg (fun _ => False) w W2) (h1 : w.heap.size + 5 ≤ D) (h2 : w.heap.size + 5 ≤ D2) (h3 : 0 ≤ D) (h4 : 0 ≤ D2) :
    ((((W2.drewN m9).setCell ⟨w.heap.size + 1 + 1 + 1 + 1, 0, none⟩ (.bool true)).putObj D2 (.deferred none)).putObj D (.deferred none)).cell? ⟨w.heap.size + 1 + 1 + 1 + 1, 0, none⟩ = some (.bool true) ∧
      Below w.heap.size w ((((W2.drewN m9).setCell ⟨w.heap.size + 1 + 1 + 1 + 1, 0, none⟩ (.bool true)).putObj D2 (.deferred none)).putObj D (.deferred none)) := by
  have hp := fun k (hk : k ≠ D) (hk2 : k ≠ D2) => (World.putObj_heap_other (w := ((W2.drewN m9).setCell ⟨w.heap.size + 1 + 1 + 1 + 1, 0, none⟩ (.bool true)).putObj D2 (.deferred none)) (r := D) (o := .deferred none) hk).trans (World.putObj_heap_other (w := (W2.drewN m9).setCell ⟨w.heap.size + 1 + 1 + 1 + 1, 0, none⟩ (.bool true)) (r := D2) (o := .deferred none) hk2)
  have hz : (W2.drewN m9).heap[w.heap.size + 1 + 1 + 1 + 1]? = some (.cells #[.bool false] 4 (0, 0)) := zb
  refine ⟨cell_at ((hp _ (by omega) (by omega)).trans (heap_set hz 0 (.bool true))) 0 rfl, ?_⟩
  have c := (hc.drewN m9).set (b := w.heap.size + 1 + 1 + 1 + 1) (i := 0) (u := .bool true) (.inl (by omega))
  exact ⟨c.os, c.tape, c.output, by simpa using c.size, fun k hk => (hp k (by omega) (by omega)).trans (c.block k hk (fun h => h))⟩
theorem Gath.start {W Wl : World} (c : Chg (fun _ => False) W Wl) (hsl : Wl.heap.size = W.heap.size + 1) (bl : Wl.heap[W.heap.size]? = some (.cells #[.slice none 0 0] 23 (0, 0))) : Gath W W.heap.size [] Wl :=
  ⟨_, bl, World.ownsRow_nil _ _ _ _, c, by omega⟩

set_option maxRecDepth 100000 in
set_option maxHeartbeats 4000000 in
theorem walk_few (A : Option Addr) (c : Nat) (at_ stop : Int) (B : Option Addr) (m d : Nat) (w : World) (xs : List ByteArray) (hn : xs.length ≤ 64) (hA : Rd (fun k => k < w.heap.size) w A xs.length c 1 (enc xs)) (f : Nat → Int × ByteArray) (hs : Script w B m f) :
    CallsIn Fence.wide 9 Try.prog 11 #[.slice A xs.length c, .int .i64 at_, .int .i64 stop, .slice B m d] w fun e w' => e = .returned (.bool true) ∧ Below w.heap.size w w' := by
  have HS := Lib.hid hs
  have HA := Lib.hid hA
  clear hs hA
  refine callsIn_of_wp_marks Try.func11 rfl trivial ?_ rfl
  simp only [Try.ntmps11, List.size_toArray, List.length_cons, List.length_nil, Nat.reduceAdd, Nat.reduceSub, Array.replicate_succ, Array.replicate_zero, List.push_toArray, List.append_toArray, List.nil_append, List.cons_append]
  obtain ⟨w0, e0, hb, hs0, hc0⟩ := bx_new w A xs.length c at_ stop B m d
  gi_wp2_with fail
  refine ⟨trivial, (callsIn_wide.2 (Qfix.fixed_any w0)).mono ?_⟩
  rintro e w1 ⟨rfl, c1⟩
  clear e0
  have hb1 := hb.up c1
  obtain ⟨k0, k1, k2, k3, k4, k5⟩ := hb1.cells
  have hc1 := hc0.trans c1 (fun _ _ h => h)
  have hs1 : w.heap.size + 5 ≤ w1.heap.size := by have := c1.size; omega
  have hle : ¬ (64 : Int) < (xs.length : Int) := by omega
  gi_wp2_with fail
  refine ⟨trivial, (callsIn_wide.2 (Qstr.new_ok 64 _ (by omega) (by omega))).mono ?_⟩
  rintro e w2 ⟨rfl, hw2⟩
  obtain ⟨b, hbe⟩ : ∃ b, w1.heap.size = b := ⟨_, rfl⟩
  have hq2 : IsQ QT ET w2 b none 64 [] := by rw [hw2, ← hbe]; exact IsQ.new w1 (by omega) (by omega)
  have hc2 : Chg (fun _ => False) w1 w2 := by rw [hw2]; exact (Chg.refl _ w1).alloc _
  have hs2 : w2.heap.size = b + 1 := by rw [hw2, ← hbe]; simp
  rw [hbe]
  clear hw2
  obtain ⟨w3, hw3⟩ : ∃ w3, w2.alloc (.cells #[.pointer (some ⟨b, 0, none⟩)] 28) = w3 := ⟨_, rfl⟩
  have hc3 : Chg (fun _ => False) w2 w3 := by rw [← hw3]; exact (Chg.refl _ w2).alloc _
  have h93 : w3.heap[b + 1]? = some (.cells #[.pointer (some ⟨b, 0, none⟩)] 28 (0, 0)) := by rw [← hw3]; exact heap_new' _ _ hs2.symm
  have hs3 : w3.heap.size = b + 2 := by rw [← hw3]; simp [hs2]
  have hb3 := (hb1.up hc2).up hc3
  obtain ⟨j0, j1, j2, j3, j4, j5⟩ := hb3.cells
  have hq3 := hq2.kept hc3 (fun h => h) (fun _ _ h => h)
  have hb1' := hb1
  clear k0 k1 k2 k3 k4 k5 hb1
  gi_wp2_with fail
  gi_loopw [39] (fun i wr => PushRel w3 b xs i wr) (fun i _ => xs.length - (intOf i).toNat)
  case atStart => exact ⟨0, none, Nat.zero_le _, rfl, hq3, (fun g h => by cases h), Chg.refl _ _⟩
  case round =>
    obtain ⟨k, l, hk, rfl, hq, hl, hc⟩ := hrel
    clear j0 j1 j2 j3 j4 j5
    have hbk := hb3.kept hc (fun k h1 h2 h => by omega)
    obtain ⟨j0, j1, j2, j3, j4, j5⟩ := hbk.cells
    have h9 := hc.at_ h93 (fun h => by omega)
    have h90 := cell_at h9 0 rfl
    have cw : Chg (fun j => j = b) w wr := (((hc1.trans hc2 (fun _ _ h => h)).trans hc3 (fun _ _ h => h)).mono (fun _ _ h => h.elim)).trans hc (fun _ _ h => h)
    by_cases hlt : k < xs.length
    · obtain ⟨g, off, rfl, hg, hcell⟩ := HA.out.at_ (by omega)
      obtain ⟨x, hx⟩ : ∃ x, xs[k]? = some x := ⟨xs[k], List.getElem?_eq_getElem hlt⟩
      have c0 : wr.cell? ⟨g, off + k, none⟩ = some (.string x) := (World.cell?_of_block (cw.block g hg (by omega))).trans (hcell k _ (by simp [hx]))
      have htk : enc (xs.take k) ++ [.string x] = enc (xs.take (k + 1)) := by rw [List.take_add_one, hx]; simp
      have HQ := Lib.hid hq
      have HT := Lib.hid htk
      clear hcell hx hq htk cw hbk
      gi_wp2_with fail
      refine ⟨trivial, (callsIn_wide.2 (push_room x wr HQ.out (by simp; omega) (fun v hv => by obtain ⟨y, _, rfl⟩ := List.mem_map.1 hv; exact ⟨y, rfl⟩))).mono ?_⟩
      rintro e w4 ⟨rfl, l', hq4, hl4, hc4⟩
      have hq5 := Lib.hid hq4
      clear hq4
      gi_wp2
      go_roundw
      case rel =>
        refine ⟨k + 1, l', hlt, rfl, by rw [← HT.out]; exact hq5.out, fun g hg => ?_, hc.trans hc4 (fun j hj h => ?_)⟩
        · rcases hl4 with rfl | ⟨g', rfl, hg'⟩
          · exact hl g hg
          · cases hg; exact Nat.le_trans hc.size hg'
        · rcases h with h | h
          · exact h
          · have := hl j h.symm; omega
      case measure => simp [intOf]; omega
    · obtain rfl : k = xs.length := by omega
      rw [List.take_length] at hq
      have HQ := Lib.hid hq
      have hsr := hc.size
      have hq_b := hq.lt
      have hBW := Lib.hid hbk
      have CW := Lib.hid cw
      clear hq hbk cw
      obtain ⟨wo, rfl⟩ : ∃ wo : World, wo = wr := ⟨_, rfl⟩
      gi_wp2_with fail
      refine ⟨trivial, (callsIn_wide.2 (Qref.new_ok 64 _ (by omega) (by omega))).mono ?_⟩
      rintro e w5 ⟨rfl, c5⟩
      have hb5 := Lib.hid (hBW.out.up c5)
      obtain ⟨i0, i1, i2, i3, i4, i5⟩ := hb5.out.cells
      have i9 := cell_at (c5.at_ h9 (fun h => h)) 0 rfl
      have hs5 := c5.size
      have HQ5 := Lib.hid (HQ.out.kept c5 (fun h => h) (fun _ _ h => h))
      have hlr := fun g hg => (HQ.out.row_lt g hg).1
      have hR5 : Hid (Rd (fun j => j < w.heap.size) w5 A xs.length c 1 (enc xs)) := Lib.hid (HA.out.move (fun j hj => (CW.out.trans (c5.mono (T := fun j => j = b) (fun _ _ h => h.elim)) (fun _ _ h => h)).block j hj (by omega)))
      clear j0 j1 j2 j3 j4 j5 h90
      obtain ⟨bx, hbx⟩ : ∃ bx, w5.heap.size = bx := ⟨_, rfl⟩
      have f0 : w.heap.size < bx := by omega
      have f1 : w.heap.size + 1 < bx := by omega
      have f2 : w.heap.size + 1 + 1 < bx := by omega
      have f3 : w.heap.size + 1 + 1 + 1 < bx := by omega
      have f4 : w.heap.size + 1 + 1 + 1 + 1 < bx := by omega
      have f9 : b + 1 < bx := by have := lt_of wo h9; omega
      obtain ⟨wp, hwp⟩ : ∃ wp, (w5.alloc (.cells #[.int .i64 64, .slice none 0 0] QR)).alloc (.cells #[] ET) = wp := ⟨_, rfl⟩
      have OL : Hid (wp.ownsRow (bx + 1) ET 1 (.slice (some ⟨bx + 1, 0, none⟩) 0 0) 0 []) := by rw [← hwp]; exact Lib.hid (own_lit0 (w5.alloc _) (bx + 1) (by simp [hbx]) (by omega))
      have hps : wp.heap.size = bx + 2 := by rw [← hwp]; simp [hbx]
      have cp : Chg (fun _ => False) w5 wp := by rw [← hwp]; exact ((Chg.refl _ w5).alloc _).alloc _
      have RP := Lib.hid ((hR5.out.move (fun j hj => cp.block j (by omega) (fun h => h))).any)
      have p13 : wp.heap[bx]? = some (.cells #[.int .i64 64, .slice none 0 0] QR (0, 0)) := by rw [← hwp, ← hbx]; exact heap_old _ (heap_new w5 _)
      have hbp := (hb5.out.up cp)
      obtain ⟨q0, q1, q2, q3, q4, q5⟩ := hbp.cells
      have h9p := cp.at_ (c5.at_ h9 (fun h => h)) (fun h => h)
      have hne : some bx ≠ (Value.slice (some ⟨bx + 1, 0, none⟩) 0 0).ownBlock := by simp [Value.ownBlock]
      have hne9 : some (b + 1) ≠ (Value.slice (some ⟨bx + 1, 0, none⟩) 0 0).ownBlock := by simp [Value.ownBlock]; omega
      gi_wp2_with (gi_at_builtin; refine apIn_any rfl (.tmp 52) (.tmp 53) 23 rfl (bx + 1) ET 1 16 (.string ⟨#[]⟩) Try.underlying23 QAstr.infoE rfl (by decide) (by decide) (.slice (some ⟨bx + 1, 0, none⟩) 0 0) 0 [] rfl OL.out A xs.length c (enc xs) rfl RP.out (by intro u hu; obtain ⟨x, _, rfl⟩ := List.mem_map.1 hu; rfl) (by omega) (by omega) ?_; intro v1 w6 o6 g6 r6; simp only [Nat.zero_add, List.nil_append] at o6; obtain ⟨A6, c6, rfl, -⟩ := Rd.of_own o6; have G6 := Lib.hid g6; have g13 := grow_keep g6 p13 hne; have g9 := cell_at (grow_keep g6 h9p hne9) 0 rfl; have g9l := lt_of w6 g13; obtain ⟨m0, m1, m2, m3⟩ := cells2 g13; have O6 := Lib.hid o6; clear o6 g6)
      have hb7 := Lib.hid (start_held hbe hs3 (hc2.trans hc3 (fun _ _ h => h)) hc hl HQ.out c5 hbx cp hps (by have := G6.out; simpa [Value.ownBlock] using this) g13 O6.out hn)
      have h97 := hb7.out.2.2 _ h93
      have hB7 := hb1'.up hb7.out.1.chg
      obtain ⟨w7, hw7⟩ : ∃ w7, w6.setCell ⟨bx, 1, none⟩ (.slice A6 xs.length c6) = w7 := ⟨_, rfl⟩
      have hs7 : w7.heap.size = w6.heap.size := by rw [← hw7]; simp [World.setCell]
      rw [hw7] at hb7 h97 hB7
      refine ⟨trivial, (callsIn_wide.2 (QAstr.all_any (some ⟨b, 0, none⟩) _)).mono ?_⟩
      rintro e w8 ⟨rfl, hw8⟩
      rw [hw7] at hw8
      obtain ⟨wa, hwa⟩ : ∃ wa, w6.heap.size = wa := ⟨_, rfl⟩
      have hsv : (w6.setCell ⟨bx, 1, none⟩ (.slice A6 xs.length c6)).heap.size = wa := by rw [← hwa]; simp [World.setCell]
      rw [hsv]
      have hN := QAstr.func_nil (.func 53) #[] #[.pointer (some ⟨wa, 0, none⟩)]
      have hs8 : w8.heap.size = wa + 1 := by rw [hw8]; simp [hs7, hwa]
      have c78 : Chg (fun _ => False) w7 w8 := by rw [hw8]; exact (Chg.refl _ w7).alloc _
      have ha8 : w8.heap[wa]? = some (.cells #[.pointer (some ⟨b, 0, none⟩)] 28 (0, 0)) := by rw [hw8]; exact heap_new' _ _ (by omega)
      clear hw8 i0 i1 i2 i3 i4 i5 i9 q0 q1 q2 q3 q4 q5 g13 g9 m0 m1 m2 m3 p13 h9p r6
      have hB8 := hB7.up c78
      obtain ⟨k0, k1, k2, k3, k4, k5⟩ := hB8.cells
      gi_wp2_with fail
      obtain ⟨w9, hw9⟩ : ∃ w9, w8.alloc (.cells #[.int .i64 0] 3) = w9 := ⟨_, rfl⟩
      have hs9 : w9.heap.size = wa + 2 := by rw [← hw9]; simp [hs8]
      have c89 : Chg (fun _ => False) w8 w9 := by rw [← hw9]; exact (Chg.refl _ w8).alloc _
      have hbw : w.heap.size + 5 ≤ b := by omega
      have hsep : ∀ k, (Mine (some ⟨b, 0, none⟩) l k ∨ (Value.slice A6 xs.length c6).ownBlock = some k) → b ≤ k ∧ k ≠ b + 1 ∧ k ≠ bx ∧ k < wa := fun k hk => by have := hb7.out.2.1 k hk; omega
      have H9 := hb7.out.1.up (c78.trans c89 (fun _ _ h => h))
      have I9 : WI w w1 b bx wa A xs.length c at_ stop B m d 0 w9 := by
        refine ⟨⟨_, _, _, H9, by omega, fun h => by have := hsep _ (.inl h); omega, fun h => by have := hsep _ (.inr h); omega⟩, ?_, fun k hk => ?_, hB8.up c89, (c89.at_ (c78.at_ h97 (fun h => h)) (fun h => h)), c89.at_ ha8 (fun h => h)⟩
        · rw [← hw9]; exact heap_new' _ _ hs8.symm
        · rcases (fp_iff H9 k).1 hk with h1 | h1 | h1 | h1
          · omega
          · omega
          · have := hsep _ (.inl h1); omega
          · have := hsep _ (.inr h1); omega
      have hq9 := held_q H9
      have hfp9 : ∀ W2, Chg (fun _ => False) w9 W2 → ∀ k, fp b bx (wa + 1) W2 k → k < w9.heap.size := fun W2 h2 k hk => by
        have hh2 := H9.up h2
        rcases (fp_iff hh2 k).1 hk with h1 | h1 | h1 | h1
        · omega
        · omega
        · have := hsep _ (.inl h1); omega
        · have := hsep _ (.inr h1); omega
      have hHI := Lib.hid I9
      have hbd : b < w9.heap.size ∧ bx < w9.heap.size := by omega
      rw [hw9]
      clear H9 I9 hsep
      apply range_break (.exit 2) (fun W => ∃ nn, WI w w1 b bx wa A xs.length c at_ stop B m d nn W ∧ Count xs stop nn) rfl (by decide) (gf := 53) (lb := #[.pointer (some ⟨wa, 0, none⟩)]) rfl trivial (enters_of Try.func53 (by kernel_rfl) rfl)
        (QAstr.all_stops _ wa b l 64 xs w9 (fp b bx (wa + 1)) hHI.out.facts.2.2.2 hq9 hfp9) KpF.trans (fun W l' o o' hl' ho hcl _ => fp_putObj W l' o o' ho hcl (by omega) (by omega)) (fun _ => rfl)
        (fun pre W => WI w w1 b bx wa A xs.length c at_ stop B m d pre.length W ∧ ∀ y ∈ pre, (y.1 : Int) ≠ stop) (Bad xs)
        (fun s A0 B0 row hs hg hr => ⟨hs.1.own hg hr (by omega), hs.2⟩) (fun s A0 B0 row hs hg hr => by obtain ⟨nn, h1, h2⟩ := hs; exact ⟨nn, h1.own hg hr (by omega), h2⟩)
        ⟨hHI.out, fun y hy => by cases hy⟩ _ (fun pre hSp hb => hb hSp) ?hgood ?hexit ?assign ?body ?rest
      case assign =>
        intro l x W K hK
        dsimp only [QAstr.encs]
        gi_wp2
        exact hK
      case hgood =>
        rintro ys W rfl ⟨hW, hst⟩
        refine ⟨_, hW, ?_⟩
        rw [QAstr.upto_length]
        unfold Count
        split
        · rename_i hin
          refine absurd ?_ (hst (stop.toNat, xs[stop.toNat]?.getD ⟨#[]⟩) (List.mem_map.2 ⟨stop.toNat, List.mem_range.2 (by omega), rfl⟩))
          show ((stop.toNat : Nat) : Int) = stop
          omega
        · rfl
      case hexit =>
        intro a W h
        refine wpIn_exit ?_
        simpa [Exit.inBlock] using h
      case body =>
        rintro l0 pre ⟨i, y⟩ W ⟨hW, hst⟩ hlt
        obtain ⟨l1, v1, ss1, hh, ho⟩ := hW.held
        obtain ⟨z0, z1, z2, z3, z4, z5⟩ := hW.bxs.cells
        obtain ⟨y0, y1, y2, y3⟩ := hW.facts
        obtain ⟨x, hx⟩ : ∃ x, xs[pre.length]? = some x := ⟨xs[pre.length], List.getElem?_eq_getElem hlt⟩
        obtain ⟨g, off, rfl, hg, hcell⟩ := HA.out.at_ (by omega)
        have c0 : W.cell? ⟨g, off + pre.length, none⟩ = some (.string x) := (World.cell?_of_block ((hc1.trans hh.chg (fun _ _ h => h)).block g hg (fun h => h))).trans (hcell _ _ (by simp [hx]))
        have hp0 : (0 : Int) ≤ (pre.length : Int) := by omega
        have hp1 : (pre.length : Int) < (xs.length : Int) := by omega
        have hge : (xs.length ≤ pre.length) = False := by simp only [eq_iff_iff, iff_false]; omega
        have HW := Lib.hid hW
        have HB1 := fun (h : i ≠ pre.length) => bad_place (xs := xs) (y := y) h
        have HB2 := fun (h : ¬ y.toList = x.toList) => bad_thing hx (fun e : y = x => h (by rw [e]))
        have Hst := Lib.hid hst
        have Hh := Lib.hid hh
        have hbn := lt_of W hW.cnt
        clear hcell hW hst hh hx k0 k1 k2 k3 k4 k5 hb hb3 hB7 hB8 ha8 h97 hb1'
        by_cases hi : i = pre.length
        · subst hi
          by_cases hy : y.toList = x.toList
          · have hyy : (y.toList == x.toList) = true := by simpa using hy
            have hii : ((pre.length : Int) == (pre.length : Int)) = true := by simp
            have hwq : w1.heap.size ≤ wa + 1 := by omega
            clear HB1 HB2 hy
            by_cases hat : (pre.length : Int) = at_
            · have hat1 : ((pre.length : Int) == at_) = true := by simpa using hat
              clear hat
              gi_wp2_with fail
              gi_loopw [85] (fun v wr => ScrRel w1 W b bx (wa + 1) m v wr) (fun v _ => m - (intOf v).toNat)
              case atStart => exact ⟨0, Nat.zero_le _, rfl, Round.refl Hh.out ho, rfl⟩
              case round =>
                obtain ⟨k, hk, rfl, hR, hbq⟩ := hrel
                have hWr := HW.out.round hbw hR (hbq.trans HW.out.cnt)
                clear z0 z1 z2 z3 z4 z5 y0 y1 y2 y3 c0
                obtain ⟨z0, z1, z2, z3, z4, z5⟩ := hWr.bxs.cells
                obtain ⟨y0, y1, y2, y3⟩ := hWr.facts
                obtain ⟨l2, v2, ss2, hh2, ho2⟩ := hR.held
                obtain ⟨A2, c2, rfl, -⟩ := Rd.of_own hh2.agree.own.choose_spec
                have hwr := hR.chg.size
                have hsm := HS.out.small
                by_cases hlt2 : k < m
                · obtain ⟨g', off', rfl, hg', s0, s1⟩ := HS.out.at_ k hlt2
                  have cw2 := hc1.trans hh2.chg (fun _ _ h => h)
                  have t0 := (World.cell?_of_block (cw2.block g' hg' (fun h => h)) (a := ⟨g', off' + k * 2, none⟩)).trans s0
                  have t1 := (World.cell?_of_block (cw2.block g' hg' (fun h => h)) (a := ⟨g', off' + k * 2 + 1, none⟩)).trans s1
                  obtain ⟨r0, r1, r2, r3⟩ := cells2 hh2.box
                  have hbl2 := lt_of wr hh2.box
                  have hb9 := lt_of wr hWr.p9
                  have HH2 := Lib.hid hh2
                  have HR := Lib.hid hR
                  have HO2 := Lib.hid ho2
                  clear hh2 s0 s1 cw2 hWr hR ho2
                  gi_wp2_with fail
                  refine ⟨trivial, CallsIn.inRound l0 ((callsIn_wide.2 (does_any _ _ _ _ _ ss2 (f k).1 (f k).2 (HH2.out.up ((Chg.refl _ wr).alloc _)).agree (fun _ h => by cases h))).mono ?_)⟩
                  rintro e w5 ⟨v', l', rfl, ha, hl5, hv5, hc5⟩
                  obtain ⟨A5, c5, rfl, -⟩ := Rd.of_own ha.own.choose_spec
                  have hh21 := HH2.out.up ((Chg.refl (fun _ => False) wr).alloc (.cells #[.int .i64 (f k).1, .string (f k).2] 72))
                  have hb5 : w5.heap[bx]? = some (.cells #[.int .i64 64, .slice A2 ss2.length c2] QR (0, 0)) := hc5.at_ hh21.box (fun h => (hh21.apart bx (.inl h)).2 rfl)
                  obtain ⟨r50, r51, r52, r53⟩ := cells2 hb5
                  have hbn5 : w5.heap[wa + 1]? = wr.heap[wa + 1]? := by
                    have hwl := lt_of wr (hbq.trans HW.out.cnt)
                    exact (hc5.block _ (by simp; omega) HO2.out.2.1).trans (Below.heap_alloc _ _ _ hwl)
                  have HN := Lib.hid (fun wf => Round.step (wf := wf) HR.out HH2.out HO2.out hbn ha hl5 hv5 hc5)
                  have hbl5 := lt_of w5 hb5
                  have Hb5 := Lib.hid hb5
                  have Hn5 := Lib.hid hbn5
                  clear ha hl5 hv5 hc5 hh21 hb5 hbn5 r0 r1 r2 r3
                  gi_wp2_with fail
                  go_roundw
                  case rel =>
                    refine ⟨k + 1, hlt2, rfl, HN.out _ ((((Chg.refl (fun k => k = bx) w5).set (.inr rfl)).set (.inr rfl)).alloc _) ?_, ?_⟩
                    · refine heap_old _ ?_
                      have := heap_set (heap_set Hb5.out 0 (.int .i64 64)) 1 (.slice A5 (after 64 ss2 (f k).1 (f k).2).length c5)
                      simpa using this
                    · have hne : wa + 1 ≠ bx := HO2.out.1
                      have h1 := (Hn5.out.trans hbq).trans HW.out.cnt
                      rw [HW.out.cnt]
                      exact heap_old _ ((heap_set_ne _ _ hne).trans ((heap_set_ne _ _ hne).trans h1))
                  case measure => simp [intOf]; omega
                · obtain rfl : k = m := by omega
                  have HT := Lib.hid (HW.out.tick hbw hwq hR hbq)
                  clear hWr hR hh2 ho2
                  gi_wp2
                  · rename_i hst2
                    refine ⟨HT.out.1.others, .inl ⟨rfl, .inl ⟨_, HT.out.2, ?_⟩⟩⟩
                    have := eq_of_beq hst2
                    unfold Count
                    rw [if_pos (by omega)]
                    omega
                  · rename_i hst2
                    refine ⟨HT.out.1.others, HT.out.1.kp, by simpa using HT.out.2, fun y' hy' => ?_⟩
                    rcases List.mem_append.1 hy' with h1 | h1
                    · exact Hst.out y' h1
                    · simp at h1; subst h1; simpa using hst2
            · have hat1 : ((pre.length : Int) == at_) = false := by simpa using hat
              clear hat
              gi_wp2
              · rename_i hst2
                have HT := HW.out.tick hbw hwq (Round.refl Hh.out ho) rfl
                refine ⟨HT.1.others, .inl ⟨rfl, .inl ⟨_, HT.2, ?_⟩⟩⟩
                have := eq_of_beq hst2
                unfold Count
                rw [if_pos (by omega)]
                omega
              · rename_i hst2
                have HT := HW.out.tick hbw hwq (Round.refl Hh.out ho) rfl
                refine ⟨HT.1.others, HT.1.kp, by simpa using HT.2, fun y' hy' => ?_⟩
                rcases List.mem_append.1 hy' with h1 | h1
                · exact Hst.out y' h1
                · simp at h1; subst h1; simpa using hst2
          · have hyx : (y.toList == x.toList) = false := by simpa using hy
            have hii : ((pre.length : Int) == (pre.length : Int)) = true := by simp
            have hB := Lib.hid (HB2 hy)
            clear hy HB1 HB2
            gi_wp2
            exact ⟨KeepsOthers.setCell _ _ _, .inr ⟨rfl, hB.out⟩⟩
        · have hne : ((i : Int) == (pre.length : Int)) = false := by simpa using (by omega : ¬ (i : Int) = (pre.length : Int))
          have hne2 : ((i : Int) = (pre.length : Int)) = False   := by simp only [eq_iff_iff, iff_false]; omega
          have hB := Lib.hid (HB1 hi)
          clear hi HB1 HB2
          gi_wp2
          exact ⟨KeepsOthers.setCell _ _ _, .inr ⟨rfl, hB.out⟩⟩
      case rest =>
        rintro D W hD ⟨nn, hW, hcount⟩ hK
        obtain ⟨l1, v1, ss1, hh, ho⟩ := hW.held
        obtain ⟨A2, c2, rfl, -⟩ := Rd.of_own hh.agree.own.choose_spec
        obtain ⟨z0, z1, z2, z3, z4, z5⟩ := hW.bxs.cells
        obtain ⟨y0, y1, y2, y3⟩ := hW.facts
        obtain ⟨r0, r1, -, -⟩ := cells2 hh.box
        have HW := Lib.hid hW
        have Hh := Lib.hid hh
        have hDW := lt_of W hK
        have hssl := Hh.out.agree.few
        have HK := Lib.hid hK
        clear hW hh hK k0 k1 k2 k3 k4 k5 hb hb3 hB7 hB8 ha8 h97 hb1'
        by_cases hin : 0 ≤ stop ∧ stop < (xs.length : Int)
        · have hnn : (nn : Int) = stop + 1 := by simpa [Count, hin] using hcount
          obtain ⟨hin1, hin2⟩ := hin
          clear hcount
          gi_wp2_with fail
          all_goals obtain ⟨Wl, hWl⟩ : ∃ Wl, W.alloc (.cells #[.slice none 0 0] 23) = Wl := ⟨_, rfl⟩
          all_goals rw [hWl]
          all_goals have cWl : Chg (fun _ => False) W Wl := by rw [← hWl]; exact (Chg.refl _ W).alloc _
          all_goals have hsl : Wl.heap.size = W.heap.size + 1 := by rw [← hWl]; simp
          all_goals have bl : Wl.heap[W.heap.size]? = some (.cells #[.slice none 0 0] 23 (0, 0)) := by rw [← hWl]; exact heap_new W _
          all_goals have hql := held_q (Hh.out.up cWl)
          all_goals have hal := (HW.out.up hbw cWl).facts.2.2.2
          all_goals clear hWl
          all_goals have hfpl := boxFp_lt hsl bl
          all_goals apply wpIn_rangeFunc_ownF rfl (by decide) (gf := 53) (lb := #[.pointer (some ⟨wa, 0, none⟩)]) rfl trivial (enters_of Try.func53 (by kernel_rfl) rfl) (QAstr.all_stops _ wa b l1 64 ss1 Wl (boxFp W.heap.size) hal hql hfpl) KpF.trans (fun W' l' o o' hl' ho hcl _ => KpF.putObj W' l' o o' ho hcl (by omega)) (Below.refl _ _) (fun _ => rfl) (Gath W W.heap.size) (fun _ _ _ => False) (fun s A0 B0 row hs hg hr => hs.own hg hr hsl) (fun c s A0 B0 row hs hg hr => hs) (Gath.start cWl hsl bl) _ ?_ ?_ ?_ ?_
          all_goals try (intro l x W' K hK; dsimp only [QAstr.encs]; gi_wp2; exact hK)
          all_goals try (rintro D2 c2' pre W2 _ _ h _; exact h.elim)
          all_goals try (rintro l0 pre ⟨i, y⟩ W9 ⟨v, h1, h2, h3, h4⟩ hlt9; obtain ⟨A4, c4, rfl, -⟩ := Rd.of_own h2; have q2 := cell_at h1 0 rfl; have q3 := free_at h1 0; (gi_wp2_with (gi_at_builtin; refine apIn_one rfl (.tmp 138) (.tmp 140) 23 rfl (W.heap.size + 1) ET 1 16 (.string ⟨#[]⟩) Try.underlying23 QAstr.infoE rfl (by decide) (by decide) (.slice A4 pre.length c4) pre.length _ rfl h2 #[.string y] rfl rfl (by simp [Value.oneCell']) (by omega) h4 ?_; intro v1 w19 o1 g1 r1; obtain ⟨A1, c1', rfl, -⟩ := Rd.of_own o1; obtain ⟨e1, e2, e3, e4, e5, e6⟩ := box_append h1 h2 (by omega) g1 o1 r1; have n2 : w19.cell? ⟨W.heap.size, 0, none⟩ = some (.slice A4 pre.length c4) := cell_at (grow_keep g1 h1 (fun h => by have := (h2.lt _ h.symm).1; omega)) 0 rfl; have n3 : w19.frozen? ⟨W.heap.size, 0, none⟩ = false := free_at (grow_keep g1 h1 (fun h => by have := (h2.lt _ h.symm).1; omega)) 0)); exact ⟨e3, e4, ⟨_, e1, by simpa using e2, e6 W h3 (Nat.le_refl _), Nat.le_trans h4 e4.size⟩⟩)
          all_goals (rintro D2 ys W2 hD2 rfl ⟨v, h1, h2, h3, h4⟩ hK2; rw [QAstr.upto_length, QAstr.upto_snd] at h2; obtain ⟨A4, c4, rfl, hr4⟩ := Rd.of_own h2; have hW2 := HW.out.up hbw h3; clear z0 z1 z2 z3 z4 z5 y0 y1 y2 y3 r0 r1; obtain ⟨z0, z1, z2, z3, z4, z5⟩ := hW2.bxs.cells; have zb := hW2.bxs.b4; obtain ⟨r0, r1, -, -⟩ := cells2 (Hh.out.up h3).box; have q2 := cell_at h1 0 rfl; have HE := Lib.hid (equal_row ss1 (by omega) (hr4.any) (Hh.out.up h3).agree.own.choose_spec); have HD2 := Lib.hid (h3.at_ HK.out (fun h => h)); have HC2 := Lib.hid (Hh.out.chg.trans h3 (fun _ _ h => h)); have hlz := lt_of W2 zb; clear h1 h2 h3 h4 hr4 hW2)
          all_goals gi_wp2_with fail
          all_goals (refine ⟨trivial, (callsIn_wide.2 HE.out).mono ?_⟩; rintro e w' ⟨rfl, m9, rfl⟩; gi_wp2)
          all_goals have hKa : ((W2.drewN m9).setCell ⟨w.heap.size + 4, 0, none⟩ (.bool true)).heap[D2]? = some (.deferred (some [])) := (heap_set_ne 0 _ (by omega)).trans hK2
          all_goals refine ⟨by simp, .inl ⟨_, _, rfl, run_takeDeferred hKa, ?_⟩⟩
          all_goals have hKb : (((W2.drewN m9).setCell ⟨w.heap.size + 4, 0, none⟩ (.bool true)).putObj D2 (.deferred none)).heap[D]? = some (.deferred (some [])) := (World.putObj_heap_other (by omega)).trans ((heap_set_ne 0 _ (by omega)).trans HD2.out)
          all_goals refine ⟨by simp, .inl ⟨_, _, rfl, run_takeDeferred hKb, ?_⟩⟩
          all_goals have hend := two_end (w := w) (W2 := W2) (m9 := m9) (D := D) (D2 := D2) zb ((hc1.trans HC2.out (fun _ _ h => h))) (by omega) (by omega) (by omega) (by omega)
          all_goals refine ⟨.bool true, by simp [results, Try.f11, go_sem, hend.1], rfl, hend.2⟩
        · have hnn : nn = xs.length := by simpa [Count, hin] using hcount
          subst hnn
          clear hcount
          gi_wp2_with fail
          all_goals obtain ⟨Wl, hWl⟩ : ∃ Wl, W.alloc (.cells #[.slice none 0 0] 23) = Wl := ⟨_, rfl⟩
          all_goals rw [hWl]
          all_goals have cWl : Chg (fun _ => False) W Wl := by rw [← hWl]; exact (Chg.refl _ W).alloc _
          all_goals have hsl : Wl.heap.size = W.heap.size + 1 := by rw [← hWl]; simp
          all_goals have bl : Wl.heap[W.heap.size]? = some (.cells #[.slice none 0 0] 23 (0, 0)) := by rw [← hWl]; exact heap_new W _
          all_goals have hql := held_q (Hh.out.up cWl)
          all_goals have hal := (HW.out.up hbw cWl).facts.2.2.2
          all_goals clear hWl
          all_goals have hfpl := boxFp_lt hsl bl
          all_goals apply wpIn_rangeFunc_ownF rfl (by decide) (gf := 53) (lb := #[.pointer (some ⟨wa, 0, none⟩)]) rfl trivial (enters_of Try.func53 (by kernel_rfl) rfl) (QAstr.all_stops _ wa b l1 64 ss1 Wl (boxFp W.heap.size) hal hql hfpl) KpF.trans (fun W' l' o o' hl' ho hcl _ => KpF.putObj W' l' o o' ho hcl (by omega)) (Below.refl _ _) (fun _ => rfl) (Gath W W.heap.size) (fun _ _ _ => False) (fun s A0 B0 row hs hg hr => hs.own hg hr hsl) (fun c s A0 B0 row hs hg hr => hs) (Gath.start cWl hsl bl) _ ?_ ?_ ?_ ?_
          all_goals try (intro l x W' K hK; dsimp only [QAstr.encs]; gi_wp2; exact hK)
          all_goals try (rintro D2 c2' pre W2 _ _ h _; exact h.elim)
          all_goals try (rintro l0 pre ⟨i, y⟩ W9 ⟨v, h1, h2, h3, h4⟩ hlt9; obtain ⟨A4, c4, rfl, -⟩ := Rd.of_own h2; have q2 := cell_at h1 0 rfl; have q3 := free_at h1 0; (gi_wp2_with (gi_at_builtin; refine apIn_one rfl (.tmp 138) (.tmp 140) 23 rfl (W.heap.size + 1) ET 1 16 (.string ⟨#[]⟩) Try.underlying23 QAstr.infoE rfl (by decide) (by decide) (.slice A4 pre.length c4) pre.length _ rfl h2 #[.string y] rfl rfl (by simp [Value.oneCell']) (by omega) h4 ?_; intro v1 w19 o1 g1 r1; obtain ⟨A1, c1', rfl, -⟩ := Rd.of_own o1; obtain ⟨e1, e2, e3, e4, e5, e6⟩ := box_append h1 h2 (by omega) g1 o1 r1; have n2 : w19.cell? ⟨W.heap.size, 0, none⟩ = some (.slice A4 pre.length c4) := cell_at (grow_keep g1 h1 (fun h => by have := (h2.lt _ h.symm).1; omega)) 0 rfl; have n3 : w19.frozen? ⟨W.heap.size, 0, none⟩ = false := free_at (grow_keep g1 h1 (fun h => by have := (h2.lt _ h.symm).1; omega)) 0)); exact ⟨e3, e4, ⟨_, e1, by simpa using e2, e6 W h3 (Nat.le_refl _), Nat.le_trans h4 e4.size⟩⟩)
          all_goals (rintro D2 ys W2 hD2 rfl ⟨v, h1, h2, h3, h4⟩ hK2; rw [QAstr.upto_length, QAstr.upto_snd] at h2; obtain ⟨A4, c4, rfl, hr4⟩ := Rd.of_own h2; have hW2 := HW.out.up hbw h3; clear z0 z1 z2 z3 z4 z5 y0 y1 y2 y3 r0 r1; obtain ⟨z0, z1, z2, z3, z4, z5⟩ := hW2.bxs.cells; have zb := hW2.bxs.b4; obtain ⟨r0, r1, -, -⟩ := cells2 (Hh.out.up h3).box; have q2 := cell_at h1 0 rfl; have HE := Lib.hid (equal_row ss1 (by omega) (hr4.any) (Hh.out.up h3).agree.own.choose_spec); have HD2 := Lib.hid (h3.at_ HK.out (fun h => h)); have HC2 := Lib.hid (Hh.out.chg.trans h3 (fun _ _ h => h)); have hlz := lt_of W2 zb; clear h1 h2 h3 h4 hr4 hW2)
          all_goals gi_wp2_with fail
          all_goals (refine ⟨trivial, (callsIn_wide.2 HE.out).mono ?_⟩; rintro e w' ⟨rfl, m9, rfl⟩; gi_wp2)
          all_goals have hKa : ((W2.drewN m9).setCell ⟨w.heap.size + 4, 0, none⟩ (.bool true)).heap[D2]? = some (.deferred (some [])) := (heap_set_ne 0 _ (by omega)).trans hK2
          all_goals refine ⟨by simp, .inl ⟨_, _, rfl, run_takeDeferred hKa, ?_⟩⟩
          all_goals have hKb : (((W2.drewN m9).setCell ⟨w.heap.size + 4, 0, none⟩ (.bool true)).putObj D2 (.deferred none)).heap[D]? = some (.deferred (some [])) := (World.putObj_heap_other (by omega)).trans ((heap_set_ne 0 _ (by omega)).trans HD2.out)
          all_goals refine ⟨by simp, .inl ⟨_, _, rfl, run_takeDeferred hKb, ?_⟩⟩
          all_goals have hend := two_end (w := w) (W2 := W2) (m9 := m9) (D := D) (D2 := D2) zb ((hc1.trans HC2.out (fun _ _ h => h))) (by omega) (by omega) (by omega) (by omega)
          all_goals refine ⟨.bool true, by simp [results, Try.f11, go_sem, hend.1], rfl, hend.2⟩
end Go.Proofs.Ytmlomceemcbnaaa.Qwalkw
