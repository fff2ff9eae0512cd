/- Two queues and two references' values in rows, that agree pairwise. Conditions: as told. -/
import Derived.Test.YtmlomceemcbnaaaQheld
set_option linter.unusedVariables false
set_option linter.unusedSimpArgs false
namespace Go.Proofs.Ytmlomceemcbnaaa.Qtwo
open Go.RowKit Go.Proofs.Ytmlomceemcbnaaa.Lib1 Go.Proofs.Ytmlomceemcbnaaa.Q Go.Proofs.Ytmlomceemcbnaaa.Qstr Go.Proofs.Ytmlomceemcbnaaa.Qat Go.Proofs.Ytmlomceemcbnaaa.Qdoes Go.Proofs.Ytmlomceemcbnaaa.Qheld

/-- A store into a row of one's own. -/
theorem own_set {w : World} {base : Nat} {e : TypeId} {sz n cap g i : Nat} {xs : List Value} (h : w.ownsRow base e sz (.slice (some ⟨g, 0, none⟩) n cap) n xs) (hi : i < xs.length) (u : Value) : (w.setCell ⟨g, i, none⟩ u).ownsRow base e sz (.slice (some ⟨g, 0, none⟩) n cap) n (xs.set i u) := by
  obtain ⟨hl, h2⟩ := h
  refine ⟨by simpa using hl, ?_⟩
  rcases h2 with ⟨hn, _⟩ | ⟨g', cap', cur, e1, hb, hg, h3, h4, h5, h6⟩
  · cases hn
  · cases e1
    refine .inr ⟨g, cap, cur.setIfInBounds i u, rfl, hb, heap_set hg i u, h3, h4, by simpa using h5, ?_⟩
    rw [Array.toList_setIfInBounds, List.take_set, h6]

structure Ent where
  b : Nat
  l : Option Nat
  most : Int
  v : Value
  ss : List ByteArray
def Ent.has (e : Ent) (k : Nat) : Prop := Mine (some ⟨e.b, 0, none⟩) e.l k ∨ e.v.ownBlock = some k
def refs (es : List Ent) : List Value := es.flatMap fun e => [.int .i64 e.most, e.v]
def ptrs (es : List Ent) : List Value := es.map fun e => .pointer (some ⟨e.b, 0, none⟩)
abbrev PT : Nat := 28

structure Inv (w wr : World) (es : List Ent) (v8 v9 : Value) : Prop where
  o8 : wr.ownsRow w.heap.size QR 2 v8 es.length (refs es)
  o9 : wr.ownsRow w.heap.size PT 1 v9 es.length (ptrs es)
  each : ∀ e ∈ es, Agree wr (some ⟨e.b, 0, none⟩) e.l e.most e.v e.ss
  apart : ∀ e ∈ es, ∀ k, e.has k → w.heap.size ≤ k ∧ v8.ownBlock ≠ some k ∧ v9.ownBlock ≠ some k
  disj : ∀ (i j : Nat) (e e' : Ent), es[i]? = some e → es[j]? = some e' → i ≠ j → ∀ k, e.has k → ¬ e'.has k
  rows : ∀ k, v8.ownBlock = some k → v9.ownBlock ≠ some k
  chg : Chg (fun _ => False) w wr

section
variable {w wr w' : World} {es : List Ent} {v8 v9 v8' v9' : Value}
theorem Inv.lt (h : Inv w wr es v8 v9) {e : Ent} (he : e ∈ es) : ∀ k, e.has k → k < wr.heap.size := fun k hk => (h.each e he).lt k hk
theorem Inv.up (h : Inv w wr es v8 v9) (c : Chg (fun _ => False) wr w') : Inv w w' es v8 v9 :=
  ⟨own_chg c h.o8 (fun _ _ h => h), own_chg c h.o9 (fun _ _ h => h), fun e he => (h.each e he).up c, h.apart, h.disj, h.rows, h.chg.trans c (fun _ _ h => h)⟩
/-- What turns neither rows nor entries. -/
theorem Inv.far {S : Nat → Prop} (h : Inv w wr es v8 v9) (c : Chg S wr w') (h8 : ∀ k, v8.ownBlock = some k → ¬ S k) (h9 : ∀ k, v9.ownBlock = some k → ¬ S k) (hE : ∀ e ∈ es, ∀ k, e.has k → ¬ S k) (hS : ∀ k, S k → w.heap.size ≤ k) : Inv w w' es v8 v9 := by
  have hW := h.chg.size
  exact ⟨own_chg c h.o8 h8, own_chg c h.o9 h9, fun e he => (h.each e he).kept c (fun k hk => hE e he k (.inl hk)) (fun k hk => hE e he k (.inr hk)), h.apart, h.disj, h.rows, h.chg.trans c (fun k hk e => by have := hS k e; omega)⟩

/-- One more entry: both rows grown. wa: behind the first append; wb: behind the second. -/
theorem Inv.push {wa wb : World} (h : Inv w wr es v8 v9) (e : Ent) (ha : Agree wr (some ⟨e.b, 0, none⟩) e.l e.most e.v e.ss) (hap : ∀ k, e.has k → w.heap.size ≤ k ∧ v8.ownBlock ≠ some k ∧ v9.ownBlock ≠ some k ∧ ∀ e' ∈ es, ¬ e'.has k)
    (o8 : wa.ownsRow w.heap.size QR 2 v8' (es.length + 1) (refs es ++ [.int .i64 e.most, e.v])) (g8 : wr.grownBy wa v8.ownBlock) (r8 : v8'.ownBlock = v8.ownBlock ∨ ∃ b, v8'.ownBlock = some b ∧ wr.heap.size ≤ b)
    (o9 : wb.ownsRow w.heap.size PT 1 v9' (es.length + 1) (ptrs es ++ [.pointer (some ⟨e.b, 0, none⟩)])) (g9 : wa.grownBy wb v9.ownBlock) (r9 : v9'.ownBlock = v9.ownBlock ∨ ∃ b, v9'.ownBlock = some b ∧ wa.heap.size ≤ b) : Inv w wb (es ++ [e]) v8' v9' := by
  have hW := h.chg.size
  have hsa := g8.size
  have c8 : Chg (fun k => v8.ownBlock = some k) wr wa := (Chg.refl _ wr).of_grown g8 (fun k hk => .inr hk)
  have c9 : Chg (fun k => v9.ownBlock = some k) wa wb := (Chg.refl _ wa).of_grown g9 (fun k hk => .inr hk)
  have r8' : ∀ k, v8'.ownBlock = some k → v8.ownBlock = some k ∨ (wr.heap.size ≤ k ∧ k < wa.heap.size) := fun k hk => by
    have := (o8.lt k hk).2
    rcases r8 with r | ⟨j, r, hj⟩
    · exact .inl (r ▸ hk)
    · rw [r] at hk; cases hk; exact .inr ⟨hj, this⟩
  have r9' : ∀ k, v9'.ownBlock = some k → v9.ownBlock = some k ∨ wa.heap.size ≤ k := fun k hk => by
    rcases r9 with r | ⟨j, r, hj⟩
    · exact .inl (r ▸ hk)
    · rw [r] at hk; cases hk; exact .inr hj
  have hall : ∀ x ∈ es ++ [e], Agree wr (some ⟨x.b, 0, none⟩) x.l x.most x.v x.ss ∧ ∀ k, x.has k → w.heap.size ≤ k ∧ v8.ownBlock ≠ some k ∧ v9.ownBlock ≠ some k := by
    intro x hx
    rcases List.mem_append.1 hx with hx | hx
    · exact ⟨h.each x hx, h.apart x hx⟩
    · simp at hx; subst hx; exact ⟨ha, fun k hk => ⟨(hap k hk).1, (hap k hk).2.1, (hap k hk).2.2.1⟩⟩
  refine ⟨?_, ?_, fun x hx => ?_, fun x hx k hk => ?_, ?_, fun k hk e9 => ?_, ?_⟩
  · have := own_chg c9 o8 (fun k hk e9 => by
      rcases r8' k hk with h1 | h1
      · exact h.rows k h1 e9
      · have := (h.o9.lt k e9).2; omega)
    simpa [refs] using this
  · simpa [ptrs] using o9
  · obtain ⟨h1, h2⟩ := hall x hx
    exact (h1.kept c8 (fun k hk => (h2 k (.inl hk)).2.1) (fun k hk => (h2 k (.inr hk)).2.1)).kept c9 (fun k hk => (h2 k (.inl hk)).2.2) (fun k hk => (h2 k (.inr hk)).2.2)
  · obtain ⟨h1, h2⟩ := hall x hx
    have hlt := h1.lt k hk
    refine ⟨(h2 k hk).1, fun e8 => ?_, fun e9 => ?_⟩
    · rcases r8' k e8 with h3 | h3
      · exact (h2 k hk).2.1 h3
      · omega
    · rcases r9' k e9 with h3 | h3
      · exact (h2 k hk).2.2 h3
      · omega
  · intro i j x y hx hy hne k hkx hky
    rw [List.getElem?_append] at hx hy
    split at hx <;> split at hy
    · exact h.disj i j x y hx hy hne k hkx hky
    · rw [List.getElem?_singleton] at hy
      split at hy
      · cases hy; exact (hap k hky).2.2.2 x (List.mem_of_getElem? hx) hkx
      · cases hy
    · rw [List.getElem?_singleton] at hx
      split at hx
      · cases hx; exact (hap k hkx).2.2.2 y (List.mem_of_getElem? hy) hky
      · cases hx
    · rw [List.getElem?_singleton] at hx hy
      split at hx
      · split at hy
        · omega
        · cases hy
      · cases hx
  · rcases r8' k hk with h1 | h1
    · rcases r9' k e9 with h2 | h2
      · exact h.rows k h1 h2
      · have := (h.o8.lt k h1).2; omega
    · rcases r9' k e9 with h2 | h2
      · have := (h.o9.lt k h2).2; omega
      · omega
  · refine (h.chg.trans c8 (fun k hk e8 => ?_)).trans c9 (fun k hk e9 => ?_)
    · have := (h.o8.lt k e8).1; omega
    · have := (h.o9.lt k e9).1; omega

theorem refs_set : ∀ (es : List Ent) (m : Nat) (e' : Ent), m < es.length → refs (es.set m e') = ((refs es).set (m * 2) (.int .i64 e'.most)).set (m * 2 + 1) e'.v
  | x :: es, 0, e', _ => by simp [refs]
  | x :: es, m + 1, e', h => by
    have h1 := refs_set es m e' (by simpa using h)
    have h2 : (m + 1) * 2 = m * 2 + 1 + 1 := by omega
    rw [h2]
    simp only [refs, List.set_cons_succ, List.flatMap_cons, List.cons_append, List.nil_append] at h1 ⊢
    rw [h1]
theorem ptrs_set (es : List Ent) (m : Nat) (e e' : Ent) (h : es[m]? = some e) (hb : e'.b = e.b) : ptrs (es.set m e') = ptrs es := by
  refine List.ext_getElem? fun i => ?_
  simp only [ptrs, List.getElem?_map, List.getElem?_set]
  split
  · rename_i h1
    subst h1
    split
    · simp [h, hb]
    · rename_i h2
      rw [List.getElem?_eq_none (by omega)] at h
      cases h
  · rfl
theorem set_cases (es : List Ent) (m j : Nat) (e' x : Ent) (h : (es.set m e')[j]? = some x) : (j = m ∧ x = e') ∨ (j ≠ m ∧ es[j]? = some x) := by
  rw [List.getElem?_set] at h
  split at h
  · rename_i h1
    split at h
    · cases h; exact .inl ⟨h1.symm, rfl⟩
    · cases h
  · rename_i h1
    exact .inr ⟨fun e => h1 e.symm, h⟩

/-- Behind a step with the entry m, its new value laid into the row. -/
theorem Inv.step {w4 w5 : World} {g8 c8 m : Nat} (h : Inv w w4 es (.slice (some ⟨g8, 0, none⟩) es.length c8) v9) (e : Ent) (he : es[m]? = some e) (v' : Value) (l' : Option Nat) (ss' : List ByteArray)
    (ha : Agree w5 (some ⟨e.b, 0, none⟩) l' e.most v' ss') (hl : Fresh w4 e.l l') (hv : Fresh w4 e.v.ownBlock v'.ownBlock) (hc : Chg (Mine (some ⟨e.b, 0, none⟩) e.l) w4 w5) :
    Inv w ((w5.setCell ⟨g8, m * 2, none⟩ (.int .i64 e.most)).setCell ⟨g8, m * 2 + 1, none⟩ v') (es.set m ⟨e.b, l', e.most, v', ss'⟩) (.slice (some ⟨g8, 0, none⟩) es.length c8) v9 := by
  have hW := h.chg.size
  have hm : m < es.length := (List.getElem?_eq_some_iff.1 he).1
  have hmem := List.mem_of_getElem? he
  have b8 : (Value.slice (some ⟨g8, 0, none⟩) es.length c8).ownBlock = some g8 := rfl
  have l8 := h.o8.lt g8 b8
  have hnew : ∀ k, (Ent.mk e.b l' e.most v' ss').has k → e.has k ∨ w4.heap.size ≤ k := by
    rintro k (hk | hk)
    · rcases hl with rfl | hl
      · exact .inl (.inl hk)
      · rcases hk with hk | hk
        · exact .inl (.inl (.inl hk))
        · exact .inr (hl k hk.symm)
    · rcases hv with hv | hv
      · exact .inl (.inr (hv ▸ hk))
      · exact .inr (hv k hk)
  have cs : Chg (fun k => k = g8) w5 ((w5.setCell ⟨g8, m * 2, none⟩ (.int .i64 e.most)).setCell ⟨g8, m * 2 + 1, none⟩ v') := ((Chg.refl (fun k => k = g8) w5).set (.inr rfl)).set (.inr rfl)
  have hap' : ∀ k, (Ent.mk e.b l' e.most v' ss').has k → w.heap.size ≤ k ∧ (Value.slice (some ⟨g8, 0, none⟩) es.length c8).ownBlock ≠ some k ∧ v9.ownBlock ≠ some k := by
    intro k hk
    rcases hnew k hk with h1 | h1
    · exact h.apart e hmem k h1
    · refine ⟨by omega, fun e8 => ?_, fun e9 => ?_⟩
      · have := (h.o8.lt k e8).2; omega
      · have := (h.o9.lt k e9).2; omega
  have hdj : ∀ j x, j ≠ m → es[j]? = some x → ∀ k, x.has k → ¬ (Ent.mk e.b l' e.most v' ss').has k := by
    intro j x hj hx k hkx hk
    rcases hnew k hk with h1 | h1
    · exact h.disj j m x e hx he hj k hkx h1
    · have := h.lt (List.mem_of_getElem? hx) k hkx; omega
  refine ⟨?_, ?_, fun x hx => ?_, fun x hx => ?_, fun i j x y hx hy hne k hkx hky => ?_, h.rows, ?_⟩
  · rw [refs_set _ _ _ hm, List.length_set]
    have h1 := own_chg hc h.o8 (fun k hk e8 => (h.apart e hmem k (.inl e8)).2.1 hk)
    have hrl : (refs es).length = es.length * 2 := h.o8.1
    have h2 := own_set h1 (i := m * 2) (by omega) (.int .i64 e.most)
    exact own_set h2 (i := m * 2 + 1) (by rw [List.length_set]; omega) v'
  · rw [ptrs_set es m e ⟨e.b, l', e.most, v', ss'⟩ he rfl, List.length_set]
    have h1 := own_chg hc h.o9 (fun k hk e8 => (h.apart e hmem k (.inl e8)).2.2 hk)
    exact own_chg cs h1 (fun k hk e8 => h.rows k (by rw [e8]; rfl) hk)
  · obtain ⟨j, hj⟩ := List.mem_iff_getElem?.1 hx
    rcases set_cases es m j _ x hj with ⟨_, rfl⟩ | ⟨hne, hj⟩
    · exact ha.kept cs (fun k hk e8 => (hap' k (.inl hk)).2.1 (by rw [e8]; rfl)) (fun k hk e8 => (hap' k (.inr hk)).2.1 (by rw [e8]; rfl))
    · have hx' := List.mem_of_getElem? hj
      have h1 := (h.each x hx').kept hc (fun k hk e8 => h.disj j m x e hj he hne k (.inl hk) (.inl e8)) (fun k hk e8 => h.disj j m x e hj he hne k (.inr hk) (.inl e8))
      exact h1.kept cs (fun k hk e8 => (h.apart x hx' k (.inl hk)).2.1 (by rw [e8]; rfl)) (fun k hk e8 => (h.apart x hx' k (.inr hk)).2.1 (by rw [e8]; rfl))
  · obtain ⟨j, hj⟩ := List.mem_iff_getElem?.1 hx
    rcases set_cases es m j _ x hj with ⟨_, rfl⟩ | ⟨hne, hj⟩
    · exact hap'
    · exact h.apart x (List.mem_of_getElem? hj)
  · rcases set_cases es m i _ x hx with ⟨hi, rfl⟩ | ⟨hi, hx⟩
    · rcases set_cases es m j _ y hy with ⟨hj, rfl⟩ | ⟨hj, hy⟩
      · omega
      · exact hdj j y hj hy k hky hkx
    · rcases set_cases es m j _ y hy with ⟨hj, rfl⟩ | ⟨hj, hy⟩
      · exact hdj i x hi hx k hkx hky
      · exact h.disj i j x y hx hy hne k hkx hky
  · refine (h.chg.trans hc (fun k hk e8 => ?_)).trans cs (fun k hk e8 => ?_)
    · have := (h.apart e hmem k (.inl e8)).1; omega
    · omega

/-- The cells of the rows. -/
theorem Inv.cells8 {wr : World} {g8 n c8 m : Nat} (h : Inv w wr es (.slice (some ⟨g8, 0, none⟩) n c8) v9) (e : Ent) (he : es[m]? = some e) : n = es.length ∧ wr.cell? ⟨g8, m * 2, none⟩ = some (.int .i64 e.most) ∧ wr.cell? ⟨g8, m * 2 + 1, none⟩ = some e.v ∧ (∀ i, wr.frozen? ⟨g8, i, none⟩ = false) := by
  have hm : m < es.length := (List.getElem?_eq_some_iff.1 he).1
  have key : ∀ (es : List Ent) (m : Nat) (e : Ent), es[m]? = some e → (refs es)[m * 2]? = some (.int .i64 e.most) ∧ (refs es)[m * 2 + 1]? = some e.v := by
    intro es
    induction es with
    | nil => intro m e h; simp at h
    | cons x es ih =>
      intro m e h
      cases m with
      | zero => simp at h; subst h; simp [refs]
      | succ m =>
        have h2 : (m + 1) * 2 = m * 2 + 1 + 1 := by omega
        obtain ⟨h3, h4⟩ := ih m e (by simpa using h)
        rw [h2]
        simp only [refs, List.flatMap_cons, List.cons_append, List.nil_append, List.getElem?_cons_succ] at h3 h4 ⊢
        exact ⟨h3, h4⟩
  obtain ⟨k1, k2⟩ := key es m e he
  have h8 := h.o8
  obtain ⟨_, _, e1, hr⟩ := Rd.of_own h8
  cases e1
  obtain ⟨b, off, e2, hb, hc⟩ := hr.at_ (by omega)
  cases e2
  refine ⟨rfl, by simpa using hc _ _ k1, by simpa using hc _ _ k2, fun i => ?_⟩
  rcases h8.2 with ⟨hn, _⟩ | ⟨g, cap, cur, e3, _, hg, _⟩
  · cases hn
  · cases e3; exact free_at hg i
theorem Inv.cells9 {wr : World} {g9 n c9 m : Nat} (h : Inv w wr es v8 (.slice (some ⟨g9, 0, none⟩) n c9)) (e : Ent) (he : es[m]? = some e) : n = es.length ∧ wr.cell? ⟨g9, m, none⟩ = some (.pointer (some ⟨e.b, 0, none⟩)) := by
  have hm : m < es.length := (List.getElem?_eq_some_iff.1 he).1
  have h9 := h.o9
  obtain ⟨_, _, e1, hr⟩ := Rd.of_own h9
  cases e1
  obtain ⟨b, off, e2, hb, hc⟩ := hr.at_ (by omega)
  cases e2
  exact ⟨rfl, by simpa using hc m _ (by simp [ptrs, he])⟩
end
end Go.Proofs.Ytmlomceemcbnaaa.Qtwo
