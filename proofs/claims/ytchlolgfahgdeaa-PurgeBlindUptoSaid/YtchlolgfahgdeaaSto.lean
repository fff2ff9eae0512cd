/- A struct stored whole into its block, as one step. Conditions: none. -/
import Derived.Test.YtchlolgfahgdeaaLib
import Derived.Deep.MidRow
import Derived.Deep.RegionLaw
namespace Go.Proofs.Ytchlolgfahgdeaa.Sto
open Go.RowKit Go.Proofs.Ytchlolgfahgdeaa.Lib1

theorem chg_setCells (b : Nat) : ∀ (vs : List Value) (o : Nat) (w : World), Chg (fun k => k = b) w (w.setCells b o vs)
  | [], _, w => Chg.refl _ w
  | v :: r, o, w => ((Chg.refl (fun k => k = b) w).set (b := b) (.inr rfl) (i := o) (u := v)).trans (chg_setCells b r (o + 1) _) (fun _ _ h => h)
theorem heap_setCells (b T : Nat) (fr : Nat × Nat) : ∀ (vs : List Value) (o : Nat) (w : World) (c : Array Value), w.heap[b]? = some (.cells c T fr) → o + vs.length ≤ c.size →
    ∃ c', (w.setCells b o vs).heap[b]? = some (.cells c' T fr) ∧ c'.size = c.size ∧ ∀ j, c'[j]? = if o ≤ j ∧ j < o + vs.length then vs[j - o]? else c[j]?
  | [], o, w, c, h, _ => ⟨c, h, rfl, fun j => by rw [if_neg (by simp only [List.length_nil]; omega)]⟩
  | v :: r, o, w, c, h, hl => by
    simp only [List.length_cons] at hl
    obtain ⟨c', h1, h2, h3⟩ := heap_setCells b T fr r (o + 1) (w.setCell ⟨b, o, none⟩ v) _ (heap_set h o v) (by simp; omega)
    refine ⟨c', h1, by rw [h2]; simp, fun j => ?_⟩
    rw [h3 j]
    simp only [List.length_cons]
    by_cases hj : o + 1 ≤ j ∧ j < o + 1 + r.length
    · rw [if_pos hj, if_pos (by omega), show j - o = (j - (o + 1)) + 1 by omega, List.getElem?_cons_succ]
    · rw [if_neg hj]
      by_cases hjo : j = o
      · subst hjo
        rw [if_pos (by omega), Nat.sub_self, List.getElem?_cons_zero, Array.getElem?_setIfInBounds_self_of_lt (by omega)]
      · rw [if_neg (by omega), Array.getElem?_setIfInBounds_ne (fun h => hjo h.symm)]
theorem heap_setAll {b T : Nat} {fr : Nat × Nat} {w : World} {c cells : Array Value} (h : w.heap[b]? = some (.cells c T fr)) (hs : c.size = cells.size) : (w.setCells b 0 cells.toList).heap[b]? = some (.cells cells T fr) := by
  obtain ⟨c', h1, h2, h3⟩ := heap_setCells b T fr cells.toList 0 w c h (by simp; omega)
  rw [h1]
  congr 2
  apply Array.ext_getElem?
  intro j
  rw [h3 j]
  by_cases hj : j < cells.size
  · rw [if_pos (by simp; omega)]; simp
  · rw [if_neg (by simp; omega), Array.getElem?_eq_none (by omega), Array.getElem?_eq_none (by omega)]

section
variable {P : Program} {ops : Array Oper} {rest : List Oper} {o : Oper} {a : Act} {Q : Exit → Act → World → Prop}
theorem wp_store_all {K : Act → World → Prop} {W : World} (ty : TypeId) (x y : Operand) (ho : o.op = .store ty x y) (b : Nat) (cells : Array Value) (hx : a.eval x = .pointer (some ⟨b, 0, none⟩)) (hy : a.eval y = .agg cells)
    (T : Nat) (old : Array Value) (hb : W.heap[b]? = some (.cells old T (0, 0))) (hs : old.size = cells.size) (hi : (P.info? ty).map (·.size) = some cells.size) (h1 : cells.all (·.oneCell') = true)
    (h : ∀ W', W'.heap[b]? = some (.cells cells T (0, 0)) → Chg (fun k => k = b) W W' → K (a.put o.dst undef) W') : o.wp P a W K Q := by
  refine wp_store_mid ty x y ho b 0 cells hx hy (fun j hj => ?_) hi h1 (h _ (heap_setAll hb hs) (chg_setCells b _ 0 W))
  rw [Nat.zero_add]
  exact ⟨by rw [cell_at hb j (Array.getElem?_eq_getElem (by omega))]; rfl, free_at hb j⟩
theorem wpList_store_all {W : World} (hgd : o.guard = none) (ty : TypeId) (x y : Operand) (ho : o.op = .store ty x y) (b : Nat) (cells : Array Value) (hx : a.eval x = .pointer (some ⟨b, 0, none⟩)) (hy : a.eval y = .agg cells)
    (T : Nat) (old : Array Value) (hb : W.heap[b]? = some (.cells old T (0, 0))) (hs : old.size = cells.size) (hi : (P.info? ty).map (·.size) = some cells.size) (h1 : cells.all (·.oneCell') = true)
    (h : ∀ W', W'.heap[b]? = some (.cells cells T (0, 0)) → Chg (fun k => k = b) W W' → wpList P ops Q rest (a.put o.dst undef) W') : wpList P ops Q (o :: rest) a W :=
  wpList_plain hgd fun _ hK => wp_store_all ty x y ho b cells hx hy T old hb hs hi h1 fun W' g1 g2 => hK _ _ (h W' g1 g2)
theorem step_store_all {K : Act → World → Prop} {E : Prop} {W : World} (hgd : o.guard = none) (ty : TypeId) (x y : Operand) (ho : o.op = .store ty x y) (b : Nat) (cells : Array Value) (hx : a.eval x = .pointer (some ⟨b, 0, none⟩)) (hy : a.eval y = .agg cells)
    (T : Nat) (old : Array Value) (hb : W.heap[b]? = some (.cells old T (0, 0))) (hs : old.size = cells.size) (hi : (P.info? ty).map (·.size) = some cells.size) (h1 : cells.all (·.oneCell') = true)
    (h : ∀ W', W'.heap[b]? = some (.cells cells T (0, 0)) → Chg (fun k => k = b) W W' → K (a.put o.dst undef) W') : if Region.wanted o (yielded ops a.tmps) = true then Oper.wp P o a W K Q else E := by
  have hw : Region.wanted o (yielded ops a.tmps) = true := by simp [Region.wanted, hgd]
  rw [if_pos hw]
  exact wp_store_all ty x y ho b cells hx hy T old hb hs hi h1 h
end
end Go.Proofs.Ytchlolgfahgdeaa.Sto
