/- For ranges over functions: what a round keeps (KpF), and the append laws in a fence. Conditions: none. -/
import Derived.Test.YtecppcgleidhkaaLib
import Derived.RangeFuncNested
import Derived.RangeFuncBound
import Derived.RangeFuncCalls
import Derived.RangeFuncLeaves
import Derived.RangeFuncWrites
import Derived.OwnWalkIn
set_option linter.unusedVariables false
namespace Go.Proofs.Ytecppcgleidhkaa.Iter
open Go.RowKit Go.Proofs.Ytecppcgleidhkaa.Lib1

/-- A round turns cells only of the loop's own blocks (fp, told by the world as it is); its own blocks stay, or are new. -/
structure KpF (fp : World → Nat → Prop) (w w' : World) : Prop where
  size : w.heap.size ≤ w'.heap.size
  same : ∀ k c t fr, w.heap[k]? = some (.cells c t fr) → ¬ fp w k → w'.heap[k]? = some (.cells c t fr)
  grow : ∀ k, fp w' k → fp w k ∨ w.heap.size ≤ k

theorem KpF.refl (fp : World → Nat → Prop) (w : World) : KpF fp w w := ⟨Nat.le_refl _, fun _ _ _ _ h _ => h, fun _ h => .inl h⟩
theorem KpF.trans {fp : World → Nat → Prop} {A B C : World} (h : KpF fp A B) (k : KpF fp B C) : KpF fp A C := by
  refine ⟨Nat.le_trans h.size k.size, fun i c t fr hi hn => ?_, fun i hi => ?_⟩
  · refine k.same i c t fr (h.same i c t fr hi hn) (fun hf => ?_)
    rcases h.grow i hf with h1 | h1
    · exact hn h1
    · have := (Array.getElem?_eq_some_iff.1 hi).1; omega
  · rcases k.grow i hi with h1 | h1
    · exact h.grow i h1
    · exact .inr (Nat.le_trans h.size h1)

/-- A footprint that looks at cells alone. -/
def FpOk (fp : World → Nat → Prop) : Prop := ∀ (W : World) (l : Nat) (o o' : Obj), W.heap[l]? = some o → o.isCells = false → o'.isCells = false → ∀ k, fp (W.putObj l o') k → fp W k

section
variable {F : Fence} {n : Nat} {P : Program} {ops : Array Oper} {rest : List Oper} {o : Oper} {a : Act} {Q : Exit → Act → World → Prop}
theorem apIn_src {W : World} (hgd : o.guard = none) (s x : Operand) (t : TypeId) (ho : o.op = .call { callee := .builtin .append, args := #[s, x], argTypes := #[t, t] })
    (base e size bytes : Nat) (z : Value) (ht : P.underlying t = some (.slice e)) (hinfo : (P.info? e).map (fun i => (i.zero, i.size, i.bytes)) = some (some z, size, bytes)) (hzs : z.cells.size = size) (hsz : 0 < size) (hby : 0 < bytes)
    (v : Value) (m0 : Nat) (xs : List Value) (hs : a.eval s = v) (HO : W.ownsRow base e size v m0 xs)
    (ad : Addr) (m c : Nat) (ys : List Value) (hx : a.eval x = .slice (some ad) m c) (hlen : ys.length = m * size) (hc : ∀ j u, ys[j]? = some u → W.cell? (ad.add j) = some u) (h1 : ∀ u ∈ ys, u.oneCell' = true)
    (hl : (m0 + m) * bytes ≤ 140737488355328) (hbase : base ≤ W.heap.size)
    (h : ∀ v1 w1, w1.ownsRow base e size v1 (m0 + m) (xs ++ ys) → W.grownBy w1 v.ownBlock → (v1.ownBlock = v.ownBlock ∨ v1.ownBlock = some W.heap.size) → wpListIn F n P ops Q rest (a.put o.dst v1) w1) :
    wpListIn F n P ops Q (o :: rest) a W := by
  obtain ⟨i0, hi, hzz⟩ := Option.map_eq_some_iff.1 hinfo
  simp only [Prod.mk.injEq] at hzz
  obtain ⟨hz0, hz1, hz2⟩ := hzz
  have hnm : m0 + m ≤ maxLen := by
    have := Nat.le_trans (Nat.le_mul_of_pos_right (m0 + m) hby) hl
    simp only [maxLen]; omega
  refine wpListIn_plain hgd fun K hK' => ?_
  obtain ⟨v', w', hr, h2, h3, h4, h5⟩ := run_append_own_at (P := P) W base t o.type e i0 z size bytes ht hi hz0 hz1 hz2 hzs hsz v m0 xs HO ad m c ys hlen hc h1 hnm hl hbase
  unfold Oper.wpIn
  refine ⟨?_, ?_⟩
  · simp [Oper.about, ho, resolve, Target.leads, Sem.run_pure]
  · rw [Oper.semAt_plain F _ _ (by rw [ho]; intro c hc'; cases hc')]
    simp [execOp, ho, resolve, invoke, builtin, hs, hx, hr, Result.andThen]
    exact hK' _ _ (h v' w' h2 h3 h5)
theorem apIn_one {W : World} (hgd : o.guard = none) (s x : Operand) (t : TypeId) (ho : o.op = .call { callee := .builtin .append, args := #[s, x], argTypes := #[t, t] })
    (base e size bytes : Nat) (z : Value) (ht : P.underlying t = some (.slice e)) (hinfo : (P.info? e).map (fun i => (i.zero, i.size, i.bytes)) = some (some z, size, bytes)) (hzs : z.cells.size = size) (hsz : 0 < size) (hby : 0 < bytes)
    (v : Value) (m0 : Nat) (xs : List Value) (hs : a.eval s = v) (HO : W.ownsRow base e size v m0 xs)
    (ys : Array Value) (hx : a.eval x = .slice (some ⟨W.heap.size, 0, none⟩) 1 1) (hy : ys.size = size) (h1 : ∀ u ∈ ys.toList, u.oneCell' = true)
    (hl : (m0 + 1) * bytes ≤ 140737488355328) (hbase : base ≤ W.heap.size)
    (h : ∀ v1 w1, w1.ownsRow base e size v1 (m0 + 1) (xs ++ ys.toList) → W.grownBy w1 v.ownBlock → (v1.ownBlock = v.ownBlock ∨ ∃ b, v1.ownBlock = some b ∧ W.heap.size ≤ b) → wpListIn F n P ops Q rest (a.put o.dst v1) w1) :
    wpListIn F n P ops Q (o :: rest) a (W.alloc (.cells ys e)) := by
  refine apIn_src hgd s x t ho base e size bytes z ht hinfo hzs hsz hby v m0 xs hs (HO.alloc _) _ 1 1 ys.toList hx (by simp [hy]) (fun j u hu => ?_) h1 hl (by simp; omega) (fun v1 w1 a1 a2 a3 => h v1 w1 a1 (World.grownBy.trans (World.grownBy_alloc W _ _) a2) ?_)
  · rw [add_off, Nat.zero_add]
    exact cell_at (heap_new W _) j (by simpa using hu)
  · rcases a3 with a3 | a3
    · exact .inl a3
    · exact .inr ⟨_, a3, by simp⟩
end
/-- At a call, under the wide fence: the plain contract. -/
theorem wide_call {n m : Nat} {P : Program} {f : FuncId} {args : Array Value} {W : World} {R R' : Ending → World → Prop} (h : Calls P f args W R') (k : ∀ e w', R' e w' → R e w') :
    Fence.wide.fn f ∧ (Fence.wide.depth.isSome = true → 1 ≤ n) ∧ CallsIn Fence.wide m P f args W R :=
  ⟨trivial, fun h => (by cases h), (callsIn_wide.2 h).mono k⟩
/-- The same in a round. -/
theorem wide_callR {l n m : Nat} {P : Program} {f : FuncId} {args : Array Value} {W : World} {R R' : Ending → World → Prop} (h : Calls P f args W R') (k : ∀ e w', R' e w' → R e w') :
    (Fence.wide.inRound l).fn f ∧ ((Fence.wide.inRound l).depth.isSome = true → 1 ≤ n) ∧ CallsIn (Fence.wide.inRound l) m P f args W R :=
  ⟨trivial, fun h => (by cases h), CallsIn.inRound l ((callsIn_wide.2 h).mono k)⟩

/-- The footprint of a loop that gathers in one boxed slice: the box, and the row that it holds. -/
def boxFp (Bl : Nat) (W : World) (k : Nat) : Prop := k = Bl ∨ ∃ v, W.cell? ⟨Bl, 0, none⟩ = some v ∧ v.ownBlock = some k

theorem KpF.putObj {Bl : Nat} (W : World) (l : Nat) (o o' : Obj) (h : W.heap[l]? = some o) (hc : o.isCells = false) (hne : l ≠ Bl) : KpF (boxFp Bl) W (W.putObj l o') := by
  have hsame : ∀ k, k ≠ l → (W.putObj l o').heap[k]? = W.heap[k]? := fun k hk => World.putObj_heap_other hk
  refine ⟨by simp, fun k c t fr hk _ => ?_, fun k hk => ?_⟩
  · refine (hsame k (fun e => ?_)).trans hk
    subst e
    rw [h] at hk; cases hk; cases hc
  · rcases hk with rfl | ⟨v, hv, he⟩
    · exact .inl (.inl rfl)
    · refine .inl (.inr ⟨v, ?_, he⟩)
      rwa [World.cell?_of_block (a := ⟨Bl, 0, none⟩) (hsame Bl hne.symm)] at hv

/-- Cells stay where a block that is none is turned. -/
theorem own_cells {W W' : World} {row : Option Nat} {B : Nat} (hg : W.grownBy W' row) (hr : ∀ r, row = some r → B ≤ r ∧ ∃ o : Obj, W.heap[r]? = some o ∧ o.isCells = false) {k : Nat} {c : Array Value} {t : TypeId} {fr : Nat × Nat} (hk : W.heap[k]? = some (.cells c t fr)) : W'.heap[k]? = some (.cells c t fr) := by
  refine (hg.block k (lt_of W hk) (fun e => ?_)).trans hk
  obtain ⟨_, o, ho, hc⟩ := hr k e.symm
  rw [hk] at ho; cases ho; cases hc
theorem own_row {W W' : World} {row : Option Nat} {B : Nat} (hg : W.grownBy W' row) (hr : ∀ r, row = some r → B ≤ r ∧ ∃ o : Obj, W.heap[r]? = some o ∧ o.isCells = false) {base e sz n : Nat} {v : Value} {xs : List Value} (h : W.ownsRow base e sz v n xs) : W'.ownsRow base e sz v n xs := by
  refine ⟨h.1, ?_⟩
  rcases h.2 with hn | ⟨g, cap, cur, rfl, hb, hgg, rest⟩
  · exact .inl hn
  · exact .inr ⟨g, cap, cur, rfl, hb, own_cells hg hr hgg, rest⟩
theorem own_chgF {w W W' : World} {row : Option Nat} {B : Nat} (hg : W.grownBy W' row) (hr : ∀ r, row = some r → B ≤ r ∧ ∃ o : Obj, W.heap[r]? = some o ∧ o.isCells = false) (hB : w.heap.size ≤ B) (h : Chg (fun _ => False) w W) : Chg (fun _ => False) w W' :=
  h.of_grown hg (fun k hk => .inl (Nat.le_trans hB (hr k hk).1))

/-- 'l = append(l, ..)', l in a box: what lies behind the store. -/
theorem box_append {W w1 : World} {Bl t e base m m' sz : Nat} {v v1 : Value} {xs ys : List Value} (hb : W.heap[Bl]? = some (.cells #[v] t (0, 0))) (ho : W.ownsRow base e sz v m xs) (hB : Bl < base) (hg : W.grownBy w1 v.ownBlock)
    (ho1 : w1.ownsRow base e sz v1 m' ys) (hr : v1.ownBlock = v.ownBlock ∨ ∃ b, v1.ownBlock = some b ∧ W.heap.size ≤ b) :
    (w1.setCell ⟨Bl, 0, none⟩ v1).heap[Bl]? = some (.cells #[v1] t (0, 0)) ∧ (w1.setCell ⟨Bl, 0, none⟩ v1).ownsRow base e sz v1 m' ys ∧ KeepsOthers W (w1.setCell ⟨Bl, 0, none⟩ v1) ∧ KpF (boxFp Bl) W (w1.setCell ⟨Bl, 0, none⟩ v1) ∧
      (∀ k (o : Obj), k < base → k ≠ Bl → W.heap[k]? = some o → (w1.setCell ⟨Bl, 0, none⟩ v1).heap[k]? = some o) ∧ (∀ w : World, Chg (fun _ => False) w W → w.heap.size ≤ Bl → Chg (fun _ => False) w (w1.setCell ⟨Bl, 0, none⟩ v1)) := by
  have hne : some Bl ≠ v.ownBlock := fun h => by have := (ho.lt Bl h.symm).1; omega
  have hb1 : w1.heap[Bl]? = some (.cells #[v] t (0, 0)) := (hg.block Bl (lt_of W hb) hne).trans hb
  have hb2 := heap_set hb1 0 v1
  have hcell : W.cell? ⟨Bl, 0, none⟩ = some v := cell_at hb 0 rfl
  have hcell2 : (w1.setCell ⟨Bl, 0, none⟩ v1).cell? ⟨Bl, 0, none⟩ = some v1 := cell_at hb2 0 rfl
  refine ⟨hb2, own_move ho1 (fun k hk => heap_set_ne _ _ (fun e => by have := (ho1.lt k hk).1; omega)), ?_, ⟨?_, fun k c t' fr hk hn => ?_, fun k hk => ?_⟩, fun k o hk hkb hko => ?_, fun w hc hw => ?_⟩
  · refine (KeepsOthers.of_grownBy hg (fun j o hj ho' => ?_)).trans (KeepsOthers.setCell _ _ _)
    rcases ho.2 with ⟨rfl, _⟩ | ⟨g, cap, cur, rfl, _, hgg, _⟩
    · simp [Value.ownBlock] at hj
    · obtain rfl : g = j := by simpa [Value.ownBlock] using hj
      rw [hgg] at ho'; cases ho'; rfl
  · have := hg.size
    simpa [World.setCell] using this
  · have h1 : k ≠ Bl := fun e => hn (.inl e)
    have h2 : some k ≠ v.ownBlock := fun e => hn (.inr ⟨v, hcell, e.symm⟩)
    exact (heap_set_ne _ _ h1).trans ((hg.block k (lt_of W hk) h2).trans hk)
  · rcases hk with rfl | ⟨u, hu, he⟩
    · exact .inl (.inl rfl)
    · rw [hcell2] at hu
      cases hu
      rcases hr with hr | ⟨b, hr, hle⟩
      · exact .inl (.inr ⟨v, hcell, hr ▸ he⟩)
      · rw [hr] at he; cases he; exact .inr hle
  · exact (heap_set_ne _ _ hkb).trans ((hg.block k (lt_of W hko) (fun e => by have := (ho.lt k e.symm).1; omega)).trans hko)
  · exact (hc.of_grown hg (fun k hk => .inl (by have := (ho.lt k hk).1; omega))).set (.inl hw)
end Go.Proofs.Ytecppcgleidhkaa.Iter
