/- General words on worlds: what a step may have turned (Chg), and how a block's cells read. Conditions: none. -/
import Derived.WalkKit
import Derived.RowKit3
import Derived.Deep.Draws
import Derived.Maps.AppendAt
import Derived.Laws.AppendOwnNone
namespace Go.Proofs.Ytecppcgleidhkaa.Lib1
open Go.RowKit

/-- Only blocks in S have turned; new ones may have come. -/
structure Chg (S : Nat → Prop) (w w' : World) : Prop where
  os : w'.os = w.os
  tape : w'.tape = w.tape
  output : w'.output = w.output
  size : w.heap.size ≤ w'.heap.size
  block : ∀ k, k < w.heap.size → ¬ S k → w'.heap[k]? = w.heap[k]?

namespace Chg
variable {S T : Nat → Prop} {w w1 w2 : World}
theorem refl (S : Nat → Prop) (w : World) : Chg S w w := ⟨rfl, rfl, rfl, Nat.le_refl _, fun _ _ _ => rfl⟩
theorem mono (h : Chg S w w1) (hS : ∀ k, k < w.heap.size → S k → T k) : Chg T w w1 := ⟨h.os, h.tape, h.output, h.size, fun k hk hn => h.block k hk (fun hs => hn (hS k hk hs))⟩
theorem trans (h : Chg S w w1) (g : Chg T w1 w2) (hT : ∀ k, k < w.heap.size → T k → S k) : Chg S w w2 :=
  ⟨g.os.trans h.os, g.tape.trans h.tape, g.output.trans h.output, Nat.le_trans h.size g.size, fun k hk hn => (g.block k (Nat.lt_of_lt_of_le hk h.size) (fun ht => hn (hT k hk ht))).trans (h.block k hk hn)⟩
theorem drewN (h : Chg S w w1) (n : Nat) : Chg S w (w1.drewN n) := ⟨h.os, h.tape, h.output, h.size, h.block⟩
theorem drew (h : Chg S w w1) : Chg S w w1.drew := ⟨h.os, h.tape, h.output, h.size, h.block⟩
theorem from_drewN {n : Nat} (h : Chg S (w.drewN n) w1) : Chg S w w1 := ⟨h.os, h.tape, h.output, h.size, h.block⟩
theorem alloc (h : Chg S w w1) (o : Obj) : Chg S w (w1.alloc o) :=
  h.trans (T := fun _ => False) ⟨rfl, rfl, rfl, by simp, fun k hk _ => Below.heap_alloc _ _ _ hk⟩ (fun _ _ h => h.elim)
theorem setCell (h : Chg S w w1) {p : Addr} (hp : w.heap.size ≤ p.block ∨ S p.block) (u : Value) : Chg S w (w1.setCell p u) :=
  h.trans (T := fun k => k = p.block) ⟨rfl, rfl, rfl, by simp [World.setCell], fun k _ hn => Below.heap_setCell _ _ _ _ hn⟩ (fun k hk e => by
    subst e
    rcases hp with hp | hp
    · omega
    · exact hp)
theorem set (h : Chg S w w1) {b : Nat} (hb : w.heap.size ≤ b ∨ S b) {i : Nat} {u : Value} : Chg S w (w1.setCell ⟨b, i, none⟩ u) := h.setCell (p := ⟨b, i, none⟩) hb u
theorem below (h : Chg (fun _ => False) w w1) : Below w.heap.size w w1 := ⟨h.os, h.tape, h.output, h.size, fun k hk => h.block k hk (fun h => h.elim)⟩
theorem of_below (h : Below w.heap.size w w1) : Chg S w w1 := ⟨h.os, h.tape, h.output, h.size, fun k hk _ => h.block k hk⟩
theorem of_grown {row : Option Nat} (h : Chg S w w1) (g : w1.grownBy w2 row) (hr : ∀ k, row = some k → w.heap.size ≤ k ∨ S k) : Chg S w w2 :=
  h.trans (T := fun k => some k = row) ⟨g.os, g.tape, g.output, g.size, fun k hk hn => g.block k hk hn⟩ (fun k hk e => by
    rcases hr k e.symm with h | h
    · omega
    · exact h)
theorem at_ (h : Chg S w w1) {k : Nat} {o : Obj} (hk : w.heap[k]? = some o) (hn : ¬ S k) : w1.heap[k]? = some o :=
  (h.block k (Array.getElem?_eq_some_iff.1 hk).1 hn).trans hk
end Chg

/-- What is owned stays, where its block has not turned. -/
theorem own_move {w w1 : World} {base : Nat} {e : TypeId} {sz n : Nat} {v : Value} {xs : List Value} (h : w.ownsRow base e sz v n xs) (hm : ∀ k, v.ownBlock = some k → w1.heap[k]? = w.heap[k]?) : w1.ownsRow base e sz v n xs := by
  refine ⟨h.1, ?_⟩
  rcases h.2 with hn | ⟨g, cap, cur, rfl, hb, hg, rest⟩
  · exact .inl hn
  · exact .inr ⟨g, cap, cur, rfl, hb, (hm g rfl).trans hg, rest⟩
theorem own_chg {S : Nat → Prop} {w w1 : World} (c : Chg S w w1) {base : Nat} {e : TypeId} {sz n : Nat} {v : Value} {xs : List Value} (h : w.ownsRow base e sz v n xs) (hn : ∀ k, v.ownBlock = some k → ¬ S k) : w1.ownsRow base e sz v n xs :=
  own_move h (fun k hk => c.block k (h.lt k hk).2 (hn k hk))
theorem own_base_le {w : World} {base base' : Nat} {e : TypeId} {sz n : Nat} {v : Value} {xs : List Value} (h : w.ownsRow base e sz v n xs) (hb : ∀ k, v.ownBlock = some k → base' ≤ k) : w.ownsRow base' e sz v n xs := by
  refine ⟨h.1, ?_⟩
  rcases h.2 with hn | ⟨g, cap, cur, rfl, _, rest⟩
  · exact .inl hn
  · exact .inr ⟨g, cap, cur, rfl, hb g rfl, rest⟩

theorem lt_of (w : World) {k : Nat} {o : Obj} (hk : w.heap[k]? = some o) : k < w.heap.size := (Array.getElem?_eq_some_iff.1 hk).1

/-- A block of cells reads so. -/
theorem cell_at {w : World} {b : Nat} {c : Array Value} {t : TypeId} {fr : Nat × Nat} (h : w.heap[b]? = some (.cells c t fr)) (i : Nat) {v : Value} (hv : c[i]? = some v) : w.cell? ⟨b, i, none⟩ = some v := by
  simp [World.cell?, h, hv]
theorem free_at {w : World} {b : Nat} {c : Array Value} {t : TypeId} (h : w.heap[b]? = some (.cells c t (0, 0))) (i : Nat) : w.frozen? ⟨b, i, none⟩ = false := by
  simp [World.frozen?, h]
/-- A store into a block of cells. -/
theorem heap_set {w : World} {b : Nat} {c : Array Value} {t : TypeId} {fr : Nat × Nat} (h : w.heap[b]? = some (.cells c t fr)) (i : Nat) (v : Value) : (w.setCell ⟨b, i, none⟩ v).heap[b]? = some (.cells (c.setIfInBounds i v) t fr) := by
  obtain ⟨hlt, hb⟩ := Array.getElem?_eq_some_iff.1 h
  show (w.heap.modify b _)[b]? = _
  rw [Array.getElem?_eq_getElem (by rw [Array.size_modify]; exact hlt), Array.getElem_modify_self, hb]
  rfl
theorem heap_set_ne {w : World} {b k : Nat} (i : Nat) (v : Value) (h : k ≠ b) : (w.setCell ⟨b, i, none⟩ v).heap[k]? = w.heap[k]? := Below.heap_setCell _ _ _ _ h
theorem heap_new (w : World) (o : Obj) : (w.alloc o).heap[w.heap.size]? = some o := by
  show (w.heap.push o)[w.heap.size]? = _
  simp
theorem heap_old {w : World} {k : Nat} {o : Obj} (o' : Obj) (h : w.heap[k]? = some o) : (w.alloc o').heap[k]? = some o := (Below.heap_alloc w o' k (lt_of w h)).trans h

/-- A slice whose n elements' cells (sz each) read as told; its block is among ok's. -/
structure Rd (ok : Nat → Prop) (w : World) (A : Option Addr) (n c sz : Nat) (cells : List Value) : Prop where
  len : cells.length = n * sz
  cap : n ≤ c
  nil : A = none → c = 0
  at_ : 0 < n → ∃ b off, A = some ⟨b, off, none⟩ ∧ ok b ∧ ∀ j u, cells[j]? = some u → w.cell? ⟨b, off + j, none⟩ = some u

theorem add_off (b off j : Nat) : (⟨b, off, none⟩ : Addr).add j = ⟨b, off + j, none⟩ := by
  unfold Addr.add
  split
  · rename_i h; subst h; rfl
  · rfl

theorem Rd.mono {ok ok' : Nat → Prop} {w : World} {A : Option Addr} {n c sz : Nat} {cells : List Value} (h : Rd ok w A n c sz cells) (ho : ∀ k, ok k → ok' k) : Rd ok' w A n c sz cells :=
  ⟨h.len, h.cap, h.nil, fun hn => by
    obtain ⟨b, off, e, hb, hc⟩ := h.at_ hn
    exact ⟨b, off, e, ho b hb, hc⟩⟩
theorem Rd.move {ok : Nat → Prop} {w w1 : World} {A : Option Addr} {n c sz : Nat} {cells : List Value} (h : Rd ok w A n c sz cells) (hm : ∀ k, ok k → w1.heap[k]? = w.heap[k]?) : Rd ok w1 A n c sz cells :=
  ⟨h.len, h.cap, h.nil, fun hn => by
    obtain ⟨b, off, e, hb, hc⟩ := h.at_ hn
    exact ⟨b, off, e, hb, fun j u hu => (World.cell?_of_block (hm b hb)).trans (hc j u hu)⟩⟩
theorem Rd.any {ok : Nat → Prop} {w : World} {A : Option Addr} {n c sz : Nat} {cells : List Value} (h : Rd ok w A n c sz cells) : Rd (fun _ => True) w A n c sz cells := h.mono (fun _ _ => trivial)
/-- A row of one's own reads. -/
theorem Rd.of_own {w : World} {base : Nat} {e : TypeId} {sz n : Nat} {v : Value} {xs : List Value} (h : w.ownsRow base e sz v n xs) : ∃ A c, v = .slice A n c ∧ Rd (fun k => v.ownBlock = some k) w A n c sz xs := by
  have hl := h.1
  rcases h.2 with ⟨rfl, rfl⟩ | ⟨g, cap, cur, rfl, _, hg, hn, _, hs, ht⟩
  · exact ⟨none, 0, rfl, hl, Nat.le_refl _, fun _ => rfl, fun h => absurd h (Nat.lt_irrefl _)⟩
  · refine ⟨_, cap, rfl, hl, hn, (fun h => by cases h), fun _ => ⟨g, 0, rfl, rfl, fun j u hu => ?_⟩⟩
    rw [Nat.zero_add]
    refine cell_at hg j ?_
    rw [← ht, List.getElem?_take] at hu
    split at hu
    · simpa using hu
    · cases hu

section
variable {P : Program} {ops : Array Oper} {rest : List Oper} {o : Oper} {a : Act} {Q : Exit → Act → World → Prop}
/-- append(v, ys...): v nil or a row of one's own; ys whatever reads. -/
theorem ap_src {W : World} (hgd : o.guard = none) (s x : Operand) (t : TypeId) (ho : o.op = .call { callee := .builtin .append, args := #[s, x], argTypes := #[t, t] })
    (base e size bytes : Nat) (z : Value) (ht : P.underlying t = some (.slice e)) (hinfo : (P.info? e).map (fun i => (i.zero, i.size, i.bytes)) = some (some z, size, bytes)) (hzs : z.cells.size = size) (hsz : 0 < size) (hby : 0 < bytes)
    (v : Value) (n : Nat) (xs : List Value) (hs : a.eval s = v) (HO : W.ownsRow base e size v n xs)
    (A : Option Addr) (m c : Nat) (ys : List Value) (hx : a.eval x = .slice A m c) (HR : Rd (fun _ => True) W A m c size ys) (h1 : ∀ u ∈ ys, u.oneCell' = true)
    (hl : (n + m) * bytes ≤ 140737488355328) (hbase : base ≤ W.heap.size)
    (h : ∀ v1 w1, w1.ownsRow base e size v1 (n + m) (xs ++ ys) → W.grownBy w1 v.ownBlock → (v1.ownBlock = v.ownBlock ∨ v1.ownBlock = some W.heap.size) → wpList P ops Q rest (a.put o.dst v1) w1) :
    wpList P ops Q (o :: rest) a W := by
  obtain ⟨i0, hi, hzz⟩ := Option.map_eq_some_iff.1 hinfo
  simp only [Prod.mk.injEq] at hzz
  obtain ⟨hz0, hz1, hz2⟩ := hzz
  have hnm : n + m ≤ maxLen := by
    have := Nat.le_trans (Nat.le_mul_of_pos_right (n + m) hby) hl
    simp only [maxLen]; omega
  rcases A with _ | ad
  · have hc := HR.nil rfl
    have hm : m = 0 := by have := HR.cap; omega
    subst hc hm
    obtain rfl : ys = [] := List.eq_nil_of_length_eq_zero (by have := HR.len; simpa using this)
    refine wpList_append_own_none hgd s x t ho base e i0 size ht hi v n xs hs HO hx ?_
    exact h v W (by simpa using HO) (World.grownBy.refl W _) (.inl rfl)
  · refine wpList_append_own_at W hgd s x t ho base e i0 z size bytes ht hi hz0 hz1 hz2 hzs hsz v n xs hs HO ad m c ys hx HR.len (fun j u hu => ?_) h1 hnm hl hbase (fun v1 w1 a1 a2 _ a4 => h v1 w1 a1 a2 a4)
    have hm : 0 < m := by
      have := HR.len
      have := (List.getElem?_eq_some_iff.1 hu).1
      rcases Nat.eq_zero_or_pos m with h0 | h0
      · subst h0; omega
      · exact h0
    obtain ⟨b, off, e', _, hc⟩ := HR.at_ hm
    cases e'
    rw [add_off]
    exact hc j u hu

/-- append(v, y): the goal's world is W with y's box. -/
theorem ap_one {W : World} (hgd : o.guard = none) (s x : Operand) (t : TypeId) (ho : o.op = .call { callee := .builtin .append, args := #[s, x], argTypes := #[t, t] })
    (base e size bytes : Nat) (z : Value) (ht : P.underlying t = some (.slice e)) (hinfo : (P.info? e).map (fun i => (i.zero, i.size, i.bytes)) = some (some z, size, bytes)) (hzs : z.cells.size = size) (hsz : 0 < size) (hby : 0 < bytes)
    (v : Value) (n : Nat) (xs : List Value) (hs : a.eval s = v) (HO : W.ownsRow base e size v n xs)
    (ys : Array Value) (hx : a.eval x = .slice (some ⟨W.heap.size, 0, none⟩) 1 1) (hy : ys.size = size) (h1 : ∀ u ∈ ys.toList, u.oneCell' = true)
    (hl : (n + 1) * bytes ≤ 140737488355328) (hbase : base ≤ W.heap.size)
    (h : ∀ v1 w1, w1.ownsRow base e size v1 (n + 1) (xs ++ ys.toList) → W.grownBy w1 v.ownBlock → (v1.ownBlock = v.ownBlock ∨ ∃ b, v1.ownBlock = some b ∧ W.heap.size ≤ b) → wpList P ops Q rest (a.put o.dst v1) w1) :
    wpList P ops Q (o :: rest) a (W.alloc (.cells ys e)) := by
  refine ap_src hgd s x t ho base e size bytes z ht hinfo hzs hsz hby v n xs hs (HO.alloc _) _ 1 1 ys.toList hx ⟨by simp [hy], Nat.le_refl _, (fun h => by cases h), fun _ => ⟨_, 0, rfl, trivial, fun j u hu => ?_⟩⟩ h1 hl (by simp; omega) (fun v1 w1 a1 a2 a3 => h v1 w1 a1 (World.grownBy.trans (World.grownBy_alloc W _ _) a2) ?_)
  · rw [Nat.zero_add]
    exact cell_at (heap_new W _) j (by simpa using hu)
  · rcases a3 with a3 | a3
    · exact .inl a3
    · exact .inr ⟨_, a3, by simp⟩
end

/-- An empty literal owns nothing yet. -/
theorem own_lit0 {base : Nat} {e sz : Nat} (w : World) (g : Nat) (hg : g = w.heap.size) (hb : base ≤ g) : (w.alloc (.cells #[] e)).ownsRow base e sz (.slice (some ⟨g, 0, none⟩) 0 0) 0 [] := by
  subst hg
  exact World.ownsRow_made w #[] 0 hb (by unfold maxLen; omega) (by simp)

theorem grow_keep {W W' : World} {row : Option Nat} (hg : W.grownBy W' row) {k : Nat} {o : Obj} (h : W.heap[k]? = some o) (hne : some k ≠ row) : W'.heap[k]? = some o := (hg.block k (lt_of W h) hne).trans h
theorem heap_new' (w : World) (o : Obj) {k : Nat} (hk : k = w.heap.size) : (w.alloc o).heap[k]? = some o := by subst hk; exact heap_new w o

/-- 'xs[m:]' without a case on the capacity: A' is a letter. -/
theorem cut_from {P : Program} (t e : TypeId) (kl : IntKind) (sz : Nat) {i : TypeInfo} (ht : P.underlying t = some (.slice e)) (hi : P.info? e = some i) (hsz : i.size = sz) (A : Option Addr) (n c m : Nat) (hm : m ≤ n) :
    ∃ A' : Option Addr, (∀ W : World, (Instr.slice t (.slice A n c) (some (.int kl (m : Int))) none none).run P W = .ok (.slice A' (n - m) (c - m)) W) ∧
      ∀ (ok : Nat → Prop) (w : World) (cells : List Value), Rd ok w A n c sz cells → Rd ok w A' (n - m) (c - m) sz (cells.drop (m * sz)) := by
  refine ⟨if c = m then A else A.map (·.add (m * sz)), fun W => ?_, fun ok w cells h => ⟨?_, ?_, ?_, fun hp => ?_⟩⟩
  · have hel : P.elem t = e := by simp [Program.elem, ht]
    have hu : P.underlying t = some (.slice (P.elem t)) := by rw [hel]; exact ht
    rw [run_slice_l W t A n c hu kl (m : Int) (Int.natCast_nonneg _) (by omega), hel]
    simp [sizeOf, typeInfo, hi, hsz, sliced, Result.andThen]
  · rw [List.length_drop, h.len, Nat.sub_mul]
  · have := h.cap; omega
  · intro hA
    split at hA
    · rename_i hc; omega
    · have : A = none := by simpa using hA
      have := h.nil this; omega
  · have hcap := h.cap
    obtain ⟨b, off, rfl, hk, hc⟩ := h.at_ (by omega)
    rw [if_neg (by omega)]
    refine ⟨b, off + m * sz, by simp [add_off], hk, fun j u hu => ?_⟩
    rw [List.getElem?_drop] at hu
    rw [show off + m * sz + j = off + (m * sz + j) by omega]
    exact hc _ u hu

end Go.Proofs.Ytecppcgleidhkaa.Lib1
