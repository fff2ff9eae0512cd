/- Lists of one's own, of whatever kind of data; append by laws on data. Conditions: as told. -/
import Derived.Test.YtecppcgleidhkaaRel
import Derived.Test.YtecppcgleidhkaaLat
import Derived.Deep.MidRow
import Derived.Deep.AppendLies
set_option linter.unusedVariables false
namespace Go.Proofs.Ytecppcgleidhkaa.Own
open Go.RowKit Go.Proofs.Ytecppcgleidhkaa.Lib1 Go.Proofs.Ytecppcgleidhkaa.Rel

/-- Where what one owns may lead. -/
def In (base : Nat) (w : World) (v : Value) (k : Nat) : Prop := base ≤ k ∧ k < w.heap.size ∧ v.ownBlock ≠ some k
/-- A list of one's own: its row, and what its elements lead to. -/
def OwnL {α : Type} (d : Kd α) (e : TypeId) (base : Nat) (w : World) (v : Value) (xs : List α) : Prop :=
  ∃ cells, w.ownsRow base e d.sz v xs.length cells ∧ ∀ i x, xs[i]? = some x → d.rel (In base w v) w x ((cells.drop (i * d.sz)).take d.sz)

section
variable {α : Type} {d : Kd α} {e : TypeId} {base : Nat} {w w1 : World} {v : Value} {xs : List α}
theorem OwnL.nil (d : Kd α) (e : TypeId) (base : Nat) (w : World) : OwnL d e base w (.slice none 0 0) [] :=
  ⟨[], World.ownsRow_nil _ _ _ _, fun i x h => by simp at h⟩
theorem OwnL.form (h : OwnL d e base w v xs) : ∃ A c, v = .slice A xs.length c := by
  obtain ⟨cells, ho, _⟩ := h
  obtain ⟨A, c, e, _⟩ := Rd.of_own ho
  exact ⟨A, c, e⟩
theorem OwnL.low (h : OwnL d e base w v xs) : ∀ k, v.ownBlock = some k → base ≤ k ∧ k < w.heap.size := by
  obtain ⟨cells, ho, _⟩ := h
  exact ho.lt
/-- What turns neither the row nor what is led to leaves it. -/
theorem OwnL.move (h : OwnL d e base w v xs) (hs : w.heap.size ≤ w1.heap.size) (hm : ∀ k, base ≤ k → k < w.heap.size → w1.heap[k]? = w.heap[k]?) : OwnL d e base w1 v xs := by
  obtain ⟨cells, ho, hr⟩ := h
  exact ⟨cells, own_move ho (fun k hk => hm k (ho.lt k hk).1 (ho.lt k hk).2), fun i x hx => d.mono (fun k hk => ⟨hk.1, Nat.lt_of_lt_of_le hk.2.1 hs, hk.2.2⟩) (d.move (fun k hk => hm k hk.1 hk.2.1) (hr i x hx))⟩
theorem OwnL.chg {S : Nat → Prop} (h : OwnL d e base w v xs) (c : Chg S w w1) (hS : ∀ k, base ≤ k → k < w.heap.size → ¬ S k) : OwnL d e base w1 v xs :=
  h.move c.size (fun k h1 h2 => c.block k h2 (hS k h1 h2))
theorem OwnL.up (h : OwnL d e base w v xs) (c : Chg (fun _ => False) w w1) : OwnL d e base w1 v xs := h.chg c (fun _ _ _ h => h)
theorem OwnL.base_le {base' : Nat} (h : OwnL d e base w v xs) (hb : base' ≤ base) : OwnL d e base' w v xs := by
  obtain ⟨cells, ho, hr⟩ := h
  exact ⟨cells, own_base_le ho (fun k hk => Nat.le_trans hb (ho.lt k hk).1), fun i x hx => d.mono (fun k hk => ⟨Nat.le_trans hb hk.1, hk.2⟩) (hr i x hx)⟩
/-- It reads. -/
theorem OwnL.reads {bytes : Nat} (h : OwnL d e base w v xs) : (Kd.slice bytes d).rel (fun k => base ≤ k ∧ k < w.heap.size) w xs [v] := by
  obtain ⟨cells, ho, hr⟩ := h
  obtain ⟨A, c, rfl, hrd⟩ := Rd.of_own ho
  exact ⟨A, c, cells, rfl, hrd.mono (fun k hk => ho.lt k hk), fun i x hx => d.mono (fun k hk => ⟨hk.1, hk.2.1⟩) (hr i x hx)⟩
end

/-- Rows of different element types are apart. -/
theorem OwnL.apart {α β : Type} {d : Kd α} {d' : Kd β} {e e' b b' : Nat} {w : World} {v v' : Value} {xs : List α} {ys : List β} (h : OwnL d e b w v xs) (h' : OwnL d' e' b' w v' ys) (hne : e ≠ e') : ∀ k, v.ownBlock = some k → v'.ownBlock ≠ some k := by
  intro k hk hk'
  obtain ⟨cells, ho, _⟩ := h
  obtain ⟨cells', ho', _⟩ := h'
  rcases ho.2 with ⟨rfl, _⟩ | ⟨g, cap, cur, rfl, _, hg, _⟩
  · cases hk
  · rcases ho'.2 with ⟨rfl, _⟩ | ⟨g', cap', cur', rfl, _, hg', _⟩
    · cases hk'
    · simp only [Value.ownBlock, Option.some.injEq] at hk hk'
      subst hk hk'
      rw [hg] at hg'
      injection hg' with hg'
      injection hg' with _ ht
      exact hne ht
/-- A flat list: its own block alone matters. -/
theorem OwnL.flat {α : Type} {d : Kd α} {e base : Nat} {w w1 : World} {v : Value} {xs : List α} (hflat : ∀ (ok ok' : Nat → Prop) (w w' : World) (x : α) (cs : List Value), d.rel ok w x cs → d.rel ok' w' x cs) (h : OwnL d e base w v xs) (hm : ∀ k, v.ownBlock = some k → w1.heap[k]? = w.heap[k]?) : OwnL d e base w1 v xs := by
  obtain ⟨cells, ho, hr⟩ := h
  exact ⟨cells, own_move ho hm, fun i x hx => hflat _ _ _ _ _ _ (hr i x hx)⟩

theorem chunk_append {α : Type} (xs ys : List α) (i sz n : Nat) (hn : xs.length = n * sz) (hi : i < n) : (((xs ++ ys).drop (i * sz)).take sz) = ((xs.drop (i * sz)).take sz) := by
  have h1 : (i + 1) * sz ≤ n * sz := Nat.mul_le_mul_right _ hi
  rw [Nat.succ_mul] at h1
  rw [List.drop_append_of_le_length (by omega), List.take_append_of_le_length (by rw [List.length_drop]; omega)]
theorem chunk_last {α : Type} (xs ys : List α) (sz n : Nat) (hn : xs.length = n * sz) (hy : ys.length = sz) : (((xs ++ ys).drop (n * sz)).take sz) = ys := by
  rw [← hn, List.drop_left, ← hy, List.take_length]
theorem chunk_right {α : Type} (xs ys : List α) (i sz n : Nat) (hn : xs.length = n * sz) (hi : n ≤ i) : (((xs ++ ys).drop (i * sz)).take sz) = ((ys.drop ((i - n) * sz)).take sz) := by
  rw [List.drop_append, List.drop_eq_nil_of_le (by rw [hn]; exact Nat.mul_le_mul_right _ hi), List.nil_append, hn, ← Nat.sub_mul]

section
variable {α : Type} {P : Program} {ops : Array Oper} {rest : List Oper} {o : Oper} {a : Act} {Q : Exit → Act → World → Prop}
/-- What append of one has done, on data. -/
theorem pushed {d : Kd α} {e base : Nat} {W w1 : World} {v v1 : Value} {xs : List α} {cells ys : List Value} {x : α} (hd : W.ownsRow base e d.sz v xs.length cells) (hr : ∀ i x, xs[i]? = some x → d.rel (In base W v) W x ((cells.drop (i * d.sz)).take d.sz))
    (hx : d.rel (In base W v) W x ys) (a1 : w1.ownsRow base e d.sz v1 (xs.length + 1) (cells ++ ys)) (a2 : W.grownBy w1 v.ownBlock) (a3 : v1.ownBlock = v.ownBlock ∨ ∃ b, v1.ownBlock = some b ∧ W.heap.size ≤ b) : OwnL d e base w1 v1 (xs ++ [x]) := by
  have hin : ∀ k, In base W v k → In base w1 v1 k := fun k hk => ⟨hk.1, Nat.lt_of_lt_of_le hk.2.1 a2.size, by
    rcases a3 with h | ⟨b, h, hb⟩
    · rw [h]; exact hk.2.2
    · rw [h]; intro he; have := Option.some.inj he; have := hk.2.1; omega⟩
  have hmv : ∀ k, In base W v k → w1.heap[k]? = W.heap[k]? := fun k hk => a2.block k hk.2.1 (fun he => hk.2.2 he.symm)
  refine ⟨cells ++ ys, by simpa using a1, fun i y hy => ?_⟩
  rcases Nat.lt_or_ge i xs.length with hi | hi
  · rw [List.getElem?_append_left hi] at hy
    rw [chunk_append cells ys i d.sz xs.length hd.1 hi]
    exact d.mono hin (d.move hmv (hr i y hy))
  · have hil := (List.getElem?_eq_some_iff.1 hy).1
    simp only [List.length_append, List.length_singleton] at hil
    obtain rfl : i = xs.length := by omega
    have hxy : x = y := by simpa using hy
    rw [chunk_last cells ys d.sz xs.length hd.1 (d.len hx), ← hxy]
    exact d.mono hin (d.move hmv hx)

/-- append(v, x), x's cells just boxed. -/
theorem ap_push {W : World} (hgd : o.guard = none) (s x : Operand) (t : TypeId) (ho : o.op = .call { callee := .builtin .append, args := #[s, x], argTypes := #[t, t] }) (d : Kd α)
    (base e bytes : Nat) (z : Value) (ht : P.underlying t = some (.slice e)) (hinfo : (P.info? e).map (fun i => (i.zero, i.size, i.bytes)) = some (some z, d.sz, bytes)) (hzs : z.cells.size = d.sz) (hsz : 0 < d.sz) (hby : 0 < bytes)
    (v : Value) (xs : List α) (hs : a.eval s = v) (HO : OwnL d e base W v xs) (y : α) (ys : Array Value) (hx : a.eval x = .slice (some ⟨W.heap.size, 0, none⟩) 1 1) (hy : d.rel (In base W v) W y ys.toList)
    (hl : (xs.length + 1) * bytes ≤ 140737488355328) (hbase : base ≤ W.heap.size)
    (h : ∀ v1 w1, OwnL d e base w1 v1 (xs ++ [y]) → Chg (fun k => v.ownBlock = some k) W w1 → wpList P ops Q rest (a.put o.dst v1) w1) :
    wpList P ops Q (o :: rest) a (W.alloc (.cells ys e)) := by
  obtain ⟨cells, hc, hr⟩ := HO
  refine ap_one hgd s x t ho base e d.sz bytes z ht hinfo hzs hsz hby v xs.length cells hs hc ys hx (by simpa using d.len hy) (d.one hy) hl hbase (fun v1 w1 a1 a2 a3 => h v1 w1 (pushed hc hr hy a1 a2 a3) ?_)
  exact ⟨a2.os, a2.tape, a2.output, a2.size, fun k hk hn => a2.block k hk (fun he => hn he.symm)⟩

/-- The same, the new block's number under another spelling. -/
theorem ap_push' {W : World} (hgd : o.guard = none) (s x : Operand) (t : TypeId) (ho : o.op = .call { callee := .builtin .append, args := #[s, x], argTypes := #[t, t] }) (d : Kd α)
    (base e bytes : Nat) (z : Value) (ht : P.underlying t = some (.slice e)) (hinfo : (P.info? e).map (fun i => (i.zero, i.size, i.bytes)) = some (some z, d.sz, bytes)) (hzs : z.cells.size = d.sz) (hsz : 0 < d.sz) (hby : 0 < bytes)
    (v : Value) (xs : List α) (hs : a.eval s = v) (HO : OwnL d e base W v xs) (y : α) (ys : Array Value) (gx : Nat) (hx : a.eval x = .slice (some ⟨gx, 0, none⟩) 1 1) (hgx : gx = W.heap.size) (hy : d.rel (In base W v) W y ys.toList)
    (hl : (xs.length + 1) * bytes ≤ 140737488355328) (hbase : base ≤ W.heap.size)
    (h : ∀ v1 w1, OwnL d e base w1 v1 (xs ++ [y]) → Chg (fun k => v.ownBlock = some k) W w1 → wpList P ops Q rest (a.put o.dst v1) w1) :
    wpList P ops Q (o :: rest) a (W.alloc (.cells ys e)) := by
  subst hgx
  exact ap_push hgd s x t ho d base e bytes z ht hinfo hzs hsz hby v xs hs HO y ys hx hy hl hbase h

/-- append(v, x) in a region that draws its order; x's cells are the block gx. -/
theorem step_push {K : Act → World → Prop} {E : Prop} {W : World} (hgd : o.guard = none) (s x : Operand) (t : TypeId) (ho : o.op = .call { callee := .builtin .append, args := #[s, x], argTypes := #[t, t] }) (d : Kd α)
    (base e bytes : Nat) (z : Value) (ht : P.underlying t = some (.slice e)) (hinfo : (P.info? e).map (fun i => (i.zero, i.size, i.bytes)) = some (some z, d.sz, bytes)) (hzs : z.cells.size = d.sz) (hsz : 0 < d.sz) (hby : 0 < bytes)
    (v : Value) (xs : List α) (hs : a.eval s = v) (HO : OwnL d e base W v xs) (y : α) (ys : Array Value) (gx : Nat) (hx : a.eval x = .slice (some ⟨gx, 0, none⟩) 1 1) (hgx : W.heap[gx]? = some (.cells ys e (0, 0))) (hy : d.rel (In base W v) W y ys.toList)
    (hl : (xs.length + 1) * bytes ≤ 140737488355328) (hbase : base ≤ W.heap.size)
    (h : ∀ g cap w1, OwnL d e base w1 (.slice (some ⟨g, 0, none⟩) (xs.length + 1) cap) (xs ++ [y]) → Chg (fun k => v.ownBlock = some k) W w1 → K (a.put o.dst (.slice (some ⟨g, 0, none⟩) (xs.length + 1) cap)) w1) :
    if Region.wanted o (yielded ops a.tmps) = true then Oper.wp P o a W K Q else E := by
  have hw : Region.wanted o (yielded ops a.tmps) = true := by simp [Region.wanted, hgd]
  rw [if_pos hw]
  obtain ⟨cells, hc, hr⟩ := HO
  obtain ⟨i0, hi, hzz⟩ := Option.map_eq_some_iff.1 hinfo
  simp only [Prod.mk.injEq] at hzz
  obtain ⟨hz0, hz1, hz2⟩ := hzz
  have hlen : ys.toList.length = d.sz := d.len hy
  have hml : xs.length + 1 ≤ maxLen := by
    have := Nat.le_trans (Nat.le_mul_of_pos_right (xs.length + 1) hby) hl
    simp only [maxLen]; omega
  refine wp_append_lies W s x t ho base e i0 z d.sz bytes ht hi hz0 hz1 hz2 hzs hsz v xs.length cells hs hc ⟨gx, 0, none⟩ 1 1 ys.toList hx (by omega) (World.news_of_block hgx) (d.one hy) (by omega) hml hl hbase W.heap.size rfl (fun g cap w1 a1 a2 a3 a4 => h g cap w1 (pushed hc hr hy a1 a2 ?_) ⟨a2.os, a2.tape, a2.output, a2.size, fun k hk hn => a2.block k hk (fun he => hn he.symm)⟩)
  rcases a3 with a3 | a3
  · exact .inl a3.symm
  · exact .inr ⟨g, rfl, by omega⟩

/-- append(v, src...) on data. -/
theorem ap_all {W : World} (hgd : o.guard = none) (s x : Operand) (t : TypeId) (ho : o.op = .call { callee := .builtin .append, args := #[s, x], argTypes := #[t, t] }) (d : Kd α)
    (base e bytes : Nat) (z : Value) (ht : P.underlying t = some (.slice e)) (hinfo : (P.info? e).map (fun i => (i.zero, i.size, i.bytes)) = some (some z, d.sz, bytes)) (hzs : z.cells.size = d.sz) (hsz : 0 < d.sz) (hby : 0 < bytes)
    (v : Value) (xs : List α) (hs : a.eval s = v) (HO : OwnL d e base W v xs) (A : Option Addr) (c : Nat) (ys : List α) (b' : Nat) {ok : Nat → Prop} (hx : a.eval x = .slice A ys.length c) (hy : (Kd.slice b' d).rel ok W ys [.slice A ys.length c])
    (hok : ∀ y cs, d.rel ok W y cs → d.rel (In base W v) W y cs)
    (hl : (xs.length + ys.length) * bytes ≤ 140737488355328) (hbase : base ≤ W.heap.size)
    (h : ∀ v1 w1, OwnL d e base w1 v1 (xs ++ ys) → Chg (fun k => v.ownBlock = some k) W w1 → wpList P ops Q rest (a.put o.dst v1) w1) :
    wpList P ops Q (o :: rest) a W := by
  obtain ⟨cells, hc, hr⟩ := HO
  obtain ⟨A', c', cs, he, hrd, hel⟩ := hy
  simp only [List.cons.injEq, Value.slice.injEq, and_true, true_and] at he
  obtain ⟨rfl, rfl⟩ := he
  have h1 : ∀ u ∈ cs, u.oneCell' = true := by
    intro u hu
    obtain ⟨j, hj, rfl⟩ := List.mem_iff_getElem.1 hu
    have hlen := hrd.len
    have hq : j / d.sz < ys.length := (Nat.div_lt_iff_lt_mul hsz).2 (by omega)
    have := d.one (hel (j / d.sz) _ (List.getElem?_eq_getElem hq)) cs[j]
    refine this (List.mem_iff_getElem?.2 ⟨j % d.sz, ?_⟩)
    rw [List.getElem?_take, if_pos (Nat.mod_lt _ hsz), List.getElem?_drop, Nat.mul_comm, Nat.div_add_mod]
    exact List.getElem?_eq_getElem hj
  refine ap_src hgd s x t ho base e d.sz bytes z ht hinfo hzs hsz hby v xs.length cells hs hc A ys.length c cs hx hrd.any h1 hl hbase (fun v1 w1 a1 a2 a3 => h v1 w1 ?_ ⟨a2.os, a2.tape, a2.output, a2.size, fun k hk hn => a2.block k hk (fun he => hn he.symm)⟩)
  have hin : ∀ k, In base W v k → In base w1 v1 k := fun k hk => ⟨hk.1, Nat.lt_of_lt_of_le hk.2.1 a2.size, by
    rcases a3 with h | h
    · rw [h]; exact hk.2.2
    · rw [h]; intro he; have := Option.some.inj he; have := hk.2.1; omega⟩
  have hmv : ∀ k, In base W v k → w1.heap[k]? = W.heap[k]? := fun k hk => a2.block k hk.2.1 (fun he => hk.2.2 he.symm)
  refine ⟨cells ++ cs, by simpa using a1, fun i y hy => ?_⟩
  rcases Nat.lt_or_ge i xs.length with hi | hi
  · rw [List.getElem?_append_left hi] at hy
    rw [chunk_append cells cs i d.sz xs.length hc.1 hi]
    exact d.mono hin (d.move hmv (hr i y hy))
  · rw [List.getElem?_append_right hi] at hy
    rw [chunk_right cells cs i d.sz xs.length hc.1 hi]
    exact d.mono hin (d.move hmv (hok y _ (hel _ y hy)))
end

/-- An element's cells. -/
theorem range_of {α : Type} {bytes : Nat} {d : Kd α} {ok : Nat → Prop} {w : World} {A : Option Addr} {n c : Nat} {xs : List α} (h : (Kd.slice bytes d).rel ok w xs [.slice A n c]) (hn : 0 < n) :
    xs.length = n ∧ ∃ b off, A = some ⟨b, off, none⟩ ∧ ok b ∧ ∀ i x, xs[i]? = some x → ∃ cs, d.rel ok w x cs ∧ w.rangeAt b (off + i * d.sz) cs := by
  obtain ⟨A', c', cells, he, hrd, hel⟩ := h
  simp only [List.cons.injEq, Value.slice.injEq, and_true] at he
  obtain ⟨rfl, rfl, rfl⟩ := he
  obtain ⟨b, off, rfl, hb, hc⟩ := hrd.at_ hn
  refine ⟨rfl, b, off, rfl, hb, fun i x hx => ⟨_, hel i x hx, fun j u hu => ?_⟩⟩
  rw [List.getElem?_take] at hu
  split at hu
  · rw [List.getElem?_drop] at hu
    rw [Nat.add_assoc]
    exact hc _ u hu
  · cases hu
theorem slice_form {α : Type} {bytes : Nat} {d : Kd α} {ok : Nat → Prop} {w : World} {xs : List α} {cs : List Value} (h : (Kd.slice bytes d).rel ok w xs cs) : ∃ A c, cs = [.slice A xs.length c] ∧ xs.length ≤ c := by
  obtain ⟨A', c', cells, he, hrd, hel⟩ := h
  exact ⟨A', c', he, hrd.cap⟩
end Go.Proofs.Ytecppcgleidhkaa.Own
