/- A slice of one-cell elements that may begin inside its block: read, cut, appended to, kept. Conditions: none. -/
import Derived.Test.YtdfplhoijapoeaaLib
import Derived.Deep.AppendSrc
import Derived.Deep.MidRow
import Derived.Laws.Append
import Derived.Laws.AppendOwn
import Derived.Laws.IdiomCopy
set_option linter.unusedVariables false
set_option linter.unusedSimpArgs false
namespace Go.Proofs.Ytdfplhoijapoeaa.Lwt
open Go.RowKit Go.Proofs.Ytdfplhoijapoeaa.Lib1

structure Wt (ok : Nat → Prop) (W : World) (A : Option Addr) (n c : Nat) (xs : List Value) : Prop where
  len : xs.length = n
  cap : n ≤ c
  at_ : 0 < c → ∃ g off, A = some ⟨g, off, none⟩ ∧ ok g ∧ (∀ j u, xs[j]? = some u → W.cell? ⟨g, off + j, none⟩ = some u) ∧ ∀ j, j < c → (W.cell? ⟨g, off + j, none⟩).isSome = true ∧ W.frozen? ⟨g, off + j, none⟩ = false
theorem Wt.keep {ok : Nat → Prop} {W W' : World} {A : Option Addr} {n c : Nat} {xs : List Value} (h : Wt ok W A n c xs) (hk : ∀ k, ok k → k < W.heap.size → W'.heap[k]? = W.heap[k]?) : Wt ok W' A n c xs :=
  ⟨h.len, h.cap, fun hc => by
    obtain ⟨g, off, e, ho, h1, h2⟩ := h.at_ hc
    have hg : g < W.heap.size := World.block_lt_of_cell? _ _ (Option.isSome_iff_exists.1 (h2 0 hc).1).choose_spec
    have e1 := hk g ho hg
    exact ⟨g, off, e, ho, fun j u hu => (World.cell?_of_block (a := ⟨g, off + j, none⟩) e1).trans (h1 j u hu), fun j hj => ⟨by rw [World.cell?_of_block (a := ⟨g, off + j, none⟩) e1]; exact (h2 j hj).1, (World.frozen?_of_block (a := ⟨g, off + j, none⟩) e1).trans (h2 j hj).2⟩⟩⟩
theorem Wt.mono {ok ok' : Nat → Prop} {W : World} {A : Option Addr} {n c : Nat} {xs : List Value} (h : Wt ok W A n c xs) (hk : ∀ k, k < W.heap.size → ok k → ok' k) : Wt ok' W A n c xs :=
  ⟨h.len, h.cap, fun hc => by
    obtain ⟨g, off, e, ho, h1, h2⟩ := h.at_ hc
    have hg : g < W.heap.size := World.block_lt_of_cell? _ _ (Option.isSome_iff_exists.1 (h2 0 hc).1).choose_spec
    exact ⟨g, off, e, hk g hg ho, h1, h2⟩⟩
theorem Wt.nil (ok : Nat → Prop) (W : World) : Wt ok W none 0 0 [] := ⟨rfl, Nat.le_refl _, fun h => absurd h (Nat.lt_irrefl _)⟩
/-- The first one. -/
theorem Wt.head {ok : Nat → Prop} {W : World} {A : Option Addr} {n c : Nat} {x : Value} {xs : List Value} (h : Wt ok W A n c (x :: xs)) : ∃ g off, A = some ⟨g, off, none⟩ ∧ W.cell? ⟨g, off, none⟩ = some x := by
  have := h.len
  have := h.cap
  simp only [List.length_cons] at *
  obtain ⟨g, off, e, _, h1, _⟩ := h.at_ (by omega)
  exact ⟨g, off, e, h1 0 x rfl⟩
/-- xs[1:]. -/
theorem Wt.cut {P : Program} (t e : TypeId) (kl : IntKind) {i : TypeInfo} (ht : P.underlying t = some (.slice e)) (hi : P.info? e = some i) (hsz : i.size = 1) {ok : Nat → Prop} {W : World} {A : Option Addr} {n c : Nat} {x : Value} {xs : List Value} (h : Wt ok W A n c (x :: xs)) :
    ∃ A' : Option Addr, (∀ W' : World, (Instr.slice t (.slice A n c) (some (.int kl 1)) none none).run P W' = .ok (.slice A' (n - 1) (c - 1)) W') ∧ Wt ok W A' (n - 1) (c - 1) xs := by
  have hl := h.len
  have hc := h.cap
  simp only [List.length_cons] at hl
  refine ⟨if c = 1 then A else A.map (·.add 1), fun W' => ?_, ⟨by omega, by omega, fun hp => ?_⟩⟩
  · have hel : P.elem t = e := by simp [Program.elem, ht]
    have hu : P.underlying t = some (.slice (P.elem t)) := by rw [hel]; exact ht
    rw [run_slice_l W' t A n c hu kl (1 : Int) (by omega) (by omega), hel]
    simp [sizeOf, typeInfo, hi, hsz, sliced, Result.andThen]
  · rw [if_neg (by omega)]
    obtain ⟨g, off, rfl, ho, h1, h2⟩ := h.at_ (by omega)
    refine ⟨g, off + 1, by simp [add_off], ho, fun j u hu => ?_, fun j hj => ?_⟩
    · rw [show off + 1 + j = off + (j + 1) by omega]
      exact h1 (j + 1) u (by simpa using hu)
    · rw [show off + 1 + j = off + (j + 1) by omega]
      exact h2 (j + 1) (by omega)

theorem grown_setCells (b : Nat) : ∀ (vs : List Value) (o : Nat) (w : World), w.grownBy (w.setCells b o vs) (some b)
  | [], o, w => ⟨rfl, rfl, rfl, Nat.le_refl _, fun _ _ _ => rfl⟩
  | v :: r, o, w => by
    have ih := grown_setCells b r (o + 1) (w.setCell ⟨b, o, none⟩ v)
    have h1 : w.grownBy (w.setCell ⟨b, o, none⟩ v) (some b) := ⟨rfl, rfl, rfl, by simp [World.setCell], fun k _ hn => Below.heap_setCell _ _ _ _ (fun e => hn (by rw [e]))⟩
    exact World.grownBy.trans h1 ih

section
variable {P : Program} {ops : Array Oper} {rest : List Oper} {o : Oper} {a : Act} {Q : Exit → Act → World → Prop}
/-- The run of an append. -/
theorem Wt.push (t ty e : TypeId) {i : TypeInfo} {z : Value} {bytes : Nat} (ht : P.underlying t = some (.slice e)) (hi : P.info? e = some i) (hz : i.zero = some z) (hsz : i.size = 1) (hby : i.bytes = bytes) (hzs : z.cells.size = 1)
    {ok : Nat → Prop} {W : World} {A : Option Addr} {n c : Nat} {xs : List Value} (h : Wt ok W A n c xs) (ad : Addr) (m cc : Nat) (ys : List Value) (hm : 0 < m) (hlen : ys.length = m) (hc : ∀ j u, ys[j]? = some u → W.cell? (ad.add j) = some u) (h1 : ∀ u ∈ ys, u.oneCell' = true)
    (hl : (n + m) * bytes ≤ 140737488355328) (hn63 : n + m ≤ 9223372036854775807) (hok : ∀ k, W.heap.size ≤ k → ok k) :
    ∃ A' c' w' row, (Builtin.append_ #[t, t] ty #[.slice A n c, .slice (some ad) m cc]).run P W = .ok (.slice A' (n + m) c') w' ∧ Wt ok w' A' (n + m) c' (xs ++ ys) ∧ W.grownBy w' row ∧ ∀ k, row = some k → ok k := by
  subst hby
  have hxl := h.len
  have hs : Src P i.size t (.slice (some ad) m cc) m ys W := Src.ofSlice W ht ad m cc ys (by rw [hsz]; omega) hc h1
  by_cases hr : n + m ≤ c
  · obtain ⟨g, off, rfl, ho, h2, h3⟩ := h.at_ (by omega)
    have hcells : ∀ j, j < ys.length → (W.cell? ⟨g, off + n + j, none⟩).isSome = true := fun j hj => by rw [Nat.add_assoc]; exact (h3 (n + j) (by omega)).1
    have hrun := run_append_room_src (P := P) W t t ty e i ht hi g off n c _ m ys hs hr (by rw [hsz, Nat.mul_one]; exact hcells) (by rw [hsz, Nat.mul_one]; exact fun j hj => by rw [Nat.add_assoc]; exact (h3 (n + j) (by omega)).2)
    rw [hsz, Nat.mul_one] at hrun
    refine ⟨_, _, _, some g, hrun, ⟨by simp; omega, hr, fun _ => ⟨g, off, rfl, ho, fun j u hu => ?_, fun j hj => ⟨World.isSome_setCells g ys (off + n) W _ (h3 j hj).1, ?_⟩⟩⟩, grown_setCells g ys (off + n) W, fun k hk => by cases hk; exact ho⟩
    · by_cases hj : j < n
      · rw [List.getElem?_append_left (by omega)] at hu
        rw [World.cell?_setCells_out g ys (off + n) W ⟨g, off + j, none⟩ (fun _ _ => .inl (by show off + j < off + n; omega))]
        exact h2 j u hu
      · rw [List.getElem?_append_right (by omega)] at hu
        have hjy : j - xs.length < ys.length := (List.getElem?_eq_some_iff.1 hu).1
        have := World.cell?_setCells_in g ys (off + n) W hcells (j - xs.length) hjy
        rw [show off + n + (j - xs.length) = off + j by omega] at this
        rw [this]
        rw [List.getElem?_eq_getElem hjy] at hu
        exact hu
    · rw [World.frozen?_setCells]; exact (h3 j hj).2
  · have hold : (Builtin.firstCells i.size n (.slice A n c)).run P W.drew = .ok xs.toArray W.drew := by
      rw [hsz]
      rcases A with _ | ad0
      · have hn0 : n = 0 := by
          rcases Nat.eq_zero_or_pos c with h0 | h0
          · have := h.cap; omega
          · obtain ⟨g, off, e, _⟩ := h.at_ h0; cases e
        subst hn0
        obtain rfl : xs = [] := List.eq_nil_of_length_eq_zero hxl
        exact run_firstCells_none W.drew 1 0 0 c
      · refine run_firstCells_some W.drew 1 n ad0 n c xs (by omega) (fun j u hu => ?_)
        have hjn : j < n := by have := (List.getElem?_eq_some_iff.1 hu).1; omega
        obtain ⟨g, off, e, _, h2, _⟩ := h.at_ (by have := h.cap; omega)
        cases e
        rw [add_off]
        exact h2 j u hu
    have hrun := run_append_grow_src (P := P) W t t ty e i z ht hi hz A n c xs hold _ m ys hs (by omega) (by omega) (growslice_fits (by omega) hl)
    have hge := grownCap_ge W (n + m) c e
    have hb := heap_new W.drew (.cells ((xs ++ ys).toArray ++ Builtin.zeroCells z.cells (grownCap W (n + m) c e - (n + m))) e)
    refine ⟨_, _, _, none, hrun, ⟨by simp; omega, hge, fun _ => ⟨W.heap.size, 0, rfl, hok _ (Nat.le_refl _), fun j u hu => ?_, fun j hj => ⟨?_, free_at hb _⟩⟩⟩, ⟨rfl, rfl, rfl, by simp, fun k hk _ => Below.heap_alloc W.drew _ k hk⟩, fun k hk => by cases hk⟩
    · refine cell_at hb (0 + j) ?_
      rw [Nat.zero_add, Array.getElem?_append_left (by simpa using (List.getElem?_eq_some_iff.1 hu).1)]
      simpa using hu
    · have hsz2 : ((xs ++ ys).toArray ++ Builtin.zeroCells z.cells (grownCap W (n + m) c e - (n + m))).size = grownCap W (n + m) c e := by
        simp [hzs, Builtin.zeroCells]; omega
      have := cell_at hb (0 + j) (Array.getElem?_eq_getElem (by rw [hsz2]; omega))
      exact Option.isSome_iff_exists.2 ⟨_, this⟩
theorem wt_app {W : World} (hgd : o.guard = none) (s x : Operand) (t : TypeId) (ho : o.op = .call { callee := .builtin .append, args := #[s, x], argTypes := #[t, t] })
    (e bytes : Nat) (z : Value) (ht : P.underlying t = some (.slice e)) (hinfo : (P.info? e).map (fun i => (i.zero, i.size, i.bytes)) = some (some z, 1, bytes)) (hzs : z.cells.size = 1) (hby : 0 < bytes)
    {ok : Nat → Prop} {A : Option Addr} {n c : Nat} {xs : List Value} (hs : a.eval s = .slice A n c) (H : Wt ok W A n c xs)
    (ad : Addr) (m cc : Nat) (ys : List Value) (hx : a.eval x = .slice (some ad) m cc) (hm : 0 < m) (hlen : ys.length = m) (hc : ∀ j u, ys[j]? = some u → W.cell? (ad.add j) = some u) (h1 : ∀ u ∈ ys, u.oneCell' = true)
    (hl : (n + m) * bytes ≤ 140737488355328) (hok : ∀ k, W.heap.size ≤ k → ok k)
    (h : ∀ A' c' w' row, Wt ok w' A' (n + m) c' (xs ++ ys) → W.grownBy w' row → (∀ k, row = some k → ok k) → wpList P ops Q rest (a.put o.dst (.slice A' (n + m) c')) w') :
    wpList P ops Q (o :: rest) a W := by
  obtain ⟨i0, hi, hzz⟩ := Option.map_eq_some_iff.1 hinfo
  simp only [Prod.mk.injEq] at hzz
  obtain ⟨hz0, hz1, hz2⟩ := hzz
  have h63 : n + m ≤ 9223372036854775807 := by
    have := Nat.le_trans (Nat.le_mul_of_pos_right (n + m) hby) hl
    omega
  refine wpList_plain hgd fun K' hK' => ?_
  obtain ⟨A', c', w', row, hr, h2, h3, h4⟩ := H.push t o.type e ht hi hz0 hz1 hz2 hzs ad m cc ys hm hlen hc h1 hl h63 hok
  unfold Oper.wp
  simp [execOp, ho, resolve, invoke, builtin, hs, hx, hr, Result.andThen]
  exact hK' _ _ (h A' c' w' row h2 h3 h4)
end
end Go.Proofs.Ytdfplhoijapoeaa.Lwt
