/- A script's two gauges in their arrays; Op as the form reads it. Conditions: none. -/
import Derived.Test.YtecppcgleidhkaaGcd
set_option linter.unusedVariables false
set_option linter.unusedSimpArgs false
set_option exponentiation.threshold 3000
namespace Go.Proofs.Ytecppcgleidhkaa.Gs
open Go.RowKit Go.Proofs.Ytecppcgleidhkaa.Lib1 Go.Proofs.Ytecppcgleidhkaa.Rel Go.Proofs.Ytecppcgleidhkaa.Own Go.Proofs.Ytecppcgleidhkaa.Fl Go.Proofs.Ytecppcgleidhkaa.Gp Go.Proofs.Ytecppcgleidhkaa.Gw Go.Proofs.Ytecppcgleidhkaa.Gm Go.Proofs.Ytecppcgleidhkaa.Gk Go.Proofs.Ytecppcgleidhkaa.Gb Go.Proofs.Ytecppcgleidhkaa.Gx

def opK := Kd.pair (Kd.int .i64) (Kd.pair (Kd.int .i64) (Kd.pair floatK (Kd.pair (Kd.int .i64) (Kd.pair (Kd.int .i64) Kd.unit))))
theorem opens_op : Opens Try.prog 47 opK := by
  apply opens_struct Try.underlying47 (by kernel_rfl)
  apply opensF_cons rfl (by kernel_rfl) (opens_int Try.underlying3)
  apply opensF_cons rfl (by kernel_rfl) (opens_int Try.underlying3)
  apply opensF_cons rfl (by kernel_rfl) (opens_float Try.underlying23)
  apply opensF_cons rfl (by kernel_rfl) (opens_int Try.underlying3)
  apply opensF_cons rfl (by kernel_rfl) (opens_int Try.underlying3)
  exact opensF_nil _
theorem opens_ops : Opens Try.prog 40 (Kd.slice 40 opK) := opens_slice (e := 47) Try.underlying40 (by kernel_rfl) (by decide) (by kernel_rfl) opens_op
theorem op_at {ok : Nat → Prop} {w : World} {A : Option Addr} {n c : Nat} {hs : List (Int × Int × Nat × Int × Int × Unit)} (h : (Kd.slice 40 opK).rel ok w hs [.slice A n c]) (hn : 0 < n) :
    hs.length = n ∧ ∃ b off, A = some ⟨b, off, none⟩ ∧ ok b ∧ ∀ i k o p s x, hs[i]? = some (k, o, p, s, x, ()) → w.cell? ⟨b, off + i * 5, none⟩ = some (.int .i64 k) ∧ w.cell? ⟨b, off + i * 5 + 1, none⟩ = some (.int .i64 o) ∧ w.cell? ⟨b, off + i * 5 + 2, none⟩ = some (.float .f64 p) ∧ w.cell? ⟨b, off + i * 5 + 3, none⟩ = some (.int .i64 s) ∧ w.cell? ⟨b, off + i * 5 + 4, none⟩ = some (.int .i64 x) := by
  obtain ⟨hl, b, off, e, hb, he⟩ := range_of h hn
  refine ⟨hl, b, off, e, hb, fun i k o p s x hi => ?_⟩
  obtain ⟨cs, ⟨c1, r1, e1, h1, c2, r2, e2, h2, c3, r3, e3, h3, c4, r4, e4, h4, c5, r5, e5, h5, h6⟩, hr⟩ := he i _ hi
  have h1' : c1 = _ := h1
  have h2' : c2 = _ := h2
  have h3' : c3 = _ := h3
  have h4' : c4 = _ := h4
  have h5' : c5 = _ := h5
  have h6' : r5 = _ := h6
  subst h1' h2' h3' h4' h5' h6' e5 e4 e3 e2 e1
  exact ⟨hr 0 _ rfl, hr 1 _ rfl, hr 2 _ rfl, hr 3 _ rfl, hr 4 _ rfl⟩
theorem op_fits {y : Int × Int × Nat × Int × Int × Unit} (h : opK.fits y) : (Lit.int .i64 y.1).wf = true ∧ (Lit.int .i64 y.2.1).wf = true ∧ y.2.2.1 < 2 ^ 64 ∧ (Lit.int .i64 y.2.2.2.1).wf = true ∧ (Lit.int .i64 y.2.2.2.2.1).wf = true := ⟨h.1, h.2.1, h.2.2.1, h.2.2.2.1, h.2.2.2.2.1⟩

/-- A gauge's pointer and the document's cells. -/
structure SV where
  gv : Value
  t : Bool
  kp : Nat
  A : Option Addr
  n : Nat
  c : Nat
  B : Option Addr
  m : Nat
  d : Nat
def svNone : SV := ⟨.pointer none, false, 0, none, 0, 0, none, 0, 0⟩
abbrev SideS (E ok : Nat → Prop) (w : World) (N : Nat) (s : SV) : Prop := Side E ok w N s.gv s.t s.kp s.A s.n s.c s.B s.m s.d
def wants (a b : SV) : Array Value := #[.bool a.t, .float .f64 a.kp, .slice a.A a.n a.c, .slice a.B a.m a.d, .bool b.t, .float .f64 b.kp, .slice b.A b.n b.c, .slice b.B b.m b.d]
/-- Both in their arrays at R and R + 1. -/
structure Two (w W : World) (R N : Nat) (E0 k0 E1 k1 : Nat → Prop) (a b : SV) : Prop where
  here : W.heap[R]? = some (.cells #[a.gv, b.gv] 41 (0, 0))
  want : W.heap[R + 1]? = some (.cells (wants a b) 45 (0, 0))
  s0 : SideS E0 k0 W N a
  s1 : SideS E1 k1 W N b
  ee : ∀ k, E0 k → ¬ E1 k
  ke : ∀ k, k0 k → ¬ E1 k
  ek : ∀ k, k1 k → ¬ E0 k
  up : ∀ k, E0 k ∨ E1 k ∨ k0 k ∨ k1 k → R + 1 < k
  chg : Chg (fun _ => False) w W
  lo : w.heap.size ≤ R
section
variable {w W W' W2 : World} {R N : Nat} {E0 k0 E1 k1 E' k' : Nat → Prop} {a b a' b' : SV}
theorem Two.sz (h : Two w W R N E0 k0 E1 k1 a b) : R + 1 < W.heap.size := lt_of _ h.want
theorem Two.stay (h : Two w W R N E0 k0 E1 k1 a b) (hc : Chg (fun _ => False) W W') : Two w W' R (N + 1) E0 k0 E1 k1 a b :=
  ⟨hc.at_ h.here (fun h => h), hc.at_ h.want (fun h => h), h.s0.chg hc (fun _ _ h => h) (fun _ _ h => h) (Nat.le_succ N), h.s1.chg hc (fun _ _ h => h) (fun _ _ h => h) (Nat.le_succ N), h.ee, h.ke, h.ek, h.up, h.chg.trans hc (fun _ _ h => h), h.lo⟩
theorem Two.put0 (h : Two w W R N E0 k0 E1 k1 a b) (hc : Chg E0 W W') (hs : SideS E' k' W' (N + 1) a') (hE : ∀ k, E' k → E0 k ∨ W.heap.size ≤ k) (hk : ∀ k, k' k → k0 k ∨ W.heap.size ≤ k)
    (hc2 : Chg (fun k => k = R ∨ k = R + 1) W' W2) (hh : W2.heap[R]? = some (.cells #[a'.gv, b.gv] 41 (0, 0))) (hw : W2.heap[R + 1]? = some (.cells (wants a' b) 45 (0, 0))) : Two w W2 R (N + 1) E' k' E1 k1 a' b := by
  have hz := h.sz
  have u0 : ∀ k, E' k → R + 1 < k := fun k q => (hE k q).elim (fun q => h.up k (.inl q)) (fun q => by omega)
  have u2 : ∀ k, k' k → R + 1 < k := fun k q => (hk k q).elim (fun q => h.up k (.inr (.inr (.inl q)))) (fun q => by omega)
  have s1' : SideS E1 k1 W' N b := h.s1.chg hc (fun k q e => h.ee k e q) (fun k q e => h.ek k q e) (Nat.le_refl N)
  refine ⟨hh, hw, hs.chg hc2 (fun k q e => by have := u0 k q; omega) (fun k q e => by have := u2 k q; omega) (Nat.le_refl _), s1'.chg hc2 (fun k q e => by have := h.up k (.inr (.inl q)); omega) (fun k q e => by have := h.up k (.inr (.inr (.inr q))); omega) (Nat.le_succ N), fun k q e => ?_, fun k q e => ?_, fun k q e => ?_, fun k q => ?_, ?_, h.lo⟩
  · rcases hE k q with q | q
    · exact h.ee k q e
    · have := h.s1.low k e; omega
  · rcases hk k q with q | q
    · exact h.ke k q e
    · have := h.s1.low k e; omega
  · rcases hE k e with e | e
    · exact h.ek k q e
    · have := h.s1.okl k q; omega
  · rcases q with q | q | q | q
    · exact u0 k q
    · exact h.up k (.inr (.inl q))
    · exact u2 k q
    · exact h.up k (.inr (.inr (.inr q)))
  · exact (h.chg.trans hc (fun k hk q => by have := h.up k (.inl q); have := h.lo; omega)).trans hc2 (fun k hk q => by have := h.lo; omega)
theorem Two.put1 (h : Two w W R N E0 k0 E1 k1 a b) (hc : Chg E1 W W') (hs : SideS E' k' W' (N + 1) b') (hE : ∀ k, E' k → E1 k ∨ W.heap.size ≤ k) (hk : ∀ k, k' k → k1 k ∨ W.heap.size ≤ k)
    (hc2 : Chg (fun k => k = R ∨ k = R + 1) W' W2) (hh : W2.heap[R]? = some (.cells #[a.gv, b'.gv] 41 (0, 0))) (hw : W2.heap[R + 1]? = some (.cells (wants a b') 45 (0, 0))) : Two w W2 R (N + 1) E0 k0 E' k' a b' := by
  have hz := h.sz
  have u0 : ∀ k, E' k → R + 1 < k := fun k q => (hE k q).elim (fun q => h.up k (.inr (.inl q))) (fun q => by omega)
  have u2 : ∀ k, k' k → R + 1 < k := fun k q => (hk k q).elim (fun q => h.up k (.inr (.inr (.inr q)))) (fun q => by omega)
  have s0' : SideS E0 k0 W' N a := h.s0.chg hc (fun k q e => h.ee k q e) (fun k q e => h.ke k q e) (Nat.le_refl N)
  refine ⟨hh, hw, s0'.chg hc2 (fun k q e => by have := h.up k (.inl q); omega) (fun k q e => by have := h.up k (.inr (.inr (.inl q))); omega) (Nat.le_succ N), hs.chg hc2 (fun k q e => by have := u0 k q; omega) (fun k q e => by have := u2 k q; omega) (Nat.le_refl _), fun k q e => ?_, fun k q e => ?_, fun k q e => ?_, fun k q => ?_, ?_, h.lo⟩
  · rcases hE k e with e | e
    · exact h.ee k q e
    · have := h.s0.low k q; omega
  · rcases hE k e with e | e
    · exact h.ke k q e
    · have := h.s0.okl k q; omega
  · rcases hk k q with q | q
    · exact h.ek k q e
    · have := h.s0.low k e; omega
  · rcases q with q | q | q | q
    · exact h.up k (.inl q)
    · exact u0 k q
    · exact h.up k (.inr (.inr (.inl q)))
    · exact u2 k q
  · exact (h.chg.trans hc (fun k hk q => by have := h.up k (.inr (.inl q)); have := h.lo; omega)).trans hc2 (fun k hk q => by have := h.lo; omega)
end
/-- The arrays' cells. -/
theorem two_cells {W : World} {R : Nat} {x y : Value} {a b : SV} (h0 : W.heap[R]? = some (.cells #[x, y] 41 (0, 0))) (h1 : W.heap[R + 1]? = some (.cells (wants a b) 45 (0, 0))) :
    (R < W.heap.size ∧ R + 1 < W.heap.size) ∧ (W.cell? ⟨R, 0, none⟩ = some x ∧ W.cell? ⟨R, 1, none⟩ = some y) ∧
    (W.cell? ⟨R + 1, 0, none⟩ = some (.bool a.t) ∧ W.cell? ⟨R + 1, 1, none⟩ = some (.float .f64 a.kp) ∧ W.cell? ⟨R + 1, 2, none⟩ = some (.slice a.A a.n a.c) ∧ W.cell? ⟨R + 1, 3, none⟩ = some (.slice a.B a.m a.d)) ∧
    (W.cell? ⟨R + 1, 4, none⟩ = some (.bool b.t) ∧ W.cell? ⟨R + 1, 5, none⟩ = some (.float .f64 b.kp) ∧ W.cell? ⟨R + 1, 6, none⟩ = some (.slice b.A b.n b.c) ∧ W.cell? ⟨R + 1, 7, none⟩ = some (.slice b.B b.m b.d)) ∧
    (∀ i, W.frozen? ⟨R, i, none⟩ = false) ∧ ∀ i, W.frozen? ⟨R + 1, i, none⟩ = false :=
  ⟨⟨lt_of _ h0, lt_of _ h1⟩, ⟨cell_at h0 0 rfl, cell_at h0 1 rfl⟩, ⟨cell_at h1 0 rfl, cell_at h1 1 rfl, cell_at h1 2 rfl, cell_at h1 3 rfl⟩, ⟨cell_at h1 4 rfl, cell_at h1 5 rfl, cell_at h1 6 rfl, cell_at h1 7 rfl⟩, fun i => free_at h0 i, fun i => free_at h1 i⟩
theorem op_cells {W : World} {X : Nat} {o0 o1 o2 o3 o4 : Value} {t : TypeId} (h : W.heap[X]? = some (.cells #[o0, o1, o2, o3, o4] t (0, 0))) : X < W.heap.size ∧ W.cell? ⟨X, 0, none⟩ = some o0 ∧ W.cell? ⟨X, 1, none⟩ = some o1 ∧ W.cell? ⟨X, 2, none⟩ = some o2 ∧ W.cell? ⟨X, 3, none⟩ = some o3 ∧ W.cell? ⟨X, 4, none⟩ = some o4 :=
  ⟨lt_of _ h, cell_at h 0 rfl, cell_at h 1 rfl, cell_at h 2 rfl, cell_at h 3 rfl, cell_at h 4 rfl⟩
theorem set_lo {W : World} {R : Nat} {a a' b : SV} (h : W.heap[R + 1]? = some (.cells (wants a b) 45 (0, 0))) :
    ((((W.setCell ⟨R + 1, 0, none⟩ (.bool a'.t)).setCell ⟨R + 1, 1, none⟩ (.float .f64 a'.kp)).setCell ⟨R + 1, 2, none⟩ (.slice a'.A a'.n a'.c)).setCell ⟨R + 1, 3, none⟩ (.slice a'.B a'.m a'.d)).heap[R + 1]? = some (.cells (wants a' b) 45 (0, 0)) :=
  heap_set (heap_set (heap_set (heap_set h 0 _) 1 _) 2 _) 3 _
theorem set_hi {W : World} {R : Nat} {a b b' : SV} (h : W.heap[R + 1]? = some (.cells (wants a b) 45 (0, 0))) :
    ((((W.setCell ⟨R + 1, 4, none⟩ (.bool b'.t)).setCell ⟨R + 1, 5, none⟩ (.float .f64 b'.kp)).setCell ⟨R + 1, 6, none⟩ (.slice b'.A b'.n b'.c)).setCell ⟨R + 1, 7, none⟩ (.slice b'.B b'.m b'.d)).heap[R + 1]? = some (.cells (wants a b') 45 (0, 0)) :=
  heap_set (heap_set (heap_set (heap_set h 4 _) 5 _) 6 _) 7 _
theorem set_off {W : World} {R K j0 j1 j2 j3 : Nat} {v0 v1 v2 v3 : Value} {o : Obj} (h : W.heap[R]? = some o) (hne : R ≠ K) : ((((W.setCell ⟨K, j0, none⟩ v0).setCell ⟨K, j1, none⟩ v1).setCell ⟨K, j2, none⟩ v2).setCell ⟨K, j3, none⟩ v3).heap[R]? = some o :=
  (heap_set_ne _ _ hne).trans ((heap_set_ne _ _ hne).trans ((heap_set_ne _ _ hne).trans ((heap_set_ne _ _ hne).trans h)))
end Go.Proofs.Ytecppcgleidhkaa.Gs
