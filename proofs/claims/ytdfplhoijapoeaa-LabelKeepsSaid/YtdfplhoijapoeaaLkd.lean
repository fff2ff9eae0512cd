/- How a config lies in memory; how an argument opens so. Conditions: none. -/
import Derived.Test.YtdfplhoijapoeaaProg
import Derived.Test.YtdfplhoijapoeaaOwn
import Derived.Test.YtdfplhoijapoeaaLcf
import Derived.KernelRfl
set_option linter.unusedVariables false
set_option linter.unusedSimpArgs false
namespace Go.Proofs.Ytdfplhoijapoeaa.Lkd
open Go.RowKit Go.Proofs.Ytdfplhoijapoeaa.Lib1 Go.Proofs.Ytdfplhoijapoeaa.Rel Go.Proofs.Ytdfplhoijapoeaa.Own Go.Proofs.Ytdfplhoijapoeaa.Lbl Go.Proofs.Ytdfplhoijapoeaa.Lck Go.Proofs.Ytdfplhoijapoeaa.Lmay Go.Proofs.Ytdfplhoijapoeaa.Lcf

theorem opens_conv {α β : Type} {P : Program} {t : TypeId} {d : Kd α} {d' : Kd β} (h : Opens P t d) (f : α → β) (h1 : ∀ ok w y cs, d.rel ok w y cs → d.fits y → d'.rel ok w (f y) cs) (h2 : ∀ y, d.fits y → d'.fits (f y)) : Opens P t d' := by
  intro H enc W fuel cs x hx hs
  obtain ⟨y, g1, g2⟩ := h enc W fuel cs x hx hs
  exact ⟨f y, h1 _ _ _ _ g1 g2, h2 y g2⟩
/-! ### A config -/
def u64K : Kd Nat where
  sz := 1
  rel := fun _ _ x cs => cs = [.int .u64 (x : Int)]
  fits := fun x => x < 18446744073709551616
  len := by rintro _ _ _ _ rfl; rfl
  one := by rintro _ _ _ _ rfl u hu; simp at hu; subst hu; rfl
  move := fun _ h => h
  mono := fun _ h => h
theorem opens_u64 {P : Program} {t : TypeId} (ht : P.underlying t = some (.int .u64)) : Opens P t u64K :=
  opens_conv (opens_int ht) (fun n => n.toNat) (fun ok w y cs h hf => by
    obtain ⟨h0, h1⟩ := Lbw.wf_u64 hf
    show cs = _
    rw [h, Int.toNat_of_nonneg h0]) (fun y hf => by
    obtain ⟨h0, h1⟩ := Lbw.wf_u64 hf
    show y.toNat < _
    omega)
def accK : Kd Acc where
  sz := 5
  rel := fun _ _ a cs => cs = [.int .i64 a.quota, .int .i64 a.opn, .int .i64 a.queue, .int .i64 a.window, .int .i64 a.start]
  fits := fun _ => True
  len := by rintro _ _ _ _ rfl; rfl
  one := by rintro _ _ _ _ rfl u hu; simp at hu; rcases hu with rfl | rfl | rfl | rfl | rfl <;> rfl
  move := fun _ h => h
  mono := fun _ h => h
theorem opens_acc : Opens Try.prog 34 accK := by
  have h : Opens Try.prog 34 (Kd.pair (Kd.int .i64) (Kd.pair (Kd.int .i64) (Kd.pair (Kd.int .i64) (Kd.pair (Kd.int .i64) (Kd.pair (Kd.int .i64) Kd.unit))))) := by
    apply opens_struct Try.underlying34 (by kernel_rfl)
    apply opensF_cons rfl (by kernel_rfl) (opens_int Try.underlying3)
    apply opensF_cons rfl (by kernel_rfl) (opens_int Try.underlying3)
    apply opensF_cons rfl (by kernel_rfl) (opens_int Try.underlying3)
    apply opensF_cons rfl (by kernel_rfl) (opens_int Try.underlying3)
    apply opensF_cons rfl (by kernel_rfl) (opens_int Try.underlying3)
    exact opensF_nil _
  apply opens_conv (d' := accK) h (fun y => (⟨y.1, y.2.1, y.2.2.1, y.2.2.2.1, y.2.2.2.2.1⟩ : Acc))
  rotate_left
  · exact fun _ _ => trivial
  rintro ok w ⟨y1, y2, y3, y4, y5, y6⟩ cs ⟨c1, c2, rfl, h1, c3, c4, rfl, h2, c5, c6, rfl, h3, c7, c8, rfl, h4, c9, c10, rfl, h5, h6⟩ _
  replace h1 : c1 = _ := h1
  replace h2 : c3 = _ := h2
  replace h3 : c5 = _ := h3
  replace h4 : c7 = _ := h4
  replace h5 : c9 = _ := h5
  replace h6 : c10 = _ := h6
  subst h1 h2 h3 h4 h5 h6
  rfl
abbrev cfgP := Kd.pair (Kd.slice 8 u64K) (Kd.pair (Kd.slice 40 accK) (Kd.pair (Kd.slice 8 (Kd.int .i64)) Kd.unit))
theorem opens_cfg : Opens Try.prog 32 cfgP := by
  apply opens_struct Try.underlying32 (by kernel_rfl)
  apply opensF_cons rfl (by kernel_rfl) (opens_slice (e := 23) Try.underlying28 (by kernel_rfl) (by decide) (by kernel_rfl) (opens_u64 Try.underlying23))
  apply opensF_cons rfl (by kernel_rfl) (opens_slice (e := 34) Try.underlying29 (by kernel_rfl) (by decide) (by kernel_rfl) opens_acc)
  apply opensF_cons rfl (by kernel_rfl) (opens_slice (e := 3) Try.underlying30 (by kernel_rfl) (by decide) (by kernel_rfl) (opens_int Try.underlying3))
  exact opensF_nil _

/-- Flat elements: the cells are one list. -/
theorem flat_cells {α : Type} {d : Kd α} (f : α → List Value) (hf : ∀ ok w x cs, d.rel ok w x cs → cs = f x) (h0 : 0 < d.sz) : ∀ (xs : List α) (cells : List Value) (ok : Nat → Prop) (w : World), cells.length = xs.length * d.sz → (∀ i x, xs[i]? = some x → d.rel ok w x ((cells.drop (i * d.sz)).take d.sz)) → cells = xs.flatMap f
  | [], cells, _, _, hl, _ => List.eq_nil_of_length_eq_zero (by simpa using hl)
  | x :: xs, cells, ok, w, hl, h => by
    have hx := hf _ _ _ _ (h 0 x rfl)
    simp only [Nat.zero_mul, List.drop_zero] at hx
    have ih := flat_cells f hf h0 xs (cells.drop d.sz) ok w (by rw [List.length_drop, hl]; simp only [List.length_cons, Nat.succ_mul]; omega) (fun i y hy => by
      have := h (i + 1) y (by simpa using hy)
      rw [List.drop_drop]
      rwa [show d.sz + i * d.sz = (i + 1) * d.sz by rw [Nat.succ_mul]; omega])
    rw [List.flatMap_cons, ← hx, ← ih, List.take_append_drop]
theorem flatMap_one {α β : Type} (f : α → β) : ∀ (l : List α), l.flatMap (fun x => [f x]) = l.map f
  | [] => rfl
  | x :: l => by rw [List.flatMap_cons, flatMap_one f l]; rfl
def cfgOf (y : List Nat × List Acc × List Int × Unit) : Cfg := ⟨y.1, y.2.1, y.2.2.1⟩
theorem cfg_at {ok : Nat → Prop} {w : World} {y : List Nat × List Acc × List Int × Unit} {cs : List Value} (h : cfgP.rel ok w y cs) (hf : cfgP.fits y) :
    ∃ A1 A2 A3 n1 n2 n3 c1 c2 c3, cs = [.slice A1 n1 c1, .slice A2 n2 c2, .slice A3 n3 c3] ∧ CfgAt ok w A1 A2 A3 n1 n2 n3 c1 c2 c3 (cfgOf y) ∧ cfgFits (cfgOf y) := by
  obtain ⟨d1, d2, rfl, ⟨A1, c1, cells1, rfl, r1, g1⟩, d3, d4, rfl, ⟨A2, c2, cells2, rfl, r2, g2⟩, d5, d6, rfl, ⟨A3, c3, cells3, rfl, r3, g3⟩, h4⟩ := h
  replace h4 : d6 = _ := h4
  subst h4
  have e1 := flat_cells (d := u64K) (fun x => [.int .u64 (x : Int)]) (fun _ _ _ _ h => h) (by decide) _ cells1 ok w r1.len g1
  have e2 := flat_cells (d := accK) _ (fun _ _ _ _ h => h) (by decide) _ cells2 ok w r2.len g2
  have e3 := flat_cells (d := Kd.int .i64) (fun x => [.int .i64 x]) (fun _ _ _ _ h => h) (by decide) _ cells3 ok w r3.len g3
  rw [flatMap_one] at e1 e3
  obtain ⟨f1, f2, f3, _⟩ := hf
  refine ⟨A1, A2, A3, _, _, _, c1, c2, c3, rfl, ⟨rfl, rfl, rfl, ?_, ?_, ?_, f1.2, ?_, ?_, ?_⟩, f1.1, f2.1, f3.1⟩
  · rw [e1] at r1; exact r1
  · rw [e2] at r2; exact r2
  · rw [e3] at r3; exact r3
  · have := f1.1; omega
  · have := f2.1; omega
  · have := f3.1; omega
theorem agg_of {v a b c : Value} (h : v.cells.toList = [a, b, c]) : v = .agg #[a, b, c] := by
  cases v with
  | agg xs => obtain ⟨xs⟩ := xs; simp only [Value.cells] at h; subst h; rfl
  | _ => simp [Value.cells] at h
end Go.Proofs.Ytdfplhoijapoeaa.Lkd
