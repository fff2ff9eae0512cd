/- The arguments of the gauge's laws as the form reads them. Conditions: none. -/
import Derived.Test.YtecppcgleidhkaaGn
import Derived.OpenShut
import Derived.ShutString
import Derived.ChangeOld
import Derived.SizedLaws
set_option linter.unusedVariables false
namespace Go.Proofs.Ytecppcgleidhkaa.Gk
open Go.RowKit Go.Proofs.Ytecppcgleidhkaa.Lib1 Go.Proofs.Ytecppcgleidhkaa.Rel Go.Proofs.Ytecppcgleidhkaa.Gm Go.ChangeShapes Go.WideShapes Go.ChangeAt

theorem opens_conv {α β : Type} {P : Program} {t : TypeId} {d : Kd α} {d' : Kd β} (h : Opens P t d) (f : α → β) (h1 : ∀ ok w y cs, d.rel ok w y cs → d.fits y → d'.rel ok w (f y) cs) (h2 : ∀ y, d.fits y → d'.fits (f y)) : Opens P t d' := by
  intro H enc W fuel cs x hx hs
  obtain ⟨y, g1, g2⟩ := h enc W fuel cs x hx hs
  exact ⟨f y, h1 _ _ _ _ g1 g2, h2 y g2⟩
theorem opens_heard : Opens Try.prog 34 heardK := by
  have h : Opens Try.prog 34 (Kd.pair (Kd.int .i64) (Kd.pair (Kd.int .i64) Kd.unit)) := by
    apply opens_struct Try.underlying34 (by kernel_rfl)
    apply opensF_cons rfl (by kernel_rfl) (opens_int Try.underlying3)
    apply opensF_cons rfl (by kernel_rfl) (opens_int Try.underlying3)
    exact opensF_nil _
  apply opens_conv (d' := heardK) h (fun y => (y.1, y.2.1))
  rotate_left
  · exact fun y hy => ⟨hy.1, hy.2.1⟩
  rintro ok w ⟨y1, y2, y4⟩ cs ⟨c1, c2, rfl, h1, c3, c4, rfl, h2, h4⟩ _
  replace h4 : c4 = _ := h4
  subst h4
  exact ⟨c1, c3, by simp, h1, h2⟩
theorem opens_hs : Opens Try.prog 22 (Kd.slice 16 heardK) := opens_slice (e := 34) Try.underlying22 (by kernel_rfl) (by decide) (by kernel_rfl) opens_heard
def floatK : Kd Nat where
  sz := 1
  rel := fun _ _ x cs => cs = [.float .f64 x]
  fits := fun x => x < 2 ^ 64
  len := by rintro _ _ _ _ rfl; rfl
  one := by rintro _ _ _ _ rfl u hu; simp at hu; subst hu; rfl
  move := fun _ h => h
  mono := fun _ h => h
section
variable {H : Type} {enc : TypeId × Value → H} {P : Program} {w : World} {base : Nat} {spare : Nat → Bool} {held : Bool} {fuel : Nat} {t : TypeId} {cs : List Value} {x : DataW H × List MemPlace}
theorem trod_float {k : FloatKind} (ht : P.underlying t = some (.float k)) (h : DataW.trod enc P w base spare held fuel t cs = some x) : ∃ n, cs = [.float k n] ∧ x = (.lit (.float k n), []) ∧ (Lit.float k n).wf = true := by
  cases fuel with
  | zero => simp [DataW.trod] at h
  | succ n =>
    unfold DataW.trod at h
    rw [ht] at h
    split at h <;> simp_all
theorem wf_float {n : Nat} (h : (Lit.float .f64 n).wf = true) : n < 2 ^ 64 := by
  simpa [Lit.wf] using h
theorem opens_float {P : Program} {t : TypeId} (ht : P.underlying t = some (.float .f64)) : Opens P t floatK := by
  intro H enc W fuel cs x h _
  obtain ⟨n, rfl, rfl, hw⟩ := trod_float ht h
  exact ⟨n, rfl, wf_float hw⟩
theorem open_float {r : Reach} {b0 : Nat} {v : Value} {d : DataW H} {ps : List MemPlace} (ht : P.underlying t = some (.float .f64)) (hval : Value.okWide P w r b0 t v) (hd : DataW.Trod enc P w base spare held t v d ps) :
    ∃ n, v = .float .f64 n ∧ d = .lit (.float .f64 n) ∧ ps = [] ∧ (Lit.float .f64 n).wf = true := by
  obtain ⟨n, rfl⟩ := okWide_float ht hval
  obtain ⟨fuel, hf⟩ := hd
  obtain ⟨n', h, hx, hw⟩ := trod_float ht hf
  simp [Value.cells] at h
  subst h
  simp only [Prod.mk.injEq] at hx
  exact ⟨n, rfl, hx.1, hx.2, hw⟩
theorem shut_float {n : Nat} (ht : P.underlying t = some (.float .f64)) (hw : (Lit.float .f64 n).wf = true) : DataW.Trod enc P w base spare held t (.float .f64 n) (.lit (.float .f64 n)) [] :=
  ⟨1, by simp [DataW.trod, Value.cells, ht, hw]⟩
end
end Go.Proofs.Ytecppcgleidhkaa.Gk
