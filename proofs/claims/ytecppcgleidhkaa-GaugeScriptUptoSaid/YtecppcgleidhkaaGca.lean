/- One call of a script but Hear: the document's gauge stays, both answer alike. Conditions: both tell the same. -/
import Derived.Test.YtecppcgleidhkaaGs
import Derived.Deep.RegionHeld3
set_option linter.unusedVariables false
set_option linter.unusedSimpArgs false
set_option exponentiation.threshold 3000
namespace Go.Proofs.Ytecppcgleidhkaa.Gs
open Go.RowKit Go.Proofs.Ytecppcgleidhkaa.Lib1 Go.Proofs.Ytecppcgleidhkaa.Rel Go.Proofs.Ytecppcgleidhkaa.Own Go.Proofs.Ytecppcgleidhkaa.Fl Go.Proofs.Ytecppcgleidhkaa.Gp Go.Proofs.Ytecppcgleidhkaa.Gw Go.Proofs.Ytecppcgleidhkaa.Gm Go.Proofs.Ytecppcgleidhkaa.Gk Go.Proofs.Ytecppcgleidhkaa.Gb Go.Proofs.Ytecppcgleidhkaa.Gx

theorem boxes {W : World} {R : Nat} {a0 a1 a2 a3 o0 o1 o2 o3 o4 r0 r1 r2 r3 : Value} {t1 t2 t3 : TypeId} (h0 : W.heap[R]? = some (.cells #[a0, a1, a2, a3] t1 (0, 0))) (h1 : W.heap[R + 1]? = some (.cells #[o0, o1, o2, o3, o4] t2 (0, 0))) (h2 : W.heap[R + 2]? = some (.cells #[r0, r1, r2, r3] t3 (0, 0))) :
    (R < W.heap.size ∧ R + 1 < W.heap.size ∧ R + 2 < W.heap.size) ∧ (W.cell? ⟨R, 0, none⟩ = some a0 ∧ W.cell? ⟨R, 1, none⟩ = some a1 ∧ W.cell? ⟨R, 2, none⟩ = some a2 ∧ W.cell? ⟨R, 3, none⟩ = some a3) ∧
    (W.cell? ⟨R + 1, 0, none⟩ = some o0 ∧ W.cell? ⟨R + 1, 1, none⟩ = some o1 ∧ W.cell? ⟨R + 1, 2, none⟩ = some o2 ∧ W.cell? ⟨R + 1, 3, none⟩ = some o3 ∧ W.cell? ⟨R + 1, 4, none⟩ = some o4) ∧
    (W.cell? ⟨R + 2, 0, none⟩ = some r0 ∧ W.cell? ⟨R + 2, 1, none⟩ = some r1 ∧ W.cell? ⟨R + 2, 2, none⟩ = some r2 ∧ W.cell? ⟨R + 2, 3, none⟩ = some r3) ∧ ∀ i, W.frozen? ⟨R + 2, i, none⟩ = false :=
  ⟨⟨lt_of _ h0, lt_of _ h1, lt_of _ h2⟩, ⟨cell_at h0 0 rfl, cell_at h0 1 rfl, cell_at h0 2 rfl, cell_at h0 3 rfl⟩, ⟨cell_at h1 0 rfl, cell_at h1 1 rfl, cell_at h1 2 rfl, cell_at h1 3 rfl, cell_at h1 4 rfl⟩, ⟨cell_at h2 0 rfl, cell_at h2 1 rfl, cell_at h2 2 rfl, cell_at h2 3 rfl⟩, fun i => free_at h2 i⟩
theorem cell_st4 {W : World} {b i K : Nat} {v v0 v1 v2 v3 : Value} (h : W.cell? ⟨b, i, none⟩ = some v) (hb : b ≠ K) : ((((W.setCell ⟨K, 0, none⟩ v0).setCell ⟨K, 1, none⟩ v1).setCell ⟨K, 2, none⟩ v2).setCell ⟨K, 3, none⟩ v3).cell? ⟨b, i, none⟩ = some v :=
  (World.cell?_of_block (a := ⟨b, i, none⟩) ((heap_set_ne _ _ hb).trans ((heap_set_ne _ _ hb).trans ((heap_set_ne _ _ hb).trans (heap_set_ne _ _ hb))))).trans h
end Go.Proofs.Ytecppcgleidhkaa.Gs
