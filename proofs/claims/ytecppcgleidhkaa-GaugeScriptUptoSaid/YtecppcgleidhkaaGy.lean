/- The document's gauge: Samples, Mean, Smooth. Conditions: its lists read so. -/
import Derived.Test.YtecppcgleidhkaaGx
import Derived.Deep.RegionLaw
import Derived.BigRegion
set_option linter.unusedVariables false
set_option linter.unusedSimpArgs false
set_option exponentiation.threshold 3000
namespace Go.Proofs.Ytecppcgleidhkaa.Gx
open Go.RowKit Go.Proofs.Ytecppcgleidhkaa.Lib1 Go.Proofs.Ytecppcgleidhkaa.Rel Go.Proofs.Ytecppcgleidhkaa.Own Go.Proofs.Ytecppcgleidhkaa.Fl Go.Proofs.Ytecppcgleidhkaa.Gp Go.Proofs.Ytecppcgleidhkaa.Gw Go.Proofs.Ytecppcgleidhkaa.Gm Go.Proofs.Ytecppcgleidhkaa.Gk

theorem floats_lit {base : Nat} {w : World} {g : Nat} (e : TypeId) (hg : g = w.heap.size) (hb : base ≤ g) : OwnL floatK e base (w.alloc (.cells #[] e)) (.slice (some ⟨g, 0, none⟩) 0 0) [] :=
  ⟨[], own_lit0 w g hg hb, fun i x h => by simp at h⟩
theorem floats_at {ok : Nat → Prop} {w : World} {A : Option Addr} {n c : Nat} {xs : List Nat} (h : (Kd.slice 8 floatK).rel ok w xs [.slice A n c]) (hn : 0 < n) :
    xs.length = n ∧ ∃ b off, A = some ⟨b, off, none⟩ ∧ ok b ∧ ∀ (i x : Nat), xs[i]? = some x → w.cell? ⟨b, off + i, none⟩ = some (.float .f64 x) := by
  obtain ⟨hl, b, off, e, hb, he⟩ := range_of h hn
  refine ⟨hl, b, off, e, hb, fun i x hi => ?_⟩
  obtain ⟨cs, e1, hr⟩ := he i x hi
  have e1' : cs = [.float .f64 x] := e1
  subst e1'
  have h0 := hr 0 _ rfl
  have e2 : i * floatK.sz = i := Nat.mul_one i
  rw [e2] at h0
  exact h0
section
variable {w : World} {A B : Option Addr} {n c m d : Nat} {g : G}
set_option maxRecDepth 100000 in
set_option maxHeartbeats 800000 in
theorem samples_ref (h : RW (fun k => k < w.heap.size) w A n c B m d g) (hg : g.Good) (hn : n ≤ 17592186043904) (t : Bool) (k : Nat)
    (hrise : ∀ i a b, g.slots[i]? = some a → g.slots[i + 1]? = some b → a ≤ b) :
    Calls Try.prog 42 #[.agg #[.bool t, .float .f64 k, .slice A n c, .slice B m d]] w fun e w' => ∃ v, e = .returned v ∧ OwnL floatK 23 w.heap.size w' v g.gaps ∧ Chg (fun _ => False) w w' := by
  have HCL := Lib.hid h.n.1
  have HR := Lib.hid h.sl
  have HOK := Lib.hid hg.ok
  have HRI := Lib.hid hrise
  have hgl : g.gaps.length = n - 1 := by have := HCL.out; unfold G.gaps; rw [Gp.gaps_len, this]
  have HGL := Lib.hid hgl
  clear h hg hrise hgl
  go_enter Try.func42, Try.ntmps42
  go_wp2
  obtain ⟨w0, hw0⟩ : ∃ w0, w.alloc (.cells #[.bool t, .float .f64 k, .slice A n c, .slice B m d] 44) = w0 := ⟨_, rfl⟩
  have hs0 : w0.heap.size = w.heap.size + 1 := by rw [← hw0]; simp
  have hs1 : w.heap.size + 1 ≤ w0.heap.size := by omega
  obtain ⟨w1, hw1⟩ : ∃ w1, w0.alloc (.cells #[] 23) = w1 := ⟨_, rfl⟩
  have HC1 : Hid (Chg (fun _ => False) w w1) := by rw [← hw1, ← hw0]; exact ((Chg.refl _ _).alloc _).alloc _
  have hbox : w1.heap[w.heap.size]? = some (.cells #[.bool t, .float .f64 k, .slice A n c, .slice B m d] 44 (0, 0)) := by rw [← hw1]; exact heap_old _ (by rw [← hw0]; exact heap_new w _)
  have HBX := Lib.hid hbox
  have HO1 : Hid (OwnL floatK 23 (w.heap.size + 1) w1 (.slice (some ⟨w.heap.size + 1, 0, none⟩) 0 0) []) := by rw [← hw1]; exact floats_lit _ hs0.symm (Nat.le_refl _)
  rw [hw0, hw1]
  clear hw0 hw1 hbox hs0 hs1
  go_loopw [3, 4] (fun v i wr => ∃ j : Nat, j ≤ g.gaps.length ∧ i = .int .i64 ((j : Int) + 1) ∧ OwnL floatK 23 (w.heap.size + 1) wr v (g.gaps.take j) ∧ wr.heap[w.heap.size]? = some (.cells #[.bool t, .float .f64 k, .slice A n c, .slice B m d] 44 (0, 0)) ∧ Chg (fun _ => False) w wr) (fun _ i _ => n - (intOf i).toNat)
  case atStart => exact ⟨0, Nat.zero_le _, rfl, HO1.out, HBX.out, HC1.out⟩
  case round =>
    obtain ⟨w2, rfl⟩ : ∃ w2, w2 = wr := ⟨_, rfl⟩
    obtain ⟨j, hj, rfl, ho, hbx, hc⟩ := hrel
    obtain ⟨Av, cv, e0⟩ := ho.form
    rw [take_len' hj] at e0
    subst e0
    have HO := Lib.hid ho
    have HC := Lib.hid hc
    have HB := Lib.hid hbx
    have hsz : w.heap.size + 1 ≤ w2.heap.size := lt_of _ hbx
    have HJ := Lib.hid hj
    have y2 : w2.cell? ⟨w.heap.size, 2, none⟩ = some (.slice A n c) := cell_at hbx 2 rfl
    clear ho hc hbx hj HBX HO1 HC1
    by_cases hlt : j + 1 < n
    · obtain ⟨s1, e1⟩ : ∃ x, g.slots[j + 1]? = some x := ⟨_, List.getElem?_eq_getElem (by have := HCL.out; omega)⟩
      obtain ⟨s0, e0⟩ : ∃ x, g.slots[j]? = some x := ⟨_, List.getElem?_eq_getElem (by have := HCL.out; omega)⟩
      obtain ⟨b, off, rfl, hb, hcell⟩ := HR.out.at_ (by omega)
      have z1 := (World.cell?_of_block (a := ⟨b, off + (j + 1), none⟩) (HC.out.block b hb (fun h => h))).trans (hcell (j + 1) _ (ns_get e1))
      have z0 := (World.cell?_of_block (a := ⟨b, off + j, none⟩) (HC.out.block b hb (fun h => h))).trans (hcell j _ (ns_get e0))
      have o1 := HOK.out s1 (List.mem_of_getElem? e1)
      have o0 := HOK.out s0 (List.mem_of_getElem? e0)
      have hr := HRI.out j s0 s1 e0 e1
      have hgx : g.gaps[j]? = some (floatOfInt .f64 ((s1 : Int) - (s0 : Int))) := by
        have hg2 := gaps_get g.slots j (by have := HCL.out; omega)
        unfold G.gaps
        rw [hg2]
        have f1 : g.slots.getD (j + 1) 0 = s1 := by simp [List.getD_eq_getElem?_getD, e1]
        have f0 : g.slots.getD j 0 = s0 := by simp [List.getD_eq_getElem?_getD, e0]
        rw [f1, f0, show (s1 : Int) - (s0 : Int) = ((s1 - s0 : Nat) : Int) by omega, f_of_nat]
      have HGX := Lib.hid hgx
      have o1' : (s1 : Int) ≤ 4611686018427387904 := by omega
      have o0' : (s0 : Int) ≤ 4611686018427387904 := by omega
      have hr' : (s0 : Int) ≤ s1 := by omega
      have i1 : (j : Int) + 1 < (n : Int) := by omega
      have i0 : (0 : Int) ≤ (j : Int) + 1 := by omega
      have i2 : (j : Int) < (n : Int) := by omega
      have i3 : (0 : Int) ≤ (j : Int) := by omega
      have i4 : ((j : Int) + 1).toNat = j + 1 := by omega
      have i5 : IntKind.i64.wrap (j : Int) = (j : Int) := by rw [IntKind.wrap_i64]; omega
      have i6 : IntKind.i64.wrap ((j : Int) + 1 - 1) = (j : Int) := by rw [IntKind.wrap_i64]; omega
      have i7 : IntKind.i64.wrap ((s1 : Int) - (s0 : Int)) = (s1 : Int) - (s0 : Int) := by rw [IntKind.wrap_i64]; omega
      clear hcell e1 e0 hgx o1 o0 hr
      go_upto_region 5 with (fail)
      go_region_law (first
        | (refine step_push rfl (.tmp 13) (.tmp 27) 75 rfl floatK (w.heap.size + 1) 23 8 (.float .f64 0) Try.underlying75 infoF rfl (by decide) (by decide) (.slice Av j cv) (g.gaps.take j) rfl ?aO (floatOfInt .f64 ((s1 : Int) - (s0 : Int))) #[.float .f64 (floatOfInt .f64 ((s1 : Int) - (s0 : Int)))] _ rfl ?aG rfl ?aL ?aB ?_; (case aO => exact HO.out.up (((Chg.refl _ _).drew).alloc _)); (case aG => exact heap_new _ _); (case aL => rw [take_len' HJ.out]; omega); (case aB => simp only [World.drew, World.size_alloc]; omega); intro g3 cap3 w4 o4 ch4))
      all_goals go_wp2
      all_goals go_roundw
      all_goals first
        | (show _ < _; simp [intOf]; omega)
        | (refine ⟨j + 1, by have := HGL.out; omega, by go_num, by rw [take_snoc' HGX.out]; simpa only [List.length_take] using o4, ch4.at_ (heap_old _ HB.out) (fun e => by have := (HO.out.low _ e).1; omega), ?_⟩; exact (((HC.out.drew).alloc _).trans ch4 (fun q hq e => by have := (HO.out.low _ e).1; omega)))
    · go_wp2
      go_ret
      have hjj : j = g.gaps.length := by have := HGL.out; have := HJ.out; omega
      have ho := HO.out
      rw [hjj, List.take_length] at ho
      exact ⟨_, rfl, by rw [hjj]; exact ho.base_le (Nat.le_succ _), HC.out⟩
end
end Go.Proofs.Ytecppcgleidhkaa.Gx
