/- The document's gauge: Mean, Smooth, Quantile. Conditions: its lists read so. -/
import Derived.Test.YtecppcgleidhkaaGy
import Derived.Test.YtecppcgleidhkaaGq
set_option linter.unusedVariables false
set_option linter.unusedSimpArgs false
set_option exponentiation.threshold 3000
namespace Go.Proofs.Ytecppcgleidhkaa.Gx
open Go.RowKit Go.Proofs.Ytecppcgleidhkaa.Lib1 Go.Proofs.Ytecppcgleidhkaa.Rel Go.Proofs.Ytecppcgleidhkaa.Own Go.Proofs.Ytecppcgleidhkaa.Fl Go.Proofs.Ytecppcgleidhkaa.Gp Go.Proofs.Ytecppcgleidhkaa.Gw Go.Proofs.Ytecppcgleidhkaa.Gm Go.Proofs.Ytecppcgleidhkaa.Gk

/-- Slots rise. -/
def Rise (g : G) : Prop := ∀ (i a b : Nat), g.slots[i]? = some a → g.slots[i + 1]? = some b → a ≤ b
theorem mean_nil : mean [] = 0 := rfl
section
variable {w : World} {A B : Option Addr} {n c m d : Nat} {g : G}
/-- The samples, in a form that the loops want. -/
theorem samp (h : RW (fun k => k < w.heap.size) w A n c B m d g) (hg : g.Good) (hn : n ≤ 17592186043904) (hr : Rise g) (t : Bool) (k : Nat) :
    Calls Try.prog 42 #[.agg #[.bool t, .float .f64 k, .slice A n c, .slice B m d]] w fun e w' => ∃ A1 c1, e = .returned (.slice A1 g.gaps.length c1) ∧ (0 < g.gaps.length → ∃ b off, A1 = some ⟨b, off, none⟩ ∧ ∀ (i x : Nat), g.gaps[i]? = some x → w'.cell? ⟨b, off + i, none⟩ = some (.float .f64 x)) ∧ Chg (fun _ => False) w w' := by
  refine (samples_ref h hg hn t k hr).mono ?_
  rintro e w' ⟨v, rfl, ho, hc⟩
  obtain ⟨A1, c1, e1⟩ := ho.form
  subst e1
  refine ⟨A1, c1, rfl, fun h0 => ?_, hc⟩
  obtain ⟨-, b, off, e, -, hx⟩ := floats_at (ho.reads (bytes := 8)) h0
  exact ⟨b, off, e, hx⟩
set_option maxRecDepth 100000 in
set_option maxHeartbeats 1600000 in
theorem rmean_walk (h : RW (fun k => k < w.heap.size) w A n c B m d g) (hg : g.Good) (hn : n ≤ 17592186043904) (hr : Rise g) (t : Bool) (k : Nat) :
    Calls Try.prog 33 #[.agg #[.bool t, .float .f64 k, .slice A n c, .slice B m d]] w fun e w' => e = .returned (.tuple #[.float .f64 (mean g.gaps), .float .f64 (spreadOf g), .bool (!g.gaps.isEmpty)]) ∧ Chg (fun _ => False) w w' := by
  have HSA : Hid (∀ W, Chg (fun _ => False) w W → Calls Try.prog 42 #[.agg #[.bool t, .float .f64 k, .slice A n c, .slice B m d]] W fun e w' => ∃ A1 c1, e = .returned (.slice A1 g.gaps.length c1) ∧ (0 < g.gaps.length → ∃ b off, A1 = some ⟨b, off, none⟩ ∧ ∀ (i x : Nat), g.gaps[i]? = some x → w'.cell? ⟨b, off + i, none⟩ = some (.float .f64 x)) ∧ Chg (fun _ => False) W w') := fun W hW => samp (h.up hW) hg hn hr t k
  have HGD := Lib.hid hg
  have hgn : g.gaps.length ≤ 17592186043904 := by
    have h1 := h.n.1
    unfold G.gaps; rw [Gp.gaps_len]; omega
  obtain ⟨xs, hxs⟩ : ∃ xs, xs = g.gaps := ⟨_, rfl⟩
  have HXS := Lib.hid hxs
  have hso : spreadOf g = if xs.isEmpty then 0 else spread xs := by rw [hxs]; rfl
  rw [← hxs] at HSA hgn ⊢
  obtain ⟨so, hsoe⟩ : ∃ so, so = spreadOf g := ⟨_, rfl⟩
  obtain ⟨bo, hbo⟩ : ∃ bo, bo = !xs.isEmpty := ⟨_, rfl⟩
  rw [← hsoe] at hso ⊢
  rw [← hbo]
  have HSO := Lib.hid hso
  have HBO := Lib.hid hbo
  clear hsoe hbo
  have HLE : Hid (∀ x ∈ xs, x ≤ B62) := by rw [hxs]; exact hg.gaps_le
  obtain ⟨L, hL⟩ : ∃ L, L = xs.length := ⟨_, rfl⟩
  rw [← hL] at HSA hgn
  have HLL := Lib.hid hL
  clear h hg hr hn hxs hso hL
  go_enter Try.func33, Try.ntmps33
  go_wp2_with (go_at_call 42; refine (HSA.out _ ((Chg.refl _ _).alloc _)).mono ?_; rintro e w1 ⟨A1, c1, rfl, hcl, hc⟩; have HCL := Lib.hid hcl; have HC := Lib.hid (((Chg.refl (fun _ => False) w).alloc (.cells #[.bool t, .float .f64 k, .slice A n c, .slice B m d] 44)).trans hc (fun _ _ h => h)); clear hcl hc HSA)
  go_loopw [6, 7, 8] (fun a b i wr => ∃ q : Nat, q ≤ L ∧ i = .int .i64 q ∧ a = .float .f64 (mean (xs.take q)) ∧ b = .float .f64 (squares (xs.take q)) ∧ wr = w1) (fun _ _ i _ => L - (intOf i).toNat)
  case atStart => exact ⟨0, Nat.zero_le _, rfl, rfl, rfl, rfl⟩
  case round =>
    obtain ⟨q, hq, rfl, rfl, rfl, hwr⟩ := hrel
    subst hwr
    by_cases hlt : q < L
    · obtain ⟨x, hx⟩ : ∃ y, xs[q]? = some y := ⟨_, List.getElem?_eq_getElem (by have := HLL.out; omega)⟩
      obtain ⟨b, off, rfl, hcell⟩ := HCL.out (by omega)
      have hxc := hcell q x hx
      have htl : (xs.take q).length = q := take_len' (by have := HLL.out; omega)
      have hms := ms_all (xs := xs.take q) (fun y hy => HLE.out y (List.mem_of_mem_take hy)) (by rw [htl]; omega)
      obtain ⟨⟨dd, e, m', r, p, s', e1, e2, e3, e4, e5, e6, em, es⟩, -⟩ := ms_step hms (HLE.out x (List.mem_of_getElem? hx)) (by rw [htl]; omega)
      rw [htl, ← f_of_succ] at e2
      have HEM : Hid (mean (xs.take (q + 1)) = m' ∧ squares (xs.take (q + 1)) = s') := by rw [take_snoc' hx]; exact ⟨em, es⟩
      have o1 : ∀ t w, (binOp .sub t (.float .f64 x) (.float .f64 (mean (xs.take q)))).run Try.prog w = .ok (.float .f64 dd) w := fun t w => run_float_arith w .sub t .f64 _ _ _ e1
      have o2 : ∀ t w, (binOp .quo t (.float .f64 dd) (.float .f64 (floatOfInt .f64 ((q : Int) + 1)))).run Try.prog w = .ok (.float .f64 e) w := fun t w => run_float_arith w .quo t .f64 _ _ _ e2
      have o3 : ∀ t w, (binOp .add t (.float .f64 (mean (xs.take q))) (.float .f64 e)).run Try.prog w = .ok (.float .f64 m') w := fun t w => run_float_arith w .add t .f64 _ _ _ e3
      have o4 : ∀ t w, (binOp .sub t (.float .f64 x) (.float .f64 m')).run Try.prog w = .ok (.float .f64 r) w := fun t w => run_float_arith w .sub t .f64 _ _ _ e4
      have o5 : ∀ t w, (binOp .mul t (.float .f64 dd) (.float .f64 r)).run Try.prog w = .ok (.float .f64 p) w := fun t w => run_float_arith w .mul t .f64 _ _ _ e5
      have o6 : ∀ t w, (binOp .add t (.float .f64 (squares (xs.take q))) (.float .f64 p)).run Try.prog w = .ok (.float .f64 s') w := fun t w => run_float_arith w .add t .f64 _ _ _ e6
      generalize mean (xs.take q) = mm at *
      generalize squares (xs.take q) = ss at *
      clear hcell hx htl hms e1 e2 e3 e4 e5 e6 em es
      go_wp2
      go_roundw
      case rel => exact ⟨q + 1, hlt, by go_num, by rw [HEM.out.1], by rw [HEM.out.2], trivial⟩
      case measure => simp [intOf]; omega
    · obtain rfl : q = L := by omega
      have hfull : xs.take q = xs := List.take_of_length_le (by rw [HLL.out]; exact Nat.le_refl _)
      rw [hfull]
      clear hfull
      by_cases h0 : q = 0
      · have hnil : xs = [] := List.eq_nil_of_length_eq_zero (by rw [← HLL.out]; exact h0)
        subst h0
        have HNIL := Lib.hid hnil
        clear hnil
        go_wp2
        refine bodyPost_ret (v := .tuple #[.float .f64 0, .float .f64 0, .bool false]) (by simp [results, Try.results33, go_sem]) rfl ?_
        rw [HSO.out, HBO.out, HNIL.out]
        exact ⟨rfl, HC.out⟩
      · have hne : xs ≠ [] := fun e => h0 (by rw [HLL.out, e]; rfl)
        have hms : MS xs := by rw [HXS.out]; exact HGD.out.ms
        have hsp := (spread_some hms hne (by rw [← HLL.out]; omega)).1
        rw [← HLL.out, ← f_of_nat] at hsp
        have he : xs.isEmpty = false := by
          cases hh : xs with
          | nil => exact absurd hh hne
          | cons a l => rfl
        have o1 : ∀ t w, (binOp .quo t (.float .f64 (squares xs)) (.float .f64 (floatOfInt .f64 (q : Int)))).run Try.prog w = .ok (.float .f64 (spread xs)) w := fun t w => run_float_arith w .quo t .f64 _ _ _ hsp
        obtain ⟨mm, hmm⟩ : ∃ mm, mm = mean xs := ⟨_, rfl⟩
        obtain ⟨ss, hss⟩ : ∃ mm, mm = squares xs := ⟨_, rfl⟩
        obtain ⟨sp, hspp⟩ : ∃ mm, mm = spread xs := ⟨_, rfl⟩
        rw [← hss, ← hspp] at o1
        rw [← hmm, ← hss]
        have HFIN : Hid (mean xs = mm ∧ (if xs.isEmpty then 0 else spread xs) = sp ∧ (!xs.isEmpty) = true) := by rw [he]; exact ⟨hmm.symm, hspp.symm, rfl⟩
        clear hmm hss hspp
        have h0' : ¬ (q : Int) = 0 := by omega
        clear hne hms hsp he
        go_wp2
        refine bodyPost_ret (v := .tuple #[.float .f64 mm, .float .f64 sp, .bool true]) (by simp [results, Try.results33, go_sem]) rfl ?_
        rw [HSO.out, HBO.out, HFIN.out.1, HFIN.out.2.1, HFIN.out.2.2]
        exact ⟨rfl, HC.out⟩
end
end Go.Proofs.Ytecppcgleidhkaa.Gx
