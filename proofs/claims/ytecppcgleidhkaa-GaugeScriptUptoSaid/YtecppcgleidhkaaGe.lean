/- The document's gauge: Smooth, Quantile. Conditions: its lists read so. -/
import Derived.Test.YtecppcgleidhkaaGz
set_option linter.unusedVariables false
set_option linter.unusedSimpArgs false
set_option exponentiation.threshold 3000
namespace Go.Proofs.Ytecppcgleidhkaa.Gx
open Go.RowKit Go.Proofs.Ytecppcgleidhkaa.Lib1 Go.Proofs.Ytecppcgleidhkaa.Rel Go.Proofs.Ytecppcgleidhkaa.Own Go.Proofs.Ytecppcgleidhkaa.Fl Go.Proofs.Ytecppcgleidhkaa.Gp Go.Proofs.Ytecppcgleidhkaa.Gw Go.Proofs.Ytecppcgleidhkaa.Gm Go.Proofs.Ytecppcgleidhkaa.Gk Go.Proofs.Ytecppcgleidhkaa.Gb

theorem smooth_take {k : Nat} {xs : List Nat} {q x : Nat} (hq : 1 ≤ q) (hx : xs[q]? = some x) (hk : k < ONE) (hle : ∀ y ∈ xs, y ≤ B62) :
    ∃ p l r v', Ieee.double.mul k (smooth k (xs.take q)) = some p ∧ Ieee.double.sub ONE k = some l ∧ Ieee.double.mul l x = some r ∧ Ieee.double.add p r = some v' ∧ smooth k (xs.take (q + 1)) = v' := by
  have hne : xs.take q ≠ [] := fun e => by
    have hl := (List.getElem?_eq_some_iff.1 hx).1
    have := congrArg List.length e
    rw [List.length_take, List.length_nil] at this
    omega
  rw [take_snoc' hx]
  exact smooth_run hk (fun y hy => hle y (List.mem_of_mem_take hy)) hne (hle x (List.mem_of_getElem? hx))
section
variable {w : World} {A B : Option Addr} {n c m d : Nat} {g : G}
set_option maxRecDepth 100000 in
set_option maxHeartbeats 1600000 in
theorem rsmooth_walk (h : RW (fun k => k < w.heap.size) w A n c B m d g) (hg : g.Good) (hn : n ≤ 17592186043904) (hr : Rise g) (t : Bool) :
    Calls Try.prog 34 #[.agg #[.bool t, .float .f64 g.keep, .slice A n c, .slice B m d]] w fun e w' => e = .returned (.tuple #[.float .f64 (smooth g.keep g.gaps), .bool (!g.gaps.isEmpty)]) ∧ Chg (fun _ => False) w w' := by
  obtain ⟨k, hk⟩ : ∃ k, k = g.keep := ⟨_, rfl⟩
  have HSA : Hid (∀ W, Chg (fun _ => False) w W → Calls Try.prog 42 #[.agg #[.bool t, .float .f64 k, .slice A n c, .slice B m d]] W fun e w' => ∃ A1 c1, e = .returned (.slice A1 g.gaps.length c1) ∧ (0 < g.gaps.length → ∃ b off, A1 = some ⟨b, off, none⟩ ∧ ∀ (i x : Nat), g.gaps[i]? = some x → w'.cell? ⟨b, off + i, none⟩ = some (.float .f64 x)) ∧ Chg (fun _ => False) W w') := fun W hW => samp (h.up hW) hg hn hr t k
  have hgn : g.gaps.length ≤ 17592186043904 := by
    have h1 := h.n.1
    unfold G.gaps; rw [Gp.gaps_len]; omega
  have hko : k < ONE := by rw [hk]; exact hg.keep
  have HKO := Lib.hid hko
  obtain ⟨xs, hxs⟩ : ∃ xs, xs = g.gaps := ⟨_, rfl⟩
  have HLE : Hid (∀ x ∈ xs, x ≤ B62) := by rw [hxs]; exact hg.gaps_le
  rw [← hxs, ← hk]
  rw [← hxs] at HSA hgn
  obtain ⟨L, hL⟩ : ∃ L, L = xs.length := ⟨_, rfl⟩
  rw [← hL] at HSA hgn
  have HLL := Lib.hid hL
  obtain ⟨bo, hbo⟩ : ∃ bo, bo = !xs.isEmpty := ⟨_, rfl⟩
  obtain ⟨so, hso⟩ : ∃ so, so = smooth k xs := ⟨_, rfl⟩
  rw [← hbo, ← hso]
  have HBO := Lib.hid hbo
  have HSO := Lib.hid hso
  clear h hg hr hn hxs hL hko hk hbo hso
  by_cases h0 : L = 0
  · have hnil : xs = [] := List.eq_nil_of_length_eq_zero (by rw [← HLL.out]; exact h0)
    have HNIL := Lib.hid hnil
    subst h0
    clear hnil hgn
    go_enter Try.func34, Try.ntmps34
    go_wp2_with (go_at_call 42; refine (HSA.out _ ((Chg.refl _ _).alloc _)).mono ?_; rintro e w1 ⟨A1, c1, rfl, hcl, hc⟩; have HC := Lib.hid (((Chg.refl (fun _ => False) w).alloc (.cells #[.bool t, .float .f64 k, .slice A n c, .slice B m d] 44)).trans hc (fun _ _ h => h)); clear hcl hc HSA)
    go_ret2
    rw [HSO.out, HBO.out, HNIL.out]
    exact ⟨rfl, HC.out⟩
  · have h0' : ¬ (L : Int) = 0 := by omega
    have hbt : (!xs.isEmpty) = true := by
      cases hh : xs with
      | nil => exact absurd (by rw [HLL.out, hh]; rfl) h0
      | cons a l => rfl
    have HBT := Lib.hid hbt
    clear hbt
    go_enter Try.func34, Try.ntmps34
    go_upto_region 4 with (go_at_call 42; refine (HSA.out _ ((Chg.refl _ _).alloc _)).mono ?_; rintro e w1 ⟨A1, c1, rfl, hcl, hc⟩; have HCL := Lib.hid hcl; have HC := Lib.hid (((Chg.refl (fun _ => False) w).alloc (.cells #[.bool t, .float .f64 k, .slice A n c, .slice B m d] 44)).trans hc (fun _ _ h => h)); have yk : w1.cell? ⟨w.heap.size, 1, none⟩ = some (.float .f64 k) := cell_at (hc.at_ (heap_new w _) (fun h => h)) 1 rfl; clear hcl hc HSA)
    obtain ⟨b, off, rfl, hcell⟩ := HCL.out (by omega)
    obtain ⟨x0, hx0⟩ : ∃ y, xs[0]? = some y := ⟨_, List.getElem?_eq_getElem (by have := HLL.out; omega)⟩
    have hxc := hcell 0 x0 hx0
    rw [Nat.add_zero] at hxc
    have HX0 : Hid (smooth k (xs.take 1) = x0) := by
      cases hh : xs with
      | nil => rw [hh] at hx0; cases hx0
      | cons a l => rw [hh] at hx0; cases hx0; rfl
    have HCE := Lib.hid hcell
    clear hcell hx0
    go_wp2
    go_loopw [5, 6] (fun a i wr => ∃ q : Nat, 1 ≤ q ∧ q ≤ L ∧ i = .int .i64 q ∧ a = .float .f64 (smooth k (xs.take q)) ∧ wr = w1) (fun _ i _ => L - (intOf i).toNat)
    case atStart => exact ⟨1, Nat.le_refl _, by omega, rfl, by rw [HX0.out], rfl⟩
    case round =>
      obtain ⟨q, hq1, hq, rfl, rfl, hwr⟩ := hrel
      subst hwr
      by_cases hlt : q < L
      · obtain ⟨x, hx⟩ : ∃ y, xs[q]? = some y := ⟨_, List.getElem?_eq_getElem (by have := HLL.out; omega)⟩
        have hxc2 := HCE.out q x hx
        obtain ⟨p, l, r, v', e1, e2, e3, e4, ev⟩ := smooth_take hq1 hx HKO.out HLE.out
        have HEV := Lib.hid ev
        have o1 : ∀ t w, (binOp .mul t (.float .f64 k) (.float .f64 (smooth k (xs.take q)))).run Try.prog w = .ok (.float .f64 p) w := fun t w => run_float_arith w .mul t .f64 _ _ _ e1
        have o2 : ∀ t w, (binOp .sub t (.float .f64 4607182418800017408) (.float .f64 k)).run Try.prog w = .ok (.float .f64 l) w := fun t w => run_float_arith w .sub t .f64 _ _ _ e2
        have o3 : ∀ t w, (binOp .mul t (.float .f64 l) (.float .f64 x)).run Try.prog w = .ok (.float .f64 r) w := fun t w => run_float_arith w .mul t .f64 _ _ _ e3
        have o4 : ∀ t w, (binOp .add t (.float .f64 p) (.float .f64 r)).run Try.prog w = .ok (.float .f64 v') w := fun t w => run_float_arith w .add t .f64 _ _ _ e4
        generalize smooth k (xs.take q) = mm at *
        clear hx e1 e2 e3 e4 ev
        go_wp2
        go_roundw
        case rel => exact ⟨q + 1, by omega, hlt, by go_num, by rw [HEV.out], trivial⟩
        case measure => simp [intOf]; omega
      · obtain rfl : q = L := by omega
        have hfull : xs.take q = xs := List.take_of_length_le (by rw [HLL.out]; exact Nat.le_refl _)
        rw [hfull, ← HSO.out]
        clear hfull
        go_wp2
        go_ret2
        rw [HBO.out, HBT.out]
        exact ⟨rfl, HC.out⟩
end
/-- There is a sample that the quantile is. -/
theorem qex {xs : List Nat} {p : Nat} (hp : partOk p = true) (hne : xs ≠ []) (hI : ∀ x ∈ xs, x < INF) (hn : xs.length < 2 ^ 53) : ∃ x, IsQ xs (wantOf p xs.length) x := by
  by_cases hx : ∃ x, IsQ xs (wantOf p xs.length) x
  · exact hx
  · exfalso
    have hpw := pairwise_of (cs := Tv.srt xs) (fun i j hij hj => Tv.srt_sorted xs i j hij (by rw [Tv.srt_len] at hj; exact hj))
    have hpm := Tv.srt_perm hI
    have hlen := Tv.srt_len xs
    have hall : ∀ i, i < (Tv.srt xs).length → ∀ j, j < i → ¬ stops (Tv.srt xs) (wantOf p xs.length) j := by
      intro i
      induction i with
      | zero => intro _ j hj; omega
      | succ i ih =>
        intro hi j hj
        rcases Nat.lt_or_ge j i with c | c
        · exact ih (by omega) j c
        · obtain rfl : j = i := by omega
          intro hs
          exact hx ⟨_, stop_is hpm hpw (by omega) hs (ih (by omega))⟩
    have hl0 : 1 ≤ xs.length := List.length_pos_iff.2 hne
    refine hx ⟨_, stop_is (i := xs.length - 1) hpm hpw (by omega) ⟨.inl (by omega), ?_⟩ (hall _ (by omega))⟩
    rw [show xs.length - 1 + 1 = xs.length by omega]
    exact (want_some hp hn).2.2
end Go.Proofs.Ytecppcgleidhkaa.Gx
