/- The document's gauge: Quantile. Conditions: its lists read so. -/
import Derived.Test.YtecppcgleidhkaaGe
set_option linter.unusedVariables false
set_option linter.unusedSimpArgs false
set_option exponentiation.threshold 3000
namespace Go.Proofs.Ytecppcgleidhkaa.Gx
open Go.RowKit Go.Proofs.Ytecppcgleidhkaa.Lib1 Go.Proofs.Ytecppcgleidhkaa.Rel Go.Proofs.Ytecppcgleidhkaa.Own Go.Proofs.Ytecppcgleidhkaa.Fl Go.Proofs.Ytecppcgleidhkaa.Gp Go.Proofs.Ytecppcgleidhkaa.Gw Go.Proofs.Ytecppcgleidhkaa.Gm Go.Proofs.Ytecppcgleidhkaa.Gk Go.Proofs.Ytecppcgleidhkaa.Gb

theorem cnt_take {xs : List Nat} {q y x : Nat} (hy : xs[q]? = some y) : cnt (xs.take (q + 1)) x = cnt (xs.take q) x + if y ≤ x then 1 else 0 := by
  unfold cnt
  rw [take_snoc' hy, List.countP_append]
  by_cases h : y ≤ x <;> simp [h]
/-- What the search has found behind q samples. -/
def Found (xs : List Nat) (want q : Nat) (fl : Bool) (lo : Nat) : Prop :=
  (fl = false ∧ lo = 0 ∧ ∀ (j x : Nat), j < q → xs[j]? = some x → ge (F (cnt xs x)) want = false) ∨
  (fl = true ∧ lo ∈ xs ∧ ge (F (cnt xs lo)) want = true ∧ ∀ (j x : Nat), j < q → xs[j]? = some x → ge (F (cnt xs x)) want = true → lo ≤ x)
theorem Found.skip {xs : List Nat} {want q lo x : Nat} {fl : Bool} (h : Found xs want q fl lo) (hx : xs[q]? = some x) (hge : ge (F (cnt xs x)) want = false) : Found xs want (q + 1) fl lo := by
  rcases h with ⟨h1, h2, h3⟩ | ⟨h1, h2, h3, h4⟩
  · refine .inl ⟨h1, h2, fun j y hj hy => ?_⟩
    rcases Nat.lt_or_ge j q with c | c
    · exact h3 j y c hy
    · obtain rfl : j = q := by omega
      rw [hx] at hy; cases hy; exact hge
  · refine .inr ⟨h1, h2, h3, fun j y hj hy hyg => ?_⟩
    rcases Nat.lt_or_ge j q with c | c
    · exact h4 j y c hy hyg
    · obtain rfl : j = q := by omega
      rw [hx] at hy; cases hy; rw [hge] at hyg; cases hyg
theorem Found.stay {xs : List Nat} {want q lo x : Nat} (h : Found xs want q true lo) (hx : xs[q]? = some x) (hle : lo ≤ x) : Found xs want (q + 1) true lo := by
  rcases h with ⟨h1, -, -⟩ | ⟨h1, h2, h3, h4⟩
  · cases h1
  · refine .inr ⟨rfl, h2, h3, fun j y hj hy hyg => ?_⟩
    rcases Nat.lt_or_ge j q with c | c
    · exact h4 j y c hy hyg
    · obtain rfl : j = q := by omega
      rw [hx] at hy; cases hy; exact hle
theorem Found.take {xs : List Nat} {want q lo x : Nat} {fl : Bool} (h : Found xs want q fl lo) (hx : xs[q]? = some x) (hge : ge (F (cnt xs x)) want = true) (hlt : fl = false ∨ x < lo) : Found xs want (q + 1) true x := by
  refine .inr ⟨rfl, List.mem_of_getElem? hx, hge, fun j y hj hy hyg => ?_⟩
  rcases Nat.lt_or_ge j q with c | c
  · rcases h with ⟨h1, h2, h3⟩ | ⟨h1, h2, h3, h4⟩
    · have := h3 j y c hy; rw [this] at hyg; cases hyg
    · have := h4 j y c hy hyg
      rcases hlt with e | e
      · rw [h1] at e; cases e
      · omega
  · obtain rfl : j = q := by omega
    rw [hx] at hy; cases hy; exact Nat.le_refl _
section
variable {w : World} {A B : Option Addr} {n c m d : Nat} {g : G}
theorem rquantile_nil (p k : Nat) (w : World) (A B : Option Addr) (n c m d : Nat) :
    Calls Try.prog 35 #[.agg #[.bool false, .float .f64 k, .slice A n c, .slice B m d], .float .f64 p] w fun e w' => e = .returned (.tuple #[.float .f64 0, .int .i64 1]) ∧ Chg (fun _ => False) w w' := by
  go_enter Try.func35, Try.ntmps35
  go_wp2
  go_ret2
  exact ⟨rfl, (Chg.refl _ _).alloc _⟩
set_option maxRecDepth 100000 in
set_option maxHeartbeats 1600000 in
theorem rquantile_walk (h : RW (fun k => k < w.heap.size) w A n c B m d g) (hg : g.Good) (hn : n ≤ 17592186043904) (hr : Rise g) (k p : Nat) :
    Calls Try.prog 35 #[.agg #[.bool true, .float .f64 k, .slice A n c, .slice B m d], .float .f64 p] w fun e w' => e = .returned (.tuple #[.float .f64 (qval g.gaps p), .int .i64 (qcode g.gaps p)]) ∧ Chg (fun _ => False) w w' := by
  have HSA : Hid (∀ W, Chg (fun _ => False) w W → Calls Try.prog 42 #[.agg #[.bool true, .float .f64 k, .slice A n c, .slice B m d]] W fun e w' => ∃ A1 c1, e = .returned (.slice A1 g.gaps.length c1) ∧ (0 < g.gaps.length → ∃ b off, A1 = some ⟨b, off, none⟩ ∧ ∀ (i x : Nat), g.gaps[i]? = some x → w'.cell? ⟨b, off + i, none⟩ = some (.float .f64 x)) ∧ Chg (fun _ => False) W w') := fun W hW => samp (h.up hW) hg hn hr true k
  have hgn : g.gaps.length ≤ 17592186043904 := by
    have h1 := h.n.1
    unfold G.gaps; rw [Gp.gaps_len]; omega
  obtain ⟨xs, hxs⟩ : ∃ xs, xs = g.gaps := ⟨_, rfl⟩
  have HI : Hid (∀ x ∈ xs, x < INF) := by rw [hxs]; exact fun x hx => B62_inf (hg.gaps_le x hx)
  rw [← hxs]
  rw [← hxs] at HSA hgn
  obtain ⟨L, hL⟩ : ∃ L, L = xs.length := ⟨_, rfl⟩
  rw [← hL] at HSA hgn
  have HLL := Lib.hid hL
  obtain ⟨qv, hqv⟩ : ∃ q, q = qval xs p := ⟨_, rfl⟩
  obtain ⟨qc, hqc⟩ : ∃ q, q = qcode xs p := ⟨_, rfl⟩
  rw [← hqv, ← hqc]
  have HQV := Lib.hid hqv
  have HQC := Lib.hid hqc
  clear h hg hr hn hxs hL hqv hqc
  cases hk : qok xs p
  · have e1 : qv = 0 := by rw [HQV.out]; unfold qval; rw [hk]; rfl
    have e2 : qc = 2 := by rw [HQC.out]; unfold qcode; rw [hk]; rfl
    subst e1 e2
    have key : (FloatKind.f64.format.order p 0 == some .gt || FloatKind.f64.format.order p 0 == some .eq) = false ∨ ((FloatKind.f64.format.order p 0 == some .gt || FloatKind.f64.format.order p 0 == some .eq) = true ∧ (FloatKind.f64.format.order p 4607182418800017408 == some .lt || FloatKind.f64.format.order p 4607182418800017408 == some .eq) = false) ∨
        ((FloatKind.f64.format.order p 0 == some .gt || FloatKind.f64.format.order p 0 == some .eq) = true ∧ (FloatKind.f64.format.order p 4607182418800017408 == some .lt || FloatKind.f64.format.order p 4607182418800017408 == some .eq) = true ∧ L = 0) := by
      cases ha : (FloatKind.f64.format.order p 0 == some .gt || FloatKind.f64.format.order p 0 == some .eq)
      · exact .inl rfl
      · cases hb : (FloatKind.f64.format.order p 4607182418800017408 == some .lt || FloatKind.f64.format.order p 4607182418800017408 == some .eq)
        · exact .inr (.inl ⟨rfl, rfl⟩)
        · refine .inr (.inr ⟨rfl, rfl, Classical.byContradiction fun h0 => ?_⟩)
          unfold qok partOk at hk
          rw [show ge p 0 = true from ha, show le p ONE = true from hb] at hk
          have : xs = [] := by simpa using hk
          exact h0 (by rw [HLL.out, this]; rfl)
    clear hk
    rcases key with ha | ⟨ha, hb⟩ | ⟨ha, hb, rfl⟩
    all_goals
      go_enter Try.func35, Try.ntmps35
      go_wp2_with (go_at_call 42; refine (HSA.out _ ((Chg.refl _ _).alloc _)).mono ?_; rintro e w1 ⟨A1, c1, rfl, hcl, hc⟩; have HC := Lib.hid (((Chg.refl (fun _ => False) w).alloc (.cells #[.bool true, .float .f64 k, .slice A n c, .slice B m d] 44)).trans hc (fun _ _ h => h)); clear hcl hc HSA)
      go_ret2
      exact ⟨rfl, HC.out⟩
  · obtain ⟨hp, hne⟩ := qok_ne hk
    have e2 : qc = 0 := by rw [HQC.out]; unfold qcode; rw [hk]; rfl
    subst e2
    have hL0 : 0 < L := by rw [HLL.out]; exact List.length_pos_iff.2 hne
    obtain ⟨hz, hzi, hzt⟩ := want_some (p := p) (n := L) hp (by omega)
    have HEX := Lib.hid (qex hp hne HI.out (by rw [← HLL.out]; omega))
    rw [← HLL.out] at HEX
    have HVI : Hid (∀ x, IsQ xs (wantOf p L) x → qv = x) := fun x hx => by rw [HQV.out]; exact qval_is hk (by rw [← HLL.out]; exact hx)
    obtain ⟨z, hze⟩ : ∃ z, z = wantOf p L := ⟨_, rfl⟩
    rw [← hze] at hz hzi hzt HEX HVI
    rw [← f_of_nat] at hz
    have hop : ∀ t w, (binOp .mul t (.float .f64 p) (.float .f64 (floatOfInt .f64 (L : Int)))).run Try.prog w = .ok (.float .f64 z) w := fun t w => run_float_arith w .mul t .f64 _ _ _ hz
    have hA : (FloatKind.f64.format.order p 0 == some .gt || FloatKind.f64.format.order p 0 == some .eq) = true := by
      unfold partOk at hp
      simp only [Bool.and_eq_true] at hp
      exact hp.1
    have hB : (FloatKind.f64.format.order p 4607182418800017408 == some .lt || FloatKind.f64.format.order p 4607182418800017408 == some .eq) = true := by
      unfold partOk at hp
      simp only [Bool.and_eq_true] at hp
      exact hp.2
    have hL0' : ¬ (L : Int) = 0 := by omega
    clear hk hp hne hz hzi hzt hze
    go_enter Try.func35, Try.ntmps35
    go_wp2_with (go_at_call 42; refine (HSA.out _ ((Chg.refl _ _).alloc _)).mono ?_; rintro e w1 ⟨A1, c1, rfl, hcl, hc⟩; have HCL := Lib.hid hcl; have HC := Lib.hid (((Chg.refl (fun _ => False) w).alloc (.cells #[.bool true, .float .f64 k, .slice A n c, .slice B m d] 44)).trans hc (fun _ _ h => h)); clear hcl hc HSA)
    obtain ⟨b, off, rfl, hcell⟩ := HCL.out hL0
    have HCE : Hid (∀ (W : World), (∃ q, W = w1.drewN q) → ∀ (i x : Nat), xs[i]? = some x → W.cell? ⟨b, off + i, none⟩ = some (.float .f64 x)) := fun W hW i x hx => by
      obtain ⟨q, rfl⟩ := hW
      exact hcell i x hx
    clear hcell HCL
    go_loopw [8, 9, 10] (fun a f i wr => ∃ (q lo : Nat) (fl : Bool), q ≤ L ∧ i = .int .i64 q ∧ a = .float .f64 lo ∧ f = .bool fl ∧ lo < INF ∧ Found xs z q fl lo ∧ ∃ nn, wr = w1.drewN nn) (fun _ _ i _ => L - (intOf i).toNat)
    case atStart => exact ⟨0, 0, false, Nat.zero_le _, rfl, rfl, rfl, by decide, .inl ⟨rfl, rfl, fun j x hj => absurd hj (Nat.not_lt_zero _)⟩, 0, rfl⟩
    case round =>
      obtain ⟨w2, rfl⟩ : ∃ w2, w2 = wr := ⟨_, rfl⟩
      obtain ⟨q, lo, fl, hq, rfl, rfl, rfl, hloi, hfo, hw⟩ := hrel
      have HFO := Lib.hid hfo
      have HW := Lib.hid hw
      have HLO := Lib.hid hloi
      clear hfo hw hloi
      by_cases hlt : q < L
      · obtain ⟨x, hx⟩ : ∃ y, xs[q]? = some y := ⟨_, List.getElem?_eq_getElem (by have := HLL.out; omega)⟩
        have HX := Lib.hid hx
        have hxi := HI.out x (List.mem_of_getElem? hx)
        have HXI := Lib.hid hxi
        clear hx hxi
        go_wp2
        go_loopw [11, 12] (fun a i wr => ∃ j : Nat, j ≤ L ∧ i = .int .i64 j ∧ a = .int .i64 (cnt (xs.take j) x : Nat) ∧ ∃ nn, wr = w1.drewN nn) (fun _ i _ => L - (intOf i).toNat)
        case atStart => exact ⟨0, Nat.zero_le _, rfl, rfl, HW.out⟩
        case round =>
          obtain ⟨w3, rfl⟩ : ∃ w3, w3 = wr := ⟨_, rfl⟩
          obtain ⟨j, hj, rfl, rfl, hw3⟩ := hrel
          have HW3 := Lib.hid hw3
          clear hw3
          have hcb : cnt (xs.take j) x ≤ L := Nat.le_trans (cnt_le _ _) (by rw [List.length_take, ← HLL.out]; omega)
          by_cases hjl : j < L
          · obtain ⟨y, hy⟩ : ∃ y, xs[j]? = some y := ⟨_, List.getElem?_eq_getElem (by have := HLL.out; omega)⟩
            have yx := HCE.out w3 HW3.out q x HX.out
            have yy := HCE.out w3 HW3.out j y hy
            have hle := le_fin (HI.out y (List.mem_of_getElem? hy)) HXI.out
            have hct := cnt_take (x := x) hy
            have HCT := Lib.hid hct
            obtain ⟨bl, hbl⟩ : ∃ bl, bl = cnt (xs.take j) x := ⟨_, rfl⟩
            rw [← hbl] at hcb ⊢
            have HBL := Lib.hid hbl
            clear hct hy hbl
            by_cases hyx : y ≤ x
            · rw [decide_eq_true hyx] at hle
              have HYX := Lib.hid hyx
              clear hyx
              go_upto_region 16 with (fail)
              go_quiet (fail)
              go_wp2
              go_roundw
              case rel =>
                obtain ⟨nn, e⟩ := HW3.out
                exact ⟨j + 1, hjl, by go_num, by rw [HCT.out, if_pos HYX.out, ← HBL.out]; go_num, nn + nq, by rw [e, World.drewN_drewN]⟩
              case measure => simp [intOf]; omega
            · rw [decide_eq_false hyx] at hle
              have HYX := Lib.hid hyx
              clear hyx
              go_upto_region 16 with (fail)
              go_quiet (fail)
              go_wp2
              go_roundw
              case rel =>
                obtain ⟨nn, e⟩ := HW3.out
                exact ⟨j + 1, hjl, by go_num, by rw [HCT.out, if_neg HYX.out, ← HBL.out, Nat.add_zero], nn + nq, by rw [e, World.drewN_drewN]⟩
              case measure => simp [intOf]; omega
          · obtain rfl : j = L := by omega
            have hfull : xs.take j = xs := List.take_of_length_le (by rw [HLL.out]; exact Nat.le_refl _)
            rw [hfull] at hcb ⊢
            clear hfull
            have yx := HCE.out w3 HW3.out q x HX.out
            obtain ⟨bl, hbl⟩ : ∃ bl, bl = cnt xs x := ⟨_, rfl⟩
            have hge : (FloatKind.f64.format.order (floatOfInt .f64 (bl : Int)) z == some .gt || FloatKind.f64.format.order (floatOfInt .f64 (bl : Int)) z == some .eq) = ge (F bl) z := by rw [f_of_nat]; rfl
            rw [← hbl] at hcb ⊢
            have HBL := Lib.hid hbl
            have l1 := lt_fin HXI.out HLO.out
            clear hbl
            cases hgv : ge (F bl) z
            · rw [hgv] at hge
              have HGV := Lib.hid hgv
              clear hgv l1
              go_wp2
              go_roundw
              case rel => exact ⟨q + 1, lo, fl, hlt, by go_num, rfl, rfl, HLO.out, HFO.out.skip HX.out (by rw [← HBL.out]; exact HGV.out), HW3.out⟩
              case measure => simp [intOf]; omega
            · rw [hgv] at hge
              have HGV := Lib.hid hgv
              clear hgv
              cases fl
              · clear l1
                go_wp2
                go_roundw
                case rel => exact ⟨q + 1, x, true, hlt, by go_num, rfl, rfl, HXI.out, HFO.out.take HX.out (by rw [← HBL.out]; exact HGV.out) (.inl rfl), HW3.out⟩
                case measure => simp [intOf]; omega
              · by_cases hxl : x < lo
                · rw [decide_eq_true hxl] at l1
                  have HXL := Lib.hid hxl
                  clear hxl
                  go_wp2
                  go_roundw
                  case rel => exact ⟨q + 1, x, true, hlt, by go_num, rfl, rfl, HXI.out, HFO.out.take HX.out (by rw [← HBL.out]; exact HGV.out) (.inr HXL.out), HW3.out⟩
                  case measure => simp [intOf]; omega
                · rw [decide_eq_false hxl] at l1
                  have HXL := Lib.hid hxl
                  clear hxl
                  go_wp2
                  go_roundw
                  case rel => exact ⟨q + 1, lo, true, hlt, by go_num, rfl, rfl, HLO.out, HFO.out.stay HX.out (Nat.not_lt.1 HXL.out), HW3.out⟩
                  case measure => simp [intOf]; omega
      · obtain rfl : q = L := by omega
        have hv : qv = lo := by
          rcases HFO.out with ⟨-, -, h3⟩ | ⟨-, h2, h3, h4⟩
          · exfalso
            obtain ⟨y, hy⟩ := HEX.out
            obtain ⟨j, hj, e⟩ := List.mem_iff_getElem.1 hy.mem
            have := h3 j y (by rw [HLL.out]; exact hj) (by rw [List.getElem?_eq_getElem hj, e])
            rw [hy.ok] at this; cases this
          · refine HVI.out lo ⟨h2, h3, fun y hy hyg => ?_⟩
            obtain ⟨j, hj, e⟩ := List.mem_iff_getElem.1 hy
            exact h4 j y (by rw [HLL.out]; exact hj) (by rw [List.getElem?_eq_getElem hj, e]) hyg
        have HV := Lib.hid hv
        clear hv
        go_wp2
        go_ret2
        rw [HV.out]
        obtain ⟨nn, e⟩ := HW.out
        exact ⟨rfl, by rw [e]; exact HC.out.drewN _⟩
end
end Go.Proofs.Ytecppcgleidhkaa.Gx
