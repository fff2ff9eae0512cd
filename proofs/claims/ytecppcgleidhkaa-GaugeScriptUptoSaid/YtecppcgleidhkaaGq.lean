/- What Quantile answers. Conditions: a gauge as GV tells it. -/
import Derived.Test.YtecppcgleidhkaaGh
import Derived.Test.YtecppcgleidhkaaGt
import Derived.Test.YtecppcgleidhkaaTw
set_option linter.unusedVariables false
set_option linter.unusedSimpArgs false
namespace Go.Proofs.Ytecppcgleidhkaa.Gw
open Go.RowKit Go.Maps Go.Proofs.Ytecppcgleidhkaa.Lib1 Go.Proofs.Ytecppcgleidhkaa.Fl Go.Proofs.Ytecppcgleidhkaa.Gp

theorem f_of_succ (i : Nat) : floatOfInt .f64 ((i : Int) + 1) = F (i + 1) := by
  rw [← f_of_nat]; rfl
section
variable {E : Nat → Prop} {w : World} {b : Nat} {g : G}
theorem quantile_nil (p : Nat) (w : World) : Calls Try.prog 13 #[.pointer none, .float .f64 p] w fun e w' => e = .returned (.tuple #[.float .f64 0, .int .i64 1]) ∧ w' = w := by
  go_enter Try.func13, Try.ntmps13
  go_wp2
  go_ret2
  exact ⟨rfl, rfl⟩
/-- It answers nothing: no part, or no sample. -/
theorem quantile_none (h : GV E w b g) (hg : g.Good) (p : Nat) (hno : partOk p = false ∨ g.gaps = []) :
    Calls Try.prog 13 #[.pointer (some ⟨b, 0, none⟩), .float .f64 p] w fun e w' => e = .returned (.tuple #[.float .f64 0, .int .i64 2]) ∧ w' = w := by
  have HS := Lib.hid (samples_walk h hg)
  obtain ⟨n, hn⟩ : ∃ n, n = g.gaps.length := ⟨_, rfl⟩
  rw [← hn] at HS
  have hno' : ¬ (ge p 0 = true ∧ le p ONE = true ∧ n ≠ 0) := by
    rintro ⟨a1, a2, a3⟩
    rcases hno with h' | h'
    · unfold partOk at h'; rw [a1, a2] at h'; cases h'
    · rw [h'] at hn; exact a3 hn
  clear h hno hn
  unfold ge le at hno'
  rw [← order_fin_eq, ← order_fin_eq] at hno'
  unfold ONE at hno'
  have key : (FloatKind.f64.format.order p 0 == some .gt || FloatKind.f64.format.order p 0 == some .eq) = false ∨ ((FloatKind.f64.format.order p 0 == some .gt || FloatKind.f64.format.order p 0 == some .eq) = true ∧ (FloatKind.f64.format.order p 4607182418800017408 == some .lt || FloatKind.f64.format.order p 4607182418800017408 == some .eq) = false) ∨
      ((FloatKind.f64.format.order p 0 == some .gt || FloatKind.f64.format.order p 0 == some .eq) = true ∧ (FloatKind.f64.format.order p 4607182418800017408 == some .lt || FloatKind.f64.format.order p 4607182418800017408 == some .eq) = true ∧ n = 0) := by
    cases ha : (FloatKind.f64.format.order p 0 == some .gt || FloatKind.f64.format.order p 0 == some .eq)
    · exact .inl rfl
    · cases hb : (FloatKind.f64.format.order p 4607182418800017408 == some .lt || FloatKind.f64.format.order p 4607182418800017408 == some .eq)
      · exact .inr (.inl ⟨rfl, rfl⟩)
      · exact .inr (.inr ⟨rfl, rfl, Classical.byContradiction fun h0 => hno' ⟨ha, hb, h0⟩⟩)
  clear hno'
  rcases key with ha | ⟨ha, hb⟩ | ⟨ha, hb, rfl⟩
  all_goals
    go_enter Try.func13, Try.ntmps13
    go_wp2_with (go_at_call 29; refine HS.out.mono ?_; rintro e w' ⟨rfl, rfl⟩)
    go_ret2
    exact ⟨rfl, rfl⟩
theorem order_geq {a z : Nat} (ha : a < INF) (hz : rg z < INF) : ∃ o, Ieee.double.order a z = some o := ⟨_, order_fin (by rw [rg_pos (Nat.lt_trans ha INF_lt)]; exact ha) hz⟩
set_option maxRecDepth 100000 in
set_option maxHeartbeats 4000000 in
theorem quantile_walk (h : GV E w b g) (hg : g.Good) (p : Nat) (hp : partOk p = true) (h0 : g.gaps ≠ []) (hn : g.gaps.length ≤ 17592186043904) :
    Calls Try.prog 13 #[.pointer (some ⟨b, 0, none⟩), .float .f64 p] w fun e w' => (∃ x, e = .returned (.tuple #[.float .f64 x, .int .i64 0]) ∧ IsQ g.gaps (wantOf p g.gaps.length) x) ∧ Chg (fun _ => False) w w' := by
  have HS := Lib.hid (samples_walk h hg)
  obtain ⟨hz, hzi, hzt⟩ := want_some hp hg.gaps_len
  have hxs := hg.gaps_le
  obtain ⟨mb, gs, D, h⟩ := h
  obtain ⟨A, c, rfl⟩ := h.form
  have q4 := cell_at h.box 4 rfl
  unfold box at q4
  have HR : Hid (Rd (fun k => k < w.heap.size) w A g.gaps.length c 1 (fs g.gaps)) := by
    obtain ⟨A', c', e, hr⟩ := Rd.of_own h.row
    cases e
    exact hr.mono (fun k hk => (h.row.lt k hk).2)
  clear h
  obtain ⟨xs, hxse⟩ : ∃ xs, xs = g.gaps := ⟨_, rfl⟩
  rw [← hxse] at HS hz hzi hzt hxs q4 HR h0 hn ⊢
  obtain ⟨z, hze⟩ : ∃ z, z = wantOf p xs.length := ⟨_, rfl⟩
  rw [← hze] at hz hzi hzt ⊢
  obtain ⟨n, hnn⟩ : ∃ n, n = xs.length := ⟨_, rfl⟩
  rw [← hnn, ← f_of_nat] at hz
  rw [← hnn] at HS q4 hzt hn
  have hn0 : 1 ≤ n := by
    rcases Nat.eq_zero_or_pos n with e | e
    · exact absurd (List.eq_nil_of_length_eq_zero (by omega)) h0
    · exact e
  have hB : (FloatKind.f64.format.order p 4607182418800017408 == some .lt || FloatKind.f64.format.order p 4607182418800017408 == some .eq) = true := by
    unfold partOk at hp
    simp only [Bool.and_eq_true] at hp
    exact hp.2
  have hA : (FloatKind.f64.format.order p 0 == some .gt || FloatKind.f64.format.order p 0 == some .eq) = true := by
    unfold partOk at hp
    simp only [Bool.and_eq_true] at hp
    exact hp.1
  have hop : ∀ t w, (binOp .mul t (.float .f64 p) (.float .f64 (floatOfInt .f64 (n : Int)))).run Try.prog w = .ok (.float .f64 z) w := fun t w => run_float_arith w .mul t .f64 _ _ _ hz
  have HX : Hid (∀ x ∈ xs, x < INF) := fun x hx => B62_inf (hxs x hx)
  have HT := Lib.hid hzt
  have HZ := Lib.hid hzi
  have HN : Hid (n = xs.length ∧ 1 ≤ n ∧ n ≤ 17592186043904) := ⟨hnn, hn0, hn⟩
  have HSrt : Hid (∀ (Bv : Nat) (W : World), W.cell? ⟨Bv, 0, none⟩ = some (.slice A n c) → Chg (fun _ => False) w W → Calls Try.prog 30 #[.func (.func 41) #[] #[.pointer (some ⟨Bv, 0, none⟩)]] W fun e w' =>
      ∃ g c, e = .returned (.slice (some ⟨g, 0, none⟩) n c) ∧ (∀ j, j < n → w'.cell? ⟨g, j, none⟩ = some (.float .f64 ((Tv.srt xs).getD j 0))) ∧ Chg (fun _ => False) W w') := fun Bv W hc hch => by
    rw [hnn] at hc ⊢
    refine Tv.sorted_any Bv A c xs W hc ?_ (by omega) (by omega) HX.out
    exact (HR.out.move (fun k hk => hch.block k hk (fun h => h))).mono (fun k hk => Nat.lt_of_lt_of_le hk hch.size)
  clear hp hz hzi hzt hxs h0 hxse hze hnn hn hg
  go_enter Try.func13, Try.ntmps13
  go_wp2_with (first
    | (go_at_call 29; refine HS.out.mono ?_; rintro e w' ⟨rfl, hw'⟩; subst hw')
    | (go_at_call 31; refine (Tv.vals_any _ _ _ _ rfl _).mono ?_; rintro e w' ⟨rfl, hw'⟩; subst hw')
    | (go_at_call 30; refine (HSrt.out _ _ (cell_at (heap_new _ _) 0 rfl) ((Chg.refl _ _).alloc _)).mono ?_; rintro e w2 ⟨g2, c2, rfl, k1, k2⟩; have K1 := Lib.hid k1; have K2 := Lib.hid k2; clear k1 k2))
  obtain ⟨cs, hcs⟩ : ∃ cs, cs = Tv.srt xs := ⟨_, rfl⟩
  rw [← hcs] at K1
  have HPM : Hid (cs.Perm xs) := by rw [hcs]; exact Tv.srt_perm HX.out
  have HCL : Hid (cs.length = n) := by rw [hcs, Tv.srt_len]; exact HN.out.1.symm
  have HPW : Hid (cs.Pairwise (· ≤ ·)) := pairwise_of (fun i j hij hj => by rw [hcs] at hj ⊢; rw [Tv.srt_len] at hj; exact Tv.srt_sorted xs i j hij hj)
  have HCI : Hid (∀ k, k < n → cs.getD k 0 < INF) := fun k hk => HX.out _ (HPM.out.mem_iff.1 (by rw [List.getD_eq_getElem?_getD, List.getElem?_eq_getElem (by rw [HCL.out]; exact hk)]; exact List.getElem_mem _))
  clear hcs HSrt HR
  go_loopw [38] (fun i wr => ∃ k : Nat, k ≤ n ∧ i = .int .i64 k ∧ wr = w2 ∧ ∀ j, j < k → ¬ stops cs z j) (fun i _ => n - (intOf i).toNat)
  case atStart => exact ⟨0, Nat.zero_le _, rfl, rfl, fun j hj => absurd hj (Nat.not_lt_zero _)⟩
  case round =>
    obtain ⟨k, hk, rfl, hwr, hno⟩ := hrel
    have HNO := Lib.hid hno
    have hnb : n ≤ 17592186043904 := HN.out.2.2
    subst hwr
    clear hno
    by_cases hlt : k < n
    · have hx := K1.out k hlt
      have hxi := HCI.out k hlt
      have hkf : F (k + 1) < INF := (F_val (show k + 1 < 2 ^ 53 by omega)).2
      have hgf := ge_fin hkf HZ.out
      obtain ⟨x, hxe⟩ : ∃ x, x = cs.getD k 0 := ⟨_, rfl⟩
      rw [← hxe] at hx hxi
      have HXE := Lib.hid hxe
      have hge : (FloatKind.f64.format.order (floatOfInt .f64 ((k : Int) + 1)) z == some .gt || FloatKind.f64.format.order (floatOfInt .f64 ((k : Int) + 1)) z == some .eq) = ge (F (k + 1)) z := by rw [f_of_succ]; rfl
      clear hxe hkf hgf
      by_cases hlast : k + 1 < n
      · have hy := K1.out (k + 1) hlast
        have hyi := HCI.out (k + 1) hlast
        obtain ⟨y, hye⟩ : ∃ y, y = cs.getD (k + 1) 0 := ⟨_, rfl⟩
        rw [← hye] at hy hyi
        have HYE := Lib.hid hye
        have hor : FloatKind.f64.format.order y x = some (compare y x) := Lq.order_pos hyi hxi
        clear hye hyi hxi
        by_cases hyx : y = x
        · rw [Nat.compare_eq_eq.2 hyx] at hor
          have HYX := Lib.hid hyx
          clear hyx hge
          go_wp2
          go_roundw
          case rel =>
            refine ⟨k + 1, hlt, by go_num, trivial, fun j hj => ?_⟩
            rcases Nat.lt_or_ge j k with h | h
            · exact HNO.out j h
            · obtain rfl : j = k := by omega
              rintro ⟨h1 | h1, -⟩
              · have := HCL.out; omega
              · exact h1 (by rw [← HYE.out, ← HXE.out, HYX.out])
          case measure => simp [intOf]; omega
        · have hne : (FloatKind.f64.format.order y x == some .eq) = false := by
            rw [hor]
            rcases Nat.lt_trichotomy y x with c | c | c
            · rw [Nat.compare_eq_lt.2 c]; rfl
            · exact absurd c hyx
            · rw [Nat.compare_eq_gt.2 c]; rfl
          have HYX := Lib.hid hyx
          clear hyx hor
          cases hgv : ge (F (k + 1)) z
          · rw [hgv] at hge
            have HGV := Lib.hid hgv
            clear hgv
            go_wp2
            go_roundw
            case rel =>
              refine ⟨k + 1, hlt, by go_num, trivial, fun j hj => ?_⟩
              rcases Nat.lt_or_ge j k with h | h
              · exact HNO.out j h
              · obtain rfl : j = k := by omega
                rintro ⟨-, h1⟩
                rw [HGV.out] at h1; cases h1
            case measure => simp [intOf]; omega
          · rw [hgv] at hge
            have HGV := Lib.hid hgv
            clear hgv
            go_wp2
            go_ret2
            refine ⟨⟨x, rfl, ?_⟩, ?_⟩
            · rw [HXE.out]
              exact stop_is HPM.out HPW.out (by rw [HCL.out]; exact hlt) ⟨.inr (by rw [← HYE.out, ← HXE.out]; exact HYX.out), HGV.out⟩ HNO.out
            · exact ((Chg.refl (fun _ => False) _).alloc _).trans K2.out (fun _ _ h => h)
      · have HKN : Hid (k + 1 = n) := by show _ = _; omega
        cases hgv : ge (F (k + 1)) z
        · exfalso
          rw [HKN.out, HT.out] at hgv; cases hgv
        · rw [hgv] at hge
          have HGV := Lib.hid hgv
          clear hgv hxi
          go_wp2
          go_ret2
          refine ⟨⟨x, rfl, ?_⟩, ?_⟩
          · rw [HXE.out]
            exact stop_is HPM.out HPW.out (by rw [HCL.out]; exact hlt) ⟨.inl (by rw [HCL.out]; exact HKN.out), HGV.out⟩ HNO.out
          · exact ((Chg.refl (fun _ => False) _).alloc _).trans K2.out (fun _ _ h => h)
    · exfalso
      have h1 := HN.out.2.1
      refine HNO.out (n - 1) (by omega) ⟨.inl (by rw [HCL.out]; omega), ?_⟩
      rw [show n - 1 + 1 = n by omega]; exact HT.out
end
end Go.Proofs.Ytecppcgleidhkaa.Gw
