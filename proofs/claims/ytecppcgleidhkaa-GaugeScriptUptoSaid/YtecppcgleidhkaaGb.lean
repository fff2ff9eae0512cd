/- The law GaugeBetween, walked. Conditions: the list reads so; at most 1048576 of them. -/
import Derived.Test.YtecppcgleidhkaaGo
import Derived.Test.YtecppcgleidhkaaGk
set_option linter.unusedVariables false
set_option linter.unusedSimpArgs false
set_option exponentiation.threshold 3000
namespace Go.Proofs.Ytecppcgleidhkaa.Gb
open Go.RowKit Go.Proofs.Ytecppcgleidhkaa.Lib1 Go.Proofs.Ytecppcgleidhkaa.Rel Go.Proofs.Ytecppcgleidhkaa.Own Go.Proofs.Ytecppcgleidhkaa.Fl Go.Proofs.Ytecppcgleidhkaa.Gp Go.Proofs.Ytecppcgleidhkaa.Gw Go.Proofs.Ytecppcgleidhkaa.Gm

/-- A gap as the laws reckon it. -/
theorem gap_at {g : G} {keep : Nat} {l : List (Int × Int)} (h : Heard g keep l) {i : Nat} (hi : i + 1 < l.length) {s1 c1 s0 c0 : Int} (h1 : l[i + 1]? = some (s1, c1)) (h0 : l[i]? = some (s0, c0)) :
    g.gaps[i]? = some (floatOfInt .f64 (s1 - s0)) ∧ 0 ≤ s1 - s0 ∧ s1 - s0 ≤ 4611686018427387904 := by
  have e1 : l.getD (i + 1) (0, 0) = (s1, c1) := by rw [List.getD_eq_getElem?_getD, h1]; rfl
  have e0 : l.getD i (0, 0) = (s0, c0) := by rw [List.getD_eq_getElem?_getD, h0]; rfl
  have hr := h.rise i hi
  rw [e1, e0] at hr
  have k1 := h.ok _ (List.mem_of_getElem? h1)
  have k0 := h.ok _ (List.mem_of_getElem? h0)
  simp only at hr k1 k0
  refine ⟨?_, by omega, by omega⟩
  have hg := gaps_get g.slots i (by rw [h.slots]; simpa using hi)
  unfold G.gaps
  rw [hg, h.slots]
  have f1 : (l.map fun h => h.1.toNat).getD (i + 1) 0 = s1.toNat := by simp [List.getD_eq_getElem?_getD, h1]
  have f0 : (l.map fun h => h.1.toNat).getD i 0 = s0.toNat := by simp [List.getD_eq_getElem?_getD, h0]
  rw [f1, f0]
  have : s1 - s0 = ((s1.toNat - s0.toNat : Nat) : Int) := by omega
  rw [this, f_of_nat]
theorem gaps_length {g : G} {keep : Nat} {l : List (Int × Int)} (h : Heard g keep l) : g.gaps.length = l.length - 1 := by
  unfold G.gaps; rw [Gp.gaps_len, h.slots, List.length_map]
theorem le_fin {a b : Nat} (ha : a < INF) (hb : b < INF) : (FloatKind.f64.format.order a b == some .lt || FloatKind.f64.format.order a b == some .eq) = decide (a ≤ b) := by
  rw [show FloatKind.f64.format.order a b = some (compare a b) from Lq.order_pos ha hb]
  rcases Nat.lt_trichotomy a b with c | c | c
  · rw [Nat.compare_eq_lt.2 c, decide_eq_true (by omega)]; rfl
  · rw [Nat.compare_eq_eq.2 c, decide_eq_true (by omega)]; rfl
  · rw [Nat.compare_eq_gt.2 c, decide_eq_false (by omega)]; rfl
theorem ge_fin2 {a b : Nat} (ha : a < INF) (hb : b < INF) : (FloatKind.f64.format.order a b == some .gt || FloatKind.f64.format.order a b == some .eq) = decide (b ≤ a) := by
  rw [show FloatKind.f64.format.order a b = some (compare a b) from Lq.order_pos ha hb]
  rcases Nat.lt_trichotomy a b with c | c | c
  · rw [Nat.compare_eq_lt.2 c, decide_eq_false (by omega)]; rfl
  · rw [Nat.compare_eq_eq.2 c, decide_eq_true (by omega)]; rfl
  · rw [Nat.compare_eq_gt.2 c, decide_eq_true (by omega)]; rfl
theorem lt_fin {a b : Nat} (ha : a < INF) (hb : b < INF) : (FloatKind.f64.format.order a b == some .lt) = decide (a < b) := by
  rw [show FloatKind.f64.format.order a b = some (compare a b) from Lq.order_pos ha hb]
  rcases Nat.lt_trichotomy a b with c | c | c
  · rw [Nat.compare_eq_lt.2 c, decide_eq_true (by omega)]; rfl
  · rw [Nat.compare_eq_eq.2 c, decide_eq_false (by omega)]; rfl
  · rw [Nat.compare_eq_gt.2 c, decide_eq_false (by omega)]; rfl
theorem gt_fin {a b : Nat} (ha : a < INF) (hb : b < INF) : (FloatKind.f64.format.order a b == some .gt) = decide (b < a) := by
  rw [show FloatKind.f64.format.order a b = some (compare a b) from Lq.order_pos ha hb]
  rcases Nat.lt_trichotomy a b with c | c | c
  · rw [Nat.compare_eq_lt.2 c, decide_eq_false (by omega)]; rfl
  · rw [Nat.compare_eq_eq.2 c, decide_eq_false (by omega)]; rfl
  · rw [Nat.compare_eq_gt.2 c, decide_eq_true (by omega)]; rfl
theorem ne_fin {a b : Nat} (ha : a < INF) (hb : b < INF) : (FloatKind.f64.format.order a b != some .eq) = decide (a ≠ b) := by
  rw [show FloatKind.f64.format.order a b = some (compare a b) from Lq.order_pos ha hb]
  rcases Nat.lt_trichotomy a b with c | c | c
  · rw [Nat.compare_eq_lt.2 c, decide_eq_true (by omega)]; rfl
  · rw [Nat.compare_eq_eq.2 c, decide_eq_false (by omega)]; rfl
  · rw [Nat.compare_eq_gt.2 c, decide_eq_true (by omega)]; rfl
/-- The responses, as they are handed on. -/
theorem resp_walk (hs : List (Int × Int)) (A : Option Addr) (n c : Nat) (w : World) (h : (Kd.slice 16 heardK).rel (fun k => k < w.heap.size) w hs [.slice A n c]) (hn : n ≤ 1073741824) :
    Calls Try.prog 12 #[.slice A n c] w fun e w' => ∃ A2 c2, e = .returned (.slice A2 n c2) ∧ (Kd.slice 112 respK).rel (fun k => k < w'.heap.size) w' hs [.slice A2 n c2] ∧ OwnL respK 65 w.heap.size w' (.slice A2 n c2) hs ∧ Chg (fun _ => False) w w' := by
  have HL : hs.length = n := by
    obtain ⟨A', c', cells, he, -⟩ := h
    simp only [List.cons.injEq, Value.slice.injEq, and_true] at he
    exact he.2.1.symm
  refine (responses_walk hs A n c w h hn).mono ?_
  rintro e w' ⟨v, rfl, ho, hc⟩
  obtain ⟨A2, c2, e1⟩ := ho.form
  rw [HL] at e1
  subst e1
  exact ⟨A2, c2, rfl, (Kd.slice 112 respK).mono (fun k hk => hk.2) ho.reads, ho, hc⟩
set_option maxRecDepth 100000 in
set_option maxHeartbeats 4000000 in
theorem between_walk (hs : List (Int × Int)) (A : Option Addr) (n c : Nat) (w : World) (h : (Kd.slice 16 heardK).rel (fun k => k < w.heap.size) w hs [.slice A n c]) (hn : n ≤ 1048576) (hfit : ∀ x ∈ hs, (Lit.int .i64 x.1).wf = true ∧ (Lit.int .i64 x.2).wf = true) :
    Calls Try.prog 4 #[.slice A n c] w fun e w' => e = .returned (.bool true) ∧ Below w.heap.size w w' := by
  have HL : Hid (hs.length = n) := by
    obtain ⟨A', c', cells, he, -⟩ := h
    simp only [List.cons.injEq, Value.slice.injEq, and_true] at he
    exact he.2.1.symm
  have HH : Hid (∀ W, Chg (fun _ => False) w W → (Kd.slice 16 heardK).rel (fun k => k < W.heap.size) W hs [.slice A n c]) := fun W hc => (Kd.slice 16 heardK).mono (fun k hk => Nat.lt_of_lt_of_le hk hc.size) ((Kd.slice 16 heardK).move (fun k hk => hc.block k hk (fun h => h)) h)
  have HF := Lib.hid hfit
  have HM : Hid (∀ (W : World) (A : Option Addr) (c : Nat), (Kd.slice 112 respK).rel (fun k => k < W.heap.size) W hs [.slice A n c] → Calls Try.prog 11 #[.float .f64 4602678819172646912, .slice A n c] W fun e w' => MRes W (Gm.measure 4602678819172646912 hs) e w') := fun W A c h => measure_walk 4602678819172646912 (by decide) hs A n c W h (by omega) hfit
  clear h hfit
  cases hme : Gm.measure 4602678819172646912 hs with
  | none =>
    rw [hme] at HM
    go_enter Try.func4, Try.ntmps4
    go_wp2_with (first
      | (go_at_call 10; refine (head_walk _).mono ?_; rintro e w1 ⟨rfl, hc1⟩; have HC1 := Lib.hid hc1; clear hc1)
      | (go_at_call 12; refine (resp_walk hs A n c _ (HH.out _ HC1.out) (by omega)).mono ?_; rintro e w2 ⟨A2, c2, rfl, ho, -, hc⟩; have HO := Lib.hid ho; have HC2 := Lib.hid hc; clear ho hc)
      | (go_at_call 11; go_loud (refine (HM.out _ _ _ HO.out).mono ?_; rintro e w3 ⟨rfl, hc3⟩; have HC3 := Lib.hid hc3; clear hc3)))
    go_ret
    exact ⟨rfl, ((HC1.out.trans HC2.out (fun _ _ h => h)).trans HC3.out (fun _ _ h => h)).below⟩
  | some g =>
    rw [hme] at HM
    have hkk : keeps 4602678819172646912 = true := by decide
    have hhs : hears (g0 4602678819172646912) hs = some g := by
      unfold Gm.measure at hme
      rw [if_pos hkk] at hme
      exact hme
    have HHD := Lib.hid (heard_any hhs)
    have HGD := Lib.hid (good_any (by decide : 4602678819172646912 < ONE) hhs (by have := HL.out; omega))
    have HXL := Lib.hid (gaps_length HHD.out)
    have HMS := Lib.hid HGD.out.ms
    obtain ⟨xs, hxs⟩ : ∃ xs, xs = g.gaps := ⟨_, rfl⟩
    obtain ⟨m, hm⟩ : ∃ m, m = mean g.gaps := ⟨_, rfl⟩
    obtain ⟨s, hs'⟩ : ∃ s, s = spreadOf g := ⟨_, rfl⟩
    have HXS := Lib.hid hxs
    have HMM := Lib.hid hm
    have HSS := Lib.hid hs'
    have hMe : Hid (∀ {E : Nat → Prop} {W : World} {b : Nat}, GV E W b g → Calls Try.prog 14 #[.pointer (some ⟨b, 0, none⟩)] W fun e w' => e = .returned (.tuple #[.float .f64 m, .bool (decide (2 ≤ n))]) ∧ w' = W) := fun {E W b} hg => by
      have h1 := mean_walk hg HGD.out
      rw [← HMM.out] at h1
      have h2 : (!g.gaps.isEmpty) = decide (2 ≤ n) := by
        have h3 := HXL.out
        rw [HL.out] at h3
        cases hh : g.gaps with
        | nil => rw [hh] at h3; simp at h3; simp; omega
        | cons x l => rw [hh] at h3; simp at h3; simp; omega
      rw [h2] at h1
      exact h1
    have hSp : Hid (∀ {E : Nat → Prop} {W : World} {b : Nat}, GV E W b g → Calls Try.prog 15 #[.pointer (some ⟨b, 0, none⟩)] W fun e w' => e = .returned (.tuple #[.float .f64 s, .bool (!g.gaps.isEmpty)]) ∧ Chg (fun _ => False) W w') := fun {E W b} hg => by
      have h1 := spread_walk hg HGD.out
      rw [← HSS.out] at h1
      exact h1
    clear hme hkk hhs hm hs' hxs
    by_cases hn2 : n < 2
    · have hd : decide (2 ≤ n) = false := decide_eq_false (by omega)
      rw [hd] at hMe
      have hm0 : m = 0 := by
        rw [HMM.out]
        refine HMS.out.zero (List.eq_nil_of_length_eq_zero ?_)
        have := HXL.out
        have := HL.out
        omega
      subst hm0
      go_enter Try.func4, Try.ntmps4
      go_wp2_with (first
        | (go_at_call 10; refine (head_walk _).mono ?_; rintro e w1 ⟨rfl, hc1⟩; have HC1 := Lib.hid hc1; clear hc1)
        | (go_at_call 12; refine (resp_walk hs A n c _ (HH.out _ HC1.out) (by omega)).mono ?_; rintro e w2 ⟨A2, c2, rfl, ho, -, hc⟩; have HO := Lib.hid ho; have HC2 := Lib.hid hc; clear ho hc)
        | (go_at_call 11; refine (HM.out _ _ _ HO.out).mono ?_; rintro e w3 ⟨b, rfl, hg, hc3⟩; have HC3 := Lib.hid hc3; have HG := Lib.hid hg; clear hc3 hg)
        | (go_at_call 14; refine (hMe.out HG.out).mono ?_; rintro e w' ⟨rfl, hw'⟩; subst hw')
        | (go_at_call 15; refine (hSp.out HG.out).mono ?_; rintro e w4 ⟨rfl, hc4⟩; have HC4 := Lib.hid hc4; clear hc4)
        | (go_at_call 16; refine (same_walk _ _ _).mono ?_; rintro e w5 ⟨rfl, h5⟩; subst h5))
      go_ret
      exact ⟨rfl, (((HC1.out.trans HC2.out (fun _ _ h => h)).trans HC3.out (fun _ _ h => h)).trans HC4.out (fun _ _ h => h)).below⟩
    · have hd : decide (2 ≤ n) = true := decide_eq_true (by omega)
      rw [hd] at hMe
      have hn2' : 2 ≤ n := by omega
      clear hn2 hd
      obtain ⟨-, bl, off, rfl, hbl, hcells⟩ := heard_at (HH.out _ (Chg.refl _ w)) (by omega)
      have HCL : Hid (∀ W, Chg (fun _ => False) w W → ∀ i s c, hs[i]? = some (s, c) → W.cell? ⟨bl, off + i * 2, none⟩ = some (.int .i64 s) ∧ W.cell? ⟨bl, off + i * 2 + 1, none⟩ = some (.int .i64 c)) := fun W hW i s c hi => by
        obtain ⟨k1, k2⟩ := hcells i s c hi
        exact ⟨(World.cell?_of_block (a := ⟨bl, off + i * 2, none⟩) (hW.block bl hbl (fun h => h))).trans k1, (World.cell?_of_block (a := ⟨bl, off + i * 2 + 1, none⟩) (hW.block bl hbl (fun h => h))).trans k2⟩
      have HGA : Hid (∀ i, i + 1 < n → ∃ s1 c1 s0 c0, hs[i + 1]? = some (s1, c1) ∧ hs[i]? = some (s0, c0) ∧ xs[i]? = some (floatOfInt .f64 (s1 - s0)) ∧ floatOfInt .f64 (s1 - s0) < INF ∧ (0 ≤ s1 ∧ s1 ≤ 4611686018427387904) ∧ (0 ≤ s0 ∧ s0 ≤ 4611686018427387904) ∧ 0 ≤ s1 - s0) := fun i hi => by
        have hl := HL.out
        obtain ⟨⟨s1, c1⟩, h1⟩ : ∃ x, hs[i + 1]? = some x := ⟨_, List.getElem?_eq_getElem (by omega)⟩
        obtain ⟨⟨s0, c0⟩, h0⟩ : ∃ x, hs[i]? = some x := ⟨_, List.getElem?_eq_getElem (by omega)⟩
        obtain ⟨k1, k2, k3⟩ := gap_at HHD.out (by omega) h1 h0
        rw [← HXS.out] at k1
        exact ⟨s1, c1, s0, c0, h1, h0, k1, B62_inf (HGD.out.gaps_le _ (by rw [← HXS.out]; exact List.mem_of_getElem? k1)), HHD.out.ok _ (List.mem_of_getElem? h1), HHD.out.ok _ (List.mem_of_getElem? h0), k2⟩
      clear hcells
      go_enter Try.func4, Try.ntmps4
      go_upto_region 10 with (first
        | (go_at_call 10; refine (head_walk _).mono ?_; rintro e w1 ⟨rfl, hc1⟩; have HC1 := Lib.hid hc1; clear hc1)
        | (go_at_call 12; refine (resp_walk hs _ n c _ (HH.out _ HC1.out) (by omega)).mono ?_; rintro e w2 ⟨A2, c2, rfl, ho, -, hc⟩; have HO := Lib.hid ho; have HC2 := Lib.hid hc; clear ho hc)
        | (go_at_call 11; refine (HM.out _ _ _ HO.out).mono ?_; rintro e w3 ⟨b, rfl, hg, hc3⟩; have HC3 := Lib.hid hc3; have HG := Lib.hid hg; clear hc3 hg)
        | (go_at_call 14; refine (hMe.out HG.out).mono ?_; rintro e w' ⟨rfl, hw'⟩; subst hw')
        | (go_at_call 15; refine (hSp.out HG.out).mono ?_; rintro e w4 ⟨rfl, hc4⟩; have HC4 := Lib.hid hc4; clear hc4))
      have HW4 : Hid (Chg (fun _ => False) w w4) := ((HC1.out.trans HC2.out (fun _ _ h => h)).trans HC3.out (fun _ _ h => h)).trans HC4.out (fun _ _ h => h)
      clear HC1 HC2 HC3 HC4 HO HG HM HH hMe hSp
      obtain ⟨s1, c1, s0, c0, e1, e0, k1, k2, k3, k4, k5⟩ := HGA.out 0 (by omega)
      have y1 := (HCL.out w4 HW4.out 1 s1 c1 e1).1
      have y0 := (HCL.out w4 HW4.out 0 s0 c0 e0).1
      simp only [Nat.zero_mul, Nat.one_mul, Nat.add_zero] at y1 y0
      have K1 := Lib.hid k1
      have K2 := Lib.hid k2
      clear e1 e0 k1 k2
      go_quiet (fail)
      go_wp2
      go_loopw [9, 10, 11] (fun l h i wr => ∃ (j lo hi : Nat), 1 ≤ j ∧ j + 1 ≤ n ∧ l = .float .f64 lo ∧ h = .float .f64 hi ∧ i = .int .i64 ((j : Int) + 1) ∧ (∀ q x, q < j → xs[q]? = some x → lo ≤ x ∧ x ≤ hi) ∧ lo ∈ xs ∧ hi ∈ xs ∧ lo < INF ∧ hi < INF ∧ Chg (fun _ => False) w wr) (fun _ _ i _ => n - (intOf i).toNat)
      case atStart =>
        refine ⟨1, _, _, Nat.le_refl _, by omega, rfl, rfl, rfl, fun q x hq hx => ?_, List.mem_of_getElem? K1.out, List.mem_of_getElem? K1.out, K2.out, K2.out, HW4.out.drewN _⟩
        obtain rfl : q = 0 := by omega
        rw [K1.out] at hx
        cases hx
        exact ⟨Nat.le_refl _, Nat.le_refl _⟩
      case round =>
        obtain ⟨w5, rfl⟩ : ∃ w5, w5 = wr := ⟨_, rfl⟩
        obtain ⟨j, lo, hi, hj1, hjn, rfl, rfl, rfl, hall, hlo, hhi, hloi, hhii, hc⟩ := hrel
        have HALL := Lib.hid hall
        have HLO := Lib.hid hlo
        have HHI := Lib.hid hhi
        have HC5 := Lib.hid hc
        clear hall hlo hhi hc y0 y1 k3 k4 k5 K1 K2
        by_cases hlt : j + 1 < n
        · obtain ⟨s1, c1, s0, c0, e1, e0, k1, k2, k3, k4, k5⟩ := HGA.out j hlt
          have y1 := (HCL.out w5 HC5.out (j + 1) s1 c1 e1).1
          have y0 := (HCL.out w5 HC5.out j s0 c0 e0).1
          have K1 := Lib.hid k1
          have K2 := Lib.hid k2
          have HLI := Lib.hid hloi
          have HHII := Lib.hid hhii
          have l1 := lt_fin k2 hloi
          have l2 := gt_fin k2 hhii
          have HIFF : Hid (∀ q x, q < j + 1 → xs[q]? = some x → (q < j ∧ lo ≤ x ∧ x ≤ hi) ∨ x = floatOfInt .f64 (s1 - s0)) := fun q x hq hx => by
            rcases Nat.lt_or_ge q j with h | h
            · exact .inl ⟨h, HALL.out q x h hx⟩
            · obtain rfl : q = j := by omega
              rw [K1.out] at hx; cases hx; exact .inr rfl
          clear e1 e0 k1 k2 hloi hhii
          by_cases h1 : floatOfInt .f64 (s1 - s0) < lo
          · rw [decide_eq_true h1] at l1
            have H1 := Lib.hid h1
            clear h1
            by_cases h2 : hi < floatOfInt .f64 (s1 - s0)
            · rw [decide_eq_true h2] at l2
              have H2 := Lib.hid h2
              clear h2
              go_upto_region 15 with (fail)
              go_quiet (fail)
              go_wp2
              go_roundw
              case rel => exact ⟨j + 1, _, _, by omega, by omega, rfl, rfl, by go_num, fun q x hq hx => (HIFF.out q x hq hx).elim (fun ⟨_, a, b⟩ => ⟨by have := H1.out; omega, by have := H2.out; omega⟩) (fun e => by rw [e]; exact ⟨Nat.le_refl _, Nat.le_refl _⟩), List.mem_of_getElem? K1.out, List.mem_of_getElem? K1.out, K2.out, K2.out, HC5.out.drewN _⟩
              case measure => simp [intOf]; omega
            · rw [decide_eq_false h2] at l2
              have H2 := Lib.hid h2
              clear h2
              go_upto_region 15 with (fail)
              go_quiet (fail)
              go_wp2
              go_roundw
              case rel => exact ⟨j + 1, _, _, by omega, by omega, rfl, rfl, by go_num, fun q x hq hx => (HIFF.out q x hq hx).elim (fun ⟨_, a, b⟩ => ⟨by have := H1.out; omega, b⟩) (fun e => by rw [e]; exact ⟨Nat.le_refl _, by have := H2.out; omega⟩), List.mem_of_getElem? K1.out, HHI.out, K2.out, HHII.out, HC5.out.drewN _⟩
              case measure => simp [intOf]; omega
          · rw [decide_eq_false h1] at l1
            have H1 := Lib.hid h1
            clear h1
            by_cases h2 : hi < floatOfInt .f64 (s1 - s0)
            · rw [decide_eq_true h2] at l2
              have H2 := Lib.hid h2
              clear h2
              go_upto_region 15 with (fail)
              go_quiet (fail)
              go_wp2
              go_roundw
              case rel => exact ⟨j + 1, _, _, by omega, by omega, rfl, rfl, by go_num, fun q x hq hx => (HIFF.out q x hq hx).elim (fun ⟨_, a, b⟩ => ⟨a, by have := H2.out; omega⟩) (fun e => by rw [e]; exact ⟨by have := H1.out; omega, Nat.le_refl _⟩), HLO.out, List.mem_of_getElem? K1.out, HLI.out, K2.out, HC5.out.drewN _⟩
              case measure => simp [intOf]; omega
            · rw [decide_eq_false h2] at l2
              have H2 := Lib.hid h2
              clear h2
              go_upto_region 15 with (fail)
              go_quiet (fail)
              go_wp2
              go_roundw
              case rel => exact ⟨j + 1, _, _, by omega, by omega, rfl, rfl, by go_num, fun q x hq hx => (HIFF.out q x hq hx).elim (fun ⟨_, a, b⟩ => ⟨a, b⟩) (fun e => by rw [e]; exact ⟨by have := H1.out; omega, by have := H2.out; omega⟩), HLO.out, HHI.out, HLI.out, HHII.out, HC5.out.drewN _⟩
              case measure => simp [intOf]; omega
        · have hjn' : j + 1 = n := by omega
          have hxl : xs.length = j := by rw [HXS.out, HXL.out, HL.out]; omega
          have hall : ∀ x ∈ xs, lo ≤ x ∧ x ≤ hi := fun x hx => by
            obtain ⟨q, hq, e⟩ := List.mem_iff_getElem.1 hx
            exact HALL.out q x (by omega) (by rw [List.getElem?_eq_getElem hq, e])
          have hne : g.gaps ≠ [] := by
            intro e
            rw [HXS.out, e] at hxl
            simp at hxl; omega
          rw [HXS.out] at hall
          have b1 : lo ≤ m := by rw [HMM.out]; exact HMS.out.lo hne lo (fun x hx => (hall x hx).1)
          have b2 : m ≤ hi := by rw [HMM.out]; exact HMS.out.hi hne hi (fun x hx => (hall x hx).2)
          have hsp := spread_some HMS.out hne HGD.out.gaps_len
          have hse : s = spread g.gaps := by
            rw [HSS.out]
            unfold spreadOf
            rw [if_neg]
            intro e
            exact hne (List.isEmpty_iff.1 e)
          rw [← hse] at hsp
          have mi : m < INF := Nat.lt_of_le_of_lt b2 hhii
          have a1 := ge_fin2 mi hloi
          rw [decide_eq_true b1] at a1
          have a2 := le_fin mi hhii
          rw [decide_eq_true b2] at a2
          have a3 := ge_fin2 hsp.2.2.1 (show 0 < INF by decide)
          rw [decide_eq_true (Nat.zero_le _)] at a3
          have a4 := ne_fin hloi hhii
          have HEQ : Hid (lo = hi → m = lo ∧ s = 0) := fun e => by
            refine ⟨by omega, hsp.2.2.2 (HMS.out.one lo (fun x hx => ?_))⟩
            have := hall x hx
            omega
          clear hall hne b1 b2 hsp hse hloi hhii mi hxl
          by_cases hll : lo = hi
          · rw [decide_eq_false (by simpa using hll)] at a4
            obtain ⟨q1, q2⟩ := HEQ.out hll
            have Q1 := Lib.hid q1
            have Q2 := Lib.hid q2
            clear q1 q2 hll
            go_wp2_with (go_at_call 16; refine (same_walk _ _ _).mono ?_; rintro e w6 ⟨rfl, h6⟩; subst h6; first | rw [decide_eq_true Q1.out] | rw [decide_eq_true Q2.out])
            go_ret
            exact ⟨rfl, HC5.out.below⟩
          · rw [decide_eq_true hll] at a4
            clear hll
            go_wp2
            go_ret
            exact ⟨rfl, HC5.out.below⟩
end Go.Proofs.Ytecppcgleidhkaa.Gb
