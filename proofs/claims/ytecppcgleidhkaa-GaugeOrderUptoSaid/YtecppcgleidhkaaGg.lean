/- The law GaugeOrder, walked. Conditions: the list reads so; at most 1048576 of them. -/
import Derived.Test.YtecppcgleidhkaaGa
import Derived.Test.YtecppcgleidhkaaGb
import Derived.Test.YtecppcgleidhkaaFz
set_option linter.unusedVariables false
set_option linter.unusedSimpArgs false
set_option exponentiation.threshold 3000
namespace Go.Proofs.Ytecppcgleidhkaa.Gg
open Go.RowKit Go.Proofs.Ytecppcgleidhkaa.Lib1 Go.Proofs.Ytecppcgleidhkaa.Rel Go.Proofs.Ytecppcgleidhkaa.Own Go.Proofs.Ytecppcgleidhkaa.Fl Go.Proofs.Ytecppcgleidhkaa.Gp Go.Proofs.Ytecppcgleidhkaa.Gw Go.Proofs.Ytecppcgleidhkaa.Gm Go.Proofs.Ytecppcgleidhkaa.Gb

theorem eq_fin {a b : Nat} (ha : a < INF) (hb : b < INF) : (FloatKind.f64.format.order a b == some .eq) = decide (a = b) := by
  rw [show FloatKind.f64.format.order a b = some (compare a b) from Lq.order_pos ha hb]
  rcases Nat.lt_trichotomy a b with c | c | c
  · rw [Nat.compare_eq_lt.2 c, decide_eq_false (by omega)]; rfl
  · rw [Nat.compare_eq_eq.2 c, decide_eq_true (by omega)]; rfl
  · rw [Nat.compare_eq_gt.2 c, decide_eq_false (by omega)]; rfl
set_option maxRecDepth 100000 in
set_option maxHeartbeats 1600000 in
theorem order_walk (hs : List (Int × Int)) (A : Option Addr) (n c : Nat) (a b : Nat) (w : World) (h : (Kd.slice 16 heardK).rel (fun k => k < w.heap.size) w hs [.slice A n c]) (hn : n ≤ 1048576) (hfit : ∀ x ∈ hs, (Lit.int .i64 x.1).wf = true ∧ (Lit.int .i64 x.2).wf = true) :
    Calls Try.prog 3 #[.slice A n c, .float .f64 a, .float .f64 b] w fun e w' => e = .returned (.bool true) ∧ Below w.heap.size w w' := by
  have HL : Hid (hs.length = n) := by
    obtain ⟨A', c', cells, he, -⟩ := h
    simp only [List.cons.injEq, Value.slice.injEq, and_true] at he
    exact he.2.1.symm
  have HH : Hid (∀ W, Chg (fun _ => False) w W → (Kd.slice 16 heardK).rel (fun k => k < W.heap.size) W hs [.slice A n c]) := fun W hc => (Kd.slice 16 heardK).mono (fun k hk => Nat.lt_of_lt_of_le hk hc.size) ((Kd.slice 16 heardK).move (fun k hk => hc.block k hk (fun h => h)) h)
  have HM : Hid (∀ (W : World) (A : Option Addr) (c : Nat), (Kd.slice 112 respK).rel (fun k => k < W.heap.size) W hs [.slice A n c] → Calls Try.prog 11 #[.float .f64 4602678819172646912, .slice A n c] W fun e w' => MRes W (Gm.measure 4602678819172646912 hs) e w') := fun W A c h => measure_walk 4602678819172646912 (by decide) hs A n c W h (by omega) hfit
  clear h hfit
  cases hme : Gm.measure 4602678819172646912 hs with
  | none =>
    rw [hme] at HM
    go_enter Try.func3, Try.ntmps3
    go_wp2_with (first
      | (go_at_call 10; refine (head_walk _).mono ?_; rintro e w1 ⟨rfl, hc1⟩; have HC1 := Lib.hid hc1; clear hc1)
      | (go_at_call 12; refine (resp_walk hs A n c _ (HH.out _ HC1.out) (by omega)).mono ?_; rintro e w2 ⟨A2, c2, rfl, ho, -, hc⟩; have HO := Lib.hid ho; have HC2 := Lib.hid hc; clear ho hc)
      | (go_at_call 11; refine (HM.out _ _ _ HO.out).mono ?_; rintro e w3 ⟨rfl, hc3⟩; have HC3 := Lib.hid hc3; clear hc3))
    go_ret
    exact ⟨rfl, ((HC1.out.trans HC2.out (fun _ _ h => h)).trans HC3.out (fun _ _ h => h)).below⟩
  | some g =>
    rw [hme] at HM
    have hkk : keeps 4602678819172646912 = true := by decide
    have hhs : hears (g0 4602678819172646912) hs = some g := by
      unfold Gm.measure at hme
      rw [if_pos hkk] at hme
      exact hme
    have HHD := Lib.hid (heard_any hhs)
    have HGD := Lib.hid (good_any (by decide : 4602678819172646912 < ONE) hhs (by have := HL.out; omega))
    have HXL := Lib.hid (gaps_length HHD.out)
    clear hme hkk hhs
    have key : n < 2 ∨ (¬ n < 2 ∧ (FloatKind.f64.format.order a 0 == some .gt || FloatKind.f64.format.order a 0 == some .eq) = false) ∨
        (¬ n < 2 ∧ (FloatKind.f64.format.order a 0 == some .gt || FloatKind.f64.format.order a 0 == some .eq) = true ∧ (FloatKind.f64.format.order a b == some .lt || FloatKind.f64.format.order a b == some .eq) = false) ∨
        (¬ n < 2 ∧ (FloatKind.f64.format.order a 0 == some .gt || FloatKind.f64.format.order a 0 == some .eq) = true ∧ (FloatKind.f64.format.order a b == some .lt || FloatKind.f64.format.order a b == some .eq) = true ∧ (FloatKind.f64.format.order b 4607182418800017408 == some .lt || FloatKind.f64.format.order b 4607182418800017408 == some .eq) = false) ∨
        (¬ n < 2 ∧ (FloatKind.f64.format.order a 0 == some .gt || FloatKind.f64.format.order a 0 == some .eq) = true ∧ (FloatKind.f64.format.order a b == some .lt || FloatKind.f64.format.order a b == some .eq) = true ∧ (FloatKind.f64.format.order b 4607182418800017408 == some .lt || FloatKind.f64.format.order b 4607182418800017408 == some .eq) = true) := by
      by_cases h2 : n < 2
      · exact .inl h2
      · cases k1 : (FloatKind.f64.format.order a 0 == some .gt || FloatKind.f64.format.order a 0 == some .eq)
        · exact .inr (.inl ⟨h2, rfl⟩)
        · cases k2 : (FloatKind.f64.format.order a b == some .lt || FloatKind.f64.format.order a b == some .eq)
          · exact .inr (.inr (.inl ⟨h2, rfl, rfl⟩))
          · cases k3 : (FloatKind.f64.format.order b 4607182418800017408 == some .lt || FloatKind.f64.format.order b 4607182418800017408 == some .eq)
            · exact .inr (.inr (.inr (.inl ⟨h2, rfl, rfl, rfl⟩)))
            · exact .inr (.inr (.inr (.inr ⟨h2, rfl, rfl, rfl⟩)))
    have easy : (n < 2 ∨ (¬ n < 2 ∧ (FloatKind.f64.format.order a 0 == some .gt || FloatKind.f64.format.order a 0 == some .eq) = false) ∨
        (¬ n < 2 ∧ (FloatKind.f64.format.order a 0 == some .gt || FloatKind.f64.format.order a 0 == some .eq) = true ∧ (FloatKind.f64.format.order a b == some .lt || FloatKind.f64.format.order a b == some .eq) = false) ∨
        (¬ n < 2 ∧ (FloatKind.f64.format.order a 0 == some .gt || FloatKind.f64.format.order a 0 == some .eq) = true ∧ (FloatKind.f64.format.order a b == some .lt || FloatKind.f64.format.order a b == some .eq) = true ∧ (FloatKind.f64.format.order b 4607182418800017408 == some .lt || FloatKind.f64.format.order b 4607182418800017408 == some .eq) = false)) →
        Calls Try.prog 3 #[.slice A n c, .float .f64 a, .float .f64 b] w fun e w' => e = .returned (.bool true) ∧ Below w.heap.size w w' := by
      clear key
      intro k
      rcases k with h2 | ⟨h2, k1⟩ | ⟨h2, k1, k2⟩ | ⟨h2, k1, k2, k3⟩
      all_goals
        go_enter Try.func3, Try.ntmps3
        go_wp2_with (first
          | (go_at_call 10; refine (head_walk _).mono ?_; rintro e w1 ⟨rfl, hc1⟩; have HC1 := Lib.hid hc1; clear hc1)
          | (go_at_call 12; refine (resp_walk hs A n c _ (HH.out _ HC1.out) (by omega)).mono ?_; rintro e w2 ⟨A2, c2, rfl, ho, -, hc⟩; have HO := Lib.hid ho; have HC2 := Lib.hid hc; clear ho hc)
          | (go_at_call 11; refine (HM.out _ _ _ HO.out).mono ?_; rintro e w3 ⟨b, rfl, hg, hc3⟩; have HC3 := Lib.hid hc3; clear hc3 hg))
        go_ret
        exact ⟨rfl, ((HC1.out.trans HC2.out (fun _ _ h => h)).trans HC3.out (fun _ _ h => h)).below⟩
    rcases key with k | k | k | k | ⟨hn2, k1, k2, k3⟩
    · exact easy (.inl k)
    · exact easy (.inr (.inl k))
    · exact easy (.inr (.inr (.inl k)))
    · exact easy (.inr (.inr (.inr k)))
    clear easy
    have hn2' : 2 ≤ n := by omega
    obtain ⟨pa, pb, pab⟩ := guard_parts (a := a) (b := b) k1 k2 k3
    obtain ⟨xs, hxs⟩ : ∃ xs, xs = g.gaps := ⟨_, rfl⟩
    have HXS := Lib.hid hxs
    have hxl : xs.length = n - 1 := by rw [hxs, HXL.out, HL.out]
    have hne : xs ≠ [] := fun e => by rw [e] at hxl; simp at hxl; omega
    have hqk : ∀ p, partOk p = true → qok xs p = true := fun p hp => by
      unfold qok; rw [hp]
      cases hh : xs with
      | nil => exact absurd hh hne
      | cons x l => rfl
    have hex : ∀ p, partOk p = true → ∃ x, IsQ xs (wantOf p xs.length) x := fun p hp => by
      by_cases hx : ∃ x, IsQ xs (wantOf p xs.length) x
      · exact hx
      · exfalso
        -- a sorted row stops somewhere
        have hI : ∀ x ∈ xs, x < INF := fun x hx => by rw [hxs] at hx; exact B62_inf (HGD.out.gaps_le x hx)
        have hpw := pairwise_of (cs := Tv.srt xs) (fun i j hij hj => Tv.srt_sorted xs i j hij (by rw [Tv.srt_len] at hj; exact hj))
        have hpm := Tv.srt_perm hI
        have hlen := Tv.srt_len xs
        have hall : ∀ i, i < (Tv.srt xs).length → ∀ j, j < i → ¬ stops (Tv.srt xs) (wantOf p xs.length) j := by
          intro i
          induction i with
          | zero => intro _ j hj; omega
          | succ i ih =>
            intro hi j hj
            rcases Nat.lt_or_ge j i with c | c
            · exact ih (by omega) j c
            · obtain rfl : j = i := by omega
              intro hs
              exact hx ⟨_, stop_is hpm hpw (by omega) hs (ih (by omega))⟩
        have hl0 : 1 ≤ xs.length := List.length_pos_iff.2 hne
        refine hx ⟨_, stop_is (i := xs.length - 1) hpm hpw (by omega) ⟨.inl (by omega), ?_⟩ (hall _ (by omega))⟩
        rw [show xs.length - 1 + 1 = xs.length by omega]
        exact (want_some hp (by omega)).2.2
    have hq : ∀ p, partOk p = true → IsQ xs (wantOf p xs.length) (qval xs p) := fun p hp => by
      obtain ⟨x, hx⟩ := hex p hp
      rw [qval_is (hqk p hp) hx]; exact hx
    have p0 : partOk 0 = true := by decide
    have p1 : partOk ONE = true := by decide
    have hn53 : xs.length < 2 ^ 53 := by omega
    have ax := hq a pa
    have bx := hq b pb
    have zx := hq 0 p0
    have ox := hq ONE p1
    have c1 : qval xs 0 ≤ qval xs a := zx.low hn53 rfl _ ax.mem
    have c2 : qval xs a ≤ qval xs b := IsQ.mono pa pb pab hn53 rfl ax bx
    have c3 : qval xs b ≤ qval xs ONE := ox.high hn53 rfl _ bx.mem
    have hall : ∀ x ∈ xs, qval xs 0 ≤ x ∧ x ≤ qval xs ONE := fun x hx => ⟨zx.low hn53 rfl x hx, ox.high hn53 rfl x hx⟩
    have hin : ∀ x ∈ xs, x < INF := fun x hx => by rw [hxs] at hx; exact B62_inf (HGD.out.gaps_le x hx)
    have HQ : Hid (∀ {E : Nat → Prop} {W : World} {bb : Nat}, GV E W bb g → ∀ p, partOk p = true → Calls Try.prog 13 #[.pointer (some ⟨bb, 0, none⟩), .float .f64 p] W fun e w' => e = .returned (.tuple #[.float .f64 (qval xs p), .int .i64 0]) ∧ Chg (fun _ => False) W w') := fun {E W bb} hg p hp => by
      have h1 := quantile_fun hg HGD.out p (by rw [← hxs]; omega)
      rw [← hxs] at h1
      have h2 : qcode xs p = 0 := by unfold qcode; rw [if_pos (hqk p hp)]
      rw [h2] at h1
      exact h1
    have hmx := ax.mem
    have ia := hin _ ax.mem
    have ib := hin _ bx.mem
    have iz := hin _ zx.mem
    have io := hin _ ox.mem
    have l1 := le_fin iz ia
    rw [decide_eq_true c1] at l1
    have l2 := le_fin ia ib
    rw [decide_eq_true c2] at l2
    have l3 := le_fin ib io
    rw [decide_eq_true c3] at l3
    have HQa : Hid (∀ {E : Nat → Prop} {W : World} {bb : Nat}, GV E W bb g → Calls Try.prog 13 #[.pointer (some ⟨bb, 0, none⟩), .float .f64 a] W fun e w' => e = .returned (.tuple #[.float .f64 (qval xs a), .int .i64 0]) ∧ Chg (fun _ => False) W w') := fun {E W bb} hg => HQ.out hg a pa
    have HQb : Hid (∀ {E : Nat → Prop} {W : World} {bb : Nat}, GV E W bb g → Calls Try.prog 13 #[.pointer (some ⟨bb, 0, none⟩), .float .f64 b] W fun e w' => e = .returned (.tuple #[.float .f64 (qval xs b), .int .i64 0]) ∧ Chg (fun _ => False) W w') := fun {E W bb} hg => HQ.out hg b pb
    have HQ0 : Hid (∀ {E : Nat → Prop} {W : World} {bb : Nat}, GV E W bb g → Calls Try.prog 13 #[.pointer (some ⟨bb, 0, none⟩), .float .f64 0] W fun e w' => e = .returned (.tuple #[.float .f64 (qval xs 0), .int .i64 0]) ∧ Chg (fun _ => False) W w') := fun {E W bb} hg => HQ.out hg 0 p0
    have HQ1 : Hid (∀ {E : Nat → Prop} {W : World} {bb : Nat}, GV E W bb g → Calls Try.prog 13 #[.pointer (some ⟨bb, 0, none⟩), .float .f64 4607182418800017408] W fun e w' => e = .returned (.tuple #[.float .f64 (qval xs ONE), .int .i64 0]) ∧ Chg (fun _ => False) W w') := fun {E W bb} hg => HQ.out hg ONE p1
    generalize qval xs a = x at *
    generalize qval xs b = y at *
    generalize qval xs 0 = lo at *
    generalize qval xs ONE = hi at *
    have HALL := Lib.hid hall
    have HIN := Lib.hid hin
    have HMX := Lib.hid hmx
    have HIA := Lib.hid ia
    have HIZ := Lib.hid iz
    have HIO := Lib.hid io
    have HXLEN := Lib.hid hxl
    clear hxs hne hqk hex hq p0 p1 hn53 ax bx zx ox c1 c2 c3 hall hin HQ hmx ia ib iz io pa pb pab hxl hn2'
    obtain ⟨-, bl, off, rfl, hbl, hcells⟩ := heard_at (HH.out _ (Chg.refl _ w)) (by omega)
    have HCL : Hid (∀ W, Chg (fun _ => False) w W → ∀ i s c, hs[i]? = some (s, c) → W.cell? ⟨bl, off + i * 2, none⟩ = some (.int .i64 s) ∧ W.cell? ⟨bl, off + i * 2 + 1, none⟩ = some (.int .i64 c)) := fun W hW i s c hi => by
      obtain ⟨k1, k2⟩ := hcells i s c hi
      exact ⟨(World.cell?_of_block (a := ⟨bl, off + i * 2, none⟩) (hW.block bl hbl (fun h => h))).trans k1, (World.cell?_of_block (a := ⟨bl, off + i * 2 + 1, none⟩) (hW.block bl hbl (fun h => h))).trans k2⟩
    have HGA : Hid (∀ i, i + 1 < n → ∃ s1 c1 s0 c0, hs[i + 1]? = some (s1, c1) ∧ hs[i]? = some (s0, c0) ∧ xs[i]? = some (floatOfInt .f64 (s1 - s0)) ∧ floatOfInt .f64 (s1 - s0) < INF ∧ (0 ≤ s1 ∧ s1 ≤ 4611686018427387904) ∧ (0 ≤ s0 ∧ s0 ≤ 4611686018427387904) ∧ 0 ≤ s1 - s0) := fun i hi => by
      have hl := HL.out
      obtain ⟨⟨s1, c1⟩, h1⟩ : ∃ x, hs[i + 1]? = some x := ⟨_, List.getElem?_eq_getElem (by omega)⟩
      obtain ⟨⟨s0, c0⟩, h0⟩ : ∃ x, hs[i]? = some x := ⟨_, List.getElem?_eq_getElem (by omega)⟩
      obtain ⟨k1, k2, k3⟩ := gap_at HHD.out (by omega) h1 h0
      rw [← HXS.out] at k1
      exact ⟨s1, c1, s0, c0, h1, h0, k1, HIN.out _ (List.mem_of_getElem? k1), HHD.out.ok _ (List.mem_of_getElem? h1), HHD.out.ok _ (List.mem_of_getElem? h0), k2⟩
    clear hcells
    go_enter Try.func3, Try.ntmps3
    go_wp2_with (first
      | (go_at_call 10; refine (head_walk _).mono ?_; rintro e w1 ⟨rfl, hc1⟩; have HC1 := Lib.hid hc1; clear hc1)
      | (go_at_call 12; refine (resp_walk hs _ n c _ (HH.out _ HC1.out) (by omega)).mono ?_; rintro e w2 ⟨A2, c2, rfl, ho, -, hc⟩; have HO := Lib.hid ho; have HC2 := Lib.hid hc; clear ho hc)
      | (go_at_call 11; refine (HM.out _ _ _ HO.out).mono ?_; rintro e w3 ⟨bg, rfl, hg, hc3⟩; have HC := Lib.hid ((HC1.out.trans HC2.out (fun _ _ h => h)).trans hc3 (fun _ _ h => h)); have HG := Lib.hid hg; clear hc3 hg HC1 HC2 HO HM HH)
      | (go_at_call 13; first | (with_reducible refine (HQa.out HG.out).mono ?_) | (with_reducible refine (HQb.out HG.out).mono ?_) | (with_reducible refine (HQ0.out HG.out).mono ?_) | (with_reducible refine (HQ1.out HG.out).mono ?_)
         rintro e w4 ⟨rfl, hc4⟩; replace HC := Lib.hid (HC.out.trans hc4 (fun _ _ h => h)); replace HG := Lib.hid (HG.out.chg hc4 (fun _ _ h => h)); clear hc4))
    clear k1 k2 k3 l1 l2 l3 HQa HQb HQ0 HQ1 HG
    go_loopw [17, 18] (fun f i wr => ∃ (j : Nat) (fl : Int), j + 1 ≤ n ∧ f = .int .i64 fl ∧ i = .int .i64 ((j : Int) + 1) ∧ (fl = 1 ∨ (fl = 0 ∧ ∀ q, q < j → xs[q]? ≠ some x)) ∧ Chg (fun _ => False) w wr) (fun _ i _ => n - (intOf i).toNat)
    case atStart => exact ⟨0, 0, by omega, rfl, rfl, .inr ⟨rfl, fun q hq => absurd hq (Nat.not_lt_zero _)⟩, HC.out⟩
    case round =>
      obtain ⟨w5, rfl⟩ : ∃ w5, w5 = wr := ⟨_, rfl⟩
      obtain ⟨j, fl, hj, rfl, rfl, hfl, hc⟩ := hrel
      have HFL := Lib.hid hfl
      have HC5 := Lib.hid hc
      clear hfl hc
      by_cases hlt : j + 1 < n
      · obtain ⟨s1, c1, s0, c0, e1, e0, k1, k2, k3, k4, k5⟩ := HGA.out j hlt
        have y1 := (HCL.out w5 HC5.out (j + 1) s1 c1 e1).1
        have y0 := (HCL.out w5 HC5.out j s0 c0 e0).1
        have K1 := Lib.hid k1
        have hb := HALL.out _ (List.mem_of_getElem? k1)
        have l1 := lt_fin k2 HIZ.out
        have l2 := gt_fin k2 HIO.out
        have l3 := eq_fin k2 HIA.out
        rw [decide_eq_false (by omega)] at l1
        rw [decide_eq_false (by omega)] at l2
        clear e1 e0 k1 k2 hb
        by_cases hx : floatOfInt .f64 (s1 - s0) = x
        · rw [decide_eq_true hx] at l3
          clear hx
          go_upto_region 18 with (fail)
          go_quiet (fail)
          go_wp2
          go_roundw
          case rel => exact ⟨j + 1, 1, by omega, rfl, by go_num, .inl rfl, HC5.out.drewN _⟩
          case measure => simp [intOf]; omega
        · rw [decide_eq_false hx] at l3
          have HX := Lib.hid hx
          clear hx
          go_upto_region 18 with (fail)
          go_quiet (fail)
          go_wp2
          go_roundw
          case rel =>
            refine ⟨j + 1, fl, by omega, rfl, by go_num, HFL.out.imp id (fun h => ⟨h.1, fun q hq => ?_⟩), HC5.out.drewN _⟩
            rcases Nat.lt_or_ge q j with h1 | h1
            · exact h.2 q h1
            · obtain rfl : q = j := by omega
              rw [K1.out]
              intro e
              exact HX.out (by cases e; rfl)
          case measure => simp [intOf]; omega
      · have hf1 : fl = 1 := by
          rcases HFL.out with h | ⟨h, hno⟩
          · exact h
          · exfalso
            obtain ⟨q, hq, e⟩ := List.mem_iff_getElem.1 HMX.out
            have := HXLEN.out
            exact hno q (by omega) (by rw [List.getElem?_eq_getElem hq, e])
        subst hf1
        go_wp2
        go_ret
        exact ⟨rfl, HC5.out.below⟩
end Go.Proofs.Ytecppcgleidhkaa.Gg
