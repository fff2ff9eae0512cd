/- MayConfig, May of an event, Seen, by contracts. Conditions: what comes in reads so. -/
import Derived.Test.YtchlolgfahgdeaaEm
set_option linter.unusedVariables false
set_option linter.unusedSimpArgs false
namespace Go.Proofs.Ytchlolgfahgdeaa.En
open Go.RowKit Go.Proofs.Ytchlolgfahgdeaa.Lib1 Go.Proofs.Ytchlolgfahgdeaa.Rel Go.Proofs.Ytchlolgfahgdeaa.Own Go.Proofs.Ytchlolgfahgdeaa.Ev Go.Proofs.Ytchlolgfahgdeaa.Ek Go.Proofs.Ytchlolgfahgdeaa.Ec Go.Proofs.Ytchlolgfahgdeaa.Em Go.Proofs.Ytchlolgfahgdeaa.Lat Go.Proofs.Ytchlolgfahgdeaa.Lbl Go.Proofs.Ytchlolgfahgdeaa.Lck Go.Proofs.Ytchlolgfahgdeaa.Lmay Go.Proofs.Ytchlolgfahgdeaa.Lbw

section
variable {ok : Nat → Prop} {w : World} {A1 A2 A3 : Option Addr} {n1 n2 n3 c1 c2 c3 : Nat} {c : Cfg}
/-- A later world reads the config. -/
theorem cfg_up {w' : World} (h : CfgAt ok w A1 A2 A3 n1 n2 n3 c1 c2 c3 c) (hok : ∀ k, ok k → k < w.heap.size) (hc : Chg (fun _ => False) w w') : CfgAt ok w' A1 A2 A3 n1 n2 n3 c1 c2 c3 c := h.move (fun k hk => hc.block k (hok k hk) (fun h => h))
theorem mayConfig_any (h : CfgAt ok w A1 A2 A3 n1 n2 n3 c1 c2 c3 c) (hok : ∀ k, ok k → k < w.heap.size) (hf : cfgFits c) :
    Calls Try.prog 25 #[.agg #[.slice A1 n1 c1, .slice A2 n2 c2, .slice A3 n3 c3]] w fun e w' => e = .returned (.bool (mayB c)) ∧ Chg (fun _ => False) w w' := by
  have HC : Hid (∀ w', Chg (fun _ => False) w w' → Calls Try.prog 54 #[.agg #[.slice A1 n1 c1, .slice A2 n2 c2, .slice A3 n3 c3]] w' fun e w1 => ∃ B1 B2 B3 d1 d2 d3, e = .returned (.agg #[.slice B1 n1 d1, .slice B2 n2 d2, .slice B3 n3 d3]) ∧ CfgAt (fun k => w'.heap.size ≤ k ∧ k < w1.heap.size) w1 B1 B2 B3 n1 n2 n3 d1 d2 d3 c ∧ Chg (fun _ => False) w' w1) :=
    fun w' hc => config_any (cfg_up h hok hc) (fun k hk => Nat.lt_of_lt_of_le (hok k hk) hc.size) hf
  clear h hok hf
  go_enter Try.func25, Try.ntmps25
  go_wp2_with fail
  refine (HC.out _ ((Chg.refl _ w).alloc _)).mono ?_
  rintro e w1 ⟨B1, B2, B3, d1, d2, d3, rfl, h1, hc1⟩
  have HM := Lib.hid (rmay_any h1 (fun k hk => hk.2))
  have HC1 := Lib.hid hc1
  clear h1 hc1
  go_wp2_with fail
  refine HM.out.mono ?_
  rintro e w2 ⟨rfl, hc2⟩
  go_wp2
  go_ret
  exact ⟨rfl, (((Chg.refl _ w).alloc _).trans HC1.out (fun _ _ h => h)).trans hc2 (fun _ _ h => h)⟩

theorem pwithin_any (n most : Int) (w : World) : Calls Try.prog 36 #[.int .i64 n, .int .i64 most] w fun e w' => e = .returned (.bool (decide (0 ≤ n) && decide (n < most))) ∧ w = w' := by
  by_cases h0 : 0 ≤ n
  · have HI : Hid ((decide (0 ≤ n) && decide (n < most)) = decide (n < most)) := by show _ = _; simp [h0]
    go_enter Try.func36, Try.ntmps36
    go_wp2
    go_ret
    exact ⟨ret_bool HI.out.symm, rfl⟩
  · have HI : Hid ((decide (0 ≤ n) && decide (n < most)) = false) := by show _ = _; simp [h0]
    have hd : decide (0 ≤ n) = false := by simp; omega
    go_enter Try.func36, Try.ntmps36
    go_wp2
    go_ret
    exact ⟨rfl, rfl⟩
theorem may_no {e : Ev} (h : mayB c = false) : may c e = false := by unfold may; rw [h]; rfl

set_option maxRecDepth 100000 in
set_option maxHeartbeats 3200000 in
theorem rmayE_any (h : CfgAt ok w A1 A2 A3 n1 n2 n3 c1 c2 c3 c) (hok : ∀ k, ok k → k < w.heap.size) (hf : cfgFits c) (x : Ev) (AV AS : Option Addr) (nV cV nS cS : Nat) :
    Calls Try.prog 17 #[.agg #[.slice A1 n1 c1, .slice A2 n2 c2, .slice A3 n3 c3], .agg (evCs x (.slice AV nV cV) (.slice AS nS cS)).toArray] w fun e w' => e = .returned (.bool (may c x)) ∧ Chg (fun _ => False) w w' := by
  have HC : Hid (∀ w', Chg (fun _ => False) w w' → Calls Try.prog 25 #[.agg #[.slice A1 n1 c1, .slice A2 n2 c2, .slice A3 n3 c3]] w' fun e w1 => e = .returned (.bool (mayB c)) ∧ Chg (fun _ => False) w' w1) :=
    fun w' hc => mayConfig_any (cfg_up h hok hc) (fun k hk => Nat.lt_of_lt_of_le (hok k hk) hc.size) hf
  have L1 := Lib.hid h.l1
  have L3 := Lib.hid h.l3
  have m1 := h.m1
  have m3 := h.m3
  clear h hok hf
  obtain ⟨kd, ss, ⟨rk, lf, nb, rp, ky, tt, vl, lm⟩, pl, st⟩ := x
  cases hm : mayB c with
  | false =>
    have HF : Hid (may c ⟨kd, ss, ⟨rk, lf, nb, rp, ky, tt, vl, lm⟩, pl, st⟩ = false) := may_no hm
    rw [hm] at HC
    clear hm
    go_enter Try.func17, Try.ntmps17
    go_wp2_with fail
    refine (HC.out _ (((Chg.refl _ w).alloc _).alloc _)).mono ?_
    rintro e w1 ⟨rfl, hc1⟩
    go_wp2
    go_ret
    exact ⟨ret_bool HF.out.symm, (((Chg.refl _ w).alloc _).alloc _).trans hc1 (fun _ _ h => h)⟩
  | true =>
    have HM : Hid (may c ⟨kd, ss, ⟨rk, lf, nb, rp, ky, tt, vl, lm⟩, pl, st⟩ = _) := may_of hm
    rw [hm] at HC
    clear hm
    by_cases k1 : kd = 1
    · subst k1
      by_cases h0 : 0 ≤ ss
      · go_enter Try.func17, Try.ntmps17
        go_wp2_with fail
        refine (HC.out _ (((Chg.refl _ w).alloc _).alloc _)).mono ?_
        rintro e w1 ⟨rfl, hc1⟩
        have b1 := hc1.at_ (k := w.heap.size) (heap_old _ (heap_new _ _)) (fun h => h)
        have b2 := hc1.at_ (k := w.heap.size + 1) (heap_new' _ _ (World.size_alloc ..).symm) (fun h => h)
        have k0 := cell_at b1 0 rfl
        have k1 := cell_at b1 1 rfl
        have k2 := cell_at b1 2 rfl
        obtain ⟨p0, p1, p2, p3, p4, p5, p6, p7, p8, p9, p10, p11⟩ := cells12 b2
        have HC1 := Lib.hid hc1
        clear b1 b2 hc1
        go_wp2
        go_ret
        exact ⟨ret_bool (by rw [HM.out]; simp [L3.out, h0]; try omega), (((Chg.refl _ w).alloc _).alloc _).trans HC1.out (fun _ _ h => h)⟩
      · have hd : decide (0 ≤ ss) = false := by simp; omega
        go_enter Try.func17, Try.ntmps17
        go_wp2_with fail
        refine (HC.out _ (((Chg.refl _ w).alloc _).alloc _)).mono ?_
        rintro e w1 ⟨rfl, hc1⟩
        have b1 := hc1.at_ (k := w.heap.size) (heap_old _ (heap_new _ _)) (fun h => h)
        have b2 := hc1.at_ (k := w.heap.size + 1) (heap_new' _ _ (World.size_alloc ..).symm) (fun h => h)
        have k0 := cell_at b1 0 rfl
        have k1 := cell_at b1 1 rfl
        have k2 := cell_at b1 2 rfl
        obtain ⟨p0, p1, p2, p3, p4, p5, p6, p7, p8, p9, p10, p11⟩ := cells12 b2
        have HC1 := Lib.hid hc1
        clear b1 b2 hc1
        go_wp2
        go_ret
        exact ⟨ret_bool (by rw [HM.out]; simp [L3.out, h0]; try omega), (((Chg.refl _ w).alloc _).alloc _).trans HC1.out (fun _ _ h => h)⟩
    by_cases k3 : kd = 3
    · subst k3
      by_cases h0 : 0 ≤ pl
      · go_enter Try.func17, Try.ntmps17
        go_wp2_with fail
        refine (HC.out _ (((Chg.refl _ w).alloc _).alloc _)).mono ?_
        rintro e w1 ⟨rfl, hc1⟩
        have b1 := hc1.at_ (k := w.heap.size) (heap_old _ (heap_new _ _)) (fun h => h)
        have b2 := hc1.at_ (k := w.heap.size + 1) (heap_new' _ _ (World.size_alloc ..).symm) (fun h => h)
        have k0 := cell_at b1 0 rfl
        have k1 := cell_at b1 1 rfl
        have k2 := cell_at b1 2 rfl
        obtain ⟨p0, p1, p2, p3, p4, p5, p6, p7, p8, p9, p10, p11⟩ := cells12 b2
        have HC1 := Lib.hid hc1
        clear b1 b2 hc1
        go_wp2
        go_ret
        exact ⟨ret_bool (by rw [HM.out]; simp [L1.out, h0]; try omega), (((Chg.refl _ w).alloc _).alloc _).trans HC1.out (fun _ _ h => h)⟩
      · have hd : decide (0 ≤ pl) = false := by simp; omega
        go_enter Try.func17, Try.ntmps17
        go_wp2_with fail
        refine (HC.out _ (((Chg.refl _ w).alloc _).alloc _)).mono ?_
        rintro e w1 ⟨rfl, hc1⟩
        have b1 := hc1.at_ (k := w.heap.size) (heap_old _ (heap_new _ _)) (fun h => h)
        have b2 := hc1.at_ (k := w.heap.size + 1) (heap_new' _ _ (World.size_alloc ..).symm) (fun h => h)
        have k0 := cell_at b1 0 rfl
        have k1 := cell_at b1 1 rfl
        have k2 := cell_at b1 2 rfl
        obtain ⟨p0, p1, p2, p3, p4, p5, p6, p7, p8, p9, p10, p11⟩ := cells12 b2
        have HC1 := Lib.hid hc1
        clear b1 b2 hc1
        go_wp2
        go_ret
        exact ⟨ret_bool (by rw [HM.out]; simp [L1.out, h0]; try omega), (((Chg.refl _ w).alloc _).alloc _).trans HC1.out (fun _ _ h => h)⟩
    by_cases k4 : kd = 4
    · subst k4
      by_cases h0 : 0 ≤ pl
      · go_enter Try.func17, Try.ntmps17
        go_wp2_with fail
        refine (HC.out _ (((Chg.refl _ w).alloc _).alloc _)).mono ?_
        rintro e w1 ⟨rfl, hc1⟩
        have b1 := hc1.at_ (k := w.heap.size) (heap_old _ (heap_new _ _)) (fun h => h)
        have b2 := hc1.at_ (k := w.heap.size + 1) (heap_new' _ _ (World.size_alloc ..).symm) (fun h => h)
        have k0 := cell_at b1 0 rfl
        have k1 := cell_at b1 1 rfl
        have k2 := cell_at b1 2 rfl
        obtain ⟨p0, p1, p2, p3, p4, p5, p6, p7, p8, p9, p10, p11⟩ := cells12 b2
        have HC1 := Lib.hid hc1
        clear b1 b2 hc1
        go_wp2
        go_ret
        exact ⟨ret_bool (by rw [HM.out]; simp [L1.out, h0]; try omega), (((Chg.refl _ w).alloc _).alloc _).trans HC1.out (fun _ _ h => h)⟩
      · have hd : decide (0 ≤ pl) = false := by simp; omega
        go_enter Try.func17, Try.ntmps17
        go_wp2_with fail
        refine (HC.out _ (((Chg.refl _ w).alloc _).alloc _)).mono ?_
        rintro e w1 ⟨rfl, hc1⟩
        have b1 := hc1.at_ (k := w.heap.size) (heap_old _ (heap_new _ _)) (fun h => h)
        have b2 := hc1.at_ (k := w.heap.size + 1) (heap_new' _ _ (World.size_alloc ..).symm) (fun h => h)
        have k0 := cell_at b1 0 rfl
        have k1 := cell_at b1 1 rfl
        have k2 := cell_at b1 2 rfl
        obtain ⟨p0, p1, p2, p3, p4, p5, p6, p7, p8, p9, p10, p11⟩ := cells12 b2
        have HC1 := Lib.hid hc1
        clear b1 b2 hc1
        go_wp2
        go_ret
        exact ⟨ret_bool (by rw [HM.out]; simp [L1.out, h0]; try omega), (((Chg.refl _ w).alloc _).alloc _).trans HC1.out (fun _ _ h => h)⟩
    by_cases k2 : kd = 2
    · subst k2
      go_enter Try.func17, Try.ntmps17
      go_wp2_with fail
      refine (HC.out _ (((Chg.refl _ w).alloc _).alloc _)).mono ?_
      rintro e w1 ⟨rfl, hc1⟩
      have b1 := hc1.at_ (k := w.heap.size) (heap_old _ (heap_new _ _)) (fun h => h)
      have b2 := hc1.at_ (k := w.heap.size + 1) (heap_new' _ _ (World.size_alloc ..).symm) (fun h => h)
      have k0 := cell_at b1 0 rfl
      have k1 := cell_at b1 1 rfl
      have k2 := cell_at b1 2 rfl
      obtain ⟨p0, p1, p2, p3, p4, p5, p6, p7, p8, p9, p10, p11⟩ := cells12 b2
      have HC1 := Lib.hid hc1
      clear b1 b2 hc1
      go_wp2
      go_ret
      exact ⟨ret_bool (by rw [HM.out]; simp; try omega), (((Chg.refl _ w).alloc _).alloc _).trans HC1.out (fun _ _ h => h)⟩
    by_cases k5 : kd = 5
    · subst k5
      go_enter Try.func17, Try.ntmps17
      go_wp2_with fail
      refine (HC.out _ (((Chg.refl _ w).alloc _).alloc _)).mono ?_
      rintro e w1 ⟨rfl, hc1⟩
      have b1 := hc1.at_ (k := w.heap.size) (heap_old _ (heap_new _ _)) (fun h => h)
      have b2 := hc1.at_ (k := w.heap.size + 1) (heap_new' _ _ (World.size_alloc ..).symm) (fun h => h)
      have k0 := cell_at b1 0 rfl
      have k1 := cell_at b1 1 rfl
      have k2 := cell_at b1 2 rfl
      obtain ⟨p0, p1, p2, p3, p4, p5, p6, p7, p8, p9, p10, p11⟩ := cells12 b2
      have HC1 := Lib.hid hc1
      clear b1 b2 hc1
      go_wp2
      go_ret
      exact ⟨ret_bool (by rw [HM.out]; simp; try omega), (((Chg.refl _ w).alloc _).alloc _).trans HC1.out (fun _ _ h => h)⟩
    have e1 : (kd == 1) = false := by rw [beq_eq_false_iff_ne]; exact k1
    have e3 : (kd == 3) = false := by rw [beq_eq_false_iff_ne]; exact k3
    have e4 : (kd == 4) = false := by rw [beq_eq_false_iff_ne]; exact k4
    have e2 : (kd == 2) = false := by rw [beq_eq_false_iff_ne]; exact k2
    have e5 : (kd == 5) = false := by rw [beq_eq_false_iff_ne]; exact k5
    have HK : Hid (¬ kd = 1 ∧ ¬ kd = 3 ∧ ¬ kd = 4 ∧ ¬ kd = 2 ∧ ¬ kd = 5) := ⟨k1, k3, k4, k2, k5⟩
    clear k1 k3 k4 k2 k5
    go_enter Try.func17, Try.ntmps17
    go_wp2_with fail
    refine (HC.out _ (((Chg.refl _ w).alloc _).alloc _)).mono ?_
    rintro e w1 ⟨rfl, hc1⟩
    have b1 := hc1.at_ (k := w.heap.size) (heap_old _ (heap_new _ _)) (fun h => h)
    have b2 := hc1.at_ (k := w.heap.size + 1) (heap_new' _ _ (World.size_alloc ..).symm) (fun h => h)
    have k0 := cell_at b1 0 rfl
    have k1 := cell_at b1 1 rfl
    have k2 := cell_at b1 2 rfl
    obtain ⟨p0, p1, p2, p3, p4, p5, p6, p7, p8, p9, p10, p11⟩ := cells12 b2
    have HC1 := Lib.hid hc1
    clear b1 b2 hc1
    go_wp2
    go_ret
    exact ⟨ret_bool (by rw [HM.out]; simp [HK.out.1, HK.out.2.1, HK.out.2.2.1, HK.out.2.2.2.1, HK.out.2.2.2.2]; try omega), (((Chg.refl _ w).alloc _).alloc _).trans HC1.out (fun _ _ h => h)⟩

set_option maxRecDepth 100000 in
set_option maxHeartbeats 3200000 in
theorem mayE_any (h : CfgAt ok w A1 A2 A3 n1 n2 n3 c1 c2 c3 c) (hok : ∀ k, ok k → k < w.heap.size) (hf : cfgFits c) (x : Ev) (AV AS : Option Addr) (nV cV nS cS : Nat) :
    Calls Try.prog 15 #[.agg #[.slice A1 n1 c1, .slice A2 n2 c2, .slice A3 n3 c3], .agg (evCs x (.slice AV nV cV) (.slice AS nS cS)).toArray] w fun e w' => e = .returned (.bool (may c x)) ∧ Chg (fun _ => False) w w' := by
  have HC : Hid (∀ w', Chg (fun _ => False) w w' → Calls Try.prog 35 #[.agg #[.slice A1 n1 c1, .slice A2 n2 c2, .slice A3 n3 c3]] w' fun e w1 => e = .returned (.bool (mayB c)) ∧ Chg (fun _ => False) w' w1) :=
    fun w' hc => may_any (cfg_up h hok hc) (fun k hk => Nat.lt_of_lt_of_le (hok k hk) hc.size)
  have L1 := Lib.hid h.l1
  have L3 := Lib.hid h.l3
  have m1 := h.m1
  have m3 := h.m3
  clear h hok hf
  obtain ⟨kd, ss, ⟨rk, lf, nb, rp, ky, tt, vl, lm⟩, pl, st⟩ := x
  cases hm : mayB c with
  | false =>
    have HF : Hid (may c ⟨kd, ss, ⟨rk, lf, nb, rp, ky, tt, vl, lm⟩, pl, st⟩ = false) := may_no hm
    rw [hm] at HC
    clear hm
    go_enter Try.func15, Try.ntmps15
    go_wp2_with fail
    refine (HC.out _ (((Chg.refl _ w).alloc _).alloc _)).mono ?_
    rintro e w1 ⟨rfl, hc1⟩
    go_wp2
    go_ret
    exact ⟨ret_bool HF.out.symm, (((Chg.refl _ w).alloc _).alloc _).trans hc1 (fun _ _ h => h)⟩
  | true =>
    have HM : Hid (may c ⟨kd, ss, ⟨rk, lf, nb, rp, ky, tt, vl, lm⟩, pl, st⟩ = _) := may_of hm
    rw [hm] at HC
    clear hm
    by_cases k1 : kd = 1
    · subst k1
      go_enter Try.func15, Try.ntmps15
      go_wp2_with fail
      refine (HC.out _ (((Chg.refl _ w).alloc _).alloc _)).mono ?_
      rintro e w1 ⟨rfl, hc1⟩
      have b1 := hc1.at_ (k := w.heap.size) (heap_old _ (heap_new _ _)) (fun h => h)
      have b2 := hc1.at_ (k := w.heap.size + 1) (heap_new' _ _ (World.size_alloc ..).symm) (fun h => h)
      have k0 := cell_at b1 0 rfl
      have k1 := cell_at b1 1 rfl
      have k2 := cell_at b1 2 rfl
      obtain ⟨p0, p1, p2, p3, p4, p5, p6, p7, p8, p9, p10, p11⟩ := cells12 b2
      have HC1 := Lib.hid hc1
      clear b1 b2 hc1
      go_wp2_with fail
      refine (pwithin_any _ _ _).mono ?_
      rintro e wz ⟨rfl, rfl⟩
      go_wp2
      go_ret
      exact ⟨ret_bool (by rw [HM.out]; simp [L3.out]; try omega), (((Chg.refl _ w).alloc _).alloc _).trans HC1.out (fun _ _ h => h)⟩
    by_cases k3 : kd = 3
    · subst k3
      go_enter Try.func15, Try.ntmps15
      go_wp2_with fail
      refine (HC.out _ (((Chg.refl _ w).alloc _).alloc _)).mono ?_
      rintro e w1 ⟨rfl, hc1⟩
      have b1 := hc1.at_ (k := w.heap.size) (heap_old _ (heap_new _ _)) (fun h => h)
      have b2 := hc1.at_ (k := w.heap.size + 1) (heap_new' _ _ (World.size_alloc ..).symm) (fun h => h)
      have k0 := cell_at b1 0 rfl
      have k1 := cell_at b1 1 rfl
      have k2 := cell_at b1 2 rfl
      obtain ⟨p0, p1, p2, p3, p4, p5, p6, p7, p8, p9, p10, p11⟩ := cells12 b2
      have HC1 := Lib.hid hc1
      clear b1 b2 hc1
      go_wp2_with fail
      refine (pwithin_any _ _ _).mono ?_
      rintro e wz ⟨rfl, rfl⟩
      go_wp2
      go_ret
      exact ⟨ret_bool (by rw [HM.out]; simp [L1.out]; try omega), (((Chg.refl _ w).alloc _).alloc _).trans HC1.out (fun _ _ h => h)⟩
    by_cases k4 : kd = 4
    · subst k4
      go_enter Try.func15, Try.ntmps15
      go_wp2_with fail
      refine (HC.out _ (((Chg.refl _ w).alloc _).alloc _)).mono ?_
      rintro e w1 ⟨rfl, hc1⟩
      have b1 := hc1.at_ (k := w.heap.size) (heap_old _ (heap_new _ _)) (fun h => h)
      have b2 := hc1.at_ (k := w.heap.size + 1) (heap_new' _ _ (World.size_alloc ..).symm) (fun h => h)
      have k0 := cell_at b1 0 rfl
      have k1 := cell_at b1 1 rfl
      have k2 := cell_at b1 2 rfl
      obtain ⟨p0, p1, p2, p3, p4, p5, p6, p7, p8, p9, p10, p11⟩ := cells12 b2
      have HC1 := Lib.hid hc1
      clear b1 b2 hc1
      go_wp2_with fail
      refine (pwithin_any _ _ _).mono ?_
      rintro e wz ⟨rfl, rfl⟩
      go_wp2
      go_ret
      exact ⟨ret_bool (by rw [HM.out]; simp [L1.out]; try omega), (((Chg.refl _ w).alloc _).alloc _).trans HC1.out (fun _ _ h => h)⟩
    by_cases k2 : kd = 2
    · subst k2
      go_enter Try.func15, Try.ntmps15
      go_wp2_with fail
      refine (HC.out _ (((Chg.refl _ w).alloc _).alloc _)).mono ?_
      rintro e w1 ⟨rfl, hc1⟩
      have b1 := hc1.at_ (k := w.heap.size) (heap_old _ (heap_new _ _)) (fun h => h)
      have b2 := hc1.at_ (k := w.heap.size + 1) (heap_new' _ _ (World.size_alloc ..).symm) (fun h => h)
      have k0 := cell_at b1 0 rfl
      have k1 := cell_at b1 1 rfl
      have k2 := cell_at b1 2 rfl
      obtain ⟨p0, p1, p2, p3, p4, p5, p6, p7, p8, p9, p10, p11⟩ := cells12 b2
      have HC1 := Lib.hid hc1
      clear b1 b2 hc1
      go_wp2
      go_ret
      exact ⟨ret_bool (by rw [HM.out]; simp; try omega), (((Chg.refl _ w).alloc _).alloc _).trans HC1.out (fun _ _ h => h)⟩
    by_cases k5 : kd = 5
    · subst k5
      go_enter Try.func15, Try.ntmps15
      go_wp2_with fail
      refine (HC.out _ (((Chg.refl _ w).alloc _).alloc _)).mono ?_
      rintro e w1 ⟨rfl, hc1⟩
      have b1 := hc1.at_ (k := w.heap.size) (heap_old _ (heap_new _ _)) (fun h => h)
      have b2 := hc1.at_ (k := w.heap.size + 1) (heap_new' _ _ (World.size_alloc ..).symm) (fun h => h)
      have k0 := cell_at b1 0 rfl
      have k1 := cell_at b1 1 rfl
      have k2 := cell_at b1 2 rfl
      obtain ⟨p0, p1, p2, p3, p4, p5, p6, p7, p8, p9, p10, p11⟩ := cells12 b2
      have HC1 := Lib.hid hc1
      clear b1 b2 hc1
      go_wp2
      go_ret
      exact ⟨ret_bool (by rw [HM.out]; simp; try omega), (((Chg.refl _ w).alloc _).alloc _).trans HC1.out (fun _ _ h => h)⟩
    have e1 : (kd == 1) = false := by rw [beq_eq_false_iff_ne]; exact k1
    have e3 : (kd == 3) = false := by rw [beq_eq_false_iff_ne]; exact k3
    have e4 : (kd == 4) = false := by rw [beq_eq_false_iff_ne]; exact k4
    have e2 : (kd == 2) = false := by rw [beq_eq_false_iff_ne]; exact k2
    have e5 : (kd == 5) = false := by rw [beq_eq_false_iff_ne]; exact k5
    have HK : Hid (¬ kd = 1 ∧ ¬ kd = 3 ∧ ¬ kd = 4 ∧ ¬ kd = 2 ∧ ¬ kd = 5) := ⟨k1, k3, k4, k2, k5⟩
    clear k1 k3 k4 k2 k5
    go_enter Try.func15, Try.ntmps15
    go_wp2_with fail
    refine (HC.out _ (((Chg.refl _ w).alloc _).alloc _)).mono ?_
    rintro e w1 ⟨rfl, hc1⟩
    have b1 := hc1.at_ (k := w.heap.size) (heap_old _ (heap_new _ _)) (fun h => h)
    have b2 := hc1.at_ (k := w.heap.size + 1) (heap_new' _ _ (World.size_alloc ..).symm) (fun h => h)
    have k0 := cell_at b1 0 rfl
    have k1 := cell_at b1 1 rfl
    have k2 := cell_at b1 2 rfl
    obtain ⟨p0, p1, p2, p3, p4, p5, p6, p7, p8, p9, p10, p11⟩ := cells12 b2
    have HC1 := Lib.hid hc1
    clear b1 b2 hc1
    go_wp2
    go_ret
    exact ⟨ret_bool (by rw [HM.out]; simp [HK.out.1, HK.out.2.1, HK.out.2.2.1, HK.out.2.2.2.1, HK.out.2.2.2.2]; try omega), (((Chg.refl _ w).alloc _).alloc _).trans HC1.out (fun _ _ h => h)⟩

theorem seen_any (h : CfgAt ok w A1 A2 A3 n1 n2 n3 c1 c2 c3 c) (hok : ∀ k, ok k → k < w.heap.size) (a b : Nat) (ha : a < n1) (hb : b < n1) :
    Calls Try.prog 26 #[.agg #[.slice A1 n1 c1, .slice A2 n2 c2, .slice A3 n3 c3], .int .i64 a, .int .i64 b] w fun e w' => e = .returned (.bool (Ev.seen c a b)) ∧ Chg (fun _ => False) w w' := by
  obtain ⟨g, off, rfl, hg, hcell⟩ := rd_us h.r1 (by omega)
  have qa := hcell a ha
  have qb := hcell b hb
  have ta := lt_mem h.big a
  have tb := lt_mem h.big b
  have hgl := hok g hg
  have HS : Hid (Ev.seen c a b = leq (c.labels.getD b 0) (c.labels.getD a 0)) := rfl
  generalize c.labels.getD a 0 = la at *
  generalize c.labels.getD b 0 = lb at *
  have i1 : (a : Int) < (n1 : Int) := by omega
  have i2 : (b : Int) < (n1 : Int) := by omega
  have i3 : (0 : Int) ≤ (a : Int) := by omega
  have i4 : (0 : Int) ≤ (b : Int) := by omega
  clear hcell h hok hg
  go_enter Try.func26, Try.ntmps26
  go_wp2_with fail
  have y1 := fun p => cell_later (((World.cell?_of_block (Below.heap_alloc w (.cells #[.slice (some ⟨g, off, none⟩) n1 c1, .slice A2 n2 c2, .slice A3 n3 c3] 27) g hgl) (a := ⟨g, off + a, none⟩)).trans qa)) p
  have y2 := fun p => cell_later (((World.cell?_of_block (Below.heap_alloc w (.cells #[.slice (some ⟨g, off, none⟩) n1 c1, .slice A2 n2 c2, .slice A3 n3 c3] 27) g hgl) (a := ⟨g, off + b, none⟩)).trans qb)) p
  have y3 := fun p => cell_later (w := w.alloc (.cells #[.slice (some ⟨g, off, none⟩) n1 c1, .slice A2 n2 c2, .slice A3 n3 c3] 27)) (a := ⟨w.heap.size, 0, none⟩) (cell_at (heap_new w _) 0 rfl) p
  refine wp_region_later (by kernel_rfl) (by kernel_rfl) ?_
  repeat (any_goals (go_big_quiet_step (first | (go_at_call 55; with_reducible exact of_same (rleq_any lb la _ tb ta)))))
  refine wpQuiet_nil ?_
  intro _ hw'
  obtain ⟨⟨w9, hc9⟩, hw''⟩ := hw'
  subst hw''
  go_wp2
  go_ret
  exact ⟨ret_bool HS.out.symm, ((Chg.refl _ w).alloc _).trans hc9 (fun _ _ h => h)⟩
end
end Go.Proofs.Ytchlolgfahgdeaa.En
