/- The program's Purge by contract. Conditions: what comes in reads so. -/
import Derived.Test.YtchlolgfahgdeaaEpf
import Derived.Test.YtchlolgfahgdeaaEr
import Derived.Test.YtchlolgfahgdeaaEsp
import Derived.Test.YtchlolgfahgdeaaSto
import Derived.Deep.RegionHeld3
import Derived.Deep.CutRange
set_option linter.unusedVariables false
set_option linter.unusedSimpArgs false
namespace Go.Proofs.Ytchlolgfahgdeaa.Epu
open Go.RowKit Go.Proofs.Ytchlolgfahgdeaa.Lib1 Go.Proofs.Ytchlolgfahgdeaa.Rel Go.Proofs.Ytchlolgfahgdeaa.Own Go.Proofs.Ytchlolgfahgdeaa.Ev Go.Proofs.Ytchlolgfahgdeaa.Ek Go.Proofs.Ytchlolgfahgdeaa.Ec Go.Proofs.Ytchlolgfahgdeaa.Em Go.Proofs.Ytchlolgfahgdeaa.En Go.Proofs.Ytchlolgfahgdeaa.Er Go.Proofs.Ytchlolgfahgdeaa.Edn Go.Proofs.Ytchlolgfahgdeaa.Esp Go.Proofs.Ytchlolgfahgdeaa.Epf Go.Proofs.Ytchlolgfahgdeaa.Sto Go.Proofs.Ytchlolgfahgdeaa.Lat Go.Proofs.Ytchlolgfahgdeaa.Lbl Go.Proofs.Ytchlolgfahgdeaa.Lbw Go.Proofs.Ytchlolgfahgdeaa.Lck Go.Proofs.Ytchlolgfahgdeaa.Lmay

theorem set8 {w0 w : World} {b : Nat} {a2 a3 a4 a5 a6 a7 a8 a9 : Value} (hb : w0.heap.size ≤ b) (h : Chg (fun _ => False) w0 w) : Chg (fun _ => False) w0 ((((((((w.setCell ⟨b, 2, none⟩ a2).setCell ⟨b, 3, none⟩ a3).setCell ⟨b, 4, none⟩ a4).setCell ⟨b, 5, none⟩ a5).setCell ⟨b, 6, none⟩ a6).setCell ⟨b, 7, none⟩ a7).setCell ⟨b, 8, none⟩ a8).setCell ⟨b, 9, none⟩ a9) :=
  ((((((((h.set (.inl hb)).set (.inl hb)).set (.inl hb)).set (.inl hb)).set (.inl hb)).set (.inl hb)).set (.inl hb)).set (.inl hb))
theorem set8c {w : World} {b : Nat} {a2 a3 a4 a5 a6 a7 a8 a9 : Value} : Chg (fun k => k = b) w ((((((((w.setCell ⟨b, 2, none⟩ a2).setCell ⟨b, 3, none⟩ a3).setCell ⟨b, 4, none⟩ a4).setCell ⟨b, 5, none⟩ a5).setCell ⟨b, 6, none⟩ a6).setCell ⟨b, 7, none⟩ a7).setCell ⟨b, 8, none⟩ a8).setCell ⟨b, 9, none⟩ a9) :=
  ((((((((Chg.refl (fun k => k = b) w).set (.inr rfl)).set (.inr rfl)).set (.inr rfl)).set (.inr rfl)).set (.inr rfl)).set (.inr rfl)).set (.inr rfl)).set (.inr rfl)
theorem set8h {w : World} {b T : Nat} {a2 a3 a4 a5 a6 a7 a8 a9 z0 z1 z2 z3 z4 z5 z6 z7 z8 z9 z10 z11 : Value} (h : w.heap[b]? = some (.cells #[z0, z1, z2, z3, z4, z5, z6, z7, z8, z9, z10, z11] T (0, 0))) : ((((((((w.setCell ⟨b, 2, none⟩ a2).setCell ⟨b, 3, none⟩ a3).setCell ⟨b, 4, none⟩ a4).setCell ⟨b, 5, none⟩ a5).setCell ⟨b, 6, none⟩ a6).setCell ⟨b, 7, none⟩ a7).setCell ⟨b, 8, none⟩ a8).setCell ⟨b, 9, none⟩ a9).heap[b]? = some (.cells #[z0, z1, a2, a3, a4, a5, a6, a7, a8, a9, z10, z11] T (0, 0)) := by
  have := heap_set (heap_set (heap_set (heap_set (heap_set (heap_set (heap_set (heap_set (h) 2 a2) 3 a3) 4 a4) 5 a5) 6 a6) 7 a7) 8 a8) 9 a9
  simpa using this
theorem set1h {w : World} {b T : Nat} {a1 z0 z1 z2 z3 z4 z5 z6 z7 z8 z9 z10 z11 : Value} (h : w.heap[b]? = some (.cells #[z0, z1, z2, z3, z4, z5, z6, z7, z8, z9, z10, z11] T (0, 0))) : (w.setCell ⟨b, 1, none⟩ a1).heap[b]? = some (.cells #[z0, a1, z2, z3, z4, z5, z6, z7, z8, z9, z10, z11] T (0, 0)) := by
  have := heap_set h 1 a1
  simpa using this

section
variable {ok : Nat → Prop} {w : World} {A1 A2 A3 : Option Addr} {n1 n2 n3 c1 c2 c3 : Nat} {c : Cfg}
set_option maxRecDepth 100000 in
set_option maxHeartbeats 40000000 in
theorem ppurge_in (h : CfgAt ok w A1 A2 A3 n1 n2 n3 c1 c2 c3 c) (hok : ∀ k, ok k → k < w.heap.size) (hcf : cfgFits c) (hm : mayB c = true) (a : Nat) (ha : a < n1) (s : List Ev) (A : Option Addr) (n cc : Nat) (hr : evsK.rel ok w s [.slice A n cc]) (hf : evsK.fits s) :
    Calls Try.prog 19 #[.agg #[.slice A1 n1 c1, .slice A2 n2 c2, .slice A3 n3 c3], .int .i64 a, .slice A n cc] w fun e w' => ∃ v, e = .returned v ∧ OwnL evK 37 w.heap.size w' v (s.filterMap (purge1 c a)) ∧ Chg (fun _ => False) w w' := by
  have hl : s.length * 144 ≤ 140737488351232 := hf.1
  obtain ⟨A0, c0, e0, -⟩ := slice_form hr
  simp only [List.cons.injEq, Value.slice.injEq, and_true] at e0
  obtain ⟨rfl, rfl, rfl⟩ := e0
  have hmf : ∀ (fn : Fn) (first cap : Array Value) (w : World), (Instr.makeFunc fn first cap).run Try.prog w = .ok (.func fn first cap) w := fun _ _ _ _ => rfl
  have h16 : n1 ≤ 16 := by rw [← h.l1]; exact may_16 hm
  have HH : Hid (∀ w', Chg (fun _ => False) w w' → CfgAt ok w' A1 A2 A3 n1 n2 n3 c1 c2 c3 c) := fun w' hc => cfg_up h hok hc
  have HMC : Hid (∀ w', Chg (fun _ => False) w w' → Calls Try.prog 35 #[.agg #[.slice A1 n1 c1, .slice A2 n2 c2, .slice A3 n3 c3]] w' fun e w1 => e = .returned (.bool true) ∧ Chg (fun _ => False) w' w1) :=
    fun w' hc => (may_any (cfg_up h hok hc) (fun k hk => Nat.lt_of_lt_of_le (hok k hk) hc.size)).mono fun _ _ ⟨he, hw⟩ => ⟨he.trans (ret_bool hm), hw⟩
  obtain ⟨D, hD⟩ : ∃ D, D = downs c.labels (c.labels.getD a 0) n1 := ⟨_, rfl⟩
  have HDl : Hid (D.length ≤ n1) := by show _ ≤ _; rw [hD]; exact downs_len _ _ _
  have HDm : Hid (∀ p, p < n1 → decide ((p : Int) ∈ D) = Ev.seen c a p) := fun p hp => by
    rw [hD, show decide ((p : Int) ∈ downs c.labels (c.labels.getD a 0) n1) = decide (p < n1 ∧ leq (c.labels.getD p 0) (c.labels.getD a 0) = true) from decide_eq_decide.2 downs_mem]
    unfold Ev.seen
    simp [hp]
  have HDn : Hid (∀ w', Chg (fun _ => False) w w' → Calls Try.prog 40 #[.slice A1 n1 c1, .int .u64 (c.labels.getD a 0 : Nat)] w' fun e w1 => ∃ v, e = .returned v ∧ OwnL (Kd.int .i64) 3 w'.heap.size w1 v D ∧ Chg (fun _ => False) w' w1) :=
    fun w' hc => by
      rw [hD]
      exact down_any c.labels _ A1 n1 c1 w' ok (cfg_up h hok hc).r1 (fun k hk => Nat.lt_of_lt_of_le (hok k hk) hc.size) h.big (lt_mem h.big a) (by omega)
  clear hD
  have HR : Hid (∀ w', Chg (fun _ => False) w w' → evsK.rel ok w' s [.slice A s.length cc]) := fun w' hc => evsK.move (fun k hk => hc.block k (hok k hk) (fun h => h)) hr
  have HOK := Lib.hid hok
  have HF := Lib.hid hf
  have HCF := Lib.hid hcf
  have HM := Lib.hid hm
  have L1 := Lib.hid h.l1
  have L3 := Lib.hid h.l3
  have m3 := h.m3
  obtain ⟨g1, o1, hA1, hg1, hcell⟩ := rd_us h.r1 (by omega)
  subst hA1
  have q0 := hcell a ha
  have hg1l := hok g1 hg1
  obtain ⟨la, hla⟩ : ∃ la, la = c.labels.getD a 0 := ⟨_, rfl⟩
  rw [← hla] at HDn q0
  clear hr hok hf h hcf hm hcell hla hg1
  have C1 : Hid (Chg (fun _ => False) w (w.alloc (.cells #[.slice (some ⟨g1, o1, none⟩) n1 c1, .slice A2 n2 c2, .slice A3 n3 c3] 27))) := (Chg.refl _ w).alloc _
  have i1 : (a : Int) < (n1 : Int) := by omega
  have i0 : decide ((0 : Int) ≤ (a : Int)) = true := by simp
  have i2 : decide ((a : Int) < (n1 : Int)) = true := by simp; omega
  have i3 : decide (a < n1) = true := by simp; omega
  go_enter Try.func19, Try.ntmps19
  go_wp2_with fail
  refine (HMC.out _ C1.out).mono ?_
  rintro e w2 ⟨rfl, hc2⟩
  have B2 : Hid (w2.heap[w.heap.size]? = some (.cells #[.slice (some ⟨g1, o1, none⟩) n1 c1, .slice A2 n2 c2, .slice A3 n3 c3] 27 (0, 0))) := hc2.at_ (heap_new w _) (fun h => h)
  have b2 := B2.out
  have k0 := cell_at b2 0 rfl
  have C2 : Hid (Chg (fun _ => False) w w2) := C1.out.trans hc2 (fun _ _ h => h)
  have q1 := (World.cell?_of_block (C2.out.block g1 hg1l (fun h => h)) (a := ⟨g1, o1 + a, none⟩)).trans q0
  have z2 := lt_of _ b2
  clear hc2 b2 q0
  go_wp2_with fail
  refine (pwithin_any _ _ _).mono ?_
  rintro e w2' ⟨rfl, rfl⟩
  have HSk : Hid (∀ w', Chg (fun _ => False) w2 w' → w'.cell? ⟨w.heap.size, 0, none⟩ = some (.slice (some ⟨g1, o1, none⟩) n1 c1) ∧ w'.cell? ⟨g1, o1 + a, none⟩ = some (.int .u64 (la : Nat))) := fun w' hw =>
    ⟨(World.cell?_of_block (hw.block w.heap.size z2 (fun h => h)) (a := ⟨w.heap.size, 0, none⟩)).trans k0, (World.cell?_of_block (hw.block g1 (Nat.lt_trans hg1l z2) (fun h => h)) (a := ⟨g1, o1 + a, none⟩)).trans q1⟩
  have HZq : Hid (∀ Z W5, Chg (fun _ => False) (w2.alloc Z).drew W5 → W5.heap[w2.heap.size]? = some Z) := fun Z W5 h => (undrew h).at_ (heap_new w2 Z) (fun h => h)
  go_upto_region 3 with fail
  go_cut [7] from 13 (fun v wx => ∃ xb, v = .pointer (some ⟨xb, 0, none⟩) ∧ IsAt wx xb D ∧ Chg (fun _ => False) w2 wx)
  case first =>
    go_wp2_with fail
    go_region_held3 (fun w' => w'.cell? ⟨w.heap.size, 0, none⟩ = some (.slice (some ⟨g1, o1, none⟩) n1 c1) ∧ w'.cell? ⟨g1, o1 + a, none⟩ = some (.int .u64 (la : Nat)))
      (first | with_reducible exact HSk.out _ (Chg.set hq (.inl (Nat.le_refl _))) | with_reducible exact HSk.out _ (Chg.refl _ w2).drew | with_reducible exact HSk.out _ ((Chg.refl _ w2).alloc _).drew | with_reducible exact HSk.out _ hq | with_reducible exact HSk.out _ (hq.alloc _))
      (first
        | (go_at_call 40; refine (HDn.out _ (C2.out.trans (by first | exact (Chg.refl _ w2).drew | exact ((Chg.refl _ w2).alloc _).drew) (fun _ _ h => h))).mono ?_; rintro e w5 ⟨V5, rfl, ho5, hc5⟩; obtain ⟨A5, c5, e5, hr5⟩ := own_is ho5; subst e5; have hq := Chg.trans (S := fun _ => False) (w := w2) (by first | exact (Chg.refl _ w2).drew | exact ((Chg.refl _ w2).alloc _).drew) hc5 (fun _ _ h => h); have s5 := hq.size; try (have hx5 := HZq.out _ _ hc5; have e0 := cell_at hx5 0 rfl; have e12 := free_at hx5)))
    all_goals first
      | (obtain ⟨w6, hw6⟩ : ∃ w6, w6 = w5.alloc (.cells #[.slice A5 D.length c5] 25) := ⟨_, rfl⟩
         obtain ⟨xb, hxb⟩ : ∃ xb, xb = w5.heap.size := ⟨_, rfl⟩
         have HD6 : Hid (IsAt w6 xb D) := by
           rw [hw6, hxb]
           exact ⟨A5, D.length, c5, heap_new w5 _, (hr5.move (fun k hk => Below.heap_alloc _ _ _ hk.2)).mono (fun k hk => by simp only [World.size_alloc]; have := hk.2; omega), by have := HDl.out; omega⟩
         have HC6 : Hid (Chg (fun _ => False) w2 w6) := by show Chg _ _ _; rw [hw6]; exact hq.alloc _
         rw [← hw6, ← hxb]
         clear hw6 hxb)
      | (obtain ⟨w6, hw6⟩ : ∃ w6, w6 = w5.setCell ⟨w2.heap.size, 0, none⟩ (.slice A5 D.length c5) := ⟨_, rfl⟩
         obtain ⟨xb, hxb⟩ : ∃ xb, xb = w2.heap.size := ⟨_, rfl⟩
         have HD6 : Hid (IsAt w6 xb D) := by
           rw [hw6, hxb]
           refine ⟨A5, D.length, c5, heap_set hx5 0 _, (hr5.move (fun k hk => heap_set_ne _ _ (fun he => ?_))).mono (fun k hk => by simp only [World.setCell, Array.size_modify]; exact hk.2), by have := HDl.out; omega⟩
           have h1 := hk.1; simp only [World.drew, World.size_alloc] at h1; omega
         have HC6 : Hid (Chg (fun _ => False) w2 w6) := by show Chg _ _ _; rw [hw6]; exact Chg.set hq (.inl (Nat.le_refl _))
         rw [← hw6, ← hxb]
         clear hw6 hxb hx5 e0 e12)
    all_goals
      go_wp2_with fail
      go_meet
      exact ⟨xb, rfl, HD6.out, HC6.out⟩
  case rest =>
    obtain ⟨xb, rfl, hd6, hc6⟩ := hcut
    obtain ⟨w6, rfl⟩ : ∃ w6 : World, w6 = wc := ⟨_, rfl⟩
    have HD6 := Lib.hid hd6
    have HC6 := Lib.hid hc6
    have C6 : Hid (Chg (fun _ => False) w w6) := C2.out.trans HC6.out (fun _ _ h => h)
    have B6 : Hid (w6.heap[w.heap.size]? = some (.cells #[.slice (some ⟨g1, o1, none⟩) n1 c1, .slice A2 n2 c2, .slice A3 n3 c3] 27 (0, 0))) := HC6.out.at_ B2.out (fun h => h)
    clear hd6 hc6 k0 q1 HSk HZq
    have HIs : Hid (∀ W, Chg (fun _ => False) w6 W → ∀ p : Nat, p < n1 → Calls Try.prog 41 #[.int .i64 p, .pointer (some ⟨xb, 0, none⟩)] W fun e w' => e = .returned (.bool (Ev.seen c a p)) ∧ W = w') := fun W hW p hp => (is_any (HD6.out.up hW) p).mono fun _ _ ⟨he, hw⟩ => ⟨he.trans (ret_bool (HDm.out p hp)), hw⟩
    go_wp2
    go_loopw [9, 35] (fun v i wr => PuRel w6 (purge1 c a) s v i wr) (fun _ i _ => s.length - (intOf i).toNat)
    case atStart => exact ⟨0, Nat.zero_le _, rfl, OwnL.nil _ _ _ _, Chg.refl _ _⟩
    case round =>
      obtain ⟨wo, rfl⟩ : ∃ wo : World, wo = wr := ⟨_, rfl⟩
      obtain ⟨k, hk, rfl, ho, hc⟩ := hrel
      have hfl := fm_len (purge1 c a) s k hk
      have HO := Lib.hid ho
      obtain ⟨Av, cv, ev⟩ := ho.form
      subst ev
      have HC := Lib.hid hc
      have b1 := hc.at_ B6.out (fun h => h)
      have z1 := lt_of _ b1
      have k0 := cell_at b1 0 rfl
      have k1 := cell_at b1 1 rfl
      have k2 := cell_at b1 2 rfl
      clear ho hc b1
      by_cases hlt : k < s.length
      · have hx : s[k]? = some s[k] := List.getElem?_eq_getElem hlt
        have HX := Lib.hid hx
        obtain ⟨g, off, cs, rfl, hg, hrel, hra⟩ := elem_of _ ok (HR.out _ (C6.out.trans HC.out (fun _ _ h => h))) hx
        have HFx := Lib.hid (fits_at HF.out hx)
        generalize s[k] = x at *
        obtain ⟨V, S, rfl, hV, hS⟩ := hrel
        obtain ⟨AV, cV, eV, -⟩ := slice_form hV
        obtain ⟨AS, cS, eS, -⟩ := slice_form hS
        simp only [List.cons.injEq, and_true] at eV eS
        subst eV eS
        obtain ⟨p0, p1, p2, p3, p4, p5, p6, p7, p8, p9, p10, p11⟩ := range12 (o := off + k * 12) hra
        have HV := Lib.hid hV
        have HS := Lib.hid hS
        have hgl := HOK.out g hg
        have HMay : Hid (∀ W, Chg (fun _ => False) w W → _) := fun W hW => mayE_any (HH.out W hW) (fun j hj => Nat.lt_of_lt_of_le (HOK.out j hj) hW.size) HCF.out x AV AS x.req.value.length cV x.strikes.length cS
        clear hra hx hg hV hS
        obtain ⟨kd, ss, ⟨rk, lf, nb, rp, ky, tt, vl, lm⟩, pl, st⟩ := x
        simp only [evCs] at *
        have i4 : (k : Int) < (s.length : Int) := by omega
        have hwb := (C6.out.trans HC.out (fun _ _ h => h)).alloc (.cells #[.int .i64 kd, .int .i64 ss, .int .i64 rk, .int .i64 lf, .int .i64 nb, .int .i64 rp, .string ky, .string tt, .slice AV vl.length cV, .int .i64 lm, .int .i64 pl, .slice AS st.length cS] 37)
        go_wp2_with fail
        refine (HMay.out _ hwb).mono ?_
        rintro e w3 ⟨rfl, hc3⟩
        have b1 := hc3.at_ (k := wo.heap.size) (heap_new _ _) (fun h => h)
        have b2 := hc3.at_ (heap_old _ (HC.out.at_ B6.out (fun h => h))) (fun h => h)
        clear p0 p1 p2 p3 p4 p5 p6 p7 p8 p9 p10 p11 k0 k1 k2
        obtain ⟨p0, p1, p2, p3, p4, p5, p6, p7, p8, p9, p10, p11⟩ := cells12 b1
        have k0 := cell_at b2 0 rfl
        have k1 := cell_at b2 1 rfl
        have k2 := cell_at b2 2 rfl
        have z3 := lt_of _ b1
        have z2 := lt_of _ b2
        have HC3 := Lib.hid (((Chg.refl (fun _ => False) wo).alloc _).trans hc3 (fun _ _ h => h))
        clear b1 b2 hc3 hwb
        cases hmay : may c ⟨kd, ss, ⟨rk, lf, nb, rp, ky, tt, vl, lm⟩, pl, st⟩ with
        | false =>
          have HN : Hid (purge1 c a ⟨kd, ss, ⟨rk, lf, nb, rp, ky, tt, vl, lm⟩, pl, st⟩ = none) := by show _ = _; unfold purge1; rw [if_pos hmay]
          clear hmay
          go_wp2
          go_roundw
          case rel => exact ⟨k + 1, by omega, by go_num, by rw [fm_none HX.out HN.out]; exact HO.out.up HC3.out, HC.out.trans HC3.out (fun _ _ h => h)⟩
          case measure => simp [intOf]; omega
        | true =>
          have HMy := Lib.hid hmay
          clear hmay
          by_cases hk1 : kd = 1
          · subst hk1
            have hsb := HMy.out
            rw [may_of HM.out] at hsb
            simp only [if_true, Bool.and_eq_true, decide_eq_true_eq] at hsb
            obtain ⟨sn, rfl⟩ := Int.eq_ofNat_of_zero_le hsb.1
            have hsn : sn < n3 := by have := hsb.2; have := L3.out; omega
            obtain ⟨b, hb, hbn⟩ := may_ses_bd HM.out (i := sn) (by have := L3.out; omega)
            rw [L1.out] at hbn
            obtain ⟨gs, os, rfl, hgs, hcell⟩ := rd_is (HH.out _ ((C6.out.trans HC.out (fun _ _ h => h)).trans HC3.out (fun _ _ h => h))).r3 (by omega)
            have q0 := hcell sn hsn
            rw [hb] at q0
            have zg := World.block_lt_of_cell? w3 _ q0
            have HSb := Lib.hid hb
            clear hsb hcell hb
            have j1 : (sn : Int) < (n3 : Int) := by omega
            have j0 : (0 : Int) ≤ (sn : Int) := by omega
            go_wp2_with fail
            refine (HIs.out _ ((HC.out.trans HC3.out (fun _ _ h => h)).alloc _) b hbn).mono ?_
            rintro e w4' ⟨rfl, rfl⟩
            cases hsee : Ev.seen c a b with
            | false =>
              have HN : Hid (purge1 c a ⟨1, sn, ⟨rk, lf, nb, rp, ky, tt, vl, lm⟩, pl, st⟩ = none) := by show _ = _; unfold purge1; rw [if_neg (by rw [HMy.out]; simp), if_pos rfl]; simp only [Int.toNat_natCast]; rw [HSb.out, Int.toNat_natCast, hsee]; rfl
              clear hsee p0 p1 p2 p3 p4 p5 p6 p7 p8 p9 p10 p11 k0 k1 k2 q0
              go_wp2
              go_roundw
              case rel => exact ⟨k + 1, by omega, by go_num, by rw [fm_none HX.out HN.out]; exact HO.out.up (HC3.out.alloc _), HC.out.trans (HC3.out.alloc _) (fun _ _ h => h)⟩
              case measure => simp [intOf]; omega
            | true =>
              have HN : Hid (purge1 c a ⟨1, sn, ⟨rk, lf, nb, rp, ky, tt, vl, lm⟩, pl, st⟩ = some ⟨1, sn, Ev.req ⟨rk, lf, nb, rp, ky, tt, vl, lm⟩, 0, []⟩) := by show _ = _; unfold purge1; rw [if_neg (by rw [HMy.out]; simp), if_pos rfl]; simp only [Int.toNat_natCast]; rw [HSb.out, Int.toNat_natCast, hsee]; rfl
              clear hsee k0 k1 k2 q0
              obtain ⟨w4, hw4⟩ : ∃ w4, w4 = w3.alloc (.cells #[.int .i64 1, .int .i64 0, .int .i64 0, .int .i64 0, .int .i64 0, .int .i64 0, .string ⟨#[]⟩, .string ⟨#[]⟩, .slice none 0 0, .int .i64 0, .int .i64 0, .slice none 0 0] 37) := ⟨_, rfl⟩
              obtain ⟨y, hy⟩ : ∃ y, y = w3.heap.size := ⟨_, rfl⟩
              have X4 : Hid (w4.heap[y]? = some (.cells #[.int .i64 1, .int .i64 0, .int .i64 0, .int .i64 0, .int .i64 0, .int .i64 0, .string ⟨#[]⟩, .string ⟨#[]⟩, .slice none 0 0, .int .i64 0, .int .i64 0, .slice none 0 0] 37 (0, 0))) := by show _ = _; rw [hw4, hy]; exact heap_new w3 _
              have C34 : Hid (Chg (fun _ => False) w3 w4) := by show Chg _ _ _; rw [hw4]; exact (Chg.refl _ w3).alloc _
              have HYl : Hid (w3.heap.size ≤ y) := by show _ ≤ _; omega
              rw [← hw4, ← hy]
              clear hw4 hy
              have hyl := HYl.out
              have z4 := lt_of _ X4.out
              have HSk : Hid (∀ w', Chg (fun _ => False) w3 w' → w'.cell? ⟨wo.heap.size, 1, none⟩ = some (.int .i64 (sn : Int)) ∧ w'.cell? ⟨wo.heap.size, 2, none⟩ = some (.int .i64 rk) ∧ w'.cell? ⟨wo.heap.size, 3, none⟩ = some (.int .i64 lf) ∧ w'.cell? ⟨wo.heap.size, 4, none⟩ = some (.int .i64 nb) ∧ w'.cell? ⟨wo.heap.size, 5, none⟩ = some (.int .i64 rp) ∧ w'.cell? ⟨wo.heap.size, 6, none⟩ = some (.string ky) ∧ w'.cell? ⟨wo.heap.size, 7, none⟩ = some (.string tt) ∧ w'.cell? ⟨wo.heap.size, 8, none⟩ = some (.slice AV vl.length cV) ∧ w'.cell? ⟨wo.heap.size, 9, none⟩ = some (.int .i64 lm)) := fun w' hw => by
                have hmv : ∀ j v, w3.cell? ⟨wo.heap.size, j, none⟩ = some v → w'.cell? ⟨wo.heap.size, j, none⟩ = some v := fun j v h => (World.cell?_of_block (hw.block wo.heap.size z3 (fun he => he)) (a := ⟨wo.heap.size, j, none⟩)).trans h
                exact ⟨hmv _ _ p1, hmv _ _ p2, hmv _ _ p3, hmv _ _ p4, hmv _ _ p5, hmv _ _ p6, hmv _ _ p7, hmv _ _ p8, hmv _ _ p9⟩
              have hmv4 : ∀ j v, w3.cell? ⟨wo.heap.size, j, none⟩ = some v → w4.cell? ⟨wo.heap.size, j, none⟩ = some v := fun j v h => (World.cell?_of_block (C34.out.block wo.heap.size z3 (fun he => he)) (a := ⟨wo.heap.size, j, none⟩)).trans h
              replace p1 := hmv4 _ _ p1
              replace p2 := hmv4 _ _ p2
              replace p3 := hmv4 _ _ p3
              replace p4 := hmv4 _ _ p4
              replace p5 := hmv4 _ _ p5
              replace p6 := hmv4 _ _ p6
              replace p7 := hmv4 _ _ p7
              replace p8 := hmv4 _ _ p8
              replace p9 := hmv4 _ _ p9
              clear p0 p10 p11 hmv4
              obtain ⟨y0, y1, y2, y3, y4, y5, y6, y7, y8, y9, y10, y11⟩ := cells12 X4.out
              have y12 := free_at X4.out
              obtain ⟨rq, hrq⟩ : ∃ rq, rq = Ev.req ⟨rk, lf, nb, rp, ky, tt, vl, lm⟩ := ⟨_, rfl⟩
              rw [← hrq] at HN
              have HRq : Hid (∀ W, Chg (fun _ => False) w3 W → Calls Try.prog 43 #[.agg #[.int .i64 rk, .int .i64 lf, .int .i64 nb, .int .i64 rp, .string ky, .string tt, .slice AV vl.length cV, .int .i64 lm]] W fun e w' => ∃ V', e = .returned (.agg #[.int .i64 rq.kind, .int .i64 rq.life, .int .i64 rq.number, .int .i64 rq.place, .string rq.key, .string rq.to, V', .int .i64 rq.limit]) ∧ OwnL u8K 5 W.heap.size w' V' rq.value ∧ Chg (fun _ => False) W w') := fun W hW => by
                have hC := HC3.out.trans hW (fun _ _ h => h)
                have hsz := (C6.out.trans HC.out (fun _ _ h => h)).size
                rw [hrq]
                exact preq_any ⟨rk, lf, nb, rp, ky, tt, vl, lm⟩ _ (bytesK.move (fun j hj => hC.block j (Nat.lt_of_lt_of_le (HOK.out j hj) hsz) (fun h => h)) HV.out) (fun j hj => Nat.lt_of_lt_of_le (Nat.lt_of_lt_of_le (HOK.out j hj) hsz) hC.size) HFx.out.1.2.2
              have HZa : Hid (∀ W5, Chg (fun _ => False) w4.drew W5 → W5.heap[y]? = some (.cells #[.int .i64 1, .int .i64 0, .int .i64 0, .int .i64 0, .int .i64 0, .int .i64 0, .string ⟨#[]⟩, .string ⟨#[]⟩, .slice none 0 0, .int .i64 0, .int .i64 0, .slice none 0 0] 37 (0, 0))) := fun W5 h => (undrew h).at_ X4.out (fun h => h)
              have HZb : Hid (∀ W5, Chg (fun _ => False) (w4.setCell ⟨y, 1, none⟩ (.int .i64 (sn : Int))).drew W5 → W5.heap[y]? = some (.cells #[.int .i64 1, .int .i64 (sn : Int), .int .i64 0, .int .i64 0, .int .i64 0, .int .i64 0, .string ⟨#[]⟩, .string ⟨#[]⟩, .slice none 0 0, .int .i64 0, .int .i64 0, .slice none 0 0] 37 (0, 0))) := fun W5 h => (undrew h).at_ (set1h X4.out) (fun h => h)
              clear hrq
              go_wp2_with fail
              go_region_held3 (fun w' => w'.cell? ⟨wo.heap.size, 1, none⟩ = some (.int .i64 (sn : Int)) ∧ w'.cell? ⟨wo.heap.size, 2, none⟩ = some (.int .i64 rk) ∧ w'.cell? ⟨wo.heap.size, 3, none⟩ = some (.int .i64 lf) ∧ w'.cell? ⟨wo.heap.size, 4, none⟩ = some (.int .i64 nb) ∧ w'.cell? ⟨wo.heap.size, 5, none⟩ = some (.int .i64 rp) ∧ w'.cell? ⟨wo.heap.size, 6, none⟩ = some (.string ky) ∧ w'.cell? ⟨wo.heap.size, 7, none⟩ = some (.string tt) ∧ w'.cell? ⟨wo.heap.size, 8, none⟩ = some (.slice AV vl.length cV) ∧ w'.cell? ⟨wo.heap.size, 9, none⟩ = some (.int .i64 lm))
                (first | with_reducible exact HSk.out _ C34.out.drew | with_reducible exact HSk.out _ (Chg.set C34.out (.inl hyl)).drew | with_reducible exact HSk.out _ hq | with_reducible exact HSk.out _ (Chg.set hq (.inl hyl)) | with_reducible exact HSk.out _ (set8 hyl hq) | with_reducible exact HSk.out _ (set8 hyl (Chg.set hq (.inl hyl))) | with_reducible exact HSk.out _ (Chg.set (set8 hyl hq) (.inl hyl)))
                (first
                  | (go_at_call 43; refine (HRq.out _ (by first | exact C34.out.drew | exact (Chg.set C34.out (.inl hyl)).drew)).mono ?_; rintro e w5 ⟨V5, rfl, ho5, hc5⟩; obtain ⟨A5, c5, e5⟩ := ho5.form; subst e5; have hq := Chg.trans (S := fun _ => False) (w := w3) (by first | exact C34.out.drew | exact (Chg.set C34.out (.inl hyl)).drew) hc5 (fun _ _ h => h); have s5 := hc5.size; first | (have hx5 := HZa.out _ hc5; obtain ⟨e0, e1, e2, e3, e4, e5, e6, e7, e8, e9, e10, e11⟩ := cells12 hx5; have e12 := free_at hx5) | (have hx5 := HZb.out _ hc5; obtain ⟨e0, e1, e2, e3, e4, e5, e6, e7, e8, e9, e10, e11⟩ := cells12 hx5; have e12 := free_at hx5)))
              all_goals
                obtain ⟨w7, hw7⟩ : ∃ w7, w7 = (((((((((w5.setCell ⟨y, 1, none⟩ (.int .i64 (sn : Int))).setCell ⟨y, 2, none⟩ (.int .i64 rq.kind)).setCell ⟨y, 3, none⟩ (.int .i64 rq.life)).setCell ⟨y, 4, none⟩ (.int .i64 rq.number)).setCell ⟨y, 5, none⟩ (.int .i64 rq.place)).setCell ⟨y, 6, none⟩ (.string rq.key)).setCell ⟨y, 7, none⟩ (.string rq.to)).setCell ⟨y, 8, none⟩ (.slice A5 rq.value.length c5)).setCell ⟨y, 9, none⟩ (.int .i64 rq.limit)) := ⟨_, rfl⟩
                have hx7 : w7.heap[y]? = some (.cells #[.int .i64 1, .int .i64 (sn : Int), .int .i64 rq.kind, .int .i64 rq.life, .int .i64 rq.number, .int .i64 rq.place, .string rq.key, .string rq.to, .slice A5 rq.value.length c5, .int .i64 rq.limit, .int .i64 0, .slice none 0 0] 37 (0, 0)) := by rw [hw7]; exact set8h (set1h hx5)
                have HC7 : Hid (Chg (fun _ => False) w3 w7) := by show Chg _ _ _; rw [hw7]; exact set8 hyl (Chg.set hq (.inl hyl))
                have hb7 : Chg (fun k => k = y) w5 w7 := by rw [hw7]; exact (Chg.set (Chg.refl (fun k => k = y) w5) (.inr rfl)).trans set8c (fun _ _ h => h)
                have HR7 : Hid (bytesK.rel (fun j => y < j ∧ j < w7.heap.size) w7 rq.value [.slice A5 rq.value.length c5]) := by
                  have hs7 : w7.heap.size = w5.heap.size := by rw [hw7]; simp [World.setCell]
                  refine bytesK.mono (fun j hj => ?_) (bytesK.move (fun j hj => hb7.block j hj.2 (fun he => ?_)) ho5.reads)
                  · have h1 := hj.1; simp only [World.drew] at h1; exact ⟨by omega, by rw [hs7]; exact hj.2⟩
                  · have h1 := hj.1; simp only [World.drew] at h1; omega
                rw [← hw7]
                have s3 := HC3.out.size
                have s1 := HC.out.size
                clear hw7 hb7 hq ho5 hc5 hx5 e0 e1 e2 e3 e4 e5 e6 e7 e8 e9 e10 e11 e12 y0 y1 y2 y3 y4 y5 y6 y7 y8 y9 y10 y11 y12 p1 p2 p3 p4 p5 p6 p7 p8 p9 HRq HZa HZb HSk s5
                have CB : Hid (Chg (fun _ => False) wo w7) := HC3.out.trans HC7.out (fun _ _ h => h)
                obtain ⟨x0, x1, x2, x3, x4, x5, x6, x7, x8, x9, x10, x11⟩ := cells12 hx7
                have x12 := free_at hx7
                have z7 := lt_of _ hx7
                clear hx7
                go_wp2_with (at_builtin; refine ap_push' rfl (.tmp 64) (.tmp 66) 28 rfl evK w6.heap.size 37 144 _ Try.underlying28 info_ev rfl (by decide) (by decide) (.slice Av ((s.take k).filterMap (purge1 c a)).length cv) ((s.take k).filterMap (purge1 c a)) rfl (HO.out.up CB.out) ⟨1, sn, rq, 0, []⟩ _ _ rfl ?aG ?aR ?aL ?aB ?_; (case aG => simp); (case aR => exact ⟨_, _, rfl, bytesK.mono (fun j hj => ⟨by omega, by exact hj.2, fun he => by have := (HO.out.low _ he).2; omega⟩) (bytesK.move (fun j hj => rfl) HR7.out), nil_rel⟩); (case aL => omega); (case aB => omega); intro v8 w8 o8 ch8; obtain ⟨A8, c8, e8⟩ := o8.form; subst e8)
                go_roundw
                case rel => exact ⟨k + 1, by omega, by go_num, by rw [fm_some HX.out HN.out]; have o9 := o8; simp only [List.length_append, List.length_singleton] at o9; exact o9, (HC.out.trans CB.out (fun _ _ h => h)).trans ch8 (fun j hj he => by have := (HO.out.low j he).1; omega)⟩
                case measure => simp [intOf]; omega
          · by_cases hkx : kd = 3
            · subst hkx
              have hpb := HMy.out
              rw [may_of HM.out] at hpb
              simp only [Int.reduceEq, if_true, if_false, or_true, true_or, Bool.and_eq_true, decide_eq_true_eq] at hpb
              obtain ⟨pn, rfl⟩ := Int.eq_ofNat_of_zero_le hpb.1
              have hpn : pn < n1 := by have := hpb.2; have := L1.out; omega
              clear hpb
              have HStr : Hid (∀ W, Chg (fun _ => False) w3 W → Calls Try.prog 44 #[.slice AS st.length cS, .int .i64 n1, .func (.func 41) #[] #[.pointer (some ⟨xb, 0, none⟩)]] W fun e w' => ∃ v, e = .returned v ∧ OwnL fatesK 73 W.heap.size w' v (Ev.strikes c a st) ∧ Chg (fun _ => False) W w') := fun W hW => by
                have hC := HC3.out.trans hW (fun _ _ h => h)
                have hsz := (C6.out.trans HC.out (fun _ _ h => h)).size
                exact pstrikes_any (HD6.out.up (HC.out.trans hC (fun _ _ h => h))) L1.out h16 a HDm.out (fun j hj => Nat.lt_of_lt_of_le (Nat.lt_of_lt_of_le (HOK.out j hj) hsz) hC.size) st AS _ cS (strikesK.move (fun j hj => hC.block j (Nat.lt_of_lt_of_le (HOK.out j hj) hsz) (fun h => h)) HS.out) HFx.out.2
              go_wp2_with fail
              refine (HIs.out _ ((HC.out.trans HC3.out (fun _ _ h => h)).alloc _) pn hpn).mono ?_
              rintro e w4 ⟨rfl, rfl⟩
              cases hs : Ev.seen c a pn with
              | true =>
                have HSe := Lib.hid hs
                clear hs
                have HN : Hid (purge1 c a ⟨3, ss, ⟨rk, lf, nb, rp, ky, tt, vl, lm⟩, pn, st⟩ = some ⟨3, 0, Req.zero, pn, Ev.strikes c a st⟩) := by show _ = _; unfold purge1; rw [if_neg (by rw [HMy.out]; simp), if_neg (by simp), if_pos (by simp)]; simp only [Int.toNat_natCast]; rw [if_pos HSe.out]
                go_wp2_with fail
                refine (HStr.out _ ((Chg.refl _ w3).alloc _)).mono ?_
                rintro e w5 ⟨V5, rfl, ho5, hc5⟩
                obtain ⟨A5, c5, e5⟩ := ho5.form
                subst e5
                have hx5 := hc5.at_ (heap_new w3 _) (fun h => h)
                obtain ⟨x0, x1, x2, x3, x4, x5, x6, x7, x8, x9, x10, x11⟩ := cells12 hx5
                have x12 := free_at hx5
                have z5 := lt_of _ hx5
                have HR5 : Hid (strikesK.rel (fun j => w3.heap.size < j ∧ j < w5.heap.size) w5 (Ev.strikes c a st) [.slice A5 (Ev.strikes c a st).length c5]) := strikesK.mono (fun j hj => ⟨by have := hj.1; simp only [World.size_alloc] at this; omega, hj.2⟩) ho5.reads
                have CB : Hid (Chg (fun _ => False) wo w5) := (HC3.out.alloc _).trans hc5 (fun _ _ h => h)
                clear hx5 hc5 ho5
                go_wp2_with (at_builtin; refine ap_push' rfl (.tmp 92) (.tmp 94) 28 rfl evK w6.heap.size 37 144 _ Try.underlying28 info_ev rfl (by decide) (by decide) (.slice Av ((s.take k).filterMap (purge1 c a)).length cv) ((s.take k).filterMap (purge1 c a)) rfl (HO.out.up (CB.out.set (.inl (by have := HC3.out.size; omega)))) ⟨3, 0, Req.zero, pn, Ev.strikes c a st⟩ _ _ rfl ?aG ?aR ?aL ?aB ?_; (case aG => simp [World.setCell]); (case aR => exact ⟨_, _, rfl, nil_rel, strikesK.mono (fun j hj => ⟨by have := HC.out.size; have := HC3.out.size; omega, by (try simp only [World.setCell, Array.size_modify]); exact hj.2, fun he => by have := (HO.out.low _ he).2; have := HC3.out.size; omega⟩) (strikesK.move (fun j hj => heap_set_ne _ _ (by have := hj.1; omega)) HR5.out)⟩); (case aL => omega); (case aB => (try simp only [World.setCell, Array.size_modify]); have := HC.out.size; have := HC3.out.size; omega); intro v8 w8 o8 ch8; obtain ⟨A8, c8, e8⟩ := o8.form; subst e8)
                go_roundw
                case rel => exact ⟨k + 1, by omega, by go_num, by rw [fm_some HX.out HN.out]; have o9 := o8; simp only [List.length_append, List.length_singleton] at o9; exact o9, (HC.out.trans (CB.out.set (.inl (by have := HC3.out.size; omega))) (fun _ _ h => h)).trans ch8 (fun j hj he => by have := (HO.out.low j he).1; omega)⟩
                case measure => simp [intOf]; omega
              | false =>
                have HSe := Lib.hid hs
                clear hs
                have HN : Hid (purge1 c a ⟨3, ss, ⟨rk, lf, nb, rp, ky, tt, vl, lm⟩, pn, st⟩ = some ⟨5, 0, Req.zero, 0, Ev.strikes c a st⟩) := by show _ = _; unfold purge1; rw [if_neg (by rw [HMy.out]; simp), if_neg (by simp), if_pos (by simp)]; simp only [Int.toNat_natCast]; rw [if_neg (by rw [HSe.out]; simp)]
                go_wp2_with fail
                refine (HStr.out _ ((Chg.refl _ w3).alloc _)).mono ?_
                rintro e w5 ⟨V5, rfl, ho5, hc5⟩
                obtain ⟨A5, c5, e5⟩ := ho5.form
                subst e5
                have hx5 := hc5.at_ (heap_new w3 _) (fun h => h)
                obtain ⟨x0, x1, x2, x3, x4, x5, x6, x7, x8, x9, x10, x11⟩ := cells12 hx5
                have x12 := free_at hx5
                have z5 := lt_of _ hx5
                have HR5 : Hid (strikesK.rel (fun j => w3.heap.size < j ∧ j < w5.heap.size) w5 (Ev.strikes c a st) [.slice A5 (Ev.strikes c a st).length c5]) := strikesK.mono (fun j hj => ⟨by have := hj.1; simp only [World.size_alloc] at this; omega, hj.2⟩) ho5.reads
                have CB : Hid (Chg (fun _ => False) wo w5) := (HC3.out.alloc _).trans hc5 (fun _ _ h => h)
                clear hx5 hc5 ho5
                go_wp2_with (at_builtin; refine ap_push' rfl (.tmp 92) (.tmp 94) 28 rfl evK w6.heap.size 37 144 _ Try.underlying28 info_ev rfl (by decide) (by decide) (.slice Av ((s.take k).filterMap (purge1 c a)).length cv) ((s.take k).filterMap (purge1 c a)) rfl (HO.out.up (CB.out.set (.inl (by have := HC3.out.size; omega)))) ⟨5, 0, Req.zero, 0, Ev.strikes c a st⟩ _ _ rfl ?aG ?aR ?aL ?aB ?_; (case aG => simp [World.setCell]); (case aR => exact ⟨_, _, rfl, nil_rel, strikesK.mono (fun j hj => ⟨by have := HC.out.size; have := HC3.out.size; omega, by (try simp only [World.setCell, Array.size_modify]); exact hj.2, fun he => by have := (HO.out.low _ he).2; have := HC3.out.size; omega⟩) (strikesK.move (fun j hj => heap_set_ne _ _ (by have := hj.1; omega)) HR5.out)⟩); (case aL => omega); (case aB => (try simp only [World.setCell, Array.size_modify]); have := HC.out.size; have := HC3.out.size; omega); intro v8 w8 o8 ch8; obtain ⟨A8, c8, e8⟩ := o8.form; subst e8)
                go_roundw
                case rel => exact ⟨k + 1, by omega, by go_num, by rw [fm_some HX.out HN.out]; have o9 := o8; simp only [List.length_append, List.length_singleton] at o9; exact o9, (HC.out.trans (CB.out.set (.inl (by have := HC3.out.size; omega))) (fun _ _ h => h)).trans ch8 (fun j hj he => by have := (HO.out.low j he).1; omega)⟩
                case measure => simp [intOf]; omega
            · by_cases hkx : kd = 4
              · subst hkx
                have hpb := HMy.out
                rw [may_of HM.out] at hpb
                simp only [Int.reduceEq, if_true, if_false, or_true, true_or, Bool.and_eq_true, decide_eq_true_eq] at hpb
                obtain ⟨pn, rfl⟩ := Int.eq_ofNat_of_zero_le hpb.1
                have hpn : pn < n1 := by have := hpb.2; have := L1.out; omega
                clear hpb
                have HStr : Hid (∀ W, Chg (fun _ => False) w3 W → Calls Try.prog 44 #[.slice AS st.length cS, .int .i64 n1, .func (.func 41) #[] #[.pointer (some ⟨xb, 0, none⟩)]] W fun e w' => ∃ v, e = .returned v ∧ OwnL fatesK 73 W.heap.size w' v (Ev.strikes c a st) ∧ Chg (fun _ => False) W w') := fun W hW => by
                  have hC := HC3.out.trans hW (fun _ _ h => h)
                  have hsz := (C6.out.trans HC.out (fun _ _ h => h)).size
                  exact pstrikes_any (HD6.out.up (HC.out.trans hC (fun _ _ h => h))) L1.out h16 a HDm.out (fun j hj => Nat.lt_of_lt_of_le (Nat.lt_of_lt_of_le (HOK.out j hj) hsz) hC.size) st AS _ cS (strikesK.move (fun j hj => hC.block j (Nat.lt_of_lt_of_le (HOK.out j hj) hsz) (fun h => h)) HS.out) HFx.out.2
                go_wp2_with fail
                refine (HIs.out _ ((HC.out.trans HC3.out (fun _ _ h => h)).alloc _) pn hpn).mono ?_
                rintro e w4 ⟨rfl, rfl⟩
                cases hs : Ev.seen c a pn with
                | true =>
                  have HSe := Lib.hid hs
                  clear hs
                  have HN : Hid (purge1 c a ⟨4, ss, ⟨rk, lf, nb, rp, ky, tt, vl, lm⟩, pn, st⟩ = some ⟨4, 0, Req.zero, pn, Ev.strikes c a st⟩) := by show _ = _; unfold purge1; rw [if_neg (by rw [HMy.out]; simp), if_neg (by simp), if_pos (by simp)]; simp only [Int.toNat_natCast]; rw [if_pos HSe.out]
                  go_wp2_with fail
                  refine (HStr.out _ ((Chg.refl _ w3).alloc _)).mono ?_
                  rintro e w5 ⟨V5, rfl, ho5, hc5⟩
                  obtain ⟨A5, c5, e5⟩ := ho5.form
                  subst e5
                  have hx5 := hc5.at_ (heap_new w3 _) (fun h => h)
                  obtain ⟨x0, x1, x2, x3, x4, x5, x6, x7, x8, x9, x10, x11⟩ := cells12 hx5
                  have x12 := free_at hx5
                  have z5 := lt_of _ hx5
                  have HR5 : Hid (strikesK.rel (fun j => w3.heap.size < j ∧ j < w5.heap.size) w5 (Ev.strikes c a st) [.slice A5 (Ev.strikes c a st).length c5]) := strikesK.mono (fun j hj => ⟨by have := hj.1; simp only [World.size_alloc] at this; omega, hj.2⟩) ho5.reads
                  have CB : Hid (Chg (fun _ => False) wo w5) := (HC3.out.alloc _).trans hc5 (fun _ _ h => h)
                  clear hx5 hc5 ho5
                  go_wp2_with (at_builtin; refine ap_push' rfl (.tmp 92) (.tmp 94) 28 rfl evK w6.heap.size 37 144 _ Try.underlying28 info_ev rfl (by decide) (by decide) (.slice Av ((s.take k).filterMap (purge1 c a)).length cv) ((s.take k).filterMap (purge1 c a)) rfl (HO.out.up (CB.out.set (.inl (by have := HC3.out.size; omega)))) ⟨4, 0, Req.zero, pn, Ev.strikes c a st⟩ _ _ rfl ?aG ?aR ?aL ?aB ?_; (case aG => simp [World.setCell]); (case aR => exact ⟨_, _, rfl, nil_rel, strikesK.mono (fun j hj => ⟨by have := HC.out.size; have := HC3.out.size; omega, by (try simp only [World.setCell, Array.size_modify]); exact hj.2, fun he => by have := (HO.out.low _ he).2; have := HC3.out.size; omega⟩) (strikesK.move (fun j hj => heap_set_ne _ _ (by have := hj.1; omega)) HR5.out)⟩); (case aL => omega); (case aB => (try simp only [World.setCell, Array.size_modify]); have := HC.out.size; have := HC3.out.size; omega); intro v8 w8 o8 ch8; obtain ⟨A8, c8, e8⟩ := o8.form; subst e8)
                  go_roundw
                  case rel => exact ⟨k + 1, by omega, by go_num, by rw [fm_some HX.out HN.out]; have o9 := o8; simp only [List.length_append, List.length_singleton] at o9; exact o9, (HC.out.trans (CB.out.set (.inl (by have := HC3.out.size; omega))) (fun _ _ h => h)).trans ch8 (fun j hj he => by have := (HO.out.low j he).1; omega)⟩
                  case measure => simp [intOf]; omega
                | false =>
                  have HSe := Lib.hid hs
                  clear hs
                  have HN : Hid (purge1 c a ⟨4, ss, ⟨rk, lf, nb, rp, ky, tt, vl, lm⟩, pn, st⟩ = some ⟨5, 0, Req.zero, 0, Ev.strikes c a st⟩) := by show _ = _; unfold purge1; rw [if_neg (by rw [HMy.out]; simp), if_neg (by simp), if_pos (by simp)]; simp only [Int.toNat_natCast]; rw [if_neg (by rw [HSe.out]; simp)]
                  go_wp2_with fail
                  refine (HStr.out _ ((Chg.refl _ w3).alloc _)).mono ?_
                  rintro e w5 ⟨V5, rfl, ho5, hc5⟩
                  obtain ⟨A5, c5, e5⟩ := ho5.form
                  subst e5
                  have hx5 := hc5.at_ (heap_new w3 _) (fun h => h)
                  obtain ⟨x0, x1, x2, x3, x4, x5, x6, x7, x8, x9, x10, x11⟩ := cells12 hx5
                  have x12 := free_at hx5
                  have z5 := lt_of _ hx5
                  have HR5 : Hid (strikesK.rel (fun j => w3.heap.size < j ∧ j < w5.heap.size) w5 (Ev.strikes c a st) [.slice A5 (Ev.strikes c a st).length c5]) := strikesK.mono (fun j hj => ⟨by have := hj.1; simp only [World.size_alloc] at this; omega, hj.2⟩) ho5.reads
                  have CB : Hid (Chg (fun _ => False) wo w5) := (HC3.out.alloc _).trans hc5 (fun _ _ h => h)
                  clear hx5 hc5 ho5
                  go_wp2_with (at_builtin; refine ap_push' rfl (.tmp 92) (.tmp 94) 28 rfl evK w6.heap.size 37 144 _ Try.underlying28 info_ev rfl (by decide) (by decide) (.slice Av ((s.take k).filterMap (purge1 c a)).length cv) ((s.take k).filterMap (purge1 c a)) rfl (HO.out.up (CB.out.set (.inl (by have := HC3.out.size; omega)))) ⟨5, 0, Req.zero, 0, Ev.strikes c a st⟩ _ _ rfl ?aG ?aR ?aL ?aB ?_; (case aG => simp [World.setCell]); (case aR => exact ⟨_, _, rfl, nil_rel, strikesK.mono (fun j hj => ⟨by have := HC.out.size; have := HC3.out.size; omega, by (try simp only [World.setCell, Array.size_modify]); exact hj.2, fun he => by have := (HO.out.low _ he).2; have := HC3.out.size; omega⟩) (strikesK.move (fun j hj => heap_set_ne _ _ (by have := hj.1; omega)) HR5.out)⟩); (case aL => omega); (case aB => (try simp only [World.setCell, Array.size_modify]); have := HC.out.size; have := HC3.out.size; omega); intro v8 w8 o8 ch8; obtain ⟨A8, c8, e8⟩ := o8.form; subst e8)
                  go_roundw
                  case rel => exact ⟨k + 1, by omega, by go_num, by rw [fm_some HX.out HN.out]; have o9 := o8; simp only [List.length_append, List.length_singleton] at o9; exact o9, (HC.out.trans (CB.out.set (.inl (by have := HC3.out.size; omega))) (fun _ _ h => h)).trans ch8 (fun j hj he => by have := (HO.out.low j he).1; omega)⟩
                  case measure => simp [intOf]; omega
              · by_cases hkx : kd = 2
                · subst hkx
                  have HStr : Hid (∀ W, Chg (fun _ => False) w3 W → Calls Try.prog 44 #[.slice AS st.length cS, .int .i64 n1, .func (.func 41) #[] #[.pointer (some ⟨xb, 0, none⟩)]] W fun e w' => ∃ v, e = .returned v ∧ OwnL fatesK 73 W.heap.size w' v (Ev.strikes c a st) ∧ Chg (fun _ => False) W w') := fun W hW => by
                    have hC := HC3.out.trans hW (fun _ _ h => h)
                    have hsz := (C6.out.trans HC.out (fun _ _ h => h)).size
                    exact pstrikes_any (HD6.out.up (HC.out.trans hC (fun _ _ h => h))) L1.out h16 a HDm.out (fun j hj => Nat.lt_of_lt_of_le (Nat.lt_of_lt_of_le (HOK.out j hj) hsz) hC.size) st AS _ cS (strikesK.move (fun j hj => hC.block j (Nat.lt_of_lt_of_le (HOK.out j hj) hsz) (fun h => h)) HS.out) HFx.out.2
                  have HN : Hid (purge1 c a ⟨2, ss, ⟨rk, lf, nb, rp, ky, tt, vl, lm⟩, pl, st⟩ = some ⟨2, 0, Req.zero, 0, Ev.strikes c a st⟩) := by show _ = _; unfold purge1; rw [if_neg (by rw [HMy.out]; simp), if_neg (by simp), if_neg (by simp)]
                  go_wp2_with fail
                  refine (HStr.out _ ((Chg.refl _ w3).alloc _)).mono ?_
                  rintro e w5 ⟨V5, rfl, ho5, hc5⟩
                  obtain ⟨A5, c5, e5⟩ := ho5.form
                  subst e5
                  have hx5 := hc5.at_ (heap_new w3 _) (fun h => h)
                  obtain ⟨x0, x1, x2, x3, x4, x5, x6, x7, x8, x9, x10, x11⟩ := cells12 hx5
                  have x12 := free_at hx5
                  have z5 := lt_of _ hx5
                  have HR5 : Hid (strikesK.rel (fun j => w3.heap.size < j ∧ j < w5.heap.size) w5 (Ev.strikes c a st) [.slice A5 (Ev.strikes c a st).length c5]) := strikesK.mono (fun j hj => ⟨by have := hj.1; simp only [World.size_alloc] at this; omega, hj.2⟩) ho5.reads
                  have CB : Hid (Chg (fun _ => False) wo w5) := (HC3.out.alloc _).trans hc5 (fun _ _ h => h)
                  clear hx5 hc5 ho5
                  go_wp2_with (at_builtin; refine ap_push' rfl (.tmp 92) (.tmp 94) 28 rfl evK w6.heap.size 37 144 _ Try.underlying28 info_ev rfl (by decide) (by decide) (.slice Av ((s.take k).filterMap (purge1 c a)).length cv) ((s.take k).filterMap (purge1 c a)) rfl (HO.out.up (CB.out.set (.inl (by have := HC3.out.size; omega)))) ⟨2, 0, Req.zero, 0, Ev.strikes c a st⟩ _ _ rfl ?aG ?aR ?aL ?aB ?_; (case aG => simp [World.setCell]); (case aR => exact ⟨_, _, rfl, nil_rel, strikesK.mono (fun j hj => ⟨by have := HC.out.size; have := HC3.out.size; omega, by (try simp only [World.setCell, Array.size_modify]); exact hj.2, fun he => by have := (HO.out.low _ he).2; have := HC3.out.size; omega⟩) (strikesK.move (fun j hj => heap_set_ne _ _ (by have := hj.1; omega)) HR5.out)⟩); (case aL => omega); (case aB => (try simp only [World.setCell, Array.size_modify]); have := HC.out.size; have := HC3.out.size; omega); intro v8 w8 o8 ch8; obtain ⟨A8, c8, e8⟩ := o8.form; subst e8)
                  go_roundw
                  case rel => exact ⟨k + 1, by omega, by go_num, by rw [fm_some HX.out HN.out]; have o9 := o8; simp only [List.length_append, List.length_singleton] at o9; exact o9, (HC.out.trans (CB.out.set (.inl (by have := HC3.out.size; omega))) (fun _ _ h => h)).trans ch8 (fun j hj he => by have := (HO.out.low j he).1; omega)⟩
                  case measure => simp [intOf]; omega
                · by_cases hkx : kd = 5
                  · subst hkx
                    have HStr : Hid (∀ W, Chg (fun _ => False) w3 W → Calls Try.prog 44 #[.slice AS st.length cS, .int .i64 n1, .func (.func 41) #[] #[.pointer (some ⟨xb, 0, none⟩)]] W fun e w' => ∃ v, e = .returned v ∧ OwnL fatesK 73 W.heap.size w' v (Ev.strikes c a st) ∧ Chg (fun _ => False) W w') := fun W hW => by
                      have hC := HC3.out.trans hW (fun _ _ h => h)
                      have hsz := (C6.out.trans HC.out (fun _ _ h => h)).size
                      exact pstrikes_any (HD6.out.up (HC.out.trans hC (fun _ _ h => h))) L1.out h16 a HDm.out (fun j hj => Nat.lt_of_lt_of_le (Nat.lt_of_lt_of_le (HOK.out j hj) hsz) hC.size) st AS _ cS (strikesK.move (fun j hj => hC.block j (Nat.lt_of_lt_of_le (HOK.out j hj) hsz) (fun h => h)) HS.out) HFx.out.2
                    have HN : Hid (purge1 c a ⟨5, ss, ⟨rk, lf, nb, rp, ky, tt, vl, lm⟩, pl, st⟩ = some ⟨5, 0, Req.zero, 0, Ev.strikes c a st⟩) := by show _ = _; unfold purge1; rw [if_neg (by rw [HMy.out]; simp), if_neg (by simp), if_neg (by simp)]
                    go_wp2_with fail
                    refine (HStr.out _ ((Chg.refl _ w3).alloc _)).mono ?_
                    rintro e w5 ⟨V5, rfl, ho5, hc5⟩
                    obtain ⟨A5, c5, e5⟩ := ho5.form
                    subst e5
                    have hx5 := hc5.at_ (heap_new w3 _) (fun h => h)
                    obtain ⟨x0, x1, x2, x3, x4, x5, x6, x7, x8, x9, x10, x11⟩ := cells12 hx5
                    have x12 := free_at hx5
                    have z5 := lt_of _ hx5
                    have HR5 : Hid (strikesK.rel (fun j => w3.heap.size < j ∧ j < w5.heap.size) w5 (Ev.strikes c a st) [.slice A5 (Ev.strikes c a st).length c5]) := strikesK.mono (fun j hj => ⟨by have := hj.1; simp only [World.size_alloc] at this; omega, hj.2⟩) ho5.reads
                    have CB : Hid (Chg (fun _ => False) wo w5) := (HC3.out.alloc _).trans hc5 (fun _ _ h => h)
                    clear hx5 hc5 ho5
                    go_wp2_with (at_builtin; refine ap_push' rfl (.tmp 92) (.tmp 94) 28 rfl evK w6.heap.size 37 144 _ Try.underlying28 info_ev rfl (by decide) (by decide) (.slice Av ((s.take k).filterMap (purge1 c a)).length cv) ((s.take k).filterMap (purge1 c a)) rfl (HO.out.up (CB.out.set (.inl (by have := HC3.out.size; omega)))) ⟨5, 0, Req.zero, 0, Ev.strikes c a st⟩ _ _ rfl ?aG ?aR ?aL ?aB ?_; (case aG => simp [World.setCell]); (case aR => exact ⟨_, _, rfl, nil_rel, strikesK.mono (fun j hj => ⟨by have := HC.out.size; have := HC3.out.size; omega, by (try simp only [World.setCell, Array.size_modify]); exact hj.2, fun he => by have := (HO.out.low _ he).2; have := HC3.out.size; omega⟩) (strikesK.move (fun j hj => heap_set_ne _ _ (by have := hj.1; omega)) HR5.out)⟩); (case aL => omega); (case aB => (try simp only [World.setCell, Array.size_modify]); have := HC.out.size; have := HC3.out.size; omega); intro v8 w8 o8 ch8; obtain ⟨A8, c8, e8⟩ := o8.form; subst e8)
                    go_roundw
                    case rel => exact ⟨k + 1, by omega, by go_num, by rw [fm_some HX.out HN.out]; have o9 := o8; simp only [List.length_append, List.length_singleton] at o9; exact o9, (HC.out.trans (CB.out.set (.inl (by have := HC3.out.size; omega))) (fun _ _ h => h)).trans ch8 (fun j hj he => by have := (HO.out.low j he).1; omega)⟩
                    case measure => simp [intOf]; omega
                  · have := may_kinds HMy.out
                    simp only at this
                    omega
      · go_wp2
        go_ret
        have hkk : k = s.length := by omega
        have ho := HO.out
        rw [hkk, List.take_length] at ho
        exact ⟨_, rfl, by rw [hkk, List.take_length]; exact ho.base_le C6.out.size, C6.out.trans HC.out (fun _ _ h => h)⟩
end
end Go.Proofs.Ytchlolgfahgdeaa.Epu
