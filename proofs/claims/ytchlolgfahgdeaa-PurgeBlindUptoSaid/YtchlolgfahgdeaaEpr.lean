/- The reference's Purge by contract. Conditions: what comes in reads so. -/
import Derived.Test.YtchlolgfahgdeaaEr
import Derived.Test.YtchlolgfahgdeaaEst
import Derived.Test.YtchlolgfahgdeaaSto
import Derived.Deep.RegionHeld3
set_option linter.unusedVariables false
set_option linter.unusedSimpArgs false
namespace Go.Proofs.Ytchlolgfahgdeaa.Epr
open Go.RowKit Go.Proofs.Ytchlolgfahgdeaa.Lib1 Go.Proofs.Ytchlolgfahgdeaa.Rel Go.Proofs.Ytchlolgfahgdeaa.Own Go.Proofs.Ytchlolgfahgdeaa.Ev Go.Proofs.Ytchlolgfahgdeaa.Ek Go.Proofs.Ytchlolgfahgdeaa.Ec Go.Proofs.Ytchlolgfahgdeaa.Em Go.Proofs.Ytchlolgfahgdeaa.En Go.Proofs.Ytchlolgfahgdeaa.Er Go.Proofs.Ytchlolgfahgdeaa.Est Go.Proofs.Ytchlolgfahgdeaa.Sto Go.Proofs.Ytchlolgfahgdeaa.Lat Go.Proofs.Ytchlolgfahgdeaa.Lbl Go.Proofs.Ytchlolgfahgdeaa.Lbw Go.Proofs.Ytchlolgfahgdeaa.Lck Go.Proofs.Ytchlolgfahgdeaa.Lmay

theorem fm_none {α β : Type} {f : α → Option β} {s : List α} {k : Nat} {x : α} (hx : s[k]? = some x) (h : f x = none) : (s.take (k + 1)).filterMap f = (s.take k).filterMap f := by
  rw [take_snoc hx, List.filterMap_append]; simp [h]
theorem fm_some {α β : Type} {f : α → Option β} {s : List α} {k : Nat} {x : α} {y : β} (hx : s[k]? = some x) (h : f x = some y) : (s.take (k + 1)).filterMap f = (s.take k).filterMap f ++ [y] := by
  rw [take_snoc hx, List.filterMap_append]; simp [h]
theorem fm_len {α β : Type} (f : α → Option β) (s : List α) (k : Nat) (hk : k ≤ s.length) : ((s.take k).filterMap f).length ≤ k := by
  have := List.length_filterMap_le f (s.take k)
  rw [List.length_take] at this
  omega
theorem may_ses_bd {c : Cfg} (hm : mayB c = true) {i : Nat} (hi : i < c.sessions.length) : ∃ b : Nat, c.sessions.getD i 0 = (b : Int) ∧ b < c.labels.length := by
  have h : inR (c.sessions.getD i 0) ((c.labels.length : Int) - 1) = true := by
    cases hq : inR (c.sessions.getD i 0) ((c.labels.length : Int) - 1) with
    | true => rfl
    | false => rw [may_one hi hq] at hm; cases hm
  unfold inR at h
  simp only [Bool.and_eq_true, decide_eq_true_eq] at h
  exact ⟨(c.sessions.getD i 0).toNat, by omega, by omega⟩
theorem may_16 {c : Cfg} (hm : mayB c = true) : c.labels.length ≤ 16 := by
  have h : chk c.labels = 0 := by
    by_cases hq : chk c.labels = 0
    · exact hq
    · rw [may_chk hq] at hm; cases hm
  exact (chk_zero.1 h).2.1

section
variable {ok : Nat → Prop} {w : World} {A1 A2 A3 : Option Addr} {n1 n2 n3 c1 c2 c3 : Nat} {c : Cfg}
theorem set12 {w0 w : World} {b : Nat} {a0 a1 a2 a3 a4 a5 a6 a7 a8 a9 a10 a11 : Value} (hb : w0.heap.size ≤ b) (h : Chg (fun _ => False) w0 w) : Chg (fun _ => False) w0 ((((((((((((w.setCell ⟨b, 0, none⟩ a0).setCell ⟨b, 1, none⟩ a1).setCell ⟨b, 2, none⟩ a2).setCell ⟨b, 3, none⟩ a3).setCell ⟨b, 4, none⟩ a4).setCell ⟨b, 5, none⟩ a5).setCell ⟨b, 6, none⟩ a6).setCell ⟨b, 7, none⟩ a7).setCell ⟨b, 8, none⟩ a8).setCell ⟨b, 9, none⟩ a9).setCell ⟨b, 10, none⟩ a10).setCell ⟨b, 11, none⟩ a11) :=
  ((((((((((((h.set (.inl hb)).set (.inl hb)).set (.inl hb)).set (.inl hb)).set (.inl hb)).set (.inl hb)).set (.inl hb)).set (.inl hb)).set (.inl hb)).set (.inl hb)).set (.inl hb)).set (.inl hb))
theorem set12c {w : World} {b : Nat} {a0 a1 a2 a3 a4 a5 a6 a7 a8 a9 a10 a11 : Value} : Chg (fun k => k = b) w ((((((((((((w.setCell ⟨b, 0, none⟩ a0).setCell ⟨b, 1, none⟩ a1).setCell ⟨b, 2, none⟩ a2).setCell ⟨b, 3, none⟩ a3).setCell ⟨b, 4, none⟩ a4).setCell ⟨b, 5, none⟩ a5).setCell ⟨b, 6, none⟩ a6).setCell ⟨b, 7, none⟩ a7).setCell ⟨b, 8, none⟩ a8).setCell ⟨b, 9, none⟩ a9).setCell ⟨b, 10, none⟩ a10).setCell ⟨b, 11, none⟩ a11) :=
  (((((((((((((Chg.refl (fun k => k = b) w).set (.inr rfl)).set (.inr rfl)).set (.inr rfl)).set (.inr rfl)).set (.inr rfl)).set (.inr rfl)).set (.inr rfl)).set (.inr rfl)).set (.inr rfl)).set (.inr rfl)).set (.inr rfl)).set (.inr rfl))
theorem set12h {w : World} {b T : Nat} {a0 a1 a2 a3 a4 a5 a6 a7 a8 a9 a10 a11 z0 z1 z2 z3 z4 z5 z6 z7 z8 z9 z10 z11 : Value} (h : w.heap[b]? = some (.cells #[z0, z1, z2, z3, z4, z5, z6, z7, z8, z9, z10, z11] T (0, 0))) : ((((((((((((w.setCell ⟨b, 0, none⟩ a0).setCell ⟨b, 1, none⟩ a1).setCell ⟨b, 2, none⟩ a2).setCell ⟨b, 3, none⟩ a3).setCell ⟨b, 4, none⟩ a4).setCell ⟨b, 5, none⟩ a5).setCell ⟨b, 6, none⟩ a6).setCell ⟨b, 7, none⟩ a7).setCell ⟨b, 8, none⟩ a8).setCell ⟨b, 9, none⟩ a9).setCell ⟨b, 10, none⟩ a10).setCell ⟨b, 11, none⟩ a11).heap[b]? = some (.cells #[a0, a1, a2, a3, a4, a5, a6, a7, a8, a9, a10, a11] T (0, 0)) := by
  have := (heap_set (heap_set (heap_set (heap_set (heap_set (heap_set (heap_set (heap_set (heap_set (heap_set (heap_set (heap_set h 0 a0) 1 a1) 2 a2) 3 a3) 4 a4) 5 a5) 6 a6) 7 a7) 8 a8) 9 a9) 10 a10) 11 a11)
  simpa using this
theorem nil_rel {α : Type} {b : Nat} {d : Kd α} {ok : Nat → Prop} {w : World} : (Kd.slice b d).rel ok w [] [.slice none 0 0] := ⟨none, 0, [], rfl, ⟨by simp, Nat.le_refl _, fun _ => rfl, fun h => absurd h (Nat.lt_irrefl _)⟩, fun i x h => by simp at h⟩
def PuRel (w1 : World) (f : Ev → Option Ev) (s : List Ev) (v i : Value) (wr : World) : Prop := ∃ k : Nat, k ≤ s.length ∧ i = .int .i64 k ∧ OwnL evK 37 w1.heap.size wr v ((s.take k).filterMap f) ∧ Chg (fun _ => False) w1 wr

set_option maxRecDepth 100000 in
set_option maxHeartbeats 40000000 in
theorem rpurge_in (h : CfgAt ok w A1 A2 A3 n1 n2 n3 c1 c2 c3 c) (hok : ∀ k, ok k → k < w.heap.size) (hcf : cfgFits c) (hm : mayB c = true) (a : Nat) (ha : a < n1) (s : List Ev) (A : Option Addr) (n cc : Nat) (hr : evsK.rel ok w s [.slice A n cc]) (hf : evsK.fits s) :
    Calls Try.prog 21 #[.agg #[.slice A1 n1 c1, .slice A2 n2 c2, .slice A3 n3 c3], .int .i64 a, .slice A n cc] w fun e w' => ∃ v, e = .returned v ∧ OwnL evK 37 w.heap.size w' v (s.filterMap (purge1 c a)) ∧ Chg (fun _ => False) w w' := by
  have hl : s.length * 144 ≤ 140737488351232 := hf.1
  obtain ⟨A0, c0, e0, -⟩ := slice_form hr
  simp only [List.cons.injEq, Value.slice.injEq, and_true] at e0
  obtain ⟨rfl, rfl, rfl⟩ := e0
  have HH : Hid (∀ w', Chg (fun _ => False) w w' → CfgAt ok w' A1 A2 A3 n1 n2 n3 c1 c2 c3 c) := fun w' hc => cfg_up h hok hc
  have HMC : Hid (∀ w', Chg (fun _ => False) w w' → Calls Try.prog 25 #[.agg #[.slice A1 n1 c1, .slice A2 n2 c2, .slice A3 n3 c3]] w' fun e w1 => e = .returned (.bool true) ∧ Chg (fun _ => False) w' w1) :=
    fun w' hc => (mayConfig_any (cfg_up h hok hc) (fun k hk => Nat.lt_of_lt_of_le (hok k hk) hc.size) hcf).mono fun _ _ ⟨he, hw⟩ => ⟨he.trans (ret_bool hm), hw⟩
  have HR : Hid (∀ w', Chg (fun _ => False) w w' → evsK.rel ok w' s [.slice A s.length cc]) := fun w' hc => evsK.move (fun k hk => hc.block k (hok k hk) (fun h => h)) hr
  have HOK := Lib.hid hok
  have HF := Lib.hid hf
  have HCF := Lib.hid hcf
  have HM := Lib.hid hm
  have L1 := Lib.hid h.l1
  have L3 := Lib.hid h.l3
  have m3 := h.m3
  have h16 : n1 ≤ 16 := by rw [← h.l1]; exact may_16 hm
  clear hr hok hf h hcf hm
  obtain ⟨w1, hw1⟩ : ∃ w1, w1 = w.alloc (.cells #[.slice A1 n1 c1, .slice A2 n2 c2, .slice A3 n3 c3] 27) := ⟨_, rfl⟩
  have HW1 := Lib.hid hw1
  have C1 : Hid (Chg (fun _ => False) w w1) := by show Chg _ _ _; rw [hw1]; exact (Chg.refl _ w).alloc _
  have B1 : Hid (w1.heap[w.heap.size]? = some (.cells #[.slice A1 n1 c1, .slice A2 n2 c2, .slice A3 n3 c3] 27 (0, 0))) := by show _ = _; rw [hw1]; exact heap_new w _
  clear hw1
  have i1 : (a : Int) < (n1 : Int) := by omega
  have i0 : decide ((a : Int) < 0) = false := by simp
  have i2 : decide ((n1 : Int) ≤ (a : Int)) = false := by simp; omega
  have i3 : decide (n1 ≤ a) = false := by simp; omega
  go_enter Try.func21, Try.ntmps21
  go_wp2_with fail
  refine (HMC.out _ ((Chg.refl _ w).alloc _)).mono ?_
  rintro e w2 ⟨rfl, hc2⟩
  rw [← HW1.out] at hc2
  have b2 := hc2.at_ B1.out (fun h => h)
  have k0 := cell_at b2 0 rfl
  have k1 := cell_at b2 1 rfl
  have k2 := cell_at b2 2 rfl
  have HC2 := Lib.hid hc2
  clear hc2 b2
  go_wp2
  clear k0 k1 k2
  go_loopw [7, 8] (fun v i wr => PuRel w1 (purge1 c a) s v i wr) (fun _ i _ => s.length - (intOf i).toNat)
  case atStart => exact ⟨0, Nat.zero_le _, rfl, OwnL.nil _ _ _ _, HC2.out⟩
  case round =>
    obtain ⟨wo, rfl⟩ : ∃ wo : World, wo = wr := ⟨_, rfl⟩
    obtain ⟨k, hk, rfl, ho, hc⟩ := hrel
    have hfl := fm_len (purge1 c a) s k hk
    have HO := Lib.hid ho
    obtain ⟨Av, cv, ev⟩ := ho.form
    subst ev
    have HC := Lib.hid hc
    have b1 := hc.at_ B1.out (fun h => h)
    have z1 := lt_of _ b1
    have k0 := cell_at b1 0 rfl
    have k1 := cell_at b1 1 rfl
    have k2 := cell_at b1 2 rfl
    clear ho hc b1
    by_cases hlt : k < s.length
    · have hx : s[k]? = some s[k] := List.getElem?_eq_getElem hlt
      have HX := Lib.hid hx
      obtain ⟨g, off, cs, rfl, hg, hrel, hra⟩ := elem_of _ ok (HR.out _ (C1.out.trans HC.out (fun _ _ h => h))) hx
      have HFx := Lib.hid (fits_at HF.out hx)
      generalize s[k] = x at *
      obtain ⟨V, S, rfl, hV, hS⟩ := hrel
      obtain ⟨AV, cV, eV, -⟩ := slice_form hV
      obtain ⟨AS, cS, eS, -⟩ := slice_form hS
      simp only [List.cons.injEq, and_true] at eV eS
      subst eV eS
      obtain ⟨p0, p1, p2, p3, p4, p5, p6, p7, p8, p9, p10, p11⟩ := range12 (o := off + k * 12) hra
      have HV := Lib.hid hV
      have HS := Lib.hid hS
      have hgl := HOK.out g hg
      have HMay : Hid (∀ W, Chg (fun _ => False) w W → _) := fun W hW => rmayE_any (HH.out W hW) (fun j hj => Nat.lt_of_lt_of_le (HOK.out j hj) hW.size) HCF.out x AV AS x.req.value.length cV x.strikes.length cS
      clear hra hx hg hV hS
      obtain ⟨kd, ss, ⟨rk, lf, nb, rp, ky, tt, vl, lm⟩, pl, st⟩ := x
      simp only [evCs] at *
      have i4 : (k : Int) < (s.length : Int) := by omega
      have hwb := (C1.out.trans HC.out (fun _ _ h => h)).alloc (.cells #[.int .i64 kd, .int .i64 ss, .int .i64 rk, .int .i64 lf, .int .i64 nb, .int .i64 rp, .string ky, .string tt, .slice AV vl.length cV, .int .i64 lm, .int .i64 pl, .slice AS st.length cS] 37)
      go_wp2_with fail
      refine (HMay.out _ hwb).mono ?_
      rintro e w3 ⟨rfl, hc3⟩
      have b1 := hc3.at_ (k := wo.heap.size) (heap_new _ _) (fun h => h)
      have b2 := hc3.at_ (heap_old _ (HC.out.at_ B1.out (fun h => h))) (fun h => h)
      clear p0 p1 p2 p3 p4 p5 p6 p7 p8 p9 p10 p11 k0 k1 k2
      obtain ⟨p0, p1, p2, p3, p4, p5, p6, p7, p8, p9, p10, p11⟩ := cells12 b1
      have k0 := cell_at b2 0 rfl
      have k1 := cell_at b2 1 rfl
      have k2 := cell_at b2 2 rfl
      have z3 := lt_of _ b1
      have z2 := lt_of _ b2
      have HC3 := Lib.hid (((Chg.refl (fun _ => False) wo).alloc _).trans hc3 (fun _ _ h => h))
      clear b1 b2 hc3 hwb
      cases hmay : may c ⟨kd, ss, ⟨rk, lf, nb, rp, ky, tt, vl, lm⟩, pl, st⟩ with
      | false =>
        have HN : Hid (purge1 c a ⟨kd, ss, ⟨rk, lf, nb, rp, ky, tt, vl, lm⟩, pl, st⟩ = none) := by show _ = _; unfold purge1; rw [if_pos hmay]
        clear hmay
        go_wp2
        go_roundw
        case rel => exact ⟨k + 1, by omega, by go_num, by rw [fm_none HX.out HN.out]; exact HO.out.up HC3.out, HC.out.trans HC3.out (fun _ _ h => h)⟩
        case measure => simp [intOf]; omega
      | true =>
        have HMy := Lib.hid hmay
        clear hmay
        by_cases hk1 : kd = 1
        · subst hk1
          have hsb := HMy.out
          rw [may_of HM.out] at hsb
          simp only [if_true, Bool.and_eq_true, decide_eq_true_eq] at hsb
          obtain ⟨sn, rfl⟩ := Int.eq_ofNat_of_zero_le hsb.1
          have hsn : sn < n3 := by have := hsb.2; have := L3.out; omega
          obtain ⟨b, hb, hbn⟩ := may_ses_bd HM.out (i := sn) (by have := L3.out; omega)
          rw [L1.out] at hbn
          obtain ⟨gs, os, rfl, hgs, hcell⟩ := rd_is (HH.out _ ((C1.out.trans HC.out (fun _ _ h => h)).trans HC3.out (fun _ _ h => h))).r3 (by omega)
          have q0 := hcell sn hsn
          rw [hb] at q0
          have HSb := Lib.hid hb
          clear hsb hcell hb
          have j1 : (sn : Int) < (n3 : Int) := by omega
          have j0 : (0 : Int) ≤ (sn : Int) := by omega
          have HSee : Hid (∀ W, Chg (fun _ => False) w3 W → Calls Try.prog 26 #[.agg #[.slice A1 n1 c1, .slice A2 n2 c2, .slice (some ⟨gs, os, none⟩) n3 c3], .int .i64 a, .int .i64 b] W fun e w' => e = .returned (.bool (Ev.seen c a b)) ∧ Chg (fun _ => False) W w') :=
            fun W hW => seen_any (HH.out W (((C1.out.trans HC.out (fun _ _ h => h)).trans HC3.out (fun _ _ h => h)).trans hW (fun _ _ h => h))) (fun j hj => Nat.lt_of_lt_of_le (HOK.out j hj) (((C1.out.trans HC.out (fun _ _ h => h)).trans HC3.out (fun _ _ h => h)).trans hW (fun _ _ h => h)).size) a b ha hbn
          go_wp2_with fail
          have y0 := fun p => cell_later k0 p
          have y1 := fun p => cell_later k1 p
          have y2 := fun p => cell_later k2 p
          have y3 := fun p => cell_later p1 p
          have y4 := fun p => cell_later q0 p
          refine wp_region_later (by kernel_rfl) (by kernel_rfl) ?_
          repeat (any_goals (go_big_quiet_step (first | (go_at_call 26; with_reducible exact of_later (HSee.out _ (Later.chg _))))))
          refine wpQuiet_nil ?_
          intro w4 hw'
          obtain ⟨⟨w9, hc4⟩, hw''⟩ := hw'
          subst hw''
          have HC4 := Lib.hid (HC3.out.trans hc4 (fun _ _ h => h))
          clear y0 y1 y2 y3 y4 q0 HSee
          have hp : ∀ j v, w3.cell? ⟨wo.heap.size, j, none⟩ = some v → w4.cell? ⟨wo.heap.size, j, none⟩ = some v := fun j v h => (World.cell?_of_block (hc4.block wo.heap.size z3 (fun h => h)) (a := ⟨wo.heap.size, j, none⟩)).trans h
          have hk : ∀ j v, w3.cell? ⟨w.heap.size, j, none⟩ = some v → w4.cell? ⟨w.heap.size, j, none⟩ = some v := fun j v h => (World.cell?_of_block (hc4.block w.heap.size z2 (fun h => h)) (a := ⟨w.heap.size, j, none⟩)).trans h
          have z4 : wo.heap.size < w4.heap.size := Nat.lt_of_lt_of_le z3 hc4.size
          cases hsee : Ev.seen c a b with
          | false =>
            have HN : Hid (purge1 c a ⟨1, sn, ⟨rk, lf, nb, rp, ky, tt, vl, lm⟩, pl, st⟩ = none) := by show _ = _; unfold purge1; rw [if_neg (by rw [HMy.out]; simp), if_pos rfl]; simp only [Int.toNat_natCast]; rw [HSb.out, Int.toNat_natCast, hsee]; rfl
            clear hsee hp hk hc4 p0 p1 p2 p3 p4 p5 p6 p7 p8 p9 p10 p11 k0 k1 k2
            go_wp2
            go_roundw
            case rel => exact ⟨k + 1, by omega, by go_num, by rw [fm_none HX.out HN.out]; exact HO.out.up HC4.out, HC.out.trans HC4.out (fun _ _ h => h)⟩
            case measure => simp [intOf]; omega
          | true =>
            have HN : Hid (purge1 c a ⟨1, sn, ⟨rk, lf, nb, rp, ky, tt, vl, lm⟩, pl, st⟩ = some ⟨1, sn, Ev.req ⟨rk, lf, nb, rp, ky, tt, vl, lm⟩, 0, []⟩) := by show _ = _; unfold purge1; rw [if_neg (by rw [HMy.out]; simp), if_pos rfl]; simp only [Int.toNat_natCast]; rw [HSb.out, Int.toNat_natCast, hsee]; rfl
            replace p0 := hp _ _ p0
            replace p1 := hp _ _ p1
            replace p2 := hp _ _ p2
            replace p3 := hp _ _ p3
            replace p4 := hp _ _ p4
            replace p5 := hp _ _ p5
            replace p6 := hp _ _ p6
            replace p7 := hp _ _ p7
            replace p8 := hp _ _ p8
            replace p9 := hp _ _ p9
            replace p10 := hp _ _ p10
            replace p11 := hp _ _ p11
            obtain ⟨rq, hrq⟩ : ∃ rq, rq = Ev.req ⟨rk, lf, nb, rp, ky, tt, vl, lm⟩ := ⟨_, rfl⟩
            rw [← hrq] at HN
            have HRq : Hid (∀ W, Chg (fun _ => False) w4 W → Calls Try.prog 45 #[.agg #[.int .i64 rk, .int .i64 lf, .int .i64 nb, .int .i64 rp, .string ky, .string tt, .slice AV vl.length cV, .int .i64 lm]] W fun e w' => ∃ V', e = .returned (.agg #[.int .i64 rq.kind, .int .i64 rq.life, .int .i64 rq.number, .int .i64 rq.place, .string rq.key, .string rq.to, V', .int .i64 rq.limit]) ∧ OwnL u8K 5 W.heap.size w' V' rq.value ∧ Chg (fun _ => False) W w') := fun W hW => by
              have hC := HC4.out.trans hW (fun _ _ h => h)
              have hsz := (C1.out.trans HC.out (fun _ _ h => h)).size
              rw [hrq]
              exact rreq_any ⟨rk, lf, nb, rp, ky, tt, vl, lm⟩ _ (bytesK.move (fun j hj => hC.block j (Nat.lt_of_lt_of_le (HOK.out j hj) hsz) (fun h => h)) HV.out) (fun j hj => Nat.lt_of_lt_of_le (Nat.lt_of_lt_of_le (HOK.out j hj) hsz) hC.size) HFx.out.1.2.2
            have HSk : Hid (∀ w', Chg (fun q => (Value.slice Av ((s.take k).filterMap (purge1 c a)).length cv).ownBlock = some q) w4 w' → w'.cell? ⟨wo.heap.size, 1, none⟩ = some (.int .i64 (sn : Int)) ∧ w'.cell? ⟨wo.heap.size, 2, none⟩ = some (.int .i64 rk) ∧ w'.cell? ⟨wo.heap.size, 3, none⟩ = some (.int .i64 lf) ∧ w'.cell? ⟨wo.heap.size, 4, none⟩ = some (.int .i64 nb) ∧ w'.cell? ⟨wo.heap.size, 5, none⟩ = some (.int .i64 rp) ∧ w'.cell? ⟨wo.heap.size, 6, none⟩ = some (.string ky) ∧ w'.cell? ⟨wo.heap.size, 7, none⟩ = some (.string tt) ∧ w'.cell? ⟨wo.heap.size, 8, none⟩ = some (.slice AV vl.length cV) ∧ w'.cell? ⟨wo.heap.size, 9, none⟩ = some (.int .i64 lm)) := fun w' hw => by
              have hmv : ∀ j v, w4.cell? ⟨wo.heap.size, j, none⟩ = some v → w'.cell? ⟨wo.heap.size, j, none⟩ = some v := fun j v h => (World.cell?_of_block (hw.block wo.heap.size z4 (fun he => by have := (HO.out.low _ he).2; omega)) (a := ⟨wo.heap.size, j, none⟩)).trans h
              exact ⟨hmv _ _ p1, hmv _ _ p2, hmv _ _ p3, hmv _ _ p4, hmv _ _ p5, hmv _ _ p6, hmv _ _ p7, hmv _ _ p8, hmv _ _ p9⟩
            clear hsee hp hk hc4 k0 k1 k2 hrq
            go_wp2_with fail
            go_region_held3 (fun w' => w'.cell? ⟨wo.heap.size, 1, none⟩ = some (.int .i64 (sn : Int)) ∧ w'.cell? ⟨wo.heap.size, 2, none⟩ = some (.int .i64 rk) ∧ w'.cell? ⟨wo.heap.size, 3, none⟩ = some (.int .i64 lf) ∧ w'.cell? ⟨wo.heap.size, 4, none⟩ = some (.int .i64 nb) ∧ w'.cell? ⟨wo.heap.size, 5, none⟩ = some (.int .i64 rp) ∧ w'.cell? ⟨wo.heap.size, 6, none⟩ = some (.string ky) ∧ w'.cell? ⟨wo.heap.size, 7, none⟩ = some (.string tt) ∧ w'.cell? ⟨wo.heap.size, 8, none⟩ = some (.slice AV vl.length cV) ∧ w'.cell? ⟨wo.heap.size, 9, none⟩ = some (.int .i64 lm))
              (first | with_reducible exact HSk.out _ (Chg.refl _ w4).drew | with_reducible exact HSk.out _ hq | with_reducible exact HSk.out _ (hq.alloc _) | with_reducible exact HSk.out _ hq6)
              (first
                | (go_at_call 45; refine (HRq.out _ (Chg.refl _ w4).drew).mono ?_; rintro e w5 ⟨V5, rfl, ho5, hc5⟩; obtain ⟨A5, c5, e5⟩ := ho5.form; subst e5; have hqF := (Chg.refl (fun _ => False) w4).drew.trans hc5 (fun _ _ h => h); have s5 := hqF.size; have s4 := HC4.out.size; have s1 := HC.out.size; have s9 : w4.heap.size = w4.drew.heap.size := rfl; rw [← s9] at ho5; have hq := hqF.mono (T := fun q => (Value.slice Av ((s.take k).filterMap (purge1 c a)).length cv).ownBlock = some q) (fun _ _ h => h.elim))
                | (refine step_push rfl (.tmp 51) (.tmp 58) 28 rfl evK w1.heap.size 37 144 _ Try.underlying28 info_ev rfl (by decide) (by decide) (.slice Av ((s.take k).filterMap (purge1 c a)).length cv) ((s.take k).filterMap (purge1 c a)) rfl (HO.out.up (HC4.out.trans (hqF.alloc _) (fun _ _ h => h))) ⟨1, sn, rq, 0, []⟩ _ _ rfl (heap_new _ _) ?aR ?aL ?aB ?_; (case aR => exact ⟨_, _, rfl, bytesK.mono (fun j hj => ⟨by omega, by simp only [World.size_alloc]; omega, fun he => by have := (HO.out.low _ he).2; omega⟩) (bytesK.move (fun j hj => Below.heap_alloc _ _ _ hj.2) ho5.reads), nil_rel⟩); (case aL => omega); (case aB => simp only [World.size_alloc]; omega); intro g6 cap6 w6 o6 ch6; have hq6 := (hq.alloc _).trans ch6 (fun _ _ h => h)))
            go_wp2
            go_roundw
            case rel => exact ⟨k + 1, by omega, by go_num, by rw [fm_some HX.out HN.out]; exact o6, (HC.out.trans HC4.out (fun _ _ h => h)).trans hq6 (fun j hj he => by have := (HO.out.low j he).1; omega)⟩
            case measure => simp [intOf]; omega
        · by_cases hkx : kd = 3
          · subst hkx
            have hpb := HMy.out
            rw [may_of HM.out] at hpb
            simp only [Int.reduceEq, if_true, if_false, or_true, true_or, Bool.and_eq_true, decide_eq_true_eq] at hpb
            obtain ⟨pn, rfl⟩ := Int.eq_ofNat_of_zero_le hpb.1
            have hpn : pn < n1 := by have := hpb.2; have := L1.out; omega
            clear hpb
            have HStr : Hid (∀ W, Chg (fun _ => False) w3 W → Calls Try.prog 46 #[.agg #[.slice A1 n1 c1, .slice A2 n2 c2, .slice A3 n3 c3], .int .i64 a, .slice AS st.length cS] W fun e w' => ∃ v, e = .returned v ∧ OwnL fatesK 73 W.heap.size w' v (Ev.strikes c a st) ∧ Chg (fun _ => False) W w') := fun W hW => by
              have hC := HC3.out.trans hW (fun _ _ h => h)
              have hsz := (C1.out.trans HC.out (fun _ _ h => h)).size
              exact rstrikes_any (HH.out W ((C1.out.trans HC.out (fun _ _ h => h)).trans hC (fun _ _ h => h))) (fun j hj => Nat.lt_of_lt_of_le (Nat.lt_of_lt_of_le (HOK.out j hj) hsz) hC.size) h16 a ha st AS _ cS (strikesK.move (fun j hj => hC.block j (Nat.lt_of_lt_of_le (HOK.out j hj) hsz) (fun h => h)) HS.out) HFx.out.2
            have HSk : Hid (∀ w', Chg (fun _ => False) w3 w' → w'.cell? ⟨wo.heap.size, 0, none⟩ = some (.int .i64 3) ∧ w'.cell? ⟨wo.heap.size, 11, none⟩ = some (.slice AS st.length cS) ∧ w'.cell? ⟨w.heap.size, 0, none⟩ = some (.slice A1 n1 c1) ∧ w'.cell? ⟨w.heap.size, 1, none⟩ = some (.slice A2 n2 c2) ∧ w'.cell? ⟨w.heap.size, 2, none⟩ = some (.slice A3 n3 c3)) := fun w' hw => by
              have hmv : ∀ j v, w3.cell? ⟨wo.heap.size, j, none⟩ = some v → w'.cell? ⟨wo.heap.size, j, none⟩ = some v := fun j v h => (World.cell?_of_block (hw.block wo.heap.size z3 (fun he => he)) (a := ⟨wo.heap.size, j, none⟩)).trans h
              have hmk : ∀ j v, w3.cell? ⟨w.heap.size, j, none⟩ = some v → w'.cell? ⟨w.heap.size, j, none⟩ = some v := fun j v h => (World.cell?_of_block (hw.block w.heap.size z2 (fun he => he)) (a := ⟨w.heap.size, j, none⟩)).trans h
              exact ⟨hmv _ _ p0, hmv _ _ p11, hmk _ _ k0, hmk _ _ k1, hmk _ _ k2⟩
            have HPl := Lib.hid p10
            have HZq : Hid (∀ Z W5, Chg (fun _ => False) (w3.alloc Z).drew W5 → W5.heap[w3.heap.size]? = some Z) := fun Z W5 h => (undrew h).at_ (heap_new w3 Z) (fun h => h)
            go_wp2_with fail
            go_region_held3 (fun w' => w'.cell? ⟨wo.heap.size, 0, none⟩ = some (.int .i64 3) ∧ w'.cell? ⟨wo.heap.size, 11, none⟩ = some (.slice AS st.length cS) ∧ w'.cell? ⟨w.heap.size, 0, none⟩ = some (.slice A1 n1 c1) ∧ w'.cell? ⟨w.heap.size, 1, none⟩ = some (.slice A2 n2 c2) ∧ w'.cell? ⟨w.heap.size, 2, none⟩ = some (.slice A3 n3 c3))
              (first | with_reducible exact HSk.out _ (set12 (Nat.le_refl _) hq) | with_reducible exact HSk.out _ (Chg.refl _ w3).drew | with_reducible exact HSk.out _ ((Chg.refl _ w3).alloc _).drew | with_reducible exact HSk.out _ hq | with_reducible exact HSk.out _ (hq.alloc _))
              (first
                | (go_at_call 46; refine (HStr.out _ (by first | exact (Chg.refl _ w3).drew | exact ((Chg.refl _ w3).alloc _).drew)).mono ?_; rintro e w5 ⟨V5, rfl, ho5, hc5⟩; obtain ⟨A5, c5, e5⟩ := ho5.form; subst e5; have hq := Chg.trans (S := fun _ => False) (w := w3) (by first | exact (Chg.refl _ w3).drew | exact ((Chg.refl _ w3).alloc _).drew) hc5 (fun _ _ h => h); have s5 := hq.size; have s3 := HC3.out.size; have s1 := HC.out.size; try (have hx5 := HZq.out _ _ hc5; obtain ⟨e0, e1, e2, e3, e4, e5, e6, e7, e8, e9, e10, e11⟩ := cells12 hx5; have e12 := free_at hx5)))
            all_goals first
              | (obtain ⟨w6, hw6⟩ : ∃ w6, w6 = w5.alloc (.cells #[.int .i64 3, .int .i64 0, .int .i64 0, .int .i64 0, .int .i64 0, .int .i64 0, .string ⟨#[]⟩, .string ⟨#[]⟩, .slice none 0 0, .int .i64 0, .int .i64 0, .slice A5 (Ev.strikes c a st).length c5] 37) := ⟨_, rfl⟩
                 have hx6 : w6.heap[w5.heap.size]? = some (.cells #[.int .i64 3, .int .i64 0, .int .i64 0, .int .i64 0, .int .i64 0, .int .i64 0, .string ⟨#[]⟩, .string ⟨#[]⟩, .slice none 0 0, .int .i64 0, .int .i64 0, .slice A5 (Ev.strikes c a st).length c5] 37 (0, 0)) := by rw [hw6]; exact heap_new w5 _
                 have hq6 : Chg (fun _ => False) w3 w6 := by rw [hw6]; exact hq.alloc _
                 have hR6 : strikesK.rel (fun k => w3.heap.size ≤ k ∧ k < w6.heap.size ∧ k ≠ w5.heap.size) w6 (Ev.strikes c a st) [.slice A5 (Ev.strikes c a st).length c5] := by
                   rw [hw6]
                   exact strikesK.mono (fun k hk => ⟨hk.1, by simp only [World.size_alloc]; have := hk.2; omega, by have := hk.2; omega⟩) (strikesK.move (fun k hk => Below.heap_alloc _ _ _ hk.2) ho5.reads)
                 rw [← hw6]
                 clear hw6
                 obtain ⟨xb, hxb⟩ : ∃ xb, xb = w5.heap.size := ⟨_, rfl⟩
                 rw [← hxb] at hx6 hR6 ⊢
                 have HXl : Hid (w3.heap.size ≤ xb) := by show _ ≤ _; omega
                 clear hxb)
              | (obtain ⟨w6, hw6⟩ : ∃ w6, w6 = ((((((((((((w5.setCell ⟨w3.heap.size, 0, none⟩ (.int .i64 3)).setCell ⟨w3.heap.size, 1, none⟩ (.int .i64 0)).setCell ⟨w3.heap.size, 2, none⟩ (.int .i64 0)).setCell ⟨w3.heap.size, 3, none⟩ (.int .i64 0)).setCell ⟨w3.heap.size, 4, none⟩ (.int .i64 0)).setCell ⟨w3.heap.size, 5, none⟩ (.int .i64 0)).setCell ⟨w3.heap.size, 6, none⟩ (.string ⟨#[]⟩)).setCell ⟨w3.heap.size, 7, none⟩ (.string ⟨#[]⟩)).setCell ⟨w3.heap.size, 8, none⟩ (.slice none 0 0)).setCell ⟨w3.heap.size, 9, none⟩ (.int .i64 0)).setCell ⟨w3.heap.size, 10, none⟩ (.int .i64 0)).setCell ⟨w3.heap.size, 11, none⟩ (.slice A5 (Ev.strikes c a st).length c5)) := ⟨_, rfl⟩
                 have hx6 : w6.heap[w3.heap.size]? = some (.cells #[.int .i64 3, .int .i64 0, .int .i64 0, .int .i64 0, .int .i64 0, .int .i64 0, .string ⟨#[]⟩, .string ⟨#[]⟩, .slice none 0 0, .int .i64 0, .int .i64 0, .slice A5 (Ev.strikes c a st).length c5] 37 (0, 0)) := by rw [hw6]; exact set12h hx5
                 have hq6 : Chg (fun _ => False) w3 w6 := by rw [hw6]; exact set12 (Nat.le_refl _) hq
                 have hs6 : w6.heap.size = w5.heap.size := by rw [hw6]; simp [World.setCell]
                 have hb6 : Chg (fun k => k = w3.heap.size) w5 w6 := by rw [hw6]; exact set12c
                 have hR6 : strikesK.rel (fun k => w3.heap.size ≤ k ∧ k < w6.heap.size ∧ k ≠ w3.heap.size) w6 (Ev.strikes c a st) [.slice A5 (Ev.strikes c a st).length c5] := by
                   refine strikesK.mono (fun k hk => ?_) (strikesK.move (fun k hk => hb6.block k hk.2 (fun he => ?_)) ho5.reads)
                   · have h1 := hk.1; simp only [World.drew, World.size_alloc] at h1; exact ⟨by omega, by rw [hs6]; exact hk.2, by omega⟩
                   · have h1 := hk.1; simp only [World.drew, World.size_alloc] at h1; omega
                 rw [← hw6]
                 clear hw6 hs6 hb6 hx5 e0 e1 e2 e3 e4 e5 e6 e7 e8 e9 e10 e11 e12
                 obtain ⟨xb, hxb⟩ : ∃ xb, xb = w3.heap.size := ⟨_, rfl⟩
                 rw [← hxb] at hx6 hR6 ⊢
                 have HXl : Hid (w3.heap.size ≤ xb) := by show _ ≤ _; omega
                 clear hxb)
            all_goals
              have hp6 : ∀ j v, w3.cell? ⟨wo.heap.size, j, none⟩ = some v → w6.cell? ⟨wo.heap.size, j, none⟩ = some v := fun j v h => (World.cell?_of_block (hq6.block wo.heap.size z3 (fun he => he)) (a := ⟨wo.heap.size, j, none⟩)).trans h
              have hk6 : ∀ j v, w3.cell? ⟨w.heap.size, j, none⟩ = some v → w6.cell? ⟨w.heap.size, j, none⟩ = some v := fun j v h => (World.cell?_of_block (hq6.block w.heap.size z2 (fun he => he)) (a := ⟨w.heap.size, j, none⟩)).trans h
              have q0 := hp6 _ _ p0
              have q10 := hp6 _ _ p10
              have t0 := hk6 _ _ k0
              have t1 := hk6 _ _ k1
              have t2 := hk6 _ _ k2
              have z6 := lt_of _ hx6
              have z7 := hq6.size
              clear hp6 hk6 p0 p1 p2 p3 p4 p5 p6 p7 p8 p9 p10 p11 k0 k1 k2 hq ho5 hc5 HStr HSk HZq HPl
              have HSee2 := Lib.hid (seen_any (HH.out w6 (((C1.out.trans HC.out (fun _ _ h => h)).trans HC3.out (fun _ _ h => h)).trans hq6 (fun _ _ h => h))) (fun j hj => Nat.lt_of_lt_of_le (HOK.out j hj) (((C1.out.trans HC.out (fun _ _ h => h)).trans HC3.out (fun _ _ h => h)).trans hq6 (fun _ _ h => h)).size) a pn ha hpn)
              have HX6 := Lib.hid hx6
              have HQ6 := Lib.hid hq6
              have hxlow : w3.heap.size ≤ xb := HXl.out
              clear hx6 hq6
              go_wp2_with fail
              refine HSee2.out.mono ?_
              rintro e w7 ⟨rfl, hc7⟩
              have hx7 := hc7.at_ HX6.out (fun h => h)
              obtain ⟨x0, x1, x2, x3, x4, x5, x6, x7, x8, x9, x10, x11⟩ := cells12 hx7
              have x12 := free_at hx7
              have q11 := (World.cell?_of_block (hc7.block wo.heap.size (Nat.lt_of_lt_of_le z3 z7) (fun he => he)) (a := ⟨wo.heap.size, 10, none⟩)).trans q10
              have z8 := hc7.size
              have CB : Hid (Chg (fun _ => False) wo w7) := (HC3.out.trans HQ6.out (fun _ _ h => h)).trans hc7 (fun _ _ h => h)
              have HC7 := Lib.hid hc7
              clear q0 q10 t0 t1 t2 hx7 hc7
              cases hs : Ev.seen c a pn with
              | true =>
                have HN : Hid (purge1 c a ⟨3, ss, ⟨rk, lf, nb, rp, ky, tt, vl, lm⟩, pn, st⟩ = some ⟨3, 0, Req.zero, pn, Ev.strikes c a st⟩) := by show _ = _; unfold purge1; rw [if_neg (by rw [HMy.out]; simp), if_neg (by simp), if_pos (by simp)]; simp only [Int.toNat_natCast]; rw [if_pos hs]
                clear hs
                go_wp2_with (at_builtin; refine ap_push' rfl (.tmp 85) (.tmp 87) 28 rfl evK w1.heap.size 37 144 _ Try.underlying28 info_ev rfl (by decide) (by decide) (.slice Av ((s.take k).filterMap (purge1 c a)).length cv) ((s.take k).filterMap (purge1 c a)) rfl (HO.out.up (CB.out.set (.inl (by have := HC3.out.size; omega)))) ⟨3, 0, Req.zero, pn, Ev.strikes c a st⟩ _ _ rfl ?aG ?aR ?aL ?aB ?_; (case aG => simp [World.setCell]); (case aR => exact ⟨_, _, rfl, nil_rel, strikesK.mono (fun j hj => ⟨by have := HC.out.size; have := HC3.out.size; omega, by (try simp only [World.setCell, Array.size_modify]); have := hj.2.1; omega, fun he => by have := (HO.out.low _ he).2; have := HC3.out.size; omega⟩) (strikesK.move (fun j hj => (heap_set_ne _ _ hj.2.2).trans (HC7.out.block j hj.2.1 (fun h => h))) hR6)⟩); (case aL => omega); (case aB => (try simp only [World.setCell, Array.size_modify]); have := HC.out.size; have := HC3.out.size; omega); intro v8 w8 o8 ch8; obtain ⟨A8, c8, e8⟩ := o8.form; subst e8)
                go_roundw
                case rel => exact ⟨k + 1, by omega, by go_num, by rw [fm_some HX.out HN.out]; have o9 := o8; simp only [List.length_append, List.length_singleton] at o9; exact o9, (HC.out.trans (CB.out.set (.inl (by have := HC3.out.size; omega))) (fun _ _ h => h)).trans ch8 (fun j hj he => by have := (HO.out.low j he).1; omega)⟩
                case measure => simp [intOf]; omega
              | false =>
                have HN : Hid (purge1 c a ⟨3, ss, ⟨rk, lf, nb, rp, ky, tt, vl, lm⟩, pn, st⟩ = some ⟨5, 0, Req.zero, 0, Ev.strikes c a st⟩) := by show _ = _; unfold purge1; rw [if_neg (by rw [HMy.out]; simp), if_neg (by simp), if_pos (by simp)]; simp only [Int.toNat_natCast]; rw [if_neg (by rw [hs]; simp)]
                clear hs
                go_wp2_with (at_builtin; refine ap_push' rfl (.tmp 85) (.tmp 87) 28 rfl evK w1.heap.size 37 144 _ Try.underlying28 info_ev rfl (by decide) (by decide) (.slice Av ((s.take k).filterMap (purge1 c a)).length cv) ((s.take k).filterMap (purge1 c a)) rfl (HO.out.up (CB.out.set (.inl (by have := HC3.out.size; omega)))) ⟨5, 0, Req.zero, 0, Ev.strikes c a st⟩ _ _ rfl ?aG ?aR ?aL ?aB ?_; (case aG => simp [World.setCell]); (case aR => exact ⟨_, _, rfl, nil_rel, strikesK.mono (fun j hj => ⟨by have := HC.out.size; have := HC3.out.size; omega, by (try simp only [World.setCell, Array.size_modify]); have := hj.2.1; omega, fun he => by have := (HO.out.low _ he).2; have := HC3.out.size; omega⟩) (strikesK.move (fun j hj => (heap_set_ne _ _ hj.2.2).trans (HC7.out.block j hj.2.1 (fun h => h))) hR6)⟩); (case aL => omega); (case aB => (try simp only [World.setCell, Array.size_modify]); have := HC.out.size; have := HC3.out.size; omega); intro v8 w8 o8 ch8; obtain ⟨A8, c8, e8⟩ := o8.form; subst e8)
                go_roundw
                case rel => exact ⟨k + 1, by omega, by go_num, by rw [fm_some HX.out HN.out]; have o9 := o8; simp only [List.length_append, List.length_singleton] at o9; exact o9, (HC.out.trans (CB.out.set (.inl (by have := HC3.out.size; omega))) (fun _ _ h => h)).trans ch8 (fun j hj he => by have := (HO.out.low j he).1; omega)⟩
                case measure => simp [intOf]; omega
          · by_cases hkx : kd = 4
            · subst hkx
              have hpb := HMy.out
              rw [may_of HM.out] at hpb
              simp only [Int.reduceEq, if_true, if_false, or_true, true_or, Bool.and_eq_true, decide_eq_true_eq] at hpb
              obtain ⟨pn, rfl⟩ := Int.eq_ofNat_of_zero_le hpb.1
              have hpn : pn < n1 := by have := hpb.2; have := L1.out; omega
              clear hpb
              have HStr : Hid (∀ W, Chg (fun _ => False) w3 W → Calls Try.prog 46 #[.agg #[.slice A1 n1 c1, .slice A2 n2 c2, .slice A3 n3 c3], .int .i64 a, .slice AS st.length cS] W fun e w' => ∃ v, e = .returned v ∧ OwnL fatesK 73 W.heap.size w' v (Ev.strikes c a st) ∧ Chg (fun _ => False) W w') := fun W hW => by
                have hC := HC3.out.trans hW (fun _ _ h => h)
                have hsz := (C1.out.trans HC.out (fun _ _ h => h)).size
                exact rstrikes_any (HH.out W ((C1.out.trans HC.out (fun _ _ h => h)).trans hC (fun _ _ h => h))) (fun j hj => Nat.lt_of_lt_of_le (Nat.lt_of_lt_of_le (HOK.out j hj) hsz) hC.size) h16 a ha st AS _ cS (strikesK.move (fun j hj => hC.block j (Nat.lt_of_lt_of_le (HOK.out j hj) hsz) (fun h => h)) HS.out) HFx.out.2
              have HSk : Hid (∀ w', Chg (fun _ => False) w3 w' → w'.cell? ⟨wo.heap.size, 0, none⟩ = some (.int .i64 4) ∧ w'.cell? ⟨wo.heap.size, 11, none⟩ = some (.slice AS st.length cS) ∧ w'.cell? ⟨w.heap.size, 0, none⟩ = some (.slice A1 n1 c1) ∧ w'.cell? ⟨w.heap.size, 1, none⟩ = some (.slice A2 n2 c2) ∧ w'.cell? ⟨w.heap.size, 2, none⟩ = some (.slice A3 n3 c3)) := fun w' hw => by
                have hmv : ∀ j v, w3.cell? ⟨wo.heap.size, j, none⟩ = some v → w'.cell? ⟨wo.heap.size, j, none⟩ = some v := fun j v h => (World.cell?_of_block (hw.block wo.heap.size z3 (fun he => he)) (a := ⟨wo.heap.size, j, none⟩)).trans h
                have hmk : ∀ j v, w3.cell? ⟨w.heap.size, j, none⟩ = some v → w'.cell? ⟨w.heap.size, j, none⟩ = some v := fun j v h => (World.cell?_of_block (hw.block w.heap.size z2 (fun he => he)) (a := ⟨w.heap.size, j, none⟩)).trans h
                exact ⟨hmv _ _ p0, hmv _ _ p11, hmk _ _ k0, hmk _ _ k1, hmk _ _ k2⟩
              have HPl := Lib.hid p10
              have HZq : Hid (∀ Z W5, Chg (fun _ => False) (w3.alloc Z).drew W5 → W5.heap[w3.heap.size]? = some Z) := fun Z W5 h => (undrew h).at_ (heap_new w3 Z) (fun h => h)
              go_wp2_with fail
              go_region_held3 (fun w' => w'.cell? ⟨wo.heap.size, 0, none⟩ = some (.int .i64 4) ∧ w'.cell? ⟨wo.heap.size, 11, none⟩ = some (.slice AS st.length cS) ∧ w'.cell? ⟨w.heap.size, 0, none⟩ = some (.slice A1 n1 c1) ∧ w'.cell? ⟨w.heap.size, 1, none⟩ = some (.slice A2 n2 c2) ∧ w'.cell? ⟨w.heap.size, 2, none⟩ = some (.slice A3 n3 c3))
                (first | with_reducible exact HSk.out _ (set12 (Nat.le_refl _) hq) | with_reducible exact HSk.out _ (Chg.refl _ w3).drew | with_reducible exact HSk.out _ ((Chg.refl _ w3).alloc _).drew | with_reducible exact HSk.out _ hq | with_reducible exact HSk.out _ (hq.alloc _))
                (first
                  | (go_at_call 46; refine (HStr.out _ (by first | exact (Chg.refl _ w3).drew | exact ((Chg.refl _ w3).alloc _).drew)).mono ?_; rintro e w5 ⟨V5, rfl, ho5, hc5⟩; obtain ⟨A5, c5, e5⟩ := ho5.form; subst e5; have hq := Chg.trans (S := fun _ => False) (w := w3) (by first | exact (Chg.refl _ w3).drew | exact ((Chg.refl _ w3).alloc _).drew) hc5 (fun _ _ h => h); have s5 := hq.size; have s3 := HC3.out.size; have s1 := HC.out.size; try (have hx5 := HZq.out _ _ hc5; obtain ⟨e0, e1, e2, e3, e4, e5, e6, e7, e8, e9, e10, e11⟩ := cells12 hx5; have e12 := free_at hx5)))
              all_goals first
                | (obtain ⟨w6, hw6⟩ : ∃ w6, w6 = w5.alloc (.cells #[.int .i64 4, .int .i64 0, .int .i64 0, .int .i64 0, .int .i64 0, .int .i64 0, .string ⟨#[]⟩, .string ⟨#[]⟩, .slice none 0 0, .int .i64 0, .int .i64 0, .slice A5 (Ev.strikes c a st).length c5] 37) := ⟨_, rfl⟩
                   have hx6 : w6.heap[w5.heap.size]? = some (.cells #[.int .i64 4, .int .i64 0, .int .i64 0, .int .i64 0, .int .i64 0, .int .i64 0, .string ⟨#[]⟩, .string ⟨#[]⟩, .slice none 0 0, .int .i64 0, .int .i64 0, .slice A5 (Ev.strikes c a st).length c5] 37 (0, 0)) := by rw [hw6]; exact heap_new w5 _
                   have hq6 : Chg (fun _ => False) w3 w6 := by rw [hw6]; exact hq.alloc _
                   have hR6 : strikesK.rel (fun k => w3.heap.size ≤ k ∧ k < w6.heap.size ∧ k ≠ w5.heap.size) w6 (Ev.strikes c a st) [.slice A5 (Ev.strikes c a st).length c5] := by
                     rw [hw6]
                     exact strikesK.mono (fun k hk => ⟨hk.1, by simp only [World.size_alloc]; have := hk.2; omega, by have := hk.2; omega⟩) (strikesK.move (fun k hk => Below.heap_alloc _ _ _ hk.2) ho5.reads)
                   rw [← hw6]
                   clear hw6
                   obtain ⟨xb, hxb⟩ : ∃ xb, xb = w5.heap.size := ⟨_, rfl⟩
                   rw [← hxb] at hx6 hR6 ⊢
                   have HXl : Hid (w3.heap.size ≤ xb) := by show _ ≤ _; omega
                   clear hxb)
                | (obtain ⟨w6, hw6⟩ : ∃ w6, w6 = ((((((((((((w5.setCell ⟨w3.heap.size, 0, none⟩ (.int .i64 4)).setCell ⟨w3.heap.size, 1, none⟩ (.int .i64 0)).setCell ⟨w3.heap.size, 2, none⟩ (.int .i64 0)).setCell ⟨w3.heap.size, 3, none⟩ (.int .i64 0)).setCell ⟨w3.heap.size, 4, none⟩ (.int .i64 0)).setCell ⟨w3.heap.size, 5, none⟩ (.int .i64 0)).setCell ⟨w3.heap.size, 6, none⟩ (.string ⟨#[]⟩)).setCell ⟨w3.heap.size, 7, none⟩ (.string ⟨#[]⟩)).setCell ⟨w3.heap.size, 8, none⟩ (.slice none 0 0)).setCell ⟨w3.heap.size, 9, none⟩ (.int .i64 0)).setCell ⟨w3.heap.size, 10, none⟩ (.int .i64 0)).setCell ⟨w3.heap.size, 11, none⟩ (.slice A5 (Ev.strikes c a st).length c5)) := ⟨_, rfl⟩
                   have hx6 : w6.heap[w3.heap.size]? = some (.cells #[.int .i64 4, .int .i64 0, .int .i64 0, .int .i64 0, .int .i64 0, .int .i64 0, .string ⟨#[]⟩, .string ⟨#[]⟩, .slice none 0 0, .int .i64 0, .int .i64 0, .slice A5 (Ev.strikes c a st).length c5] 37 (0, 0)) := by rw [hw6]; exact set12h hx5
                   have hq6 : Chg (fun _ => False) w3 w6 := by rw [hw6]; exact set12 (Nat.le_refl _) hq
                   have hs6 : w6.heap.size = w5.heap.size := by rw [hw6]; simp [World.setCell]
                   have hb6 : Chg (fun k => k = w3.heap.size) w5 w6 := by rw [hw6]; exact set12c
                   have hR6 : strikesK.rel (fun k => w3.heap.size ≤ k ∧ k < w6.heap.size ∧ k ≠ w3.heap.size) w6 (Ev.strikes c a st) [.slice A5 (Ev.strikes c a st).length c5] := by
                     refine strikesK.mono (fun k hk => ?_) (strikesK.move (fun k hk => hb6.block k hk.2 (fun he => ?_)) ho5.reads)
                     · have h1 := hk.1; simp only [World.drew, World.size_alloc] at h1; exact ⟨by omega, by rw [hs6]; exact hk.2, by omega⟩
                     · have h1 := hk.1; simp only [World.drew, World.size_alloc] at h1; omega
                   rw [← hw6]
                   clear hw6 hs6 hb6 hx5 e0 e1 e2 e3 e4 e5 e6 e7 e8 e9 e10 e11 e12
                   obtain ⟨xb, hxb⟩ : ∃ xb, xb = w3.heap.size := ⟨_, rfl⟩
                   rw [← hxb] at hx6 hR6 ⊢
                   have HXl : Hid (w3.heap.size ≤ xb) := by show _ ≤ _; omega
                   clear hxb)
              all_goals
                have hp6 : ∀ j v, w3.cell? ⟨wo.heap.size, j, none⟩ = some v → w6.cell? ⟨wo.heap.size, j, none⟩ = some v := fun j v h => (World.cell?_of_block (hq6.block wo.heap.size z3 (fun he => he)) (a := ⟨wo.heap.size, j, none⟩)).trans h
                have hk6 : ∀ j v, w3.cell? ⟨w.heap.size, j, none⟩ = some v → w6.cell? ⟨w.heap.size, j, none⟩ = some v := fun j v h => (World.cell?_of_block (hq6.block w.heap.size z2 (fun he => he)) (a := ⟨w.heap.size, j, none⟩)).trans h
                have q0 := hp6 _ _ p0
                have q10 := hp6 _ _ p10
                have t0 := hk6 _ _ k0
                have t1 := hk6 _ _ k1
                have t2 := hk6 _ _ k2
                have z6 := lt_of _ hx6
                have z7 := hq6.size
                clear hp6 hk6 p0 p1 p2 p3 p4 p5 p6 p7 p8 p9 p10 p11 k0 k1 k2 hq ho5 hc5 HStr HSk HZq HPl
                have HSee2 := Lib.hid (seen_any (HH.out w6 (((C1.out.trans HC.out (fun _ _ h => h)).trans HC3.out (fun _ _ h => h)).trans hq6 (fun _ _ h => h))) (fun j hj => Nat.lt_of_lt_of_le (HOK.out j hj) (((C1.out.trans HC.out (fun _ _ h => h)).trans HC3.out (fun _ _ h => h)).trans hq6 (fun _ _ h => h)).size) a pn ha hpn)
                have HX6 := Lib.hid hx6
                have HQ6 := Lib.hid hq6
                have hxlow : w3.heap.size ≤ xb := HXl.out
                clear hx6 hq6
                go_wp2_with fail
                refine HSee2.out.mono ?_
                rintro e w7 ⟨rfl, hc7⟩
                have hx7 := hc7.at_ HX6.out (fun h => h)
                obtain ⟨x0, x1, x2, x3, x4, x5, x6, x7, x8, x9, x10, x11⟩ := cells12 hx7
                have x12 := free_at hx7
                have q11 := (World.cell?_of_block (hc7.block wo.heap.size (Nat.lt_of_lt_of_le z3 z7) (fun he => he)) (a := ⟨wo.heap.size, 10, none⟩)).trans q10
                have z8 := hc7.size
                have CB : Hid (Chg (fun _ => False) wo w7) := (HC3.out.trans HQ6.out (fun _ _ h => h)).trans hc7 (fun _ _ h => h)
                have HC7 := Lib.hid hc7
                clear q0 q10 t0 t1 t2 hx7 hc7
                cases hs : Ev.seen c a pn with
                | true =>
                  have HN : Hid (purge1 c a ⟨4, ss, ⟨rk, lf, nb, rp, ky, tt, vl, lm⟩, pn, st⟩ = some ⟨4, 0, Req.zero, pn, Ev.strikes c a st⟩) := by show _ = _; unfold purge1; rw [if_neg (by rw [HMy.out]; simp), if_neg (by simp), if_pos (by simp)]; simp only [Int.toNat_natCast]; rw [if_pos hs]
                  clear hs
                  go_wp2_with (at_builtin; refine ap_push' rfl (.tmp 85) (.tmp 87) 28 rfl evK w1.heap.size 37 144 _ Try.underlying28 info_ev rfl (by decide) (by decide) (.slice Av ((s.take k).filterMap (purge1 c a)).length cv) ((s.take k).filterMap (purge1 c a)) rfl (HO.out.up (CB.out.set (.inl (by have := HC3.out.size; omega)))) ⟨4, 0, Req.zero, pn, Ev.strikes c a st⟩ _ _ rfl ?aG ?aR ?aL ?aB ?_; (case aG => simp [World.setCell]); (case aR => exact ⟨_, _, rfl, nil_rel, strikesK.mono (fun j hj => ⟨by have := HC.out.size; have := HC3.out.size; omega, by (try simp only [World.setCell, Array.size_modify]); have := hj.2.1; omega, fun he => by have := (HO.out.low _ he).2; have := HC3.out.size; omega⟩) (strikesK.move (fun j hj => (heap_set_ne _ _ hj.2.2).trans (HC7.out.block j hj.2.1 (fun h => h))) hR6)⟩); (case aL => omega); (case aB => (try simp only [World.setCell, Array.size_modify]); have := HC.out.size; have := HC3.out.size; omega); intro v8 w8 o8 ch8; obtain ⟨A8, c8, e8⟩ := o8.form; subst e8)
                  go_roundw
                  case rel => exact ⟨k + 1, by omega, by go_num, by rw [fm_some HX.out HN.out]; have o9 := o8; simp only [List.length_append, List.length_singleton] at o9; exact o9, (HC.out.trans (CB.out.set (.inl (by have := HC3.out.size; omega))) (fun _ _ h => h)).trans ch8 (fun j hj he => by have := (HO.out.low j he).1; omega)⟩
                  case measure => simp [intOf]; omega
                | false =>
                  have HN : Hid (purge1 c a ⟨4, ss, ⟨rk, lf, nb, rp, ky, tt, vl, lm⟩, pn, st⟩ = some ⟨5, 0, Req.zero, 0, Ev.strikes c a st⟩) := by show _ = _; unfold purge1; rw [if_neg (by rw [HMy.out]; simp), if_neg (by simp), if_pos (by simp)]; simp only [Int.toNat_natCast]; rw [if_neg (by rw [hs]; simp)]
                  clear hs
                  go_wp2_with (at_builtin; refine ap_push' rfl (.tmp 85) (.tmp 87) 28 rfl evK w1.heap.size 37 144 _ Try.underlying28 info_ev rfl (by decide) (by decide) (.slice Av ((s.take k).filterMap (purge1 c a)).length cv) ((s.take k).filterMap (purge1 c a)) rfl (HO.out.up (CB.out.set (.inl (by have := HC3.out.size; omega)))) ⟨5, 0, Req.zero, 0, Ev.strikes c a st⟩ _ _ rfl ?aG ?aR ?aL ?aB ?_; (case aG => simp [World.setCell]); (case aR => exact ⟨_, _, rfl, nil_rel, strikesK.mono (fun j hj => ⟨by have := HC.out.size; have := HC3.out.size; omega, by (try simp only [World.setCell, Array.size_modify]); have := hj.2.1; omega, fun he => by have := (HO.out.low _ he).2; have := HC3.out.size; omega⟩) (strikesK.move (fun j hj => (heap_set_ne _ _ hj.2.2).trans (HC7.out.block j hj.2.1 (fun h => h))) hR6)⟩); (case aL => omega); (case aB => (try simp only [World.setCell, Array.size_modify]); have := HC.out.size; have := HC3.out.size; omega); intro v8 w8 o8 ch8; obtain ⟨A8, c8, e8⟩ := o8.form; subst e8)
                  go_roundw
                  case rel => exact ⟨k + 1, by omega, by go_num, by rw [fm_some HX.out HN.out]; have o9 := o8; simp only [List.length_append, List.length_singleton] at o9; exact o9, (HC.out.trans (CB.out.set (.inl (by have := HC3.out.size; omega))) (fun _ _ h => h)).trans ch8 (fun j hj he => by have := (HO.out.low j he).1; omega)⟩
                  case measure => simp [intOf]; omega
            · by_cases hkx : kd = 2
              · subst hkx
                have HStr : Hid (∀ W, Chg (fun _ => False) w3 W → Calls Try.prog 46 #[.agg #[.slice A1 n1 c1, .slice A2 n2 c2, .slice A3 n3 c3], .int .i64 a, .slice AS st.length cS] W fun e w' => ∃ v, e = .returned v ∧ OwnL fatesK 73 W.heap.size w' v (Ev.strikes c a st) ∧ Chg (fun _ => False) W w') := fun W hW => by
                  have hC := HC3.out.trans hW (fun _ _ h => h)
                  have hsz := (C1.out.trans HC.out (fun _ _ h => h)).size
                  exact rstrikes_any (HH.out W ((C1.out.trans HC.out (fun _ _ h => h)).trans hC (fun _ _ h => h))) (fun j hj => Nat.lt_of_lt_of_le (Nat.lt_of_lt_of_le (HOK.out j hj) hsz) hC.size) h16 a ha st AS _ cS (strikesK.move (fun j hj => hC.block j (Nat.lt_of_lt_of_le (HOK.out j hj) hsz) (fun h => h)) HS.out) HFx.out.2
                have HSk : Hid (∀ w', Chg (fun _ => False) w3 w' → w'.cell? ⟨wo.heap.size, 0, none⟩ = some (.int .i64 2) ∧ w'.cell? ⟨wo.heap.size, 11, none⟩ = some (.slice AS st.length cS) ∧ w'.cell? ⟨w.heap.size, 0, none⟩ = some (.slice A1 n1 c1) ∧ w'.cell? ⟨w.heap.size, 1, none⟩ = some (.slice A2 n2 c2) ∧ w'.cell? ⟨w.heap.size, 2, none⟩ = some (.slice A3 n3 c3)) := fun w' hw => by
                  have hmv : ∀ j v, w3.cell? ⟨wo.heap.size, j, none⟩ = some v → w'.cell? ⟨wo.heap.size, j, none⟩ = some v := fun j v h => (World.cell?_of_block (hw.block wo.heap.size z3 (fun he => he)) (a := ⟨wo.heap.size, j, none⟩)).trans h
                  have hmk : ∀ j v, w3.cell? ⟨w.heap.size, j, none⟩ = some v → w'.cell? ⟨w.heap.size, j, none⟩ = some v := fun j v h => (World.cell?_of_block (hw.block w.heap.size z2 (fun he => he)) (a := ⟨w.heap.size, j, none⟩)).trans h
                  exact ⟨hmv _ _ p0, hmv _ _ p11, hmk _ _ k0, hmk _ _ k1, hmk _ _ k2⟩
                have HPl := Lib.hid p10
                have HZq : Hid (∀ Z W5, Chg (fun _ => False) (w3.alloc Z).drew W5 → W5.heap[w3.heap.size]? = some Z) := fun Z W5 h => (undrew h).at_ (heap_new w3 Z) (fun h => h)
                go_wp2_with fail
                go_region_held3 (fun w' => w'.cell? ⟨wo.heap.size, 0, none⟩ = some (.int .i64 2) ∧ w'.cell? ⟨wo.heap.size, 11, none⟩ = some (.slice AS st.length cS) ∧ w'.cell? ⟨w.heap.size, 0, none⟩ = some (.slice A1 n1 c1) ∧ w'.cell? ⟨w.heap.size, 1, none⟩ = some (.slice A2 n2 c2) ∧ w'.cell? ⟨w.heap.size, 2, none⟩ = some (.slice A3 n3 c3))
                  (first | with_reducible exact HSk.out _ (set12 (Nat.le_refl _) hq) | with_reducible exact HSk.out _ (Chg.refl _ w3).drew | with_reducible exact HSk.out _ ((Chg.refl _ w3).alloc _).drew | with_reducible exact HSk.out _ hq | with_reducible exact HSk.out _ (hq.alloc _))
                  (first
                    | (go_at_call 46; refine (HStr.out _ (by first | exact (Chg.refl _ w3).drew | exact ((Chg.refl _ w3).alloc _).drew)).mono ?_; rintro e w5 ⟨V5, rfl, ho5, hc5⟩; obtain ⟨A5, c5, e5⟩ := ho5.form; subst e5; have hq := Chg.trans (S := fun _ => False) (w := w3) (by first | exact (Chg.refl _ w3).drew | exact ((Chg.refl _ w3).alloc _).drew) hc5 (fun _ _ h => h); have s5 := hq.size; have s3 := HC3.out.size; have s1 := HC.out.size; try (have hx5 := HZq.out _ _ hc5; obtain ⟨e0, e1, e2, e3, e4, e5, e6, e7, e8, e9, e10, e11⟩ := cells12 hx5; have e12 := free_at hx5)))
                all_goals first
                  | (obtain ⟨w6, hw6⟩ : ∃ w6, w6 = w5.alloc (.cells #[.int .i64 2, .int .i64 0, .int .i64 0, .int .i64 0, .int .i64 0, .int .i64 0, .string ⟨#[]⟩, .string ⟨#[]⟩, .slice none 0 0, .int .i64 0, .int .i64 0, .slice A5 (Ev.strikes c a st).length c5] 37) := ⟨_, rfl⟩
                     have hx6 : w6.heap[w5.heap.size]? = some (.cells #[.int .i64 2, .int .i64 0, .int .i64 0, .int .i64 0, .int .i64 0, .int .i64 0, .string ⟨#[]⟩, .string ⟨#[]⟩, .slice none 0 0, .int .i64 0, .int .i64 0, .slice A5 (Ev.strikes c a st).length c5] 37 (0, 0)) := by rw [hw6]; exact heap_new w5 _
                     have hq6 : Chg (fun _ => False) w3 w6 := by rw [hw6]; exact hq.alloc _
                     have hR6 : strikesK.rel (fun k => w3.heap.size ≤ k ∧ k < w6.heap.size ∧ k ≠ w5.heap.size) w6 (Ev.strikes c a st) [.slice A5 (Ev.strikes c a st).length c5] := by
                       rw [hw6]
                       exact strikesK.mono (fun k hk => ⟨hk.1, by simp only [World.size_alloc]; have := hk.2; omega, by have := hk.2; omega⟩) (strikesK.move (fun k hk => Below.heap_alloc _ _ _ hk.2) ho5.reads)
                     rw [← hw6]
                     clear hw6
                     obtain ⟨xb, hxb⟩ : ∃ xb, xb = w5.heap.size := ⟨_, rfl⟩
                     rw [← hxb] at hx6 hR6 ⊢
                     have HXl : Hid (w3.heap.size ≤ xb) := by show _ ≤ _; omega
                     clear hxb)
                  | (obtain ⟨w6, hw6⟩ : ∃ w6, w6 = ((((((((((((w5.setCell ⟨w3.heap.size, 0, none⟩ (.int .i64 2)).setCell ⟨w3.heap.size, 1, none⟩ (.int .i64 0)).setCell ⟨w3.heap.size, 2, none⟩ (.int .i64 0)).setCell ⟨w3.heap.size, 3, none⟩ (.int .i64 0)).setCell ⟨w3.heap.size, 4, none⟩ (.int .i64 0)).setCell ⟨w3.heap.size, 5, none⟩ (.int .i64 0)).setCell ⟨w3.heap.size, 6, none⟩ (.string ⟨#[]⟩)).setCell ⟨w3.heap.size, 7, none⟩ (.string ⟨#[]⟩)).setCell ⟨w3.heap.size, 8, none⟩ (.slice none 0 0)).setCell ⟨w3.heap.size, 9, none⟩ (.int .i64 0)).setCell ⟨w3.heap.size, 10, none⟩ (.int .i64 0)).setCell ⟨w3.heap.size, 11, none⟩ (.slice A5 (Ev.strikes c a st).length c5)) := ⟨_, rfl⟩
                     have hx6 : w6.heap[w3.heap.size]? = some (.cells #[.int .i64 2, .int .i64 0, .int .i64 0, .int .i64 0, .int .i64 0, .int .i64 0, .string ⟨#[]⟩, .string ⟨#[]⟩, .slice none 0 0, .int .i64 0, .int .i64 0, .slice A5 (Ev.strikes c a st).length c5] 37 (0, 0)) := by rw [hw6]; exact set12h hx5
                     have hq6 : Chg (fun _ => False) w3 w6 := by rw [hw6]; exact set12 (Nat.le_refl _) hq
                     have hs6 : w6.heap.size = w5.heap.size := by rw [hw6]; simp [World.setCell]
                     have hb6 : Chg (fun k => k = w3.heap.size) w5 w6 := by rw [hw6]; exact set12c
                     have hR6 : strikesK.rel (fun k => w3.heap.size ≤ k ∧ k < w6.heap.size ∧ k ≠ w3.heap.size) w6 (Ev.strikes c a st) [.slice A5 (Ev.strikes c a st).length c5] := by
                       refine strikesK.mono (fun k hk => ?_) (strikesK.move (fun k hk => hb6.block k hk.2 (fun he => ?_)) ho5.reads)
                       · have h1 := hk.1; simp only [World.drew, World.size_alloc] at h1; exact ⟨by omega, by rw [hs6]; exact hk.2, by omega⟩
                       · have h1 := hk.1; simp only [World.drew, World.size_alloc] at h1; omega
                     rw [← hw6]
                     clear hw6 hs6 hb6 hx5 e0 e1 e2 e3 e4 e5 e6 e7 e8 e9 e10 e11 e12
                     obtain ⟨xb, hxb⟩ : ∃ xb, xb = w3.heap.size := ⟨_, rfl⟩
                     rw [← hxb] at hx6 hR6 ⊢
                     have HXl : Hid (w3.heap.size ≤ xb) := by show _ ≤ _; omega
                     clear hxb)
                all_goals
                  have hp6 : ∀ j v, w3.cell? ⟨wo.heap.size, j, none⟩ = some v → w6.cell? ⟨wo.heap.size, j, none⟩ = some v := fun j v h => (World.cell?_of_block (hq6.block wo.heap.size z3 (fun he => he)) (a := ⟨wo.heap.size, j, none⟩)).trans h
                  have hk6 : ∀ j v, w3.cell? ⟨w.heap.size, j, none⟩ = some v → w6.cell? ⟨w.heap.size, j, none⟩ = some v := fun j v h => (World.cell?_of_block (hq6.block w.heap.size z2 (fun he => he)) (a := ⟨w.heap.size, j, none⟩)).trans h
                  have q0 := hp6 _ _ p0
                  have q10 := hp6 _ _ p10
                  have t0 := hk6 _ _ k0
                  have t1 := hk6 _ _ k1
                  have t2 := hk6 _ _ k2
                  have z6 := lt_of _ hx6
                  have z7 := hq6.size
                  clear hp6 hk6 p0 p1 p2 p3 p4 p5 p6 p7 p8 p9 p10 p11 k0 k1 k2 hq ho5 hc5 HStr HSk HZq HPl
                  have HX6 := Lib.hid hx6
                  have HQ6 := Lib.hid hq6
                  have hxlow : w3.heap.size ≤ xb := HXl.out
                  obtain ⟨x0, x1, x2, x3, x4, x5, x6, x7, x8, x9, x10, x11⟩ := cells12 hx6
                  have CB : Hid (Chg (fun _ => False) wo w6) := HC3.out.trans hq6 (fun _ _ h => h)
                  clear hx6 hq6 q10 t0 t1 t2
                  have HN : Hid (purge1 c a ⟨2, ss, ⟨rk, lf, nb, rp, ky, tt, vl, lm⟩, pl, st⟩ = some ⟨2, 0, Req.zero, 0, Ev.strikes c a st⟩) := by show _ = _; unfold purge1; rw [if_neg (by rw [HMy.out]; simp), if_neg (by simp), if_neg (by simp)]
                  go_wp2_with (at_builtin; refine ap_push' rfl (.tmp 85) (.tmp 87) 28 rfl evK w1.heap.size 37 144 _ Try.underlying28 info_ev rfl (by decide) (by decide) (.slice Av ((s.take k).filterMap (purge1 c a)).length cv) ((s.take k).filterMap (purge1 c a)) rfl (HO.out.up CB.out) ⟨2, 0, Req.zero, 0, Ev.strikes c a st⟩ _ _ rfl ?aG ?aR ?aL ?aB ?_; (case aG => simp [World.setCell]); (case aR => exact ⟨_, _, rfl, nil_rel, strikesK.mono (fun j hj => ⟨by have := HC.out.size; have := HC3.out.size; omega, by (try simp only [World.setCell, Array.size_modify]); have := hj.2.1; omega, fun he => by have := (HO.out.low _ he).2; have := HC3.out.size; omega⟩) (strikesK.move (fun j hj => rfl) hR6)⟩); (case aL => omega); (case aB => (try simp only [World.setCell, Array.size_modify]); have := HC.out.size; have := HC3.out.size; omega); intro v8 w8 o8 ch8; obtain ⟨A8, c8, e8⟩ := o8.form; subst e8)
                  go_roundw
                  case rel => exact ⟨k + 1, by omega, by go_num, by rw [fm_some HX.out HN.out]; have o9 := o8; simp only [List.length_append, List.length_singleton] at o9; exact o9, (HC.out.trans CB.out (fun _ _ h => h)).trans ch8 (fun j hj he => by have := (HO.out.low j he).1; omega)⟩
                  case measure => simp [intOf]; omega
              · by_cases hkx : kd = 5
                · subst hkx
                  have HStr : Hid (∀ W, Chg (fun _ => False) w3 W → Calls Try.prog 46 #[.agg #[.slice A1 n1 c1, .slice A2 n2 c2, .slice A3 n3 c3], .int .i64 a, .slice AS st.length cS] W fun e w' => ∃ v, e = .returned v ∧ OwnL fatesK 73 W.heap.size w' v (Ev.strikes c a st) ∧ Chg (fun _ => False) W w') := fun W hW => by
                    have hC := HC3.out.trans hW (fun _ _ h => h)
                    have hsz := (C1.out.trans HC.out (fun _ _ h => h)).size
                    exact rstrikes_any (HH.out W ((C1.out.trans HC.out (fun _ _ h => h)).trans hC (fun _ _ h => h))) (fun j hj => Nat.lt_of_lt_of_le (Nat.lt_of_lt_of_le (HOK.out j hj) hsz) hC.size) h16 a ha st AS _ cS (strikesK.move (fun j hj => hC.block j (Nat.lt_of_lt_of_le (HOK.out j hj) hsz) (fun h => h)) HS.out) HFx.out.2
                  have HSk : Hid (∀ w', Chg (fun _ => False) w3 w' → w'.cell? ⟨wo.heap.size, 0, none⟩ = some (.int .i64 5) ∧ w'.cell? ⟨wo.heap.size, 11, none⟩ = some (.slice AS st.length cS) ∧ w'.cell? ⟨w.heap.size, 0, none⟩ = some (.slice A1 n1 c1) ∧ w'.cell? ⟨w.heap.size, 1, none⟩ = some (.slice A2 n2 c2) ∧ w'.cell? ⟨w.heap.size, 2, none⟩ = some (.slice A3 n3 c3)) := fun w' hw => by
                    have hmv : ∀ j v, w3.cell? ⟨wo.heap.size, j, none⟩ = some v → w'.cell? ⟨wo.heap.size, j, none⟩ = some v := fun j v h => (World.cell?_of_block (hw.block wo.heap.size z3 (fun he => he)) (a := ⟨wo.heap.size, j, none⟩)).trans h
                    have hmk : ∀ j v, w3.cell? ⟨w.heap.size, j, none⟩ = some v → w'.cell? ⟨w.heap.size, j, none⟩ = some v := fun j v h => (World.cell?_of_block (hw.block w.heap.size z2 (fun he => he)) (a := ⟨w.heap.size, j, none⟩)).trans h
                    exact ⟨hmv _ _ p0, hmv _ _ p11, hmk _ _ k0, hmk _ _ k1, hmk _ _ k2⟩
                  have HPl := Lib.hid p10
                  have HZq : Hid (∀ Z W5, Chg (fun _ => False) (w3.alloc Z).drew W5 → W5.heap[w3.heap.size]? = some Z) := fun Z W5 h => (undrew h).at_ (heap_new w3 Z) (fun h => h)
                  go_wp2_with fail
                  go_region_held3 (fun w' => w'.cell? ⟨wo.heap.size, 0, none⟩ = some (.int .i64 5) ∧ w'.cell? ⟨wo.heap.size, 11, none⟩ = some (.slice AS st.length cS) ∧ w'.cell? ⟨w.heap.size, 0, none⟩ = some (.slice A1 n1 c1) ∧ w'.cell? ⟨w.heap.size, 1, none⟩ = some (.slice A2 n2 c2) ∧ w'.cell? ⟨w.heap.size, 2, none⟩ = some (.slice A3 n3 c3))
                    (first | with_reducible exact HSk.out _ (set12 (Nat.le_refl _) hq) | with_reducible exact HSk.out _ (Chg.refl _ w3).drew | with_reducible exact HSk.out _ ((Chg.refl _ w3).alloc _).drew | with_reducible exact HSk.out _ hq | with_reducible exact HSk.out _ (hq.alloc _))
                    (first
                      | (go_at_call 46; refine (HStr.out _ (by first | exact (Chg.refl _ w3).drew | exact ((Chg.refl _ w3).alloc _).drew)).mono ?_; rintro e w5 ⟨V5, rfl, ho5, hc5⟩; obtain ⟨A5, c5, e5⟩ := ho5.form; subst e5; have hq := Chg.trans (S := fun _ => False) (w := w3) (by first | exact (Chg.refl _ w3).drew | exact ((Chg.refl _ w3).alloc _).drew) hc5 (fun _ _ h => h); have s5 := hq.size; have s3 := HC3.out.size; have s1 := HC.out.size; try (have hx5 := HZq.out _ _ hc5; obtain ⟨e0, e1, e2, e3, e4, e5, e6, e7, e8, e9, e10, e11⟩ := cells12 hx5; have e12 := free_at hx5)))
                  all_goals first
                    | (obtain ⟨w6, hw6⟩ : ∃ w6, w6 = w5.alloc (.cells #[.int .i64 5, .int .i64 0, .int .i64 0, .int .i64 0, .int .i64 0, .int .i64 0, .string ⟨#[]⟩, .string ⟨#[]⟩, .slice none 0 0, .int .i64 0, .int .i64 0, .slice A5 (Ev.strikes c a st).length c5] 37) := ⟨_, rfl⟩
                       have hx6 : w6.heap[w5.heap.size]? = some (.cells #[.int .i64 5, .int .i64 0, .int .i64 0, .int .i64 0, .int .i64 0, .int .i64 0, .string ⟨#[]⟩, .string ⟨#[]⟩, .slice none 0 0, .int .i64 0, .int .i64 0, .slice A5 (Ev.strikes c a st).length c5] 37 (0, 0)) := by rw [hw6]; exact heap_new w5 _
                       have hq6 : Chg (fun _ => False) w3 w6 := by rw [hw6]; exact hq.alloc _
                       have hR6 : strikesK.rel (fun k => w3.heap.size ≤ k ∧ k < w6.heap.size ∧ k ≠ w5.heap.size) w6 (Ev.strikes c a st) [.slice A5 (Ev.strikes c a st).length c5] := by
                         rw [hw6]
                         exact strikesK.mono (fun k hk => ⟨hk.1, by simp only [World.size_alloc]; have := hk.2; omega, by have := hk.2; omega⟩) (strikesK.move (fun k hk => Below.heap_alloc _ _ _ hk.2) ho5.reads)
                       rw [← hw6]
                       clear hw6
                       obtain ⟨xb, hxb⟩ : ∃ xb, xb = w5.heap.size := ⟨_, rfl⟩
                       rw [← hxb] at hx6 hR6 ⊢
                       have HXl : Hid (w3.heap.size ≤ xb) := by show _ ≤ _; omega
                       clear hxb)
                    | (obtain ⟨w6, hw6⟩ : ∃ w6, w6 = ((((((((((((w5.setCell ⟨w3.heap.size, 0, none⟩ (.int .i64 5)).setCell ⟨w3.heap.size, 1, none⟩ (.int .i64 0)).setCell ⟨w3.heap.size, 2, none⟩ (.int .i64 0)).setCell ⟨w3.heap.size, 3, none⟩ (.int .i64 0)).setCell ⟨w3.heap.size, 4, none⟩ (.int .i64 0)).setCell ⟨w3.heap.size, 5, none⟩ (.int .i64 0)).setCell ⟨w3.heap.size, 6, none⟩ (.string ⟨#[]⟩)).setCell ⟨w3.heap.size, 7, none⟩ (.string ⟨#[]⟩)).setCell ⟨w3.heap.size, 8, none⟩ (.slice none 0 0)).setCell ⟨w3.heap.size, 9, none⟩ (.int .i64 0)).setCell ⟨w3.heap.size, 10, none⟩ (.int .i64 0)).setCell ⟨w3.heap.size, 11, none⟩ (.slice A5 (Ev.strikes c a st).length c5)) := ⟨_, rfl⟩
                       have hx6 : w6.heap[w3.heap.size]? = some (.cells #[.int .i64 5, .int .i64 0, .int .i64 0, .int .i64 0, .int .i64 0, .int .i64 0, .string ⟨#[]⟩, .string ⟨#[]⟩, .slice none 0 0, .int .i64 0, .int .i64 0, .slice A5 (Ev.strikes c a st).length c5] 37 (0, 0)) := by rw [hw6]; exact set12h hx5
                       have hq6 : Chg (fun _ => False) w3 w6 := by rw [hw6]; exact set12 (Nat.le_refl _) hq
                       have hs6 : w6.heap.size = w5.heap.size := by rw [hw6]; simp [World.setCell]
                       have hb6 : Chg (fun k => k = w3.heap.size) w5 w6 := by rw [hw6]; exact set12c
                       have hR6 : strikesK.rel (fun k => w3.heap.size ≤ k ∧ k < w6.heap.size ∧ k ≠ w3.heap.size) w6 (Ev.strikes c a st) [.slice A5 (Ev.strikes c a st).length c5] := by
                         refine strikesK.mono (fun k hk => ?_) (strikesK.move (fun k hk => hb6.block k hk.2 (fun he => ?_)) ho5.reads)
                         · have h1 := hk.1; simp only [World.drew, World.size_alloc] at h1; exact ⟨by omega, by rw [hs6]; exact hk.2, by omega⟩
                         · have h1 := hk.1; simp only [World.drew, World.size_alloc] at h1; omega
                       rw [← hw6]
                       clear hw6 hs6 hb6 hx5 e0 e1 e2 e3 e4 e5 e6 e7 e8 e9 e10 e11 e12
                       obtain ⟨xb, hxb⟩ : ∃ xb, xb = w3.heap.size := ⟨_, rfl⟩
                       rw [← hxb] at hx6 hR6 ⊢
                       have HXl : Hid (w3.heap.size ≤ xb) := by show _ ≤ _; omega
                       clear hxb)
                  all_goals
                    have hp6 : ∀ j v, w3.cell? ⟨wo.heap.size, j, none⟩ = some v → w6.cell? ⟨wo.heap.size, j, none⟩ = some v := fun j v h => (World.cell?_of_block (hq6.block wo.heap.size z3 (fun he => he)) (a := ⟨wo.heap.size, j, none⟩)).trans h
                    have hk6 : ∀ j v, w3.cell? ⟨w.heap.size, j, none⟩ = some v → w6.cell? ⟨w.heap.size, j, none⟩ = some v := fun j v h => (World.cell?_of_block (hq6.block w.heap.size z2 (fun he => he)) (a := ⟨w.heap.size, j, none⟩)).trans h
                    have q0 := hp6 _ _ p0
                    have q10 := hp6 _ _ p10
                    have t0 := hk6 _ _ k0
                    have t1 := hk6 _ _ k1
                    have t2 := hk6 _ _ k2
                    have z6 := lt_of _ hx6
                    have z7 := hq6.size
                    clear hp6 hk6 p0 p1 p2 p3 p4 p5 p6 p7 p8 p9 p10 p11 k0 k1 k2 hq ho5 hc5 HStr HSk HZq HPl
                    have HX6 := Lib.hid hx6
                    have HQ6 := Lib.hid hq6
                    have hxlow : w3.heap.size ≤ xb := HXl.out
                    obtain ⟨x0, x1, x2, x3, x4, x5, x6, x7, x8, x9, x10, x11⟩ := cells12 hx6
                    have CB : Hid (Chg (fun _ => False) wo w6) := HC3.out.trans hq6 (fun _ _ h => h)
                    clear hx6 hq6 q10 t0 t1 t2
                    have HN : Hid (purge1 c a ⟨5, ss, ⟨rk, lf, nb, rp, ky, tt, vl, lm⟩, pl, st⟩ = some ⟨5, 0, Req.zero, 0, Ev.strikes c a st⟩) := by show _ = _; unfold purge1; rw [if_neg (by rw [HMy.out]; simp), if_neg (by simp), if_neg (by simp)]
                    go_wp2_with (at_builtin; refine ap_push' rfl (.tmp 85) (.tmp 87) 28 rfl evK w1.heap.size 37 144 _ Try.underlying28 info_ev rfl (by decide) (by decide) (.slice Av ((s.take k).filterMap (purge1 c a)).length cv) ((s.take k).filterMap (purge1 c a)) rfl (HO.out.up CB.out) ⟨5, 0, Req.zero, 0, Ev.strikes c a st⟩ _ _ rfl ?aG ?aR ?aL ?aB ?_; (case aG => simp [World.setCell]); (case aR => exact ⟨_, _, rfl, nil_rel, strikesK.mono (fun j hj => ⟨by have := HC.out.size; have := HC3.out.size; omega, by (try simp only [World.setCell, Array.size_modify]); have := hj.2.1; omega, fun he => by have := (HO.out.low _ he).2; have := HC3.out.size; omega⟩) (strikesK.move (fun j hj => rfl) hR6)⟩); (case aL => omega); (case aB => (try simp only [World.setCell, Array.size_modify]); have := HC.out.size; have := HC3.out.size; omega); intro v8 w8 o8 ch8; obtain ⟨A8, c8, e8⟩ := o8.form; subst e8)
                    go_roundw
                    case rel => exact ⟨k + 1, by omega, by go_num, by rw [fm_some HX.out HN.out]; have o9 := o8; simp only [List.length_append, List.length_singleton] at o9; exact o9, (HC.out.trans CB.out (fun _ _ h => h)).trans ch8 (fun j hj he => by have := (HO.out.low j he).1; omega)⟩
                    case measure => simp [intOf]; omega
                · have := may_kinds HMy.out
                  simp only at this
                  omega
    · go_wp2
      go_ret
      have hkk : k = s.length := by omega
      have ho := HO.out
      rw [hkk, List.take_length] at ho
      exact ⟨_, rfl, by rw [hkk, List.take_length]; exact ho.base_le C1.out.size, C1.out.trans HC.out (fun _ _ h => h)⟩
end
end Go.Proofs.Ytchlolgfahgdeaa.Epr
