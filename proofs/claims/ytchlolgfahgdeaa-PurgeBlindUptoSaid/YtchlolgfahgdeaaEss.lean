/- Still by contracts. Conditions: what comes in reads so. -/
import Derived.Test.YtchlolgfahgdeaaEpf
import Derived.Test.YtchlolgfahgdeaaEcp
import Derived.Test.YtchlolgfahgdeaaEn
set_option linter.unusedVariables false
set_option linter.unusedSimpArgs false
namespace Go.Proofs.Ytchlolgfahgdeaa.Ess
open Go.RowKit Go.Proofs.Ytchlolgfahgdeaa.Lib1 Go.Proofs.Ytchlolgfahgdeaa.Rel Go.Proofs.Ytchlolgfahgdeaa.Own Go.Proofs.Ytchlolgfahgdeaa.Ev Go.Proofs.Ytchlolgfahgdeaa.Ek Go.Proofs.Ytchlolgfahgdeaa.Ec Go.Proofs.Ytchlolgfahgdeaa.Em Go.Proofs.Ytchlolgfahgdeaa.En Go.Proofs.Ytchlolgfahgdeaa.Epf Go.Proofs.Ytchlolgfahgdeaa.Lat Go.Proofs.Ytchlolgfahgdeaa.Lbl Go.Proofs.Ytchlolgfahgdeaa.Lbw Go.Proofs.Ytchlolgfahgdeaa.Lck Go.Proofs.Ytchlolgfahgdeaa.Lmay
section
variable {ok : Nat → Prop} {w : World} {A1 A2 A3 : Option Addr} {n1 n2 n3 c1 c2 c3 : Nat} {c : Cfg}

set_option maxRecDepth 100000 in
set_option maxHeartbeats 16000000 in
theorem rstill_any (h : CfgAt ok w A1 A2 A3 n1 n2 n3 c1 c2 c3 c) (hok : ∀ k, ok k → k < w.heap.size) (hcf : cfgFits c) (s : List Ev) (A : Option Addr) (n cc : Nat) (hr : evsK.rel ok w s [.slice A n cc]) (hf : evsK.fits s) :
    Calls Try.prog 23 #[.agg #[.slice A1 n1 c1, .slice A2 n2 c2, .slice A3 n3 c3], .slice A n cc] w fun e w' => ∃ v, e = .returned v ∧ OwnL evK 37 w.heap.size w' v (Ev.still c s) ∧ Chg (fun _ => False) w w' := by
  have hl : s.length * 144 ≤ 140737488351232 := hf.1
  obtain ⟨A0, c0, e0, -⟩ := slice_form hr
  simp only [List.cons.injEq, Value.slice.injEq, and_true] at e0
  obtain ⟨rfl, rfl, rfl⟩ := e0
  have HMay : Hid (∀ W, Chg (fun _ => False) w W → ∀ (x : Ev) (AV AS : Option Addr) (nV cV nS cS : Nat), Calls Try.prog 17 #[.agg #[.slice A1 n1 c1, .slice A2 n2 c2, .slice A3 n3 c3], .agg (evCs x (.slice AV nV cV) (.slice AS nS cS)).toArray] W fun e w' => e = .returned (.bool (may c x)) ∧ Chg (fun _ => False) W w') :=
    fun W hW x AV AS nV cV nS cS => rmayE_any (cfg_up h hok hW) (fun j hj => Nat.lt_of_lt_of_le (hok j hj) hW.size) hcf x AV AS nV cV nS cS
  have HR : Hid (∀ w', Chg (fun _ => False) w w' → evsK.rel ok w' s [.slice A s.length cc]) := fun w' hc => evsK.move (fun k hk => hc.block k (hok k hk) (fun h => h)) hr
  have HOK := Lib.hid hok
  have HF := Lib.hid hf
  clear hr hok hf h hcf
  obtain ⟨w1, hw1⟩ : ∃ w1, w1 = w.alloc (.cells #[.slice A1 n1 c1, .slice A2 n2 c2, .slice A3 n3 c3] 27) := ⟨_, rfl⟩
  have HW1 := Lib.hid hw1
  have C1 : Hid (Chg (fun _ => False) w w1) := by show Chg _ _ _; rw [hw1]; exact (Chg.refl _ w).alloc _
  have B1 : Hid (w1.heap[w.heap.size]? = some (.cells #[.slice A1 n1 c1, .slice A2 n2 c2, .slice A3 n3 c3] 27 (0, 0))) := by show _ = _; rw [hw1]; exact heap_new w _
  clear hw1
  go_enter Try.func23, Try.ntmps23
  go_wp2
  go_loopw [5, 6] (fun v i wr => PuRel w1 (still1 c) s v i wr) (fun _ i _ => s.length - (intOf i).toNat)
  case atStart => exact ⟨0, Nat.zero_le _, rfl, OwnL.nil _ _ _ _, by rw [← HW1.out]; exact Chg.refl _ _⟩
  case round =>
    obtain ⟨wo, rfl⟩ : ∃ wo : World, wo = wr := ⟨_, rfl⟩
    obtain ⟨k, hk, rfl, ho, hc⟩ := hrel
    have hfl := fm_len (still1 c) s k hk
    have HO := Lib.hid ho
    obtain ⟨Av, cv, ev⟩ := ho.form
    subst ev
    have hco := hc.size
    have HC := Lib.hid hc
    have HCo := Lib.hid (C1.out.trans hc (fun _ _ h => h))
    have b1 := hc.at_ B1.out (fun h => h)
    have z1 := lt_of _ b1
    have k0 := cell_at b1 0 rfl
    have k1 := cell_at b1 1 rfl
    have k2 := cell_at b1 2 rfl
    clear ho hc b1
    by_cases hlt : k < s.length
    · have hx : s[k]? = some s[k] := List.getElem?_eq_getElem hlt
      have HX := Lib.hid hx
      obtain ⟨g, off, cs, rfl, hg, hrel, hra⟩ := elem_of _ ok (HR.out _ HCo.out) hx
      have HFx := Lib.hid (fits_at HF.out hx)
      generalize s[k] = x at *
      have hgw : g < wo.heap.size := Nat.lt_of_lt_of_le (HOK.out g hg) HCo.out.size
      have HCop : Hid (∀ W, Chg (fun _ => False) wo W → Calls Try.prog 16 #[.agg cs.toArray] W fun e w' => ∃ ys, e = .returned (.agg ys.toArray) ∧ evK.rel (fun k => W.heap.size ≤ k ∧ k < w'.heap.size) w' x ys ∧ Chg (fun _ => False) W w') :=
        fun W hW => copy_ev W ok x cs (evK.move (fun j hj => hW.block j (Nat.lt_of_lt_of_le (HOK.out j hj) HCo.out.size) (fun h => h)) hrel) (fun j hj => Nat.lt_of_lt_of_le (Nat.lt_of_lt_of_le (HOK.out j hj) HCo.out.size) hW.size) HFx.out
      obtain ⟨AV, nV, cV, AS, nS, cS, ecs⟩ := ev_form hrel
      subst ecs
      obtain ⟨p0, p1, p2, p3, p4, p5, p6, p7, p8, p9, p10, p11⟩ := range12 (o := off + k * 12) hra
      have HMx := Lib.hid (fun W hW => HMay.out W hW x AV AS nV cV nS cS)
      clear hra hx hg hrel
      obtain ⟨kd, ss, ⟨rk, lf, nb, rp, ky, tt, vl, lm⟩, pl, st⟩ := x
      simp only [evCs] at *
      have i4 : (k : Int) < (s.length : Int) := by omega
      have i5 : (0 : Int) ≤ (k : Int) := by omega
      go_wp2_with fail
      have y0 := fun q => cell_later k0 q
      have y1 := fun q => cell_later k1 q
      have y2 := fun q => cell_later k2 q
      have y3 := fun q => cell_later p0 q
      have y4 := fun q => cell_later p1 q
      have y5 := fun q => cell_later p2 q
      have y6 := fun q => cell_later p3 q
      have y7 := fun q => cell_later p4 q
      have y8 := fun q => cell_later p5 q
      have y9 := fun q => cell_later p6 q
      have y10 := fun q => cell_later p7 q
      have y11 := fun q => cell_later p8 q
      have y12 := fun q => cell_later p9 q
      have y13 := fun q => cell_later p10 q
      have y14 := fun q => cell_later p11 q
      refine wp_region_later (by kernel_rfl) (by kernel_rfl) ?_
      repeat (any_goals (go_big_quiet_step (first | (go_at_call 17; with_reducible exact of_later (HMx.out _ (HCo.out.trans (Later.chg _) (fun _ _ h => h)))))))
      refine wpQuiet_nil ?_
      intro w3 hw'
      obtain ⟨⟨w9, hc3⟩, hw''⟩ := hw'
      subst hw''
      clear y0 y1 y2 y3 y4 y5 y6 y7 y8 y9 y10 y11 y12 y13 y14
      have hp : ∀ o v, wo.cell? ⟨g, o, none⟩ = some v → w3.cell? ⟨g, o, none⟩ = some v := fun o v h => (World.cell?_of_block (hc3.block g hgw (fun h => h)) (a := ⟨g, o, none⟩)).trans h
      replace p0 := hp _ _ p0
      replace p1 := hp _ _ p1
      replace p2 := hp _ _ p2
      replace p3 := hp _ _ p3
      replace p4 := hp _ _ p4
      replace p5 := hp _ _ p5
      replace p6 := hp _ _ p6
      replace p7 := hp _ _ p7
      replace p8 := hp _ _ p8
      replace p9 := hp _ _ p9
      replace p10 := hp _ _ p10
      replace p11 := hp _ _ p11
      have HC3 := Lib.hid hc3
      clear hp hc3
      have hs3 := HC3.out.size
      cases hmay : may c ⟨kd, ss, ⟨rk, lf, nb, rp, ky, tt, vl, lm⟩, pl, st⟩ with
      | false =>
        have HN : Hid (still1 c ⟨kd, ss, ⟨rk, lf, nb, rp, ky, tt, vl, lm⟩, pl, st⟩ = none) := by show _ = _; unfold still1; rw [if_pos hmay]
        clear hmay
        go_wp2
        go_roundw
        case rel => exact ⟨k + 1, by omega, by go_num, by rw [fm_none HX.out HN.out]; exact HO.out.up HC3.out, HC.out.trans HC3.out (fun _ _ h => h)⟩
        case measure => simp [intOf]; omega
      | true =>
        have HMy := Lib.hid hmay
        clear hmay
        have HCx := Lib.hid (HCop.out w3 HC3.out)
        by_cases hkx : kd = 3
        · subst hkx
          have HN : Hid (still1 c ⟨3, ss, ⟨rk, lf, nb, rp, ky, tt, vl, lm⟩, pl, st⟩ = some ⟨5, 0, Req.zero, 0, st⟩) := by show _ = _; unfold still1; rw [if_neg (by rw [HMy.out]; simp), if_pos (by simp)]
          go_wp2_with fail
          refine HCx.out.mono ?_
          rintro e w4 ⟨ys, rfl, hy, hc4⟩
          have HY := Lib.hid hy
          obtain ⟨AV', nV', cV', AS', nS', cS', ecs⟩ := ev_form hy
          subst ecs
          have HC4 := Lib.hid hc4
          have hs4 := hc4.size
          clear hy hc4
          go_wp2_with (at_builtin; refine ap_push' rfl (.tmp 37) (.tmp 39) 28 rfl evK w1.heap.size 37 144 _ Try.underlying28 info_ev rfl (by decide) (by decide) (.slice Av ((s.take k).filterMap (still1 c)).length cv) ((s.take k).filterMap (still1 c)) rfl (HO.out.up ((HC3.out.trans HC4.out (fun _ _ h => h)).alloc _)) ⟨5, 0, Req.zero, 0, st⟩ _ _ rfl ?aG ?aR ?aL ?aB ?_; (case aG => simp only [World.size_alloc]); (case aR => (obtain ⟨V9, S9, e9, hv9, hs9⟩ := HY.out; simp only [evCs, List.cons.injEq, and_true, true_and] at e9; obtain ⟨rfl, rfl⟩ := e9; exact ⟨_, _, rfl, nil_rel, strikesK.mono (fun j hj => ⟨by omega, by simp only [World.size_alloc]; omega, fun he => by have := (HO.out.low _ he).2; omega⟩) (strikesK.move (fun j hj => Below.heap_alloc _ _ _ hj.2) hs9)⟩)); (case aL => omega); (case aB => simp only [World.size_alloc]; omega); intro v8 w8 o8 ch8; obtain ⟨A8, c8, e8⟩ := o8.form; subst e8)
          go_roundw
          case rel => exact ⟨k + 1, by omega, by go_num, by rw [fm_some HX.out HN.out]; have o9 := o8; simp only [List.length_append, List.length_singleton] at o9; exact o9, (HC.out.trans ((HC3.out.trans HC4.out (fun _ _ h => h)).alloc _) (fun _ _ h => h)).trans ch8 (fun j hj he => by have := (HO.out.low j he).1; omega)⟩
          case measure => simp [intOf]; omega
        by_cases hkx : kd = 4
        · subst hkx
          have HN : Hid (still1 c ⟨4, ss, ⟨rk, lf, nb, rp, ky, tt, vl, lm⟩, pl, st⟩ = some ⟨5, 0, Req.zero, 0, st⟩) := by show _ = _; unfold still1; rw [if_neg (by rw [HMy.out]; simp), if_pos (by simp)]
          go_wp2_with fail
          refine HCx.out.mono ?_
          rintro e w4 ⟨ys, rfl, hy, hc4⟩
          have HY := Lib.hid hy
          obtain ⟨AV', nV', cV', AS', nS', cS', ecs⟩ := ev_form hy
          subst ecs
          have HC4 := Lib.hid hc4
          have hs4 := hc4.size
          clear hy hc4
          go_wp2_with (at_builtin; refine ap_push' rfl (.tmp 37) (.tmp 39) 28 rfl evK w1.heap.size 37 144 _ Try.underlying28 info_ev rfl (by decide) (by decide) (.slice Av ((s.take k).filterMap (still1 c)).length cv) ((s.take k).filterMap (still1 c)) rfl (HO.out.up ((HC3.out.trans HC4.out (fun _ _ h => h)).alloc _)) ⟨5, 0, Req.zero, 0, st⟩ _ _ rfl ?aG ?aR ?aL ?aB ?_; (case aG => simp only [World.size_alloc]); (case aR => (obtain ⟨V9, S9, e9, hv9, hs9⟩ := HY.out; simp only [evCs, List.cons.injEq, and_true, true_and] at e9; obtain ⟨rfl, rfl⟩ := e9; exact ⟨_, _, rfl, nil_rel, strikesK.mono (fun j hj => ⟨by omega, by simp only [World.size_alloc]; omega, fun he => by have := (HO.out.low _ he).2; omega⟩) (strikesK.move (fun j hj => Below.heap_alloc _ _ _ hj.2) hs9)⟩)); (case aL => omega); (case aB => simp only [World.size_alloc]; omega); intro v8 w8 o8 ch8; obtain ⟨A8, c8, e8⟩ := o8.form; subst e8)
          go_roundw
          case rel => exact ⟨k + 1, by omega, by go_num, by rw [fm_some HX.out HN.out]; have o9 := o8; simp only [List.length_append, List.length_singleton] at o9; exact o9, (HC.out.trans ((HC3.out.trans HC4.out (fun _ _ h => h)).alloc _) (fun _ _ h => h)).trans ch8 (fun j hj he => by have := (HO.out.low j he).1; omega)⟩
          case measure => simp [intOf]; omega
        have e3 : (kd == 3) = false := by rw [beq_eq_false_iff_ne]; assumption
        have e4 : (kd == 4) = false := by rw [beq_eq_false_iff_ne]; assumption
        have HN : Hid (still1 c ⟨kd, ss, ⟨rk, lf, nb, rp, ky, tt, vl, lm⟩, pl, st⟩ = some ⟨kd, ss, ⟨rk, lf, nb, rp, ky, tt, vl, lm⟩, pl, st⟩) := by show _ = _; unfold still1; rw [if_neg (by rw [HMy.out]; simp), if_neg (by simp only; omega)]
        go_wp2_with fail
        refine HCx.out.mono ?_
        rintro e w4 ⟨ys, rfl, hy, hc4⟩
        have HY := Lib.hid hy
        obtain ⟨AV', nV', cV', AS', nS', cS', ecs⟩ := ev_form hy
        subst ecs
        have HC4 := Lib.hid hc4
        have hs4 := hc4.size
        clear hy hc4
        go_wp2_with (at_builtin; refine ap_push' rfl (.tmp 37) (.tmp 39) 28 rfl evK w1.heap.size 37 144 _ Try.underlying28 info_ev rfl (by decide) (by decide) (.slice Av ((s.take k).filterMap (still1 c)).length cv) ((s.take k).filterMap (still1 c)) rfl (HO.out.up ((HC3.out.trans HC4.out (fun _ _ h => h)).alloc _)) ⟨kd, ss, ⟨rk, lf, nb, rp, ky, tt, vl, lm⟩, pl, st⟩ _ _ rfl ?aG ?aR ?aL ?aB ?_; (case aG => simp only [World.size_alloc]); (case aR => exact evK.mono (fun j hj => ⟨by omega, by simp only [World.size_alloc]; omega, fun he => by have := (HO.out.low _ he).2; omega⟩) (evK.move (fun j hj => Below.heap_alloc _ _ _ hj.2) HY.out)); (case aL => omega); (case aB => simp only [World.size_alloc]; omega); intro v8 w8 o8 ch8; obtain ⟨A8, c8, e8⟩ := o8.form; subst e8)
        go_roundw
        case rel => exact ⟨k + 1, by omega, by go_num, by rw [fm_some HX.out HN.out]; have o9 := o8; simp only [List.length_append, List.length_singleton] at o9; exact o9, (HC.out.trans ((HC3.out.trans HC4.out (fun _ _ h => h)).alloc _) (fun _ _ h => h)).trans ch8 (fun j hj he => by have := (HO.out.low j he).1; omega)⟩
        case measure => simp [intOf]; omega
    · go_wp2
      go_ret
      have hkk : k = s.length := by omega
      have ho := HO.out
      rw [hkk, List.take_length] at ho
      exact ⟨_, rfl, by rw [hkk, List.take_length]; exact ho.base_le C1.out.size, C1.out.trans HC.out (fun _ _ h => h)⟩

set_option maxRecDepth 100000 in
set_option maxHeartbeats 16000000 in
theorem pstill_any (h : CfgAt ok w A1 A2 A3 n1 n2 n3 c1 c2 c3 c) (hok : ∀ k, ok k → k < w.heap.size) (hcf : cfgFits c) (s : List Ev) (A : Option Addr) (n cc : Nat) (hr : evsK.rel ok w s [.slice A n cc]) (hf : evsK.fits s) :
    Calls Try.prog 22 #[.agg #[.slice A1 n1 c1, .slice A2 n2 c2, .slice A3 n3 c3], .slice A n cc] w fun e w' => ∃ v, e = .returned v ∧ OwnL evK 37 w.heap.size w' v (Ev.still c s) ∧ Chg (fun _ => False) w w' := by
  have hl : s.length * 144 ≤ 140737488351232 := hf.1
  obtain ⟨A0, c0, e0, -⟩ := slice_form hr
  simp only [List.cons.injEq, Value.slice.injEq, and_true] at e0
  obtain ⟨rfl, rfl, rfl⟩ := e0
  have HMay : Hid (∀ W, Chg (fun _ => False) w W → ∀ (x : Ev) (AV AS : Option Addr) (nV cV nS cS : Nat), Calls Try.prog 15 #[.agg #[.slice A1 n1 c1, .slice A2 n2 c2, .slice A3 n3 c3], .agg (evCs x (.slice AV nV cV) (.slice AS nS cS)).toArray] W fun e w' => e = .returned (.bool (may c x)) ∧ Chg (fun _ => False) W w') :=
    fun W hW x AV AS nV cV nS cS => mayE_any (cfg_up h hok hW) (fun j hj => Nat.lt_of_lt_of_le (hok j hj) hW.size) hcf x AV AS nV cV nS cS
  have HR : Hid (∀ w', Chg (fun _ => False) w w' → evsK.rel ok w' s [.slice A s.length cc]) := fun w' hc => evsK.move (fun k hk => hc.block k (hok k hk) (fun h => h)) hr
  have HOK := Lib.hid hok
  have HF := Lib.hid hf
  clear hr hok hf h hcf
  obtain ⟨w1, hw1⟩ : ∃ w1, w1 = w.alloc (.cells #[.slice A1 n1 c1, .slice A2 n2 c2, .slice A3 n3 c3] 27) := ⟨_, rfl⟩
  have HW1 := Lib.hid hw1
  have C1 : Hid (Chg (fun _ => False) w w1) := by show Chg _ _ _; rw [hw1]; exact (Chg.refl _ w).alloc _
  have B1 : Hid (w1.heap[w.heap.size]? = some (.cells #[.slice A1 n1 c1, .slice A2 n2 c2, .slice A3 n3 c3] 27 (0, 0))) := by show _ = _; rw [hw1]; exact heap_new w _
  clear hw1
  go_enter Try.func22, Try.ntmps22
  go_wp2
  go_loopw [5, 11] (fun v i wr => PuRel w1 (still1 c) s v i wr) (fun _ i _ => s.length - (intOf i).toNat)
  case atStart => exact ⟨0, Nat.zero_le _, rfl, OwnL.nil _ _ _ _, by rw [← HW1.out]; exact Chg.refl _ _⟩
  case round =>
    obtain ⟨wo, rfl⟩ : ∃ wo : World, wo = wr := ⟨_, rfl⟩
    obtain ⟨k, hk, rfl, ho, hc⟩ := hrel
    have hfl := fm_len (still1 c) s k hk
    have HO := Lib.hid ho
    obtain ⟨Av, cv, ev⟩ := ho.form
    subst ev
    have hco := hc.size
    have HC := Lib.hid hc
    have HCo := Lib.hid (C1.out.trans hc (fun _ _ h => h))
    have b1 := hc.at_ B1.out (fun h => h)
    have z1 := lt_of _ b1
    have k0 := cell_at b1 0 rfl
    have k1 := cell_at b1 1 rfl
    have k2 := cell_at b1 2 rfl
    clear ho hc b1
    by_cases hlt : k < s.length
    · have hx : s[k]? = some s[k] := List.getElem?_eq_getElem hlt
      have HX := Lib.hid hx
      obtain ⟨g, off, cs, rfl, hg, hrel, hra⟩ := elem_of _ ok (HR.out _ HCo.out) hx
      have HFx := Lib.hid (fits_at HF.out hx)
      generalize s[k] = x at *
      have hgw : g < wo.heap.size := Nat.lt_of_lt_of_le (HOK.out g hg) HCo.out.size
      have HCop : Hid (∀ W, Chg (fun _ => False) wo W → Calls Try.prog 47 #[.agg cs.toArray] W fun e w' => ∃ ys, e = .returned (.agg ys.toArray) ∧ evK.rel (fun k => W.heap.size ≤ k ∧ k < w'.heap.size) w' x ys ∧ Chg (fun _ => False) W w') :=
        fun W hW => copied_ev W ok x cs (evK.move (fun j hj => hW.block j (Nat.lt_of_lt_of_le (HOK.out j hj) HCo.out.size) (fun h => h)) hrel) (fun j hj => Nat.lt_of_lt_of_le (Nat.lt_of_lt_of_le (HOK.out j hj) HCo.out.size) hW.size) HFx.out
      obtain ⟨AV, nV, cV, AS, nS, cS, ecs⟩ := ev_form hrel
      subst ecs
      obtain ⟨p0, p1, p2, p3, p4, p5, p6, p7, p8, p9, p10, p11⟩ := range12 (o := off + k * 12) hra
      have HMx := Lib.hid (fun W hW => HMay.out W hW x AV AS nV cV nS cS)
      clear hra hx hg hrel
      obtain ⟨kd, ss, ⟨rk, lf, nb, rp, ky, tt, vl, lm⟩, pl, st⟩ := x
      simp only [evCs] at *
      have i4 : (k : Int) < (s.length : Int) := by omega
      have i5 : (0 : Int) ≤ (k : Int) := by omega
      go_wp2_with fail
      refine (HMx.out _ (HCo.out.alloc _)).mono ?_
      rintro e w3 ⟨rfl, hc3⟩
      have b1 := hc3.at_ (k := wo.heap.size) (heap_new _ _) (fun h => h)
      clear p0 p1 p2 p3 p4 p5 p6 p7 p8 p9 p10 p11
      obtain ⟨p0, p1, p2, p3, p4, p5, p6, p7, p8, p9, p10, p11⟩ := cells12 b1
      have HC3 := Lib.hid (((Chg.refl (fun _ => False) wo).alloc _).trans hc3 (fun _ _ h => h))
      clear hc3 b1
      have hs3 := HC3.out.size
      cases hmay : may c ⟨kd, ss, ⟨rk, lf, nb, rp, ky, tt, vl, lm⟩, pl, st⟩ with
      | false =>
        have HN : Hid (still1 c ⟨kd, ss, ⟨rk, lf, nb, rp, ky, tt, vl, lm⟩, pl, st⟩ = none) := by show _ = _; unfold still1; rw [if_pos hmay]
        clear hmay
        go_wp2
        go_roundw
        case rel => exact ⟨k + 1, by omega, by go_num, by rw [fm_none HX.out HN.out]; exact HO.out.up HC3.out, HC.out.trans HC3.out (fun _ _ h => h)⟩
        case measure => simp [intOf]; omega
      | true =>
        have HMy := Lib.hid hmay
        clear hmay
        have HCx := Lib.hid (HCop.out w3 HC3.out)
        by_cases hkx : kd = 3
        · subst hkx
          have HN : Hid (still1 c ⟨3, ss, ⟨rk, lf, nb, rp, ky, tt, vl, lm⟩, pl, st⟩ = some ⟨5, 0, Req.zero, 0, st⟩) := by show _ = _; unfold still1; rw [if_neg (by rw [HMy.out]; simp), if_pos (by simp)]
          go_wp2_with fail
          refine HCx.out.mono ?_
          rintro e w4 ⟨ys, rfl, hy, hc4⟩
          have HY := Lib.hid hy
          obtain ⟨AV', nV', cV', AS', nS', cS', ecs⟩ := ev_form hy
          subst ecs
          have HC4 := Lib.hid hc4
          have hs4 := hc4.size
          clear hy hc4
          go_wp2_with (at_builtin; refine ap_push' rfl (.tmp 32) (.tmp 34) 28 rfl evK w1.heap.size 37 144 _ Try.underlying28 info_ev rfl (by decide) (by decide) (.slice Av ((s.take k).filterMap (still1 c)).length cv) ((s.take k).filterMap (still1 c)) rfl (HO.out.up ((HC3.out.trans HC4.out (fun _ _ h => h)).alloc _)) ⟨5, 0, Req.zero, 0, st⟩ _ _ rfl ?aG ?aR ?aL ?aB ?_; (case aG => simp only [World.size_alloc]); (case aR => (obtain ⟨V9, S9, e9, hv9, hs9⟩ := HY.out; simp only [evCs, List.cons.injEq, and_true, true_and] at e9; obtain ⟨rfl, rfl⟩ := e9; exact ⟨_, _, rfl, nil_rel, strikesK.mono (fun j hj => ⟨by omega, by simp only [World.size_alloc]; omega, fun he => by have := (HO.out.low _ he).2; omega⟩) (strikesK.move (fun j hj => Below.heap_alloc _ _ _ hj.2) hs9)⟩)); (case aL => omega); (case aB => simp only [World.size_alloc]; omega); intro v8 w8 o8 ch8; obtain ⟨A8, c8, e8⟩ := o8.form; subst e8)
          go_roundw
          case rel => exact ⟨k + 1, by omega, by go_num, by rw [fm_some HX.out HN.out]; have o9 := o8; simp only [List.length_append, List.length_singleton] at o9; exact o9, (HC.out.trans ((HC3.out.trans HC4.out (fun _ _ h => h)).alloc _) (fun _ _ h => h)).trans ch8 (fun j hj he => by have := (HO.out.low j he).1; omega)⟩
          case measure => simp [intOf]; omega
        by_cases hkx : kd = 4
        · subst hkx
          have HN : Hid (still1 c ⟨4, ss, ⟨rk, lf, nb, rp, ky, tt, vl, lm⟩, pl, st⟩ = some ⟨5, 0, Req.zero, 0, st⟩) := by show _ = _; unfold still1; rw [if_neg (by rw [HMy.out]; simp), if_pos (by simp)]
          go_wp2_with fail
          refine HCx.out.mono ?_
          rintro e w4 ⟨ys, rfl, hy, hc4⟩
          have HY := Lib.hid hy
          obtain ⟨AV', nV', cV', AS', nS', cS', ecs⟩ := ev_form hy
          subst ecs
          have HC4 := Lib.hid hc4
          have hs4 := hc4.size
          clear hy hc4
          go_wp2_with (at_builtin; refine ap_push' rfl (.tmp 32) (.tmp 34) 28 rfl evK w1.heap.size 37 144 _ Try.underlying28 info_ev rfl (by decide) (by decide) (.slice Av ((s.take k).filterMap (still1 c)).length cv) ((s.take k).filterMap (still1 c)) rfl (HO.out.up ((HC3.out.trans HC4.out (fun _ _ h => h)).alloc _)) ⟨5, 0, Req.zero, 0, st⟩ _ _ rfl ?aG ?aR ?aL ?aB ?_; (case aG => simp only [World.size_alloc]); (case aR => (obtain ⟨V9, S9, e9, hv9, hs9⟩ := HY.out; simp only [evCs, List.cons.injEq, and_true, true_and] at e9; obtain ⟨rfl, rfl⟩ := e9; exact ⟨_, _, rfl, nil_rel, strikesK.mono (fun j hj => ⟨by omega, by simp only [World.size_alloc]; omega, fun he => by have := (HO.out.low _ he).2; omega⟩) (strikesK.move (fun j hj => Below.heap_alloc _ _ _ hj.2) hs9)⟩)); (case aL => omega); (case aB => simp only [World.size_alloc]; omega); intro v8 w8 o8 ch8; obtain ⟨A8, c8, e8⟩ := o8.form; subst e8)
          go_roundw
          case rel => exact ⟨k + 1, by omega, by go_num, by rw [fm_some HX.out HN.out]; have o9 := o8; simp only [List.length_append, List.length_singleton] at o9; exact o9, (HC.out.trans ((HC3.out.trans HC4.out (fun _ _ h => h)).alloc _) (fun _ _ h => h)).trans ch8 (fun j hj he => by have := (HO.out.low j he).1; omega)⟩
          case measure => simp [intOf]; omega
        have e3 : (kd == 3) = false := by rw [beq_eq_false_iff_ne]; assumption
        have e4 : (kd == 4) = false := by rw [beq_eq_false_iff_ne]; assumption
        have HN : Hid (still1 c ⟨kd, ss, ⟨rk, lf, nb, rp, ky, tt, vl, lm⟩, pl, st⟩ = some ⟨kd, ss, ⟨rk, lf, nb, rp, ky, tt, vl, lm⟩, pl, st⟩) := by show _ = _; unfold still1; rw [if_neg (by rw [HMy.out]; simp), if_neg (by simp only; omega)]
        go_wp2_with fail
        refine HCx.out.mono ?_
        rintro e w4 ⟨ys, rfl, hy, hc4⟩
        have HY := Lib.hid hy
        obtain ⟨AV', nV', cV', AS', nS', cS', ecs⟩ := ev_form hy
        subst ecs
        have HC4 := Lib.hid hc4
        have hs4 := hc4.size
        clear hy hc4
        go_wp2_with (at_builtin; refine ap_push' rfl (.tmp 32) (.tmp 34) 28 rfl evK w1.heap.size 37 144 _ Try.underlying28 info_ev rfl (by decide) (by decide) (.slice Av ((s.take k).filterMap (still1 c)).length cv) ((s.take k).filterMap (still1 c)) rfl (HO.out.up ((HC3.out.trans HC4.out (fun _ _ h => h)).alloc _)) ⟨kd, ss, ⟨rk, lf, nb, rp, ky, tt, vl, lm⟩, pl, st⟩ _ _ rfl ?aG ?aR ?aL ?aB ?_; (case aG => simp only [World.size_alloc]); (case aR => exact evK.mono (fun j hj => ⟨by omega, by simp only [World.size_alloc]; omega, fun he => by have := (HO.out.low _ he).2; omega⟩) (evK.move (fun j hj => Below.heap_alloc _ _ _ hj.2) HY.out)); (case aL => omega); (case aB => simp only [World.size_alloc]; omega); intro v8 w8 o8 ch8; obtain ⟨A8, c8, e8⟩ := o8.form; subst e8)
        go_roundw
        case rel => exact ⟨k + 1, by omega, by go_num, by rw [fm_some HX.out HN.out]; have o9 := o8; simp only [List.length_append, List.length_singleton] at o9; exact o9, (HC.out.trans ((HC3.out.trans HC4.out (fun _ _ h => h)).alloc _) (fun _ _ h => h)).trans ch8 (fun j hj he => by have := (HO.out.low j he).1; omega)⟩
        case measure => simp [intOf]; omega
    · go_wp2
      go_ret
      have hkk : k = s.length := by omega
      have ho := HO.out
      rw [hkk, List.take_length] at ho
      exact ⟨_, rfl, by rw [hkk, List.take_length]; exact ho.base_le C1.out.size, C1.out.trans HC.out (fun _ _ h => h)⟩
end
end Go.Proofs.Ytchlolgfahgdeaa.Ess
