/- Lists of events compared, by the reference and by the program: by contracts. Conditions: what comes in reads so. -/
import Derived.Test.YtchlolgfahgdeaaEse
set_option linter.unusedVariables false
set_option linter.unusedSimpArgs false
namespace Go.Proofs.Ytchlolgfahgdeaa.Esq
open Go.RowKit Go.Proofs.Ytchlolgfahgdeaa.Lib1 Go.Proofs.Ytchlolgfahgdeaa.Rel Go.Proofs.Ytchlolgfahgdeaa.Own Go.Proofs.Ytchlolgfahgdeaa.Ev Go.Proofs.Ytchlolgfahgdeaa.Ek Go.Proofs.Ytchlolgfahgdeaa.Ec Go.Proofs.Ytchlolgfahgdeaa.Efe Go.Proofs.Ytchlolgfahgdeaa.Esm Go.Proofs.Ytchlolgfahgdeaa.Epe Go.Proofs.Ytchlolgfahgdeaa.Em Go.Proofs.Ytchlolgfahgdeaa.En Go.Proofs.Ytchlolgfahgdeaa.Lat Go.Proofs.Ytchlolgfahgdeaa.Lbw Go.Proofs.Ytchlolgfahgdeaa.Ebe Go.Proofs.Ytchlolgfahgdeaa.Eal Go.Proofs.Ytchlolgfahgdeaa.Es1 Go.Proofs.Ytchlolgfahgdeaa.Ese

/-- An event's two lists. -/
theorem ev_parts {ok : Nat → Prop} {w : World} {x : Ev} {cs : List Value} (h : evK.rel ok w x cs) : ∃ A a C c, cs = evCs x (.slice A x.req.value.length a) (.slice C x.strikes.length c) ∧ bytesK.rel ok w x.req.value [.slice A x.req.value.length a] ∧ strikesK.rel ok w x.strikes [.slice C x.strikes.length c] := by
  obtain ⟨V, S, rfl, hV, hS⟩ := h
  obtain ⟨AV, cV, eV, -⟩ := slice_form hV
  obtain ⟨AS, cS, eS, -⟩ := slice_form hS
  simp only [List.cons.injEq, and_true] at eV eS
  subst eV eS
  exact ⟨_, _, _, _, rfl, hV, hS⟩
section
variable {ok : Nat → Prop} {w : World}
theorem samee_ev (x y : Ev) (cs ds : List Value) (hx : evK.rel ok w x cs) (hy : evK.rel ok w y ds) (hok : ∀ k, ok k → k < w.heap.size) (hf : evK.fits x) (hg : evK.fits y) :
    Calls Try.prog 39 #[.agg cs.toArray, .agg ds.toArray] w fun e w' => e = .returned (.bool (decide (x = y))) ∧ Chg (fun _ => False) w w' := by
  obtain ⟨A, a, C, c, rfl, h1, h2⟩ := ev_parts hx
  obtain ⟨B, b, D, d, rfl, h3, h4⟩ := ev_parts hy
  exact samee_any x y A B C D a b c d hok h1 h3 h2 h4 hf.2 hg.2
theorem same1_ev (x y : Ev) (cs ds : List Value) (hx : evK.rel ok w x cs) (hy : evK.rel ok w y ds) (hok : ∀ k, ok k → k < w.heap.size) (hf : evK.fits x) (hg : evK.fits y) :
    Calls Try.prog 49 #[.agg cs.toArray, .agg ds.toArray] w fun e w' => e = .returned (.bool (decide (x = y))) ∧ Chg (fun _ => False) w w' := by
  obtain ⟨A, a, C, c, rfl, h1, h2⟩ := ev_parts hx
  obtain ⟨B, b, D, d, rfl, h3, h4⟩ := ev_parts hy
  exact same1_any x y A B C D a b c d hok h1 h3 h2 h4 hf.2 hg.2
set_option maxRecDepth 100000 in
set_option maxHeartbeats 3200000 in
theorem rsame_any (s t : List Ev) (A B : Option Addr) (n m c d : Nat) (hs : evsK.rel ok w s [.slice A n c]) (ht : evsK.rel ok w t [.slice B m d]) (hok : ∀ k, ok k → k < w.heap.size) (hf : evsK.fits s) (hg : evsK.fits t) :
    Calls Try.prog 18 #[.slice A n c, .slice B m d] w fun e w' => e = .returned (.bool (decide (s = t))) ∧ Chg (fun _ => False) w w' := by
  have hl : s.length * 144 ≤ 140737488351232 := hf.1
  have hl2 : t.length * 144 ≤ 140737488351232 := hg.1
  obtain ⟨A0, c0, e0, -⟩ := slice_form hs
  simp only [List.cons.injEq, Value.slice.injEq, and_true] at e0
  obtain ⟨rfl, rfl, rfl⟩ := e0
  obtain ⟨B0, d0, e0, -⟩ := slice_form ht
  simp only [List.cons.injEq, Value.slice.injEq, and_true] at e0
  obtain ⟨rfl, rfl, rfl⟩ := e0
  have HS : Hid (∀ w', Chg (fun _ => False) w w' → evsK.rel ok w' s [.slice A s.length c]) := fun w' hc => evsK.move (fun k hk => hc.block k (hok k hk) (fun h => h)) hs
  have HT : Hid (∀ w', Chg (fun _ => False) w w' → evsK.rel ok w' t [.slice B t.length d]) := fun w' hc => evsK.move (fun k hk => hc.block k (hok k hk) (fun h => h)) ht
  have HOK := Lib.hid hok
  have HF := Lib.hid hf
  have HG := Lib.hid hg
  clear hs ht hok hf hg
  go_enter Try.func18, Try.ntmps18
  by_cases hst : s.length = t.length
  rotate_left
  · have b1 : ((s.length : Int) != (t.length : Int)) = true := by simp; omega
    have HNe : Hid (s ≠ t) := fun h => hst (by rw [h])
    clear hst
    go_wp2
    go_ret
    exact ⟨ret_bool (decide_eq_false HNe.out).symm, Chg.refl _ _⟩
  have HL := Lib.hid hst
  have b1 : ((s.length : Int) != (t.length : Int)) = false := by simp; omega
  go_wp2
  go_loopw [5] (fun i wr => ∃ k : Nat, k ≤ s.length ∧ i = .int .i64 k ∧ s.take k = t.take k ∧ Chg (fun _ => False) w wr) (fun i _ => s.length - (intOf i).toNat)
  case atStart => exact ⟨0, Nat.zero_le _, rfl, rfl, Chg.refl _ _⟩
  case round =>
    obtain ⟨wo, rfl⟩ : ∃ wo : World, wo = wr := ⟨_, rfl⟩
    obtain ⟨k, hk, rfl, hp, hc⟩ := hrel
    have HP := Lib.hid hp
    have HC := Lib.hid hc
    clear hp hc
    by_cases hlt : k < s.length
    · have hx : s[k]? = some s[k] := List.getElem?_eq_getElem hlt
      have hy : t[k]? = some (t[k]'(by omega)) := List.getElem?_eq_getElem (by omega)
      have HX := Lib.hid hx
      have HY := Lib.hid hy
      obtain ⟨g, off, cs, rfl, hg, hrel, hra⟩ := elem_of _ ok (HS.out _ HC.out) hx
      obtain ⟨g2, off2, cs2, rfl, hg2, hrel2, hra2⟩ := elem_of _ ok (HT.out _ HC.out) hy
      have hfx := fits_at HF.out hx
      have hgy := fits_at HG.out hy
      generalize s[k] = f at *
      generalize t[k] = f2 at *
      have HEq : Hid (∀ W, Chg (fun _ => False) wo W → Calls Try.prog 39 #[.agg cs.toArray, .agg cs2.toArray] W fun e w' => e = .returned (.bool (decide (f = f2))) ∧ Chg (fun _ => False) W w') :=
        fun W hW => samee_ev f f2 cs cs2 (evK.move (fun j hj => hW.block j (Nat.lt_of_lt_of_le (HOK.out j hj) HC.out.size) (fun h => h)) hrel) (evK.move (fun j hj => hW.block j (Nat.lt_of_lt_of_le (HOK.out j hj) HC.out.size) (fun h => h)) hrel2) (fun j hj => Nat.lt_of_lt_of_le (Nat.lt_of_lt_of_le (HOK.out j hj) HC.out.size) hW.size) hfx hgy
      have hgl : g < wo.heap.size := Nat.lt_of_lt_of_le (HOK.out g hg) HC.out.size
      have hgl2 : g2 < wo.heap.size := Nat.lt_of_lt_of_le (HOK.out g2 hg2) HC.out.size
      obtain ⟨AV, nV, cV, AS, nS, cS, ecs⟩ := ev_form hrel
      obtain ⟨AV2, nV2, cV2, AS2, nS2, cS2, ecs2⟩ := ev_form hrel2
      subst ecs ecs2
      obtain ⟨p0, p1, p2, p3, p4, p5, p6, p7, p8, p9, p10, p11⟩ := range12 (o := off + k * 12) hra
      obtain ⟨q0, q1, q2, q3, q4, q5, q6, q7, q8, q9, q10, q11⟩ := range12 (o := off2 + k * 12) hra2
      clear hra hra2 hx hy hg hg2 hrel hrel2 hst hfx hgy
      have HBt : Hid (decide (f = f2) = true → f = f2) := fun h => of_decide_eq_true h
      have HBf : Hid (decide (f = f2) = false → f ≠ f2) := fun h => of_decide_eq_false h
      generalize hbv : decide (f = f2) = bv at *
      clear hbv
      simp only [evCs] at *
      have i1 : (k : Int) < (s.length : Int) := by omega
      have i2 : (k : Int) < (t.length : Int) := by have := HL.out; omega
      have i5 : (0 : Int) ≤ (k : Int) := by omega
      go_wp2_with fail
      have y0 := fun q => cell_later p0 q
      have z0 := fun q => cell_later q0 q
      have y1 := fun q => cell_later p1 q
      have z1 := fun q => cell_later q1 q
      have y2 := fun q => cell_later p2 q
      have z2 := fun q => cell_later q2 q
      have y3 := fun q => cell_later p3 q
      have z3 := fun q => cell_later q3 q
      have y4 := fun q => cell_later p4 q
      have z4 := fun q => cell_later q4 q
      have y5 := fun q => cell_later p5 q
      have z5 := fun q => cell_later q5 q
      have y6 := fun q => cell_later p6 q
      have z6 := fun q => cell_later q6 q
      have y7 := fun q => cell_later p7 q
      have z7 := fun q => cell_later q7 q
      have y8 := fun q => cell_later p8 q
      have z8 := fun q => cell_later q8 q
      have y9 := fun q => cell_later p9 q
      have z9 := fun q => cell_later q9 q
      have y10 := fun q => cell_later p10 q
      have z10 := fun q => cell_later q10 q
      have y11 := fun q => cell_later p11 q
      have z11 := fun q => cell_later q11 q
      cases bv with
      | true =>
        refine wp_region_later (by kernel_rfl) (by kernel_rfl) ?_
        repeat (any_goals (go_big_quiet_step (first | (go_at_call 39; with_reducible exact of_later (HEq.out _ (Later.chg _))))))
        refine wpQuiet_nil ?_
        intro w3 hw'
        obtain ⟨⟨w9, hc3⟩, hw''⟩ := hw'
        subst hw''
        have HE2 : Hid (f = f2) := HBt.out rfl
        have HC3 := Lib.hid hc3
        clear hc3
        go_wp2
        go_roundw
        case rel => exact ⟨k + 1, by omega, by go_num, by have h1 := HX.out; have h2 := HY.out; rw [← HE2.out] at h2; exact take_eq_snoc h1 h2 HP.out, HC.out.trans HC3.out (fun _ _ h => h)⟩
        case measure => simp [intOf]; omega
      | false =>
        refine wp_region_later (by kernel_rfl) (by kernel_rfl) ?_
        repeat (any_goals (go_big_quiet_step (first | (go_at_call 39; with_reducible exact of_later (HEq.out _ (Later.chg _))))))
        refine wpQuiet_nil ?_
        intro w3 hw'
        obtain ⟨⟨w9, hc3⟩, hw''⟩ := hw'
        subst hw''
        have HNe : Hid (s ≠ t) := ne_at HX.out HY.out (HBf.out rfl)
        have HC3 := Lib.hid hc3
        clear hc3
        go_wp2
        go_ret
        exact ⟨ret_bool (decide_eq_false HNe.out).symm, HC.out.trans HC3.out (fun _ _ h => h)⟩
    · have HE : Hid (s = t) := eq_of_take HP.out (by omega) HL.out
      clear hst
      have hqt : ¬ (k < t.length) := by have := HL.out; omega
      go_wp2
      go_ret
      exact ⟨ret_bool (decide_eq_true HE.out).symm, HC.out⟩
set_option maxRecDepth 100000 in
set_option maxHeartbeats 3200000 in
theorem equalf_evs (s t : List Ev) (A B : Option Addr) (n m c d : Nat) (hs : evsK.rel ok w s [.slice A n c]) (ht : evsK.rel ok w t [.slice B m d]) (hok : ∀ k, ok k → k < w.heap.size) (hf : evsK.fits s) (hg : evsK.fits t) :
    Calls Try.prog 48 #[.slice A n c, .slice B m d, .func (.func 49) #[] #[]] w fun e w' => e = .returned (.bool (decide (s = t))) ∧ Chg (fun _ => False) w w' := by
  have hl : s.length * 144 ≤ 140737488351232 := hf.1
  have hl2 : t.length * 144 ≤ 140737488351232 := hg.1
  obtain ⟨A0, c0, e0, -⟩ := slice_form hs
  simp only [List.cons.injEq, Value.slice.injEq, and_true] at e0
  obtain ⟨rfl, rfl, rfl⟩ := e0
  obtain ⟨B0, d0, e0, -⟩ := slice_form ht
  simp only [List.cons.injEq, Value.slice.injEq, and_true] at e0
  obtain ⟨rfl, rfl, rfl⟩ := e0
  have HS : Hid (∀ w', Chg (fun _ => False) w w' → evsK.rel ok w' s [.slice A s.length c]) := fun w' hc => evsK.move (fun k hk => hc.block k (hok k hk) (fun h => h)) hs
  have HT : Hid (∀ w', Chg (fun _ => False) w w' → evsK.rel ok w' t [.slice B t.length d]) := fun w' hc => evsK.move (fun k hk => hc.block k (hok k hk) (fun h => h)) ht
  have HOK := Lib.hid hok
  have HF := Lib.hid hf
  have HG := Lib.hid hg
  clear hs ht hok hf hg
  go_enter Try.func48, Try.ntmps48
  by_cases hst : s.length = t.length
  rotate_left
  · have b1 : ((s.length : Int) != (t.length : Int)) = true := by simp; omega
    have HNe : Hid (s ≠ t) := fun h => hst (by rw [h])
    clear hst
    go_wp2
    go_ret
    exact ⟨ret_bool (decide_eq_false HNe.out).symm, Chg.refl _ _⟩
  have HL := Lib.hid hst
  have b1 : ((s.length : Int) != (t.length : Int)) = false := by simp; omega
  go_wp2
  go_loopw [17] (fun i wr => ∃ k : Nat, k ≤ s.length ∧ i = .int .i64 k ∧ s.take k = t.take k ∧ Chg (fun _ => False) w wr) (fun i _ => s.length - (intOf i).toNat)
  case atStart => exact ⟨0, Nat.zero_le _, rfl, rfl, Chg.refl _ _⟩
  case round =>
    obtain ⟨wo, rfl⟩ : ∃ wo : World, wo = wr := ⟨_, rfl⟩
    obtain ⟨k, hk, rfl, hp, hc⟩ := hrel
    have HP := Lib.hid hp
    have HC := Lib.hid hc
    clear hp hc
    by_cases hlt : k < s.length
    · have hx : s[k]? = some s[k] := List.getElem?_eq_getElem hlt
      have hy : t[k]? = some (t[k]'(by omega)) := List.getElem?_eq_getElem (by omega)
      have HX := Lib.hid hx
      have HY := Lib.hid hy
      obtain ⟨g, off, cs, rfl, hg, hrel, hra⟩ := elem_of _ ok (HS.out _ HC.out) hx
      obtain ⟨g2, off2, cs2, rfl, hg2, hrel2, hra2⟩ := elem_of _ ok (HT.out _ HC.out) hy
      have hfx := fits_at HF.out hx
      have hgy := fits_at HG.out hy
      generalize s[k] = f at *
      generalize t[k] = f2 at *
      have HEq : Hid (∀ W, Chg (fun _ => False) wo W → Calls Try.prog 49 #[.agg cs.toArray, .agg cs2.toArray] W fun e w' => e = .returned (.bool (decide (f = f2))) ∧ Chg (fun _ => False) W w') :=
        fun W hW => same1_ev f f2 cs cs2 (evK.move (fun j hj => hW.block j (Nat.lt_of_lt_of_le (HOK.out j hj) HC.out.size) (fun h => h)) hrel) (evK.move (fun j hj => hW.block j (Nat.lt_of_lt_of_le (HOK.out j hj) HC.out.size) (fun h => h)) hrel2) (fun j hj => Nat.lt_of_lt_of_le (Nat.lt_of_lt_of_le (HOK.out j hj) HC.out.size) hW.size) hfx hgy
      have hgl : g < wo.heap.size := Nat.lt_of_lt_of_le (HOK.out g hg) HC.out.size
      have hgl2 : g2 < wo.heap.size := Nat.lt_of_lt_of_le (HOK.out g2 hg2) HC.out.size
      obtain ⟨AV, nV, cV, AS, nS, cS, ecs⟩ := ev_form hrel
      obtain ⟨AV2, nV2, cV2, AS2, nS2, cS2, ecs2⟩ := ev_form hrel2
      subst ecs ecs2
      obtain ⟨p0, p1, p2, p3, p4, p5, p6, p7, p8, p9, p10, p11⟩ := range12 (o := off + k * 12) hra
      obtain ⟨q0, q1, q2, q3, q4, q5, q6, q7, q8, q9, q10, q11⟩ := range12 (o := off2 + k * 12) hra2
      clear hra hra2 hx hy hg hg2 hrel hrel2 hst hfx hgy
      have HBt : Hid (decide (f = f2) = true → f = f2) := fun h => of_decide_eq_true h
      have HBf : Hid (decide (f = f2) = false → f ≠ f2) := fun h => of_decide_eq_false h
      generalize hbv : decide (f = f2) = bv at *
      clear hbv
      simp only [evCs] at *
      have i1 : (k : Int) < (s.length : Int) := by omega
      have i2 : (k : Int) < (t.length : Int) := by have := HL.out; omega
      have i5 : (0 : Int) ≤ (k : Int) := by omega
      go_wp2_with fail
      refine (HEq.out _ (by repeat (first | exact Chg.refl _ _ | refine Chg.alloc ?_ _ | refine Chg.drew ?_))).mono ?_
      rintro e w3 ⟨rfl, hc3⟩
      have HC3 : Hid (Chg (fun _ => False) wo w3) := Chg.trans (by repeat (first | exact Chg.refl _ _ | refine Chg.alloc ?_ _ | refine Chg.drew ?_)) hc3 (fun _ _ h => h)
      clear hc3
      cases bv with
      | true =>
        have HE2 : Hid (f = f2) := HBt.out rfl
        go_wp2
        go_roundw
        case rel => exact ⟨k + 1, by omega, by go_num, by have h1 := HX.out; have h2 := HY.out; rw [← HE2.out] at h2; exact take_eq_snoc h1 h2 HP.out, HC.out.trans HC3.out (fun _ _ h => h)⟩
        case measure => simp [intOf]; omega
      | false =>
        have HNe : Hid (s ≠ t) := ne_at HX.out HY.out (HBf.out rfl)
        go_wp2
        go_ret
        exact ⟨ret_bool (decide_eq_false HNe.out).symm, HC.out.trans HC3.out (fun _ _ h => h)⟩
    · have HE : Hid (s = t) := eq_of_take HP.out (by omega) HL.out
      clear hst
      have hqt : ¬ (k < t.length) := by have := HL.out; omega
      go_wp2
      go_ret
      exact ⟨ret_bool (decide_eq_true HE.out).symm, HC.out⟩
theorem psame_any (s t : List Ev) (A B : Option Addr) (n m c d : Nat) (hs : evsK.rel ok w s [.slice A n c]) (ht : evsK.rel ok w t [.slice B m d]) (hok : ∀ k, ok k → k < w.heap.size) (hf : evsK.fits s) (hg : evsK.fits t) :
    Calls Try.prog 24 #[.slice A n c, .slice B m d] w fun e w' => e = .returned (.bool (decide (s = t))) ∧ Chg (fun _ => False) w w' := by
  have HE := Lib.hid (equalf_evs s t A B n m c d hs ht hok hf hg)
  clear hs ht hok hf hg
  go_enter Try.func24, Try.ntmps24
  go_wp2_with fail
  refine HE.out.mono ?_
  rintro e w3 ⟨rfl, hc3⟩
  go_wp2
  go_ret
  exact ⟨rfl, hc3⟩
end
end Go.Proofs.Ytchlolgfahgdeaa.Esq
