/- The walks of the laws slots. Conditions: what comes in reads so. -/
import Derived.Test.YtchlolgfahgdeaaEwc
import Derived.Test.YtchlolgfahgdeaaEpf
import Derived.Deep.Cut
set_option linter.unusedVariables false
set_option linter.unusedSimpArgs false
namespace Go.Proofs.Ytchlolgfahgdeaa.Ewd
open Go.RowKit Go.Proofs.Ytchlolgfahgdeaa.Lib1 Go.Proofs.Ytchlolgfahgdeaa.Rel Go.Proofs.Ytchlolgfahgdeaa.Own Go.Proofs.Ytchlolgfahgdeaa.Ev Go.Proofs.Ytchlolgfahgdeaa.Ek Go.Proofs.Ytchlolgfahgdeaa.Ec Go.Proofs.Ytchlolgfahgdeaa.Em Go.Proofs.Ytchlolgfahgdeaa.En Go.Proofs.Ytchlolgfahgdeaa.Lat Go.Proofs.Ytchlolgfahgdeaa.Lbl Go.Proofs.Ytchlolgfahgdeaa.Lbw Go.Proofs.Ytchlolgfahgdeaa.Lck Go.Proofs.Ytchlolgfahgdeaa.Lmay Go.Proofs.Ytchlolgfahgdeaa.Rgn Go.Proofs.Ytchlolgfahgdeaa.Rgs Go.Proofs.Ytchlolgfahgdeaa.Eaw Go.Proofs.Ytchlolgfahgdeaa.Esq Go.Proofs.Ytchlolgfahgdeaa.Epo Go.Proofs.Ytchlolgfahgdeaa.Ess Go.Proofs.Ytchlolgfahgdeaa.Ead Go.Proofs.Ytchlolgfahgdeaa.Eak Go.Proofs.Ytchlolgfahgdeaa.Ela Go.Proofs.Ytchlolgfahgdeaa.Ewc
set_option maxRecDepth 100000 in
set_option maxHeartbeats 12800000 in
theorem slots_any {ok : Nat → Prop} {w : World} {A1 A2 A3 : Option Addr} {n1 n2 n3 c1 c2 c3 : Nat} {c : Cfg} (h : CfgAt ok w A1 A2 A3 n1 n2 n3 c1 c2 c3 c) (hok : ∀ k, ok k → k < w.heap.size) (hcf : cfgFits c) {oks : Nat → Prop} (s : List Ev) (A : Option Addr) (n cc : Nat) (hrs : evsK.rel oks w s [.slice A n cc]) (hoks : ∀ k, oks k → k < w.heap.size) (hfs : evsK.fits s) :
    Calls Try.prog 27 #[.agg #[.slice A1 n1 c1, .slice A2 n2 c2, .slice A3 n3 c3], .slice A n cc] w fun e w' => ∃ v, e = .returned v ∧ OwnL (Kd.int .i64) 3 w.heap.size w' v (Ev.slots c s) ∧ Chg (fun _ => False) w w' := by
  have hl : s.length * 144 ≤ 140737488351232 := hfs.1
  obtain ⟨A0, c0, e0, -⟩ := slice_form hrs
  simp only [List.cons.injEq, Value.slice.injEq, and_true] at e0
  obtain ⟨rfl, rfl, rfl⟩ := e0
  have hC0 : CfgW c (.agg #[.slice A1 n1 c1, .slice A2 n2 c2, .slice A3 n3 c3]) w := CfgW_of h hok
  have hEs : (nEvs s).f (.slice A s.length cc) w := nEvs_of hrs hoks
  have HC : Hid (∀ w', Chg (fun _ => False) w w' → CfgW c (.agg #[.slice A1 n1 c1, .slice A2 n2 c2, .slice A3 n3 c3]) w') := fun w' hc => hC0.up hc
  have HEs : Hid (∀ w', Chg (fun _ => False) w w' → (nEvs s).f (.slice A s.length cc) w') := fun w' hc => nEvs_up hEs hc
  have HBX : Hid (∀ w', Chg (fun _ => False) (w.alloc (.cells #[.slice A1 n1 c1, .slice A2 n2 c2, .slice A3 n3 c3] 27)) w' → w'.heap[w.heap.size]? = some (.cells #[.slice A1 n1 c1, .slice A2 n2 c2, .slice A3 n3 c3] 27 (0, 0))) := fun w' hc => hc.at_ (heap_new w _) (fun h => h)
  have HF := Lib.hid hfs
  obtain ⟨B, HB⟩ : ∃ B, Hid (B = (w.alloc (.cells #[.slice A1 n1 c1, .slice A2 n2 c2, .slice A3 n3 c3] 27)).heap.size) := ⟨_, rfl⟩
  have hB0 : w.heap.size ≤ B := by have h0 : B = _ := HB.out; rw [h0]; simp
  have HB1 : Hid (B ≤ (w.alloc (.cells #[.slice A1 n1 c1, .slice A2 n2 c2, .slice A3 n3 c3] 27)).heap.size) := by have h0 : B = _ := HB.out; show _ ≤ _; rw [h0]; exact Nat.le_refl _
  have HB2 : Hid ((w.alloc (.cells #[.slice A1 n1 c1, .slice A2 n2 c2, .slice A3 n3 c3] 27)).heap.size ≤ B) := by have h0 : B = _ := HB.out; show _ ≤ _; rw [h0]; exact Nat.le_refl _
  clear h hok hrs hoks hC0 hEs hfs HB
  go_enter Try.func27, Try.ntmps27
  go_wp2
  go_loopw [5, 6, 7] (fun v i u7 wr => ∃ k : Nat, k ≤ s.length ∧ i = .int .i64 k ∧ OwnL (Kd.int .i64) 3 B wr v ((s.take k).filterMap (slot1 c)) ∧ Chg (fun _ => False) (w.alloc (.cells #[.slice A1 n1 c1, .slice A2 n2 c2, .slice A3 n3 c3] 27)) wr) (fun _ i _ _ => s.length - (intOf i).toNat)
  case atStart => exact ⟨0, Nat.zero_le _, rfl, OwnL.nil _ _ _ _, Chg.refl _ _⟩
  case round =>
    obtain ⟨wo, rfl⟩ : ∃ wo : World, wo = wr := ⟨_, rfl⟩
    obtain ⟨k, hk, rfl, ho, hc⟩ := hrel
    have H1 : Hid (Chg (fun _ => False) (w.alloc (.cells #[.slice A1 n1 c1, .slice A2 n2 c2, .slice A3 n3 c3] 27)) wo) := hc
    have hBo : B ≤ wo.heap.size := Nat.le_trans HB1.out hc.size
    have hyl := Epf.fm_len (slot1 c) s k hk
    generalize hys : (s.take k).filterMap (slot1 c) = ys at *
    have HYs := Lib.hid hys
    have HO := Lib.hid ho
    obtain ⟨Av, cv, ev⟩ := ho.form
    clear hys ho hc
    subst ev
    by_cases hlt : k < s.length
    · have hx : s[k]? = some s[k] := List.getElem?_eq_getElem hlt
      have HX := Lib.hid hx
      obtain ⟨g, off, cs, rfl, hg, hrel, hra⟩ := elem_of (b := 144) _ _ (HEs.out _ (((Chg.refl _ w).alloc _).trans H1.out (fun _ _ h => h))) hx
      have HFx := Lib.hid (fits_at HF.out hx)
      generalize s[k] = x at *
      have HEV0 : Hid ((nEv x).f (.agg cs.toArray) wo) := ⟨cs, rfl, hrel⟩
      obtain ⟨AV, cV, AS, cS, ecs, -, -⟩ := ev_parts hrel
      subst ecs
      have HEV : Hid (∀ w', Chg (fun _ => False) wo w' → (nEv x).f (.agg #[.int .i64 x.kind, .int .i64 x.session, .int .i64 x.req.kind, .int .i64 x.req.life, .int .i64 x.req.number, .int .i64 x.req.place, .string x.req.key, .string x.req.to, .slice AV x.req.value.length cV, .int .i64 x.req.limit, .int .i64 x.place, .slice AS x.strikes.length cS]) w') := fun w' hc => (nEv x).st _ _ _ hc HEV0.out
      have HRA : Hid (∀ w', Chg (fun _ => False) wo w' → w'.rangeAt g (off + k * 12) (evCs x (.slice AV x.req.value.length cV) (.slice AS x.strikes.length cS))) := fun w' hc => range_up hra hg hc
      have hsl : x.strikes.length * 24 ≤ 140737488351232 := HFx.out.2.1
      have hsl2 : x.strikes.length ≤ 140737488351232 := by omega
      clear hra hx hg hrel HEV0 hsl
      have i1 : (k : Int) < (s.length : Int) := by omega
      have i5 : (0 : Int) ≤ (k : Int) := by omega
      by_cases hk1 : x.kind = 1
      · have e1 : (x.kind == 1) = true := by simpa using hk1
        have HNn : Hid (slot1 c x = none) := by show _ = _; rw [slot1, if_pos (.inl hk1)]
        clear hk1
        go_wp2_with fail
        refine wp_region_soft (notes [Note.eq (.slice (some ⟨g, off, none⟩) s.length cc), Note.eq (.int .i64 (k : Int)), Note.eq (.pointer (some ⟨g, off + k * 12, none⟩)), Note.eq (.pointer (some ⟨g, off + k * 12, none⟩)), Note.eq (.int .i64 x.kind), Note.eq (.bool true), Note.eq (.bool true), Note.eq (undef), Note.eq (undef), Note.eq (undef), Note.eq (undef), Note.eq (undef), Note.eq (undef), Note.eq (undef), Note.eq (.bool true)]) (by kernel_rfl) (by kernel_rfl) (by kernel_rfl) (notes_st _) ?_
        refine soft_one (some 14) rfl (Note.eq (.slice (some ⟨g, off, none⟩) s.length cc)).f (by kernel_rfl) (by kernel_rfl) (fun w1 hc hk => ?_) (fun x5_0 w1 hc hv => ?_)
        · exact soft_move (.tmp 1) rfl (.slice (some ⟨g, off, none⟩) s.length cc) (by kernel_rfl) rfl
        obtain rfl : x5_0 = _ := hv
        clear hc w1
        refine soft_one (some 15) rfl (Note.eq (.int .i64 (k : Int))).f (by kernel_rfl) (by kernel_rfl) (fun w1 hc hk => ?_) (fun x5_1 w1 hc hv => ?_)
        · exact soft_move (.tmp 6) rfl (.int .i64 (k : Int)) (by kernel_rfl) rfl
        obtain rfl : x5_1 = _ := hv
        clear hc w1
        refine soft_one (some 16) rfl (Note.eq (.pointer (some ⟨g, off + k * 12, none⟩))).f (by kernel_rfl) (by kernel_rfl) (fun w1 hc hk => ?_) (fun x5_2 w1 hc hv => ?_)
        · refine soft_at (w1 := w1) (u := .pointer (some ⟨g, off + k * 12, none⟩)) (fun ρ => (∀ v, ρ (.const v) = v) ∧ ρ (.tmp 14) = .slice (some ⟨g, off, none⟩) s.length cc ∧ ρ (.tmp 15) = .int .i64 (k : Int)) ⟨fun v => rfl, by kernel_rfl, by kernel_rfl⟩ (fun ρ hρ => ?_) (Chg.refl _ _) rfl; (obtain ⟨g0, g1, g2⟩ := hρ; go_simp)
        obtain rfl : x5_2 = _ := hv
        clear hc w1
        refine soft_one (some 17) rfl (Note.eq (.pointer (some ⟨g, off + k * 12, none⟩))).f (by kernel_rfl) (by kernel_rfl) (fun w1 hc hk => ?_) (fun x5_3 w1 hc hv => ?_)
        · refine soft_at (w1 := w1) (u := .pointer (some ⟨g, off + k * 12, none⟩)) (fun ρ => (∀ v, ρ (.const v) = v) ∧ ρ (.tmp 16) = .pointer (some ⟨g, off + k * 12, none⟩)) ⟨fun v => rfl, by kernel_rfl⟩ (fun ρ hρ => ?_) (Chg.refl _ _) rfl; (obtain ⟨g0, g1⟩ := hρ; go_simp)
        obtain rfl : x5_3 = _ := hv
        clear hc w1
        refine soft_one (some 18) rfl (Note.eq (.int .i64 x.kind)).f (by kernel_rfl) (by kernel_rfl) (fun w1 hc hk => ?_) (fun x5_4 w1 hc hv => ?_)
        · obtain ⟨p0, p1, p2, p3, p4, p5, p6, p7, p8, p9, p10, p11⟩ := range12 (HRA.out _ hc); refine soft_at (w1 := w1) (u := .int .i64 x.kind) (fun ρ => ρ (.tmp 17) = .pointer (some ⟨g, off + k * 12, none⟩)) (by kernel_rfl) (fun ρ hρ => ?_) (Chg.refl _ _) rfl; go_simp
        obtain rfl : x5_4 = _ := hv
        clear hc w1
        refine soft_one (some 19) rfl (Note.eq (.bool true)).f (by kernel_rfl) (by kernel_rfl) (fun w1 hc hk => ?_) (fun x5_5 w1 hc hv => ?_)
        · refine soft_at (w1 := w1) (u := .bool true) (fun ρ => (∀ v, ρ (.const v) = v) ∧ ρ (.tmp 18) = .int .i64 x.kind) ⟨fun v => rfl, by kernel_rfl⟩ (fun ρ hρ => ?_) (Chg.refl _ _) rfl; (obtain ⟨g0, g1⟩ := hρ; go_simp)
        obtain rfl : x5_5 = _ := hv
        clear hc w1
        refine soft_one (some 20) rfl (Note.eq (.bool true)).f (by kernel_rfl) (by kernel_rfl) (fun w1 hc hk => ?_) (fun x5_6 w1 hc hv => ?_)
        · exact soft_move (.tmp 19) rfl (.bool true) (by kernel_rfl) rfl
        obtain rfl : x5_6 = _ := hv
        clear hc w1
        refine soft_skip (some 21) rfl (by kernel_rfl) (by kernel_rfl) ?_
        refine soft_skip (some 22) rfl (by kernel_rfl) (by kernel_rfl) ?_
        refine soft_skip (some 23) rfl (by kernel_rfl) (by kernel_rfl) ?_
        refine soft_skip (some 24) rfl (by kernel_rfl) (by kernel_rfl) ?_
        refine soft_skip (some 25) rfl (by kernel_rfl) (by kernel_rfl) ?_
        refine soft_skip (some 26) rfl (by kernel_rfl) (by kernel_rfl) ?_
        refine soft_skip (some 27) rfl (by kernel_rfl) (by kernel_rfl) ?_
        refine soft_one (some 28) rfl (Note.eq (.bool true)).f (by kernel_rfl) (by kernel_rfl) (fun w1 hc hk => ?_) (fun x5_14 w1 hc hv => ?_)
        · refine soft_at (w1 := w1) (u := .bool true) (fun ρ => (∀ v, ρ (.const v) = v) ∧ ρ (.tmp 20) = .bool true ∧ ρ (.tmp 27) = undef) ⟨fun v => rfl, by kernel_rfl, by kernel_rfl⟩ (fun ρ hρ => ?_) (Chg.refl _ _) rfl; (obtain ⟨g0, g1, g2⟩ := hρ; go_simp)
        obtain rfl : x5_14 = _ := hv
        clear hc w1
        intro w3 hc3 hn3
        have H3 : Hid (Chg (fun _ => False) (w.alloc (.cells #[.slice A1 n1 c1, .slice A2 n2 c2, .slice A3 n3 c3] 27)) w3) := H1.out.trans hc3 (fun _ _ h => h)
        have HO3 := Lib.hid (HO.out.up hc3)
        clear hn3 hc3
        simp only [Act.put, List.setIfInBounds_toArray, List.set_cons_succ, List.set_cons_zero]
        go_wp2
        go_roundw
        case rel => exact ⟨k + 1, by omega, by go_num, by rw [Epf.fm_none HX.out HNn.out, HYs.out]; exact HO3.out, H3.out⟩
        case measure => simp [intOf]; omega
      have e1 : (x.kind == 1) = false := by simpa using hk1
      have HK1 := Lib.hid hk1
      clear hk1
      cases hmb : Ev.may c x with
      | false =>
        have HNn : Hid (slot1 c x = none) := by show _ = _; rw [slot1, if_pos (.inr hmb)]
        go_wp2_with fail
        refine wp_region_soft (notes [Note.eq (.slice (some ⟨g, off, none⟩) s.length cc), Note.eq (.int .i64 (k : Int)), Note.eq (.pointer (some ⟨g, off + k * 12, none⟩)), Note.eq (.pointer (some ⟨g, off + k * 12, none⟩)), Note.eq (.int .i64 x.kind), Note.eq (.bool false), Note.eq (.bool false), Note.eq (.agg #[.slice A1 n1 c1, .slice A2 n2 c2, .slice A3 n3 c3]), Note.eq (.slice (some ⟨g, off, none⟩) s.length cc), Note.eq (.int .i64 (k : Int)), Note.eq (.pointer (some ⟨g, off + k * 12, none⟩)), Note.eq (.agg #[.int .i64 x.kind, .int .i64 x.session, .int .i64 x.req.kind, .int .i64 x.req.life, .int .i64 x.req.number, .int .i64 x.req.place, .string x.req.key, .string x.req.to, .slice AV x.req.value.length cV, .int .i64 x.req.limit, .int .i64 x.place, .slice AS x.strikes.length cS]), Note.eq (.bool false), Note.eq (.bool true), Note.eq (.bool true)]) (by kernel_rfl) (by kernel_rfl) (by kernel_rfl) (notes_st _) ?_
        refine soft_one (some 14) rfl (Note.eq (.slice (some ⟨g, off, none⟩) s.length cc)).f (by kernel_rfl) (by kernel_rfl) (fun w1 hc hk => ?_) (fun x5_0 w1 hc hv => ?_)
        · exact soft_move (.tmp 1) rfl (.slice (some ⟨g, off, none⟩) s.length cc) (by kernel_rfl) rfl
        obtain rfl : x5_0 = _ := hv
        clear hc w1
        refine soft_one (some 15) rfl (Note.eq (.int .i64 (k : Int))).f (by kernel_rfl) (by kernel_rfl) (fun w1 hc hk => ?_) (fun x5_1 w1 hc hv => ?_)
        · exact soft_move (.tmp 6) rfl (.int .i64 (k : Int)) (by kernel_rfl) rfl
        obtain rfl : x5_1 = _ := hv
        clear hc w1
        refine soft_one (some 16) rfl (Note.eq (.pointer (some ⟨g, off + k * 12, none⟩))).f (by kernel_rfl) (by kernel_rfl) (fun w1 hc hk => ?_) (fun x5_2 w1 hc hv => ?_)
        · refine soft_at (w1 := w1) (u := .pointer (some ⟨g, off + k * 12, none⟩)) (fun ρ => (∀ v, ρ (.const v) = v) ∧ ρ (.tmp 14) = .slice (some ⟨g, off, none⟩) s.length cc ∧ ρ (.tmp 15) = .int .i64 (k : Int)) ⟨fun v => rfl, by kernel_rfl, by kernel_rfl⟩ (fun ρ hρ => ?_) (Chg.refl _ _) rfl; (obtain ⟨g0, g1, g2⟩ := hρ; go_simp)
        obtain rfl : x5_2 = _ := hv
        clear hc w1
        refine soft_one (some 17) rfl (Note.eq (.pointer (some ⟨g, off + k * 12, none⟩))).f (by kernel_rfl) (by kernel_rfl) (fun w1 hc hk => ?_) (fun x5_3 w1 hc hv => ?_)
        · refine soft_at (w1 := w1) (u := .pointer (some ⟨g, off + k * 12, none⟩)) (fun ρ => (∀ v, ρ (.const v) = v) ∧ ρ (.tmp 16) = .pointer (some ⟨g, off + k * 12, none⟩)) ⟨fun v => rfl, by kernel_rfl⟩ (fun ρ hρ => ?_) (Chg.refl _ _) rfl; (obtain ⟨g0, g1⟩ := hρ; go_simp)
        obtain rfl : x5_3 = _ := hv
        clear hc w1
        refine soft_one (some 18) rfl (Note.eq (.int .i64 x.kind)).f (by kernel_rfl) (by kernel_rfl) (fun w1 hc hk => ?_) (fun x5_4 w1 hc hv => ?_)
        · obtain ⟨p0, p1, p2, p3, p4, p5, p6, p7, p8, p9, p10, p11⟩ := range12 (HRA.out _ hc); refine soft_at (w1 := w1) (u := .int .i64 x.kind) (fun ρ => ρ (.tmp 17) = .pointer (some ⟨g, off + k * 12, none⟩)) (by kernel_rfl) (fun ρ hρ => ?_) (Chg.refl _ _) rfl; go_simp
        obtain rfl : x5_4 = _ := hv
        clear hc w1
        refine soft_one (some 19) rfl (Note.eq (.bool false)).f (by kernel_rfl) (by kernel_rfl) (fun w1 hc hk => ?_) (fun x5_5 w1 hc hv => ?_)
        · refine soft_at (w1 := w1) (u := .bool false) (fun ρ => (∀ v, ρ (.const v) = v) ∧ ρ (.tmp 18) = .int .i64 x.kind) ⟨fun v => rfl, by kernel_rfl⟩ (fun ρ hρ => ?_) (Chg.refl _ _) rfl; (obtain ⟨g0, g1⟩ := hρ; go_simp)
        obtain rfl : x5_5 = _ := hv
        clear hc w1
        refine soft_one (some 20) rfl (Note.eq (.bool false)).f (by kernel_rfl) (by kernel_rfl) (fun w1 hc hk => ?_) (fun x5_6 w1 hc hv => ?_)
        · exact soft_move (.tmp 19) rfl (.bool false) (by kernel_rfl) rfl
        obtain rfl : x5_6 = _ := hv
        clear hc w1
        refine soft_one (some 21) rfl (Note.eq (.agg #[.slice A1 n1 c1, .slice A2 n2 c2, .slice A3 n3 c3])).f (by kernel_rfl) (by kernel_rfl) (fun w1 hc hk => ?_) (fun x5_7 w1 hc hv => ?_)
        · have k0 := cell_at (HBX.out _ (H1.out.trans hc (fun _ _ h => h))) 0 rfl; have k1 := cell_at (HBX.out _ (H1.out.trans hc (fun _ _ h => h))) 1 rfl; have k2 := cell_at (HBX.out _ (H1.out.trans hc (fun _ _ h => h))) 2 rfl; refine soft_at (w1 := w1) (u := .agg #[.slice A1 n1 c1, .slice A2 n2 c2, .slice A3 n3 c3]) (fun ρ => ρ (.tmp 2) = .pointer (some ⟨w.heap.size, 0, none⟩)) (by kernel_rfl) (fun ρ hρ => ?_) (Chg.refl _ _) rfl; go_simp
        obtain rfl : x5_7 = _ := hv
        clear hc w1
        refine soft_one (some 22) rfl (Note.eq (.slice (some ⟨g, off, none⟩) s.length cc)).f (by kernel_rfl) (by kernel_rfl) (fun w1 hc hk => ?_) (fun x5_8 w1 hc hv => ?_)
        · exact soft_move (.tmp 1) rfl (.slice (some ⟨g, off, none⟩) s.length cc) (by kernel_rfl) rfl
        obtain rfl : x5_8 = _ := hv
        clear hc w1
        refine soft_one (some 23) rfl (Note.eq (.int .i64 (k : Int))).f (by kernel_rfl) (by kernel_rfl) (fun w1 hc hk => ?_) (fun x5_9 w1 hc hv => ?_)
        · exact soft_move (.tmp 6) rfl (.int .i64 (k : Int)) (by kernel_rfl) rfl
        obtain rfl : x5_9 = _ := hv
        clear hc w1
        refine soft_one (some 24) rfl (Note.eq (.pointer (some ⟨g, off + k * 12, none⟩))).f (by kernel_rfl) (by kernel_rfl) (fun w1 hc hk => ?_) (fun x5_10 w1 hc hv => ?_)
        · refine soft_at (w1 := w1) (u := .pointer (some ⟨g, off + k * 12, none⟩)) (fun ρ => (∀ v, ρ (.const v) = v) ∧ ρ (.tmp 22) = .slice (some ⟨g, off, none⟩) s.length cc ∧ ρ (.tmp 23) = .int .i64 (k : Int)) ⟨fun v => rfl, by kernel_rfl, by kernel_rfl⟩ (fun ρ hρ => ?_) (Chg.refl _ _) rfl; (obtain ⟨g0, g1, g2⟩ := hρ; go_simp)
        obtain rfl : x5_10 = _ := hv
        clear hc w1
        refine soft_one (some 25) rfl (Note.eq (.agg #[.int .i64 x.kind, .int .i64 x.session, .int .i64 x.req.kind, .int .i64 x.req.life, .int .i64 x.req.number, .int .i64 x.req.place, .string x.req.key, .string x.req.to, .slice AV x.req.value.length cV, .int .i64 x.req.limit, .int .i64 x.place, .slice AS x.strikes.length cS])).f (by kernel_rfl) (by kernel_rfl) (fun w1 hc hk => ?_) (fun x5_11 w1 hc hv => ?_)
        · obtain ⟨p0, p1, p2, p3, p4, p5, p6, p7, p8, p9, p10, p11⟩ := range12 (HRA.out _ hc); refine soft_at (w1 := w1) (u := .agg #[.int .i64 x.kind, .int .i64 x.session, .int .i64 x.req.kind, .int .i64 x.req.life, .int .i64 x.req.number, .int .i64 x.req.place, .string x.req.key, .string x.req.to, .slice AV x.req.value.length cV, .int .i64 x.req.limit, .int .i64 x.place, .slice AS x.strikes.length cS]) (fun ρ => ρ (.tmp 24) = .pointer (some ⟨g, off + k * 12, none⟩)) (by kernel_rfl) (fun ρ hρ => ?_) (Chg.refl _ _) rfl; go_simp
        obtain rfl : x5_11 = _ := hv
        clear hc w1
        refine soft_one (some 26) rfl (Note.eq (.bool false)).f (by kernel_rfl) (by kernel_rfl) (fun w1 hc hk => ?_) (fun x5_12 w1 hc hv => ?_)
        · exact soft_call (args := #[.agg #[.slice A1 n1 c1, .slice A2 n2 c2, .slice A3 n3 c3], .agg #[.int .i64 x.kind, .int .i64 x.session, .int .i64 x.req.kind, .int .i64 x.req.life, .int .i64 x.req.number, .int .i64 x.req.place, .string x.req.key, .string x.req.to, .slice AV x.req.value.length cV, .int .i64 x.req.limit, .int .i64 x.place, .slice AS x.strikes.length cS]]) Try.func15 (by kernel_rfl) (by kernel_rfl) rfl (by kernel_rfl) (d_may false hcf (HC.out _ (((Chg.refl _ w).alloc _).trans (H1.out.trans hc (fun _ _ h => h)) (fun _ _ h => h))) (HEV.out _ hc) hmb)
        obtain rfl : x5_12 = _ := hv
        clear hc w1
        refine soft_one (some 27) rfl (Note.eq (.bool true)).f (by kernel_rfl) (by kernel_rfl) (fun w1 hc hk => ?_) (fun x5_13 w1 hc hv => ?_)
        · refine soft_at (w1 := w1) (u := .bool true) (fun ρ => (∀ v, ρ (.const v) = v) ∧ ρ (.tmp 26) = .bool false) ⟨fun v => rfl, by kernel_rfl⟩ (fun ρ hρ => ?_) (Chg.refl _ _) rfl; (obtain ⟨g0, g1⟩ := hρ; go_simp)
        obtain rfl : x5_13 = _ := hv
        clear hc w1
        refine soft_one (some 28) rfl (Note.eq (.bool true)).f (by kernel_rfl) (by kernel_rfl) (fun w1 hc hk => ?_) (fun x5_14 w1 hc hv => ?_)
        · refine soft_at (w1 := w1) (u := .bool true) (fun ρ => (∀ v, ρ (.const v) = v) ∧ ρ (.tmp 20) = .bool false ∧ ρ (.tmp 27) = .bool true) ⟨fun v => rfl, by kernel_rfl, by kernel_rfl⟩ (fun ρ hρ => ?_) (Chg.refl _ _) rfl; (obtain ⟨g0, g1, g2⟩ := hρ; go_simp)
        obtain rfl : x5_14 = _ := hv
        clear hc w1
        intro w3 hc3 hn3
        have H3 : Hid (Chg (fun _ => False) (w.alloc (.cells #[.slice A1 n1 c1, .slice A2 n2 c2, .slice A3 n3 c3] 27)) w3) := H1.out.trans hc3 (fun _ _ h => h)
        have HO3 := Lib.hid (HO.out.up hc3)
        clear hn3 hc3 hmb
        simp only [Act.put, List.setIfInBounds_toArray, List.set_cons_succ, List.set_cons_zero]
        go_wp2
        go_roundw
        case rel => exact ⟨k + 1, by omega, by go_num, by rw [Epf.fm_none HX.out HNn.out, HYs.out]; exact HO3.out, H3.out⟩
        case measure => simp [intOf]; omega
      | true =>
        go_wp2_with fail
        refine wp_region_soft (notes [Note.eq (.slice (some ⟨g, off, none⟩) s.length cc), Note.eq (.int .i64 (k : Int)), Note.eq (.pointer (some ⟨g, off + k * 12, none⟩)), Note.eq (.pointer (some ⟨g, off + k * 12, none⟩)), Note.eq (.int .i64 x.kind), Note.eq (.bool false), Note.eq (.bool false), Note.eq (.agg #[.slice A1 n1 c1, .slice A2 n2 c2, .slice A3 n3 c3]), Note.eq (.slice (some ⟨g, off, none⟩) s.length cc), Note.eq (.int .i64 (k : Int)), Note.eq (.pointer (some ⟨g, off + k * 12, none⟩)), Note.eq (.agg #[.int .i64 x.kind, .int .i64 x.session, .int .i64 x.req.kind, .int .i64 x.req.life, .int .i64 x.req.number, .int .i64 x.req.place, .string x.req.key, .string x.req.to, .slice AV x.req.value.length cV, .int .i64 x.req.limit, .int .i64 x.place, .slice AS x.strikes.length cS]), Note.eq (.bool true), Note.eq (.bool false), Note.eq (.bool false)]) (by kernel_rfl) (by kernel_rfl) (by kernel_rfl) (notes_st _) ?_
        refine soft_one (some 14) rfl (Note.eq (.slice (some ⟨g, off, none⟩) s.length cc)).f (by kernel_rfl) (by kernel_rfl) (fun w1 hc hk => ?_) (fun x5_0 w1 hc hv => ?_)
        · exact soft_move (.tmp 1) rfl (.slice (some ⟨g, off, none⟩) s.length cc) (by kernel_rfl) rfl
        obtain rfl : x5_0 = _ := hv
        clear hc w1
        refine soft_one (some 15) rfl (Note.eq (.int .i64 (k : Int))).f (by kernel_rfl) (by kernel_rfl) (fun w1 hc hk => ?_) (fun x5_1 w1 hc hv => ?_)
        · exact soft_move (.tmp 6) rfl (.int .i64 (k : Int)) (by kernel_rfl) rfl
        obtain rfl : x5_1 = _ := hv
        clear hc w1
        refine soft_one (some 16) rfl (Note.eq (.pointer (some ⟨g, off + k * 12, none⟩))).f (by kernel_rfl) (by kernel_rfl) (fun w1 hc hk => ?_) (fun x5_2 w1 hc hv => ?_)
        · refine soft_at (w1 := w1) (u := .pointer (some ⟨g, off + k * 12, none⟩)) (fun ρ => (∀ v, ρ (.const v) = v) ∧ ρ (.tmp 14) = .slice (some ⟨g, off, none⟩) s.length cc ∧ ρ (.tmp 15) = .int .i64 (k : Int)) ⟨fun v => rfl, by kernel_rfl, by kernel_rfl⟩ (fun ρ hρ => ?_) (Chg.refl _ _) rfl; (obtain ⟨g0, g1, g2⟩ := hρ; go_simp)
        obtain rfl : x5_2 = _ := hv
        clear hc w1
        refine soft_one (some 17) rfl (Note.eq (.pointer (some ⟨g, off + k * 12, none⟩))).f (by kernel_rfl) (by kernel_rfl) (fun w1 hc hk => ?_) (fun x5_3 w1 hc hv => ?_)
        · refine soft_at (w1 := w1) (u := .pointer (some ⟨g, off + k * 12, none⟩)) (fun ρ => (∀ v, ρ (.const v) = v) ∧ ρ (.tmp 16) = .pointer (some ⟨g, off + k * 12, none⟩)) ⟨fun v => rfl, by kernel_rfl⟩ (fun ρ hρ => ?_) (Chg.refl _ _) rfl; (obtain ⟨g0, g1⟩ := hρ; go_simp)
        obtain rfl : x5_3 = _ := hv
        clear hc w1
        refine soft_one (some 18) rfl (Note.eq (.int .i64 x.kind)).f (by kernel_rfl) (by kernel_rfl) (fun w1 hc hk => ?_) (fun x5_4 w1 hc hv => ?_)
        · obtain ⟨p0, p1, p2, p3, p4, p5, p6, p7, p8, p9, p10, p11⟩ := range12 (HRA.out _ hc); refine soft_at (w1 := w1) (u := .int .i64 x.kind) (fun ρ => ρ (.tmp 17) = .pointer (some ⟨g, off + k * 12, none⟩)) (by kernel_rfl) (fun ρ hρ => ?_) (Chg.refl _ _) rfl; go_simp
        obtain rfl : x5_4 = _ := hv
        clear hc w1
        refine soft_one (some 19) rfl (Note.eq (.bool false)).f (by kernel_rfl) (by kernel_rfl) (fun w1 hc hk => ?_) (fun x5_5 w1 hc hv => ?_)
        · refine soft_at (w1 := w1) (u := .bool false) (fun ρ => (∀ v, ρ (.const v) = v) ∧ ρ (.tmp 18) = .int .i64 x.kind) ⟨fun v => rfl, by kernel_rfl⟩ (fun ρ hρ => ?_) (Chg.refl _ _) rfl; (obtain ⟨g0, g1⟩ := hρ; go_simp)
        obtain rfl : x5_5 = _ := hv
        clear hc w1
        refine soft_one (some 20) rfl (Note.eq (.bool false)).f (by kernel_rfl) (by kernel_rfl) (fun w1 hc hk => ?_) (fun x5_6 w1 hc hv => ?_)
        · exact soft_move (.tmp 19) rfl (.bool false) (by kernel_rfl) rfl
        obtain rfl : x5_6 = _ := hv
        clear hc w1
        refine soft_one (some 21) rfl (Note.eq (.agg #[.slice A1 n1 c1, .slice A2 n2 c2, .slice A3 n3 c3])).f (by kernel_rfl) (by kernel_rfl) (fun w1 hc hk => ?_) (fun x5_7 w1 hc hv => ?_)
        · have k0 := cell_at (HBX.out _ (H1.out.trans hc (fun _ _ h => h))) 0 rfl; have k1 := cell_at (HBX.out _ (H1.out.trans hc (fun _ _ h => h))) 1 rfl; have k2 := cell_at (HBX.out _ (H1.out.trans hc (fun _ _ h => h))) 2 rfl; refine soft_at (w1 := w1) (u := .agg #[.slice A1 n1 c1, .slice A2 n2 c2, .slice A3 n3 c3]) (fun ρ => ρ (.tmp 2) = .pointer (some ⟨w.heap.size, 0, none⟩)) (by kernel_rfl) (fun ρ hρ => ?_) (Chg.refl _ _) rfl; go_simp
        obtain rfl : x5_7 = _ := hv
        clear hc w1
        refine soft_one (some 22) rfl (Note.eq (.slice (some ⟨g, off, none⟩) s.length cc)).f (by kernel_rfl) (by kernel_rfl) (fun w1 hc hk => ?_) (fun x5_8 w1 hc hv => ?_)
        · exact soft_move (.tmp 1) rfl (.slice (some ⟨g, off, none⟩) s.length cc) (by kernel_rfl) rfl
        obtain rfl : x5_8 = _ := hv
        clear hc w1
        refine soft_one (some 23) rfl (Note.eq (.int .i64 (k : Int))).f (by kernel_rfl) (by kernel_rfl) (fun w1 hc hk => ?_) (fun x5_9 w1 hc hv => ?_)
        · exact soft_move (.tmp 6) rfl (.int .i64 (k : Int)) (by kernel_rfl) rfl
        obtain rfl : x5_9 = _ := hv
        clear hc w1
        refine soft_one (some 24) rfl (Note.eq (.pointer (some ⟨g, off + k * 12, none⟩))).f (by kernel_rfl) (by kernel_rfl) (fun w1 hc hk => ?_) (fun x5_10 w1 hc hv => ?_)
        · refine soft_at (w1 := w1) (u := .pointer (some ⟨g, off + k * 12, none⟩)) (fun ρ => (∀ v, ρ (.const v) = v) ∧ ρ (.tmp 22) = .slice (some ⟨g, off, none⟩) s.length cc ∧ ρ (.tmp 23) = .int .i64 (k : Int)) ⟨fun v => rfl, by kernel_rfl, by kernel_rfl⟩ (fun ρ hρ => ?_) (Chg.refl _ _) rfl; (obtain ⟨g0, g1, g2⟩ := hρ; go_simp)
        obtain rfl : x5_10 = _ := hv
        clear hc w1
        refine soft_one (some 25) rfl (Note.eq (.agg #[.int .i64 x.kind, .int .i64 x.session, .int .i64 x.req.kind, .int .i64 x.req.life, .int .i64 x.req.number, .int .i64 x.req.place, .string x.req.key, .string x.req.to, .slice AV x.req.value.length cV, .int .i64 x.req.limit, .int .i64 x.place, .slice AS x.strikes.length cS])).f (by kernel_rfl) (by kernel_rfl) (fun w1 hc hk => ?_) (fun x5_11 w1 hc hv => ?_)
        · obtain ⟨p0, p1, p2, p3, p4, p5, p6, p7, p8, p9, p10, p11⟩ := range12 (HRA.out _ hc); refine soft_at (w1 := w1) (u := .agg #[.int .i64 x.kind, .int .i64 x.session, .int .i64 x.req.kind, .int .i64 x.req.life, .int .i64 x.req.number, .int .i64 x.req.place, .string x.req.key, .string x.req.to, .slice AV x.req.value.length cV, .int .i64 x.req.limit, .int .i64 x.place, .slice AS x.strikes.length cS]) (fun ρ => ρ (.tmp 24) = .pointer (some ⟨g, off + k * 12, none⟩)) (by kernel_rfl) (fun ρ hρ => ?_) (Chg.refl _ _) rfl; go_simp
        obtain rfl : x5_11 = _ := hv
        clear hc w1
        refine soft_one (some 26) rfl (Note.eq (.bool true)).f (by kernel_rfl) (by kernel_rfl) (fun w1 hc hk => ?_) (fun x5_12 w1 hc hv => ?_)
        · exact soft_call (args := #[.agg #[.slice A1 n1 c1, .slice A2 n2 c2, .slice A3 n3 c3], .agg #[.int .i64 x.kind, .int .i64 x.session, .int .i64 x.req.kind, .int .i64 x.req.life, .int .i64 x.req.number, .int .i64 x.req.place, .string x.req.key, .string x.req.to, .slice AV x.req.value.length cV, .int .i64 x.req.limit, .int .i64 x.place, .slice AS x.strikes.length cS]]) Try.func15 (by kernel_rfl) (by kernel_rfl) rfl (by kernel_rfl) (d_may true hcf (HC.out _ (((Chg.refl _ w).alloc _).trans (H1.out.trans hc (fun _ _ h => h)) (fun _ _ h => h))) (HEV.out _ hc) hmb)
        obtain rfl : x5_12 = _ := hv
        clear hc w1
        refine soft_one (some 27) rfl (Note.eq (.bool false)).f (by kernel_rfl) (by kernel_rfl) (fun w1 hc hk => ?_) (fun x5_13 w1 hc hv => ?_)
        · refine soft_at (w1 := w1) (u := .bool false) (fun ρ => (∀ v, ρ (.const v) = v) ∧ ρ (.tmp 26) = .bool true) ⟨fun v => rfl, by kernel_rfl⟩ (fun ρ hρ => ?_) (Chg.refl _ _) rfl; (obtain ⟨g0, g1⟩ := hρ; go_simp)
        obtain rfl : x5_13 = _ := hv
        clear hc w1
        refine soft_one (some 28) rfl (Note.eq (.bool false)).f (by kernel_rfl) (by kernel_rfl) (fun w1 hc hk => ?_) (fun x5_14 w1 hc hv => ?_)
        · refine soft_at (w1 := w1) (u := .bool false) (fun ρ => (∀ v, ρ (.const v) = v) ∧ ρ (.tmp 20) = .bool false ∧ ρ (.tmp 27) = .bool false) ⟨fun v => rfl, by kernel_rfl, by kernel_rfl⟩ (fun ρ hρ => ?_) (Chg.refl _ _) rfl; (obtain ⟨g0, g1, g2⟩ := hρ; go_simp)
        obtain rfl : x5_14 = _ := hv
        clear hc w1
        intro w3 hc3 hn3
        have H3 : Hid (Chg (fun _ => False) (w.alloc (.cells #[.slice A1 n1 c1, .slice A2 n2 c2, .slice A3 n3 c3] 27)) w3) := H1.out.trans hc3 (fun _ _ h => h)
        have HO3 := Lib.hid (HO.out.up hc3)
        obtain ⟨p0, p1, p2, p3, p4, p5, p6, p7, p8, p9, p10, p11⟩ := range12 (HRA.out _ hc3)
        have hz3 : B ≤ w3.heap.size := Nat.le_trans hBo hc3.size
        have HMb := Lib.hid hmb
        clear hn3 hc3 hmb
        simp only [Act.put, List.setIfInBounds_toArray, List.set_cons_succ, List.set_cons_zero]
        by_cases hk2 : x.kind = 2
        · have e2 : (x.kind == 2) = true := by simpa using hk2
          have HSm : Hid (slot1 c x = some (-1 - (x.strikes.length : Int))) := by show _ = _; rw [slot1, if_neg (by have := HK1.out; have := HMb.out; simp [*]), if_pos hk2]
          clear hk2
          go_wp2_with (at_builtin; refine ap_push rfl (.tmp 43) (.tmp 45) 25 rfl (Kd.int .i64) B 3 8 (.int .i64 0) Try.underlying25 info_int rfl (by decide) (by decide) (.slice Av ys.length cv) ys rfl HO3.out (-1 - (x.strikes.length : Int)) _ rfl ?bR ?bL ?bB ?_; (case bR => exact rfl); (case bL => omega); (case bB => omega); intro v5 w5 o5 g5; obtain ⟨A5, c5, e5⟩ := o5.form; subst e5)
          go_roundw
          case rel => exact ⟨k + 1, by omega, by go_num, by rw [Epf.fm_some HX.out HSm.out, HYs.out]; have o6 := o5; rw [List.length_append] at o6; exact o6, H3.out.trans g5 (fun j hj he => by have := (HO3.out.low j he).1; have := HB2.out; omega)⟩
          case measure => simp [intOf]; omega
        · have e2 : (x.kind == 2) = false := by simpa using hk2
          have HSm : Hid (slot1 c x = some ((x.strikes.length : Int))) := by show _ = _; rw [slot1, if_neg (by have := HK1.out; have := HMb.out; simp [*]), if_neg hk2]
          clear hk2
          go_wp2_with (at_builtin; refine ap_push rfl (.tmp 43) (.tmp 45) 25 rfl (Kd.int .i64) B 3 8 (.int .i64 0) Try.underlying25 info_int rfl (by decide) (by decide) (.slice Av ys.length cv) ys rfl HO3.out ((x.strikes.length : Int)) _ rfl ?bR ?bL ?bB ?_; (case bR => exact rfl); (case bL => omega); (case bB => omega); intro v5 w5 o5 g5; obtain ⟨A5, c5, e5⟩ := o5.form; subst e5)
          go_roundw
          case rel => exact ⟨k + 1, by omega, by go_num, by rw [Epf.fm_some HX.out HSm.out, HYs.out]; have o6 := o5; rw [List.length_append] at o6; exact o6, H3.out.trans g5 (fun j hj he => by have := (HO3.out.low j he).1; have := HB2.out; omega)⟩
          case measure => simp [intOf]; omega
    · go_wp2
      go_ret
      have hkk : k = s.length := by omega
      have ho := HO.out
      refine ⟨_, rfl, ?_, ((Chg.refl _ w).alloc _).trans H1.out (fun _ _ h => h)⟩
      have hyy : ys = Ev.slots c s := by rw [← HYs.out, hkk, List.take_length]; rfl
      rw [← hyy]
      exact ho.base_le hB0
end Go.Proofs.Ytchlolgfahgdeaa.Ewd
