/- The walks of the laws Mays. Conditions: what comes in reads so. -/
import Derived.Test.YtchlolgfahgdeaaEla
import Derived.Deep.Cut
set_option linter.unusedVariables false
set_option linter.unusedSimpArgs false
namespace Go.Proofs.Ytchlolgfahgdeaa.Ewc
open Go.RowKit Go.Proofs.Ytchlolgfahgdeaa.Lib1 Go.Proofs.Ytchlolgfahgdeaa.Rel Go.Proofs.Ytchlolgfahgdeaa.Own Go.Proofs.Ytchlolgfahgdeaa.Ev Go.Proofs.Ytchlolgfahgdeaa.Ek Go.Proofs.Ytchlolgfahgdeaa.Ec Go.Proofs.Ytchlolgfahgdeaa.Em Go.Proofs.Ytchlolgfahgdeaa.En Go.Proofs.Ytchlolgfahgdeaa.Lat Go.Proofs.Ytchlolgfahgdeaa.Lbl Go.Proofs.Ytchlolgfahgdeaa.Lbw Go.Proofs.Ytchlolgfahgdeaa.Lck Go.Proofs.Ytchlolgfahgdeaa.Lmay Go.Proofs.Ytchlolgfahgdeaa.Rgn Go.Proofs.Ytchlolgfahgdeaa.Rgs Go.Proofs.Ytchlolgfahgdeaa.Eaw Go.Proofs.Ytchlolgfahgdeaa.Esq Go.Proofs.Ytchlolgfahgdeaa.Epo Go.Proofs.Ytchlolgfahgdeaa.Ess Go.Proofs.Ytchlolgfahgdeaa.Ead Go.Proofs.Ytchlolgfahgdeaa.Eak Go.Proofs.Ytchlolgfahgdeaa.Ela

/-- One event as a value. -/
def nEv (x : Ev) : Note := ⟨fun v w => ∃ cs, v = .agg cs.toArray ∧ evK.rel (fun k => k < w.heap.size) w x cs, fun v w w' hc h => by
  obtain ⟨cs, e, hr⟩ := h
  exact ⟨cs, e, evK.mono (size_up hc) (evK.move (fun k hk => hc.block k hk (fun h => h)) hr)⟩⟩
section
variable {w : World} {c : Cfg}
theorem d_copy {V : Value} {x : Ev} (h : (nEv x).f V w) (hf : evK.fits x) : Calls Try.prog 16 #[V] w fun e w' => ∃ v, e = .returned v ∧ Chg (fun _ => False) w w' ∧ (nEv x).f v w' := by
  obtain ⟨cs, rfl, hr⟩ := h
  exact (copy_ev w _ x cs hr (fun k hk => hk) hf).mono fun e w' ⟨ys, he, hy, hc⟩ => ⟨_, he, hc, ys, rfl, evK.mono (fun k hk => hk.2) hy⟩
theorem d_may {V1 V2 : Value} {x : Ev} (b : Bool) (hcf : cfgFits c) (h1 : CfgW c V1 w) (h2 : (nEv x).f V2 w) (hb : Ev.may c x = b) : Calls Try.prog 15 #[V1, V2] w fun e w' => ∃ v, e = .returned v ∧ Chg (fun _ => False) w w' ∧ v = .bool b := by
  subst hb
  obtain ⟨A1, A2, A3, n1, n2, n3, c1, c2, c3, rfl, hC⟩ := h1
  obtain ⟨cs, rfl, hr⟩ := h2
  obtain ⟨AV, nV, cV, AS, nS, cS, rfl⟩ := ev_form hr
  exact (mayE_any hC (fun k hk => hk) hcf x AV AS nV cV nS cS).mono fun e w' ⟨he, hc⟩ => ⟨_, he, hc, rfl⟩
theorem d_rmay {V1 V2 : Value} {x : Ev} (b : Bool) (hcf : cfgFits c) (h1 : CfgW c V1 w) (h2 : (nEv x).f V2 w) (hb : Ev.may c x = b) : Calls Try.prog 17 #[V1, V2] w fun e w' => ∃ v, e = .returned v ∧ Chg (fun _ => False) w w' ∧ v = .bool b := by
  subst hb
  obtain ⟨A1, A2, A3, n1, n2, n3, c1, c2, c3, rfl, hC⟩ := h1
  obtain ⟨cs, rfl, hr⟩ := h2
  obtain ⟨AV, nV, cV, AS, nS, cS, rfl⟩ := ev_form hr
  exact (rmayE_any hC (fun k hk => hk) hcf x AV AS nV cV nS cS).mono fun e w' ⟨he, hc⟩ => ⟨_, he, hc, rfl⟩
end
theorem range_up {w w' : World} {g o : Nat} {cs : List Value} (h : w.rangeAt g o cs) (hg : g < w.heap.size) (hc : Chg (fun _ => False) w w') : w'.rangeAt g o cs := fun j u hu => (World.cell?_of_block (hc.block g hg (fun h => h)) (a := ⟨g, o + j, none⟩)).trans (h j u hu)
set_option maxRecDepth 100000 in
set_option maxHeartbeats 3200000 in
theorem mays_walk {ok : Nat → Prop} {w : World} {A1 A2 A3 : Option Addr} {n1 n2 n3 c1 c2 c3 : Nat} {c : Cfg} (h : CfgAt ok w A1 A2 A3 n1 n2 n3 c1 c2 c3 c) (hok : ∀ k, ok k → k < w.heap.size) (hcf : cfgFits c) {oks : Nat → Prop} (s : List Ev) (A : Option Addr) (n cc : Nat) (hrs : evsK.rel oks w s [.slice A n cc]) (hoks : ∀ k, oks k → k < w.heap.size) (hfs : evsK.fits s) :
    Calls Try.prog 4 #[.agg #[.slice A1 n1 c1, .slice A2 n2 c2, .slice A3 n3 c3], .slice A n cc] w fun e w' => e = .returned (.bool true) ∧ Below w.heap.size w w' := by
  have hl : s.length * 144 ≤ 140737488351232 := hfs.1
  obtain ⟨A0, c0, e0, -⟩ := slice_form hrs
  simp only [List.cons.injEq, Value.slice.injEq, and_true] at e0
  obtain ⟨rfl, rfl, rfl⟩ := e0
  have hC0 : CfgW c (.agg #[.slice A1 n1 c1, .slice A2 n2 c2, .slice A3 n3 c3]) w := CfgW_of h hok
  have hEs : (nEvs s).f (.slice A s.length cc) w := nEvs_of hrs hoks
  have HC : Hid (∀ w', Chg (fun _ => False) w w' → CfgW c (.agg #[.slice A1 n1 c1, .slice A2 n2 c2, .slice A3 n3 c3]) w') := fun w' hc => hC0.up hc
  have HEs : Hid (∀ w', Chg (fun _ => False) w w' → (nEvs s).f (.slice A s.length cc) w') := fun w' hc => nEvs_up hEs hc
  have HBX : Hid (∀ w', Chg (fun _ => False) (w.alloc (.cells #[.slice A1 n1 c1, .slice A2 n2 c2, .slice A3 n3 c3] 27)) w' → w'.heap[w.heap.size]? = some (.cells #[.slice A1 n1 c1, .slice A2 n2 c2, .slice A3 n3 c3] 27 (0, 0))) := fun w' hc => hc.at_ (heap_new w _) (fun h => h)
  have HF := Lib.hid hfs
  clear h hok hrs hoks hC0 hEs hfs
  go_enter Try.func4, Try.ntmps4
  go_wp2
  go_loopw [5] (fun i wr => ∃ k : Nat, k ≤ s.length ∧ i = .int .i64 k ∧ Chg (fun _ => False) (w.alloc (.cells #[.slice A1 n1 c1, .slice A2 n2 c2, .slice A3 n3 c3] 27)) wr) (fun i _ => s.length - (intOf i).toNat)
  case atStart => exact ⟨0, Nat.zero_le _, rfl, Chg.refl _ _⟩
  case round =>
    obtain ⟨wo, rfl⟩ : ∃ wo : World, wo = wr := ⟨_, rfl⟩
    obtain ⟨k, hk, rfl, hc⟩ := hrel
    have H1 : Hid (Chg (fun _ => False) (w.alloc (.cells #[.slice A1 n1 c1, .slice A2 n2 c2, .slice A3 n3 c3] 27)) wo) := hc
    clear hc
    by_cases hlt : k < s.length
    · have hx : s[k]? = some s[k] := List.getElem?_eq_getElem hlt
      obtain ⟨g, off, cs, rfl, hg, hrel, hra⟩ := elem_of (b := 144) _ _ (HEs.out _ (((Chg.refl _ w).alloc _).trans H1.out (fun _ _ h => h))) hx
      have HFx := Lib.hid (fits_at HF.out hx)
      generalize s[k] = x at *
      have HEV0 : Hid ((nEv x).f (.agg cs.toArray) wo) := ⟨cs, rfl, hrel⟩
      obtain ⟨AV, nV, cV, AS, nS, cS, ecs⟩ := ev_form hrel
      subst ecs
      have HEV : Hid (∀ w', Chg (fun _ => False) wo w' → (nEv x).f (.agg #[.int .i64 x.kind, .int .i64 x.session, .int .i64 x.req.kind, .int .i64 x.req.life, .int .i64 x.req.number, .int .i64 x.req.place, .string x.req.key, .string x.req.to, .slice AV nV cV, .int .i64 x.req.limit, .int .i64 x.place, .slice AS nS cS]) w') := fun w' hc => (nEv x).st _ _ _ hc HEV0.out
      have HRA : Hid (∀ w', Chg (fun _ => False) wo w' → w'.rangeAt g (off + k * 12) (evCs x (.slice AV nV cV) (.slice AS nS cS))) := fun w' hc => range_up hra hg hc
      clear hra hx hg hrel HEV0
      generalize hmb : Ev.may c x = mb
      have i1 : (k : Int) < (s.length : Int) := by omega
      have i5 : (0 : Int) ≤ (k : Int) := by omega
      go_wp2_with fail
      refine wp_region_soft (notes [Note.eq (.agg #[.slice A1 n1 c1, .slice A2 n2 c2, .slice A3 n3 c3]), Note.eq (.slice (some ⟨g, off, none⟩) s.length cc), Note.eq (.int .i64 (k : Int)), Note.eq (.pointer (some ⟨g, off + k * 12, none⟩)), Note.eq (.agg #[.int .i64 x.kind, .int .i64 x.session, .int .i64 x.req.kind, .int .i64 x.req.life, .int .i64 x.req.number, .int .i64 x.req.place, .string x.req.key, .string x.req.to, .slice AV nV cV, .int .i64 x.req.limit, .int .i64 x.place, .slice AS nS cS]), nEv x, Note.eq (.bool mb), Note.eq (.agg #[.slice A1 n1 c1, .slice A2 n2 c2, .slice A3 n3 c3]), Note.eq (.slice (some ⟨g, off, none⟩) s.length cc), Note.eq (.int .i64 (k : Int)), Note.eq (.pointer (some ⟨g, off + k * 12, none⟩)), Note.eq (.agg #[.int .i64 x.kind, .int .i64 x.session, .int .i64 x.req.kind, .int .i64 x.req.life, .int .i64 x.req.number, .int .i64 x.req.place, .string x.req.key, .string x.req.to, .slice AV nV cV, .int .i64 x.req.limit, .int .i64 x.place, .slice AS nS cS]), Note.eq (.bool mb), Note.eq (.bool false)]) (by kernel_rfl) (by kernel_rfl) (by kernel_rfl) (notes_st _) ?_
      refine soft_one (some 12) rfl (Note.eq (.agg #[.slice A1 n1 c1, .slice A2 n2 c2, .slice A3 n3 c3])).f (by kernel_rfl) (by kernel_rfl) (fun w1 hc hk => ?_) (fun x4_0 w1 hc hv => ?_)
      · have k0 := cell_at (HBX.out _ (H1.out.trans hc (fun _ _ h => h))) 0 rfl; have k1 := cell_at (HBX.out _ (H1.out.trans hc (fun _ _ h => h))) 1 rfl; have k2 := cell_at (HBX.out _ (H1.out.trans hc (fun _ _ h => h))) 2 rfl; refine soft_at (w1 := w1) (u := .agg #[.slice A1 n1 c1, .slice A2 n2 c2, .slice A3 n3 c3]) (fun ρ => ρ (.tmp 2) = .pointer (some ⟨w.heap.size, 0, none⟩)) (by kernel_rfl) (fun ρ hρ => ?_) (Chg.refl _ _) rfl; go_simp
      obtain rfl : x4_0 = _ := hv
      clear hc w1
      refine soft_one (some 13) rfl (Note.eq (.slice (some ⟨g, off, none⟩) s.length cc)).f (by kernel_rfl) (by kernel_rfl) (fun w1 hc hk => ?_) (fun x4_1 w1 hc hv => ?_)
      · exact soft_move (.tmp 1) rfl (.slice (some ⟨g, off, none⟩) s.length cc) (by kernel_rfl) rfl
      obtain rfl : x4_1 = _ := hv
      clear hc w1
      refine soft_one (some 14) rfl (Note.eq (.int .i64 (k : Int))).f (by kernel_rfl) (by kernel_rfl) (fun w1 hc hk => ?_) (fun x4_2 w1 hc hv => ?_)
      · exact soft_move (.tmp 5) rfl (.int .i64 (k : Int)) (by kernel_rfl) rfl
      obtain rfl : x4_2 = _ := hv
      clear hc w1
      refine soft_one (some 15) rfl (Note.eq (.pointer (some ⟨g, off + k * 12, none⟩))).f (by kernel_rfl) (by kernel_rfl) (fun w1 hc hk => ?_) (fun x4_3 w1 hc hv => ?_)
      · refine soft_at (w1 := w1) (u := .pointer (some ⟨g, off + k * 12, none⟩)) (fun ρ => ρ (.tmp 13) = .slice (some ⟨g, off, none⟩) s.length cc ∧ ρ (.tmp 14) = .int .i64 (k : Int)) ⟨by kernel_rfl, by kernel_rfl⟩ (fun ρ hρ => ?_) (Chg.refl _ _) rfl; (obtain ⟨g0, g1⟩ := hρ; go_simp)
      obtain rfl : x4_3 = _ := hv
      clear hc w1
      refine soft_one (some 16) rfl (Note.eq (.agg #[.int .i64 x.kind, .int .i64 x.session, .int .i64 x.req.kind, .int .i64 x.req.life, .int .i64 x.req.number, .int .i64 x.req.place, .string x.req.key, .string x.req.to, .slice AV nV cV, .int .i64 x.req.limit, .int .i64 x.place, .slice AS nS cS])).f (by kernel_rfl) (by kernel_rfl) (fun w1 hc hk => ?_) (fun x4_4 w1 hc hv => ?_)
      · obtain ⟨p0, p1, p2, p3, p4, p5, p6, p7, p8, p9, p10, p11⟩ := range12 (HRA.out _ hc); refine soft_at (w1 := w1) (u := .agg #[.int .i64 x.kind, .int .i64 x.session, .int .i64 x.req.kind, .int .i64 x.req.life, .int .i64 x.req.number, .int .i64 x.req.place, .string x.req.key, .string x.req.to, .slice AV nV cV, .int .i64 x.req.limit, .int .i64 x.place, .slice AS nS cS]) (fun ρ => ρ (.tmp 15) = .pointer (some ⟨g, off + k * 12, none⟩)) (by kernel_rfl) (fun ρ hρ => ?_) (Chg.refl _ _) rfl; go_simp
      obtain rfl : x4_4 = _ := hv
      clear hc w1
      refine soft_one (some 17) rfl (nEv x).f (by kernel_rfl) (by kernel_rfl) (fun w1 hc hk => ?_) (fun x4_5 w1 hc hv => ?_)
      · exact soft_call (args := #[.agg #[.int .i64 x.kind, .int .i64 x.session, .int .i64 x.req.kind, .int .i64 x.req.life, .int .i64 x.req.number, .int .i64 x.req.place, .string x.req.key, .string x.req.to, .slice AV nV cV, .int .i64 x.req.limit, .int .i64 x.place, .slice AS nS cS]]) Try.func16 (by kernel_rfl) (by kernel_rfl) rfl (by kernel_rfl) (d_copy (HEV.out _ hc) HFx.out)
      clear hv
      clear hc w1
      refine soft_one (some 18) rfl (Note.eq (.bool mb)).f (by kernel_rfl) (by kernel_rfl) (fun w1 hc hk => ?_) (fun x4_6 w1 hc hv => ?_)
      · exact soft_call (args := #[.agg #[.slice A1 n1 c1, .slice A2 n2 c2, .slice A3 n3 c3], x4_5]) Try.func15 (by kernel_rfl) (by kernel_rfl) rfl (by kernel_rfl) (d_may mb hcf (HC.out _ (((Chg.refl _ w).alloc _).trans (H1.out.trans hc (fun _ _ h => h)) (fun _ _ h => h))) (known_at hk 5 (nEv x).f x4_5 (by kernel_rfl) (by kernel_rfl) (by kernel_rfl)) hmb)
      obtain rfl : x4_6 = _ := hv
      clear hc w1
      refine soft_one (some 19) rfl (Note.eq (.agg #[.slice A1 n1 c1, .slice A2 n2 c2, .slice A3 n3 c3])).f (by kernel_rfl) (by kernel_rfl) (fun w1 hc hk => ?_) (fun x4_7 w1 hc hv => ?_)
      · have k0 := cell_at (HBX.out _ (H1.out.trans hc (fun _ _ h => h))) 0 rfl; have k1 := cell_at (HBX.out _ (H1.out.trans hc (fun _ _ h => h))) 1 rfl; have k2 := cell_at (HBX.out _ (H1.out.trans hc (fun _ _ h => h))) 2 rfl; refine soft_at (w1 := w1) (u := .agg #[.slice A1 n1 c1, .slice A2 n2 c2, .slice A3 n3 c3]) (fun ρ => ρ (.tmp 2) = .pointer (some ⟨w.heap.size, 0, none⟩)) (by kernel_rfl) (fun ρ hρ => ?_) (Chg.refl _ _) rfl; go_simp
      obtain rfl : x4_7 = _ := hv
      clear hc w1
      refine soft_one (some 20) rfl (Note.eq (.slice (some ⟨g, off, none⟩) s.length cc)).f (by kernel_rfl) (by kernel_rfl) (fun w1 hc hk => ?_) (fun x4_8 w1 hc hv => ?_)
      · exact soft_move (.tmp 1) rfl (.slice (some ⟨g, off, none⟩) s.length cc) (by kernel_rfl) rfl
      obtain rfl : x4_8 = _ := hv
      clear hc w1
      refine soft_one (some 21) rfl (Note.eq (.int .i64 (k : Int))).f (by kernel_rfl) (by kernel_rfl) (fun w1 hc hk => ?_) (fun x4_9 w1 hc hv => ?_)
      · exact soft_move (.tmp 5) rfl (.int .i64 (k : Int)) (by kernel_rfl) rfl
      obtain rfl : x4_9 = _ := hv
      clear hc w1
      refine soft_one (some 22) rfl (Note.eq (.pointer (some ⟨g, off + k * 12, none⟩))).f (by kernel_rfl) (by kernel_rfl) (fun w1 hc hk => ?_) (fun x4_10 w1 hc hv => ?_)
      · refine soft_at (w1 := w1) (u := .pointer (some ⟨g, off + k * 12, none⟩)) (fun ρ => ρ (.tmp 20) = .slice (some ⟨g, off, none⟩) s.length cc ∧ ρ (.tmp 21) = .int .i64 (k : Int)) ⟨by kernel_rfl, by kernel_rfl⟩ (fun ρ hρ => ?_) (Chg.refl _ _) rfl; (obtain ⟨g0, g1⟩ := hρ; go_simp)
      obtain rfl : x4_10 = _ := hv
      clear hc w1
      refine soft_one (some 23) rfl (Note.eq (.agg #[.int .i64 x.kind, .int .i64 x.session, .int .i64 x.req.kind, .int .i64 x.req.life, .int .i64 x.req.number, .int .i64 x.req.place, .string x.req.key, .string x.req.to, .slice AV nV cV, .int .i64 x.req.limit, .int .i64 x.place, .slice AS nS cS])).f (by kernel_rfl) (by kernel_rfl) (fun w1 hc hk => ?_) (fun x4_11 w1 hc hv => ?_)
      · obtain ⟨p0, p1, p2, p3, p4, p5, p6, p7, p8, p9, p10, p11⟩ := range12 (HRA.out _ hc); refine soft_at (w1 := w1) (u := .agg #[.int .i64 x.kind, .int .i64 x.session, .int .i64 x.req.kind, .int .i64 x.req.life, .int .i64 x.req.number, .int .i64 x.req.place, .string x.req.key, .string x.req.to, .slice AV nV cV, .int .i64 x.req.limit, .int .i64 x.place, .slice AS nS cS]) (fun ρ => ρ (.tmp 22) = .pointer (some ⟨g, off + k * 12, none⟩)) (by kernel_rfl) (fun ρ hρ => ?_) (Chg.refl _ _) rfl; go_simp
      obtain rfl : x4_11 = _ := hv
      clear hc w1
      refine soft_one (some 24) rfl (Note.eq (.bool mb)).f (by kernel_rfl) (by kernel_rfl) (fun w1 hc hk => ?_) (fun x4_12 w1 hc hv => ?_)
      · exact soft_call (args := #[.agg #[.slice A1 n1 c1, .slice A2 n2 c2, .slice A3 n3 c3], .agg #[.int .i64 x.kind, .int .i64 x.session, .int .i64 x.req.kind, .int .i64 x.req.life, .int .i64 x.req.number, .int .i64 x.req.place, .string x.req.key, .string x.req.to, .slice AV nV cV, .int .i64 x.req.limit, .int .i64 x.place, .slice AS nS cS]]) Try.func17 (by kernel_rfl) (by kernel_rfl) rfl (by kernel_rfl) (d_rmay mb hcf (HC.out _ (((Chg.refl _ w).alloc _).trans (H1.out.trans hc (fun _ _ h => h)) (fun _ _ h => h))) (HEV.out _ hc) hmb)
      obtain rfl : x4_12 = _ := hv
      clear hc w1
      refine soft_one (some 25) rfl (Note.eq (.bool false)).f (by kernel_rfl) (by kernel_rfl) (fun w1 hc hk => ?_) (fun x4_13 w1 hc hv => ?_)
      · refine soft_at (w1 := w1) (u := .bool false) (fun ρ => ρ (.tmp 18) = .bool mb ∧ ρ (.tmp 24) = .bool mb) ⟨by kernel_rfl, by kernel_rfl⟩ (fun ρ hρ => ?_) (Chg.refl _ _) rfl; (obtain ⟨g0, g1⟩ := hρ; go_simp)
      obtain rfl : x4_13 = _ := hv
      clear hc w1
      intro w3 hc3 hn3
      have H3 : Hid (Chg (fun _ => False) (w.alloc (.cells #[.slice A1 n1 c1, .slice A2 n2 c2, .slice A3 n3 c3] 27)) w3) := H1.out.trans hc3 (fun _ _ h => h)
      clear hn3 hc3
      simp only [Act.put, List.setIfInBounds_toArray, List.set_cons_succ, List.set_cons_zero]
      go_wp2
      go_roundw
      case rel => exact ⟨k + 1, by omega, by go_num, H3.out⟩
      case measure => simp [intOf]; omega
    · go_wp2_with fail
      refine (awake_any _).mono ?_
      rintro e w2 ⟨rfl, hc2⟩
      have H2 : Hid (Chg (fun _ => False) w w2) := ((Chg.refl _ w).alloc _).trans (H1.out.trans hc2 (fun _ _ h => h)) (fun _ _ h => h)
      clear hc2
      go_wp2
      go_ret
      exact ⟨rfl, H2.out.below⟩
end Go.Proofs.Ytchlolgfahgdeaa.Ewc
