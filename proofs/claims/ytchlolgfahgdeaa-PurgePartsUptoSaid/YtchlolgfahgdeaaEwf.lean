/- The walks of the laws Parts. Conditions: what comes in reads so. -/
import Derived.Test.YtchlolgfahgdeaaEwe
import Derived.Test.YtchlolgfahgdeaaRgt
import Derived.Deep.Cut
set_option linter.unusedVariables false
set_option linter.unusedSimpArgs false
namespace Go.Proofs.Ytchlolgfahgdeaa.Ewf
open Go.RowKit Go.Proofs.Ytchlolgfahgdeaa.Lib1 Go.Proofs.Ytchlolgfahgdeaa.Rel Go.Proofs.Ytchlolgfahgdeaa.Own Go.Proofs.Ytchlolgfahgdeaa.Ev Go.Proofs.Ytchlolgfahgdeaa.Ek Go.Proofs.Ytchlolgfahgdeaa.Ec Go.Proofs.Ytchlolgfahgdeaa.Em Go.Proofs.Ytchlolgfahgdeaa.En Go.Proofs.Ytchlolgfahgdeaa.Lat Go.Proofs.Ytchlolgfahgdeaa.Lbl Go.Proofs.Ytchlolgfahgdeaa.Lbw Go.Proofs.Ytchlolgfahgdeaa.Lck Go.Proofs.Ytchlolgfahgdeaa.Lmay Go.Proofs.Ytchlolgfahgdeaa.Rgn Go.Proofs.Ytchlolgfahgdeaa.Rgs Go.Proofs.Ytchlolgfahgdeaa.Eaw Go.Proofs.Ytchlolgfahgdeaa.Esq Go.Proofs.Ytchlolgfahgdeaa.Epo Go.Proofs.Ytchlolgfahgdeaa.Ess Go.Proofs.Ytchlolgfahgdeaa.Ead Go.Proofs.Ytchlolgfahgdeaa.Eak Go.Proofs.Ytchlolgfahgdeaa.Ela Go.Proofs.Ytchlolgfahgdeaa.Ewc Go.Proofs.Ytchlolgfahgdeaa.Ewd Go.Proofs.Ytchlolgfahgdeaa.Rgt

def nOwn (base : Nat) (l : List Ev) : Note := ⟨fun v w => OwnL evK 37 base w v l, fun v w w' hc h => h.up hc⟩
theorem own_evs {base : Nat} {w : World} {v : Value} {l : List Ev} (h : OwnL evK 37 base w v l) : (nEvs l).f v w := evsK.mono (fun k hk => hk.2) (h.reads (bytes := 144))
section
variable {w : World} {c : Cfg}
theorem o_purge {V1 V2 : Value} {l : List Ev} (base : Nat) (hb : base ≤ w.heap.size) (hcf : cfgFits c) (p : Int) (h1 : CfgW c V1 w) (h2 : (nEvs l).f V2 w) (hf : evsK.fits l) : Calls Try.prog 19 #[V1, .int .i64 p, V2] w fun e w' => ∃ v, e = .returned v ∧ Chg (fun _ => False) w w' ∧ OwnL evK 37 base w' v (Ev.purge c p l) := by
  obtain ⟨A1, A2, A3, n1, n2, n3, c1, c2, c3, rfl, hC⟩ := h1
  obtain ⟨A, k, rfl⟩ := nEvs_form h2
  exact (ppurge_any hC (fun k hk => hk) hcf p l A _ k h2 hf).mono fun e w' ⟨v, he, ho, hc⟩ => ⟨v, he, hc, ho.base_le hb⟩
theorem o_still {V1 V2 : Value} {l : List Ev} (base : Nat) (hb : base ≤ w.heap.size) (hcf : cfgFits c) (h1 : CfgW c V1 w) (h2 : (nEvs l).f V2 w) (hf : evsK.fits l) : Calls Try.prog 22 #[V1, V2] w fun e w' => ∃ v, e = .returned v ∧ Chg (fun _ => False) w w' ∧ OwnL evK 37 base w' v (Ev.still c l) := by
  obtain ⟨A1, A2, A3, n1, n2, n3, c1, c2, c3, rfl, hC⟩ := h1
  obtain ⟨A, k, rfl⟩ := nEvs_form h2
  exact (pstill_any hC (fun k hk => hk) hcf l A _ k h2 hf).mono fun e w' ⟨v, he, ho, hc⟩ => ⟨v, he, hc, ho.base_le hb⟩
theorem o_copies {V : Value} {l : List Ev} (base : Nat) (hb : base ≤ w.heap.size) (h : (nEvs l).f V w) (hf : evsK.fits l) : Calls Try.prog 20 #[V] w fun e w' => ∃ v, e = .returned v ∧ Chg (fun _ => False) w w' ∧ OwnL evK 37 base w' v l := by
  obtain ⟨A, k, rfl⟩ := nEvs_form h
  exact (copies_any w _ l A _ k h (fun k hk => hk) hf).mono fun e w' ⟨v, he, ho, hc⟩ => ⟨v, he, hc, ho.base_le hb⟩
end
theorem fits_app {a b : List Ev} (h1 : evsK.fits a) (h2 : evsK.fits b) (hn : a.length + b.length ≤ 1048576) : evsK.fits (a ++ b) :=
  ⟨by rw [List.length_append]; omega, fun x hx => by
    rcases List.mem_append.1 hx with h | h
    · exact h1.2 x h
    · exact h2.2 x h⟩
theorem purge_len (c : Cfg) (p : Int) (s : List Ev) : (Ev.purge c p s).length ≤ s.length := by
  unfold Ev.purge; split
  · exact List.length_filterMap_le _ _
  · exact Nat.zero_le _
set_option maxRecDepth 100000 in
set_option maxHeartbeats 12800000 in
theorem parts_walk {ok : Nat → Prop} {w : World} {A1 A2 A3 : Option Addr} {n1 n2 n3 c1 c2 c3 : Nat} {c : Cfg} (h : CfgAt ok w A1 A2 A3 n1 n2 n3 c1 c2 c3 c) (hok : ∀ k, ok k → k < w.heap.size) (hcf : cfgFits c) (place : Int) {oks : Nat → Prop} (s : List Ev) (A : Option Addr) (n cc : Nat) (hrs : evsK.rel oks w s [.slice A n cc]) (hoks : ∀ k, oks k → k < w.heap.size) (hfs : evsK.fits s) {okt : Nat → Prop} (t : List Ev) (B : Option Addr) (m cd : Nat) (hrt : evsK.rel okt w t [.slice B m cd]) (hokt : ∀ k, okt k → k < w.heap.size) (hft : evsK.fits t) (hn : s.length + t.length ≤ 1048576) :
    Calls Try.prog 9 #[.agg #[.slice A1 n1 c1, .slice A2 n2 c2, .slice A3 n3 c3], .int .i64 place, .slice A n cc, .slice B m cd] w fun e w' => e = .returned (.bool true) ∧ Below w.heap.size w w' := by
  have hC0 : CfgW c (.agg #[.slice A1 n1 c1, .slice A2 n2 c2, .slice A3 n3 c3]) w := CfgW_of h hok
  have hEs : (nEvs s).f (.slice A n cc) w := nEvs_of hrs hoks
  have hEt : (nEvs t).f (.slice B m cd) w := nEvs_of hrt hokt
  have HC : Hid (∀ w', Chg (fun _ => False) w w' → CfgW c (.agg #[.slice A1 n1 c1, .slice A2 n2 c2, .slice A3 n3 c3]) w') := fun w' hc => hC0.up hc
  have HEs : Hid (∀ w', Chg (fun _ => False) w w' → (nEvs s).f (.slice A n cc) w') := fun w' hc => nEvs_up hEs hc
  have HEt : Hid (∀ w', Chg (fun _ => False) w w' → (nEvs t).f (.slice B m cd) w') := fun w' hc => nEvs_up hEt hc
  have HBX : Hid (∀ w', Chg (fun _ => False) (w.alloc (.cells #[.slice A1 n1 c1, .slice A2 n2 c2, .slice A3 n3 c3] 27)) w' → w'.heap[w.heap.size]? = some (.cells #[.slice A1 n1 c1, .slice A2 n2 c2, .slice A3 n3 c3] 27 (0, 0))) := fun w' hc => hc.at_ (heap_new w _) (fun h => h)
  have HFs := Lib.hid hfs
  have HFt := Lib.hid hft
  have HFa := Lib.hid (fits_app hfs hft hn)
  have hp1 := purge_len c place s
  have hp2 := purge_len c place t
  have hq1 : (Ev.still c s).length ≤ s.length := List.length_filterMap_le _ _
  have hq2 : (Ev.still c t).length ≤ t.length := List.length_filterMap_le _ _
  have HPA : Hid (Ev.purge c place (s ++ t) = Ev.purge c place s ++ Ev.purge c place t) := purge_append c place s t
  have HSA : Hid (Ev.still c (s ++ t) = Ev.still c s ++ Ev.still c t) := still_append c s t
  clear h hok hrs hoks hrt hokt hC0 hEs hEt hfs hft
  go_enter Try.func9, Try.ntmps9
  go_wp2_with fail
  refine (awake_any _).mono ?_
  rintro e w2 ⟨rfl, hc2⟩
  have H2 : Hid (Chg (fun _ => False) (w.alloc (.cells #[.slice A1 n1 c1, .slice A2 n2 c2, .slice A3 n3 c3] 27)) w2) := hc2
  clear hc2
  go_wp2_with fail
  refine (o_copies w2.heap.size (Nat.le_refl _) (HEs.out _ (((Chg.refl _ w).alloc _).trans H2.out (fun _ _ h => h))) HFs.out).mono ?_
  rintro e w3 ⟨v15, rfl, hc3, o15⟩
  have H3 : Hid (Chg (fun _ => False) (w.alloc (.cells #[.slice A1 n1 c1, .slice A2 n2 c2, .slice A3 n3 c3] 27)) w3) := H2.out.trans hc3 (fun _ _ h => h)
  have hs3 := hc3.size
  obtain ⟨A15, c15, e15⟩ := o15.form
  subst e15
  have HO15 := Lib.hid o15
  clear hc3 o15
  go_wp2_with fail
  refine (o_copies w3.heap.size (Nat.le_refl _) (HEt.out _ (((Chg.refl _ w).alloc _).trans H3.out (fun _ _ h => h))) HFt.out).mono ?_
  rintro e w4 ⟨v17, rfl, hc4, o17⟩
  have hs4 := hc4.size
  obtain ⟨A17, c17, e17⟩ := o17.form
  subst e17
  have HO17 := Lib.hid o17
  have HO15' := Lib.hid (HO15.out.up hc4)
  have HC4 := Lib.hid (H3.out.trans hc4 (fun _ _ h => h))
  clear hc4 o17
  go_wp2_with (at_builtin; refine ap_all rfl (.tmp 15) (.tmp 17) 28 rfl evK (w2.heap.size) 37 144 _ Try.underlying28 info_ev rfl (by decide) (by decide) (.slice A15 s.length c15) (s) rfl HO15'.out _ _ (t) 144 rfl HO17.out.reads ?aO ?aL ?aB ?_; (case aO => exact fun y cs hy => evK.mono (fun k hk => ⟨by omega, hk.2, fun he => by have := (HO15.out.low k he).2; omega⟩) hy); (case aL => omega); (case aB => omega); intro va wa oa ga)
  have H5 : Hid (Chg (fun _ => False) (w.alloc (.cells #[.slice A1 n1 c1, .slice A2 n2 c2, .slice A3 n3 c3] 27)) wa) := HC4.out.trans ga (fun k hk he => by have := (HO15.out.low k he).1; have := H2.out.size; omega)
  have HV9 : Hid ((nEvs (s ++ t)).f va wa) := own_evs oa
  obtain ⟨Aa, ca, ea⟩ := oa.form
  rw [List.length_append] at ea
  subst ea
  clear ga oa
  obtain ⟨w5, hw5⟩ : ∃ w5, w5 = wa := ⟨_, rfl⟩
  subst hw5
  try go_upto_region 4 with fail
  refine wp_region_soft_tail 9 (notes [Note.eq (.agg #[.slice A1 n1 c1, .slice A2 n2 c2, .slice A3 n3 c3]), Note.eq (.int .i64 place), Note.eq (.slice A n cc), nEvs (s), nOwn w5.heap.size (Ev.purge c place s), Note.eq (.agg #[.slice A1 n1 c1, .slice A2 n2 c2, .slice A3 n3 c3]), Note.eq (.int .i64 place), Note.eq (.slice B m cd), nEvs (t)]) (by kernel_rfl) (by kernel_rfl) (by kernel_rfl) (notes_st _) ?_
  refine soft_one (some 19) rfl (Note.eq (.agg #[.slice A1 n1 c1, .slice A2 n2 c2, .slice A3 n3 c3])).f (by kernel_rfl) (by kernel_rfl) (fun w1 hc hk => ?_) (fun x4_0 w1 hc hv => ?_)
  · have k0 := cell_at (HBX.out _ (H5.out.trans hc (fun _ _ h => h))) 0 rfl; have k1 := cell_at (HBX.out _ (H5.out.trans hc (fun _ _ h => h))) 1 rfl; have k2 := cell_at (HBX.out _ (H5.out.trans hc (fun _ _ h => h))) 2 rfl; refine soft_at (w1 := w1) (u := .agg #[.slice A1 n1 c1, .slice A2 n2 c2, .slice A3 n3 c3]) (fun ρ => ρ (.tmp 4) = .pointer (some ⟨w.heap.size, 0, none⟩)) (by kernel_rfl) (fun ρ hρ => ?_) (Chg.refl _ _) rfl; go_simp
  obtain rfl : x4_0 = _ := hv
  clear hc w1
  refine soft_one (some 20) rfl (Note.eq (.int .i64 place)).f (by kernel_rfl) (by kernel_rfl) (fun w1 hc hk => ?_) (fun x4_1 w1 hc hv => ?_)
  · exact soft_move (.tmp 1) rfl (.int .i64 place) (by kernel_rfl) rfl
  obtain rfl : x4_1 = _ := hv
  clear hc w1
  refine soft_one (some 21) rfl (Note.eq (.slice A n cc)).f (by kernel_rfl) (by kernel_rfl) (fun w1 hc hk => ?_) (fun x4_2 w1 hc hv => ?_)
  · exact soft_move (.tmp 2) rfl (.slice A n cc) (by kernel_rfl) rfl
  obtain rfl : x4_2 = _ := hv
  clear hc w1
  refine soft_one (some 22) rfl (nEvs (s)).f (by kernel_rfl) (by kernel_rfl) (fun w1 hc hk => ?_) (fun x4_3 w1 hc hv => ?_)
  · exact soft_call (args := #[.slice A n cc]) Try.func20 (by kernel_rfl) (by kernel_rfl) rfl (by kernel_rfl) (d_copies (HEs.out _ (((Chg.refl _ w).alloc _).trans (H5.out.trans hc (fun _ _ h => h)) (fun _ _ h => h))) HFs.out)
  clear hv
  clear hc w1
  refine soft_one (some 23) rfl (nOwn w5.heap.size (Ev.purge c place s)).f (by kernel_rfl) (by kernel_rfl) (fun w1 hc hk => ?_) (fun x4_4 w1 hc hv => ?_)
  · exact soft_call (args := #[.agg #[.slice A1 n1 c1, .slice A2 n2 c2, .slice A3 n3 c3], .int .i64 place, x4_3]) Try.func19 (by kernel_rfl) (by kernel_rfl) rfl (by kernel_rfl) (o_purge w5.heap.size hc.size hcf place (HC.out _ (((Chg.refl _ w).alloc _).trans (H5.out.trans hc (fun _ _ h => h)) (fun _ _ h => h))) (known_at hk 3 (nEvs (s)).f x4_3 (by kernel_rfl) (by kernel_rfl) (by kernel_rfl)) HFs.out)
  clear hv
  clear hc w1
  refine soft_one (some 24) rfl (Note.eq (.agg #[.slice A1 n1 c1, .slice A2 n2 c2, .slice A3 n3 c3])).f (by kernel_rfl) (by kernel_rfl) (fun w1 hc hk => ?_) (fun x4_5 w1 hc hv => ?_)
  · have k0 := cell_at (HBX.out _ (H5.out.trans hc (fun _ _ h => h))) 0 rfl; have k1 := cell_at (HBX.out _ (H5.out.trans hc (fun _ _ h => h))) 1 rfl; have k2 := cell_at (HBX.out _ (H5.out.trans hc (fun _ _ h => h))) 2 rfl; refine soft_at (w1 := w1) (u := .agg #[.slice A1 n1 c1, .slice A2 n2 c2, .slice A3 n3 c3]) (fun ρ => ρ (.tmp 4) = .pointer (some ⟨w.heap.size, 0, none⟩)) (by kernel_rfl) (fun ρ hρ => ?_) (Chg.refl _ _) rfl; go_simp
  obtain rfl : x4_5 = _ := hv
  clear hc w1
  refine soft_one (some 25) rfl (Note.eq (.int .i64 place)).f (by kernel_rfl) (by kernel_rfl) (fun w1 hc hk => ?_) (fun x4_6 w1 hc hv => ?_)
  · exact soft_move (.tmp 1) rfl (.int .i64 place) (by kernel_rfl) rfl
  obtain rfl : x4_6 = _ := hv
  clear hc w1
  refine soft_one (some 26) rfl (Note.eq (.slice B m cd)).f (by kernel_rfl) (by kernel_rfl) (fun w1 hc hk => ?_) (fun x4_7 w1 hc hv => ?_)
  · exact soft_move (.tmp 3) rfl (.slice B m cd) (by kernel_rfl) rfl
  obtain rfl : x4_7 = _ := hv
  clear hc w1
  refine soft_one (some 27) rfl (nEvs (t)).f (by kernel_rfl) (by kernel_rfl) (fun w1 hc hk => ?_) (fun x4_8 w1 hc hv => ?_)
  · exact soft_call (args := #[.slice B m cd]) Try.func20 (by kernel_rfl) (by kernel_rfl) rfl (by kernel_rfl) (d_copies (HEt.out _ (((Chg.refl _ w).alloc _).trans (H5.out.trans hc (fun _ _ h => h)) (fun _ _ h => h))) HFt.out)
  clear hv
  clear hc w1
  intro w6 hc6 hn6
  have g4 : OwnL evK 37 w5.heap.size w6 x4_4 (Ev.purge c place s) := note_at hn6 4 (nOwn w5.heap.size (Ev.purge c place s)).f x4_4 (by kernel_rfl) (by kernel_rfl) (by decide)
  have g8 : (nEvs t).f x4_8 w6 := note_at hn6 8 (nEvs (t)).f x4_8 (by kernel_rfl) (by kernel_rfl) (by decide)
  have H6 : Hid (Chg (fun _ => False) (w.alloc (.cells #[.slice A1 n1 c1, .slice A2 n2 c2, .slice A3 n3 c3] 27)) w6) := H5.out.trans hc6 (fun _ _ h => h)
  have H56 := Lib.hid hc6
  have hs6 := hc6.size
  obtain ⟨A4, c4, e4⟩ := g4.form
  subst e4
  have HG4 := Lib.hid g4
  have HG8 := Lib.hid g8
  clear hn6 hc6 g4 g8
  simp only [List.drop_succ_cons, List.drop_zero]
  simp only [Act.put, List.setIfInBounds_toArray, List.set_cons_succ, List.set_cons_zero]
  go_wp2_with fail
  refine (o_purge w6.heap.size (Nat.le_refl _) hcf place (HC.out _ (((Chg.refl _ w).alloc _).trans H6.out (fun _ _ h => h))) HG8.out HFt.out).mono ?_
  rintro e w7 ⟨v28, rfl, hc7, o28⟩
  have hs7 := hc7.size
  obtain ⟨A28, c28, e28⟩ := o28.form
  subst e28
  have HO28 := Lib.hid o28
  have HG4' := Lib.hid (HG4.out.up hc7)
  have H57 := Lib.hid (H56.out.trans hc7 (fun _ _ h => h))
  clear hc7 o28
  go_wp2_with (at_builtin; refine ap_all rfl (.tmp 23) (.tmp 28) 28 rfl evK (w5.heap.size) 37 144 _ Try.underlying28 info_ev rfl (by decide) (by decide) (.slice A4 (Ev.purge c place s).length c4) (Ev.purge c place s) rfl HG4'.out _ _ (Ev.purge c place t) 144 rfl HO28.out.reads ?aO ?aL ?aB ?_; (case aO => exact fun y cs hy => evK.mono (fun k hk => ⟨by omega, hk.2, fun he => by have := (HG4.out.low k he).2; omega⟩) hy); (case aL => omega); (case aB => omega); intro va wa oa ga)
  have h58 : Chg (fun _ => False) w5 wa := H57.out.trans ga (fun k hk he => by have := (HG4.out.low k he).1; omega)
  have H8 : Hid (Chg (fun _ => False) (w.alloc (.cells #[.slice A1 n1 c1, .slice A2 n2 c2, .slice A3 n3 c3] 27)) wa) := H5.out.trans h58 (fun _ _ h => h)
  have HW8 : Hid ((nEvs (s ++ t)).f (.slice Aa (s.length + t.length) ca) wa) := nEvs_up HV9.out h58
  have HV10 : Hid ((nEvs (Ev.purge c place s ++ Ev.purge c place t)).f va wa) := own_evs oa
  obtain ⟨Ab, cb, eb⟩ := oa.form
  rw [List.length_append] at eb
  subst eb
  clear ga oa h58
  obtain ⟨w8, hw8⟩ : ∃ w8, w8 = wa := ⟨_, rfl⟩
  subst hw8
  try go_upto_region 5 with fail
  refine wp_region_soft_tail 7 (notes [Note.eq (.agg #[.slice A1 n1 c1, .slice A2 n2 c2, .slice A3 n3 c3]), Note.eq (.slice A n cc), nEvs (s), nOwn w8.heap.size (Ev.still c s), Note.eq (.agg #[.slice A1 n1 c1, .slice A2 n2 c2, .slice A3 n3 c3]), Note.eq (.slice B m cd), nEvs (t)]) (by kernel_rfl) (by kernel_rfl) (by kernel_rfl) (notes_st _) ?_
  refine soft_one (some 30) rfl (Note.eq (.agg #[.slice A1 n1 c1, .slice A2 n2 c2, .slice A3 n3 c3])).f (by kernel_rfl) (by kernel_rfl) (fun w1 hc hk => ?_) (fun x5_0 w1 hc hv => ?_)
  · have k0 := cell_at (HBX.out _ (H8.out.trans hc (fun _ _ h => h))) 0 rfl; have k1 := cell_at (HBX.out _ (H8.out.trans hc (fun _ _ h => h))) 1 rfl; have k2 := cell_at (HBX.out _ (H8.out.trans hc (fun _ _ h => h))) 2 rfl; refine soft_at (w1 := w1) (u := .agg #[.slice A1 n1 c1, .slice A2 n2 c2, .slice A3 n3 c3]) (fun ρ => ρ (.tmp 4) = .pointer (some ⟨w.heap.size, 0, none⟩)) (by kernel_rfl) (fun ρ hρ => ?_) (Chg.refl _ _) rfl; go_simp
  obtain rfl : x5_0 = _ := hv
  clear hc w1
  refine soft_one (some 31) rfl (Note.eq (.slice A n cc)).f (by kernel_rfl) (by kernel_rfl) (fun w1 hc hk => ?_) (fun x5_1 w1 hc hv => ?_)
  · exact soft_move (.tmp 2) rfl (.slice A n cc) (by kernel_rfl) rfl
  obtain rfl : x5_1 = _ := hv
  clear hc w1
  refine soft_one (some 32) rfl (nEvs (s)).f (by kernel_rfl) (by kernel_rfl) (fun w1 hc hk => ?_) (fun x5_2 w1 hc hv => ?_)
  · exact soft_call (args := #[.slice A n cc]) Try.func20 (by kernel_rfl) (by kernel_rfl) rfl (by kernel_rfl) (d_copies (HEs.out _ (((Chg.refl _ w).alloc _).trans (H8.out.trans hc (fun _ _ h => h)) (fun _ _ h => h))) HFs.out)
  clear hv
  clear hc w1
  refine soft_one (some 33) rfl (nOwn w8.heap.size (Ev.still c s)).f (by kernel_rfl) (by kernel_rfl) (fun w1 hc hk => ?_) (fun x5_3 w1 hc hv => ?_)
  · exact soft_call (args := #[.agg #[.slice A1 n1 c1, .slice A2 n2 c2, .slice A3 n3 c3], x5_2]) Try.func22 (by kernel_rfl) (by kernel_rfl) rfl (by kernel_rfl) (o_still w8.heap.size hc.size hcf (HC.out _ (((Chg.refl _ w).alloc _).trans (H8.out.trans hc (fun _ _ h => h)) (fun _ _ h => h))) (known_at hk 2 (nEvs (s)).f x5_2 (by kernel_rfl) (by kernel_rfl) (by kernel_rfl)) HFs.out)
  clear hv
  clear hc w1
  refine soft_one (some 34) rfl (Note.eq (.agg #[.slice A1 n1 c1, .slice A2 n2 c2, .slice A3 n3 c3])).f (by kernel_rfl) (by kernel_rfl) (fun w1 hc hk => ?_) (fun x5_4 w1 hc hv => ?_)
  · have k0 := cell_at (HBX.out _ (H8.out.trans hc (fun _ _ h => h))) 0 rfl; have k1 := cell_at (HBX.out _ (H8.out.trans hc (fun _ _ h => h))) 1 rfl; have k2 := cell_at (HBX.out _ (H8.out.trans hc (fun _ _ h => h))) 2 rfl; refine soft_at (w1 := w1) (u := .agg #[.slice A1 n1 c1, .slice A2 n2 c2, .slice A3 n3 c3]) (fun ρ => ρ (.tmp 4) = .pointer (some ⟨w.heap.size, 0, none⟩)) (by kernel_rfl) (fun ρ hρ => ?_) (Chg.refl _ _) rfl; go_simp
  obtain rfl : x5_4 = _ := hv
  clear hc w1
  refine soft_one (some 35) rfl (Note.eq (.slice B m cd)).f (by kernel_rfl) (by kernel_rfl) (fun w1 hc hk => ?_) (fun x5_5 w1 hc hv => ?_)
  · exact soft_move (.tmp 3) rfl (.slice B m cd) (by kernel_rfl) rfl
  obtain rfl : x5_5 = _ := hv
  clear hc w1
  refine soft_one (some 36) rfl (nEvs (t)).f (by kernel_rfl) (by kernel_rfl) (fun w1 hc hk => ?_) (fun x5_6 w1 hc hv => ?_)
  · exact soft_call (args := #[.slice B m cd]) Try.func20 (by kernel_rfl) (by kernel_rfl) rfl (by kernel_rfl) (d_copies (HEt.out _ (((Chg.refl _ w).alloc _).trans (H8.out.trans hc (fun _ _ h => h)) (fun _ _ h => h))) HFt.out)
  clear hv
  clear hc w1
  intro w9 hc9 hn9
  have g4 : OwnL evK 37 w8.heap.size w9 x5_3 (Ev.still c s) := note_at hn9 3 (nOwn w8.heap.size (Ev.still c s)).f x5_3 (by kernel_rfl) (by kernel_rfl) (by decide)
  have g8 : (nEvs t).f x5_6 w9 := note_at hn9 6 (nEvs (t)).f x5_6 (by kernel_rfl) (by kernel_rfl) (by decide)
  have H9 : Hid (Chg (fun _ => False) (w.alloc (.cells #[.slice A1 n1 c1, .slice A2 n2 c2, .slice A3 n3 c3] 27)) w9) := H8.out.trans hc9 (fun _ _ h => h)
  have H89 := Lib.hid hc9
  have hs9 := hc9.size
  obtain ⟨A5, c5, e5⟩ := g4.form
  subst e5
  have HK4 := Lib.hid g4
  have HK8 := Lib.hid g8
  clear hn9 hc9 g4 g8
  simp only [List.drop_succ_cons, List.drop_zero]
  simp only [Act.put, List.setIfInBounds_toArray, List.set_cons_succ, List.set_cons_zero]
  go_wp2_with fail
  refine (o_still w9.heap.size (Nat.le_refl _) hcf (HC.out _ (((Chg.refl _ w).alloc _).trans H9.out (fun _ _ h => h))) HK8.out HFt.out).mono ?_
  rintro e w10 ⟨v37, rfl, hc10, o37⟩
  have hs10 := hc10.size
  obtain ⟨A37, c37, e37⟩ := o37.form
  subst e37
  have HO37 := Lib.hid o37
  have HK4' := Lib.hid (HK4.out.up hc10)
  have H810 := Lib.hid (H89.out.trans hc10 (fun _ _ h => h))
  clear hc10 o37
  go_upto_region 6 with (at_builtin; refine ap_all rfl (.tmp 33) (.tmp 37) 28 rfl evK (w8.heap.size) 37 144 _ Try.underlying28 info_ev rfl (by decide) (by decide) (.slice A5 (Ev.still c s).length c5) (Ev.still c s) rfl HK4'.out _ _ (Ev.still c t) 144 rfl HO37.out.reads ?aO ?aL ?aB ?_; (case aO => exact fun y cs hy => evK.mono (fun k hk => ⟨by omega, hk.2, fun he => by have := (HK4.out.low k he).2; omega⟩) hy); (case aL => omega); (case aB => omega); intro va wa oa ga)
  have h811 : Chg (fun _ => False) w8 wa := H810.out.trans ga (fun k hk he => by have := (HK4.out.low k he).1; omega)
  have H11 : Hid (Chg (fun _ => False) (w.alloc (.cells #[.slice A1 n1 c1, .slice A2 n2 c2, .slice A3 n3 c3] 27)) wa) := H8.out.trans h811 (fun _ _ h => h)
  have HW11 : Hid ((nEvs (s ++ t)).f (.slice Aa (s.length + t.length) ca) wa) := nEvs_up HW8.out h811
  have HP11 : Hid ((nEvs (Ev.purge c place s ++ Ev.purge c place t)).f (.slice Ab ((Ev.purge c place s).length + (Ev.purge c place t).length) cb) wa) := nEvs_up HV10.out h811
  have HV11 : Hid ((nEvs (Ev.still c s ++ Ev.still c t)).f va wa) := own_evs oa
  obtain ⟨Ad, cd2, ed⟩ := oa.form
  rw [List.length_append] at ed
  subst ed
  clear ga oa h811
  obtain ⟨w11, hw11⟩ : ∃ w11, w11 = wa := ⟨_, rfl⟩
  subst hw11
  refine wp_region_seq (notes [Note.eq (.agg #[.slice A1 n1 c1, .slice A2 n2 c2, .slice A3 n3 c3]), Note.eq (.int .i64 place), Note.eq (.slice Aa (s.length + t.length) ca), nEvs (Ev.purge c place s ++ Ev.purge c place t), Note.eq (.slice Ab ((Ev.purge c place s).length + (Ev.purge c place t).length) cb), Note.eq (.bool true), Note.eq (.bool true), Note.eq (.agg #[.slice A1 n1 c1, .slice A2 n2 c2, .slice A3 n3 c3]), Note.eq (.slice Aa (s.length + t.length) ca), nEvs (Ev.still c s ++ Ev.still c t), Note.eq (.slice Ad ((Ev.still c s).length + (Ev.still c t).length) cd2), Note.eq (.bool true), Note.eq (.bool true), Note.eq (.bool true)]) (by kernel_rfl) (by kernel_rfl) (notes_st _) ?_
  refine soft_one (some 39) rfl (Note.eq (.agg #[.slice A1 n1 c1, .slice A2 n2 c2, .slice A3 n3 c3])).f (by kernel_rfl) (by kernel_rfl) (fun w1 hc hk => ?_) (fun x6_0 w1 hc hv => ?_)
  · have k0 := cell_at (HBX.out _ (H11.out.trans hc (fun _ _ h => h))) 0 rfl; have k1 := cell_at (HBX.out _ (H11.out.trans hc (fun _ _ h => h))) 1 rfl; have k2 := cell_at (HBX.out _ (H11.out.trans hc (fun _ _ h => h))) 2 rfl; refine soft_at (w1 := w1) (u := .agg #[.slice A1 n1 c1, .slice A2 n2 c2, .slice A3 n3 c3]) (fun ρ => ρ (.tmp 4) = .pointer (some ⟨w.heap.size, 0, none⟩)) (by kernel_rfl) (fun ρ hρ => ?_) (Chg.refl _ _) rfl; go_simp
  obtain rfl : x6_0 = _ := hv
  clear hc w1
  refine soft_one (some 40) rfl (Note.eq (.int .i64 place)).f (by kernel_rfl) (by kernel_rfl) (fun w1 hc hk => ?_) (fun x6_1 w1 hc hv => ?_)
  · exact soft_move (.tmp 1) rfl (.int .i64 place) (by kernel_rfl) rfl
  obtain rfl : x6_1 = _ := hv
  clear hc w1
  refine soft_one (some 41) rfl (Note.eq (.slice Aa (s.length + t.length) ca)).f (by kernel_rfl) (by kernel_rfl) (fun w1 hc hk => ?_) (fun x6_2 w1 hc hv => ?_)
  · exact soft_move (.tmp 9) rfl (.slice Aa (s.length + t.length) ca) (by kernel_rfl) rfl
  obtain rfl : x6_2 = _ := hv
  clear hc w1
  refine soft_one (some 42) rfl (nEvs (Ev.purge c place s ++ Ev.purge c place t)).f (by kernel_rfl) (by kernel_rfl) (fun w1 hc hk => ?_) (fun x6_3 w1 hc hv => ?_)
  · exact soft_call (args := #[.agg #[.slice A1 n1 c1, .slice A2 n2 c2, .slice A3 n3 c3], .int .i64 place, .slice Aa (s.length + t.length) ca]) Try.func19 (by kernel_rfl) (by kernel_rfl) rfl (by kernel_rfl) (by have := d_purge hcf place (HC.out _ (((Chg.refl _ w).alloc _).trans (H11.out.trans hc (fun _ _ h => h)) (fun _ _ h => h))) (nEvs_up HW11.out hc) HFa.out; rwa [HPA.out] at this)
  clear hv
  clear hc w1
  refine soft_one (some 43) rfl (Note.eq (.slice Ab ((Ev.purge c place s).length + (Ev.purge c place t).length) cb)).f (by kernel_rfl) (by kernel_rfl) (fun w1 hc hk => ?_) (fun x6_4 w1 hc hv => ?_)
  · exact soft_move (.tmp 10) rfl (.slice Ab ((Ev.purge c place s).length + (Ev.purge c place t).length) cb) (by kernel_rfl) rfl
  obtain rfl : x6_4 = _ := hv
  clear hc w1
  refine soft_one (some 44) rfl (Note.eq (.bool true)).f (by kernel_rfl) (by kernel_rfl) (fun w1 hc hk => ?_) (fun x6_5 w1 hc hv => ?_)
  · exact soft_call (args := #[x6_3, .slice Ab ((Ev.purge c place s).length + (Ev.purge c place t).length) cb]) Try.func24 (by kernel_rfl) (by kernel_rfl) rfl (by kernel_rfl) (d_psame true (known_at hk 3 (nEvs (Ev.purge c place s ++ Ev.purge c place t)).f x6_3 (by kernel_rfl) (by kernel_rfl) (by kernel_rfl)) (nEvs_up HP11.out hc) (by rw [← HPA.out]; exact purge_fits HFa.out) (by rw [← HPA.out]; exact purge_fits HFa.out) (by simp))
  obtain rfl : x6_5 = _ := hv
  clear hc w1
  refine soft_one (some 45) rfl (Note.eq (.bool true)).f (by kernel_rfl) (by kernel_rfl) (fun w1 hc hk => ?_) (fun x6_6 w1 hc hv => ?_)
  · exact soft_move (.tmp 44) rfl (.bool true) (by kernel_rfl) rfl
  obtain rfl : x6_6 = _ := hv
  clear hc w1
  refine soft_one (some 46) rfl (Note.eq (.agg #[.slice A1 n1 c1, .slice A2 n2 c2, .slice A3 n3 c3])).f (by kernel_rfl) (by kernel_rfl) (fun w1 hc hk => ?_) (fun x6_7 w1 hc hv => ?_)
  · have k0 := cell_at (HBX.out _ (H11.out.trans hc (fun _ _ h => h))) 0 rfl; have k1 := cell_at (HBX.out _ (H11.out.trans hc (fun _ _ h => h))) 1 rfl; have k2 := cell_at (HBX.out _ (H11.out.trans hc (fun _ _ h => h))) 2 rfl; refine soft_at (w1 := w1) (u := .agg #[.slice A1 n1 c1, .slice A2 n2 c2, .slice A3 n3 c3]) (fun ρ => ρ (.tmp 4) = .pointer (some ⟨w.heap.size, 0, none⟩)) (by kernel_rfl) (fun ρ hρ => ?_) (Chg.refl _ _) rfl; go_simp
  obtain rfl : x6_7 = _ := hv
  clear hc w1
  refine soft_one (some 47) rfl (Note.eq (.slice Aa (s.length + t.length) ca)).f (by kernel_rfl) (by kernel_rfl) (fun w1 hc hk => ?_) (fun x6_8 w1 hc hv => ?_)
  · exact soft_move (.tmp 9) rfl (.slice Aa (s.length + t.length) ca) (by kernel_rfl) rfl
  obtain rfl : x6_8 = _ := hv
  clear hc w1
  refine soft_one (some 48) rfl (nEvs (Ev.still c s ++ Ev.still c t)).f (by kernel_rfl) (by kernel_rfl) (fun w1 hc hk => ?_) (fun x6_9 w1 hc hv => ?_)
  · exact soft_call (args := #[.agg #[.slice A1 n1 c1, .slice A2 n2 c2, .slice A3 n3 c3], .slice Aa (s.length + t.length) ca]) Try.func22 (by kernel_rfl) (by kernel_rfl) rfl (by kernel_rfl) (by have := d_still hcf (HC.out _ (((Chg.refl _ w).alloc _).trans (H11.out.trans hc (fun _ _ h => h)) (fun _ _ h => h))) (nEvs_up HW11.out hc) HFa.out; rwa [HSA.out] at this)
  clear hv
  clear hc w1
  refine soft_one (some 49) rfl (Note.eq (.slice Ad ((Ev.still c s).length + (Ev.still c t).length) cd2)).f (by kernel_rfl) (by kernel_rfl) (fun w1 hc hk => ?_) (fun x6_10 w1 hc hv => ?_)
  · exact soft_move (.tmp 11) rfl (.slice Ad ((Ev.still c s).length + (Ev.still c t).length) cd2) (by kernel_rfl) rfl
  obtain rfl : x6_10 = _ := hv
  clear hc w1
  refine soft_one (some 50) rfl (Note.eq (.bool true)).f (by kernel_rfl) (by kernel_rfl) (fun w1 hc hk => ?_) (fun x6_11 w1 hc hv => ?_)
  · exact soft_call (args := #[x6_9, .slice Ad ((Ev.still c s).length + (Ev.still c t).length) cd2]) Try.func24 (by kernel_rfl) (by kernel_rfl) rfl (by kernel_rfl) (d_psame true (known_at hk 9 (nEvs (Ev.still c s ++ Ev.still c t)).f x6_9 (by kernel_rfl) (by kernel_rfl) (by kernel_rfl)) (nEvs_up HV11.out hc) (by rw [← HSA.out]; exact still_fits HFa.out) (by rw [← HSA.out]; exact still_fits HFa.out) (by simp))
  obtain rfl : x6_11 = _ := hv
  clear hc w1
  refine soft_one (some 51) rfl (Note.eq (.bool true)).f (by kernel_rfl) (by kernel_rfl) (fun w1 hc hk => ?_) (fun x6_12 w1 hc hv => ?_)
  · refine soft_at (w1 := w1) (u := .bool true) (fun ρ => (∀ v, ρ (.const v) = v) ∧ ρ (.tmp 45) = .bool true ∧ ρ (.tmp 50) = .bool true) ⟨fun v => rfl, by kernel_rfl, by kernel_rfl⟩ (fun ρ hρ => ?_) (Chg.refl _ _) rfl; (obtain ⟨g0, g1, g2⟩ := hρ; go_simp)
  obtain rfl : x6_12 = _ := hv
  clear hc w1
  refine soft_one (some 8) rfl (Note.eq (.bool true)).f (by kernel_rfl) (by kernel_rfl) (fun w1 hc hk => ?_) (fun x6_13 w1 hc hv => ?_)
  · exact soft_assign (.tmp 51) rfl (.bool true) (by kernel_rfl) rfl
  obtain rfl : x6_13 = _ := hv
  clear hc w1
  refine soft_end (fun b => b.tmps.getD 8 undef = .bool true ∧ b.defers = []) ⟨by kernel_rfl, by kernel_rfl⟩ (fun b hb w6 hc6 => ?_)
  obtain ⟨hb0, hbd⟩ := hb
  have HC6 : Hid (Chg (fun _ => False) w w6) := ((Chg.refl _ w).alloc _).trans (H11.out.trans hc6 (fun _ _ h => h)) (fun _ _ h => h)
  clear hc6
  go_wp2
  exact bodyPost_ret (v := .bool true) (by simp [results, Try.results9, go_sem, show b.tmps[8]?.getD undef = .bool true by rw [← Array.getD_eq_getD_getElem?]; exact hb0]) hbd ⟨rfl, HC6.out.below⟩
end Go.Proofs.Ytchlolgfahgdeaa.Ewf
