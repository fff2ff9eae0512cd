/- The walks of the laws Commutes, Twice. Conditions: what comes in reads so. -/
import Derived.Test.YtchlolgfahgdeaaEla
import Derived.Deep.Cut
set_option linter.unusedVariables false
set_option linter.unusedSimpArgs false
namespace Go.Proofs.Ytchlolgfahgdeaa.Ewb
open Go.RowKit Go.Proofs.Ytchlolgfahgdeaa.Lib1 Go.Proofs.Ytchlolgfahgdeaa.Rel Go.Proofs.Ytchlolgfahgdeaa.Own Go.Proofs.Ytchlolgfahgdeaa.Ev Go.Proofs.Ytchlolgfahgdeaa.Ek Go.Proofs.Ytchlolgfahgdeaa.Ec Go.Proofs.Ytchlolgfahgdeaa.Em Go.Proofs.Ytchlolgfahgdeaa.En Go.Proofs.Ytchlolgfahgdeaa.Lat Go.Proofs.Ytchlolgfahgdeaa.Lbl Go.Proofs.Ytchlolgfahgdeaa.Lbw Go.Proofs.Ytchlolgfahgdeaa.Lck Go.Proofs.Ytchlolgfahgdeaa.Lmay Go.Proofs.Ytchlolgfahgdeaa.Rgn Go.Proofs.Ytchlolgfahgdeaa.Rgs Go.Proofs.Ytchlolgfahgdeaa.Eaw Go.Proofs.Ytchlolgfahgdeaa.Esq Go.Proofs.Ytchlolgfahgdeaa.Epo Go.Proofs.Ytchlolgfahgdeaa.Ess Go.Proofs.Ytchlolgfahgdeaa.Ead Go.Proofs.Ytchlolgfahgdeaa.Eak Go.Proofs.Ytchlolgfahgdeaa.Ela
set_option maxRecDepth 100000 in
set_option maxHeartbeats 3200000 in
theorem commutes_walk {ok : Nat → Prop} {w : World} {A1 A2 A3 : Option Addr} {n1 n2 n3 c1 c2 c3 : Nat} {c : Cfg} (h : CfgAt ok w A1 A2 A3 n1 n2 n3 c1 c2 c3 c) (hok : ∀ k, ok k → k < w.heap.size) (hcf : cfgFits c) (place : Int) {oks : Nat → Prop} (s : List Ev) (A : Option Addr) (n cc : Nat) (hrs : evsK.rel oks w s [.slice A n cc]) (hoks : ∀ k, oks k → k < w.heap.size) (hfs : evsK.fits s) :
    Calls Try.prog 12 #[.agg #[.slice A1 n1 c1, .slice A2 n2 c2, .slice A3 n3 c3], .int .i64 place, .slice A n cc] w fun e w' => e = .returned (.bool true) ∧ Below w.heap.size w w' := by
  have hC0 : CfgW c (.agg #[.slice A1 n1 c1, .slice A2 n2 c2, .slice A3 n3 c3]) w := CfgW_of h hok
  have hEs : (nEvs s).f (.slice A n cc) w := nEvs_of hrs hoks
  have HC : Hid (∀ w', Chg (fun _ => False) w w' → CfgW c (.agg #[.slice A1 n1 c1, .slice A2 n2 c2, .slice A3 n3 c3]) w') := fun w' hc => hC0.up hc
  have HEs : Hid (∀ w', Chg (fun _ => False) w w' → (nEvs s).f (.slice A n cc) w') := fun w' hc => nEvs_up hEs hc
  have HBX : Hid (∀ w', Chg (fun _ => False) (w.alloc (.cells #[.slice A1 n1 c1, .slice A2 n2 c2, .slice A3 n3 c3] 27)) w' → w'.heap[w.heap.size]? = some (.cells #[.slice A1 n1 c1, .slice A2 n2 c2, .slice A3 n3 c3] 27 (0, 0))) := fun w' hc => hc.at_ (heap_new w _) (fun h => h)
  clear h hok hrs hoks hC0 hEs
  go_enter Try.func12, Try.ntmps12
  go_wp2_with fail
  refine wp_region_soft (notes [Note.eq (.agg #[.slice A1 n1 c1, .slice A2 n2 c2, .slice A3 n3 c3]), Note.eq (.int .i64 place), Note.eq (.agg #[.slice A1 n1 c1, .slice A2 n2 c2, .slice A3 n3 c3]), Note.eq (.slice A n cc), nEvs (s), nEvs (Ev.still c s), nEvs (Ev.purge c place (Ev.still c s)), Note.eq (.agg #[.slice A1 n1 c1, .slice A2 n2 c2, .slice A3 n3 c3]), Note.eq (.agg #[.slice A1 n1 c1, .slice A2 n2 c2, .slice A3 n3 c3]), Note.eq (.int .i64 place), Note.eq (.slice A n cc), nEvs (s), nEvs (Ev.purge c place s), nEvs (Ev.still c (Ev.purge c place s)), Note.eq (.bool true), Note.eq (.bool true), Note.eq (.bool true), Note.eq (.bool true), Note.eq (.bool true)]) (by kernel_rfl) (by kernel_rfl) (by kernel_rfl) (notes_st _) ?_
  refine soft_one (some 7) rfl (Note.eq (.agg #[.slice A1 n1 c1, .slice A2 n2 c2, .slice A3 n3 c3])).f (by kernel_rfl) (by kernel_rfl) (fun w1 hc hk => ?_) (fun x1_0 w1 hc hv => ?_)
  · have k0 := cell_at (HBX.out _ hc) 0 rfl; have k1 := cell_at (HBX.out _ hc) 1 rfl; have k2 := cell_at (HBX.out _ hc) 2 rfl; refine soft_at (w1 := w1) (u := .agg #[.slice A1 n1 c1, .slice A2 n2 c2, .slice A3 n3 c3]) (fun ρ => ρ (.tmp 3) = .pointer (some ⟨w.heap.size, 0, none⟩)) (by kernel_rfl) (fun ρ hρ => ?_) (Chg.refl _ _) rfl; go_simp
  obtain rfl : x1_0 = _ := hv
  clear hc w1
  refine soft_one (some 8) rfl (Note.eq (.int .i64 place)).f (by kernel_rfl) (by kernel_rfl) (fun w1 hc hk => ?_) (fun x1_1 w1 hc hv => ?_)
  · exact soft_move (.tmp 1) rfl (.int .i64 place) (by kernel_rfl) rfl
  obtain rfl : x1_1 = _ := hv
  clear hc w1
  refine soft_one (some 9) rfl (Note.eq (.agg #[.slice A1 n1 c1, .slice A2 n2 c2, .slice A3 n3 c3])).f (by kernel_rfl) (by kernel_rfl) (fun w1 hc hk => ?_) (fun x1_2 w1 hc hv => ?_)
  · have k0 := cell_at (HBX.out _ hc) 0 rfl; have k1 := cell_at (HBX.out _ hc) 1 rfl; have k2 := cell_at (HBX.out _ hc) 2 rfl; refine soft_at (w1 := w1) (u := .agg #[.slice A1 n1 c1, .slice A2 n2 c2, .slice A3 n3 c3]) (fun ρ => ρ (.tmp 3) = .pointer (some ⟨w.heap.size, 0, none⟩)) (by kernel_rfl) (fun ρ hρ => ?_) (Chg.refl _ _) rfl; go_simp
  obtain rfl : x1_2 = _ := hv
  clear hc w1
  refine soft_one (some 10) rfl (Note.eq (.slice A n cc)).f (by kernel_rfl) (by kernel_rfl) (fun w1 hc hk => ?_) (fun x1_3 w1 hc hv => ?_)
  · exact soft_move (.tmp 2) rfl (.slice A n cc) (by kernel_rfl) rfl
  obtain rfl : x1_3 = _ := hv
  clear hc w1
  refine soft_one (some 11) rfl (nEvs (s)).f (by kernel_rfl) (by kernel_rfl) (fun w1 hc hk => ?_) (fun x1_4 w1 hc hv => ?_)
  · exact soft_call (args := #[.slice A n cc]) Try.func20 (by kernel_rfl) (by kernel_rfl) rfl (by kernel_rfl) (d_copies (HEs.out _ (((Chg.refl _ w).alloc _).trans hc (fun _ _ h => h))) hfs)
  clear hv
  clear hc w1
  refine soft_one (some 12) rfl (nEvs (Ev.still c s)).f (by kernel_rfl) (by kernel_rfl) (fun w1 hc hk => ?_) (fun x1_5 w1 hc hv => ?_)
  · exact soft_call (args := #[.agg #[.slice A1 n1 c1, .slice A2 n2 c2, .slice A3 n3 c3], x1_4]) Try.func22 (by kernel_rfl) (by kernel_rfl) rfl (by kernel_rfl) (d_still hcf (HC.out _ (((Chg.refl _ w).alloc _).trans hc (fun _ _ h => h))) (known_at hk 4 (nEvs (s)).f x1_4 (by kernel_rfl) (by kernel_rfl) (by kernel_rfl)) hfs)
  clear hv
  clear hc w1
  refine soft_one (some 13) rfl (nEvs (Ev.purge c place (Ev.still c s))).f (by kernel_rfl) (by kernel_rfl) (fun w1 hc hk => ?_) (fun x1_6 w1 hc hv => ?_)
  · exact soft_call (args := #[.agg #[.slice A1 n1 c1, .slice A2 n2 c2, .slice A3 n3 c3], .int .i64 place, x1_5]) Try.func19 (by kernel_rfl) (by kernel_rfl) rfl (by kernel_rfl) (d_purge hcf place (HC.out _ (((Chg.refl _ w).alloc _).trans hc (fun _ _ h => h))) (known_at hk 5 (nEvs (Ev.still c s)).f x1_5 (by kernel_rfl) (by kernel_rfl) (by kernel_rfl)) (still_fits hfs))
  clear hv
  clear hc w1
  refine soft_one (some 14) rfl (Note.eq (.agg #[.slice A1 n1 c1, .slice A2 n2 c2, .slice A3 n3 c3])).f (by kernel_rfl) (by kernel_rfl) (fun w1 hc hk => ?_) (fun x1_7 w1 hc hv => ?_)
  · have k0 := cell_at (HBX.out _ hc) 0 rfl; have k1 := cell_at (HBX.out _ hc) 1 rfl; have k2 := cell_at (HBX.out _ hc) 2 rfl; refine soft_at (w1 := w1) (u := .agg #[.slice A1 n1 c1, .slice A2 n2 c2, .slice A3 n3 c3]) (fun ρ => ρ (.tmp 3) = .pointer (some ⟨w.heap.size, 0, none⟩)) (by kernel_rfl) (fun ρ hρ => ?_) (Chg.refl _ _) rfl; go_simp
  obtain rfl : x1_7 = _ := hv
  clear hc w1
  refine soft_one (some 15) rfl (Note.eq (.agg #[.slice A1 n1 c1, .slice A2 n2 c2, .slice A3 n3 c3])).f (by kernel_rfl) (by kernel_rfl) (fun w1 hc hk => ?_) (fun x1_8 w1 hc hv => ?_)
  · have k0 := cell_at (HBX.out _ hc) 0 rfl; have k1 := cell_at (HBX.out _ hc) 1 rfl; have k2 := cell_at (HBX.out _ hc) 2 rfl; refine soft_at (w1 := w1) (u := .agg #[.slice A1 n1 c1, .slice A2 n2 c2, .slice A3 n3 c3]) (fun ρ => ρ (.tmp 3) = .pointer (some ⟨w.heap.size, 0, none⟩)) (by kernel_rfl) (fun ρ hρ => ?_) (Chg.refl _ _) rfl; go_simp
  obtain rfl : x1_8 = _ := hv
  clear hc w1
  refine soft_one (some 16) rfl (Note.eq (.int .i64 place)).f (by kernel_rfl) (by kernel_rfl) (fun w1 hc hk => ?_) (fun x1_9 w1 hc hv => ?_)
  · exact soft_move (.tmp 1) rfl (.int .i64 place) (by kernel_rfl) rfl
  obtain rfl : x1_9 = _ := hv
  clear hc w1
  refine soft_one (some 17) rfl (Note.eq (.slice A n cc)).f (by kernel_rfl) (by kernel_rfl) (fun w1 hc hk => ?_) (fun x1_10 w1 hc hv => ?_)
  · exact soft_move (.tmp 2) rfl (.slice A n cc) (by kernel_rfl) rfl
  obtain rfl : x1_10 = _ := hv
  clear hc w1
  refine soft_one (some 18) rfl (nEvs (s)).f (by kernel_rfl) (by kernel_rfl) (fun w1 hc hk => ?_) (fun x1_11 w1 hc hv => ?_)
  · exact soft_call (args := #[.slice A n cc]) Try.func20 (by kernel_rfl) (by kernel_rfl) rfl (by kernel_rfl) (d_copies (HEs.out _ (((Chg.refl _ w).alloc _).trans hc (fun _ _ h => h))) hfs)
  clear hv
  clear hc w1
  refine soft_one (some 19) rfl (nEvs (Ev.purge c place s)).f (by kernel_rfl) (by kernel_rfl) (fun w1 hc hk => ?_) (fun x1_12 w1 hc hv => ?_)
  · exact soft_call (args := #[.agg #[.slice A1 n1 c1, .slice A2 n2 c2, .slice A3 n3 c3], .int .i64 place, x1_11]) Try.func19 (by kernel_rfl) (by kernel_rfl) rfl (by kernel_rfl) (d_purge hcf place (HC.out _ (((Chg.refl _ w).alloc _).trans hc (fun _ _ h => h))) (known_at hk 11 (nEvs (s)).f x1_11 (by kernel_rfl) (by kernel_rfl) (by kernel_rfl)) hfs)
  clear hv
  clear hc w1
  refine soft_one (some 20) rfl (nEvs (Ev.still c (Ev.purge c place s))).f (by kernel_rfl) (by kernel_rfl) (fun w1 hc hk => ?_) (fun x1_13 w1 hc hv => ?_)
  · exact soft_call (args := #[.agg #[.slice A1 n1 c1, .slice A2 n2 c2, .slice A3 n3 c3], x1_12]) Try.func22 (by kernel_rfl) (by kernel_rfl) rfl (by kernel_rfl) (d_still hcf (HC.out _ (((Chg.refl _ w).alloc _).trans hc (fun _ _ h => h))) (known_at hk 12 (nEvs (Ev.purge c place s)).f x1_12 (by kernel_rfl) (by kernel_rfl) (by kernel_rfl)) (purge_fits hfs))
  clear hv
  clear hc w1
  refine soft_one (some 21) rfl (Note.eq (.bool true)).f (by kernel_rfl) (by kernel_rfl) (fun w1 hc hk => ?_) (fun x1_14 w1 hc hv => ?_)
  · exact soft_call (args := #[x1_6, x1_13]) Try.func24 (by kernel_rfl) (by kernel_rfl) rfl (by kernel_rfl) (d_psame true (known_at hk 6 (nEvs (Ev.purge c place (Ev.still c s))).f x1_6 (by kernel_rfl) (by kernel_rfl) (by kernel_rfl)) (known_at hk 13 (nEvs (Ev.still c (Ev.purge c place s))).f x1_13 (by kernel_rfl) (by kernel_rfl) (by kernel_rfl)) (purge_fits (still_fits hfs)) (still_fits (purge_fits hfs)) (by rw [purge_still]; simp))
  obtain rfl : x1_14 = _ := hv
  clear hc w1
  refine soft_one (some 22) rfl (Note.eq (.bool true)).f (by kernel_rfl) (by kernel_rfl) (fun w1 hc hk => ?_) (fun x1_15 w1 hc hv => ?_)
  · exact soft_move (.tmp 21) rfl (.bool true) (by kernel_rfl) rfl
  obtain rfl : x1_15 = _ := hv
  clear hc w1
  refine soft_one (some 23) rfl (Note.eq (.bool true)).f (by kernel_rfl) (by kernel_rfl) (fun w1 hc hk => ?_) (fun x1_16 w1 hc hv => ?_)
  · exact soft_call (args := #[]) Try.func14 (by kernel_rfl) (by kernel_rfl) rfl (by kernel_rfl) (d_awake)
  obtain rfl : x1_16 = _ := hv
  clear hc w1
  refine soft_one (some 24) rfl (Note.eq (.bool true)).f (by kernel_rfl) (by kernel_rfl) (fun w1 hc hk => ?_) (fun x1_17 w1 hc hv => ?_)
  · refine soft_at (w1 := w1) (u := .bool true) (fun ρ => ρ (.tmp 22) = .bool true ∧ ρ (.tmp 23) = .bool true) ⟨by kernel_rfl, by kernel_rfl⟩ (fun ρ hρ => ?_) (Chg.refl _ _) rfl; (obtain ⟨g0, g1⟩ := hρ; go_simp)
  obtain rfl : x1_17 = _ := hv
  clear hc w1
  refine soft_one (some 6) rfl (Note.eq (.bool true)).f (by kernel_rfl) (by kernel_rfl) (fun w1 hc hk => ?_) (fun x1_18 w1 hc hv => ?_)
  · exact soft_assign (.tmp 24) rfl (.bool true) (by kernel_rfl) rfl
  obtain rfl : x1_18 = _ := hv
  clear hc w1
  refine soft_end (fun b => b.tmps.getD 6 undef = .bool true ∧ b.defers = []) ⟨by kernel_rfl, by kernel_rfl⟩ (fun b hb w6 hc6 => ?_)
  obtain ⟨hb0, hbd⟩ := hb
  have HC6 : Hid (Chg (fun _ => False) w w6) := ((Chg.refl _ w).alloc _).trans hc6 (fun _ _ h => h)
  clear hc6
  go_wp2
  exact bodyPost_ret (v := .bool true) (by simp [results, Try.results12, go_sem, show b.tmps[6]?.getD undef = .bool true by rw [← Array.getD_eq_getD_getElem?]; exact hb0]) hbd ⟨rfl, HC6.out.below⟩
set_option maxRecDepth 100000 in
set_option maxHeartbeats 3200000 in
theorem twice_walk {ok : Nat → Prop} {w : World} {A1 A2 A3 : Option Addr} {n1 n2 n3 c1 c2 c3 : Nat} {c : Cfg} (h : CfgAt ok w A1 A2 A3 n1 n2 n3 c1 c2 c3 c) (hok : ∀ k, ok k → k < w.heap.size) (hcf : cfgFits c) (place lower : Int) {oks : Nat → Prop} (s : List Ev) (A : Option Addr) (n cc : Nat) (hrs : evsK.rel oks w s [.slice A n cc]) (hoks : ∀ k, oks k → k < w.heap.size) (hfs : evsK.fits s) :
    Calls Try.prog 8 #[.agg #[.slice A1 n1 c1, .slice A2 n2 c2, .slice A3 n3 c3], .int .i64 place, .int .i64 lower, .slice A n cc] w fun e w' => e = .returned (.bool true) ∧ Below w.heap.size w w' := by
  have hC0 : CfgW c (.agg #[.slice A1 n1 c1, .slice A2 n2 c2, .slice A3 n3 c3]) w := CfgW_of h hok
  have hEs : (nEvs s).f (.slice A n cc) w := nEvs_of hrs hoks
  have HC : Hid (∀ w', Chg (fun _ => False) w w' → CfgW c (.agg #[.slice A1 n1 c1, .slice A2 n2 c2, .slice A3 n3 c3]) w') := fun w' hc => hC0.up hc
  have HEs : Hid (∀ w', Chg (fun _ => False) w w' → (nEvs s).f (.slice A n cc) w') := fun w' hc => nEvs_up hEs hc
  have HBX : Hid (∀ w', Chg (fun _ => False) (w.alloc (.cells #[.slice A1 n1 c1, .slice A2 n2 c2, .slice A3 n3 c3] 27)) w' → w'.heap[w.heap.size]? = some (.cells #[.slice A1 n1 c1, .slice A2 n2 c2, .slice A3 n3 c3] 27 (0, 0))) := fun w' hc => hc.at_ (heap_new w _) (fun h => h)
  have HL1 : Hid (c.labels.length = n1) := h.l1
  clear h hok hrs hoks hC0 hEs
  go_enter Try.func8, Try.ntmps8
  go_wp2_with fail
  refine (awake_any _).mono ?_
  rintro e w2 ⟨rfl, hc2⟩
  have H2 : Hid (Chg (fun _ => False) (w.alloc (.cells #[.slice A1 n1 c1, .slice A2 n2 c2, .slice A3 n3 c3] 27)) w2) := hc2
  clear hc2
  go_wp2_with fail
  refine wp_region_soft (notes [Note.eq (.agg #[.slice A1 n1 c1, .slice A2 n2 c2, .slice A3 n3 c3]), Note.eq (.int .i64 place), Note.eq (.slice A n cc), nEvs (s), nEvs (Ev.purge c place s), nEvs (Ev.purge c place s)]) (by kernel_rfl) (by kernel_rfl) (by kernel_rfl) (notes_st _) ?_
  refine soft_one (some 12) rfl (Note.eq (.agg #[.slice A1 n1 c1, .slice A2 n2 c2, .slice A3 n3 c3])).f (by kernel_rfl) (by kernel_rfl) (fun w1 hc hk => ?_) (fun x3_0 w1 hc hv => ?_)
  · have k0 := cell_at (HBX.out _ (H2.out.trans hc (fun _ _ h => h))) 0 rfl; have k1 := cell_at (HBX.out _ (H2.out.trans hc (fun _ _ h => h))) 1 rfl; have k2 := cell_at (HBX.out _ (H2.out.trans hc (fun _ _ h => h))) 2 rfl; refine soft_at (w1 := w1) (u := .agg #[.slice A1 n1 c1, .slice A2 n2 c2, .slice A3 n3 c3]) (fun ρ => ρ (.tmp 4) = .pointer (some ⟨w.heap.size, 0, none⟩)) (by kernel_rfl) (fun ρ hρ => ?_) (Chg.refl _ _) rfl; go_simp
  obtain rfl : x3_0 = _ := hv
  clear hc w1
  refine soft_one (some 13) rfl (Note.eq (.int .i64 place)).f (by kernel_rfl) (by kernel_rfl) (fun w1 hc hk => ?_) (fun x3_1 w1 hc hv => ?_)
  · exact soft_move (.tmp 1) rfl (.int .i64 place) (by kernel_rfl) rfl
  obtain rfl : x3_1 = _ := hv
  clear hc w1
  refine soft_one (some 14) rfl (Note.eq (.slice A n cc)).f (by kernel_rfl) (by kernel_rfl) (fun w1 hc hk => ?_) (fun x3_2 w1 hc hv => ?_)
  · exact soft_move (.tmp 3) rfl (.slice A n cc) (by kernel_rfl) rfl
  obtain rfl : x3_2 = _ := hv
  clear hc w1
  refine soft_one (some 15) rfl (nEvs (s)).f (by kernel_rfl) (by kernel_rfl) (fun w1 hc hk => ?_) (fun x3_3 w1 hc hv => ?_)
  · exact soft_call (args := #[.slice A n cc]) Try.func20 (by kernel_rfl) (by kernel_rfl) rfl (by kernel_rfl) (d_copies (HEs.out _ (((Chg.refl _ w).alloc _).trans (H2.out.trans hc (fun _ _ h => h)) (fun _ _ h => h))) hfs)
  clear hv
  clear hc w1
  refine soft_one (some 16) rfl (nEvs (Ev.purge c place s)).f (by kernel_rfl) (by kernel_rfl) (fun w1 hc hk => ?_) (fun x3_4 w1 hc hv => ?_)
  · exact soft_call (args := #[.agg #[.slice A1 n1 c1, .slice A2 n2 c2, .slice A3 n3 c3], .int .i64 place, x3_3]) Try.func19 (by kernel_rfl) (by kernel_rfl) rfl (by kernel_rfl) (d_purge hcf place (HC.out _ (((Chg.refl _ w).alloc _).trans (H2.out.trans hc (fun _ _ h => h)) (fun _ _ h => h))) (known_at hk 3 (nEvs (s)).f x3_3 (by kernel_rfl) (by kernel_rfl) (by kernel_rfl)) hfs)
  clear hv
  clear hc w1
  refine soft_one (some 9) rfl (nEvs (Ev.purge c place s)).f (by kernel_rfl) (by kernel_rfl) (fun w1 hc hk => ?_) (fun x3_5 w1 hc hv => ?_)
  · exact soft_assign (.tmp 16) rfl x3_4 (by kernel_rfl) (known_at hk 4 (nEvs (Ev.purge c place s)).f x3_4 (by kernel_rfl) (by kernel_rfl) (by kernel_rfl))
  clear hv
  clear hc w1
  intro w3 hc3 hn3
  have HP3 : Hid ((nEvs (Ev.purge c place s)).f x3_5 w3) := note_at hn3 5 (nEvs (Ev.purge c place s)).f x3_5 (by kernel_rfl) (by kernel_rfl) (by decide)
  have H3 : Hid (Chg (fun _ => False) (w.alloc (.cells #[.slice A1 n1 c1, .slice A2 n2 c2, .slice A3 n3 c3] 27)) w3) := H2.out.trans hc3 (fun _ _ h => h)
  clear hn3 hc3
  simp only [Act.put, List.setIfInBounds_toArray, List.set_cons_succ, List.set_cons_zero]
  go_wp2_with fail
  refine wp_region_soft (notes [Note.eq (.agg #[.slice A1 n1 c1, .slice A2 n2 c2, .slice A3 n3 c3]), Note.eq (.int .i64 place), nEvs (Ev.purge c place s), nEvs (Ev.purge c place s), nEvs (Ev.purge c place (Ev.purge c place s)), nEvs (Ev.purge c place s), Note.eq (.bool true), Note.eq (.bool false)]) (by kernel_rfl) (by kernel_rfl) (by kernel_rfl) (notes_st _) ?_
  refine soft_one (some 17) rfl (Note.eq (.agg #[.slice A1 n1 c1, .slice A2 n2 c2, .slice A3 n3 c3])).f (by kernel_rfl) (by kernel_rfl) (fun w1 hc hk => ?_) (fun x4_0 w1 hc hv => ?_)
  · have k0 := cell_at (HBX.out _ (H3.out.trans hc (fun _ _ h => h))) 0 rfl; have k1 := cell_at (HBX.out _ (H3.out.trans hc (fun _ _ h => h))) 1 rfl; have k2 := cell_at (HBX.out _ (H3.out.trans hc (fun _ _ h => h))) 2 rfl; refine soft_at (w1 := w1) (u := .agg #[.slice A1 n1 c1, .slice A2 n2 c2, .slice A3 n3 c3]) (fun ρ => ρ (.tmp 4) = .pointer (some ⟨w.heap.size, 0, none⟩)) (by kernel_rfl) (fun ρ hρ => ?_) (Chg.refl _ _) rfl; go_simp
  obtain rfl : x4_0 = _ := hv
  clear hc w1
  refine soft_one (some 18) rfl (Note.eq (.int .i64 place)).f (by kernel_rfl) (by kernel_rfl) (fun w1 hc hk => ?_) (fun x4_1 w1 hc hv => ?_)
  · exact soft_move (.tmp 1) rfl (.int .i64 place) (by kernel_rfl) rfl
  obtain rfl : x4_1 = _ := hv
  clear hc w1
  refine soft_one (some 19) rfl (nEvs (Ev.purge c place s)).f (by kernel_rfl) (by kernel_rfl) (fun w1 hc hk => ?_) (fun x4_2 w1 hc hv => ?_)
  · exact soft_move (.tmp 9) rfl x3_5 (by kernel_rfl) (nEvs_up HP3.out hc)
  clear hv
  clear hc w1
  refine soft_one (some 20) rfl (nEvs (Ev.purge c place s)).f (by kernel_rfl) (by kernel_rfl) (fun w1 hc hk => ?_) (fun x4_3 w1 hc hv => ?_)
  · exact soft_call (args := #[x4_2]) Try.func20 (by kernel_rfl) (by kernel_rfl) rfl (by kernel_rfl) (d_copies (known_at hk 2 (nEvs (Ev.purge c place s)).f x4_2 (by kernel_rfl) (by kernel_rfl) (by kernel_rfl)) (purge_fits hfs))
  clear hv
  clear hc w1
  refine soft_one (some 21) rfl (nEvs (Ev.purge c place (Ev.purge c place s))).f (by kernel_rfl) (by kernel_rfl) (fun w1 hc hk => ?_) (fun x4_4 w1 hc hv => ?_)
  · exact soft_call (args := #[.agg #[.slice A1 n1 c1, .slice A2 n2 c2, .slice A3 n3 c3], .int .i64 place, x4_3]) Try.func19 (by kernel_rfl) (by kernel_rfl) rfl (by kernel_rfl) (d_purge hcf place (HC.out _ (((Chg.refl _ w).alloc _).trans (H3.out.trans hc (fun _ _ h => h)) (fun _ _ h => h))) (known_at hk 3 (nEvs (Ev.purge c place s)).f x4_3 (by kernel_rfl) (by kernel_rfl) (by kernel_rfl)) (purge_fits hfs))
  clear hv
  clear hc w1
  refine soft_one (some 22) rfl (nEvs (Ev.purge c place s)).f (by kernel_rfl) (by kernel_rfl) (fun w1 hc hk => ?_) (fun x4_5 w1 hc hv => ?_)
  · exact soft_move (.tmp 9) rfl x3_5 (by kernel_rfl) (nEvs_up HP3.out hc)
  clear hv
  clear hc w1
  refine soft_one (some 23) rfl (Note.eq (.bool true)).f (by kernel_rfl) (by kernel_rfl) (fun w1 hc hk => ?_) (fun x4_6 w1 hc hv => ?_)
  · exact soft_call (args := #[x4_4, x4_5]) Try.func24 (by kernel_rfl) (by kernel_rfl) rfl (by kernel_rfl) (d_psame true (known_at hk 4 (nEvs (Ev.purge c place (Ev.purge c place s))).f x4_4 (by kernel_rfl) (by kernel_rfl) (by kernel_rfl)) (known_at hk 5 (nEvs (Ev.purge c place s)).f x4_5 (by kernel_rfl) (by kernel_rfl) (by kernel_rfl)) (purge_fits (purge_fits hfs)) (purge_fits hfs) (by rw [purge_purge]; simp))
  obtain rfl : x4_6 = _ := hv
  clear hc w1
  refine soft_one (some 24) rfl (Note.eq (.bool false)).f (by kernel_rfl) (by kernel_rfl) (fun w1 hc hk => ?_) (fun x4_7 w1 hc hv => ?_)
  · refine soft_at (w1 := w1) (u := .bool false) (fun ρ => ρ (.tmp 23) = .bool true) (by kernel_rfl) (fun ρ hρ => ?_) (Chg.refl _ _) rfl; go_simp
  obtain rfl : x4_7 = _ := hv
  clear hc w1
  intro w4 hc4 hn4
  have HP4 : Hid ((nEvs (Ev.purge c place s)).f x3_5 w4) := nEvs_up HP3.out hc4
  have H4 : Hid (Chg (fun _ => False) (w.alloc (.cells #[.slice A1 n1 c1, .slice A2 n2 c2, .slice A3 n3 c3] 27)) w4) := H3.out.trans hc4 (fun _ _ h => h)
  have hk4 := HBX.out _ H4.out
  have k0 := cell_at hk4 0 rfl
  have k1 := cell_at hk4 1 rfl
  have k2 := cell_at hk4 2 rfl
  have HMC : Hid (Calls Try.prog 25 #[.agg #[.slice A1 n1 c1, .slice A2 n2 c2, .slice A3 n3 c3]] w4 fun e w' => ∃ v, e = .returned v ∧ Chg (fun _ => False) w4 w' ∧ v = .bool (mayB c)) := d_mayConfig hcf (HC.out _ (((Chg.refl _ w).alloc _).trans H4.out (fun _ _ h => h)))
  clear hn4 hc4 hk4
  simp only [Act.put, List.setIfInBounds_toArray, List.set_cons_succ, List.set_cons_zero]
  go_upto_region 6 with fail
  generalize hmb : mayB c = mb at *
  have HMB := Lib.hid hmb
  clear hmb
  cases mb with
  | false =>
    go_wp2_with fail
    refine HMC.out.mono ?_
    rintro e w5 ⟨_, rfl, hc5, rfl⟩
    have H5 : Hid (Chg (fun _ => False) w w5) := ((Chg.refl _ w).alloc _).trans (H4.out.trans hc5 (fun _ _ h => h)) (fun _ _ h => h)
    clear hc5 k0 k1 k2
    go_wp2
    go_ret
    exact ⟨rfl, H5.out.below⟩
  | true =>
    by_cases t1 : place < 0
    · have i1 : decide (place < 0) = true := by simpa using t1
      clear t1
      go_wp2_with fail
      refine HMC.out.mono ?_
      rintro e w5 ⟨_, rfl, hc5, rfl⟩
      have H5 : Hid (Chg (fun _ => False) w w5) := ((Chg.refl _ w).alloc _).trans (H4.out.trans hc5 (fun _ _ h => h)) (fun _ _ h => h)
      clear hc5 k0 k1 k2
      go_wp2
      go_ret
      exact ⟨rfl, H5.out.below⟩
    have i1 : decide (place < 0) = false := by simpa using t1
    by_cases t2 : lower < 0
    · have i2 : decide (lower < 0) = true := by simpa using t2
      clear t1 t2
      go_wp2_with fail
      refine HMC.out.mono ?_
      rintro e w5 ⟨_, rfl, hc5, rfl⟩
      have H5 : Hid (Chg (fun _ => False) w w5) := ((Chg.refl _ w).alloc _).trans (H4.out.trans hc5 (fun _ _ h => h)) (fun _ _ h => h)
      clear hc5 k0 k1 k2
      go_wp2
      go_ret
      exact ⟨rfl, H5.out.below⟩
    have i2 : decide (lower < 0) = false := by simpa using t2
    obtain ⟨p, HPl⟩ : ∃ p : Nat, Hid (place = (p : Int)) := ⟨place.toNat, by show _ = _; omega⟩
    obtain ⟨q, HQl⟩ : ∃ q : Nat, Hid (lower = (q : Int)) := ⟨lower.toNat, by show _ = _; omega⟩
    clear t1 t2
    by_cases t3 : (n1 : Int) ≤ place
    · have i3 : decide ((n1 : Int) ≤ place) = true := by simpa using t3
      clear t3
      go_wp2_with fail
      refine HMC.out.mono ?_
      rintro e w5 ⟨_, rfl, hc5, rfl⟩
      have H5 : Hid (Chg (fun _ => False) w w5) := ((Chg.refl _ w).alloc _).trans (H4.out.trans hc5 (fun _ _ h => h)) (fun _ _ h => h)
      have j0 := cell_at (HBX.out _ (H4.out.trans hc5 (fun _ _ h => h))) 0 rfl
      clear hc5 k0 k1 k2
      go_wp2
      go_ret
      exact ⟨rfl, H5.out.below⟩
    have i3 : decide ((n1 : Int) ≤ place) = false := by simpa using t3
    by_cases t4 : (n1 : Int) ≤ lower
    · have i4 : decide ((n1 : Int) ≤ lower) = true := by simpa using t4
      clear t3 t4
      go_wp2_with fail
      refine HMC.out.mono ?_
      rintro e w5 ⟨_, rfl, hc5, rfl⟩
      have H5 : Hid (Chg (fun _ => False) w w5) := ((Chg.refl _ w).alloc _).trans (H4.out.trans hc5 (fun _ _ h => h)) (fun _ _ h => h)
      have j0 := cell_at (HBX.out _ (H4.out.trans hc5 (fun _ _ h => h))) 0 rfl
      clear hc5 k0 k1 k2
      go_wp2
      go_ret
      exact ⟨rfl, H5.out.below⟩
    have i4 : decide ((n1 : Int) ≤ lower) = false := by simpa using t4
    have hpq : p < n1 ∧ q < n1 := by have := HPl.out; have := HQl.out; omega
    have HPQ := Lib.hid hpq
    clear t3 t4 hpq
    go_wp2_with fail
    refine HMC.out.mono ?_
    rintro e w5 ⟨_, rfl, hc5, rfl⟩
    have H5 : Hid (Chg (fun _ => False) (w.alloc (.cells #[.slice A1 n1 c1, .slice A2 n2 c2, .slice A3 n3 c3] 27)) w5) := H4.out.trans hc5 (fun _ _ h => h)
    have HP5 : Hid ((nEvs (Ev.purge c place s)).f x3_5 w5) := nEvs_up HP4.out hc5
    have j0 := cell_at (HBX.out _ H5.out) 0 rfl
    have j1 := cell_at (HBX.out _ H5.out) 1 rfl
    have j2 := cell_at (HBX.out _ H5.out) 2 rfl
    have HSn : Hid (Calls Try.prog 26 #[.agg #[.slice A1 n1 c1, .slice A2 n2 c2, .slice A3 n3 c3], .int .i64 place, .int .i64 lower] w5 fun e w' => e = .returned (.bool (Ev.seen c p q)) ∧ Chg (fun _ => False) w5 w') := by
      obtain ⟨B1, B2, B3, m1, m2, m3, d1, d2, d3, e, hC⟩ := HC.out _ (((Chg.refl _ w).alloc _).trans H5.out (fun _ _ h => h))
      simp only [Value.agg.injEq, Array.mk.injEq, List.cons.injEq, Value.slice.injEq, and_true] at e
      obtain ⟨⟨rfl, rfl, rfl⟩, ⟨rfl, rfl, rfl⟩, ⟨rfl, rfl, rfl⟩⟩ := e
      rw [HPl.out, HQl.out]
      exact seen_any hC (fun k hk => hk) p q HPQ.out.1 HPQ.out.2
    clear hc5 k0 k1 k2
    go_wp2_with fail
    refine HSn.out.mono ?_
    rintro e w6 ⟨rfl, hc6⟩
    have H6 : Hid (Chg (fun _ => False) (w.alloc (.cells #[.slice A1 n1 c1, .slice A2 n2 c2, .slice A3 n3 c3] 27)) w6) := H5.out.trans hc6 (fun _ _ h => h)
    have HP6 : Hid ((nEvs (Ev.purge c place s)).f x3_5 w6) := nEvs_up HP5.out hc6
    clear hc6 j0 j1 j2
    generalize hsb : Ev.seen c p q = sb at *
    have HSB := Lib.hid hsb
    clear hsb
    cases sb with
    | false =>
      have H7 : Hid (Chg (fun _ => False) w w6) := ((Chg.refl _ w).alloc _).trans H6.out (fun _ _ h => h)
      go_wp2
      go_ret
      exact ⟨rfl, H7.out.below⟩
    | true =>
      have HLow : Hid (Ev.purge c lower (Ev.purge c place s) = Ev.purge c lower s) := by
        have := HPl.out
        have := HQl.out
        have := HPQ.out
        have := HL1.out
        exact purge_lower c place lower s HMB.out (by omega) (by omega) (by omega) (by omega) (by rw [show place.toNat = p by omega, show lower.toNat = q by omega]; exact HSB.out)
      go_wp2_with fail
      refine wp_region_soft (notes [Note.eq (.agg #[.slice A1 n1 c1, .slice A2 n2 c2, .slice A3 n3 c3]), Note.eq (.int .i64 lower), nEvs (Ev.purge c place s), nEvs (Ev.purge c lower (Ev.purge c place s)), Note.eq (.agg #[.slice A1 n1 c1, .slice A2 n2 c2, .slice A3 n3 c3]), Note.eq (.int .i64 lower), Note.eq (.slice A n cc), nEvs (s), nEvs (Ev.purge c lower s), Note.eq (.bool true), Note.eq (.bool true)]) (by kernel_rfl) (by kernel_rfl) (by kernel_rfl) (notes_st _) ?_
      refine soft_one (some 57) rfl (Note.eq (.agg #[.slice A1 n1 c1, .slice A2 n2 c2, .slice A3 n3 c3])).f (by kernel_rfl) (by kernel_rfl) (fun w1 hc hk => ?_) (fun x8_0 w1 hc hv => ?_)
      · have k0 := cell_at (HBX.out _ (H6.out.trans hc (fun _ _ h => h))) 0 rfl; have k1 := cell_at (HBX.out _ (H6.out.trans hc (fun _ _ h => h))) 1 rfl; have k2 := cell_at (HBX.out _ (H6.out.trans hc (fun _ _ h => h))) 2 rfl; refine soft_at (w1 := w1) (u := .agg #[.slice A1 n1 c1, .slice A2 n2 c2, .slice A3 n3 c3]) (fun ρ => ρ (.tmp 4) = .pointer (some ⟨w.heap.size, 0, none⟩)) (by kernel_rfl) (fun ρ hρ => ?_) (Chg.refl _ _) rfl; go_simp
      obtain rfl : x8_0 = _ := hv
      clear hc w1
      refine soft_one (some 58) rfl (Note.eq (.int .i64 lower)).f (by kernel_rfl) (by kernel_rfl) (fun w1 hc hk => ?_) (fun x8_1 w1 hc hv => ?_)
      · exact soft_move (.tmp 2) rfl (.int .i64 lower) (by kernel_rfl) rfl
      obtain rfl : x8_1 = _ := hv
      clear hc w1
      refine soft_one (some 59) rfl (nEvs (Ev.purge c place s)).f (by kernel_rfl) (by kernel_rfl) (fun w1 hc hk => ?_) (fun x8_2 w1 hc hv => ?_)
      · exact soft_move (.tmp 9) rfl x3_5 (by kernel_rfl) (nEvs_up HP6.out hc)
      clear hv
      clear hc w1
      refine soft_one (some 60) rfl (nEvs (Ev.purge c lower (Ev.purge c place s))).f (by kernel_rfl) (by kernel_rfl) (fun w1 hc hk => ?_) (fun x8_3 w1 hc hv => ?_)
      · exact soft_call (args := #[.agg #[.slice A1 n1 c1, .slice A2 n2 c2, .slice A3 n3 c3], .int .i64 lower, x8_2]) Try.func19 (by kernel_rfl) (by kernel_rfl) rfl (by kernel_rfl) (d_purge hcf lower (HC.out _ (((Chg.refl _ w).alloc _).trans (H6.out.trans hc (fun _ _ h => h)) (fun _ _ h => h))) (known_at hk 2 (nEvs (Ev.purge c place s)).f x8_2 (by kernel_rfl) (by kernel_rfl) (by kernel_rfl)) (purge_fits hfs))
      clear hv
      clear hc w1
      refine soft_one (some 61) rfl (Note.eq (.agg #[.slice A1 n1 c1, .slice A2 n2 c2, .slice A3 n3 c3])).f (by kernel_rfl) (by kernel_rfl) (fun w1 hc hk => ?_) (fun x8_4 w1 hc hv => ?_)
      · have k0 := cell_at (HBX.out _ (H6.out.trans hc (fun _ _ h => h))) 0 rfl; have k1 := cell_at (HBX.out _ (H6.out.trans hc (fun _ _ h => h))) 1 rfl; have k2 := cell_at (HBX.out _ (H6.out.trans hc (fun _ _ h => h))) 2 rfl; refine soft_at (w1 := w1) (u := .agg #[.slice A1 n1 c1, .slice A2 n2 c2, .slice A3 n3 c3]) (fun ρ => ρ (.tmp 4) = .pointer (some ⟨w.heap.size, 0, none⟩)) (by kernel_rfl) (fun ρ hρ => ?_) (Chg.refl _ _) rfl; go_simp
      obtain rfl : x8_4 = _ := hv
      clear hc w1
      refine soft_one (some 62) rfl (Note.eq (.int .i64 lower)).f (by kernel_rfl) (by kernel_rfl) (fun w1 hc hk => ?_) (fun x8_5 w1 hc hv => ?_)
      · exact soft_move (.tmp 2) rfl (.int .i64 lower) (by kernel_rfl) rfl
      obtain rfl : x8_5 = _ := hv
      clear hc w1
      refine soft_one (some 63) rfl (Note.eq (.slice A n cc)).f (by kernel_rfl) (by kernel_rfl) (fun w1 hc hk => ?_) (fun x8_6 w1 hc hv => ?_)
      · exact soft_move (.tmp 3) rfl (.slice A n cc) (by kernel_rfl) rfl
      obtain rfl : x8_6 = _ := hv
      clear hc w1
      refine soft_one (some 64) rfl (nEvs (s)).f (by kernel_rfl) (by kernel_rfl) (fun w1 hc hk => ?_) (fun x8_7 w1 hc hv => ?_)
      · exact soft_call (args := #[.slice A n cc]) Try.func20 (by kernel_rfl) (by kernel_rfl) rfl (by kernel_rfl) (d_copies (HEs.out _ (((Chg.refl _ w).alloc _).trans (H6.out.trans hc (fun _ _ h => h)) (fun _ _ h => h))) hfs)
      clear hv
      clear hc w1
      refine soft_one (some 65) rfl (nEvs (Ev.purge c lower s)).f (by kernel_rfl) (by kernel_rfl) (fun w1 hc hk => ?_) (fun x8_8 w1 hc hv => ?_)
      · exact soft_call (args := #[.agg #[.slice A1 n1 c1, .slice A2 n2 c2, .slice A3 n3 c3], .int .i64 lower, x8_7]) Try.func19 (by kernel_rfl) (by kernel_rfl) rfl (by kernel_rfl) (d_purge hcf lower (HC.out _ (((Chg.refl _ w).alloc _).trans (H6.out.trans hc (fun _ _ h => h)) (fun _ _ h => h))) (known_at hk 7 (nEvs (s)).f x8_7 (by kernel_rfl) (by kernel_rfl) (by kernel_rfl)) hfs)
      clear hv
      clear hc w1
      refine soft_one (some 66) rfl (Note.eq (.bool true)).f (by kernel_rfl) (by kernel_rfl) (fun w1 hc hk => ?_) (fun x8_9 w1 hc hv => ?_)
      · exact soft_call (args := #[x8_3, x8_8]) Try.func24 (by kernel_rfl) (by kernel_rfl) rfl (by kernel_rfl) (d_psame true (known_at hk 3 (nEvs (Ev.purge c lower (Ev.purge c place s))).f x8_3 (by kernel_rfl) (by kernel_rfl) (by kernel_rfl)) (known_at hk 8 (nEvs (Ev.purge c lower s)).f x8_8 (by kernel_rfl) (by kernel_rfl) (by kernel_rfl)) (purge_fits (purge_fits hfs)) (purge_fits hfs) (by rw [HLow.out]; simp))
      obtain rfl : x8_9 = _ := hv
      clear hc w1
      refine soft_one (some 8) rfl (Note.eq (.bool true)).f (by kernel_rfl) (by kernel_rfl) (fun w1 hc hk => ?_) (fun x8_10 w1 hc hv => ?_)
      · exact soft_assign (.tmp 66) rfl (.bool true) (by kernel_rfl) rfl
      obtain rfl : x8_10 = _ := hv
      clear hc w1
      refine soft_end (fun b => b.tmps.getD 8 undef = .bool true ∧ b.defers = []) ⟨by kernel_rfl, by kernel_rfl⟩ (fun b hb w6 hc6 => ?_)
      obtain ⟨hb0, hbd⟩ := hb
      have HC6 : Hid (Chg (fun _ => False) w w6) := ((Chg.refl _ w).alloc _).trans (H6.out.trans hc6 (fun _ _ h => h)) (fun _ _ h => h)
      clear hc6
      go_wp2
      exact bodyPost_ret (v := .bool true) (by simp [results, Try.results8, go_sem, show b.tmps[8]?.getD undef = .bool true by rw [← Array.getD_eq_getD_getElem?]; exact hb0]) hbd ⟨rfl, HC6.out.below⟩
end Go.Proofs.Ytchlolgfahgdeaa.Ewb
