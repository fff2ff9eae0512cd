/- The walks of the laws Names, Is, Still, Same. Conditions: what comes in reads so. -/
import Derived.Test.YtchlolgfahgdeaaEla
import Derived.Deep.Cut
set_option linter.unusedVariables false
set_option linter.unusedSimpArgs false
namespace Go.Proofs.Ytchlolgfahgdeaa.Ewa
open Go.RowKit Go.Proofs.Ytchlolgfahgdeaa.Lib1 Go.Proofs.Ytchlolgfahgdeaa.Rel Go.Proofs.Ytchlolgfahgdeaa.Own Go.Proofs.Ytchlolgfahgdeaa.Ev Go.Proofs.Ytchlolgfahgdeaa.Ek Go.Proofs.Ytchlolgfahgdeaa.Ec Go.Proofs.Ytchlolgfahgdeaa.Em Go.Proofs.Ytchlolgfahgdeaa.En Go.Proofs.Ytchlolgfahgdeaa.Lat Go.Proofs.Ytchlolgfahgdeaa.Lbl Go.Proofs.Ytchlolgfahgdeaa.Lbw Go.Proofs.Ytchlolgfahgdeaa.Lck Go.Proofs.Ytchlolgfahgdeaa.Lmay Go.Proofs.Ytchlolgfahgdeaa.Rgn Go.Proofs.Ytchlolgfahgdeaa.Rgs Go.Proofs.Ytchlolgfahgdeaa.Eaw Go.Proofs.Ytchlolgfahgdeaa.Esq Go.Proofs.Ytchlolgfahgdeaa.Epo Go.Proofs.Ytchlolgfahgdeaa.Ess Go.Proofs.Ytchlolgfahgdeaa.Ead Go.Proofs.Ytchlolgfahgdeaa.Eak Go.Proofs.Ytchlolgfahgdeaa.Ela
set_option maxRecDepth 100000 in
set_option maxHeartbeats 3200000 in
theorem names_walk (w : World) :
    Calls Try.prog 3 #[] w fun e w' => e = .returned (.bool true) ∧ Below w.heap.size w w' := by
  go_enter Try.func3, Try.ntmps3
  go_wp2_with fail
  refine (awake_any w).mono ?_
  rintro e w2 ⟨rfl, hc2⟩
  have HC2 := Lib.hid hc2
  clear hc2
  go_wp2
  go_ret
  exact ⟨rfl, HC2.out.below⟩
set_option maxRecDepth 100000 in
set_option maxHeartbeats 3200000 in
theorem is_walk {ok : Nat → Prop} {w : World} {A1 A2 A3 : Option Addr} {n1 n2 n3 c1 c2 c3 : Nat} {c : Cfg} (h : CfgAt ok w A1 A2 A3 n1 n2 n3 c1 c2 c3 c) (hok : ∀ k, ok k → k < w.heap.size) (hcf : cfgFits c) (place : Int) {oks : Nat → Prop} (s : List Ev) (A : Option Addr) (n cc : Nat) (hrs : evsK.rel oks w s [.slice A n cc]) (hoks : ∀ k, oks k → k < w.heap.size) (hfs : evsK.fits s) :
    Calls Try.prog 5 #[.agg #[.slice A1 n1 c1, .slice A2 n2 c2, .slice A3 n3 c3], .int .i64 place, .slice A n cc] w fun e w' => e = .returned (.bool true) ∧ Below w.heap.size w w' := by
  have hC0 : CfgW c (.agg #[.slice A1 n1 c1, .slice A2 n2 c2, .slice A3 n3 c3]) w := CfgW_of h hok
  have hEs : (nEvs s).f (.slice A n cc) w := nEvs_of hrs hoks
  have HC : Hid (∀ w', Chg (fun _ => False) w w' → CfgW c (.agg #[.slice A1 n1 c1, .slice A2 n2 c2, .slice A3 n3 c3]) w') := fun w' hc => hC0.up hc
  have HEs : Hid (∀ w', Chg (fun _ => False) w w' → (nEvs s).f (.slice A n cc) w') := fun w' hc => nEvs_up hEs hc
  have HBX : Hid (∀ w', Chg (fun _ => False) (w.alloc (.cells #[.slice A1 n1 c1, .slice A2 n2 c2, .slice A3 n3 c3] 27)) w' → w'.heap[w.heap.size]? = some (.cells #[.slice A1 n1 c1, .slice A2 n2 c2, .slice A3 n3 c3] 27 (0, 0))) := fun w' hc => hc.at_ (heap_new w _) (fun h => h)
  clear h hok hrs hoks hC0 hEs
  go_enter Try.func5, Try.ntmps5
  go_wp2_with fail
  refine wp_region_soft (notes [Note.eq (.agg #[.slice A1 n1 c1, .slice A2 n2 c2, .slice A3 n3 c3]), Note.eq (.int .i64 place), Note.eq (.slice A n cc), nEvs (s), nEvs (Ev.purge c place s), Note.eq (.agg #[.slice A1 n1 c1, .slice A2 n2 c2, .slice A3 n3 c3]), Note.eq (.int .i64 place), Note.eq (.slice A n cc), nEvs (Ev.purge c place s), Note.eq (.bool true), Note.eq (.bool true), Note.eq (.bool true), Note.eq (.bool true), Note.eq (.bool true)]) (by kernel_rfl) (by kernel_rfl) (by kernel_rfl) (notes_st _) ?_
  refine soft_one (some 7) rfl (Note.eq (.agg #[.slice A1 n1 c1, .slice A2 n2 c2, .slice A3 n3 c3])).f (by kernel_rfl) (by kernel_rfl) (fun w1 hc hk => ?_) (fun x1_0 w1 hc hv => ?_)
  · have k0 := cell_at (HBX.out _ hc) 0 rfl; have k1 := cell_at (HBX.out _ hc) 1 rfl; have k2 := cell_at (HBX.out _ hc) 2 rfl; refine soft_at (w1 := w1) (u := .agg #[.slice A1 n1 c1, .slice A2 n2 c2, .slice A3 n3 c3]) (fun ρ => ρ (.tmp 3) = .pointer (some ⟨w.heap.size, 0, none⟩)) (by kernel_rfl) (fun ρ hρ => ?_) (Chg.refl _ _) rfl; go_simp
  obtain rfl : x1_0 = _ := hv
  clear hc w1
  refine soft_one (some 8) rfl (Note.eq (.int .i64 place)).f (by kernel_rfl) (by kernel_rfl) (fun w1 hc hk => ?_) (fun x1_1 w1 hc hv => ?_)
  · exact soft_move (.tmp 1) rfl (.int .i64 place) (by kernel_rfl) rfl
  obtain rfl : x1_1 = _ := hv
  clear hc w1
  refine soft_one (some 9) rfl (Note.eq (.slice A n cc)).f (by kernel_rfl) (by kernel_rfl) (fun w1 hc hk => ?_) (fun x1_2 w1 hc hv => ?_)
  · exact soft_move (.tmp 2) rfl (.slice A n cc) (by kernel_rfl) rfl
  obtain rfl : x1_2 = _ := hv
  clear hc w1
  refine soft_one (some 10) rfl (nEvs (s)).f (by kernel_rfl) (by kernel_rfl) (fun w1 hc hk => ?_) (fun x1_3 w1 hc hv => ?_)
  · exact soft_call (args := #[.slice A n cc]) Try.func20 (by kernel_rfl) (by kernel_rfl) rfl (by kernel_rfl) (d_copies (HEs.out _ (((Chg.refl _ w).alloc _).trans hc (fun _ _ h => h))) hfs)
  clear hv
  clear hc w1
  refine soft_one (some 11) rfl (nEvs (Ev.purge c place s)).f (by kernel_rfl) (by kernel_rfl) (fun w1 hc hk => ?_) (fun x1_4 w1 hc hv => ?_)
  · exact soft_call (args := #[.agg #[.slice A1 n1 c1, .slice A2 n2 c2, .slice A3 n3 c3], .int .i64 place, x1_3]) Try.func19 (by kernel_rfl) (by kernel_rfl) rfl (by kernel_rfl) (d_purge hcf place (HC.out _ (((Chg.refl _ w).alloc _).trans hc (fun _ _ h => h))) (known_at hk 3 (nEvs (s)).f x1_3 (by kernel_rfl) (by kernel_rfl) (by kernel_rfl)) hfs)
  clear hv
  clear hc w1
  refine soft_one (some 12) rfl (Note.eq (.agg #[.slice A1 n1 c1, .slice A2 n2 c2, .slice A3 n3 c3])).f (by kernel_rfl) (by kernel_rfl) (fun w1 hc hk => ?_) (fun x1_5 w1 hc hv => ?_)
  · have k0 := cell_at (HBX.out _ hc) 0 rfl; have k1 := cell_at (HBX.out _ hc) 1 rfl; have k2 := cell_at (HBX.out _ hc) 2 rfl; refine soft_at (w1 := w1) (u := .agg #[.slice A1 n1 c1, .slice A2 n2 c2, .slice A3 n3 c3]) (fun ρ => ρ (.tmp 3) = .pointer (some ⟨w.heap.size, 0, none⟩)) (by kernel_rfl) (fun ρ hρ => ?_) (Chg.refl _ _) rfl; go_simp
  obtain rfl : x1_5 = _ := hv
  clear hc w1
  refine soft_one (some 13) rfl (Note.eq (.int .i64 place)).f (by kernel_rfl) (by kernel_rfl) (fun w1 hc hk => ?_) (fun x1_6 w1 hc hv => ?_)
  · exact soft_move (.tmp 1) rfl (.int .i64 place) (by kernel_rfl) rfl
  obtain rfl : x1_6 = _ := hv
  clear hc w1
  refine soft_one (some 14) rfl (Note.eq (.slice A n cc)).f (by kernel_rfl) (by kernel_rfl) (fun w1 hc hk => ?_) (fun x1_7 w1 hc hv => ?_)
  · exact soft_move (.tmp 2) rfl (.slice A n cc) (by kernel_rfl) rfl
  obtain rfl : x1_7 = _ := hv
  clear hc w1
  refine soft_one (some 15) rfl (nEvs (Ev.purge c place s)).f (by kernel_rfl) (by kernel_rfl) (fun w1 hc hk => ?_) (fun x1_8 w1 hc hv => ?_)
  · exact soft_call (args := #[.agg #[.slice A1 n1 c1, .slice A2 n2 c2, .slice A3 n3 c3], .int .i64 place, .slice A n cc]) Try.func21 (by kernel_rfl) (by kernel_rfl) rfl (by kernel_rfl) (d_rpurge hcf place (HC.out _ (((Chg.refl _ w).alloc _).trans hc (fun _ _ h => h))) (HEs.out _ (((Chg.refl _ w).alloc _).trans hc (fun _ _ h => h))) hfs)
  clear hv
  clear hc w1
  refine soft_one (some 16) rfl (Note.eq (.bool true)).f (by kernel_rfl) (by kernel_rfl) (fun w1 hc hk => ?_) (fun x1_9 w1 hc hv => ?_)
  · exact soft_call (args := #[x1_4, x1_8]) Try.func18 (by kernel_rfl) (by kernel_rfl) rfl (by kernel_rfl) (d_rsame true (known_at hk 4 (nEvs (Ev.purge c place s)).f x1_4 (by kernel_rfl) (by kernel_rfl) (by kernel_rfl)) (known_at hk 8 (nEvs (Ev.purge c place s)).f x1_8 (by kernel_rfl) (by kernel_rfl) (by kernel_rfl)) (purge_fits hfs) (purge_fits hfs) (by simp))
  obtain rfl : x1_9 = _ := hv
  clear hc w1
  refine soft_one (some 17) rfl (Note.eq (.bool true)).f (by kernel_rfl) (by kernel_rfl) (fun w1 hc hk => ?_) (fun x1_10 w1 hc hv => ?_)
  · exact soft_move (.tmp 16) rfl (.bool true) (by kernel_rfl) rfl
  obtain rfl : x1_10 = _ := hv
  clear hc w1
  refine soft_one (some 18) rfl (Note.eq (.bool true)).f (by kernel_rfl) (by kernel_rfl) (fun w1 hc hk => ?_) (fun x1_11 w1 hc hv => ?_)
  · exact soft_call (args := #[]) Try.func14 (by kernel_rfl) (by kernel_rfl) rfl (by kernel_rfl) (d_awake)
  obtain rfl : x1_11 = _ := hv
  clear hc w1
  refine soft_one (some 19) rfl (Note.eq (.bool true)).f (by kernel_rfl) (by kernel_rfl) (fun w1 hc hk => ?_) (fun x1_12 w1 hc hv => ?_)
  · refine soft_at (w1 := w1) (u := .bool true) (fun ρ => ρ (.tmp 17) = .bool true ∧ ρ (.tmp 18) = .bool true) ⟨by kernel_rfl, by kernel_rfl⟩ (fun ρ hρ => ?_) (Chg.refl _ _) rfl; (obtain ⟨g0, g1⟩ := hρ; go_simp)
  obtain rfl : x1_12 = _ := hv
  clear hc w1
  refine soft_one (some 6) rfl (Note.eq (.bool true)).f (by kernel_rfl) (by kernel_rfl) (fun w1 hc hk => ?_) (fun x1_13 w1 hc hv => ?_)
  · exact soft_assign (.tmp 19) rfl (.bool true) (by kernel_rfl) rfl
  obtain rfl : x1_13 = _ := hv
  clear hc w1
  refine soft_end (fun b => b.tmps.getD 6 undef = .bool true ∧ b.defers = []) ⟨by kernel_rfl, by kernel_rfl⟩ (fun b hb w6 hc6 => ?_)
  obtain ⟨hb0, hbd⟩ := hb
  have HC6 : Hid (Chg (fun _ => False) w w6) := ((Chg.refl _ w).alloc _).trans hc6 (fun _ _ h => h)
  clear hc6
  go_wp2
  exact bodyPost_ret (v := .bool true) (by simp [results, Try.results5, go_sem, show b.tmps[6]?.getD undef = .bool true by rw [← Array.getD_eq_getD_getElem?]; exact hb0]) hbd ⟨rfl, HC6.out.below⟩
set_option maxRecDepth 100000 in
set_option maxHeartbeats 3200000 in
theorem still_walk {ok : Nat → Prop} {w : World} {A1 A2 A3 : Option Addr} {n1 n2 n3 c1 c2 c3 : Nat} {c : Cfg} (h : CfgAt ok w A1 A2 A3 n1 n2 n3 c1 c2 c3 c) (hok : ∀ k, ok k → k < w.heap.size) (hcf : cfgFits c) {oks : Nat → Prop} (s : List Ev) (A : Option Addr) (n cc : Nat) (hrs : evsK.rel oks w s [.slice A n cc]) (hoks : ∀ k, oks k → k < w.heap.size) (hfs : evsK.fits s) :
    Calls Try.prog 6 #[.agg #[.slice A1 n1 c1, .slice A2 n2 c2, .slice A3 n3 c3], .slice A n cc] w fun e w' => e = .returned (.bool true) ∧ Below w.heap.size w w' := by
  have hC0 : CfgW c (.agg #[.slice A1 n1 c1, .slice A2 n2 c2, .slice A3 n3 c3]) w := CfgW_of h hok
  have hEs : (nEvs s).f (.slice A n cc) w := nEvs_of hrs hoks
  have HC : Hid (∀ w', Chg (fun _ => False) w w' → CfgW c (.agg #[.slice A1 n1 c1, .slice A2 n2 c2, .slice A3 n3 c3]) w') := fun w' hc => hC0.up hc
  have HEs : Hid (∀ w', Chg (fun _ => False) w w' → (nEvs s).f (.slice A n cc) w') := fun w' hc => nEvs_up hEs hc
  have HBX : Hid (∀ w', Chg (fun _ => False) (w.alloc (.cells #[.slice A1 n1 c1, .slice A2 n2 c2, .slice A3 n3 c3] 27)) w' → w'.heap[w.heap.size]? = some (.cells #[.slice A1 n1 c1, .slice A2 n2 c2, .slice A3 n3 c3] 27 (0, 0))) := fun w' hc => hc.at_ (heap_new w _) (fun h => h)
  clear h hok hrs hoks hC0 hEs
  go_enter Try.func6, Try.ntmps6
  go_wp2_with fail
  refine wp_region_soft (notes [Note.eq (.agg #[.slice A1 n1 c1, .slice A2 n2 c2, .slice A3 n3 c3]), Note.eq (.slice A n cc), nEvs (s), nEvs (Ev.still c s), Note.eq (.agg #[.slice A1 n1 c1, .slice A2 n2 c2, .slice A3 n3 c3]), Note.eq (.slice A n cc), nEvs (Ev.still c s), Note.eq (.bool true), Note.eq (.bool true), Note.eq (.bool true), Note.eq (.bool true), Note.eq (.bool true)]) (by kernel_rfl) (by kernel_rfl) (by kernel_rfl) (notes_st _) ?_
  refine soft_one (some 5) rfl (Note.eq (.agg #[.slice A1 n1 c1, .slice A2 n2 c2, .slice A3 n3 c3])).f (by kernel_rfl) (by kernel_rfl) (fun w1 hc hk => ?_) (fun x1_0 w1 hc hv => ?_)
  · have k0 := cell_at (HBX.out _ hc) 0 rfl; have k1 := cell_at (HBX.out _ hc) 1 rfl; have k2 := cell_at (HBX.out _ hc) 2 rfl; refine soft_at (w1 := w1) (u := .agg #[.slice A1 n1 c1, .slice A2 n2 c2, .slice A3 n3 c3]) (fun ρ => ρ (.tmp 2) = .pointer (some ⟨w.heap.size, 0, none⟩)) (by kernel_rfl) (fun ρ hρ => ?_) (Chg.refl _ _) rfl; go_simp
  obtain rfl : x1_0 = _ := hv
  clear hc w1
  refine soft_one (some 6) rfl (Note.eq (.slice A n cc)).f (by kernel_rfl) (by kernel_rfl) (fun w1 hc hk => ?_) (fun x1_1 w1 hc hv => ?_)
  · exact soft_move (.tmp 1) rfl (.slice A n cc) (by kernel_rfl) rfl
  obtain rfl : x1_1 = _ := hv
  clear hc w1
  refine soft_one (some 7) rfl (nEvs (s)).f (by kernel_rfl) (by kernel_rfl) (fun w1 hc hk => ?_) (fun x1_2 w1 hc hv => ?_)
  · exact soft_call (args := #[.slice A n cc]) Try.func20 (by kernel_rfl) (by kernel_rfl) rfl (by kernel_rfl) (d_copies (HEs.out _ (((Chg.refl _ w).alloc _).trans hc (fun _ _ h => h))) hfs)
  clear hv
  clear hc w1
  refine soft_one (some 8) rfl (nEvs (Ev.still c s)).f (by kernel_rfl) (by kernel_rfl) (fun w1 hc hk => ?_) (fun x1_3 w1 hc hv => ?_)
  · exact soft_call (args := #[.agg #[.slice A1 n1 c1, .slice A2 n2 c2, .slice A3 n3 c3], x1_2]) Try.func22 (by kernel_rfl) (by kernel_rfl) rfl (by kernel_rfl) (d_still hcf (HC.out _ (((Chg.refl _ w).alloc _).trans hc (fun _ _ h => h))) (known_at hk 2 (nEvs (s)).f x1_2 (by kernel_rfl) (by kernel_rfl) (by kernel_rfl)) hfs)
  clear hv
  clear hc w1
  refine soft_one (some 9) rfl (Note.eq (.agg #[.slice A1 n1 c1, .slice A2 n2 c2, .slice A3 n3 c3])).f (by kernel_rfl) (by kernel_rfl) (fun w1 hc hk => ?_) (fun x1_4 w1 hc hv => ?_)
  · have k0 := cell_at (HBX.out _ hc) 0 rfl; have k1 := cell_at (HBX.out _ hc) 1 rfl; have k2 := cell_at (HBX.out _ hc) 2 rfl; refine soft_at (w1 := w1) (u := .agg #[.slice A1 n1 c1, .slice A2 n2 c2, .slice A3 n3 c3]) (fun ρ => ρ (.tmp 2) = .pointer (some ⟨w.heap.size, 0, none⟩)) (by kernel_rfl) (fun ρ hρ => ?_) (Chg.refl _ _) rfl; go_simp
  obtain rfl : x1_4 = _ := hv
  clear hc w1
  refine soft_one (some 10) rfl (Note.eq (.slice A n cc)).f (by kernel_rfl) (by kernel_rfl) (fun w1 hc hk => ?_) (fun x1_5 w1 hc hv => ?_)
  · exact soft_move (.tmp 1) rfl (.slice A n cc) (by kernel_rfl) rfl
  obtain rfl : x1_5 = _ := hv
  clear hc w1
  refine soft_one (some 11) rfl (nEvs (Ev.still c s)).f (by kernel_rfl) (by kernel_rfl) (fun w1 hc hk => ?_) (fun x1_6 w1 hc hv => ?_)
  · exact soft_call (args := #[.agg #[.slice A1 n1 c1, .slice A2 n2 c2, .slice A3 n3 c3], .slice A n cc]) Try.func23 (by kernel_rfl) (by kernel_rfl) rfl (by kernel_rfl) (d_rstill hcf (HC.out _ (((Chg.refl _ w).alloc _).trans hc (fun _ _ h => h))) (HEs.out _ (((Chg.refl _ w).alloc _).trans hc (fun _ _ h => h))) hfs)
  clear hv
  clear hc w1
  refine soft_one (some 12) rfl (Note.eq (.bool true)).f (by kernel_rfl) (by kernel_rfl) (fun w1 hc hk => ?_) (fun x1_7 w1 hc hv => ?_)
  · exact soft_call (args := #[x1_3, x1_6]) Try.func18 (by kernel_rfl) (by kernel_rfl) rfl (by kernel_rfl) (d_rsame true (known_at hk 3 (nEvs (Ev.still c s)).f x1_3 (by kernel_rfl) (by kernel_rfl) (by kernel_rfl)) (known_at hk 6 (nEvs (Ev.still c s)).f x1_6 (by kernel_rfl) (by kernel_rfl) (by kernel_rfl)) (still_fits hfs) (still_fits hfs) (by simp))
  obtain rfl : x1_7 = _ := hv
  clear hc w1
  refine soft_one (some 13) rfl (Note.eq (.bool true)).f (by kernel_rfl) (by kernel_rfl) (fun w1 hc hk => ?_) (fun x1_8 w1 hc hv => ?_)
  · exact soft_move (.tmp 12) rfl (.bool true) (by kernel_rfl) rfl
  obtain rfl : x1_8 = _ := hv
  clear hc w1
  refine soft_one (some 14) rfl (Note.eq (.bool true)).f (by kernel_rfl) (by kernel_rfl) (fun w1 hc hk => ?_) (fun x1_9 w1 hc hv => ?_)
  · exact soft_call (args := #[]) Try.func14 (by kernel_rfl) (by kernel_rfl) rfl (by kernel_rfl) (d_awake)
  obtain rfl : x1_9 = _ := hv
  clear hc w1
  refine soft_one (some 15) rfl (Note.eq (.bool true)).f (by kernel_rfl) (by kernel_rfl) (fun w1 hc hk => ?_) (fun x1_10 w1 hc hv => ?_)
  · refine soft_at (w1 := w1) (u := .bool true) (fun ρ => ρ (.tmp 13) = .bool true ∧ ρ (.tmp 14) = .bool true) ⟨by kernel_rfl, by kernel_rfl⟩ (fun ρ hρ => ?_) (Chg.refl _ _) rfl; (obtain ⟨g0, g1⟩ := hρ; go_simp)
  obtain rfl : x1_10 = _ := hv
  clear hc w1
  refine soft_one (some 4) rfl (Note.eq (.bool true)).f (by kernel_rfl) (by kernel_rfl) (fun w1 hc hk => ?_) (fun x1_11 w1 hc hv => ?_)
  · exact soft_assign (.tmp 15) rfl (.bool true) (by kernel_rfl) rfl
  obtain rfl : x1_11 = _ := hv
  clear hc w1
  refine soft_end (fun b => b.tmps.getD 4 undef = .bool true ∧ b.defers = []) ⟨by kernel_rfl, by kernel_rfl⟩ (fun b hb w6 hc6 => ?_)
  obtain ⟨hb0, hbd⟩ := hb
  have HC6 : Hid (Chg (fun _ => False) w w6) := ((Chg.refl _ w).alloc _).trans hc6 (fun _ _ h => h)
  clear hc6
  go_wp2
  exact bodyPost_ret (v := .bool true) (by simp [results, Try.results6, go_sem, show b.tmps[4]?.getD undef = .bool true by rw [← Array.getD_eq_getD_getElem?]; exact hb0]) hbd ⟨rfl, HC6.out.below⟩
set_option maxRecDepth 100000 in
set_option maxHeartbeats 3200000 in
theorem same_walk {w : World} {oks : Nat → Prop} (s : List Ev) (A : Option Addr) (n cc : Nat) (hrs : evsK.rel oks w s [.slice A n cc]) (hoks : ∀ k, oks k → k < w.heap.size) (hfs : evsK.fits s) {okt : Nat → Prop} (t : List Ev) (B : Option Addr) (m cd : Nat) (hrt : evsK.rel okt w t [.slice B m cd]) (hokt : ∀ k, okt k → k < w.heap.size) (hft : evsK.fits t) :
    Calls Try.prog 7 #[.slice A n cc, .slice B m cd] w fun e w' => e = .returned (.bool true) ∧ Below w.heap.size w w' := by
  have hEs : (nEvs s).f (.slice A n cc) w := nEvs_of hrs hoks
  have hEt : (nEvs t).f (.slice B m cd) w := nEvs_of hrt hokt
  have HEs : Hid (∀ w', Chg (fun _ => False) w w' → (nEvs s).f (.slice A n cc) w') := fun w' hc => nEvs_up hEs hc
  have HEt : Hid (∀ w', Chg (fun _ => False) w w' → (nEvs t).f (.slice B m cd) w') := fun w' hc => nEvs_up hEt hc
  generalize hbb : decide (s = t) = bb
  clear hrs hoks hEs hrt hokt hEt
  go_enter Try.func7, Try.ntmps7
  go_upto_region 1 with fail
  refine wp_region_seq (notes [Note.eq (.slice A n cc), nEvs (s), Note.eq (.slice B m cd), nEvs (t), Note.eq (.bool bb), Note.eq (.slice A n cc), Note.eq (.slice B m cd), Note.eq (.bool bb), Note.eq (.bool true), Note.eq (.bool true), Note.eq (.slice A n cc), Note.eq (.slice A n cc), nEvs (s), Note.eq (.bool true), Note.eq (.bool true), Note.eq (.bool true), Note.eq (.bool true), Note.eq (.bool true), Note.eq (.bool true)]) (by kernel_rfl) (by kernel_rfl) (notes_st _) ?_
  refine soft_one (some 5) rfl (Note.eq (.slice A n cc)).f (by kernel_rfl) (by kernel_rfl) (fun w1 hc hk => ?_) (fun x1_0 w1 hc hv => ?_)
  · exact soft_move (.tmp 0) rfl (.slice A n cc) (by kernel_rfl) rfl
  obtain rfl : x1_0 = _ := hv
  clear hc w1
  refine soft_one (some 6) rfl (nEvs (s)).f (by kernel_rfl) (by kernel_rfl) (fun w1 hc hk => ?_) (fun x1_1 w1 hc hv => ?_)
  · exact soft_call (args := #[.slice A n cc]) Try.func20 (by kernel_rfl) (by kernel_rfl) rfl (by kernel_rfl) (d_copies (HEs.out _ hc) hfs)
  clear hv
  clear hc w1
  refine soft_one (some 7) rfl (Note.eq (.slice B m cd)).f (by kernel_rfl) (by kernel_rfl) (fun w1 hc hk => ?_) (fun x1_2 w1 hc hv => ?_)
  · exact soft_move (.tmp 1) rfl (.slice B m cd) (by kernel_rfl) rfl
  obtain rfl : x1_2 = _ := hv
  clear hc w1
  refine soft_one (some 8) rfl (nEvs (t)).f (by kernel_rfl) (by kernel_rfl) (fun w1 hc hk => ?_) (fun x1_3 w1 hc hv => ?_)
  · exact soft_call (args := #[.slice B m cd]) Try.func20 (by kernel_rfl) (by kernel_rfl) rfl (by kernel_rfl) (d_copies (HEt.out _ hc) hft)
  clear hv
  clear hc w1
  refine soft_one (some 9) rfl (Note.eq (.bool bb)).f (by kernel_rfl) (by kernel_rfl) (fun w1 hc hk => ?_) (fun x1_4 w1 hc hv => ?_)
  · exact soft_call (args := #[x1_1, x1_3]) Try.func24 (by kernel_rfl) (by kernel_rfl) rfl (by kernel_rfl) (d_psame bb (known_at hk 1 (nEvs (s)).f x1_1 (by kernel_rfl) (by kernel_rfl) (by kernel_rfl)) (known_at hk 3 (nEvs (t)).f x1_3 (by kernel_rfl) (by kernel_rfl) (by kernel_rfl)) hfs hft hbb)
  obtain rfl : x1_4 = _ := hv
  clear hc w1
  refine soft_one (some 10) rfl (Note.eq (.slice A n cc)).f (by kernel_rfl) (by kernel_rfl) (fun w1 hc hk => ?_) (fun x1_5 w1 hc hv => ?_)
  · exact soft_move (.tmp 0) rfl (.slice A n cc) (by kernel_rfl) rfl
  obtain rfl : x1_5 = _ := hv
  clear hc w1
  refine soft_one (some 11) rfl (Note.eq (.slice B m cd)).f (by kernel_rfl) (by kernel_rfl) (fun w1 hc hk => ?_) (fun x1_6 w1 hc hv => ?_)
  · exact soft_move (.tmp 1) rfl (.slice B m cd) (by kernel_rfl) rfl
  obtain rfl : x1_6 = _ := hv
  clear hc w1
  refine soft_one (some 12) rfl (Note.eq (.bool bb)).f (by kernel_rfl) (by kernel_rfl) (fun w1 hc hk => ?_) (fun x1_7 w1 hc hv => ?_)
  · exact soft_call (args := #[.slice A n cc, .slice B m cd]) Try.func18 (by kernel_rfl) (by kernel_rfl) rfl (by kernel_rfl) (d_rsame bb (HEs.out _ hc) (HEt.out _ hc) hfs hft hbb)
  obtain rfl : x1_7 = _ := hv
  clear hc w1
  refine soft_one (some 13) rfl (Note.eq (.bool true)).f (by kernel_rfl) (by kernel_rfl) (fun w1 hc hk => ?_) (fun x1_8 w1 hc hv => ?_)
  · refine soft_at (w1 := w1) (u := .bool true) (fun ρ => ρ (.tmp 9) = .bool bb ∧ ρ (.tmp 12) = .bool bb) ⟨by kernel_rfl, by kernel_rfl⟩ (fun ρ hρ => ?_) (Chg.refl _ _) rfl; (obtain ⟨g0, g1⟩ := hρ; go_simp)
  obtain rfl : x1_8 = _ := hv
  clear hc w1
  refine soft_one (some 14) rfl (Note.eq (.bool true)).f (by kernel_rfl) (by kernel_rfl) (fun w1 hc hk => ?_) (fun x1_9 w1 hc hv => ?_)
  · exact soft_move (.tmp 13) rfl (.bool true) (by kernel_rfl) rfl
  obtain rfl : x1_9 = _ := hv
  clear hc w1
  refine soft_one (some 15) rfl (Note.eq (.slice A n cc)).f (by kernel_rfl) (by kernel_rfl) (fun w1 hc hk => ?_) (fun x1_10 w1 hc hv => ?_)
  · exact soft_move (.tmp 0) rfl (.slice A n cc) (by kernel_rfl) rfl
  obtain rfl : x1_10 = _ := hv
  clear hc w1
  refine soft_one (some 16) rfl (Note.eq (.slice A n cc)).f (by kernel_rfl) (by kernel_rfl) (fun w1 hc hk => ?_) (fun x1_11 w1 hc hv => ?_)
  · exact soft_move (.tmp 0) rfl (.slice A n cc) (by kernel_rfl) rfl
  obtain rfl : x1_11 = _ := hv
  clear hc w1
  refine soft_one (some 17) rfl (nEvs (s)).f (by kernel_rfl) (by kernel_rfl) (fun w1 hc hk => ?_) (fun x1_12 w1 hc hv => ?_)
  · exact soft_call (args := #[.slice A n cc]) Try.func20 (by kernel_rfl) (by kernel_rfl) rfl (by kernel_rfl) (d_copies (HEs.out _ hc) hfs)
  clear hv
  clear hc w1
  refine soft_one (some 18) rfl (Note.eq (.bool true)).f (by kernel_rfl) (by kernel_rfl) (fun w1 hc hk => ?_) (fun x1_13 w1 hc hv => ?_)
  · exact soft_call (args := #[.slice A n cc, x1_12]) Try.func24 (by kernel_rfl) (by kernel_rfl) rfl (by kernel_rfl) (d_psame true (HEs.out _ hc) (known_at hk 12 (nEvs (s)).f x1_12 (by kernel_rfl) (by kernel_rfl) (by kernel_rfl)) hfs hfs (by simp))
  obtain rfl : x1_13 = _ := hv
  clear hc w1
  refine soft_one (some 19) rfl (Note.eq (.bool true)).f (by kernel_rfl) (by kernel_rfl) (fun w1 hc hk => ?_) (fun x1_14 w1 hc hv => ?_)
  · refine soft_at (w1 := w1) (u := .bool true) (fun ρ => ρ (.tmp 14) = .bool true ∧ ρ (.tmp 18) = .bool true) ⟨by kernel_rfl, by kernel_rfl⟩ (fun ρ hρ => ?_) (Chg.refl _ _) rfl; (obtain ⟨g0, g1⟩ := hρ; go_simp)
  obtain rfl : x1_14 = _ := hv
  clear hc w1
  refine soft_one (some 20) rfl (Note.eq (.bool true)).f (by kernel_rfl) (by kernel_rfl) (fun w1 hc hk => ?_) (fun x1_15 w1 hc hv => ?_)
  · exact soft_move (.tmp 19) rfl (.bool true) (by kernel_rfl) rfl
  obtain rfl : x1_15 = _ := hv
  clear hc w1
  refine soft_one (some 21) rfl (Note.eq (.bool true)).f (by kernel_rfl) (by kernel_rfl) (fun w1 hc hk => ?_) (fun x1_16 w1 hc hv => ?_)
  · exact soft_call (args := #[]) Try.func14 (by kernel_rfl) (by kernel_rfl) rfl (by kernel_rfl) (d_awake)
  obtain rfl : x1_16 = _ := hv
  clear hc w1
  refine soft_one (some 22) rfl (Note.eq (.bool true)).f (by kernel_rfl) (by kernel_rfl) (fun w1 hc hk => ?_) (fun x1_17 w1 hc hv => ?_)
  · refine soft_at (w1 := w1) (u := .bool true) (fun ρ => ρ (.tmp 20) = .bool true ∧ ρ (.tmp 21) = .bool true) ⟨by kernel_rfl, by kernel_rfl⟩ (fun ρ hρ => ?_) (Chg.refl _ _) rfl; (obtain ⟨g0, g1⟩ := hρ; go_simp)
  obtain rfl : x1_17 = _ := hv
  clear hc w1
  refine soft_one (some 4) rfl (Note.eq (.bool true)).f (by kernel_rfl) (by kernel_rfl) (fun w1 hc hk => ?_) (fun x1_18 w1 hc hv => ?_)
  · exact soft_assign (.tmp 22) rfl (.bool true) (by kernel_rfl) rfl
  obtain rfl : x1_18 = _ := hv
  clear hc w1
  refine soft_end (fun b => b.tmps.getD 4 undef = .bool true ∧ b.defers = []) ⟨by kernel_rfl, by kernel_rfl⟩ (fun b hb w6 hc6 => ?_)
  obtain ⟨hb0, hbd⟩ := hb
  have HC6 : Hid (Chg (fun _ => False) w w6) := hc6
  clear hc6
  go_wp2
  exact bodyPost_ret (v := .bool true) (by simp [results, Try.results7, go_sem, show b.tmps[4]?.getD undef = .bool true by rw [← Array.getD_eq_getD_getElem?]; exact hb0]) hbd ⟨rfl, HC6.out.below⟩
end Go.Proofs.Ytchlolgfahgdeaa.Ewa
