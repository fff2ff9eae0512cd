/- The walks of the laws Slots. Conditions: what comes in reads so. -/
import Derived.Test.YtchlolgfahgdeaaEwd
import Derived.Deep.Cut
set_option linter.unusedVariables false
set_option linter.unusedSimpArgs false
namespace Go.Proofs.Ytchlolgfahgdeaa.Ewe
open Go.RowKit Go.Proofs.Ytchlolgfahgdeaa.Lib1 Go.Proofs.Ytchlolgfahgdeaa.Rel Go.Proofs.Ytchlolgfahgdeaa.Own Go.Proofs.Ytchlolgfahgdeaa.Ev Go.Proofs.Ytchlolgfahgdeaa.Ek Go.Proofs.Ytchlolgfahgdeaa.Ec Go.Proofs.Ytchlolgfahgdeaa.Em Go.Proofs.Ytchlolgfahgdeaa.En Go.Proofs.Ytchlolgfahgdeaa.Lat Go.Proofs.Ytchlolgfahgdeaa.Lbl Go.Proofs.Ytchlolgfahgdeaa.Lbw Go.Proofs.Ytchlolgfahgdeaa.Lck Go.Proofs.Ytchlolgfahgdeaa.Lmay Go.Proofs.Ytchlolgfahgdeaa.Rgn Go.Proofs.Ytchlolgfahgdeaa.Rgs Go.Proofs.Ytchlolgfahgdeaa.Eaw Go.Proofs.Ytchlolgfahgdeaa.Esq Go.Proofs.Ytchlolgfahgdeaa.Epo Go.Proofs.Ytchlolgfahgdeaa.Ess Go.Proofs.Ytchlolgfahgdeaa.Ead Go.Proofs.Ytchlolgfahgdeaa.Eak Go.Proofs.Ytchlolgfahgdeaa.Ela Go.Proofs.Ytchlolgfahgdeaa.Ewc Go.Proofs.Ytchlolgfahgdeaa.Ewd

def nInts (l : List Int) : Note := ⟨fun v w => (Kd.slice 8 (Kd.int .i64)).rel (fun k => k < w.heap.size) w l [v], fun v w w' hc h => (Kd.slice 8 (Kd.int .i64)).mono (size_up hc) ((Kd.slice 8 (Kd.int .i64)).move (fun k hk => hc.block k hk (fun h => h)) h)⟩
theorem d_slots {w : World} {c : Cfg} {V1 V2 : Value} {l : List Ev} (hcf : cfgFits c) (h1 : CfgW c V1 w) (h2 : (nEvs l).f V2 w) (hf : evsK.fits l) : Calls Try.prog 27 #[V1, V2] w fun e w' => ∃ v, e = .returned v ∧ Chg (fun _ => False) w w' ∧ (nInts (Ev.slots c l)).f v w' := by
  obtain ⟨A1, A2, A3, n1, n2, n3, c1, c2, c3, rfl, hC⟩ := h1
  obtain ⟨A, k, rfl⟩ := nEvs_form h2
  exact (slots_any hC (fun k hk => hk) hcf l A _ k h2 (fun k hk => hk) hf).mono fun e w' ⟨v, he, ho, hc⟩ => ⟨v, he, hc, (Kd.slice 8 (Kd.int .i64)).mono (fun k hk => hk.2) (ho.reads (bytes := 8))⟩
set_option maxRecDepth 100000 in
set_option maxHeartbeats 3200000 in
theorem slots_walk {ok : Nat → Prop} {w : World} {A1 A2 A3 : Option Addr} {n1 n2 n3 c1 c2 c3 : Nat} {c : Cfg} (h : CfgAt ok w A1 A2 A3 n1 n2 n3 c1 c2 c3 c) (hok : ∀ k, ok k → k < w.heap.size) (hcf : cfgFits c) (place : Int) {oks : Nat → Prop} (s : List Ev) (A : Option Addr) (n cc : Nat) (hrs : evsK.rel oks w s [.slice A n cc]) (hoks : ∀ k, oks k → k < w.heap.size) (hfs : evsK.fits s) :
    Calls Try.prog 10 #[.agg #[.slice A1 n1 c1, .slice A2 n2 c2, .slice A3 n3 c3], .int .i64 place, .slice A n cc] w fun e w' => e = .returned (.bool true) ∧ Below w.heap.size w w' := by
  have hC0 : CfgW c (.agg #[.slice A1 n1 c1, .slice A2 n2 c2, .slice A3 n3 c3]) w := CfgW_of h hok
  have hEs : (nEvs s).f (.slice A n cc) w := nEvs_of hrs hoks
  have HC : Hid (∀ w', Chg (fun _ => False) w w' → CfgW c (.agg #[.slice A1 n1 c1, .slice A2 n2 c2, .slice A3 n3 c3]) w') := fun w' hc => hC0.up hc
  have HEs : Hid (∀ w', Chg (fun _ => False) w w' → (nEvs s).f (.slice A n cc) w') := fun w' hc => nEvs_up hEs hc
  have HBX : Hid (∀ w', Chg (fun _ => False) (w.alloc (.cells #[.slice A1 n1 c1, .slice A2 n2 c2, .slice A3 n3 c3] 27)) w' → w'.heap[w.heap.size]? = some (.cells #[.slice A1 n1 c1, .slice A2 n2 c2, .slice A3 n3 c3] 27 (0, 0))) := fun w' hc => hc.at_ (heap_new w _) (fun h => h)
  have HL1 : Hid (c.labels.length = n1) := h.l1
  have HFs := Lib.hid hfs
  clear h hok hrs hoks hC0 hEs
  go_enter Try.func10, Try.ntmps10
  go_wp2_with fail
  refine (awake_any _).mono ?_
  rintro e w2 ⟨rfl, hc2⟩
  have H2 : Hid (Chg (fun _ => False) (w.alloc (.cells #[.slice A1 n1 c1, .slice A2 n2 c2, .slice A3 n3 c3] 27)) w2) := hc2
  have k0 := cell_at (HBX.out _ hc2) 0 rfl
  have k1 := cell_at (HBX.out _ hc2) 1 rfl
  have k2 := cell_at (HBX.out _ hc2) 2 rfl
  have HMC : Hid (Calls Try.prog 25 #[.agg #[.slice A1 n1 c1, .slice A2 n2 c2, .slice A3 n3 c3]] w2 fun e w' => ∃ v, e = .returned v ∧ Chg (fun _ => False) w2 w' ∧ v = .bool (mayB c)) := d_mayConfig hcf (HC.out _ (((Chg.refl _ w).alloc _).trans hc2 (fun _ _ h => h)))
  clear hc2
  go_upto_region 3 with fail
  generalize hmb : mayB c = mb at *
  have HMB := Lib.hid hmb
  clear hmb
  cases mb with
  | false =>
    have HPo : Hid (Ev.purge c place s = []) := Epo.purge_out (fun h => by rw [HMB.out] at h; exact absurd h.1 (by simp))
    go_wp2_with fail
    refine HMC.out.mono ?_
    rintro e w4 ⟨_, rfl, hc4, rfl⟩
    have H4 : Hid (Chg (fun _ => False) (w.alloc (.cells #[.slice A1 n1 c1, .slice A2 n2 c2, .slice A3 n3 c3] 27)) w4) := H2.out.trans hc4 (fun _ _ h => h)
    have j0 := cell_at (HBX.out _ H4.out) 0 rfl
    clear hc4 k0 k1 k2
    go_wp2_with fail
    refine wp_region_soft (notes [Note.eq (.agg #[.slice A1 n1 c1, .slice A2 n2 c2, .slice A3 n3 c3]), Note.eq (.int .i64 place), Note.eq (.slice A n cc), nEvs (s), nEvs ([]), Note.eq (.int .i64 0), Note.eq (.bool true), Note.eq (.bool true)]) (by kernel_rfl) (by kernel_rfl) (by kernel_rfl) (notes_st _) ?_
    refine soft_one (some 26) rfl (Note.eq (.agg #[.slice A1 n1 c1, .slice A2 n2 c2, .slice A3 n3 c3])).f (by kernel_rfl) (by kernel_rfl) (fun w1 hc hk => ?_) (fun x4_0 w1 hc hv => ?_)
    · have k0 := cell_at (HBX.out _ (H4.out.trans hc (fun _ _ h => h))) 0 rfl; have k1 := cell_at (HBX.out _ (H4.out.trans hc (fun _ _ h => h))) 1 rfl; have k2 := cell_at (HBX.out _ (H4.out.trans hc (fun _ _ h => h))) 2 rfl; refine soft_at (w1 := w1) (u := .agg #[.slice A1 n1 c1, .slice A2 n2 c2, .slice A3 n3 c3]) (fun ρ => ρ (.tmp 3) = .pointer (some ⟨w.heap.size, 0, none⟩)) (by kernel_rfl) (fun ρ hρ => ?_) (Chg.refl _ _) rfl; go_simp
    obtain rfl : x4_0 = _ := hv
    clear hc w1
    refine soft_one (some 27) rfl (Note.eq (.int .i64 place)).f (by kernel_rfl) (by kernel_rfl) (fun w1 hc hk => ?_) (fun x4_1 w1 hc hv => ?_)
    · exact soft_move (.tmp 1) rfl (.int .i64 place) (by kernel_rfl) rfl
    obtain rfl : x4_1 = _ := hv
    clear hc w1
    refine soft_one (some 28) rfl (Note.eq (.slice A n cc)).f (by kernel_rfl) (by kernel_rfl) (fun w1 hc hk => ?_) (fun x4_2 w1 hc hv => ?_)
    · exact soft_move (.tmp 2) rfl (.slice A n cc) (by kernel_rfl) rfl
    obtain rfl : x4_2 = _ := hv
    clear hc w1
    refine soft_one (some 29) rfl (nEvs (s)).f (by kernel_rfl) (by kernel_rfl) (fun w1 hc hk => ?_) (fun x4_3 w1 hc hv => ?_)
    · exact soft_call (args := #[.slice A n cc]) Try.func20 (by kernel_rfl) (by kernel_rfl) rfl (by kernel_rfl) (d_copies (HEs.out _ (((Chg.refl _ w).alloc _).trans (H4.out.trans hc (fun _ _ h => h)) (fun _ _ h => h))) HFs.out)
    clear hv
    clear hc w1
    refine soft_one (some 30) rfl (nEvs ([])).f (by kernel_rfl) (by kernel_rfl) (fun w1 hc hk => ?_) (fun x4_4 w1 hc hv => ?_)
    · exact soft_call (args := #[.agg #[.slice A1 n1 c1, .slice A2 n2 c2, .slice A3 n3 c3], .int .i64 place, x4_3]) Try.func19 (by kernel_rfl) (by kernel_rfl) rfl (by kernel_rfl) (by have := d_purge hcf place (HC.out _ (((Chg.refl _ w).alloc _).trans (H4.out.trans hc (fun _ _ h => h)) (fun _ _ h => h))) (known_at hk 3 (nEvs (s)).f x4_3 (by kernel_rfl) (by kernel_rfl) (by kernel_rfl)) HFs.out; rwa [HPo.out] at this)
    clear hv
    clear hc w1
    refine soft_one (some 31) rfl (Note.eq (.int .i64 0)).f (by kernel_rfl) (by kernel_rfl) (fun w1 hc hk => ?_) (fun x4_5 w1 hc hv => ?_)
    · obtain ⟨A9, c9, rfl⟩ := nEvs_form (known_at hk 4 (nEvs ([])).f x4_4 (by kernel_rfl) (by kernel_rfl) (by kernel_rfl)); refine soft_at (w1 := w1) (u := .int .i64 0) (fun ρ => ρ (.tmp 30) = .slice A9 0 c9) (by kernel_rfl) (fun ρ hρ => ?_) (Chg.refl _ _) rfl; go_simp
    obtain rfl : x4_5 = _ := hv
    clear hc w1
    refine soft_one (some 32) rfl (Note.eq (.bool true)).f (by kernel_rfl) (by kernel_rfl) (fun w1 hc hk => ?_) (fun x4_6 w1 hc hv => ?_)
    · refine soft_at (w1 := w1) (u := .bool true) (fun ρ => (∀ v, ρ (.const v) = v) ∧ ρ (.tmp 31) = .int .i64 0) ⟨fun v => rfl, by kernel_rfl⟩ (fun ρ hρ => ?_) (Chg.refl _ _) rfl; (obtain ⟨g0, g1⟩ := hρ; go_simp)
    obtain rfl : x4_6 = _ := hv
    clear hc w1
    refine soft_one (some 6) rfl (Note.eq (.bool true)).f (by kernel_rfl) (by kernel_rfl) (fun w1 hc hk => ?_) (fun x4_7 w1 hc hv => ?_)
    · exact soft_assign (.tmp 32) rfl (.bool true) (by kernel_rfl) rfl
    obtain rfl : x4_7 = _ := hv
    clear hc w1
    refine soft_end (fun b => b.tmps.getD 6 undef = .bool true ∧ b.defers = []) ⟨by kernel_rfl, by kernel_rfl⟩ (fun b hb w6 hc6 => ?_)
    obtain ⟨hb0, hbd⟩ := hb
    have HC6 : Hid (Chg (fun _ => False) w w6) := ((Chg.refl _ w).alloc _).trans (H4.out.trans hc6 (fun _ _ h => h)) (fun _ _ h => h)
    clear hc6
    go_wp2
    exact bodyPost_ret (v := .bool true) (by simp [results, Try.results10, go_sem, show b.tmps[6]?.getD undef = .bool true by rw [← Array.getD_eq_getD_getElem?]; exact hb0]) hbd ⟨rfl, HC6.out.below⟩
  | true =>
    by_cases t1 : place < 0
    · have i1 : decide (place < 0) = true := by simpa using t1
      have HPo : Hid (Ev.purge c place s = []) := Epo.purge_out (fun h => by have := h.2.1; omega)
      clear t1
      go_wp2_with fail
      refine HMC.out.mono ?_
      rintro e w4 ⟨_, rfl, hc4, rfl⟩
      have H4 : Hid (Chg (fun _ => False) (w.alloc (.cells #[.slice A1 n1 c1, .slice A2 n2 c2, .slice A3 n3 c3] 27)) w4) := H2.out.trans hc4 (fun _ _ h => h)
      have j0 := cell_at (HBX.out _ H4.out) 0 rfl
      clear hc4 k0 k1 k2
      go_wp2_with fail
      refine wp_region_soft (notes [Note.eq (.agg #[.slice A1 n1 c1, .slice A2 n2 c2, .slice A3 n3 c3]), Note.eq (.int .i64 place), Note.eq (.slice A n cc), nEvs (s), nEvs ([]), Note.eq (.int .i64 0), Note.eq (.bool true), Note.eq (.bool true)]) (by kernel_rfl) (by kernel_rfl) (by kernel_rfl) (notes_st _) ?_
      refine soft_one (some 26) rfl (Note.eq (.agg #[.slice A1 n1 c1, .slice A2 n2 c2, .slice A3 n3 c3])).f (by kernel_rfl) (by kernel_rfl) (fun w1 hc hk => ?_) (fun x4_0 w1 hc hv => ?_)
      · have k0 := cell_at (HBX.out _ (H4.out.trans hc (fun _ _ h => h))) 0 rfl; have k1 := cell_at (HBX.out _ (H4.out.trans hc (fun _ _ h => h))) 1 rfl; have k2 := cell_at (HBX.out _ (H4.out.trans hc (fun _ _ h => h))) 2 rfl; refine soft_at (w1 := w1) (u := .agg #[.slice A1 n1 c1, .slice A2 n2 c2, .slice A3 n3 c3]) (fun ρ => ρ (.tmp 3) = .pointer (some ⟨w.heap.size, 0, none⟩)) (by kernel_rfl) (fun ρ hρ => ?_) (Chg.refl _ _) rfl; go_simp
      obtain rfl : x4_0 = _ := hv
      clear hc w1
      refine soft_one (some 27) rfl (Note.eq (.int .i64 place)).f (by kernel_rfl) (by kernel_rfl) (fun w1 hc hk => ?_) (fun x4_1 w1 hc hv => ?_)
      · exact soft_move (.tmp 1) rfl (.int .i64 place) (by kernel_rfl) rfl
      obtain rfl : x4_1 = _ := hv
      clear hc w1
      refine soft_one (some 28) rfl (Note.eq (.slice A n cc)).f (by kernel_rfl) (by kernel_rfl) (fun w1 hc hk => ?_) (fun x4_2 w1 hc hv => ?_)
      · exact soft_move (.tmp 2) rfl (.slice A n cc) (by kernel_rfl) rfl
      obtain rfl : x4_2 = _ := hv
      clear hc w1
      refine soft_one (some 29) rfl (nEvs (s)).f (by kernel_rfl) (by kernel_rfl) (fun w1 hc hk => ?_) (fun x4_3 w1 hc hv => ?_)
      · exact soft_call (args := #[.slice A n cc]) Try.func20 (by kernel_rfl) (by kernel_rfl) rfl (by kernel_rfl) (d_copies (HEs.out _ (((Chg.refl _ w).alloc _).trans (H4.out.trans hc (fun _ _ h => h)) (fun _ _ h => h))) HFs.out)
      clear hv
      clear hc w1
      refine soft_one (some 30) rfl (nEvs ([])).f (by kernel_rfl) (by kernel_rfl) (fun w1 hc hk => ?_) (fun x4_4 w1 hc hv => ?_)
      · exact soft_call (args := #[.agg #[.slice A1 n1 c1, .slice A2 n2 c2, .slice A3 n3 c3], .int .i64 place, x4_3]) Try.func19 (by kernel_rfl) (by kernel_rfl) rfl (by kernel_rfl) (by have := d_purge hcf place (HC.out _ (((Chg.refl _ w).alloc _).trans (H4.out.trans hc (fun _ _ h => h)) (fun _ _ h => h))) (known_at hk 3 (nEvs (s)).f x4_3 (by kernel_rfl) (by kernel_rfl) (by kernel_rfl)) HFs.out; rwa [HPo.out] at this)
      clear hv
      clear hc w1
      refine soft_one (some 31) rfl (Note.eq (.int .i64 0)).f (by kernel_rfl) (by kernel_rfl) (fun w1 hc hk => ?_) (fun x4_5 w1 hc hv => ?_)
      · obtain ⟨A9, c9, rfl⟩ := nEvs_form (known_at hk 4 (nEvs ([])).f x4_4 (by kernel_rfl) (by kernel_rfl) (by kernel_rfl)); refine soft_at (w1 := w1) (u := .int .i64 0) (fun ρ => ρ (.tmp 30) = .slice A9 0 c9) (by kernel_rfl) (fun ρ hρ => ?_) (Chg.refl _ _) rfl; go_simp
      obtain rfl : x4_5 = _ := hv
      clear hc w1
      refine soft_one (some 32) rfl (Note.eq (.bool true)).f (by kernel_rfl) (by kernel_rfl) (fun w1 hc hk => ?_) (fun x4_6 w1 hc hv => ?_)
      · refine soft_at (w1 := w1) (u := .bool true) (fun ρ => (∀ v, ρ (.const v) = v) ∧ ρ (.tmp 31) = .int .i64 0) ⟨fun v => rfl, by kernel_rfl⟩ (fun ρ hρ => ?_) (Chg.refl _ _) rfl; (obtain ⟨g0, g1⟩ := hρ; go_simp)
      obtain rfl : x4_6 = _ := hv
      clear hc w1
      refine soft_one (some 6) rfl (Note.eq (.bool true)).f (by kernel_rfl) (by kernel_rfl) (fun w1 hc hk => ?_) (fun x4_7 w1 hc hv => ?_)
      · exact soft_assign (.tmp 32) rfl (.bool true) (by kernel_rfl) rfl
      obtain rfl : x4_7 = _ := hv
      clear hc w1
      refine soft_end (fun b => b.tmps.getD 6 undef = .bool true ∧ b.defers = []) ⟨by kernel_rfl, by kernel_rfl⟩ (fun b hb w6 hc6 => ?_)
      obtain ⟨hb0, hbd⟩ := hb
      have HC6 : Hid (Chg (fun _ => False) w w6) := ((Chg.refl _ w).alloc _).trans (H4.out.trans hc6 (fun _ _ h => h)) (fun _ _ h => h)
      clear hc6
      go_wp2
      exact bodyPost_ret (v := .bool true) (by simp [results, Try.results10, go_sem, show b.tmps[6]?.getD undef = .bool true by rw [← Array.getD_eq_getD_getElem?]; exact hb0]) hbd ⟨rfl, HC6.out.below⟩
    have i1 : decide (place < 0) = false := by simpa using t1
    by_cases t3 : (n1 : Int) ≤ place
    · have i3 : decide ((n1 : Int) ≤ place) = true := by simpa using t3
      have HPo : Hid (Ev.purge c place s = []) := Epo.purge_out (fun h => by have := h.2.2; have := HL1.out; omega)
      clear t1 t3
      go_wp2_with fail
      refine HMC.out.mono ?_
      rintro e w4 ⟨_, rfl, hc4, rfl⟩
      have H4 : Hid (Chg (fun _ => False) (w.alloc (.cells #[.slice A1 n1 c1, .slice A2 n2 c2, .slice A3 n3 c3] 27)) w4) := H2.out.trans hc4 (fun _ _ h => h)
      have j0 := cell_at (HBX.out _ H4.out) 0 rfl
      clear hc4 k0 k1 k2
      go_wp2_with fail
      refine wp_region_soft (notes [Note.eq (.agg #[.slice A1 n1 c1, .slice A2 n2 c2, .slice A3 n3 c3]), Note.eq (.int .i64 place), Note.eq (.slice A n cc), nEvs (s), nEvs ([]), Note.eq (.int .i64 0), Note.eq (.bool true), Note.eq (.bool true)]) (by kernel_rfl) (by kernel_rfl) (by kernel_rfl) (notes_st _) ?_
      refine soft_one (some 26) rfl (Note.eq (.agg #[.slice A1 n1 c1, .slice A2 n2 c2, .slice A3 n3 c3])).f (by kernel_rfl) (by kernel_rfl) (fun w1 hc hk => ?_) (fun x4_0 w1 hc hv => ?_)
      · have k0 := cell_at (HBX.out _ (H4.out.trans hc (fun _ _ h => h))) 0 rfl; have k1 := cell_at (HBX.out _ (H4.out.trans hc (fun _ _ h => h))) 1 rfl; have k2 := cell_at (HBX.out _ (H4.out.trans hc (fun _ _ h => h))) 2 rfl; refine soft_at (w1 := w1) (u := .agg #[.slice A1 n1 c1, .slice A2 n2 c2, .slice A3 n3 c3]) (fun ρ => ρ (.tmp 3) = .pointer (some ⟨w.heap.size, 0, none⟩)) (by kernel_rfl) (fun ρ hρ => ?_) (Chg.refl _ _) rfl; go_simp
      obtain rfl : x4_0 = _ := hv
      clear hc w1
      refine soft_one (some 27) rfl (Note.eq (.int .i64 place)).f (by kernel_rfl) (by kernel_rfl) (fun w1 hc hk => ?_) (fun x4_1 w1 hc hv => ?_)
      · exact soft_move (.tmp 1) rfl (.int .i64 place) (by kernel_rfl) rfl
      obtain rfl : x4_1 = _ := hv
      clear hc w1
      refine soft_one (some 28) rfl (Note.eq (.slice A n cc)).f (by kernel_rfl) (by kernel_rfl) (fun w1 hc hk => ?_) (fun x4_2 w1 hc hv => ?_)
      · exact soft_move (.tmp 2) rfl (.slice A n cc) (by kernel_rfl) rfl
      obtain rfl : x4_2 = _ := hv
      clear hc w1
      refine soft_one (some 29) rfl (nEvs (s)).f (by kernel_rfl) (by kernel_rfl) (fun w1 hc hk => ?_) (fun x4_3 w1 hc hv => ?_)
      · exact soft_call (args := #[.slice A n cc]) Try.func20 (by kernel_rfl) (by kernel_rfl) rfl (by kernel_rfl) (d_copies (HEs.out _ (((Chg.refl _ w).alloc _).trans (H4.out.trans hc (fun _ _ h => h)) (fun _ _ h => h))) HFs.out)
      clear hv
      clear hc w1
      refine soft_one (some 30) rfl (nEvs ([])).f (by kernel_rfl) (by kernel_rfl) (fun w1 hc hk => ?_) (fun x4_4 w1 hc hv => ?_)
      · exact soft_call (args := #[.agg #[.slice A1 n1 c1, .slice A2 n2 c2, .slice A3 n3 c3], .int .i64 place, x4_3]) Try.func19 (by kernel_rfl) (by kernel_rfl) rfl (by kernel_rfl) (by have := d_purge hcf place (HC.out _ (((Chg.refl _ w).alloc _).trans (H4.out.trans hc (fun _ _ h => h)) (fun _ _ h => h))) (known_at hk 3 (nEvs (s)).f x4_3 (by kernel_rfl) (by kernel_rfl) (by kernel_rfl)) HFs.out; rwa [HPo.out] at this)
      clear hv
      clear hc w1
      refine soft_one (some 31) rfl (Note.eq (.int .i64 0)).f (by kernel_rfl) (by kernel_rfl) (fun w1 hc hk => ?_) (fun x4_5 w1 hc hv => ?_)
      · obtain ⟨A9, c9, rfl⟩ := nEvs_form (known_at hk 4 (nEvs ([])).f x4_4 (by kernel_rfl) (by kernel_rfl) (by kernel_rfl)); refine soft_at (w1 := w1) (u := .int .i64 0) (fun ρ => ρ (.tmp 30) = .slice A9 0 c9) (by kernel_rfl) (fun ρ hρ => ?_) (Chg.refl _ _) rfl; go_simp
      obtain rfl : x4_5 = _ := hv
      clear hc w1
      refine soft_one (some 32) rfl (Note.eq (.bool true)).f (by kernel_rfl) (by kernel_rfl) (fun w1 hc hk => ?_) (fun x4_6 w1 hc hv => ?_)
      · refine soft_at (w1 := w1) (u := .bool true) (fun ρ => (∀ v, ρ (.const v) = v) ∧ ρ (.tmp 31) = .int .i64 0) ⟨fun v => rfl, by kernel_rfl⟩ (fun ρ hρ => ?_) (Chg.refl _ _) rfl; (obtain ⟨g0, g1⟩ := hρ; go_simp)
      obtain rfl : x4_6 = _ := hv
      clear hc w1
      refine soft_one (some 6) rfl (Note.eq (.bool true)).f (by kernel_rfl) (by kernel_rfl) (fun w1 hc hk => ?_) (fun x4_7 w1 hc hv => ?_)
      · exact soft_assign (.tmp 32) rfl (.bool true) (by kernel_rfl) rfl
      obtain rfl : x4_7 = _ := hv
      clear hc w1
      refine soft_end (fun b => b.tmps.getD 6 undef = .bool true ∧ b.defers = []) ⟨by kernel_rfl, by kernel_rfl⟩ (fun b hb w6 hc6 => ?_)
      obtain ⟨hb0, hbd⟩ := hb
      have HC6 : Hid (Chg (fun _ => False) w w6) := ((Chg.refl _ w).alloc _).trans (H4.out.trans hc6 (fun _ _ h => h)) (fun _ _ h => h)
      clear hc6
      go_wp2
      exact bodyPost_ret (v := .bool true) (by simp [results, Try.results10, go_sem, show b.tmps[6]?.getD undef = .bool true by rw [← Array.getD_eq_getD_getElem?]; exact hb0]) hbd ⟨rfl, HC6.out.below⟩
    have i3 : decide ((n1 : Int) ≤ place) = false := by simpa using t3
    have HSl : Hid (Ev.slots c (Ev.purge c place s) = Ev.slots c s) := purge_slots c place s HMB.out (by omega) (by have := HL1.out; omega)
    clear t1 t3
    go_wp2_with fail
    refine HMC.out.mono ?_
    rintro e w4 ⟨_, rfl, hc4, rfl⟩
    have H4 : Hid (Chg (fun _ => False) (w.alloc (.cells #[.slice A1 n1 c1, .slice A2 n2 c2, .slice A3 n3 c3] 27)) w4) := H2.out.trans hc4 (fun _ _ h => h)
    have j0 := cell_at (HBX.out _ H4.out) 0 rfl
    clear hc4 k0 k1 k2
    go_wp2_with fail
    refine wp_region_soft (notes [Note.eq (.agg #[.slice A1 n1 c1, .slice A2 n2 c2, .slice A3 n3 c3]), Note.eq (.slice A n cc), nInts (Ev.slots c s), Note.eq (.agg #[.slice A1 n1 c1, .slice A2 n2 c2, .slice A3 n3 c3]), Note.eq (.agg #[.slice A1 n1 c1, .slice A2 n2 c2, .slice A3 n3 c3]), Note.eq (.int .i64 place), Note.eq (.slice A n cc), nEvs (s), nEvs (Ev.purge c place s), nInts (Ev.slots c s), nInts (Ev.slots c s), nInts (Ev.slots c s)]) (by kernel_rfl) (by kernel_rfl) (by kernel_rfl) (notes_st _) ?_
    refine soft_one (some 33) rfl (Note.eq (.agg #[.slice A1 n1 c1, .slice A2 n2 c2, .slice A3 n3 c3])).f (by kernel_rfl) (by kernel_rfl) (fun w1 hc hk => ?_) (fun x5_0 w1 hc hv => ?_)
    · have k0 := cell_at (HBX.out _ (H4.out.trans hc (fun _ _ h => h))) 0 rfl; have k1 := cell_at (HBX.out _ (H4.out.trans hc (fun _ _ h => h))) 1 rfl; have k2 := cell_at (HBX.out _ (H4.out.trans hc (fun _ _ h => h))) 2 rfl; refine soft_at (w1 := w1) (u := .agg #[.slice A1 n1 c1, .slice A2 n2 c2, .slice A3 n3 c3]) (fun ρ => ρ (.tmp 3) = .pointer (some ⟨w.heap.size, 0, none⟩)) (by kernel_rfl) (fun ρ hρ => ?_) (Chg.refl _ _) rfl; go_simp
    obtain rfl : x5_0 = _ := hv
    clear hc w1
    refine soft_one (some 34) rfl (Note.eq (.slice A n cc)).f (by kernel_rfl) (by kernel_rfl) (fun w1 hc hk => ?_) (fun x5_1 w1 hc hv => ?_)
    · exact soft_move (.tmp 2) rfl (.slice A n cc) (by kernel_rfl) rfl
    obtain rfl : x5_1 = _ := hv
    clear hc w1
    refine soft_one (some 35) rfl (nInts (Ev.slots c s)).f (by kernel_rfl) (by kernel_rfl) (fun w1 hc hk => ?_) (fun x5_2 w1 hc hv => ?_)
    · exact soft_call (args := #[.agg #[.slice A1 n1 c1, .slice A2 n2 c2, .slice A3 n3 c3], .slice A n cc]) Try.func27 (by kernel_rfl) (by kernel_rfl) rfl (by kernel_rfl) (d_slots hcf (HC.out _ (((Chg.refl _ w).alloc _).trans (H4.out.trans hc (fun _ _ h => h)) (fun _ _ h => h))) (HEs.out _ (((Chg.refl _ w).alloc _).trans (H4.out.trans hc (fun _ _ h => h)) (fun _ _ h => h))) HFs.out)
    clear hv
    clear hc w1
    refine soft_one (some 36) rfl (Note.eq (.agg #[.slice A1 n1 c1, .slice A2 n2 c2, .slice A3 n3 c3])).f (by kernel_rfl) (by kernel_rfl) (fun w1 hc hk => ?_) (fun x5_3 w1 hc hv => ?_)
    · have k0 := cell_at (HBX.out _ (H4.out.trans hc (fun _ _ h => h))) 0 rfl; have k1 := cell_at (HBX.out _ (H4.out.trans hc (fun _ _ h => h))) 1 rfl; have k2 := cell_at (HBX.out _ (H4.out.trans hc (fun _ _ h => h))) 2 rfl; refine soft_at (w1 := w1) (u := .agg #[.slice A1 n1 c1, .slice A2 n2 c2, .slice A3 n3 c3]) (fun ρ => ρ (.tmp 3) = .pointer (some ⟨w.heap.size, 0, none⟩)) (by kernel_rfl) (fun ρ hρ => ?_) (Chg.refl _ _) rfl; go_simp
    obtain rfl : x5_3 = _ := hv
    clear hc w1
    refine soft_one (some 37) rfl (Note.eq (.agg #[.slice A1 n1 c1, .slice A2 n2 c2, .slice A3 n3 c3])).f (by kernel_rfl) (by kernel_rfl) (fun w1 hc hk => ?_) (fun x5_4 w1 hc hv => ?_)
    · have k0 := cell_at (HBX.out _ (H4.out.trans hc (fun _ _ h => h))) 0 rfl; have k1 := cell_at (HBX.out _ (H4.out.trans hc (fun _ _ h => h))) 1 rfl; have k2 := cell_at (HBX.out _ (H4.out.trans hc (fun _ _ h => h))) 2 rfl; refine soft_at (w1 := w1) (u := .agg #[.slice A1 n1 c1, .slice A2 n2 c2, .slice A3 n3 c3]) (fun ρ => ρ (.tmp 3) = .pointer (some ⟨w.heap.size, 0, none⟩)) (by kernel_rfl) (fun ρ hρ => ?_) (Chg.refl _ _) rfl; go_simp
    obtain rfl : x5_4 = _ := hv
    clear hc w1
    refine soft_one (some 38) rfl (Note.eq (.int .i64 place)).f (by kernel_rfl) (by kernel_rfl) (fun w1 hc hk => ?_) (fun x5_5 w1 hc hv => ?_)
    · exact soft_move (.tmp 1) rfl (.int .i64 place) (by kernel_rfl) rfl
    obtain rfl : x5_5 = _ := hv
    clear hc w1
    refine soft_one (some 39) rfl (Note.eq (.slice A n cc)).f (by kernel_rfl) (by kernel_rfl) (fun w1 hc hk => ?_) (fun x5_6 w1 hc hv => ?_)
    · exact soft_move (.tmp 2) rfl (.slice A n cc) (by kernel_rfl) rfl
    obtain rfl : x5_6 = _ := hv
    clear hc w1
    refine soft_one (some 40) rfl (nEvs (s)).f (by kernel_rfl) (by kernel_rfl) (fun w1 hc hk => ?_) (fun x5_7 w1 hc hv => ?_)
    · exact soft_call (args := #[.slice A n cc]) Try.func20 (by kernel_rfl) (by kernel_rfl) rfl (by kernel_rfl) (d_copies (HEs.out _ (((Chg.refl _ w).alloc _).trans (H4.out.trans hc (fun _ _ h => h)) (fun _ _ h => h))) HFs.out)
    clear hv
    clear hc w1
    refine soft_one (some 41) rfl (nEvs (Ev.purge c place s)).f (by kernel_rfl) (by kernel_rfl) (fun w1 hc hk => ?_) (fun x5_8 w1 hc hv => ?_)
    · exact soft_call (args := #[.agg #[.slice A1 n1 c1, .slice A2 n2 c2, .slice A3 n3 c3], .int .i64 place, x5_7]) Try.func19 (by kernel_rfl) (by kernel_rfl) rfl (by kernel_rfl) (d_purge hcf place (HC.out _ (((Chg.refl _ w).alloc _).trans (H4.out.trans hc (fun _ _ h => h)) (fun _ _ h => h))) (known_at hk 7 (nEvs (s)).f x5_7 (by kernel_rfl) (by kernel_rfl) (by kernel_rfl)) HFs.out)
    clear hv
    clear hc w1
    refine soft_one (some 42) rfl (nInts (Ev.slots c s)).f (by kernel_rfl) (by kernel_rfl) (fun w1 hc hk => ?_) (fun x5_9 w1 hc hv => ?_)
    · exact soft_call (args := #[.agg #[.slice A1 n1 c1, .slice A2 n2 c2, .slice A3 n3 c3], x5_8]) Try.func27 (by kernel_rfl) (by kernel_rfl) rfl (by kernel_rfl) (by have := d_slots hcf (HC.out _ (((Chg.refl _ w).alloc _).trans (H4.out.trans hc (fun _ _ h => h)) (fun _ _ h => h))) (known_at hk 8 (nEvs (Ev.purge c place s)).f x5_8 (by kernel_rfl) (by kernel_rfl) (by kernel_rfl)) (purge_fits HFs.out); rwa [HSl.out] at this)
    clear hv
    clear hc w1
    refine soft_one (some 7) rfl (nInts (Ev.slots c s)).f (by kernel_rfl) (by kernel_rfl) (fun w1 hc hk => ?_) (fun x5_10 w1 hc hv => ?_)
    · exact soft_assign (.tmp 35) rfl x5_2 (by kernel_rfl) (known_at hk 2 (nInts (Ev.slots c s)).f x5_2 (by kernel_rfl) (by kernel_rfl) (by kernel_rfl))
    clear hv
    clear hc w1
    refine soft_one (some 8) rfl (nInts (Ev.slots c s)).f (by kernel_rfl) (by kernel_rfl) (fun w1 hc hk => ?_) (fun x5_11 w1 hc hv => ?_)
    · exact soft_assign (.tmp 42) rfl x5_9 (by kernel_rfl) (known_at hk 9 (nInts (Ev.slots c s)).f x5_9 (by kernel_rfl) (by kernel_rfl) (by kernel_rfl))
    clear hv
    clear hc w1
    intro w5 hc5 hn5
    have g7 : (nInts (Ev.slots c s)).f x5_10 w5 := note_at hn5 10 (nInts (Ev.slots c s)).f x5_10 (by kernel_rfl) (by kernel_rfl) (by decide)
    have g8 : (nInts (Ev.slots c s)).f x5_11 w5 := note_at hn5 11 (nInts (Ev.slots c s)).f x5_11 (by kernel_rfl) (by kernel_rfl) (by decide)
    have hll : (Ev.slots c s).length ≤ s.length := List.length_filterMap_le _ _
    have hsl : s.length * 144 ≤ 140737488351232 := HFs.out.1
    clear HSl hn5
    generalize Ev.slots c s = L at *
    obtain ⟨A7, c7, e7, -⟩ := slice_form (bytes := 8) g7
    obtain ⟨A8, c8, e8, -⟩ := slice_form (bytes := 8) g8
    simp only [List.cons.injEq, and_true] at e7 e8
    subst e7 e8
    have HI7 : Hid (∀ w', Chg (fun _ => False) w5 w' → (nInts L).f (.slice A7 L.length c7) w') := fun w' hc => (nInts L).st _ _ _ hc g7
    have HI8 : Hid (∀ w', Chg (fun _ => False) w5 w' → (nInts L).f (.slice A8 L.length c8) w') := fun w' hc => (nInts L).st _ _ _ hc g8
    have H5 : Hid (Chg (fun _ => False) w w5) := ((Chg.refl _ w).alloc _).trans (H4.out.trans hc5 (fun _ _ h => h)) (fun _ _ h => h)
    have b1 : ((L.length : Int) != (L.length : Int)) = false := by simp
    clear g7 g8 hc5 j0
    simp only [Act.put, List.setIfInBounds_toArray, List.set_cons_succ, List.set_cons_zero]
    go_wp2
    go_loopw [9] (fun i wr => ∃ k : Nat, k ≤ L.length ∧ i = .int .i64 k ∧ Chg (fun _ => False) w5 wr) (fun i _ => L.length - (intOf i).toNat)
    case atStart => exact ⟨0, Nat.zero_le _, rfl, Chg.refl _ _⟩
    case round =>
      obtain ⟨wo, rfl⟩ : ∃ wo : World, wo = wr := ⟨_, rfl⟩
      obtain ⟨k, hk, rfl, hc⟩ := hrel
      have H6 := Lib.hid hc
      by_cases hlt : k < L.length
      · have hx : L[k]? = some L[k] := List.getElem?_eq_getElem hlt
        obtain ⟨g, off, cs, rfl, -, hrel, hra⟩ := elem_of (b := 8) _ _ (HI7.out _ hc) hx
        obtain ⟨g2, off2, cs2, rfl, -, hrel2, hra2⟩ := elem_of (b := 8) _ _ (HI8.out _ hc) hx
        generalize L[k] = y at *
        replace hrel : cs = [.int .i64 y] := hrel
        replace hrel2 : cs2 = [.int .i64 y] := hrel2
        subst hrel hrel2
        have q0 := range_one (o := off + k * 1) hra
        have q1 := range_one (o := off2 + k * 1) hra2
        simp only [Nat.mul_one] at q0 q1
        have hne : (y != y) = false := by simp
        clear hra hra2 hx hc b1
        have i1 : (k : Int) < (L.length : Int) := by omega
        go_wp2_with fail
        go_quiet (fail)
        go_wp2
        go_roundw
        case rel => exact ⟨k + 1, by omega, by go_num, H6.out.drewN _⟩
        case measure => simp [intOf]; omega
      · clear hc b1
        go_wp2
        go_ret
        exact ⟨rfl, (H5.out.trans H6.out (fun _ _ h => h)).below⟩
end Go.Proofs.Ytchlolgfahgdeaa.Ewe
