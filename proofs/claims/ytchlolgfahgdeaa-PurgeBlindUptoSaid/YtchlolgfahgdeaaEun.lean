/- The walks of the laws Blind (unseen). Conditions: what comes in reads so. -/
import Derived.Test.YtchlolgfahgdeaaEwc
import Derived.Test.YtchlolgfahgdeaaEpf
import Derived.Test.YtchlolgfahgdeaaEvb
import Derived.Deep.Cut
set_option linter.unusedVariables false
set_option linter.unusedSimpArgs false
namespace Go.Proofs.Ytchlolgfahgdeaa.Eun
open Go.RowKit Go.Proofs.Ytchlolgfahgdeaa.Lib1 Go.Proofs.Ytchlolgfahgdeaa.Rel Go.Proofs.Ytchlolgfahgdeaa.Own Go.Proofs.Ytchlolgfahgdeaa.Ev Go.Proofs.Ytchlolgfahgdeaa.Ek Go.Proofs.Ytchlolgfahgdeaa.Ec Go.Proofs.Ytchlolgfahgdeaa.Em Go.Proofs.Ytchlolgfahgdeaa.En Go.Proofs.Ytchlolgfahgdeaa.Lat Go.Proofs.Ytchlolgfahgdeaa.Lbl Go.Proofs.Ytchlolgfahgdeaa.Lbw Go.Proofs.Ytchlolgfahgdeaa.Lck Go.Proofs.Ytchlolgfahgdeaa.Lmay Go.Proofs.Ytchlolgfahgdeaa.Rgn Go.Proofs.Ytchlolgfahgdeaa.Rgs Go.Proofs.Ytchlolgfahgdeaa.Eaw Go.Proofs.Ytchlolgfahgdeaa.Esq Go.Proofs.Ytchlolgfahgdeaa.Epo Go.Proofs.Ytchlolgfahgdeaa.Ess Go.Proofs.Ytchlolgfahgdeaa.Ead Go.Proofs.Ytchlolgfahgdeaa.Eak Go.Proofs.Ytchlolgfahgdeaa.Ela Go.Proofs.Ytchlolgfahgdeaa.Ewc

theorem d_seen {w : World} {c : Cfg} {V : Value} {a b : Nat} (v : Bool) (hcf : cfgFits c) (h1 : CfgW c V w) (ha : a < c.labels.length) (hb : b < c.labels.length) (hv : Ev.seen c a b = v) : Calls Try.prog 26 #[V, .int .i64 (a : Int), .int .i64 (b : Int)] w fun e w' => ∃ u, e = .returned u ∧ Chg (fun _ => False) w w' ∧ u = .bool v := by
  subst hv
  obtain ⟨A1, A2, A3, n1, n2, n3, c1, c2, c3, rfl, hC⟩ := h1
  exact (seen_any hC (fun k hk => hk) a b (by rw [← hC.l1]; exact ha) (by rw [← hC.l1]; exact hb)).mono fun e w' ⟨he, hc⟩ => ⟨_, he, hc, rfl⟩
set_option maxRecDepth 100000 in
set_option maxHeartbeats 12800000 in
theorem unseen_no {ok : Nat → Prop} {w : World} {A1 A2 A3 : Option Addr} {n1 n2 n3 c1 c2 c3 : Nat} {c : Cfg} (h : CfgAt ok w A1 A2 A3 n1 n2 n3 c1 c2 c3 c) (hok : ∀ k, ok k → k < w.heap.size) (hcf : cfgFits c) (place : Nat) (hpl : place < n1) (x : Ev) {oks : Nat → Prop} {AV AS : Option Addr} {cV cS : Nat} (hr : evK.rel oks w x (evCs x (.slice AV x.req.value.length cV) (.slice AS x.strikes.length cS))) (hoks : ∀ k, oks k → k < w.heap.size) (hm : Ev.may c x = false) :
    Calls Try.prog 28 #[.agg #[.slice A1 n1 c1, .slice A2 n2 c2, .slice A3 n3 c3], .int .i64 (place : Int), .agg #[.int .i64 x.kind, .int .i64 x.session, .int .i64 x.req.kind, .int .i64 x.req.life, .int .i64 x.req.number, .int .i64 x.req.place, .string x.req.key, .string x.req.to, .slice AV x.req.value.length cV, .int .i64 x.req.limit, .int .i64 x.place, .slice AS x.strikes.length cS]] w fun e w' => e = .returned (.bool true) ∧ Chg (fun _ => False) w w' := by
  have HMY := Lib.hid hm
  clear hm
  have hC0 : CfgW c (.agg #[.slice A1 n1 c1, .slice A2 n2 c2, .slice A3 n3 c3]) w := CfgW_of h hok
  have HC : Hid (∀ w', Chg (fun _ => False) w w' → CfgW c (.agg #[.slice A1 n1 c1, .slice A2 n2 c2, .slice A3 n3 c3]) w') := fun w' hc => hC0.up hc
  have hE0 : (nEv x).f (.agg #[.int .i64 x.kind, .int .i64 x.session, .int .i64 x.req.kind, .int .i64 x.req.life, .int .i64 x.req.number, .int .i64 x.req.place, .string x.req.key, .string x.req.to, .slice AV x.req.value.length cV, .int .i64 x.req.limit, .int .i64 x.place, .slice AS x.strikes.length cS]) w := ⟨_, rfl, evK.mono hoks hr⟩
  have HEV : Hid (∀ w', Chg (fun _ => False) ((w.alloc (.cells #[.slice A1 n1 c1, .slice A2 n2 c2, .slice A3 n3 c3] 27)).alloc (.cells (evCs x (.slice AV x.req.value.length cV) (.slice AS x.strikes.length cS)).toArray 37)) w' → (nEv x).f (.agg #[.int .i64 x.kind, .int .i64 x.session, .int .i64 x.req.kind, .int .i64 x.req.life, .int .i64 x.req.number, .int .i64 x.req.place, .string x.req.key, .string x.req.to, .slice AV x.req.value.length cV, .int .i64 x.req.limit, .int .i64 x.place, .slice AS x.strikes.length cS]) w') := fun w' hc => (nEv x).st _ _ _ ((((Chg.refl _ w).alloc _).alloc _).trans hc (fun _ _ h => h)) hE0
  have HBX : Hid (∀ w', Chg (fun _ => False) ((w.alloc (.cells #[.slice A1 n1 c1, .slice A2 n2 c2, .slice A3 n3 c3] 27)).alloc (.cells (evCs x (.slice AV x.req.value.length cV) (.slice AS x.strikes.length cS)).toArray 37)) w' → w'.heap[w.heap.size]? = some (.cells #[.slice A1 n1 c1, .slice A2 n2 c2, .slice A3 n3 c3] 27 (0, 0))) := fun w' hc => hc.at_ (heap_old _ (heap_new w _)) (fun h => h)
  have HBE : Hid (∀ w', Chg (fun _ => False) ((w.alloc (.cells #[.slice A1 n1 c1, .slice A2 n2 c2, .slice A3 n3 c3] 27)).alloc (.cells (evCs x (.slice AV x.req.value.length cV) (.slice AS x.strikes.length cS)).toArray 37)) w' → w'.heap[w.heap.size + 1]? = some (.cells (evCs x (.slice AV x.req.value.length cV) (.slice AS x.strikes.length cS)).toArray 37 (0, 0))) := fun w' hc => hc.at_ (heap_new' _ _ (by simp)) (fun h => h)
  have HL1 := Lib.hid h.l1
  clear h hok hr hoks hC0 hE0
  go_enter Try.func28, Try.ntmps28
  go_wp2_with fail
  refine wp_region_soft (notes [Note.eq (.agg #[.slice A1 n1 c1, .slice A2 n2 c2, .slice A3 n3 c3]), Note.eq (.agg #[.int .i64 x.kind, .int .i64 x.session, .int .i64 x.req.kind, .int .i64 x.req.life, .int .i64 x.req.number, .int .i64 x.req.place, .string x.req.key, .string x.req.to, .slice AV x.req.value.length cV, .int .i64 x.req.limit, .int .i64 x.place, .slice AS x.strikes.length cS]), Note.eq (.bool false), Note.eq (.bool true), Note.eq (.bool true), Note.eq (undef), Note.eq (undef), Note.eq (undef), Note.eq (undef), Note.eq (undef), Note.eq (undef), Note.eq (undef), Note.eq (undef), Note.eq (undef), Note.eq (undef), Note.eq (undef), Note.eq (undef), Note.eq (undef), Note.eq (undef), Note.eq (undef), Note.eq (.bool true), Note.eq (.bool true)]) (by kernel_rfl) (by kernel_rfl) (by kernel_rfl) (notes_st _) ?_
  refine soft_one (some 7) rfl (Note.eq (.agg #[.slice A1 n1 c1, .slice A2 n2 c2, .slice A3 n3 c3])).f (by kernel_rfl) (by kernel_rfl) (fun w1 hc hk => ?_) (fun x1_0 w1 hc hv => ?_)
  · have k0 := cell_at (HBX.out _ hc) 0 rfl; have k1 := cell_at (HBX.out _ hc) 1 rfl; have k2 := cell_at (HBX.out _ hc) 2 rfl; refine soft_at (w1 := w1) (u := .agg #[.slice A1 n1 c1, .slice A2 n2 c2, .slice A3 n3 c3]) (fun ρ => ρ (.tmp 3) = .pointer (some ⟨w.heap.size, 0, none⟩)) (by kernel_rfl) (fun ρ hρ => ?_) (Chg.refl _ _) rfl; go_simp
  obtain rfl : x1_0 = _ := hv
  clear hc w1
  refine soft_one (some 8) rfl (Note.eq (.agg #[.int .i64 x.kind, .int .i64 x.session, .int .i64 x.req.kind, .int .i64 x.req.life, .int .i64 x.req.number, .int .i64 x.req.place, .string x.req.key, .string x.req.to, .slice AV x.req.value.length cV, .int .i64 x.req.limit, .int .i64 x.place, .slice AS x.strikes.length cS])).f (by kernel_rfl) (by kernel_rfl) (fun w1 hc hk => ?_) (fun x1_1 w1 hc hv => ?_)
  · obtain ⟨p0, p1, p2, p3, p4, p5, p6, p7, p8, p9, p10, p11⟩ := cells12 (HBE.out _ hc); refine soft_at (w1 := w1) (u := .agg #[.int .i64 x.kind, .int .i64 x.session, .int .i64 x.req.kind, .int .i64 x.req.life, .int .i64 x.req.number, .int .i64 x.req.place, .string x.req.key, .string x.req.to, .slice AV x.req.value.length cV, .int .i64 x.req.limit, .int .i64 x.place, .slice AS x.strikes.length cS]) (fun ρ => ρ (.tmp 5) = .pointer (some ⟨w.heap.size + 1, 0, none⟩)) (by kernel_rfl) (fun ρ hρ => ?_) (Chg.refl _ _) rfl; go_simp
  obtain rfl : x1_1 = _ := hv
  clear hc w1
  refine soft_one (some 9) rfl (Note.eq (.bool false)).f (by kernel_rfl) (by kernel_rfl) (fun w1 hc hk => ?_) (fun x1_2 w1 hc hv => ?_)
  · exact soft_call (args := #[.agg #[.slice A1 n1 c1, .slice A2 n2 c2, .slice A3 n3 c3], .agg #[.int .i64 x.kind, .int .i64 x.session, .int .i64 x.req.kind, .int .i64 x.req.life, .int .i64 x.req.number, .int .i64 x.req.place, .string x.req.key, .string x.req.to, .slice AV x.req.value.length cV, .int .i64 x.req.limit, .int .i64 x.place, .slice AS x.strikes.length cS]]) Try.func17 (by kernel_rfl) (by kernel_rfl) rfl (by kernel_rfl) (d_rmay false hcf (HC.out _ ((((Chg.refl _ w).alloc _).alloc _).trans hc (fun _ _ h => h))) (HEV.out _ hc) HMY.out)
  obtain rfl : x1_2 = _ := hv
  clear hc w1
  refine soft_one (some 10) rfl (Note.eq (.bool true)).f (by kernel_rfl) (by kernel_rfl) (fun w1 hc hk => ?_) (fun x1_3 w1 hc hv => ?_)
  · refine soft_at (w1 := w1) (u := .bool true) (fun ρ => (∀ v, ρ (.const v) = v) ∧ ρ (.tmp 9) = .bool false) ⟨fun v => rfl, by kernel_rfl⟩ (fun ρ hρ => ?_) (Chg.refl _ _) rfl; (obtain ⟨g0, g1⟩ := hρ; go_simp)
  obtain rfl : x1_3 = _ := hv
  clear hc w1
  refine soft_one (some 11) rfl (Note.eq (.bool true)).f (by kernel_rfl) (by kernel_rfl) (fun w1 hc hk => ?_) (fun x1_4 w1 hc hv => ?_)
  · exact soft_move (.tmp 10) rfl (.bool true) (by kernel_rfl) rfl
  obtain rfl : x1_4 = _ := hv
  clear hc w1
  refine soft_skip (some 12) rfl (by kernel_rfl) (by kernel_rfl) ?_
  refine soft_skip (some 13) rfl (by kernel_rfl) (by kernel_rfl) ?_
  refine soft_skip (some 14) rfl (by kernel_rfl) (by kernel_rfl) ?_
  refine soft_skip (some 15) rfl (by kernel_rfl) (by kernel_rfl) ?_
  refine soft_skip (some 16) rfl (by kernel_rfl) (by kernel_rfl) ?_
  refine soft_skip (some 17) rfl (by kernel_rfl) (by kernel_rfl) ?_
  refine soft_skip (some 18) rfl (by kernel_rfl) (by kernel_rfl) ?_
  refine soft_skip (some 19) rfl (by kernel_rfl) (by kernel_rfl) ?_
  refine soft_skip (some 20) rfl (by kernel_rfl) (by kernel_rfl) ?_
  refine soft_skip (some 21) rfl (by kernel_rfl) (by kernel_rfl) ?_
  refine soft_skip (some 22) rfl (by kernel_rfl) (by kernel_rfl) ?_
  refine soft_skip (some 23) rfl (by kernel_rfl) (by kernel_rfl) ?_
  refine soft_skip (some 24) rfl (by kernel_rfl) (by kernel_rfl) ?_
  refine soft_skip (some 25) rfl (by kernel_rfl) (by kernel_rfl) ?_
  refine soft_skip (some 26) rfl (by kernel_rfl) (by kernel_rfl) ?_
  refine soft_one (some 27) rfl (Note.eq (.bool true)).f (by kernel_rfl) (by kernel_rfl) (fun w1 hc hk => ?_) (fun x1_20 w1 hc hv => ?_)
  · refine soft_at (w1 := w1) (u := .bool true) (fun ρ => (∀ v, ρ (.const v) = v) ∧ ρ (.tmp 11) = .bool true ∧ ρ (.tmp 26) = undef) ⟨fun v => rfl, by kernel_rfl, by kernel_rfl⟩ (fun ρ hρ => ?_) (Chg.refl _ _) rfl; (obtain ⟨g0, g1, g2⟩ := hρ; go_simp)
  obtain rfl : x1_20 = _ := hv
  clear hc w1
  refine soft_one (some 6) rfl (Note.eq (.bool true)).f (by kernel_rfl) (by kernel_rfl) (fun w1 hc hk => ?_) (fun x1_21 w1 hc hv => ?_)
  · exact soft_assign (.tmp 27) rfl (.bool true) (by kernel_rfl) rfl
  obtain rfl : x1_21 = _ := hv
  clear hc w1
  refine soft_end (fun b => b.tmps.getD 6 undef = .bool true ∧ b.defers = []) ⟨by kernel_rfl, by kernel_rfl⟩ (fun b hb w6 hc6 => ?_)
  obtain ⟨hb0, hbd⟩ := hb
  have HC6 : Hid (Chg (fun _ => False) w w6) := (((Chg.refl _ w).alloc _).alloc _).trans hc6 (fun _ _ h => h)
  clear hc6
  go_wp2
  exact bodyPost_ret (v := .bool true) (by simp [results, Try.results28, go_sem, show b.tmps[6]?.getD undef = .bool true by rw [← Array.getD_eq_getD_getElem?]; exact hb0]) hbd ⟨rfl, HC6.out⟩
set_option maxRecDepth 100000 in
set_option maxHeartbeats 12800000 in
theorem unseen_other {ok : Nat → Prop} {w : World} {A1 A2 A3 : Option Addr} {n1 n2 n3 c1 c2 c3 : Nat} {c : Cfg} (h : CfgAt ok w A1 A2 A3 n1 n2 n3 c1 c2 c3 c) (hok : ∀ k, ok k → k < w.heap.size) (hcf : cfgFits c) (place : Nat) (hpl : place < n1) (x : Ev) {oks : Nat → Prop} {AV AS : Option Addr} {cV cS : Nat} (hr : evK.rel oks w x (evCs x (.slice AV x.req.value.length cV) (.slice AS x.strikes.length cS))) (hoks : ∀ k, oks k → k < w.heap.size) (hm : Ev.may c x = true) (hk : ¬ x.kind = 1) :
    Calls Try.prog 28 #[.agg #[.slice A1 n1 c1, .slice A2 n2 c2, .slice A3 n3 c3], .int .i64 (place : Int), .agg #[.int .i64 x.kind, .int .i64 x.session, .int .i64 x.req.kind, .int .i64 x.req.life, .int .i64 x.req.number, .int .i64 x.req.place, .string x.req.key, .string x.req.to, .slice AV x.req.value.length cV, .int .i64 x.req.limit, .int .i64 x.place, .slice AS x.strikes.length cS]] w fun e w' => e = .returned (.bool false) ∧ Chg (fun _ => False) w w' := by
  have HMY := Lib.hid hm
  have e1 : (x.kind == 1) = false := by simpa using hk
  clear hm hk
  have hC0 : CfgW c (.agg #[.slice A1 n1 c1, .slice A2 n2 c2, .slice A3 n3 c3]) w := CfgW_of h hok
  have HC : Hid (∀ w', Chg (fun _ => False) w w' → CfgW c (.agg #[.slice A1 n1 c1, .slice A2 n2 c2, .slice A3 n3 c3]) w') := fun w' hc => hC0.up hc
  have hE0 : (nEv x).f (.agg #[.int .i64 x.kind, .int .i64 x.session, .int .i64 x.req.kind, .int .i64 x.req.life, .int .i64 x.req.number, .int .i64 x.req.place, .string x.req.key, .string x.req.to, .slice AV x.req.value.length cV, .int .i64 x.req.limit, .int .i64 x.place, .slice AS x.strikes.length cS]) w := ⟨_, rfl, evK.mono hoks hr⟩
  have HEV : Hid (∀ w', Chg (fun _ => False) ((w.alloc (.cells #[.slice A1 n1 c1, .slice A2 n2 c2, .slice A3 n3 c3] 27)).alloc (.cells (evCs x (.slice AV x.req.value.length cV) (.slice AS x.strikes.length cS)).toArray 37)) w' → (nEv x).f (.agg #[.int .i64 x.kind, .int .i64 x.session, .int .i64 x.req.kind, .int .i64 x.req.life, .int .i64 x.req.number, .int .i64 x.req.place, .string x.req.key, .string x.req.to, .slice AV x.req.value.length cV, .int .i64 x.req.limit, .int .i64 x.place, .slice AS x.strikes.length cS]) w') := fun w' hc => (nEv x).st _ _ _ ((((Chg.refl _ w).alloc _).alloc _).trans hc (fun _ _ h => h)) hE0
  have HBX : Hid (∀ w', Chg (fun _ => False) ((w.alloc (.cells #[.slice A1 n1 c1, .slice A2 n2 c2, .slice A3 n3 c3] 27)).alloc (.cells (evCs x (.slice AV x.req.value.length cV) (.slice AS x.strikes.length cS)).toArray 37)) w' → w'.heap[w.heap.size]? = some (.cells #[.slice A1 n1 c1, .slice A2 n2 c2, .slice A3 n3 c3] 27 (0, 0))) := fun w' hc => hc.at_ (heap_old _ (heap_new w _)) (fun h => h)
  have HBE : Hid (∀ w', Chg (fun _ => False) ((w.alloc (.cells #[.slice A1 n1 c1, .slice A2 n2 c2, .slice A3 n3 c3] 27)).alloc (.cells (evCs x (.slice AV x.req.value.length cV) (.slice AS x.strikes.length cS)).toArray 37)) w' → w'.heap[w.heap.size + 1]? = some (.cells (evCs x (.slice AV x.req.value.length cV) (.slice AS x.strikes.length cS)).toArray 37 (0, 0))) := fun w' hc => hc.at_ (heap_new' _ _ (by simp)) (fun h => h)
  have HL1 := Lib.hid h.l1
  clear h hok hr hoks hC0 hE0
  go_enter Try.func28, Try.ntmps28
  go_wp2_with fail
  refine wp_region_soft (notes [Note.eq (.agg #[.slice A1 n1 c1, .slice A2 n2 c2, .slice A3 n3 c3]), Note.eq (.agg #[.int .i64 x.kind, .int .i64 x.session, .int .i64 x.req.kind, .int .i64 x.req.life, .int .i64 x.req.number, .int .i64 x.req.place, .string x.req.key, .string x.req.to, .slice AV x.req.value.length cV, .int .i64 x.req.limit, .int .i64 x.place, .slice AS x.strikes.length cS]), Note.eq (.bool true), Note.eq (.bool false), Note.eq (.bool false), Note.eq (.pointer (some ⟨w.heap.size + 1, 0, none⟩)), Note.eq (.int .i64 x.kind), Note.eq (.bool false), Note.eq (.bool false), Note.eq (undef), Note.eq (undef), Note.eq (undef), Note.eq (undef), Note.eq (undef), Note.eq (undef), Note.eq (undef), Note.eq (undef), Note.eq (undef), Note.eq (undef), Note.eq (.bool false), Note.eq (.bool false), Note.eq (.bool false)]) (by kernel_rfl) (by kernel_rfl) (by kernel_rfl) (notes_st _) ?_
  refine soft_one (some 7) rfl (Note.eq (.agg #[.slice A1 n1 c1, .slice A2 n2 c2, .slice A3 n3 c3])).f (by kernel_rfl) (by kernel_rfl) (fun w1 hc hk => ?_) (fun x1_0 w1 hc hv => ?_)
  · have k0 := cell_at (HBX.out _ hc) 0 rfl; have k1 := cell_at (HBX.out _ hc) 1 rfl; have k2 := cell_at (HBX.out _ hc) 2 rfl; refine soft_at (w1 := w1) (u := .agg #[.slice A1 n1 c1, .slice A2 n2 c2, .slice A3 n3 c3]) (fun ρ => ρ (.tmp 3) = .pointer (some ⟨w.heap.size, 0, none⟩)) (by kernel_rfl) (fun ρ hρ => ?_) (Chg.refl _ _) rfl; go_simp
  obtain rfl : x1_0 = _ := hv
  clear hc w1
  refine soft_one (some 8) rfl (Note.eq (.agg #[.int .i64 x.kind, .int .i64 x.session, .int .i64 x.req.kind, .int .i64 x.req.life, .int .i64 x.req.number, .int .i64 x.req.place, .string x.req.key, .string x.req.to, .slice AV x.req.value.length cV, .int .i64 x.req.limit, .int .i64 x.place, .slice AS x.strikes.length cS])).f (by kernel_rfl) (by kernel_rfl) (fun w1 hc hk => ?_) (fun x1_1 w1 hc hv => ?_)
  · obtain ⟨p0, p1, p2, p3, p4, p5, p6, p7, p8, p9, p10, p11⟩ := cells12 (HBE.out _ hc); refine soft_at (w1 := w1) (u := .agg #[.int .i64 x.kind, .int .i64 x.session, .int .i64 x.req.kind, .int .i64 x.req.life, .int .i64 x.req.number, .int .i64 x.req.place, .string x.req.key, .string x.req.to, .slice AV x.req.value.length cV, .int .i64 x.req.limit, .int .i64 x.place, .slice AS x.strikes.length cS]) (fun ρ => ρ (.tmp 5) = .pointer (some ⟨w.heap.size + 1, 0, none⟩)) (by kernel_rfl) (fun ρ hρ => ?_) (Chg.refl _ _) rfl; go_simp
  obtain rfl : x1_1 = _ := hv
  clear hc w1
  refine soft_one (some 9) rfl (Note.eq (.bool true)).f (by kernel_rfl) (by kernel_rfl) (fun w1 hc hk => ?_) (fun x1_2 w1 hc hv => ?_)
  · exact soft_call (args := #[.agg #[.slice A1 n1 c1, .slice A2 n2 c2, .slice A3 n3 c3], .agg #[.int .i64 x.kind, .int .i64 x.session, .int .i64 x.req.kind, .int .i64 x.req.life, .int .i64 x.req.number, .int .i64 x.req.place, .string x.req.key, .string x.req.to, .slice AV x.req.value.length cV, .int .i64 x.req.limit, .int .i64 x.place, .slice AS x.strikes.length cS]]) Try.func17 (by kernel_rfl) (by kernel_rfl) rfl (by kernel_rfl) (d_rmay true hcf (HC.out _ ((((Chg.refl _ w).alloc _).alloc _).trans hc (fun _ _ h => h))) (HEV.out _ hc) HMY.out)
  obtain rfl : x1_2 = _ := hv
  clear hc w1
  refine soft_one (some 10) rfl (Note.eq (.bool false)).f (by kernel_rfl) (by kernel_rfl) (fun w1 hc hk => ?_) (fun x1_3 w1 hc hv => ?_)
  · refine soft_at (w1 := w1) (u := .bool false) (fun ρ => (∀ v, ρ (.const v) = v) ∧ ρ (.tmp 9) = .bool true) ⟨fun v => rfl, by kernel_rfl⟩ (fun ρ hρ => ?_) (Chg.refl _ _) rfl; (obtain ⟨g0, g1⟩ := hρ; go_simp)
  obtain rfl : x1_3 = _ := hv
  clear hc w1
  refine soft_one (some 11) rfl (Note.eq (.bool false)).f (by kernel_rfl) (by kernel_rfl) (fun w1 hc hk => ?_) (fun x1_4 w1 hc hv => ?_)
  · exact soft_move (.tmp 10) rfl (.bool false) (by kernel_rfl) rfl
  obtain rfl : x1_4 = _ := hv
  clear hc w1
  refine soft_one (some 12) rfl (Note.eq (.pointer (some ⟨w.heap.size + 1, 0, none⟩))).f (by kernel_rfl) (by kernel_rfl) (fun w1 hc hk => ?_) (fun x1_5 w1 hc hv => ?_)
  · refine soft_at (w1 := w1) (u := .pointer (some ⟨w.heap.size + 1, 0, none⟩)) (fun ρ => (∀ v, ρ (.const v) = v) ∧ ρ (.tmp 5) = .pointer (some ⟨w.heap.size + 1, 0, none⟩)) ⟨fun v => rfl, by kernel_rfl⟩ (fun ρ hρ => ?_) (Chg.refl _ _) rfl; (obtain ⟨g0, g1⟩ := hρ; go_simp)
  obtain rfl : x1_5 = _ := hv
  clear hc w1
  refine soft_one (some 13) rfl (Note.eq (.int .i64 x.kind)).f (by kernel_rfl) (by kernel_rfl) (fun w1 hc hk => ?_) (fun x1_6 w1 hc hv => ?_)
  · obtain ⟨p0, p1, p2, p3, p4, p5, p6, p7, p8, p9, p10, p11⟩ := cells12 (HBE.out _ hc); refine soft_at (w1 := w1) (u := .int .i64 x.kind) (fun ρ => ρ (.tmp 12) = .pointer (some ⟨w.heap.size + 1, 0, none⟩)) (by kernel_rfl) (fun ρ hρ => ?_) (Chg.refl _ _) rfl; go_simp
  obtain rfl : x1_6 = _ := hv
  clear hc w1
  refine soft_one (some 14) rfl (Note.eq (.bool false)).f (by kernel_rfl) (by kernel_rfl) (fun w1 hc hk => ?_) (fun x1_7 w1 hc hv => ?_)
  · refine soft_at (w1 := w1) (u := .bool false) (fun ρ => (∀ v, ρ (.const v) = v) ∧ ρ (.tmp 13) = .int .i64 x.kind) ⟨fun v => rfl, by kernel_rfl⟩ (fun ρ hρ => ?_) (Chg.refl _ _) rfl; (obtain ⟨g0, g1⟩ := hρ; go_simp)
  obtain rfl : x1_7 = _ := hv
  clear hc w1
  refine soft_one (some 15) rfl (Note.eq (.bool false)).f (by kernel_rfl) (by kernel_rfl) (fun w1 hc hk => ?_) (fun x1_8 w1 hc hv => ?_)
  · exact soft_move (.tmp 14) rfl (.bool false) (by kernel_rfl) rfl
  obtain rfl : x1_8 = _ := hv
  clear hc w1
  refine soft_skip (some 16) rfl (by kernel_rfl) (by kernel_rfl) ?_
  refine soft_skip (some 17) rfl (by kernel_rfl) (by kernel_rfl) ?_
  refine soft_skip (some 18) rfl (by kernel_rfl) (by kernel_rfl) ?_
  refine soft_skip (some 19) rfl (by kernel_rfl) (by kernel_rfl) ?_
  refine soft_skip (some 20) rfl (by kernel_rfl) (by kernel_rfl) ?_
  refine soft_skip (some 21) rfl (by kernel_rfl) (by kernel_rfl) ?_
  refine soft_skip (some 22) rfl (by kernel_rfl) (by kernel_rfl) ?_
  refine soft_skip (some 23) rfl (by kernel_rfl) (by kernel_rfl) ?_
  refine soft_skip (some 24) rfl (by kernel_rfl) (by kernel_rfl) ?_
  refine soft_skip (some 25) rfl (by kernel_rfl) (by kernel_rfl) ?_
  refine soft_one (some 26) rfl (Note.eq (.bool false)).f (by kernel_rfl) (by kernel_rfl) (fun w1 hc hk => ?_) (fun x1_19 w1 hc hv => ?_)
  · refine soft_at (w1 := w1) (u := .bool false) (fun ρ => (∀ v, ρ (.const v) = v) ∧ ρ (.tmp 15) = .bool false ∧ ρ (.tmp 25) = undef) ⟨fun v => rfl, by kernel_rfl, by kernel_rfl⟩ (fun ρ hρ => ?_) (Chg.refl _ _) rfl; (obtain ⟨g0, g1, g2⟩ := hρ; go_simp)
  obtain rfl : x1_19 = _ := hv
  clear hc w1
  refine soft_one (some 27) rfl (Note.eq (.bool false)).f (by kernel_rfl) (by kernel_rfl) (fun w1 hc hk => ?_) (fun x1_20 w1 hc hv => ?_)
  · refine soft_at (w1 := w1) (u := .bool false) (fun ρ => (∀ v, ρ (.const v) = v) ∧ ρ (.tmp 11) = .bool false ∧ ρ (.tmp 26) = .bool false) ⟨fun v => rfl, by kernel_rfl, by kernel_rfl⟩ (fun ρ hρ => ?_) (Chg.refl _ _) rfl; (obtain ⟨g0, g1, g2⟩ := hρ; go_simp)
  obtain rfl : x1_20 = _ := hv
  clear hc w1
  refine soft_one (some 6) rfl (Note.eq (.bool false)).f (by kernel_rfl) (by kernel_rfl) (fun w1 hc hk => ?_) (fun x1_21 w1 hc hv => ?_)
  · exact soft_assign (.tmp 27) rfl (.bool false) (by kernel_rfl) rfl
  obtain rfl : x1_21 = _ := hv
  clear hc w1
  refine soft_end (fun b => b.tmps.getD 6 undef = .bool false ∧ b.defers = []) ⟨by kernel_rfl, by kernel_rfl⟩ (fun b hb w6 hc6 => ?_)
  obtain ⟨hb0, hbd⟩ := hb
  have HC6 : Hid (Chg (fun _ => False) w w6) := (((Chg.refl _ w).alloc _).alloc _).trans hc6 (fun _ _ h => h)
  clear hc6
  go_wp2
  exact bodyPost_ret (v := .bool false) (by simp [results, Try.results28, go_sem, show b.tmps[6]?.getD undef = .bool false by rw [← Array.getD_eq_getD_getElem?]; exact hb0]) hbd ⟨rfl, HC6.out⟩
set_option maxRecDepth 100000 in
set_option maxHeartbeats 12800000 in
theorem unseen_ask1 {ok : Nat → Prop} {w : World} {A1 A2 A3 : Option Addr} {n1 n2 n3 c1 c2 c3 : Nat} {c : Cfg} (h : CfgAt ok w A1 A2 A3 n1 n2 n3 c1 c2 c3 c) (hok : ∀ k, ok k → k < w.heap.size) (hcf : cfgFits c) (place : Nat) (hpl : place < n1) (x : Ev) {oks : Nat → Prop} {AV AS : Option Addr} {cV cS : Nat} (hr : evK.rel oks w x (evCs x (.slice AV x.req.value.length cV) (.slice AS x.strikes.length cS))) (hoks : ∀ k, oks k → k < w.heap.size) (hm : Ev.may c x = true) (hk : x.kind = 1) (hsb : Ev.seen c place (c.sessions.getD x.session.toNat 0).toNat = true) :
    Calls Try.prog 28 #[.agg #[.slice A1 n1 c1, .slice A2 n2 c2, .slice A3 n3 c3], .int .i64 (place : Int), .agg #[.int .i64 x.kind, .int .i64 x.session, .int .i64 x.req.kind, .int .i64 x.req.life, .int .i64 x.req.number, .int .i64 x.req.place, .string x.req.key, .string x.req.to, .slice AV x.req.value.length cV, .int .i64 x.req.limit, .int .i64 x.place, .slice AS x.strikes.length cS]] w fun e w' => e = .returned (.bool false) ∧ Chg (fun _ => False) w w' := by
  have HMY := Lib.hid hm
  have e1 : (x.kind == 1) = true := by simpa using hk
  have hmc := may_mayB hm
  have hse : 0 ≤ x.session ∧ x.session < (c.sessions.length : Int) := by
    unfold Ev.may at hm
    simp only [Bool.and_eq_true] at hm
    have h2 := hm.2
    rw [if_pos hk] at h2
    simp only [Bool.and_eq_true, decide_eq_true_eq] at h2
    exact h2
  obtain ⟨sn, hsn⟩ := Int.eq_ofNat_of_zero_le hse.1
  have hsl : sn < c.sessions.length := by omega
  obtain ⟨bn, hbn, hbl⟩ := Epf.may_ses_bd hmc hsl
  obtain ⟨g3, o3, rfl, hg3, hcell⟩ := rd_is h.r3 (by have := h.l3; omega)
  have hc9 := hcell sn (by have := h.l3; omega)
  rw [hbn] at hc9
  have hgl := hok g3 hg3
  have HSE : Hid (∀ w', Chg (fun _ => False) ((w.alloc (.cells #[.slice A1 n1 c1, .slice A2 n2 c2, .slice (some ⟨g3, o3, none⟩) n3 c3] 27)).alloc (.cells (evCs x (.slice AV x.req.value.length cV) (.slice AS x.strikes.length cS)).toArray 37)) w' → w'.cell? ⟨g3, o3 + sn, none⟩ = some (.int .i64 (bn : Int))) := fun w' hc => (World.cell?_of_block ((show Chg (fun _ => False) w w' from (((Chg.refl _ w).alloc _).alloc _).trans hc (fun _ _ h => h)).block g3 hgl (fun h => h)) (a := ⟨g3, o3 + sn, none⟩)).trans hc9
  have HSN := Lib.hid hsn
  have HBN := Lib.hid hbl
  have hsb' : Ev.seen c place bn = true := by
    have : (c.sessions.getD x.session.toNat 0).toNat = bn := by rw [show x.session.toNat = sn by omega, hbn]; simp
    rw [← this]; exact hsb
  have HSB := Lib.hid hsb'
  have hl3 := h.l3
  have i3 : (sn : Int) < (n3 : Int) := by omega
  clear hm hk hmc hse hsn hsl hbn hbl hg3 hcell hc9 hgl hsb hsb' hl3
  have hC0 : CfgW c (.agg #[.slice A1 n1 c1, .slice A2 n2 c2, .slice (some ⟨g3, o3, none⟩) n3 c3]) w := CfgW_of h hok
  have HC : Hid (∀ w', Chg (fun _ => False) w w' → CfgW c (.agg #[.slice A1 n1 c1, .slice A2 n2 c2, .slice (some ⟨g3, o3, none⟩) n3 c3]) w') := fun w' hc => hC0.up hc
  have hE0 : (nEv x).f (.agg #[.int .i64 x.kind, .int .i64 x.session, .int .i64 x.req.kind, .int .i64 x.req.life, .int .i64 x.req.number, .int .i64 x.req.place, .string x.req.key, .string x.req.to, .slice AV x.req.value.length cV, .int .i64 x.req.limit, .int .i64 x.place, .slice AS x.strikes.length cS]) w := ⟨_, rfl, evK.mono hoks hr⟩
  have HEV : Hid (∀ w', Chg (fun _ => False) ((w.alloc (.cells #[.slice A1 n1 c1, .slice A2 n2 c2, .slice (some ⟨g3, o3, none⟩) n3 c3] 27)).alloc (.cells (evCs x (.slice AV x.req.value.length cV) (.slice AS x.strikes.length cS)).toArray 37)) w' → (nEv x).f (.agg #[.int .i64 x.kind, .int .i64 x.session, .int .i64 x.req.kind, .int .i64 x.req.life, .int .i64 x.req.number, .int .i64 x.req.place, .string x.req.key, .string x.req.to, .slice AV x.req.value.length cV, .int .i64 x.req.limit, .int .i64 x.place, .slice AS x.strikes.length cS]) w') := fun w' hc => (nEv x).st _ _ _ ((((Chg.refl _ w).alloc _).alloc _).trans hc (fun _ _ h => h)) hE0
  have HBX : Hid (∀ w', Chg (fun _ => False) ((w.alloc (.cells #[.slice A1 n1 c1, .slice A2 n2 c2, .slice (some ⟨g3, o3, none⟩) n3 c3] 27)).alloc (.cells (evCs x (.slice AV x.req.value.length cV) (.slice AS x.strikes.length cS)).toArray 37)) w' → w'.heap[w.heap.size]? = some (.cells #[.slice A1 n1 c1, .slice A2 n2 c2, .slice (some ⟨g3, o3, none⟩) n3 c3] 27 (0, 0))) := fun w' hc => hc.at_ (heap_old _ (heap_new w _)) (fun h => h)
  have HBE : Hid (∀ w', Chg (fun _ => False) ((w.alloc (.cells #[.slice A1 n1 c1, .slice A2 n2 c2, .slice (some ⟨g3, o3, none⟩) n3 c3] 27)).alloc (.cells (evCs x (.slice AV x.req.value.length cV) (.slice AS x.strikes.length cS)).toArray 37)) w' → w'.heap[w.heap.size + 1]? = some (.cells (evCs x (.slice AV x.req.value.length cV) (.slice AS x.strikes.length cS)).toArray 37 (0, 0))) := fun w' hc => hc.at_ (heap_new' _ _ (by simp)) (fun h => h)
  have HL1 := Lib.hid h.l1
  clear h hok hr hoks hC0 hE0
  go_enter Try.func28, Try.ntmps28
  go_wp2_with fail
  refine wp_region_soft (notes [Note.eq (.agg #[.slice A1 n1 c1, .slice A2 n2 c2, .slice (some ⟨g3, o3, none⟩) n3 c3]), Note.eq (.agg #[.int .i64 x.kind, .int .i64 x.session, .int .i64 x.req.kind, .int .i64 x.req.life, .int .i64 x.req.number, .int .i64 x.req.place, .string x.req.key, .string x.req.to, .slice AV x.req.value.length cV, .int .i64 x.req.limit, .int .i64 x.place, .slice AS x.strikes.length cS]), Note.eq (.bool true), Note.eq (.bool false), Note.eq (.bool false), Note.eq (.pointer (some ⟨w.heap.size + 1, 0, none⟩)), Note.eq (.int .i64 x.kind), Note.eq (.bool true), Note.eq (.bool true), Note.eq (.agg #[.slice A1 n1 c1, .slice A2 n2 c2, .slice (some ⟨g3, o3, none⟩) n3 c3]), Note.eq (.int .i64 (place : Int)), Note.eq (.pointer (some ⟨w.heap.size, 2, none⟩)), Note.eq (.slice (some ⟨g3, o3, none⟩) n3 c3), Note.eq (.pointer (some ⟨w.heap.size + 1, 1, none⟩)), Note.eq (.int .i64 (sn : Int)), Note.eq (.pointer (some ⟨g3, o3 + sn, none⟩)), Note.eq (.int .i64 (bn : Int)), Note.eq (.bool true), Note.eq (.bool false), Note.eq (.bool false), Note.eq (.bool false), Note.eq (.bool false)]) (by kernel_rfl) (by kernel_rfl) (by kernel_rfl) (notes_st _) ?_
  refine soft_one (some 7) rfl (Note.eq (.agg #[.slice A1 n1 c1, .slice A2 n2 c2, .slice (some ⟨g3, o3, none⟩) n3 c3])).f (by kernel_rfl) (by kernel_rfl) (fun w1 hc hk => ?_) (fun x1_0 w1 hc hv => ?_)
  · have k0 := cell_at (HBX.out _ hc) 0 rfl; have k1 := cell_at (HBX.out _ hc) 1 rfl; have k2 := cell_at (HBX.out _ hc) 2 rfl; refine soft_at (w1 := w1) (u := .agg #[.slice A1 n1 c1, .slice A2 n2 c2, .slice (some ⟨g3, o3, none⟩) n3 c3]) (fun ρ => ρ (.tmp 3) = .pointer (some ⟨w.heap.size, 0, none⟩)) (by kernel_rfl) (fun ρ hρ => ?_) (Chg.refl _ _) rfl; go_simp
  obtain rfl : x1_0 = _ := hv
  clear hc w1
  refine soft_one (some 8) rfl (Note.eq (.agg #[.int .i64 x.kind, .int .i64 x.session, .int .i64 x.req.kind, .int .i64 x.req.life, .int .i64 x.req.number, .int .i64 x.req.place, .string x.req.key, .string x.req.to, .slice AV x.req.value.length cV, .int .i64 x.req.limit, .int .i64 x.place, .slice AS x.strikes.length cS])).f (by kernel_rfl) (by kernel_rfl) (fun w1 hc hk => ?_) (fun x1_1 w1 hc hv => ?_)
  · obtain ⟨p0, p1, p2, p3, p4, p5, p6, p7, p8, p9, p10, p11⟩ := cells12 (HBE.out _ hc); refine soft_at (w1 := w1) (u := .agg #[.int .i64 x.kind, .int .i64 x.session, .int .i64 x.req.kind, .int .i64 x.req.life, .int .i64 x.req.number, .int .i64 x.req.place, .string x.req.key, .string x.req.to, .slice AV x.req.value.length cV, .int .i64 x.req.limit, .int .i64 x.place, .slice AS x.strikes.length cS]) (fun ρ => ρ (.tmp 5) = .pointer (some ⟨w.heap.size + 1, 0, none⟩)) (by kernel_rfl) (fun ρ hρ => ?_) (Chg.refl _ _) rfl; go_simp
  obtain rfl : x1_1 = _ := hv
  clear hc w1
  refine soft_one (some 9) rfl (Note.eq (.bool true)).f (by kernel_rfl) (by kernel_rfl) (fun w1 hc hk => ?_) (fun x1_2 w1 hc hv => ?_)
  · exact soft_call (args := #[.agg #[.slice A1 n1 c1, .slice A2 n2 c2, .slice (some ⟨g3, o3, none⟩) n3 c3], .agg #[.int .i64 x.kind, .int .i64 x.session, .int .i64 x.req.kind, .int .i64 x.req.life, .int .i64 x.req.number, .int .i64 x.req.place, .string x.req.key, .string x.req.to, .slice AV x.req.value.length cV, .int .i64 x.req.limit, .int .i64 x.place, .slice AS x.strikes.length cS]]) Try.func17 (by kernel_rfl) (by kernel_rfl) rfl (by kernel_rfl) (d_rmay true hcf (HC.out _ ((((Chg.refl _ w).alloc _).alloc _).trans hc (fun _ _ h => h))) (HEV.out _ hc) HMY.out)
  obtain rfl : x1_2 = _ := hv
  clear hc w1
  refine soft_one (some 10) rfl (Note.eq (.bool false)).f (by kernel_rfl) (by kernel_rfl) (fun w1 hc hk => ?_) (fun x1_3 w1 hc hv => ?_)
  · refine soft_at (w1 := w1) (u := .bool false) (fun ρ => (∀ v, ρ (.const v) = v) ∧ ρ (.tmp 9) = .bool true) ⟨fun v => rfl, by kernel_rfl⟩ (fun ρ hρ => ?_) (Chg.refl _ _) rfl; (obtain ⟨g0, g1⟩ := hρ; go_simp)
  obtain rfl : x1_3 = _ := hv
  clear hc w1
  refine soft_one (some 11) rfl (Note.eq (.bool false)).f (by kernel_rfl) (by kernel_rfl) (fun w1 hc hk => ?_) (fun x1_4 w1 hc hv => ?_)
  · exact soft_move (.tmp 10) rfl (.bool false) (by kernel_rfl) rfl
  obtain rfl : x1_4 = _ := hv
  clear hc w1
  refine soft_one (some 12) rfl (Note.eq (.pointer (some ⟨w.heap.size + 1, 0, none⟩))).f (by kernel_rfl) (by kernel_rfl) (fun w1 hc hk => ?_) (fun x1_5 w1 hc hv => ?_)
  · refine soft_at (w1 := w1) (u := .pointer (some ⟨w.heap.size + 1, 0, none⟩)) (fun ρ => (∀ v, ρ (.const v) = v) ∧ ρ (.tmp 5) = .pointer (some ⟨w.heap.size + 1, 0, none⟩)) ⟨fun v => rfl, by kernel_rfl⟩ (fun ρ hρ => ?_) (Chg.refl _ _) rfl; (obtain ⟨g0, g1⟩ := hρ; go_simp)
  obtain rfl : x1_5 = _ := hv
  clear hc w1
  refine soft_one (some 13) rfl (Note.eq (.int .i64 x.kind)).f (by kernel_rfl) (by kernel_rfl) (fun w1 hc hk => ?_) (fun x1_6 w1 hc hv => ?_)
  · obtain ⟨p0, p1, p2, p3, p4, p5, p6, p7, p8, p9, p10, p11⟩ := cells12 (HBE.out _ hc); refine soft_at (w1 := w1) (u := .int .i64 x.kind) (fun ρ => ρ (.tmp 12) = .pointer (some ⟨w.heap.size + 1, 0, none⟩)) (by kernel_rfl) (fun ρ hρ => ?_) (Chg.refl _ _) rfl; go_simp
  obtain rfl : x1_6 = _ := hv
  clear hc w1
  refine soft_one (some 14) rfl (Note.eq (.bool true)).f (by kernel_rfl) (by kernel_rfl) (fun w1 hc hk => ?_) (fun x1_7 w1 hc hv => ?_)
  · refine soft_at (w1 := w1) (u := .bool true) (fun ρ => (∀ v, ρ (.const v) = v) ∧ ρ (.tmp 13) = .int .i64 x.kind) ⟨fun v => rfl, by kernel_rfl⟩ (fun ρ hρ => ?_) (Chg.refl _ _) rfl; (obtain ⟨g0, g1⟩ := hρ; go_simp)
  obtain rfl : x1_7 = _ := hv
  clear hc w1
  refine soft_one (some 15) rfl (Note.eq (.bool true)).f (by kernel_rfl) (by kernel_rfl) (fun w1 hc hk => ?_) (fun x1_8 w1 hc hv => ?_)
  · exact soft_move (.tmp 14) rfl (.bool true) (by kernel_rfl) rfl
  obtain rfl : x1_8 = _ := hv
  clear hc w1
  refine soft_one (some 16) rfl (Note.eq (.agg #[.slice A1 n1 c1, .slice A2 n2 c2, .slice (some ⟨g3, o3, none⟩) n3 c3])).f (by kernel_rfl) (by kernel_rfl) (fun w1 hc hk => ?_) (fun x1_9 w1 hc hv => ?_)
  · have k0 := cell_at (HBX.out _ hc) 0 rfl; have k1 := cell_at (HBX.out _ hc) 1 rfl; have k2 := cell_at (HBX.out _ hc) 2 rfl; refine soft_at (w1 := w1) (u := .agg #[.slice A1 n1 c1, .slice A2 n2 c2, .slice (some ⟨g3, o3, none⟩) n3 c3]) (fun ρ => ρ (.tmp 3) = .pointer (some ⟨w.heap.size, 0, none⟩)) (by kernel_rfl) (fun ρ hρ => ?_) (Chg.refl _ _) rfl; go_simp
  obtain rfl : x1_9 = _ := hv
  clear hc w1
  refine soft_one (some 17) rfl (Note.eq (.int .i64 (place : Int))).f (by kernel_rfl) (by kernel_rfl) (fun w1 hc hk => ?_) (fun x1_10 w1 hc hv => ?_)
  · exact soft_move (.tmp 1) rfl (.int .i64 (place : Int)) (by kernel_rfl) rfl
  obtain rfl : x1_10 = _ := hv
  clear hc w1
  refine soft_one (some 18) rfl (Note.eq (.pointer (some ⟨w.heap.size, 2, none⟩))).f (by kernel_rfl) (by kernel_rfl) (fun w1 hc hk => ?_) (fun x1_11 w1 hc hv => ?_)
  · refine soft_at (w1 := w1) (u := .pointer (some ⟨w.heap.size, 2, none⟩)) (fun ρ => (∀ v, ρ (.const v) = v) ∧ ρ (.tmp 3) = .pointer (some ⟨w.heap.size, 0, none⟩)) ⟨fun v => rfl, by kernel_rfl⟩ (fun ρ hρ => ?_) (Chg.refl _ _) rfl; (obtain ⟨g0, g1⟩ := hρ; go_simp)
  obtain rfl : x1_11 = _ := hv
  clear hc w1
  refine soft_one (some 19) rfl (Note.eq (.slice (some ⟨g3, o3, none⟩) n3 c3)).f (by kernel_rfl) (by kernel_rfl) (fun w1 hc hk => ?_) (fun x1_12 w1 hc hv => ?_)
  · have k2 := cell_at (HBX.out _ hc) 2 rfl; refine soft_at (w1 := w1) (u := .slice (some ⟨g3, o3, none⟩) n3 c3) (fun ρ => ρ (.tmp 18) = .pointer (some ⟨w.heap.size, 2, none⟩)) (by kernel_rfl) (fun ρ hρ => ?_) (Chg.refl _ _) rfl; go_simp
  obtain rfl : x1_12 = _ := hv
  clear hc w1
  refine soft_one (some 20) rfl (Note.eq (.pointer (some ⟨w.heap.size + 1, 1, none⟩))).f (by kernel_rfl) (by kernel_rfl) (fun w1 hc hk => ?_) (fun x1_13 w1 hc hv => ?_)
  · refine soft_at (w1 := w1) (u := .pointer (some ⟨w.heap.size + 1, 1, none⟩)) (fun ρ => (∀ v, ρ (.const v) = v) ∧ ρ (.tmp 5) = .pointer (some ⟨w.heap.size + 1, 0, none⟩)) ⟨fun v => rfl, by kernel_rfl⟩ (fun ρ hρ => ?_) (Chg.refl _ _) rfl; (obtain ⟨g0, g1⟩ := hρ; go_simp)
  obtain rfl : x1_13 = _ := hv
  clear hc w1
  refine soft_one (some 21) rfl (Note.eq (.int .i64 (sn : Int))).f (by kernel_rfl) (by kernel_rfl) (fun w1 hc hk => ?_) (fun x1_14 w1 hc hv => ?_)
  · obtain ⟨p0, p1, p2, p3, p4, p5, p6, p7, p8, p9, p10, p11⟩ := cells12 (HBE.out _ hc); rw [HSN.out] at p1; refine soft_at (w1 := w1) (u := .int .i64 (sn : Int)) (fun ρ => ρ (.tmp 20) = .pointer (some ⟨w.heap.size + 1, 1, none⟩)) (by kernel_rfl) (fun ρ hρ => ?_) (Chg.refl _ _) rfl; go_simp
  obtain rfl : x1_14 = _ := hv
  clear hc w1
  refine soft_one (some 22) rfl (Note.eq (.pointer (some ⟨g3, o3 + sn, none⟩))).f (by kernel_rfl) (by kernel_rfl) (fun w1 hc hk => ?_) (fun x1_15 w1 hc hv => ?_)
  · refine soft_at (w1 := w1) (u := .pointer (some ⟨g3, o3 + sn, none⟩)) (fun ρ => ρ (.tmp 19) = .slice (some ⟨g3, o3, none⟩) n3 c3 ∧ ρ (.tmp 21) = .int .i64 (sn : Int)) ⟨by kernel_rfl, by kernel_rfl⟩ (fun ρ hρ => ?_) (Chg.refl _ _) rfl; (obtain ⟨g0, g1⟩ := hρ; go_simp)
  obtain rfl : x1_15 = _ := hv
  clear hc w1
  refine soft_one (some 23) rfl (Note.eq (.int .i64 (bn : Int))).f (by kernel_rfl) (by kernel_rfl) (fun w1 hc hk => ?_) (fun x1_16 w1 hc hv => ?_)
  · have k9 := HSE.out _ hc; refine soft_at (w1 := w1) (u := .int .i64 (bn : Int)) (fun ρ => ρ (.tmp 22) = .pointer (some ⟨g3, o3 + sn, none⟩)) (by kernel_rfl) (fun ρ hρ => ?_) (Chg.refl _ _) rfl; go_simp
  obtain rfl : x1_16 = _ := hv
  clear hc w1
  refine soft_one (some 24) rfl (Note.eq (.bool true)).f (by kernel_rfl) (by kernel_rfl) (fun w1 hc hk => ?_) (fun x1_17 w1 hc hv => ?_)
  · exact soft_call (args := #[.agg #[.slice A1 n1 c1, .slice A2 n2 c2, .slice (some ⟨g3, o3, none⟩) n3 c3], .int .i64 (place : Int), .int .i64 (bn : Int)]) Try.func26 (by kernel_rfl) (by kernel_rfl) rfl (by kernel_rfl) (d_seen true hcf (HC.out _ ((((Chg.refl _ w).alloc _).alloc _).trans hc (fun _ _ h => h))) (by rw [HL1.out]; exact hpl) HBN.out HSB.out)
  obtain rfl : x1_17 = _ := hv
  clear hc w1
  refine soft_one (some 25) rfl (Note.eq (.bool false)).f (by kernel_rfl) (by kernel_rfl) (fun w1 hc hk => ?_) (fun x1_18 w1 hc hv => ?_)
  · refine soft_at (w1 := w1) (u := .bool false) (fun ρ => (∀ v, ρ (.const v) = v) ∧ ρ (.tmp 24) = .bool true) ⟨fun v => rfl, by kernel_rfl⟩ (fun ρ hρ => ?_) (Chg.refl _ _) rfl; (obtain ⟨g0, g1⟩ := hρ; go_simp)
  obtain rfl : x1_18 = _ := hv
  clear hc w1
  refine soft_one (some 26) rfl (Note.eq (.bool false)).f (by kernel_rfl) (by kernel_rfl) (fun w1 hc hk => ?_) (fun x1_19 w1 hc hv => ?_)
  · refine soft_at (w1 := w1) (u := .bool false) (fun ρ => (∀ v, ρ (.const v) = v) ∧ ρ (.tmp 15) = .bool true ∧ ρ (.tmp 25) = .bool false) ⟨fun v => rfl, by kernel_rfl, by kernel_rfl⟩ (fun ρ hρ => ?_) (Chg.refl _ _) rfl; (obtain ⟨g0, g1, g2⟩ := hρ; go_simp)
  obtain rfl : x1_19 = _ := hv
  clear hc w1
  refine soft_one (some 27) rfl (Note.eq (.bool false)).f (by kernel_rfl) (by kernel_rfl) (fun w1 hc hk => ?_) (fun x1_20 w1 hc hv => ?_)
  · refine soft_at (w1 := w1) (u := .bool false) (fun ρ => (∀ v, ρ (.const v) = v) ∧ ρ (.tmp 11) = .bool false ∧ ρ (.tmp 26) = .bool false) ⟨fun v => rfl, by kernel_rfl, by kernel_rfl⟩ (fun ρ hρ => ?_) (Chg.refl _ _) rfl; (obtain ⟨g0, g1, g2⟩ := hρ; go_simp)
  obtain rfl : x1_20 = _ := hv
  clear hc w1
  refine soft_one (some 6) rfl (Note.eq (.bool false)).f (by kernel_rfl) (by kernel_rfl) (fun w1 hc hk => ?_) (fun x1_21 w1 hc hv => ?_)
  · exact soft_assign (.tmp 27) rfl (.bool false) (by kernel_rfl) rfl
  obtain rfl : x1_21 = _ := hv
  clear hc w1
  refine soft_end (fun b => b.tmps.getD 6 undef = .bool false ∧ b.defers = []) ⟨by kernel_rfl, by kernel_rfl⟩ (fun b hb w6 hc6 => ?_)
  obtain ⟨hb0, hbd⟩ := hb
  have HC6 : Hid (Chg (fun _ => False) w w6) := (((Chg.refl _ w).alloc _).alloc _).trans hc6 (fun _ _ h => h)
  clear hc6
  go_wp2
  exact bodyPost_ret (v := .bool false) (by simp [results, Try.results28, go_sem, show b.tmps[6]?.getD undef = .bool false by rw [← Array.getD_eq_getD_getElem?]; exact hb0]) hbd ⟨rfl, HC6.out⟩
set_option maxRecDepth 100000 in
set_option maxHeartbeats 12800000 in
theorem unseen_ask0 {ok : Nat → Prop} {w : World} {A1 A2 A3 : Option Addr} {n1 n2 n3 c1 c2 c3 : Nat} {c : Cfg} (h : CfgAt ok w A1 A2 A3 n1 n2 n3 c1 c2 c3 c) (hok : ∀ k, ok k → k < w.heap.size) (hcf : cfgFits c) (place : Nat) (hpl : place < n1) (x : Ev) {oks : Nat → Prop} {AV AS : Option Addr} {cV cS : Nat} (hr : evK.rel oks w x (evCs x (.slice AV x.req.value.length cV) (.slice AS x.strikes.length cS))) (hoks : ∀ k, oks k → k < w.heap.size) (hm : Ev.may c x = true) (hk : x.kind = 1) (hsb : Ev.seen c place (c.sessions.getD x.session.toNat 0).toNat = false) :
    Calls Try.prog 28 #[.agg #[.slice A1 n1 c1, .slice A2 n2 c2, .slice A3 n3 c3], .int .i64 (place : Int), .agg #[.int .i64 x.kind, .int .i64 x.session, .int .i64 x.req.kind, .int .i64 x.req.life, .int .i64 x.req.number, .int .i64 x.req.place, .string x.req.key, .string x.req.to, .slice AV x.req.value.length cV, .int .i64 x.req.limit, .int .i64 x.place, .slice AS x.strikes.length cS]] w fun e w' => e = .returned (.bool true) ∧ Chg (fun _ => False) w w' := by
  have HMY := Lib.hid hm
  have e1 : (x.kind == 1) = true := by simpa using hk
  have hmc := may_mayB hm
  have hse : 0 ≤ x.session ∧ x.session < (c.sessions.length : Int) := by
    unfold Ev.may at hm
    simp only [Bool.and_eq_true] at hm
    have h2 := hm.2
    rw [if_pos hk] at h2
    simp only [Bool.and_eq_true, decide_eq_true_eq] at h2
    exact h2
  obtain ⟨sn, hsn⟩ := Int.eq_ofNat_of_zero_le hse.1
  have hsl : sn < c.sessions.length := by omega
  obtain ⟨bn, hbn, hbl⟩ := Epf.may_ses_bd hmc hsl
  obtain ⟨g3, o3, rfl, hg3, hcell⟩ := rd_is h.r3 (by have := h.l3; omega)
  have hc9 := hcell sn (by have := h.l3; omega)
  rw [hbn] at hc9
  have hgl := hok g3 hg3
  have HSE : Hid (∀ w', Chg (fun _ => False) ((w.alloc (.cells #[.slice A1 n1 c1, .slice A2 n2 c2, .slice (some ⟨g3, o3, none⟩) n3 c3] 27)).alloc (.cells (evCs x (.slice AV x.req.value.length cV) (.slice AS x.strikes.length cS)).toArray 37)) w' → w'.cell? ⟨g3, o3 + sn, none⟩ = some (.int .i64 (bn : Int))) := fun w' hc => (World.cell?_of_block ((show Chg (fun _ => False) w w' from (((Chg.refl _ w).alloc _).alloc _).trans hc (fun _ _ h => h)).block g3 hgl (fun h => h)) (a := ⟨g3, o3 + sn, none⟩)).trans hc9
  have HSN := Lib.hid hsn
  have HBN := Lib.hid hbl
  have hsb' : Ev.seen c place bn = false := by
    have : (c.sessions.getD x.session.toNat 0).toNat = bn := by rw [show x.session.toNat = sn by omega, hbn]; simp
    rw [← this]; exact hsb
  have HSB := Lib.hid hsb'
  have hl3 := h.l3
  have i3 : (sn : Int) < (n3 : Int) := by omega
  clear hm hk hmc hse hsn hsl hbn hbl hg3 hcell hc9 hgl hsb hsb' hl3
  have hC0 : CfgW c (.agg #[.slice A1 n1 c1, .slice A2 n2 c2, .slice (some ⟨g3, o3, none⟩) n3 c3]) w := CfgW_of h hok
  have HC : Hid (∀ w', Chg (fun _ => False) w w' → CfgW c (.agg #[.slice A1 n1 c1, .slice A2 n2 c2, .slice (some ⟨g3, o3, none⟩) n3 c3]) w') := fun w' hc => hC0.up hc
  have hE0 : (nEv x).f (.agg #[.int .i64 x.kind, .int .i64 x.session, .int .i64 x.req.kind, .int .i64 x.req.life, .int .i64 x.req.number, .int .i64 x.req.place, .string x.req.key, .string x.req.to, .slice AV x.req.value.length cV, .int .i64 x.req.limit, .int .i64 x.place, .slice AS x.strikes.length cS]) w := ⟨_, rfl, evK.mono hoks hr⟩
  have HEV : Hid (∀ w', Chg (fun _ => False) ((w.alloc (.cells #[.slice A1 n1 c1, .slice A2 n2 c2, .slice (some ⟨g3, o3, none⟩) n3 c3] 27)).alloc (.cells (evCs x (.slice AV x.req.value.length cV) (.slice AS x.strikes.length cS)).toArray 37)) w' → (nEv x).f (.agg #[.int .i64 x.kind, .int .i64 x.session, .int .i64 x.req.kind, .int .i64 x.req.life, .int .i64 x.req.number, .int .i64 x.req.place, .string x.req.key, .string x.req.to, .slice AV x.req.value.length cV, .int .i64 x.req.limit, .int .i64 x.place, .slice AS x.strikes.length cS]) w') := fun w' hc => (nEv x).st _ _ _ ((((Chg.refl _ w).alloc _).alloc _).trans hc (fun _ _ h => h)) hE0
  have HBX : Hid (∀ w', Chg (fun _ => False) ((w.alloc (.cells #[.slice A1 n1 c1, .slice A2 n2 c2, .slice (some ⟨g3, o3, none⟩) n3 c3] 27)).alloc (.cells (evCs x (.slice AV x.req.value.length cV) (.slice AS x.strikes.length cS)).toArray 37)) w' → w'.heap[w.heap.size]? = some (.cells #[.slice A1 n1 c1, .slice A2 n2 c2, .slice (some ⟨g3, o3, none⟩) n3 c3] 27 (0, 0))) := fun w' hc => hc.at_ (heap_old _ (heap_new w _)) (fun h => h)
  have HBE : Hid (∀ w', Chg (fun _ => False) ((w.alloc (.cells #[.slice A1 n1 c1, .slice A2 n2 c2, .slice (some ⟨g3, o3, none⟩) n3 c3] 27)).alloc (.cells (evCs x (.slice AV x.req.value.length cV) (.slice AS x.strikes.length cS)).toArray 37)) w' → w'.heap[w.heap.size + 1]? = some (.cells (evCs x (.slice AV x.req.value.length cV) (.slice AS x.strikes.length cS)).toArray 37 (0, 0))) := fun w' hc => hc.at_ (heap_new' _ _ (by simp)) (fun h => h)
  have HL1 := Lib.hid h.l1
  clear h hok hr hoks hC0 hE0
  go_enter Try.func28, Try.ntmps28
  go_wp2_with fail
  refine wp_region_soft (notes [Note.eq (.agg #[.slice A1 n1 c1, .slice A2 n2 c2, .slice (some ⟨g3, o3, none⟩) n3 c3]), Note.eq (.agg #[.int .i64 x.kind, .int .i64 x.session, .int .i64 x.req.kind, .int .i64 x.req.life, .int .i64 x.req.number, .int .i64 x.req.place, .string x.req.key, .string x.req.to, .slice AV x.req.value.length cV, .int .i64 x.req.limit, .int .i64 x.place, .slice AS x.strikes.length cS]), Note.eq (.bool true), Note.eq (.bool false), Note.eq (.bool false), Note.eq (.pointer (some ⟨w.heap.size + 1, 0, none⟩)), Note.eq (.int .i64 x.kind), Note.eq (.bool true), Note.eq (.bool true), Note.eq (.agg #[.slice A1 n1 c1, .slice A2 n2 c2, .slice (some ⟨g3, o3, none⟩) n3 c3]), Note.eq (.int .i64 (place : Int)), Note.eq (.pointer (some ⟨w.heap.size, 2, none⟩)), Note.eq (.slice (some ⟨g3, o3, none⟩) n3 c3), Note.eq (.pointer (some ⟨w.heap.size + 1, 1, none⟩)), Note.eq (.int .i64 (sn : Int)), Note.eq (.pointer (some ⟨g3, o3 + sn, none⟩)), Note.eq (.int .i64 (bn : Int)), Note.eq (.bool false), Note.eq (.bool true), Note.eq (.bool true), Note.eq (.bool true), Note.eq (.bool true)]) (by kernel_rfl) (by kernel_rfl) (by kernel_rfl) (notes_st _) ?_
  refine soft_one (some 7) rfl (Note.eq (.agg #[.slice A1 n1 c1, .slice A2 n2 c2, .slice (some ⟨g3, o3, none⟩) n3 c3])).f (by kernel_rfl) (by kernel_rfl) (fun w1 hc hk => ?_) (fun x1_0 w1 hc hv => ?_)
  · have k0 := cell_at (HBX.out _ hc) 0 rfl; have k1 := cell_at (HBX.out _ hc) 1 rfl; have k2 := cell_at (HBX.out _ hc) 2 rfl; refine soft_at (w1 := w1) (u := .agg #[.slice A1 n1 c1, .slice A2 n2 c2, .slice (some ⟨g3, o3, none⟩) n3 c3]) (fun ρ => ρ (.tmp 3) = .pointer (some ⟨w.heap.size, 0, none⟩)) (by kernel_rfl) (fun ρ hρ => ?_) (Chg.refl _ _) rfl; go_simp
  obtain rfl : x1_0 = _ := hv
  clear hc w1
  refine soft_one (some 8) rfl (Note.eq (.agg #[.int .i64 x.kind, .int .i64 x.session, .int .i64 x.req.kind, .int .i64 x.req.life, .int .i64 x.req.number, .int .i64 x.req.place, .string x.req.key, .string x.req.to, .slice AV x.req.value.length cV, .int .i64 x.req.limit, .int .i64 x.place, .slice AS x.strikes.length cS])).f (by kernel_rfl) (by kernel_rfl) (fun w1 hc hk => ?_) (fun x1_1 w1 hc hv => ?_)
  · obtain ⟨p0, p1, p2, p3, p4, p5, p6, p7, p8, p9, p10, p11⟩ := cells12 (HBE.out _ hc); refine soft_at (w1 := w1) (u := .agg #[.int .i64 x.kind, .int .i64 x.session, .int .i64 x.req.kind, .int .i64 x.req.life, .int .i64 x.req.number, .int .i64 x.req.place, .string x.req.key, .string x.req.to, .slice AV x.req.value.length cV, .int .i64 x.req.limit, .int .i64 x.place, .slice AS x.strikes.length cS]) (fun ρ => ρ (.tmp 5) = .pointer (some ⟨w.heap.size + 1, 0, none⟩)) (by kernel_rfl) (fun ρ hρ => ?_) (Chg.refl _ _) rfl; go_simp
  obtain rfl : x1_1 = _ := hv
  clear hc w1
  refine soft_one (some 9) rfl (Note.eq (.bool true)).f (by kernel_rfl) (by kernel_rfl) (fun w1 hc hk => ?_) (fun x1_2 w1 hc hv => ?_)
  · exact soft_call (args := #[.agg #[.slice A1 n1 c1, .slice A2 n2 c2, .slice (some ⟨g3, o3, none⟩) n3 c3], .agg #[.int .i64 x.kind, .int .i64 x.session, .int .i64 x.req.kind, .int .i64 x.req.life, .int .i64 x.req.number, .int .i64 x.req.place, .string x.req.key, .string x.req.to, .slice AV x.req.value.length cV, .int .i64 x.req.limit, .int .i64 x.place, .slice AS x.strikes.length cS]]) Try.func17 (by kernel_rfl) (by kernel_rfl) rfl (by kernel_rfl) (d_rmay true hcf (HC.out _ ((((Chg.refl _ w).alloc _).alloc _).trans hc (fun _ _ h => h))) (HEV.out _ hc) HMY.out)
  obtain rfl : x1_2 = _ := hv
  clear hc w1
  refine soft_one (some 10) rfl (Note.eq (.bool false)).f (by kernel_rfl) (by kernel_rfl) (fun w1 hc hk => ?_) (fun x1_3 w1 hc hv => ?_)
  · refine soft_at (w1 := w1) (u := .bool false) (fun ρ => (∀ v, ρ (.const v) = v) ∧ ρ (.tmp 9) = .bool true) ⟨fun v => rfl, by kernel_rfl⟩ (fun ρ hρ => ?_) (Chg.refl _ _) rfl; (obtain ⟨g0, g1⟩ := hρ; go_simp)
  obtain rfl : x1_3 = _ := hv
  clear hc w1
  refine soft_one (some 11) rfl (Note.eq (.bool false)).f (by kernel_rfl) (by kernel_rfl) (fun w1 hc hk => ?_) (fun x1_4 w1 hc hv => ?_)
  · exact soft_move (.tmp 10) rfl (.bool false) (by kernel_rfl) rfl
  obtain rfl : x1_4 = _ := hv
  clear hc w1
  refine soft_one (some 12) rfl (Note.eq (.pointer (some ⟨w.heap.size + 1, 0, none⟩))).f (by kernel_rfl) (by kernel_rfl) (fun w1 hc hk => ?_) (fun x1_5 w1 hc hv => ?_)
  · refine soft_at (w1 := w1) (u := .pointer (some ⟨w.heap.size + 1, 0, none⟩)) (fun ρ => (∀ v, ρ (.const v) = v) ∧ ρ (.tmp 5) = .pointer (some ⟨w.heap.size + 1, 0, none⟩)) ⟨fun v => rfl, by kernel_rfl⟩ (fun ρ hρ => ?_) (Chg.refl _ _) rfl; (obtain ⟨g0, g1⟩ := hρ; go_simp)
  obtain rfl : x1_5 = _ := hv
  clear hc w1
  refine soft_one (some 13) rfl (Note.eq (.int .i64 x.kind)).f (by kernel_rfl) (by kernel_rfl) (fun w1 hc hk => ?_) (fun x1_6 w1 hc hv => ?_)
  · obtain ⟨p0, p1, p2, p3, p4, p5, p6, p7, p8, p9, p10, p11⟩ := cells12 (HBE.out _ hc); refine soft_at (w1 := w1) (u := .int .i64 x.kind) (fun ρ => ρ (.tmp 12) = .pointer (some ⟨w.heap.size + 1, 0, none⟩)) (by kernel_rfl) (fun ρ hρ => ?_) (Chg.refl _ _) rfl; go_simp
  obtain rfl : x1_6 = _ := hv
  clear hc w1
  refine soft_one (some 14) rfl (Note.eq (.bool true)).f (by kernel_rfl) (by kernel_rfl) (fun w1 hc hk => ?_) (fun x1_7 w1 hc hv => ?_)
  · refine soft_at (w1 := w1) (u := .bool true) (fun ρ => (∀ v, ρ (.const v) = v) ∧ ρ (.tmp 13) = .int .i64 x.kind) ⟨fun v => rfl, by kernel_rfl⟩ (fun ρ hρ => ?_) (Chg.refl _ _) rfl; (obtain ⟨g0, g1⟩ := hρ; go_simp)
  obtain rfl : x1_7 = _ := hv
  clear hc w1
  refine soft_one (some 15) rfl (Note.eq (.bool true)).f (by kernel_rfl) (by kernel_rfl) (fun w1 hc hk => ?_) (fun x1_8 w1 hc hv => ?_)
  · exact soft_move (.tmp 14) rfl (.bool true) (by kernel_rfl) rfl
  obtain rfl : x1_8 = _ := hv
  clear hc w1
  refine soft_one (some 16) rfl (Note.eq (.agg #[.slice A1 n1 c1, .slice A2 n2 c2, .slice (some ⟨g3, o3, none⟩) n3 c3])).f (by kernel_rfl) (by kernel_rfl) (fun w1 hc hk => ?_) (fun x1_9 w1 hc hv => ?_)
  · have k0 := cell_at (HBX.out _ hc) 0 rfl; have k1 := cell_at (HBX.out _ hc) 1 rfl; have k2 := cell_at (HBX.out _ hc) 2 rfl; refine soft_at (w1 := w1) (u := .agg #[.slice A1 n1 c1, .slice A2 n2 c2, .slice (some ⟨g3, o3, none⟩) n3 c3]) (fun ρ => ρ (.tmp 3) = .pointer (some ⟨w.heap.size, 0, none⟩)) (by kernel_rfl) (fun ρ hρ => ?_) (Chg.refl _ _) rfl; go_simp
  obtain rfl : x1_9 = _ := hv
  clear hc w1
  refine soft_one (some 17) rfl (Note.eq (.int .i64 (place : Int))).f (by kernel_rfl) (by kernel_rfl) (fun w1 hc hk => ?_) (fun x1_10 w1 hc hv => ?_)
  · exact soft_move (.tmp 1) rfl (.int .i64 (place : Int)) (by kernel_rfl) rfl
  obtain rfl : x1_10 = _ := hv
  clear hc w1
  refine soft_one (some 18) rfl (Note.eq (.pointer (some ⟨w.heap.size, 2, none⟩))).f (by kernel_rfl) (by kernel_rfl) (fun w1 hc hk => ?_) (fun x1_11 w1 hc hv => ?_)
  · refine soft_at (w1 := w1) (u := .pointer (some ⟨w.heap.size, 2, none⟩)) (fun ρ => (∀ v, ρ (.const v) = v) ∧ ρ (.tmp 3) = .pointer (some ⟨w.heap.size, 0, none⟩)) ⟨fun v => rfl, by kernel_rfl⟩ (fun ρ hρ => ?_) (Chg.refl _ _) rfl; (obtain ⟨g0, g1⟩ := hρ; go_simp)
  obtain rfl : x1_11 = _ := hv
  clear hc w1
  refine soft_one (some 19) rfl (Note.eq (.slice (some ⟨g3, o3, none⟩) n3 c3)).f (by kernel_rfl) (by kernel_rfl) (fun w1 hc hk => ?_) (fun x1_12 w1 hc hv => ?_)
  · have k2 := cell_at (HBX.out _ hc) 2 rfl; refine soft_at (w1 := w1) (u := .slice (some ⟨g3, o3, none⟩) n3 c3) (fun ρ => ρ (.tmp 18) = .pointer (some ⟨w.heap.size, 2, none⟩)) (by kernel_rfl) (fun ρ hρ => ?_) (Chg.refl _ _) rfl; go_simp
  obtain rfl : x1_12 = _ := hv
  clear hc w1
  refine soft_one (some 20) rfl (Note.eq (.pointer (some ⟨w.heap.size + 1, 1, none⟩))).f (by kernel_rfl) (by kernel_rfl) (fun w1 hc hk => ?_) (fun x1_13 w1 hc hv => ?_)
  · refine soft_at (w1 := w1) (u := .pointer (some ⟨w.heap.size + 1, 1, none⟩)) (fun ρ => (∀ v, ρ (.const v) = v) ∧ ρ (.tmp 5) = .pointer (some ⟨w.heap.size + 1, 0, none⟩)) ⟨fun v => rfl, by kernel_rfl⟩ (fun ρ hρ => ?_) (Chg.refl _ _) rfl; (obtain ⟨g0, g1⟩ := hρ; go_simp)
  obtain rfl : x1_13 = _ := hv
  clear hc w1
  refine soft_one (some 21) rfl (Note.eq (.int .i64 (sn : Int))).f (by kernel_rfl) (by kernel_rfl) (fun w1 hc hk => ?_) (fun x1_14 w1 hc hv => ?_)
  · obtain ⟨p0, p1, p2, p3, p4, p5, p6, p7, p8, p9, p10, p11⟩ := cells12 (HBE.out _ hc); rw [HSN.out] at p1; refine soft_at (w1 := w1) (u := .int .i64 (sn : Int)) (fun ρ => ρ (.tmp 20) = .pointer (some ⟨w.heap.size + 1, 1, none⟩)) (by kernel_rfl) (fun ρ hρ => ?_) (Chg.refl _ _) rfl; go_simp
  obtain rfl : x1_14 = _ := hv
  clear hc w1
  refine soft_one (some 22) rfl (Note.eq (.pointer (some ⟨g3, o3 + sn, none⟩))).f (by kernel_rfl) (by kernel_rfl) (fun w1 hc hk => ?_) (fun x1_15 w1 hc hv => ?_)
  · refine soft_at (w1 := w1) (u := .pointer (some ⟨g3, o3 + sn, none⟩)) (fun ρ => ρ (.tmp 19) = .slice (some ⟨g3, o3, none⟩) n3 c3 ∧ ρ (.tmp 21) = .int .i64 (sn : Int)) ⟨by kernel_rfl, by kernel_rfl⟩ (fun ρ hρ => ?_) (Chg.refl _ _) rfl; (obtain ⟨g0, g1⟩ := hρ; go_simp)
  obtain rfl : x1_15 = _ := hv
  clear hc w1
  refine soft_one (some 23) rfl (Note.eq (.int .i64 (bn : Int))).f (by kernel_rfl) (by kernel_rfl) (fun w1 hc hk => ?_) (fun x1_16 w1 hc hv => ?_)
  · have k9 := HSE.out _ hc; refine soft_at (w1 := w1) (u := .int .i64 (bn : Int)) (fun ρ => ρ (.tmp 22) = .pointer (some ⟨g3, o3 + sn, none⟩)) (by kernel_rfl) (fun ρ hρ => ?_) (Chg.refl _ _) rfl; go_simp
  obtain rfl : x1_16 = _ := hv
  clear hc w1
  refine soft_one (some 24) rfl (Note.eq (.bool false)).f (by kernel_rfl) (by kernel_rfl) (fun w1 hc hk => ?_) (fun x1_17 w1 hc hv => ?_)
  · exact soft_call (args := #[.agg #[.slice A1 n1 c1, .slice A2 n2 c2, .slice (some ⟨g3, o3, none⟩) n3 c3], .int .i64 (place : Int), .int .i64 (bn : Int)]) Try.func26 (by kernel_rfl) (by kernel_rfl) rfl (by kernel_rfl) (d_seen false hcf (HC.out _ ((((Chg.refl _ w).alloc _).alloc _).trans hc (fun _ _ h => h))) (by rw [HL1.out]; exact hpl) HBN.out HSB.out)
  obtain rfl : x1_17 = _ := hv
  clear hc w1
  refine soft_one (some 25) rfl (Note.eq (.bool true)).f (by kernel_rfl) (by kernel_rfl) (fun w1 hc hk => ?_) (fun x1_18 w1 hc hv => ?_)
  · refine soft_at (w1 := w1) (u := .bool true) (fun ρ => (∀ v, ρ (.const v) = v) ∧ ρ (.tmp 24) = .bool false) ⟨fun v => rfl, by kernel_rfl⟩ (fun ρ hρ => ?_) (Chg.refl _ _) rfl; (obtain ⟨g0, g1⟩ := hρ; go_simp)
  obtain rfl : x1_18 = _ := hv
  clear hc w1
  refine soft_one (some 26) rfl (Note.eq (.bool true)).f (by kernel_rfl) (by kernel_rfl) (fun w1 hc hk => ?_) (fun x1_19 w1 hc hv => ?_)
  · refine soft_at (w1 := w1) (u := .bool true) (fun ρ => (∀ v, ρ (.const v) = v) ∧ ρ (.tmp 15) = .bool true ∧ ρ (.tmp 25) = .bool true) ⟨fun v => rfl, by kernel_rfl, by kernel_rfl⟩ (fun ρ hρ => ?_) (Chg.refl _ _) rfl; (obtain ⟨g0, g1, g2⟩ := hρ; go_simp)
  obtain rfl : x1_19 = _ := hv
  clear hc w1
  refine soft_one (some 27) rfl (Note.eq (.bool true)).f (by kernel_rfl) (by kernel_rfl) (fun w1 hc hk => ?_) (fun x1_20 w1 hc hv => ?_)
  · refine soft_at (w1 := w1) (u := .bool true) (fun ρ => (∀ v, ρ (.const v) = v) ∧ ρ (.tmp 11) = .bool false ∧ ρ (.tmp 26) = .bool true) ⟨fun v => rfl, by kernel_rfl, by kernel_rfl⟩ (fun ρ hρ => ?_) (Chg.refl _ _) rfl; (obtain ⟨g0, g1, g2⟩ := hρ; go_simp)
  obtain rfl : x1_20 = _ := hv
  clear hc w1
  refine soft_one (some 6) rfl (Note.eq (.bool true)).f (by kernel_rfl) (by kernel_rfl) (fun w1 hc hk => ?_) (fun x1_21 w1 hc hv => ?_)
  · exact soft_assign (.tmp 27) rfl (.bool true) (by kernel_rfl) rfl
  obtain rfl : x1_21 = _ := hv
  clear hc w1
  refine soft_end (fun b => b.tmps.getD 6 undef = .bool true ∧ b.defers = []) ⟨by kernel_rfl, by kernel_rfl⟩ (fun b hb w6 hc6 => ?_)
  obtain ⟨hb0, hbd⟩ := hb
  have HC6 : Hid (Chg (fun _ => False) w w6) := (((Chg.refl _ w).alloc _).alloc _).trans hc6 (fun _ _ h => h)
  clear hc6
  go_wp2
  exact bodyPost_ret (v := .bool true) (by simp [results, Try.results28, go_sem, show b.tmps[6]?.getD undef = .bool true by rw [← Array.getD_eq_getD_getElem?]; exact hb0]) hbd ⟨rfl, HC6.out⟩

theorem unseen_any {ok : Nat → Prop} {w : World} {A1 A2 A3 : Option Addr} {n1 n2 n3 c1 c2 c3 : Nat} {c : Cfg} (h : CfgAt ok w A1 A2 A3 n1 n2 n3 c1 c2 c3 c) (hok : ∀ k, ok k → k < w.heap.size) (hcf : cfgFits c) (place : Nat) (hpl : place < n1) (x : Ev) {oks : Nat → Prop} {cs : List Value} (hr : evK.rel oks w x cs) (hoks : ∀ k, oks k → k < w.heap.size) :
    Calls Try.prog 28 #[.agg #[.slice A1 n1 c1, .slice A2 n2 c2, .slice A3 n3 c3], .int .i64 (place : Int), .agg cs.toArray] w fun e w' => e = .returned (.bool (Ev.unseen c place x)) ∧ Chg (fun _ => False) w w' := by
  obtain ⟨AV, cV, AS, cS, ecs, -, -⟩ := ev_parts hr
  subst ecs
  cases hm : Ev.may c x with
  | false => rw [show Ev.unseen c place x = true by unfold Ev.unseen; simp [hm]]; exact unseen_no h hok hcf place hpl x hr hoks hm
  | true =>
    by_cases hk : x.kind = 1
    · cases hs : Ev.seen c place (c.sessions.getD x.session.toNat 0).toNat with
      | true => rw [show Ev.unseen c place x = false by unfold Ev.unseen; rw [hm, hs]; simp]; exact unseen_ask1 h hok hcf place hpl x hr hoks hm hk hs
      | false => rw [show Ev.unseen c place x = true by unfold Ev.unseen; rw [hm, hs]; simp [hk]]; exact unseen_ask0 h hok hcf place hpl x hr hoks hm hk hs
    · rw [show Ev.unseen c place x = false by unfold Ev.unseen; rw [hm]; simp [hk]]; exact unseen_other h hok hcf place hpl x hr hoks hm hk
end Go.Proofs.Ytchlolgfahgdeaa.Eun
