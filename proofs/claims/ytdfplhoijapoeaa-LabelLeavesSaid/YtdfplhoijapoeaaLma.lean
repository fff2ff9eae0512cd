/- The walk of the law LabelMay. Conditions: what comes in reads so. -/
import Derived.Test.YtdfplhoijapoeaaLcf
set_option linter.unusedVariables false
set_option linter.unusedSimpArgs false
namespace Go.Proofs.Ytdfplhoijapoeaa.Lma
open Go.RowKit Go.Proofs.Ytdfplhoijapoeaa.Lib1 Go.Proofs.Ytdfplhoijapoeaa.Lat Go.Proofs.Ytdfplhoijapoeaa.Lbl Go.Proofs.Ytdfplhoijapoeaa.Lbw Go.Proofs.Ytdfplhoijapoeaa.Lck Go.Proofs.Ytdfplhoijapoeaa.Lmay Go.Proofs.Ytdfplhoijapoeaa.Rgn Go.Proofs.Ytdfplhoijapoeaa.Rgs Go.Proofs.Ytdfplhoijapoeaa.Rgt Go.Proofs.Ytdfplhoijapoeaa.Lpl Go.Proofs.Ytdfplhoijapoeaa.Lcf

def oneC : Cfg := ⟨[5], [⟨1, 0, 0, 0, 0⟩], [0]⟩
theorem one_may : mayB oneC = true := by
  have h : chk oneC.labels = 0 := by
    refine chk_zero.2 ⟨by decide, by decide, ?_, ?_⟩
    · intro i hi
      have : i + 1 < 1 := hi
      omega
    · intro i j hi hj
      have hi' : i < 1 := hi
      have hj' : j < 1 := hj
      obtain rfl : i = 0 := by omega
      obtain rfl : j = 0 := by omega
      decide
  unfold mayB
  rw [h]
  decide
def CfgW (c : Cfg) (v : Value) (w : World) : Prop := ∃ A1 A2 A3 n1 n2 n3 c1 c2 c3, v = .agg #[.slice A1 n1 c1, .slice A2 n2 c2, .slice A3 n3 c3] ∧ CfgAt (fun k => k < w.heap.size) w A1 A2 A3 n1 n2 n3 c1 c2 c3 c
theorem size_up {w w' : World} (h : Chg (fun _ => False) w w') : ∀ k, k < w.heap.size → k < w'.heap.size := fun k hk => Nat.lt_of_lt_of_le hk h.size
theorem CfgW.up {c : Cfg} {v : Value} {w w' : World} (h : CfgW c v w) (hc : Chg (fun _ => False) w w') : CfgW c v w' := by
  obtain ⟨A1, A2, A3, n1, n2, n3, c1, c2, c3, e, hC⟩ := h
  exact ⟨A1, A2, A3, n1, n2, n3, c1, c2, c3, e, (hC.move (fun k hk => hc.block k hk (fun h => h))).mono (size_up hc)⟩
def nCfg (c : Cfg) : Note := ⟨CfgW c, fun v w w' hc h => h.up hc⟩
section
variable {w : World} {c : Cfg}
theorem d_may {V : Value} (b : Bool) (h : CfgW c V w) (hb : mayB c = b) : Calls Try.prog 23 #[V] w fun e w' => ∃ v, e = .returned v ∧ Chg (fun _ => False) w w' ∧ v = .bool b := by
  subst hb
  obtain ⟨A1, A2, A3, n1, n2, n3, c1, c2, c3, rfl, hC⟩ := h
  exact (may_any hC (fun k hk => hk)).mono fun e w' ⟨he, hc⟩ => ⟨_, he, hc, rfl⟩
theorem d_rmay {V : Value} (b : Bool) (h : CfgW c V w) (hb : mayB c = b) : Calls Try.prog 24 #[V] w fun e w' => ∃ v, e = .returned v ∧ Chg (fun _ => False) w w' ∧ v = .bool b := by
  subst hb
  obtain ⟨A1, A2, A3, n1, n2, n3, c1, c2, c3, rfl, hC⟩ := h
  exact (rmay_any hC (fun k hk => hk)).mono fun e w' ⟨he, hc⟩ => ⟨_, he, hc, rfl⟩
theorem d_config {V : Value} (h : CfgW c V w) (hf : cfgFits c) : Calls Try.prog 25 #[V] w fun e w' => ∃ v, e = .returned v ∧ Chg (fun _ => False) w w' ∧ CfgW c v w' := by
  obtain ⟨A1, A2, A3, n1, n2, n3, c1, c2, c3, rfl, hC⟩ := h
  exact (config_any hC (fun k hk => hk) hf).mono fun e w' ⟨B1, B2, B3, d1, d2, d3, he, hD, hc⟩ => ⟨_, he, hc, B1, B2, B3, n1, n2, n3, d1, d2, d3, rfl, hD⟩
end
theorem rd_block {ok : Nat → Prop} {w : World} {b n T sz : Nat} {l : List Value} (hb : w.heap[b]? = some (.cells l.toArray T (0, 0))) (ho : ok b) (hl : l.length = n * sz) : Rd ok w (some ⟨b, 0, none⟩) n n sz l := by
  refine ⟨hl, Nat.le_refl _, (fun h => nomatch h), fun _ => ⟨b, 0, rfl, ho, fun i v hv => ?_⟩⟩
  have := cell_at hb i (by simpa using hv)
  simpa using this
set_option maxRecDepth 100000 in
set_option maxHeartbeats 3200000 in
theorem may_walk {ok : Nat → Prop} {w : World} {A1 A2 A3 : Option Addr} {n1 n2 n3 c1 c2 c3 : Nat} {c : Cfg} (h : CfgAt ok w A1 A2 A3 n1 n2 n3 c1 c2 c3 c) (hok : ∀ k, ok k → k < w.heap.size) (hcf : cfgFits c) :
    Calls Try.prog 4 #[.agg #[.slice A1 n1 c1, .slice A2 n2 c2, .slice A3 n3 c3]] w fun e w' => e = .returned (.bool true) ∧ Below w.heap.size w w' := by
  have HC : Hid (∀ w', Chg (fun _ => False) w w' → CfgW c (.agg #[.slice A1 n1 c1, .slice A2 n2 c2, .slice A3 n3 c3]) w') := fun w' hc => CfgW.up ⟨A1, A2, A3, n1, n2, n3, c1, c2, c3, rfl, h.mono hok⟩ hc
  obtain ⟨W0, hW0⟩ : ∃ W0, W0 = (((((w.alloc (.cells #[.slice A1 n1 c1, .slice A2 n2 c2, .slice A3 n3 c3] 32)).alloc (.cells #[.int .u64 5] 23)).alloc (.cells #[.int .i64 1, .int .i64 0, .int .i64 0, .int .i64 0, .int .i64 0] 34)).alloc (.cells #[.int .i64 0] 3)).alloc (.cells #[.slice (some ⟨w.heap.size + 1, 0, none⟩) 1 1, .slice (some ⟨w.heap.size + 1 + 1, 0, none⟩) 1 1, .slice (some ⟨w.heap.size + 1 + 1 + 1, 0, none⟩) 1 1] 32)) := ⟨_, rfl⟩
  have HW0 : Hid ((((((w.alloc (.cells #[.slice A1 n1 c1, .slice A2 n2 c2, .slice A3 n3 c3] 32)).alloc (.cells #[.int .u64 5] 23)).alloc (.cells #[.int .i64 1, .int .i64 0, .int .i64 0, .int .i64 0, .int .i64 0] 34)).alloc (.cells #[.int .i64 0] 3)).alloc (.cells #[.slice (some ⟨w.heap.size + 1, 0, none⟩) 1 1, .slice (some ⟨w.heap.size + 1 + 1, 0, none⟩) 1 1, .slice (some ⟨w.heap.size + 1 + 1 + 1, 0, none⟩) 1 1] 32)) = W0) := hW0.symm
  have s0 : W0.heap.size = w.heap.size + 1 + 1 + 1 + 1 + 1 := by rw [hW0]; simp only [World.size_alloc]
  have h0 : W0.heap[w.heap.size]? = some (.cells #[.slice A1 n1 c1, .slice A2 n2 c2, .slice A3 n3 c3] 32 (0, 0)) := by rw [hW0]; exact heap_old _ (heap_old _ (heap_old _ (heap_old _ (heap_new w _))))
  have h1 : W0.heap[w.heap.size + 1]? = some (.cells #[.int .u64 5] 23 (0, 0)) := by rw [hW0]; exact heap_old _ (heap_old _ (heap_old _ (heap_new' _ _ (by simp only [World.size_alloc]))))
  have h2 : W0.heap[w.heap.size + 1 + 1]? = some (.cells #[.int .i64 1, .int .i64 0, .int .i64 0, .int .i64 0, .int .i64 0] 34 (0, 0)) := by rw [hW0]; exact heap_old _ (heap_old _ (heap_new' _ _ (by simp only [World.size_alloc])))
  have h3 : W0.heap[w.heap.size + 1 + 1 + 1]? = some (.cells #[.int .i64 0] 3 (0, 0)) := by rw [hW0]; exact heap_old _ (heap_new' _ _ (by simp only [World.size_alloc]))
  have h4 : W0.heap[w.heap.size + 1 + 1 + 1 + 1]? = some (.cells #[.slice (some ⟨w.heap.size + 1, 0, none⟩) 1 1, .slice (some ⟨w.heap.size + 1 + 1, 0, none⟩) 1 1, .slice (some ⟨w.heap.size + 1 + 1 + 1, 0, none⟩) 1 1] 32 (0, 0)) := by rw [hW0]; exact heap_new' _ _ (by simp only [World.size_alloc])
  have CW : Hid (Chg (fun _ => False) w W0) := by show Chg _ _ _; rw [hW0]; exact (((((Chg.refl _ w).alloc _).alloc _).alloc _).alloc _).alloc _
  have HB0 : Hid (∀ w', Chg (fun _ => False) W0 w' → w'.heap[w.heap.size]? = some (.cells #[.slice A1 n1 c1, .slice A2 n2 c2, .slice A3 n3 c3] 32 (0, 0))) := fun w' hc => hc.at_ h0 (fun h => h)
  have HB4 : Hid (∀ w', Chg (fun _ => False) W0 w' → w'.heap[w.heap.size + 1 + 1 + 1 + 1]? = some (.cells #[.slice (some ⟨w.heap.size + 1, 0, none⟩) 1 1, .slice (some ⟨w.heap.size + 1 + 1, 0, none⟩) 1 1, .slice (some ⟨w.heap.size + 1 + 1 + 1, 0, none⟩) 1 1] 32 (0, 0))) := fun w' hc => hc.at_ h4 (fun h => h)
  have HO : Hid (∀ w', Chg (fun _ => False) W0 w' → CfgW oneC (.agg #[.slice (some ⟨w.heap.size + 1, 0, none⟩) 1 1, .slice (some ⟨w.heap.size + 1 + 1, 0, none⟩) 1 1, .slice (some ⟨w.heap.size + 1 + 1 + 1, 0, none⟩) 1 1]) w') := fun w' hc => CfgW.up ⟨_, _, _, 1, 1, 1, 1, 1, 1, rfl, rfl, rfl, rfl, rd_block (l := [.int .u64 5]) h1 (by omega) rfl, rd_block (l := [.int .i64 1, .int .i64 0, .int .i64 0, .int .i64 0, .int .i64 0]) h2 (by omega) rfl, rd_block (l := [.int .i64 0]) h3 (by omega) rfl, (fun x hx => by simp [oneC] at hx; omega), by omega, by omega, by omega⟩ hc
  generalize hmb : mayB c = mb
  clear h hok hW0 s0 h0 h1 h2 h3 h4
  go_enter Try.func4, Try.ntmps4
  go_upto_region 2 with fail
  try rw [HW0.out]
  refine wp_region_soft (notes [Note.eq (.agg #[.slice A1 n1 c1, .slice A2 n2 c2, .slice A3 n3 c3]), Note.eq (.bool mb), Note.eq (.agg #[.slice A1 n1 c1, .slice A2 n2 c2, .slice A3 n3 c3]), nCfg c, Note.eq (.bool mb), Note.eq (.bool true), Note.eq (.bool true), Note.eq (.agg #[.slice (some ⟨w.heap.size + 1, 0, none⟩) 1 1, .slice (some ⟨w.heap.size + 1 + 1, 0, none⟩) 1 1, .slice (some ⟨w.heap.size + 1 + 1 + 1, 0, none⟩) 1 1]), Note.eq (.bool true), Note.eq (.bool true), Note.eq (.bool true)]) (by kernel_rfl) (by kernel_rfl) (by kernel_rfl) (notes_st _) ?_
  refine soft_one (some 9) rfl (Note.eq (.agg #[.slice A1 n1 c1, .slice A2 n2 c2, .slice A3 n3 c3])).f (by kernel_rfl) (by kernel_rfl) (fun w1 hc hk => ?_) (fun x2_0 w1 hc hv => ?_)
  · have k0 := cell_at (HB0.out _ hc) 0 rfl; have k1 := cell_at (HB0.out _ hc) 1 rfl; have k2 := cell_at (HB0.out _ hc) 2 rfl; refine soft_at (w1 := w1) (u := .agg #[.slice A1 n1 c1, .slice A2 n2 c2, .slice A3 n3 c3]) (fun ρ => ρ (.tmp 1) = .pointer (some ⟨w.heap.size, 0, none⟩)) (by kernel_rfl) (fun ρ hρ => ?_) (Chg.refl _ _) rfl; go_simp
  obtain rfl : x2_0 = _ := hv
  clear hc w1
  refine soft_one (some 10) rfl (Note.eq (.bool mb)).f (by kernel_rfl) (by kernel_rfl) (fun w1 hc hk => ?_) (fun x2_1 w1 hc hv => ?_)
  · exact soft_call (args := #[.agg #[.slice A1 n1 c1, .slice A2 n2 c2, .slice A3 n3 c3]]) Try.func23 (by kernel_rfl) (by kernel_rfl) rfl (by kernel_rfl) (d_may mb (HC.out _ (CW.out.trans hc (fun _ _ h => h))) hmb)
  obtain rfl : x2_1 = _ := hv
  clear hc w1
  refine soft_one (some 11) rfl (Note.eq (.agg #[.slice A1 n1 c1, .slice A2 n2 c2, .slice A3 n3 c3])).f (by kernel_rfl) (by kernel_rfl) (fun w1 hc hk => ?_) (fun x2_2 w1 hc hv => ?_)
  · have k0 := cell_at (HB0.out _ hc) 0 rfl; have k1 := cell_at (HB0.out _ hc) 1 rfl; have k2 := cell_at (HB0.out _ hc) 2 rfl; refine soft_at (w1 := w1) (u := .agg #[.slice A1 n1 c1, .slice A2 n2 c2, .slice A3 n3 c3]) (fun ρ => ρ (.tmp 1) = .pointer (some ⟨w.heap.size, 0, none⟩)) (by kernel_rfl) (fun ρ hρ => ?_) (Chg.refl _ _) rfl; go_simp
  obtain rfl : x2_2 = _ := hv
  clear hc w1
  refine soft_one (some 12) rfl (nCfg c).f (by kernel_rfl) (by kernel_rfl) (fun w1 hc hk => ?_) (fun x2_3 w1 hc hv => ?_)
  · exact soft_call (args := #[.agg #[.slice A1 n1 c1, .slice A2 n2 c2, .slice A3 n3 c3]]) Try.func25 (by kernel_rfl) (by kernel_rfl) rfl (by kernel_rfl) (d_config (HC.out _ (CW.out.trans hc (fun _ _ h => h))) hcf)
  clear hv
  clear hc w1
  refine soft_one (some 13) rfl (Note.eq (.bool mb)).f (by kernel_rfl) (by kernel_rfl) (fun w1 hc hk => ?_) (fun x2_4 w1 hc hv => ?_)
  · exact soft_call (args := #[x2_3]) Try.func24 (by kernel_rfl) (by kernel_rfl) rfl (by kernel_rfl) (d_rmay mb (known_at hk 3 (nCfg c).f x2_3 (by kernel_rfl) (by kernel_rfl) (by kernel_rfl)) hmb)
  obtain rfl : x2_4 = _ := hv
  clear hc w1
  refine soft_one (some 14) rfl (Note.eq (.bool true)).f (by kernel_rfl) (by kernel_rfl) (fun w1 hc hk => ?_) (fun x2_5 w1 hc hv => ?_)
  · refine soft_at (w1 := w1) (u := .bool true) (fun ρ => (∀ v, ρ (.const v) = v) ∧ ρ (.tmp 10) = .bool mb ∧ ρ (.tmp 13) = .bool mb) ⟨fun v => rfl, by kernel_rfl, by kernel_rfl⟩ (fun ρ hρ => ?_) (Chg.refl _ _) rfl; (obtain ⟨g0, g1, g2⟩ := hρ; go_simp)
  obtain rfl : x2_5 = _ := hv
  clear hc w1
  refine soft_one (some 15) rfl (Note.eq (.bool true)).f (by kernel_rfl) (by kernel_rfl) (fun w1 hc hk => ?_) (fun x2_6 w1 hc hv => ?_)
  · exact soft_move (.tmp 14) rfl (.bool true) (by kernel_rfl) rfl
  obtain rfl : x2_6 = _ := hv
  clear hc w1
  refine soft_one (some 16) rfl (Note.eq (.agg #[.slice (some ⟨w.heap.size + 1, 0, none⟩) 1 1, .slice (some ⟨w.heap.size + 1 + 1, 0, none⟩) 1 1, .slice (some ⟨w.heap.size + 1 + 1 + 1, 0, none⟩) 1 1])).f (by kernel_rfl) (by kernel_rfl) (fun w1 hc hk => ?_) (fun x2_7 w1 hc hv => ?_)
  · have k0 := cell_at (HB4.out _ hc) 0 rfl; have k1 := cell_at (HB4.out _ hc) 1 rfl; have k2 := cell_at (HB4.out _ hc) 2 rfl; refine soft_at (w1 := w1) (u := .agg #[.slice (some ⟨w.heap.size + 1, 0, none⟩) 1 1, .slice (some ⟨w.heap.size + 1 + 1, 0, none⟩) 1 1, .slice (some ⟨w.heap.size + 1 + 1 + 1, 0, none⟩) 1 1]) (fun ρ => ρ (.tmp 3) = .pointer (some ⟨w.heap.size + 1 + 1 + 1 + 1, 0, none⟩)) (by kernel_rfl) (fun ρ hρ => ?_) (Chg.refl _ _) rfl; go_simp
  obtain rfl : x2_7 = _ := hv
  clear hc w1
  refine soft_one (some 17) rfl (Note.eq (.bool true)).f (by kernel_rfl) (by kernel_rfl) (fun w1 hc hk => ?_) (fun x2_8 w1 hc hv => ?_)
  · exact soft_call (args := #[.agg #[.slice (some ⟨w.heap.size + 1, 0, none⟩) 1 1, .slice (some ⟨w.heap.size + 1 + 1, 0, none⟩) 1 1, .slice (some ⟨w.heap.size + 1 + 1 + 1, 0, none⟩) 1 1]]) Try.func23 (by kernel_rfl) (by kernel_rfl) rfl (by kernel_rfl) (d_may true (HO.out _ hc) one_may)
  obtain rfl : x2_8 = _ := hv
  clear hc w1
  refine soft_one (some 18) rfl (Note.eq (.bool true)).f (by kernel_rfl) (by kernel_rfl) (fun w1 hc hk => ?_) (fun x2_9 w1 hc hv => ?_)
  · refine soft_at (w1 := w1) (u := .bool true) (fun ρ => (∀ v, ρ (.const v) = v) ∧ ρ (.tmp 15) = .bool true ∧ ρ (.tmp 17) = .bool true) ⟨fun v => rfl, by kernel_rfl, by kernel_rfl⟩ (fun ρ hρ => ?_) (Chg.refl _ _) rfl; (obtain ⟨g0, g1, g2⟩ := hρ; go_simp)
  obtain rfl : x2_9 = _ := hv
  clear hc w1
  refine soft_one (some 2) rfl (Note.eq (.bool true)).f (by kernel_rfl) (by kernel_rfl) (fun w1 hc hk => ?_) (fun x2_10 w1 hc hv => ?_)
  · exact soft_assign (.tmp 18) rfl (.bool true) (by kernel_rfl) rfl
  obtain rfl : x2_10 = _ := hv
  clear hc w1
  refine soft_end (fun b => b.tmps.getD 2 undef = .bool true ∧ b.defers = []) ⟨by kernel_rfl, by kernel_rfl⟩ (fun b hb w6 hc6 => ?_)
  obtain ⟨hb0, hbd⟩ := hb
  have HC6 : Hid (Chg (fun _ => False) w w6) := CW.out.trans hc6 (fun _ _ h => h)
  clear hc6
  go_wp2
  exact bodyPost_ret (v := .bool true) (by simp [results, Try.results4, go_sem, show b.tmps[2]?.getD undef = .bool true by rw [← Array.getD_eq_getD_getElem?]; exact hb0]) hbd ⟨rfl, HC6.out.below⟩
end Go.Proofs.Ytdfplhoijapoeaa.Lma
