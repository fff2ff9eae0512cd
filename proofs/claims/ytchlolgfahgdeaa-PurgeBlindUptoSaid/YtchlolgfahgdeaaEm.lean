/- The reference's Config, MayConfig, May, Seen; the program's May, by contracts. Conditions: what comes in reads so. -/
import Derived.Test.YtchlolgfahgdeaaEc
import Derived.Deep.RegionLaw
set_option linter.unusedVariables false
set_option linter.unusedSimpArgs false
namespace Go.Proofs.Ytchlolgfahgdeaa.Em
open Go.RowKit Go.Proofs.Ytchlolgfahgdeaa.Lib1 Go.Proofs.Ytchlolgfahgdeaa.Rel Go.Proofs.Ytchlolgfahgdeaa.Own Go.Proofs.Ytchlolgfahgdeaa.Ev Go.Proofs.Ytchlolgfahgdeaa.Ek Go.Proofs.Ytchlolgfahgdeaa.Ec Go.Proofs.Ytchlolgfahgdeaa.Lat Go.Proofs.Ytchlolgfahgdeaa.Lbl Go.Proofs.Ytchlolgfahgdeaa.Lck Go.Proofs.Ytchlolgfahgdeaa.Lmay Go.Proofs.Ytchlolgfahgdeaa.Lbw

theorem info_u64 : (Try.prog.info? 63).map (fun i => (i.zero, i.size, i.bytes)) = some (some (.int .u64 0), 1, 8) := by kernel_rfl
theorem info_int : (Try.prog.info? 3).map (fun i => (i.zero, i.size, i.bytes)) = some (some (.int .i64 0), 1, 8) := by kernel_rfl
theorem info_acc : (Try.prog.info? 96).map (fun i => (i.zero, i.size, i.bytes)) = some (some (.agg #[.int .i64 0, .int .i64 0, .int .i64 0, .int .i64 0, .int .i64 0]), 5, 40) := by kernel_rfl

/-- Flat lists of one's own read as cells. -/
theorem own_us {base : Nat} {w : World} {v : Value} {l : List Nat} {e : TypeId} (h : OwnL u64K e base w v l) : ∃ A c, v = .slice A l.length c ∧ Rd (fun k => base ≤ k ∧ k < w.heap.size) w A l.length c 1 (us l) := by
  obtain ⟨A, c, cells, he, hrd, hel⟩ := h.reads (bytes := 8)
  simp only [List.cons.injEq, and_true] at he
  have e1 := flat_cells (d := u64K) (fun x => [.int .u64 (x : Int)]) (fun _ _ _ _ h => h) (by decide) l cells _ w hrd.len hel
  rw [flatMap_one] at e1
  rw [e1] at hrd
  exact ⟨A, c, he, hrd⟩
theorem own_is {base : Nat} {w : World} {v : Value} {l : List Int} {e : TypeId} (h : OwnL (Kd.int .i64) e base w v l) : ∃ A c, v = .slice A l.length c ∧ Rd (fun k => base ≤ k ∧ k < w.heap.size) w A l.length c 1 (is l) := by
  obtain ⟨A, c, cells, he, hrd, hel⟩ := h.reads (bytes := 8)
  simp only [List.cons.injEq, and_true] at he
  have e1 := flat_cells (d := Kd.int .i64) (fun x => [.int .i64 x]) (fun _ _ _ _ h => h) (by decide) l cells _ w hrd.len hel
  rw [flatMap_one] at e1
  rw [e1] at hrd
  exact ⟨A, c, he, hrd⟩
theorem own_acs {base : Nat} {w : World} {v : Value} {l : List Acc} {e : TypeId} (h : OwnL accK e base w v l) : ∃ A c, v = .slice A l.length c ∧ Rd (fun k => base ≤ k ∧ k < w.heap.size) w A l.length c 5 (acs l) := by
  obtain ⟨A, c, cells, he, hrd, hel⟩ := h.reads (bytes := 40)
  simp only [List.cons.injEq, and_true] at he
  have e1 := flat_cells (d := accK) _ (fun _ _ _ _ h => h) (by decide) l cells _ w hrd.len hel
  rw [e1] at hrd
  exact ⟨A, c, he, hrd⟩
theorem is_reads {ok : Nat → Prop} {w : World} {A : Option Addr} {n c : Nat} {l : List Int} (hl : l.length = n) (h : Rd ok w A n c 1 (is l)) : (Kd.slice 8 (Kd.int .i64)).rel ok w l [.slice A n c] := by
  subst hl
  refine ⟨A, c, is l, rfl, h, fun i x hx => ?_⟩
  have hi := (List.getElem?_eq_some_iff.1 hx).1
  show ((is l).drop (i * 1)).take 1 = [.int .i64 x]
  rw [Nat.mul_one, List.drop_eq_getElem_cons (by rw [is_len]; exact hi)]
  have := (List.getElem?_eq_some_iff.1 hx).2
  simp [is, this]

theorem u64_flat (ok ok' : Nat → Prop) (w w' : World) (x : Nat) (cs : List Value) (h : u64K.rel ok w x cs) : u64K.rel ok' w' x cs := h
/-- In Config's first loop. -/
def LabRel (w0 : World) (b base : Nat) (c : Cfg) (i : Value) (wr : World) : Prop :=
  ∃ (k : Nat) (v : Value), k ≤ c.labels.length ∧ i = .int .i64 k ∧ wr.heap[b]? = some (.cells #[v, .slice none 0 0, .slice none 0 0] 81 (0, 0)) ∧ OwnL u64K 63 base wr v (c.labels.take k) ∧ Chg (fun k => k = b) w0 wr
def AccRel (w0 : World) (b base : Nat) (c : Cfg) (v1 : Value) (i : Value) (wr : World) : Prop :=
  ∃ (k : Nat) (v : Value), k ≤ c.accounts.length ∧ i = .int .i64 k ∧ wr.heap[b]? = some (.cells #[v1, v, .slice none 0 0] 81 (0, 0)) ∧ OwnL u64K 63 base wr v1 c.labels ∧ OwnL accK 96 base wr v (c.accounts.take k) ∧ Chg (fun k => k = b) w0 wr

set_option maxRecDepth 100000 in
set_option maxHeartbeats 3200000 in
theorem config_any {ok : Nat → Prop} {w : World} {A1 A2 A3 : Option Addr} {n1 n2 n3 c1 c2 c3 : Nat} {c : Cfg} (h : CfgAt ok w A1 A2 A3 n1 n2 n3 c1 c2 c3 c) (hok : ∀ k, ok k → k < w.heap.size) (hf : cfgFits c) :
    Calls Try.prog 54 #[.agg #[.slice A1 n1 c1, .slice A2 n2 c2, .slice A3 n3 c3]] w fun e w' => ∃ B1 B2 B3 d1 d2 d3, e = .returned (.agg #[.slice B1 n1 d1, .slice B2 n2 d2, .slice B3 n3 d3]) ∧ CfgAt (fun k => w.heap.size ≤ k ∧ k < w'.heap.size) w' B1 B2 B3 n1 n2 n3 d1 d2 d3 c ∧ Chg (fun _ => False) w w' := by
  obtain rfl := h.l3
  have HH : Hid (∀ w', (∀ k, ok k → w'.heap[k]? = w.heap[k]?) → CfgAt ok w' A1 A2 A3 n1 n2 c.sessions.length c1 c2 c3 c) := fun w' hc => h.move hc
  have HOK := Lib.hid hok
  have m1 := h.m1
  have m2 := h.m2
  have m3 := h.m3
  have L1 := Lib.hid h.l1
  have L2 := Lib.hid h.l2
  have L3 := Lib.hid h.l3
  have HBig := Lib.hid h.big
  obtain ⟨f1, f2, f3⟩ := hf
  rw [h.l1] at f1
  rw [h.l2] at f2
  clear h hok
  obtain ⟨w3, hw3⟩ : ∃ w3, w3 = ((w.alloc (.cells #[.slice A1 n1 c1, .slice A2 n2 c2, .slice A3 c.sessions.length c3] 27)).alloc (.cells #[.slice none 0 0, .slice none 0 0, .slice none 0 0] 81)).alloc (.cells #[.slice none 0 0, .slice none 0 0, .slice none 0 0] 81) := ⟨_, rfl⟩
  have HW3 := Lib.hid hw3
  have hs3 : w3.heap.size = w.heap.size + 1 + 1 + 1 := by rw [hw3]; simp only [World.size_alloc]
  have B0 : Hid (w3.heap[w.heap.size]? = some (.cells #[.slice A1 n1 c1, .slice A2 n2 c2, .slice A3 c.sessions.length c3] 27 (0, 0))) := by show _ = _; rw [hw3]; exact heap_old _ (heap_old _ (heap_new w _))
  have B1 : Hid (w3.heap[w.heap.size + 1]? = some (.cells #[.slice none 0 0, .slice none 0 0, .slice none 0 0] 81 (0, 0))) := by show _ = _; rw [hw3]; exact heap_old _ (heap_new' _ _ (World.size_alloc ..).symm)
  have B2 : Hid (w3.heap[w.heap.size + 1 + 1]? = some (.cells #[.slice none 0 0, .slice none 0 0, .slice none 0 0] 81 (0, 0))) := by show _ = _; rw [hw3]; exact heap_new' _ _ (by simp only [World.size_alloc])
  have C3 : Hid (Chg (fun _ => False) w w3) := by show Chg _ _ _; rw [hw3]; exact (((Chg.refl _ w).alloc _).alloc _).alloc _
  have HS3 := Lib.hid hs3
  clear hw3 hs3
  go_enter Try.func54, Try.ntmps54
  go_wp2
  go_loopw [4] (fun i wr => LabRel w3 (w.heap.size + 1 + 1) (w.heap.size + 1 + 1 + 1) c i wr) (fun i _ => n1 - (intOf i).toNat)
  case atStart => exact ⟨0, _, Nat.zero_le _, rfl, by rw [← HW3.out]; exact B2.out, OwnL.nil _ _ _ _, by rw [← HW3.out]; exact Chg.refl _ _⟩
  case round =>
    obtain ⟨k, v, hk, rfl, hb, ho, hc⟩ := hrel
    have hk' : k ≤ n1 := by have := L1.out; omega
    have HO := Lib.hid ho
    have HC := Lib.hid hc
    have HB := Lib.hid hb
    have hsz := hc.size
    have hs3 := HS3.out
    have hb0 := hc.at_ B0.out (fun h => by omega)
    have k0 := cell_at hb0 0 rfl
    have k1 := cell_at hb0 1 rfl
    have k2 := cell_at hb0 2 rfl
    have z0 := lt_of _ hb
    obtain ⟨Av, cv, ev⟩ := ho.form
    rw [take_len hk] at ev
    subst ev
    have o0 := cell_at hb 0 rfl
    have o1 := free_at hb 0
    clear ho hc hb hb0 hs3
    have HM : Hid (∀ j, j < w.heap.size → (_ : World).heap[j]? = w.heap[j]?) := fun j hj => (HC.out.block j (by have := HS3.out; omega) (fun h => by omega)).trans (C3.out.block j hj (fun h => h))
    by_cases hlt : k < n1
    · have hkl : k < c.labels.length := by have := L1.out; omega
      have hx : c.labels[k]? = some c.labels[k] := List.getElem?_eq_getElem hkl
      obtain ⟨g, off, rfl, hg, hcell⟩ := rd_us (HH.out _ (fun j hj => HM.out j (HOK.out j hj))).r1 (by omega)
      have q0 := hcell k hlt
      rw [List.getD_eq_getElem?_getD, hx] at q0
      simp only [Option.getD_some] at q0
      have HX := Lib.hid hx
      generalize c.labels[k] = x at *
      have hgl := HOK.out g hg
      clear hcell hx hg
      have i1 : (k : Int) < (n1 : Int) := by omega
      have i0 : (0 : Int) ≤ (k : Int) := by omega
      go_wp2_with fail
      go_region_law (first
        | (refine step_push rfl (.tmp 15) (.tmp 21) 78 rfl u64K (w.heap.size + 1 + 1 + 1) 63 8 (.int .u64 0) Try.underlying78 info_u64 rfl (by decide) (by decide) (.slice Av k cv) (c.labels.take k) rfl ?aO x #[.int .u64 (x : Int)] _ rfl ?aG rfl ?aL ?aB ?_; (case aO => exact HO.out.up (((Chg.refl _ _).alloc _).drew)); (case aG => exact heap_new _ _); (case aL => rw [take_len hk]; omega); (case aB => simp only [World.drew, World.size_alloc]; omega); intro g3 cap3 w4 o4 ch4; rw [take_len hk] at o4 ⊢; have hb4 := ch4.at_ (heap_old _ HB.out) (fun he => by have := (HO.out.low _ he).1; omega); have r0 := cell_at hb4 0 rfl; have r1 := free_at hb4 0))
      all_goals go_wp2
      all_goals go_roundw
      all_goals first
        | (show _ < _; simp [intOf]; omega)
        | exact ⟨k + 1, _, by omega, by go_num, by have := heap_set hb4 0 (.slice (some ⟨g3, 0, none⟩) (k + 1) cap3); simpa using this, by rw [take_snoc HX.out]; exact o4.chg ((Chg.refl (fun j => j = w.heap.size + 1 + 1) w4).set (.inr rfl)) (fun j h1 _ h2 => by omega), ((HC.out.drew.alloc _).trans ch4 (fun j h1 he => by have := (HO.out.low _ he).1; have := HS3.out; omega)).set (.inr rfl)⟩
    · have hkk : k = n1 := by omega
      have ho2 := HO.out
      rw [hkk, ← L1.out, List.take_length] at ho2
      rw [L1.out] at ho2
      have hv := Lib.hid ho2
      clear ho2
      subst hkk
      clear HO
      go_wp2
      go_loopw [5] (fun i wr => AccRel w3 (w.heap.size + 1 + 1) (w.heap.size + 1 + 1 + 1) c (.slice Av k cv) i wr) (fun i _ => n2 - (intOf i).toNat)
      case atStart => exact ⟨0, _, Nat.zero_le _, rfl, HB.out, hv.out, OwnL.nil _ _ _ _, HC.out⟩
      case round =>
        clear HM k0 k1 k2 z0 o0 o1 HB HC hv hsz
        obtain ⟨j, v, hj, rfl, hb, hv1, ho, hc⟩ := hrel
        have hj' : j ≤ n2 := by have := L2.out; omega
        have HO := Lib.hid ho
        have HV := Lib.hid hv1
        have HC := Lib.hid hc
        have HB := Lib.hid hb
        have hsz := hc.size
        have hs3 := HS3.out
        have hb0 := hc.at_ B0.out (fun h => by omega)
        have k0 := cell_at hb0 0 rfl
        have k1 := cell_at hb0 1 rfl
        have k2 := cell_at hb0 2 rfl
        have z0 := lt_of _ hb
        have z1 : w.heap.size < w3.heap.size := by omega
        obtain ⟨Aw, cw, ew⟩ := ho.form
        rw [take_len hj] at ew
        subst ew
        have o0 := cell_at hb 0 rfl
        have o1 := cell_at hb 1 rfl
        have o2 := cell_at hb 2 rfl
        have o3 := free_at hb 1
        have o4 := free_at hb 2
        clear ho hc hb hb0 hs3 hv1
        have HM : Hid (∀ j, j < w.heap.size → (_ : World).heap[j]? = w.heap[j]?) := fun j hj => (HC.out.block j (by have := HS3.out; omega) (fun h => by omega)).trans (C3.out.block j hj (fun h => h))
        by_cases hlt : j < n2
        · have hjl : j < c.accounts.length := by have := L2.out; omega
          have hx : c.accounts[j]? = some c.accounts[j] := List.getElem?_eq_getElem hjl
          obtain ⟨g, off, rfl, hg, hcell⟩ := rd_acs (HH.out _ (fun j hj => HM.out j (HOK.out j hj))).r2 (by omega)
          obtain ⟨f0, f1', f2', f3', f4⟩ := hcell j hlt
          have hgd : c.accounts.getD j Acc.zero = c.accounts[j] := by rw [List.getD_eq_getElem?_getD, hx]; rfl
          rw [hgd] at f0 f1' f2' f3' f4
          have HX := Lib.hid hx
          generalize c.accounts[j] = x at *
          have hgl := HOK.out g hg
          clear hcell hx hg hgd
          have i1 : (j : Int) < (n2 : Int) := by omega
          go_wp2_with (at_builtin; refine ap_push' rfl (.tmp 37) (.tmp 49) 79 rfl accK (w.heap.size + 1 + 1 + 1) 96 40 _ Try.underlying79 info_acc rfl (by decide) (by decide) (.slice Aw j cw) (c.accounts.take j) rfl ?aO x _ _ rfl ?aG ?aR ?aL ?aB ?_; (case aG => simp only [World.size_alloc]); (case aO => exact HO.out.up ((Chg.refl _ _).alloc _)); (case aR => rfl); (case aL => rw [take_len hj]; omega); (case aB => simp only [World.size_alloc]; omega); intro v4 w4 p4 ch4; have hb4 := ch4.at_ (heap_old _ HB.out) (fun he => by have := (HO.out.low _ he).1; omega); have r0 := cell_at hb4 1 rfl; have r1 := free_at hb4 1; obtain ⟨A4, c4, e4⟩ := p4.form; subst e4)
          go_roundw
          case rel =>
            have CH := ((Chg.refl (fun q => q = w.heap.size + 1 + 1 ∨ (Value.slice Aw j cw).ownBlock = some q) _).alloc _).trans ch4 (fun q _ h => .inr h)
            have CH2 := CH.set (b := w.heap.size + 1 + 1) (.inr (.inl rfl)) (i := 1) (u := .slice A4 (j + 1) c4)
            refine ⟨j + 1, _, by omega, by go_num, by have := heap_set hb4 1 (.slice A4 (j + 1) c4); simpa using this, HV.out.flat u64_flat (fun q hq => CH2.block q (HV.out.low q hq).2 (fun h => ?_)), by rw [take_snoc HX.out]; have o5 := p4; rw [List.length_append, take_len hj] at o5; exact o5.chg ((Chg.refl (fun j => j = w.heap.size + 1 + 1) w4).set (.inr rfl)) (fun q h1 _ h2 => by omega), HC.out.trans CH2 (fun q h1 h => ?_)⟩
            · rcases h with h | h
              · have := (HV.out.low q hq).1; omega
              · exact HV.out.apart HO.out (by decide) q hq h
            · rcases h with h | h
              · exact h
              · have := (HO.out.low q h).1; have := HS3.out; omega
          case measure => simp [intOf]; omega
        · have hjj : j = n2 := by omega
          have ho2 := HO.out
          rw [hjj, ← L2.out, List.take_length] at ho2
          rw [L2.out] at ho2
          have hw2 := Lib.hid ho2
          clear ho2
          subst hjj
          clear HO
          have b1 := HC.out.at_ B1.out (fun h => by omega)
          have t0 := cell_at b1 0 rfl
          have t1 := cell_at b1 1 rfl
          have t2 := cell_at b1 2 rfl
          have t3 := free_at b1
          have HB1 := Lib.hid b1
          clear b1
          have HSe := Lib.hid (HH.out _ (fun j hj => HM.out j (HOK.out j hj)))
          go_wp2_with (at_builtin; refine ap_all rfl (.tmp 53) (.tmp 55) 25 rfl (Kd.int .i64) _ 3 8 (.int .i64 0) Try.underlying25 info_int rfl (by decide) (by decide) (.slice none 0 0) [] rfl (OwnL.nil _ _ _ _) A3 c3 c.sessions 8 rfl (is_reads rfl HSe.out.r3) (fun _ _ h => h) ?aL (Nat.le_refl _) ?_; (case aL => simp only [List.length_nil]; omega); intro v5 w5 p5 ch5; have h5 := ch5.mono (T := fun _ => False) (fun k _ h => by cases h); obtain ⟨A5, c5, e5⟩ := p5.form; subst e5; have hb5 := h5.at_ HB.out (fun h => h); have hb6 := h5.at_ HB1.out (fun h => h); have y0 := cell_at hb5 0 rfl; have y1 := cell_at hb5 1 rfl; have y2 := cell_at hb5 2 rfl; have y3 := free_at hb5 2; have x0 := cell_at hb6 0 rfl; have x1 := cell_at hb6 1 rfl; have x2 := cell_at hb6 2 rfl; have x3 := free_at hb6)
          clear t0 t1 t2 t3
          refine bodyPost_ret (v := .agg #[.slice Av k cv, .slice Aw j cw, .slice A5 c.sessions.length c5]) (by simp [results, Try.results54, go_sem, x0, x1, x2, x3, y0, y1, y2, y3]) rfl ?_
          have key : ∀ wf, Chg (fun q => w.heap.size ≤ q ∧ q < w.heap.size + 1 + 1 + 1) w5 wf → CfgAt (fun q => w.heap.size ≤ q ∧ q < wf.heap.size) wf Av Aw A5 k j c.sessions.length cv cw c5 c ∧ Chg (fun _ => False) w wf := by
            intro wf hc
            have CW := (h5.mono (T := fun q => w.heap.size ≤ q ∧ q < w.heap.size + 1 + 1 + 1) (fun _ _ h => h.elim)).trans hc (fun _ _ h => h)
            have hsw := CW.size
            have e1 := HV.out.chg CW (fun q h1 _ h2 => by omega)
            have e2 := hw2.out.chg CW (fun q h1 _ h2 => by omega)
            have e3 := p5.chg hc (fun q h1 _ h2 => by have := HS3.out; omega)
            obtain ⟨_, _, g1, r1⟩ := own_us e1
            obtain ⟨_, _, g2, r2⟩ := own_acs e2
            obtain ⟨_, _, g3, r3⟩ := own_is e3
            simp only [Value.slice.injEq, List.nil_append] at g1 g2 g3
            obtain ⟨rfl, g1, rfl⟩ := g1
            obtain ⟨rfl, g2, rfl⟩ := g2
            obtain ⟨rfl, -, rfl⟩ := g3
            refine ⟨⟨L1.out, L2.out, rfl, ?_, ?_, ?_, HBig.out, m1, m2, m3⟩, (C3.out.trans HC.out (fun q hq h => by omega)).trans CW (fun q hq h => by omega)⟩
            · rw [g1]; exact r1.mono (fun q hq => ⟨by omega, hq.2⟩)
            · rw [g2]; exact r2.mono (fun q hq => ⟨by omega, hq.2⟩)
            · exact r3.mono (fun q hq => ⟨by have := HS3.out; omega, hq.2⟩)
          refine ⟨_, _, _, _, _, _, rfl, key _ ?_⟩
          repeat (refine Chg.set ?_ (.inr (by omega)))
          exact Chg.refl _ _
end Go.Proofs.Ytchlolgfahgdeaa.Em
