/- The law's changed: an event turned where a place does not see it. Conditions: what comes in reads so; the config may be. -/
import Derived.Test.YtchlolgfahgdeaaEcs
import Derived.Test.YtchlolgfahgdeaaEmx
import Derived.Test.YtchlolgfahgdeaaEvm
import Derived.Test.YtchlolgfahgdeaaEn
import Derived.Test.YtchlolgfahgdeaaEr
import Derived.Test.YtchlolgfahgdeaaSto
import Derived.Deep.RegionWith
import Derived.Deep.CutRange
import Derived.Deep.Cut
import Derived.RegionTactic
import Derived.Outline
import Derived.Deep.CutBlock
set_option linter.unusedVariables false
set_option linter.unusedSimpArgs false
namespace Go.Proofs.Ytchlolgfahgdeaa.Ech
open Go.RowKit Go.Proofs.Ytchlolgfahgdeaa.Lib1 Go.Proofs.Ytchlolgfahgdeaa.Rel Go.Proofs.Ytchlolgfahgdeaa.Own Go.Proofs.Ytchlolgfahgdeaa.Ev Go.Proofs.Ytchlolgfahgdeaa.Ek Go.Proofs.Ytchlolgfahgdeaa.Lat Go.Proofs.Ytchlolgfahgdeaa.Ec Go.Proofs.Ytchlolgfahgdeaa.Em Go.Proofs.Ytchlolgfahgdeaa.En Go.Proofs.Ytchlolgfahgdeaa.Emx Go.Proofs.Ytchlolgfahgdeaa.Er Go.Proofs.Ytchlolgfahgdeaa.Lbl Go.Proofs.Ytchlolgfahgdeaa.Lmay


section
variable {w : World} {ok okc : Nat → Prop} {A1 A2 A3 : Option Addr} {n1 n2 n3 c1 c2 c3 : Nat} {c : Cfg}
set_option maxRecDepth 100000 in
set_option maxHeartbeats 40000000 in
theorem changed_any (h : CfgAt okc w A1 A2 A3 n1 n2 n3 c1 c2 c3 c) (hokc : ∀ k, okc k → k < w.heap.size) (hcf : cfgFits c) (place : Nat) (hpl : place < n1) (hmb : mayB c = true) (x y : Ev) (V S V' S' : Value)
    (hV : bytesK.rel ok w x.req.value [V]) (hS : strikesK.rel ok w x.strikes [S]) (hV' : bytesK.rel ok w y.req.value [V']) (hS' : strikesK.rel ok w y.strikes [S']) (hok : ∀ k, ok k → k < w.heap.size) (hf : evK.fits x) (hf' : evK.fits y) :
    Calls Try.prog 29 #[.agg #[.slice A1 n1 c1, .slice A2 n2 c2, .slice A3 n3 c3], .int .i64 (place : Int), evV x V S, evV y V' S'] w fun e w' => ∃ ys, e = .returned (.agg ys.toArray) ∧ evK.rel (fun k => w.heap.size ≤ k ∧ k < w'.heap.size) w' (Ev.changed c place x y) ys ∧ Chg (fun _ => False) w w' := by
  obtain ⟨AV, cV, eV, -⟩ := slice_form hV
  obtain ⟨AS, cS, eS, -⟩ := slice_form hS
  obtain ⟨AV', cV', eV', -⟩ := slice_form hV'
  obtain ⟨AS', cS', eS', -⟩ := slice_form hS'
  simp only [List.cons.injEq, and_true] at eV eS eV' eS'
  subst eV eS eV' eS'
  have HX : Hid (∀ W, Chg (fun _ => False) w W → Calls Try.prog 16 #[evV x (.slice AV x.req.value.length cV) (.slice AS x.strikes.length cS)] W fun e w' => ∃ V' S' rows, e = .returned (evV x V' S') ∧ OwnL u8K 5 W.heap.size w' V' x.req.value ∧ Mx w' (fun j => W.heap.size ≤ j ∧ j < w'.heap.size) S' rows x.strikes ∧ Chg (fun _ => False) W w') :=
    fun W hc => copy_mx W ok x _ _ (bytesK.move (fun k hk => hc.block k (hok k hk) (fun h => h)) hV) (strikesK.move (fun k hk => hc.block k (hok k hk) (fun h => h)) hS) (fun k hk => Nat.lt_of_lt_of_le (hok k hk) hc.size) hf
  have HY : Hid (∀ W, Chg (fun _ => False) w W → Calls Try.prog 16 #[evV y (.slice AV' y.req.value.length cV') (.slice AS' y.strikes.length cS')] W fun e w' => ∃ V' S' rows, e = .returned (evV y V' S') ∧ OwnL u8K 5 W.heap.size w' V' y.req.value ∧ Mx w' (fun j => W.heap.size ≤ j ∧ j < w'.heap.size) S' rows y.strikes ∧ Chg (fun _ => False) W w') :=
    fun W hc => copy_mx W ok y _ _ (bytesK.move (fun k hk => hc.block k (hok k hk) (fun h => h)) hV') (strikesK.move (fun k hk => hc.block k (hok k hk) (fun h => h)) hS') (fun k hk => Nat.lt_of_lt_of_le (hok k hk) hc.size) hf'
  have HC := Lib.hid h
  have HOKC := Lib.hid hokc
  have HFX := Lib.hid hf
  have HFY := Lib.hid hf'
  clear h hokc hV hS hV' hS' hok hf hf'
  unfold evV evCs
  go_enter Try.func29, Try.ntmps29
  go_upto_region 1 with (fail)
  obtain ⟨wb, hwb⟩ : ∃ wb, wb = (((w.alloc (.cells #[.slice A1 n1 c1, .slice A2 n2 c2, .slice A3 n3 c3] 27)).alloc (.cells (evCs x (.slice AV x.req.value.length cV) (.slice AS x.strikes.length cS)).toArray 37)).alloc (.cells (evCs y (.slice AV' y.req.value.length cV') (.slice AS' y.strikes.length cS')).toArray 37)).alloc (.cells #[.int .i64 0, .int .i64 0, .int .i64 0, .int .i64 0, .int .i64 0, .int .i64 0, .string ⟨#[]⟩, .string ⟨#[]⟩, .slice none 0 0, .int .i64 0, .int .i64 0, .slice none 0 0] 37) := ⟨_, rfl⟩
  have hcb : Chg (fun _ => False) w wb := by rw [hwb]; exact ((((Chg.refl _ w).alloc _).alloc _).alloc _).alloc _
  have hsb : wb.heap.size = w.heap.size + 4 := by rw [hwb]; simp
  have h4 : wb.heap[w.heap.size]? = some (.cells #[.slice A1 n1 c1, .slice A2 n2 c2, .slice A3 n3 c3] 27 (0, 0)) := by rw [hwb]; exact heap_old _ (heap_old _ (heap_old _ (heap_new _ _)))
  have h6 : wb.heap[w.heap.size + 1]? = some (.cells (evCs x (.slice AV x.req.value.length cV) (.slice AS x.strikes.length cS)).toArray 37 (0, 0)) := by rw [hwb]; exact heap_old _ (heap_old _ (heap_new' _ _ (by simp)))
  have h7 : wb.heap[w.heap.size + 2]? = some (.cells (evCs y (.slice AV' y.req.value.length cV') (.slice AS' y.strikes.length cS')).toArray 37 (0, 0)) := by rw [hwb]; exact heap_old _ (heap_new' _ _ (by simp))
  have h8 : wb.heap[w.heap.size + 3]? = some (.cells #[.int .i64 0, .int .i64 0, .int .i64 0, .int .i64 0, .int .i64 0, .int .i64 0, .string ⟨#[]⟩, .string ⟨#[]⟩, .slice none 0 0, .int .i64 0, .int .i64 0, .slice none 0 0] 37 (0, 0)) := by rw [hwb]; exact heap_new' _ _ (by simp)
  have HCB := Lib.hid hcb
  have HSB := Lib.hid hsb
  have H4 := Lib.hid h4
  have H6 := Lib.hid h6
  have H7 := Lib.hid h7
  have H8 := Lib.hid h8
  unfold evCs at hwb
  rw [← hwb]
  clear hwb hcb hsb h4 h6 h7 h8
  obtain ⟨b4, hb4⟩ : ∃ b, b = w.heap.size := ⟨_, rfl⟩
  obtain ⟨b6, hb6⟩ : ∃ b, b = w.heap.size + 1 := ⟨_, rfl⟩
  obtain ⟨b7, hb7⟩ : ∃ b, b = w.heap.size + 2 := ⟨_, rfl⟩
  obtain ⟨b8, hb8⟩ : ∃ b, b = w.heap.size + 3 := ⟨_, rfl⟩
  have n46 : b4 < b6 := by omega
  have n67 : b6 < b7 := by omega
  have n78 : b7 < b8 := by omega
  have n8b : b8 < wb.heap.size := by have := HSB.out; omega
  have nw : w.heap.size ≤ b4 := by omega
  rw [show w.heap.size + 1 + 1 + 1 = w.heap.size + 3 by omega, show w.heap.size + 1 + 1 = w.heap.size + 2 by omega]
  simp only [← hb8]
  simp only [← hb7]
  simp only [← hb6]
  simp only [← hb4]
  rw [← hb8] at H8
  rw [← hb7] at H7
  rw [← hb6] at H6
  rw [← hb4] at H4
  clear hb4 hb6 hb7 hb8 HSB
  have c6 := cells12 H6.out
  have c7 := cells12 H7.out
  go_cut [12] from 12 to 15 (fun s wx => ∃ V1 S1 V2 S2 rows E E', Two wb wx b6 b7 x y V1 S1 V2 S2 rows E E')
  case first =>
    --DEV sorry
    obtain ⟨p0, p1, p2, p3, p4, p5, p6, p7, p8, p9, p10, p11⟩ := c6
    obtain ⟨r0, r1, r2, r3, r4, r5, r6, r7, r8, r9, r10, r11⟩ := c7
    go_region_with (first
      | (go_at_call 16; (with_reducible refine (HX.out _ (by repeat' (first | exact HCB.out | apply Chg.drew))).mono ?_); rintro e w1 ⟨V1, S1, rows, rfl, o1, m1, h1⟩; obtain ⟨a1, k1, e1⟩ := o1.form; subst e1; obtain ⟨a2, k2, e2, -⟩ := Rd.of_own m1.own; subst e2; have C1 : Hid (Chg (fun _ => False) wb w1) := from_like h1 rfl rfl rfl rfl; have M1 : Hid (Mx w1 (fun j => wb.heap.size ≤ j ∧ j < w1.heap.size) _ rows x.strikes) := m1; have O1 : Hid (OwnL u8K 5 wb.heap.size w1 _ x.req.value) := o1; obtain ⟨q0, q1, q2, q3, q4, q5, q6, q7, q8, q9, q10, q11⟩ := cells12 (C1.out.at_ H7.out (fun h => h)); clear o1 m1 h1)
      | (go_at_call 16; (with_reducible refine (HY.out _ (by repeat' (first | exact HCB.out.trans C1.out (fun _ _ h => h) | apply Chg.drew))).mono ?_); rintro e w2 ⟨V2, S2, rows', rfl, o2, m2, h2⟩; obtain ⟨a3, k3, e3⟩ := o2.form; subst e3; obtain ⟨a4, k4, e4, -⟩ := Rd.of_own m2.own; subst e4; have C2 : Hid (Chg (fun _ => False) w1 w2) := from_like h2 rfl rfl rfl rfl; have M2 : Hid (Mx w2 (fun j => w1.heap.size ≤ j ∧ j < w2.heap.size) _ rows' y.strikes) := m2; have O2 : Hid (OwnL u8K 5 w1.heap.size w2 _ y.req.value) := o2; clear q0 q1 q2 q3 q4 q5 q6 q7 q8 q9 q10 q11; obtain ⟨q0, q1, q2, q3, q4, q5, q6, q7, q8, q9, q10, q11⟩ := cells12 (C2.out.at_ (C1.out.at_ H7.out (fun h => h)) (fun h => h)); obtain ⟨t0, t1, t2, t3, t4, t5, t6, t7, t8, t9, t10, t11⟩ := cells12 (C2.out.at_ (C1.out.at_ H6.out (fun h => h)) (fun h => h)); have f6 := free_at (C2.out.at_ (C1.out.at_ H6.out (fun h => h)) (fun h => h)); have f7 := free_at (C2.out.at_ (C1.out.at_ H7.out (fun h => h)) (fun h => h)); clear o2 m2 h2))
    all_goals
      go_wp2
      go_meet
      case rel =>
        as_aux_lemma =>
          obtain ⟨wm, wf, e1, e2⟩ : ∃ wm wf : World, wm = ((((((((((((w2.setCell ⟨b6, 0, none⟩ (.int .i64 x.kind)).setCell ⟨b6, 1, none⟩ (.int .i64 x.session)).setCell ⟨b6, 2, none⟩ (.int .i64 x.req.kind)).setCell ⟨b6, 3, none⟩ (.int .i64 x.req.life)).setCell ⟨b6, 4, none⟩ (.int .i64 x.req.number)).setCell ⟨b6, 5, none⟩ (.int .i64 x.req.place)).setCell ⟨b6, 6, none⟩ (.string x.req.key)).setCell ⟨b6, 7, none⟩ (.string x.req.to)).setCell ⟨b6, 8, none⟩ (.slice a1 x.req.value.length k1)).setCell ⟨b6, 9, none⟩ (.int .i64 x.req.limit)).setCell ⟨b6, 10, none⟩ (.int .i64 x.place)).setCell ⟨b6, 11, none⟩ (.slice a2 x.strikes.length k2)) ∧
            wf = ((((((((((((wm.setCell ⟨b7, 0, none⟩ (.int .i64 y.kind)).setCell ⟨b7, 1, none⟩ (.int .i64 y.session)).setCell ⟨b7, 2, none⟩ (.int .i64 y.req.kind)).setCell ⟨b7, 3, none⟩ (.int .i64 y.req.life)).setCell ⟨b7, 4, none⟩ (.int .i64 y.req.number)).setCell ⟨b7, 5, none⟩ (.int .i64 y.req.place)).setCell ⟨b7, 6, none⟩ (.string y.req.key)).setCell ⟨b7, 7, none⟩ (.string y.req.to)).setCell ⟨b7, 8, none⟩ (.slice a3 y.req.value.length k3)).setCell ⟨b7, 9, none⟩ (.int .i64 y.req.limit)).setCell ⟨b7, 10, none⟩ (.int .i64 y.place)).setCell ⟨b7, 11, none⟩ (.slice a4 y.strikes.length k4)) := ⟨_, _, rfl, rfl⟩
          have g6 := set12h (a0 := .int .i64 x.kind) (a1 := .int .i64 x.session) (a2 := .int .i64 x.req.kind) (a3 := .int .i64 x.req.life) (a4 := .int .i64 x.req.number) (a5 := .int .i64 x.req.place) (a6 := .string x.req.key) (a7 := .string x.req.to) (a8 := .slice a1 x.req.value.length k1) (a9 := .int .i64 x.req.limit) (a10 := .int .i64 x.place) (a11 := .slice a2 x.strikes.length k2) (C2.out.at_ (C1.out.at_ H6.out (fun h => h)) (fun h => h))
          rw [← e1] at g6
          have cm : Chg (fun k => k = b6) w2 wm := by rw [e1]; exact set12c
          have cf : Chg (fun k => k = b7) wm wf := by rw [e2]; exact set12c
          have g7 := set12h (a0 := .int .i64 y.kind) (a1 := .int .i64 y.session) (a2 := .int .i64 y.req.kind) (a3 := .int .i64 y.req.life) (a4 := .int .i64 y.req.number) (a5 := .int .i64 y.req.place) (a6 := .string y.req.key) (a7 := .string y.req.to) (a8 := .slice a3 y.req.value.length k3) (a9 := .int .i64 y.req.limit) (a10 := .int .i64 y.place) (a11 := .slice a4 y.strikes.length k4) ((cm.block b7 (lt_of _ (C2.out.at_ (C1.out.at_ H7.out (fun h => h)) (fun h => h))) (by omega)).trans (C2.out.at_ (C1.out.at_ H7.out (fun h => h)) (fun h => h)))
          rw [← e2] at g7
          have key := two_end C1.out C2.out n67 (by omega) M1.out O1.out M2.out O2.out cm cf g6 g7
          rw [e2, e1] at key
          exact key
  case rest =>
    clear c6 c7
    obtain ⟨V1, S1, V2, S2, rows, E, E', htw⟩ := hcut
    obtain ⟨a1, k1, a2, k2, a3, k3, a4, k4, rfl, rfl, rfl, rfl⟩ := htw.forms
    have HC0 : Hid (∀ W, Chg (fun k => k = b6 ∨ k = b7) wb W → CfgAt (fun k => k < W.heap.size) W A1 A2 A3 n1 n2 n3 c1 c2 c3 c) := Lib.hid (fun W hc => by
      have hcw : Chg (fun _ => False) w W := HCB.out.trans hc (fun k hk h => by omega)
      exact (cfg_up HC.out HOKC.out hcw).mono (fun k hk => Nat.lt_of_lt_of_le (HOKC.out k hk) hcw.size))
    have HB4 : Hid (∀ W, Chg (fun k => k = b6 ∨ k = b7) wb W → W.heap[b4]? = some (.cells #[.slice A1 n1 c1, .slice A2 n2 c2, .slice A3 n3 c3] 27 (0, 0))) := Lib.hid (fun W hc => hc.at_ H4.out (by omega))
    have HB8 : Hid (∀ W, Chg (fun k => k = b6 ∨ k = b7) wb W → W.heap[b8]? = some (.cells #[.int .i64 0, .int .i64 0, .int .i64 0, .int .i64 0, .int .i64 0, .int .i64 0, .string ⟨#[]⟩, .string ⟨#[]⟩, .slice none 0 0, .int .i64 0, .int .i64 0, .slice none 0 0] 37 (0, 0))) := Lib.hid (fun W hc => hc.at_ H8.out (by omega))
    have HM : Hid (∀ W, Chg (fun k => k = b6 ∨ k = b7) wb W → ∀ (z : Ev) (AV AS : Option Addr) (nV cV nS cS : Nat), Calls Try.prog 17 #[.agg #[.slice A1 n1 c1, .slice A2 n2 c2, .slice A3 n3 c3], .agg (evCs z (.slice AV nV cV) (.slice AS nS cS)).toArray] W fun e w' => e = .returned (.bool (Ev.may c z)) ∧ Chg (fun _ => False) W w') :=
      Lib.hid (fun W hc z AV AS nV cV nS cS => rmayE_any (HC0.out W hc) (fun k hk => hk) hcf z AV AS nV cV nS cS)
    clear H4 H6 H7 H8 HX HY HC HOKC
    have HT := Lib.hid htw
    obtain ⟨p0, p1, p2, p3, p4, p5, p6, p7, p8, p9, p10, p11⟩ := cells12 htw.h6
    obtain ⟨r0, r1, r2, r3, r4, r5, r6, r7, r8, r9, r10, r11⟩ := cells12 htw.h7
    have g4 := HB4.out _ htw.chg
    have d0 := cell_at g4 0 rfl
    have d1 := cell_at g4 1 rfl
    have d2 := cell_at g4 2 rfl
    clear htw g4
    unfold evCs at HM
    by_cases hm : Ev.may c x = true
    · have HMX := Lib.hid (HM.out _ HT.out.chg x a1 a2 x.req.value.length k1 x.strikes.length k2)
      rw [hm] at HMX
      have HNM := Lib.hid hm
      clear hm
      go_wp2_with fail
      refine HMX.out.mono ?_
      rintro e w3 ⟨rfl, hc3⟩
      have HT3 := Lib.hid (HT.out.up hc3)
      clear p0 p1 p2 p3 p4 p5 p6 p7 p8 p9 p10 p11 r0 r1 r2 r3 r4 r5 r6 r7 r8 r9 r10 r11 d0 d1 d2 HT HMX hc3
      have hlx : x.strikes.length ≤ 140737488351232 := by have := HFX.out.2.1; omega
      have HN1 := Lib.hid (HC0.out wb (Chg.refl _ _)).l1
      go_upto_block 0 with (fail)
      go_cut [9, 10] from 21 to 81 (fun s9 s10 wx => Two wb wx b6 b7 { x with strikes := mixes c place x.strikes y.strikes } y (.slice a1 x.req.value.length k1) (.slice a2 x.strikes.length k2) (.slice a3 y.req.value.length k3) (.slice a4 y.strikes.length k4) rows E E')
      case first =>
        go_wp2
        go_loopw [9] (fun i wr => ∃ k : Nat, k ≤ x.strikes.length ∧ i = .int .i64 k ∧ Two wb wr b6 b7 { x with strikes := mixesTo c place x.strikes y.strikes k 0 } y (.slice a1 x.req.value.length k1) (.slice a2 x.strikes.length k2) (.slice a3 y.req.value.length k3) (.slice a4 y.strikes.length k4) rows E E') (fun i _ => x.strikes.length - (intOf i).toNat)
        case atStart => exact ⟨0, Nat.zero_le _, rfl, by rw [mixesTo_zero]; exact HT3.out⟩
        case round =>
          obtain ⟨wo, rfl⟩ : ∃ wo : World, wo = wr := ⟨_, rfl⟩
          obtain ⟨k, hk, rfl, htw⟩ := hrel
          have q11 : wo.cell? ⟨b6, 11, none⟩ = some (.slice a2 x.strikes.length k2) := cell_at htw.h6 11 rfl
          have HTo := Lib.hid htw
          clear htw
          by_cases hlt : k < x.strikes.length
          · go_wp2
            go_loopw [10] (fun j wr => ∃ p : Nat, p ≤ (x.strikes.getD k []).length ∧ j = .int .i64 p ∧ Two wb wr b6 b7 { x with strikes := mixesTo c place x.strikes y.strikes k p } y (.slice a1 x.req.value.length k1) (.slice a2 x.strikes.length k2) (.slice a3 y.req.value.length k3) (.slice a4 y.strikes.length k4) rows E E') (fun j _ => (x.strikes.getD k []).length - (intOf j).toNat)
            case atStart => exact ⟨0, Nat.zero_le _, rfl, HTo.out⟩
            case round =>
              obtain ⟨wi, rfl⟩ : ∃ wi : World, wi = wr := ⟨_, rfl⟩
              obtain ⟨p, hp, rfl, htw⟩ := hrel
              have q11 : wi.cell? ⟨b6, 11, none⟩ = some (.slice a2 x.strikes.length k2) := cell_at htw.h6 11 rfl
              have HTi := Lib.hid htw
              obtain ⟨f, hf, hfl, -⟩ := mixesTo_row c place x.strikes y.strikes k p hlt
              have hrow := htw.mx.row k f hf
              obtain ⟨Ak, ck, ek, -⟩ := Rd.of_own hrow
              obtain ⟨A9, c9, e9, hrd⟩ := Rd.of_own htw.mx.own
              rw [mixesTo_len] at e9 hrd
              simp only [Value.slice.injEq, true_and] at e9
              obtain ⟨rfl, rfl⟩ := e9
              obtain ⟨gS, oS, rfl, hgS, hcS⟩ := hrd.at_ (by omega)
              have qk := hcS k (rows k) (by simp [hlt])
              rw [ek, hfl] at qk
              have HF := Lib.hid hf
              have HFL := Lib.hid hfl
              have HEK := Lib.hid ek
              obtain ⟨lk, hlk⟩ : ∃ lk, lk = (x.strikes.getD k []).length := ⟨_, rfl⟩
              rw [← hlk] at qk hp
              have hlkb : lk ≤ 140737488351232 := by
                rw [hlk]
                have := (HFX.out.2.2 (x.strikes.getD k []) (by simp [List.getD_eq_getElem?_getD, hlt])).1
                omega
              have HLK := Lib.hid hlk
              clear htw hf hfl hrow ek hrd hcS hgS hlk
              by_cases hpl2 : p < lk
              · have g4 := HB4.out _ HTi.out.chg
                have d0 := cell_at g4 0 rfl
                have d1 := cell_at g4 1 rfl
                have d2 := cell_at g4 2 rfl
                clear g4
                by_cases hA : n1 ≤ p
                · obtain ⟨w6, hw6⟩ : ∃ w6, w6 = wi := ⟨_, rfl⟩
                  subst hw6
                  have HT6 := HTi
                  by_cases hky : k < y.strikes.length
                  · by_cases hpy : p < (y.strikes.getD k []).length
                    · have kx : y.strikes[k]? = some (y.strikes.getD k []) := by simp [hky]
                      have r11 : w6.cell? ⟨b7, 11, none⟩ = some (.slice a4 y.strikes.length k4) := cell_at HT6.out.h7 11 rfl
                      obtain ⟨h4, o4, cs4, e4, hE4, hr4, hra4⟩ := elem_of _ _ HT6.out.st' kx
                      obtain ⟨A5, c5, e5, -⟩ := slice_form hr4
                      subst e4 e5
                      have r4 := range_one hra4
                      simp only [show (fatesK).sz = 1 from rfl, Nat.mul_one] at r4
                      obtain ⟨yl, hyl⟩ : ∃ yl, yl = (y.strikes.getD k []).length := ⟨_, rfl⟩
                      rw [← hyl] at r4 hpy
                      have hylb : yl ≤ 140737488351232 := by
                        rw [hyl]
                        have := (HFY.out.2.2 (y.strikes.getD k []) (by simp [List.getD_eq_getElem?_getD, hky])).1
                        omega
                      have HYL := Lib.hid hyl
                      have HR4 := Lib.hid hr4
                      clear hra4 hr4 hyl
                      have kf : (y.strikes.getD k [])[p]? = some ((y.strikes.getD k []).getD p Fate.zero) := by
                        have h' : p < (y.strikes.getD k []).length := by rw [← HYL.out]; exact hpy
                        generalize y.strikes.getD k [] = l at h' ⊢
                        rw [List.getD_eq_getElem?_getD, List.getElem?_eq_getElem h']; rfl
                      obtain ⟨h5, o5, cs5, e6, hE5, hr5, hra5⟩ := elem_of _ _ HR4.out kf
                      replace hr5 : cs5 = fateCs _ := hr5
                      subst e6 hr5
                      obtain ⟨fy, hfy⟩ : ∃ fy, fy = (y.strikes.getD k []).getD p Fate.zero := ⟨_, rfl⟩
                      rw [← hfy] at hra5
                      have z0 : w6.cell? ⟨h5, o5 + p * 3, none⟩ = some (.int .i64 fy.done) := hra5 0 _ rfl
                      have z1 : w6.cell? ⟨h5, o5 + p * 3 + 1, none⟩ = some (.int .i64 fy.keep) := hra5 1 _ rfl
                      have z2 : w6.cell? ⟨h5, o5 + p * 3 + 2, none⟩ = some (.int .u8 (fy.torn.toNat : Int)) := hra5 2 _ rfl
                      have HFYE := Lib.hid hfy
                      clear hra5 kf kx hfy
                      obtain ⟨gk, ek2, xk0, xk1, xk2, xf⟩ : ∃ gk, Ak = some ⟨gk, 0, none⟩ ∧ (w6.cell? ⟨gk, p * 3, none⟩).isSome ∧ (w6.cell? ⟨gk, p * 3 + 1, none⟩).isSome ∧ (w6.cell? ⟨gk, p * 3 + 2, none⟩).isSome ∧ ∀ i, w6.frozen? ⟨gk, i, none⟩ = false := by
                        have hl1 := HFL.out
                        have hl2 := HLK.out
                        rcases (HT6.out.mx.row k f HF.out).2 with ⟨e', e''⟩ | ⟨g, cap, cur, e', _, hg, hn, _, hsz, _⟩
                        · omega
                        · have := HEK.out
                          rw [e'] at this
                          simp only [Value.slice.injEq, true_and] at this
                          obtain ⟨hh, _⟩ := this
                          refine ⟨g, hh.symm, ?_, ?_, ?_, fun i => free_at hg i⟩
                          · rw [cell_at hg (p * 3) (Array.getElem?_eq_getElem (by omega))]; rfl
                          · rw [cell_at hg (p * 3 + 1) (Array.getElem?_eq_getElem (by omega))]; rfl
                          · rw [cell_at hg (p * 3 + 2) (Array.getElem?_eq_getElem (by omega))]; rfl
                      subst ek2
                      obtain ⟨xv0, xk0⟩ := Option.isSome_iff_exists.1 xk0
                      obtain ⟨xv1, xk1⟩ := Option.isSome_iff_exists.1 xk1
                      obtain ⟨xv2, xk2⟩ := Option.isSome_iff_exists.1 xk2
                      go_upto_region 11 with (fail)
                      go_region
                      go_wp2
                      go_roundw
                      case rel =>
                        as_aux_lemma =>
                          refine ⟨p + 1, by have := HLK.out; omega, by go_num, ?_⟩
                          rw [mixesTo_step c place x.strikes y.strikes k p hlt hky f HF.out (by have := HLK.out; omega) (by left; rw [HN1.out]; exact hA) (by have := HYL.out; omega), ← HFYE.out]
                          exact HT6.out.stored HF.out (by have := HFL.out; have := HLK.out; omega) fy HEK.out rfl rfl rfl rfl
                      case measure => (have h9 := HLK.out; rw [List.getD_eq_getElem?_getD] at h9; simp [intOf]; omega)
                    · have kx : y.strikes[k]? = some (y.strikes.getD k []) := by simp [hky]
                      have r11 : w6.cell? ⟨b7, 11, none⟩ = some (.slice a4 y.strikes.length k4) := cell_at HT6.out.h7 11 rfl
                      obtain ⟨h4, o4, cs4, e4, hE4, hr4, hra4⟩ := elem_of _ _ HT6.out.st' kx
                      obtain ⟨A5, c5, e5, -⟩ := slice_form hr4
                      subst e4 e5
                      have r4 := range_one hra4
                      simp only [show (fatesK).sz = 1 from rfl, Nat.mul_one] at r4
                      obtain ⟨yl, hyl⟩ : ∃ yl, yl = (y.strikes.getD k []).length := ⟨_, rfl⟩
                      rw [← hyl] at r4 hpy
                      have hylb : yl ≤ 140737488351232 := by
                        rw [hyl]
                        have := (HFY.out.2.2 (y.strikes.getD k []) (by simp [List.getD_eq_getElem?_getD, hky])).1
                        omega
                      have HYL := Lib.hid hyl
                      have HR4 := Lib.hid hr4
                      clear hra4 hr4 hyl
                      go_wp2
                      go_roundw
                      case rel => exact ⟨p + 1, by have := HLK.out; omega, by go_num, by rw [mixesTo_skip _ _ _ _ _ _ (fun h => by have := HYL.out; have := h.2.2; omega)]; exact HT6.out⟩
                      case measure => (have h9 := HLK.out; rw [List.getD_eq_getElem?_getD] at h9; simp [intOf]; omega)
                  · have r11 : w6.cell? ⟨b7, 11, none⟩ = some (.slice a4 y.strikes.length k4) := cell_at HT6.out.h7 11 rfl
                    have hly : y.strikes.length ≤ 140737488351232 := by have := HFY.out.2.1; omega
                    go_wp2
                    go_roundw
                    case rel => exact ⟨p + 1, by have := HLK.out; omega, by go_num, by rw [mixesTo_skip _ _ _ _ _ _ (fun h => hky h.2.1)]; exact HT6.out⟩
                    case measure => (have h9 := HLK.out; rw [List.getD_eq_getElem?_getD] at h9; simp [intOf]; omega)
                · have HSE := Lib.hid (seen_any (HC0.out _ HTi.out.chg) (fun k hk => hk) place p hpl (by omega))
                  by_cases hs : Ev.seen c place p = true
                  · rw [hs] at HSE
                    have HSS := Lib.hid hs
                    clear hs
                    go_wp2_with fail
                    refine HSE.out.mono ?_
                    rintro e w6 ⟨rfl, hc6⟩
                    have HT6 := Lib.hid (HTi.out.up hc6)
                    clear hc6
                    go_wp2
                    go_roundw
                    case rel => exact ⟨p + 1, by have := HLK.out; omega, by go_num, by rw [mixesTo_skip _ _ _ _ _ _ (fun h => (show c.labels.length ≤ p ∨ Ev.seen c place p = false from h.1).elim (fun h1 => by have := HN1.out; omega) (fun h1 => by rw [HSS.out] at h1; cases h1))]; exact HT6.out⟩
                    case measure => (have h9 := HLK.out; rw [List.getD_eq_getElem?_getD] at h9; simp [intOf]; omega)
                  · have hs' : Ev.seen c place p = false := by simpa using hs
                    rw [hs'] at HSE
                    have HSS := Lib.hid hs'
                    clear hs hs'
                    go_wp2_with fail
                    refine HSE.out.mono ?_
                    rintro e w6 ⟨rfl, hc6⟩
                    have HT6 := Lib.hid (HTi.out.up hc6)
                    have qk6 := (World.cell?_of_block (hc6.block gS (World.block_lt_of_cell? _ _ qk) (fun h => h)) (a := ⟨gS, oS + k, none⟩)).trans qk
                    have q116 : w6.cell? ⟨b6, 11, none⟩ = some (.slice (some ⟨gS, oS, none⟩) x.strikes.length k2) := cell_at HT6.out.h6 11 rfl
                    clear hc6 qk q11 d0 d1 d2
                    by_cases hky : k < y.strikes.length
                    · by_cases hpy : p < (y.strikes.getD k []).length
                      · have kx : y.strikes[k]? = some (y.strikes.getD k []) := by simp [hky]
                        have r11 : w6.cell? ⟨b7, 11, none⟩ = some (.slice a4 y.strikes.length k4) := cell_at HT6.out.h7 11 rfl
                        obtain ⟨h4, o4, cs4, e4, hE4, hr4, hra4⟩ := elem_of _ _ HT6.out.st' kx
                        obtain ⟨A5, c5, e5, -⟩ := slice_form hr4
                        subst e4 e5
                        have r4 := range_one hra4
                        simp only [show (fatesK).sz = 1 from rfl, Nat.mul_one] at r4
                        obtain ⟨yl, hyl⟩ : ∃ yl, yl = (y.strikes.getD k []).length := ⟨_, rfl⟩
                        rw [← hyl] at r4 hpy
                        have hylb : yl ≤ 140737488351232 := by
                          rw [hyl]
                          have := (HFY.out.2.2 (y.strikes.getD k []) (by simp [List.getD_eq_getElem?_getD, hky])).1
                          omega
                        have HYL := Lib.hid hyl
                        have HR4 := Lib.hid hr4
                        clear hra4 hr4 hyl
                        have kf : (y.strikes.getD k [])[p]? = some ((y.strikes.getD k []).getD p Fate.zero) := by
                          have h' : p < (y.strikes.getD k []).length := by rw [← HYL.out]; exact hpy
                          generalize y.strikes.getD k [] = l at h' ⊢
                          rw [List.getD_eq_getElem?_getD, List.getElem?_eq_getElem h']; rfl
                        obtain ⟨h5, o5, cs5, e6, hE5, hr5, hra5⟩ := elem_of _ _ HR4.out kf
                        replace hr5 : cs5 = fateCs _ := hr5
                        subst e6 hr5
                        obtain ⟨fy, hfy⟩ : ∃ fy, fy = (y.strikes.getD k []).getD p Fate.zero := ⟨_, rfl⟩
                        rw [← hfy] at hra5
                        have z0 : w6.cell? ⟨h5, o5 + p * 3, none⟩ = some (.int .i64 fy.done) := hra5 0 _ rfl
                        have z1 : w6.cell? ⟨h5, o5 + p * 3 + 1, none⟩ = some (.int .i64 fy.keep) := hra5 1 _ rfl
                        have z2 : w6.cell? ⟨h5, o5 + p * 3 + 2, none⟩ = some (.int .u8 (fy.torn.toNat : Int)) := hra5 2 _ rfl
                        have HFYE := Lib.hid hfy
                        clear hra5 kf kx hfy
                        obtain ⟨gk, ek2, xk0, xk1, xk2, xf⟩ : ∃ gk, Ak = some ⟨gk, 0, none⟩ ∧ (w6.cell? ⟨gk, p * 3, none⟩).isSome ∧ (w6.cell? ⟨gk, p * 3 + 1, none⟩).isSome ∧ (w6.cell? ⟨gk, p * 3 + 2, none⟩).isSome ∧ ∀ i, w6.frozen? ⟨gk, i, none⟩ = false := by
                          have hl1 := HFL.out
                          have hl2 := HLK.out
                          rcases (HT6.out.mx.row k f HF.out).2 with ⟨e', e''⟩ | ⟨g, cap, cur, e', _, hg, hn, _, hsz, _⟩
                          · omega
                          · have := HEK.out
                            rw [e'] at this
                            simp only [Value.slice.injEq, true_and] at this
                            obtain ⟨hh, _⟩ := this
                            refine ⟨g, hh.symm, ?_, ?_, ?_, fun i => free_at hg i⟩
                            · rw [cell_at hg (p * 3) (Array.getElem?_eq_getElem (by omega))]; rfl
                            · rw [cell_at hg (p * 3 + 1) (Array.getElem?_eq_getElem (by omega))]; rfl
                            · rw [cell_at hg (p * 3 + 2) (Array.getElem?_eq_getElem (by omega))]; rfl
                        subst ek2
                        obtain ⟨xv0, xk0⟩ := Option.isSome_iff_exists.1 xk0
                        obtain ⟨xv1, xk1⟩ := Option.isSome_iff_exists.1 xk1
                        obtain ⟨xv2, xk2⟩ := Option.isSome_iff_exists.1 xk2
                        go_upto_region 11 with (fail)
                        go_region
                        go_wp2
                        go_roundw
                        case rel =>
                          as_aux_lemma =>
                            refine ⟨p + 1, by have := HLK.out; omega, by go_num, ?_⟩
                            rw [mixesTo_step c place x.strikes y.strikes k p hlt hky f HF.out (by have := HLK.out; omega) (Or.inr HSS.out) (by have := HYL.out; omega), ← HFYE.out]
                            exact HT6.out.stored HF.out (by have := HFL.out; have := HLK.out; omega) fy HEK.out rfl rfl rfl rfl
                        case measure => (have h9 := HLK.out; rw [List.getD_eq_getElem?_getD] at h9; simp [intOf]; omega)
                      · have kx : y.strikes[k]? = some (y.strikes.getD k []) := by simp [hky]
                        have r11 : w6.cell? ⟨b7, 11, none⟩ = some (.slice a4 y.strikes.length k4) := cell_at HT6.out.h7 11 rfl
                        obtain ⟨h4, o4, cs4, e4, hE4, hr4, hra4⟩ := elem_of _ _ HT6.out.st' kx
                        obtain ⟨A5, c5, e5, -⟩ := slice_form hr4
                        subst e4 e5
                        have r4 := range_one hra4
                        simp only [show (fatesK).sz = 1 from rfl, Nat.mul_one] at r4
                        obtain ⟨yl, hyl⟩ : ∃ yl, yl = (y.strikes.getD k []).length := ⟨_, rfl⟩
                        rw [← hyl] at r4 hpy
                        have hylb : yl ≤ 140737488351232 := by
                          rw [hyl]
                          have := (HFY.out.2.2 (y.strikes.getD k []) (by simp [List.getD_eq_getElem?_getD, hky])).1
                          omega
                        have HYL := Lib.hid hyl
                        have HR4 := Lib.hid hr4
                        clear hra4 hr4 hyl
                        go_wp2
                        go_roundw
                        case rel => exact ⟨p + 1, by have := HLK.out; omega, by go_num, by rw [mixesTo_skip _ _ _ _ _ _ (fun h => by have := HYL.out; have := h.2.2; omega)]; exact HT6.out⟩
                        case measure => (have h9 := HLK.out; rw [List.getD_eq_getElem?_getD] at h9; simp [intOf]; omega)
                    · have r11 : w6.cell? ⟨b7, 11, none⟩ = some (.slice a4 y.strikes.length k4) := cell_at HT6.out.h7 11 rfl
                      have hly : y.strikes.length ≤ 140737488351232 := by have := HFY.out.2.1; omega
                      go_wp2
                      go_roundw
                      case rel => exact ⟨p + 1, by have := HLK.out; omega, by go_num, by rw [mixesTo_skip _ _ _ _ _ _ (fun h => hky h.2.1)]; exact HT6.out⟩
                      case measure => (have h9 := HLK.out; rw [List.getD_eq_getElem?_getD] at h9; simp [intOf]; omega)
              · obtain rfl : p = lk := by omega
                go_wp2
                go_roundw
                case rel => exact ⟨k + 1, hlt, by go_num, by rw [← mixesTo_next]; have := HTi.out; rw [HLK.out] at this; exact this⟩
                case measure => simp [intOf]; omega
          · obtain rfl : k = x.strikes.length := by omega
            go_wp2
            go_meet
            case rel => rw [← mixesTo_full]; exact HTo.out
      case rest =>
        have htf := hcut
        have HTF := Lib.hid htf
        have HCL := Lib.hid (fun wf (hc : Chg (fun k => k = b6 ∨ k = b7 ∨ k = b8) wc wf) => htf.close hc n8b)
        obtain ⟨p0, p1, p2, p3, p4, p5, p6, p7, p8, p9, p10, p11⟩ := cells12 htf.h6
        obtain ⟨r0, r1, r2, r3, r4, r5, r6, r7, r8, r9, r10, r11⟩ := cells12 htf.h7
        have f6 := free_at htf.h6
        have f7 := free_at htf.h7
        have g4 := HB4.out _ htf.chg
        have d0 := cell_at g4 0 rfl
        have d1 := cell_at g4 1 rfl
        have d2 := cell_at g4 2 rfl
        clear htf g4 hcut
        have n67' : b6 ≠ b7 := by omega
        go_upto_block 4 with (fail)
        go_cut [11] from 84 to 186 (fun s wx => ChOut c place x y wb b6 b7 wx)
        case first =>
          rename_i K0 hK0 J0 K1 hJ0 hM0
          exact switch_walk c place x y A1 A2 A3 n1 n2 n3 c1 c2 c3 AV cV AS cS AV' cV' AS' cS' b4 b6 b7 b8 wb wc rows E E' a1 k1 a2 k2 a3 k3 a4 k4 u9 u10 u12 u13 u14 u15 u21 u22 u23 u24 u25 u26 u27 u28 u29 u30 u31 u32 u33 u34 u35 u36 u37 u38 u39 u40 u41 u42 u43 u44 u45 u46 u47 u48 u49 u50 u51 u52 u53 u54 u55 u56 u57 u58 u59 u60 u61 u62 u63 u64 u65 u66 u67 u68 u69 u70 u71 u72 u73 u74 u75 u76 u77 u78 u79 u80 u81 hcf hpl hmb HFX HFY n46 n67 n78 n8b HC0 HB4 HM HNM hlx HN1 HTF HCL p0 p1 p2 p3 p4 p5 p6 p7 p8 p9 p10 p11 r0 r1 r2 r3 r4 r5 r6 r7 r8 r9 r10 r11 f6 f7 d0 d1 d2 n67' J0 K1 _ hJ0 hM0
        case rest =>
          clear p0 p1 p2 p3 p4 p5 p6 p7 p8 p9 p10 p11 r0 r1 r2 r3 r4 r5 r6 r7 r8 r9 r10 r11 f6 f7 d0 d1 d2 HCL HTF
          obtain ⟨z, Vz, Sz, hz, hz6, lV, lS, hzc⟩ := hcut
          obtain ⟨AV9, cV9, eV9, -⟩ := slice_form lV
          obtain ⟨AS9, cS9, eS9, -⟩ := slice_form lS
          simp only [List.cons.injEq, and_true] at eV9 eS9
          subst eV9 eS9
          have HZ := Lib.hid hz
          have LV := Lib.hid lV
          have LS := Lib.hid lS
          have HZC := Lib.hid hzc
          obtain ⟨p0, p1, p2, p3, p4, p5, p6, p7, p8, p9, p10, p11⟩ := cells12 hz6
          obtain ⟨t0, t1, t2, t3, t4, t5, t6, t7, t8, t9, t10, t11⟩ := cells12 (HB8.out _ hzc)
          have f8 := free_at (HB8.out _ hzc)
          clear hz hz6 lV lS hzc
          go_wp2
          refine bodyPost_ret (v := .agg (evCs z (.slice AV9 z.req.value.length cV9) (.slice AS9 z.strikes.length cS9)).toArray) (by simp [evCs, results, Try.results29, go_sem, t0, t1, t2, t3, t4, t5, t6, t7, t8, t9, t10, t11, f8]) rfl ?_
          have fin : ∀ wf, Chg (fun k => k = b8) wc wf → ∃ ys : List Value, Ending.returned (.agg (evCs z (.slice AV9 z.req.value.length cV9) (.slice AS9 z.strikes.length cS9)).toArray) = .returned (.agg ys.toArray) ∧ evK.rel (fun k => w.heap.size ≤ k ∧ k < wf.heap.size) wf (Ev.changed c place x y) ys ∧ Chg (fun _ => False) w wf := fun wf hc => by
            refine ⟨_, rfl, ?_, (HCB.out.trans HZC.out (fun k hk h => by omega)).trans hc (fun k hk h => by omega)⟩
            have hm : ∀ k, (wb.heap.size ≤ k ∧ k < wc.heap.size) → wf.heap[k]? = wc.heap[k]? := fun k hk => hc.block k hk.2 (fun e => by omega)
            rw [← HZ.out]
            exact evK.mono (fun k hk => ⟨Nat.le_trans HCB.out.size hk.1, Nat.lt_of_lt_of_le hk.2 hc.size⟩) ⟨_, _, rfl, bytesK.move hm LV.out, strikesK.move hm LS.out⟩
          exact fin _ set12c
    · have hm' : Ev.may c x = false := by simpa using hm
      have HMX := Lib.hid (HM.out _ HT.out.chg x a1 a2 x.req.value.length k1 x.strikes.length k2)
      rw [hm'] at HMX
      have HNM := Lib.hid hm'
      clear hm hm' HM
      go_wp2_with fail
      refine HMX.out.mono ?_
      rintro e w3 ⟨rfl, hc3⟩
      have HT3 := Lib.hid (HT.out.up hc3)
      clear p0 p1 p2 p3 p4 p5 p6 p7 p8 p9 p10 p11 r0 r1 r2 r3 r4 r5 r6 r7 r8 r9 r10 r11 d0 d1 d2 HT HMX hc3
      obtain ⟨r0, r1, r2, r3, r4, r5, r6, r7, r8, r9, r10, r11⟩ := cells12 HT3.out.h7
      have g8 := HB8.out _ HT3.out.chg
      obtain ⟨p0, p1, p2, p3, p4, p5, p6, p7, p8, p9, p10, p11⟩ := cells12 g8
      have f8 := free_at g8
      clear g8
      go_wp2
      refine bodyPost_ret (v := .agg (evCs y (.slice a3 y.req.value.length k3) (.slice a4 y.strikes.length k4)).toArray) (by simp [evCs, results, Try.results29, go_sem, p0, p1, p2, p3, p4, p5, p6, p7, p8, p9, p10, p11, f8]) rfl ?_
      have fin : ∀ wf, Chg (fun k => k = b8) w3 wf → ∃ ys : List Value, Ending.returned (.agg (evCs y (.slice a3 y.req.value.length k3) (.slice a4 y.strikes.length k4)).toArray) = .returned (.agg ys.toArray) ∧ evK.rel (fun k => w.heap.size ≤ k ∧ k < wf.heap.size) wf (Ev.changed c place x y) ys ∧ Chg (fun _ => False) w wf := fun wf hc => by
        refine ⟨_, rfl, ?_, ?_⟩
        · rw [show Ev.changed c place x y = y by unfold Ev.changed; rw [if_pos HNM.out]]
          exact evK.mono (fun k hk => ⟨Nat.le_trans HCB.out.size hk.1, hk.2⟩) (HT3.out.rely hc n8b)
        · exact (HCB.out.trans HT3.out.chg (fun k hk h => by omega)).trans hc (fun k hk h => by omega)
      exact fin _ set12c
end
end Go.Proofs.Ytchlolgfahgdeaa.Ech
