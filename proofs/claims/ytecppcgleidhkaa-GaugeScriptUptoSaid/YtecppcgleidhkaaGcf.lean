/- The law GaugeScript, walked. Conditions: the script reads so; at most 1048576 calls. -/
import Derived.Test.YtecppcgleidhkaaGce
set_option linter.unusedVariables false
set_option linter.unusedSimpArgs false
set_option exponentiation.threshold 3000
namespace Go.Proofs.Ytecppcgleidhkaa.Gs
open Go.RowKit Go.Proofs.Ytecppcgleidhkaa.Lib1 Go.Proofs.Ytecppcgleidhkaa.Rel Go.Proofs.Ytecppcgleidhkaa.Own Go.Proofs.Ytecppcgleidhkaa.Fl Go.Proofs.Ytecppcgleidhkaa.Gp Go.Proofs.Ytecppcgleidhkaa.Gw Go.Proofs.Ytecppcgleidhkaa.Gm Go.Proofs.Ytecppcgleidhkaa.Gk Go.Proofs.Ytecppcgleidhkaa.Gb Go.Proofs.Ytecppcgleidhkaa.Gx

theorem side_new {w6 w7 : World} {b lo x N : Nat} (hx : x < ONE) (hg : GV (fun k => lo ≤ k ∧ k < w6.heap.size) w6 b ⟨x, [], []⟩) (hc : Chg (fun _ => False) w6 w7) : Side (fun k => lo ≤ k ∧ k < w6.heap.size) (fun _ => False) w7 N (.pointer (some ⟨b, 0, none⟩)) true x none 0 0 none 0 0 :=
  ⟨.inr ⟨b, ⟨x, [], []⟩, rfl, rfl, rfl, hg.chg hc (fun _ _ h => h), ⟨rd_nil _ _, rd_nil _ _⟩, good0 hx, (fun i a b h _ => by cases h), Nat.zero_le _, rfl, rfl⟩, fun k hk => by have := hc.size; omega, fun _ h => h.elim, fun _ h => h.elim⟩
theorem side_none {w : World} {N : Nat} : SideS (fun _ => False) (fun _ => False) w N svNone := Side.none w N
theorem weakE {E : Nat → Prop} {w w' : World} (h : Chg (fun _ => False) w w') : Chg E w w' := (Chg.refl _ w).trans h (fun _ _ h => h.elim)
theorem put0_new {w W w7 : World} {R N : Nat} {E0 k0 E1 k1 E' k' : Nat → Prop} {a b : SV} (h : Two w W R N E0 k0 E1 k1 a b) {gv : Value} {t : Bool} {kp : Nat} {A B : Option Addr} {n c m d : Nat} (hc : Chg E0 W w7) (hs : Side E' k' w7 (N + 1) gv t kp A n c B m d) (hE : ∀ k, E' k → E0 k ∨ W.heap.size ≤ k) (hk : ∀ k, k' k → k0 k ∨ W.heap.size ≤ k)
    (hh : w7.heap[R]? = some (.cells #[a.gv, b.gv] 41 (0, 0))) (hw : w7.heap[R + 1]? = some (.cells (wants a b) 45 (0, 0))) (o : Obj) : ∃ s, Two w ((((((w7.setCell ⟨R, 0, none⟩ gv).setCell ⟨R + 1, 0, none⟩ (.bool t)).setCell ⟨R + 1, 1, none⟩ (.float .f64 kp)).setCell ⟨R + 1, 2, none⟩ (.slice A n c)).setCell ⟨R + 1, 3, none⟩ (.slice B m d)).alloc o) R (N + 1) E' k' E1 k1 s b :=
  ⟨⟨gv, t, kp, A, n, c, B, m, d⟩, h.put0 (a' := ⟨gv, t, kp, A, n, c, B, m, d⟩) (W' := w7) hc hs hE hk (((((((Chg.refl _ _).set (.inr (.inl rfl))).set (.inr (.inr rfl))).set (.inr (.inr rfl))).set (.inr (.inr rfl))).set (.inr (.inr rfl))).alloc o) (heap_old _ (set_off (heap_set hh 0 gv) (by omega))) (heap_old _ (set_lo (a' := ⟨gv, t, kp, A, n, c, B, m, d⟩) ((heap_set_ne _ _ (by omega)).trans hw)))⟩
theorem put0_old {w W w7 : World} {R N : Nat} {E0 k0 E1 k1 E' k' : Nat → Prop} {a b : SV} (h : Two w W R N E0 k0 E1 k1 a b) {gv : Value} {t : Bool} {kp : Nat} {A B : Option Addr} {n c m d : Nat} (hc : Chg E0 W w7) (hs : Side E' k' w7 (N + 1) gv t kp A n c B m d) (hE : ∀ k, E' k → E0 k ∨ W.heap.size ≤ k) (hk : ∀ k, k' k → k0 k ∨ W.heap.size ≤ k)
    (hh : w7.heap[R]? = some (.cells #[a.gv, b.gv] 41 (0, 0))) (hw : w7.heap[R + 1]? = some (.cells (wants a b) 45 (0, 0))) (hgv : gv = a.gv) (o : Obj) : ∃ s, Two w (((((w7.setCell ⟨R + 1, 0, none⟩ (.bool t)).setCell ⟨R + 1, 1, none⟩ (.float .f64 kp)).setCell ⟨R + 1, 2, none⟩ (.slice A n c)).setCell ⟨R + 1, 3, none⟩ (.slice B m d)).alloc o) R (N + 1) E' k' E1 k1 s b :=
  ⟨⟨gv, t, kp, A, n, c, B, m, d⟩, h.put0 (a' := ⟨gv, t, kp, A, n, c, B, m, d⟩) (W' := w7) hc hs hE hk (((((((Chg.refl _ _)).set (.inr (.inr rfl))).set (.inr (.inr rfl))).set (.inr (.inr rfl))).set (.inr (.inr rfl))).alloc o) (heap_old _ (set_off (by rw [hgv]; exact hh) (by omega))) (heap_old _ (set_lo (a' := ⟨gv, t, kp, A, n, c, B, m, d⟩) hw))⟩
theorem put1_new {w W w7 : World} {R N : Nat} {E0 k0 E1 k1 E' k' : Nat → Prop} {a b : SV} (h : Two w W R N E0 k0 E1 k1 a b) {gv : Value} {t : Bool} {kp : Nat} {A B : Option Addr} {n c m d : Nat} (hc : Chg E1 W w7) (hs : Side E' k' w7 (N + 1) gv t kp A n c B m d) (hE : ∀ k, E' k → E1 k ∨ W.heap.size ≤ k) (hk : ∀ k, k' k → k1 k ∨ W.heap.size ≤ k)
    (hh : w7.heap[R]? = some (.cells #[a.gv, b.gv] 41 (0, 0))) (hw : w7.heap[R + 1]? = some (.cells (wants a b) 45 (0, 0))) (o : Obj) : ∃ s, Two w ((((((w7.setCell ⟨R, 1, none⟩ gv).setCell ⟨R + 1, 4, none⟩ (.bool t)).setCell ⟨R + 1, 5, none⟩ (.float .f64 kp)).setCell ⟨R + 1, 6, none⟩ (.slice A n c)).setCell ⟨R + 1, 7, none⟩ (.slice B m d)).alloc o) R (N + 1) E0 k0 E' k' a s :=
  ⟨⟨gv, t, kp, A, n, c, B, m, d⟩, h.put1 (b' := ⟨gv, t, kp, A, n, c, B, m, d⟩) (W' := w7) hc hs hE hk (((((((Chg.refl _ _).set (.inr (.inl rfl))).set (.inr (.inr rfl))).set (.inr (.inr rfl))).set (.inr (.inr rfl))).set (.inr (.inr rfl))).alloc o) (heap_old _ (set_off (heap_set hh 1 gv) (by omega))) (heap_old _ (set_hi (b' := ⟨gv, t, kp, A, n, c, B, m, d⟩) ((heap_set_ne _ _ (by omega)).trans hw)))⟩
theorem put1_old {w W w7 : World} {R N : Nat} {E0 k0 E1 k1 E' k' : Nat → Prop} {a b : SV} (h : Two w W R N E0 k0 E1 k1 a b) {gv : Value} {t : Bool} {kp : Nat} {A B : Option Addr} {n c m d : Nat} (hc : Chg E1 W w7) (hs : Side E' k' w7 (N + 1) gv t kp A n c B m d) (hE : ∀ k, E' k → E1 k ∨ W.heap.size ≤ k) (hk : ∀ k, k' k → k1 k ∨ W.heap.size ≤ k)
    (hh : w7.heap[R]? = some (.cells #[a.gv, b.gv] 41 (0, 0))) (hw : w7.heap[R + 1]? = some (.cells (wants a b) 45 (0, 0))) (hgv : gv = b.gv) (o : Obj) : ∃ s, Two w (((((w7.setCell ⟨R + 1, 4, none⟩ (.bool t)).setCell ⟨R + 1, 5, none⟩ (.float .f64 kp)).setCell ⟨R + 1, 6, none⟩ (.slice A n c)).setCell ⟨R + 1, 7, none⟩ (.slice B m d)).alloc o) R (N + 1) E0 k0 E' k' a s :=
  ⟨⟨gv, t, kp, A, n, c, B, m, d⟩, h.put1 (b' := ⟨gv, t, kp, A, n, c, B, m, d⟩) (W' := w7) hc hs hE hk (((((((Chg.refl _ _)).set (.inr (.inr rfl))).set (.inr (.inr rfl))).set (.inr (.inr rfl))).set (.inr (.inr rfl))).alloc o) (heap_old _ (set_off (by rw [hgv]; exact hh) (by omega))) (heap_old _ (set_hi (b' := ⟨gv, t, kp, A, n, c, B, m, d⟩) hw))⟩
set_option maxRecDepth 100000 in
set_option maxHeartbeats 2000000 in
theorem script_walk (hs : List (Int × Int × Nat × Int × Int × Unit)) (A : Option Addr) (n c : Nat) (w : World) (h : (Kd.slice 40 opK).rel (fun k => k < w.heap.size) w hs [.slice A n c]) (hn : n ≤ 1048576) (hfit : ∀ x ∈ hs, opK.fits x) :
    Calls Try.prog 5 #[.slice A n c] w fun e w' => e = .returned (.bool true) ∧ Below w.heap.size w w' := by
  have HL : Hid (hs.length = n) := by
    obtain ⟨A', c', cells, he, -⟩ := h
    simp only [List.cons.injEq, Value.slice.injEq, and_true] at he
    exact he.2.1.symm
  have HH : Hid (∀ W, Chg (fun _ => False) w W → (Kd.slice 40 opK).rel (fun k => k < W.heap.size) W hs [.slice A n c]) := fun W hc => (Kd.slice 40 opK).mono (fun k hk => Nat.lt_of_lt_of_le hk hc.size) ((Kd.slice 40 opK).move (fun k hk => hc.block k hk (fun h => h)) h)
  have HF := Lib.hid hfit
  clear h hfit
  go_enter Try.func5, Try.ntmps5
  go_upto_region 3 with (go_at_call 10; refine (head_walk _).mono ?_; rintro e w1 ⟨rfl, hc1⟩; have HC1 := Lib.hid hc1; clear hc1)
  go_upto_region 5 with (fail)
  obtain ⟨R, hR⟩ : ∃ R, R = w1.heap.size := ⟨_, rfl⟩
  rw [← hR]
  generalize hw2 : (w1.alloc _).alloc _ = w2
  have HT : Hid (Two w w2 R 0 (fun _ => False) (fun _ => False) (fun _ => False) (fun _ => False) svNone svNone) := by
    rw [← hw2, hR]
    exact ⟨heap_old _ (heap_new _ _), heap_new' _ _ (by simp), side_none, side_none, fun _ h => h.elim, fun _ h => h.elim, fun _ h => h.elim, fun _ h => by rcases h with h | h | h | h <;> exact h.elim, (HC1.out.alloc _).alloc _, HC1.out.size⟩
  clear hw2 hR HC1
  go_wp2
  go_loopw [20] (fun i wr => ∃ (k : Nat) (E0 k0 E1 k1 : Nat → Prop) (a b : SV), k ≤ n ∧ i = .int .i64 k ∧ Two w wr R k E0 k0 E1 k1 a b) (fun i _ => n - (intOf i).toNat)
  case atStart => exact ⟨0, _, _, _, _, _, _, Nat.zero_le _, rfl, HT.out⟩
  case round =>
    obtain ⟨w4, rfl⟩ : ∃ w4, w4 = wr := ⟨_, rfl⟩
    obtain ⟨k, E0, k0, E1, k1, sa, sb, hk, rfl, h2⟩ := hrel
    obtain ⟨gv0, t0, kp0, A0, n0, c0, B0, m0, d0⟩ := sa
    obtain ⟨gv1, t1, kp1, A1, n1, c1, B1, m1, d1⟩ := sb
    have HT2 := Lib.hid h2
    by_cases hlt : k < n
    · obtain ⟨⟨kd, who, kp2, sl, cd, ⟨⟩⟩, hx⟩ : ∃ x, hs[k]? = some x := ⟨_, List.getElem?_eq_getElem (by have := HL.out; omega)⟩
      obtain ⟨-, bb, off, rfl, hb, hcell⟩ := op_at (HH.out w4 h2.chg) (by omega)
      obtain ⟨y0, y1, y2, y3, y4⟩ := hcell k kd who kp2 sl cd hx
      have hfx := op_fits (HF.out _ (List.mem_of_getElem? hx))
      obtain ⟨q0, q1, q2, q3, q4⟩ := hfx
      simp only at q0 q1 q2 q3 q4
      have HQ := Lib.hid q2
      clear hcell hx q0 q1 q2 h2
      go_upto_region 8 with (fail)
      obtain ⟨X, hX⟩ : ∃ X, X = w4.heap.size := ⟨_, rfl⟩
      rw [← hX]
      generalize hw5 : w4.alloc _ = w5
      have HB5 : Hid (w5.heap[X]? = some (.cells #[.int .i64 kd, .int .i64 who, .float .f64 kp2, .int .i64 sl, .int .i64 cd] 47 (0, 0))) := by rw [← hw5, hX]; exact heap_new _ _
      have HC5 : Hid (Chg (fun _ => False) w4 w5) := by rw [← hw5]; exact (Chg.refl _ _).alloc _
      have HXX := Lib.hid hX
      clear hw5 hX y0 y1 y2 y3 y4
      have HF2 : Hid (∀ W, Chg (fun _ => False) w5 W → _) := Lib.hid (fun W hW => two_cells (hW.at_ (HC5.out.at_ HT2.out.here (fun h => h)) (fun h => h)) (hW.at_ (HC5.out.at_ HT2.out.want (fun h => h)) (fun h => h)))
      have HHW : Hid (∀ W, Chg (fun _ => False) w5 W → (W.heap[R]? = _ ∧ W.heap[R + 1]? = _)) := Lib.hid (fun W hW => ⟨hW.at_ (HC5.out.at_ HT2.out.here (fun h => h)) (fun h => h), hW.at_ (HC5.out.at_ HT2.out.want (fun h => h)) (fun h => h)⟩)
      have HX : Hid (∀ W, Chg (fun _ => False) w5 W → _) := Lib.hid (fun W hW => op_cells (hW.at_ HB5.out (fun h => h)))
      have HR0 : Hid (Chg (fun _ => False) w5 w5) := Chg.refl _ _
      obtain ⟨⟨l0, l1⟩, ⟨g0, g1⟩, ⟨a0, a1, a2, a3⟩, ⟨b0, b1, b2, b3⟩, f0, f1⟩ := HF2.out w5 HR0.out
      obtain ⟨lx, o0, o1, o2, o3, o4⟩ := HX.out w5 HR0.out
      have nx0 : ¬ X = R := by have := HXX.out; have := HT2.out.sz; omega
      have nx1 : ¬ R = X := by omega
      have nx2 : ¬ X = R + 1 := by have := HXX.out; have := HT2.out.sz; omega
      have nx3 : ¬ R + 1 = X := by omega
      by_cases hkd : kd = 0
      · subst hkd
        by_cases hkp : keeps kp2 = true
        · have HN1 : Hid (∀ W, _) := Lib.hid (fun W => new_walk kp2 W)
          have HN2 : Hid (∀ W, _) := Lib.hid (fun W => rnew_walk kp2 W)
          simp only [hkp, if_true] at HN1 HN2
          have HKP := Lib.hid (keeps_lt HQ.out hkp)
          clear hkp
          have hw01 : who = 0 ∨ who = 1 ∨ (¬ who = 0 ∧ ¬ who = 1 ∧ (who == 0) = false ∧ (who == 1) = false) := by
            by_cases e0 : who = 0
            · exact .inl e0
            · by_cases e1 : who = 1
              · exact .inr (.inl e1)
              · exact .inr (.inr ⟨e0, e1, by simpa using e0, by simpa using e1⟩)
          rcases hw01 with rfl | rfl | ⟨hw0, hw1, hd0, hd1⟩
          all_goals
            go_wp2_with (first
              | (go_at_call 17; go_loud (refine (HN1.out _).mono ?_; rintro e w6 ⟨bn, rfl, hg6, hc6⟩; have HG6 := Lib.hid hg6; have HC6 := Lib.hid (HR0.out.trans hc6 (fun _ _ h => h)); clear l0 l1 g0 g1 a0 a1 a2 a3 b0 b1 b2 b3 f0 f1 lx o0 o1 o2 o3 o4; obtain ⟨⟨l0, l1⟩, ⟨g0, g1⟩, ⟨a0, a1, a2, a3⟩, ⟨b0, b1, b2, b3⟩, f0, f1⟩ := HF2.out w6 HC6.out; obtain ⟨lx, o0, o1, o2, o3, o4⟩ := HX.out w6 HC6.out; clear hg6 hc6))
              | (go_at_call 18; go_loud (refine (HN2.out _).mono ?_; rintro e w7 ⟨rfl, hc7⟩; have HD7 := Lib.hid hc7; have HC7 := Lib.hid (HC6.out.trans hc7 (fun _ _ h => h)); clear l0 l1 g0 g1 a0 a1 a2 a3 b0 b1 b2 b3 f0 f1 lx o0 o1 o2 o3 o4; obtain ⟨⟨l0, l1⟩, ⟨g0, g1⟩, ⟨a0, a1, a2, a3⟩, ⟨b0, b1, b2, b3⟩, f0, f1⟩ := HF2.out w7 HC7.out; obtain ⟨lx, o0, o1, o2, o3, o4⟩ := HX.out w7 HC7.out; clear hc7)))
          all_goals go_roundw
          all_goals have hz5 := HC5.out.size
          all_goals have hh7 := (HHW.out w7 HC7.out).1
          all_goals have hw7 := (HHW.out w7 HC7.out).2
          all_goals first
            | (show _ < _; simp [intOf]; omega)
            | (have H := put0_new HT2.out (weakE (HC5.out.trans HC7.out (fun _ _ h => h))) (side_new HKP.out HG6.out HD7.out) (fun q hq => .inr (Nat.le_trans hz5 hq.1)) (fun _ h => h.elim) hh7 hw7; (with_reducible refine ⟨k + 1, _, _, _, _, _, _, ?_, ?_, (H _).choose_spec⟩); exact hlt; go_num)
            | (have H := put1_new HT2.out (weakE (HC5.out.trans HC7.out (fun _ _ h => h))) (side_new HKP.out HG6.out HD7.out) (fun q hq => .inr (Nat.le_trans hz5 hq.1)) (fun _ h => h.elim) hh7 hw7; (with_reducible refine ⟨k + 1, _, _, _, _, _, _, ?_, ?_, (H _).choose_spec⟩); exact hlt; go_num)
            | ((with_reducible refine ⟨k + 1, _, _, _, _, _, _, ?_, ?_, HT2.out.stay ((HC5.out.trans HC7.out (fun _ _ h => h)).alloc _)⟩); exact hlt; go_num)
        · have hkp' : keeps kp2 = false := by simpa using hkp
          have HN1 : Hid (∀ W, _) := Lib.hid (fun W => new_walk kp2 W)
          have HN2 : Hid (∀ W, _) := Lib.hid (fun W => rnew_walk kp2 W)
          simp only [hkp', Bool.false_eq_true, if_false] at HN1 HN2
          clear hkp hkp'
          have hw01 : who = 0 ∨ who = 1 ∨ (¬ who = 0 ∧ ¬ who = 1 ∧ (who == 0) = false ∧ (who == 1) = false) := by
            by_cases e0 : who = 0
            · exact .inl e0
            · by_cases e1 : who = 1
              · exact .inr (.inl e1)
              · exact .inr (.inr ⟨e0, e1, by simpa using e0, by simpa using e1⟩)
          rcases hw01 with rfl | rfl | ⟨hw0, hw1, hd0, hd1⟩
          all_goals
            go_wp2_with (first
              | (go_at_call 17; go_loud (refine (HN1.out _).mono ?_; rintro e w6 ⟨rfl, hc6⟩; have HC6 := Lib.hid (HR0.out.trans hc6 (fun _ _ h => h)); clear l0 l1 g0 g1 a0 a1 a2 a3 b0 b1 b2 b3 f0 f1 lx o0 o1 o2 o3 o4; obtain ⟨⟨l0, l1⟩, ⟨g0, g1⟩, ⟨a0, a1, a2, a3⟩, ⟨b0, b1, b2, b3⟩, f0, f1⟩ := HF2.out w6 HC6.out; obtain ⟨lx, o0, o1, o2, o3, o4⟩ := HX.out w6 HC6.out; clear hc6))
              | (go_at_call 18; go_loud (refine (HN2.out _).mono ?_; rintro e w7 ⟨rfl, hc7⟩; have HD7 := Lib.hid hc7; have HC7 := Lib.hid (HC6.out.trans hc7 (fun _ _ h => h)); clear l0 l1 g0 g1 a0 a1 a2 a3 b0 b1 b2 b3 f0 f1 lx o0 o1 o2 o3 o4; obtain ⟨⟨l0, l1⟩, ⟨g0, g1⟩, ⟨a0, a1, a2, a3⟩, ⟨b0, b1, b2, b3⟩, f0, f1⟩ := HF2.out w7 HC7.out; obtain ⟨lx, o0, o1, o2, o3, o4⟩ := HX.out w7 HC7.out; clear hc7)))
          all_goals go_roundw
          all_goals have hz5 := HC5.out.size
          all_goals have hh7 := (HHW.out w7 HC7.out).1
          all_goals have hw7 := (HHW.out w7 HC7.out).2
          all_goals first
            | (show _ < _; simp [intOf]; omega)
            | (have H := put0_new HT2.out (weakE (HC5.out.trans HC7.out (fun _ _ h => h))) (Side.none w7 (k + 1)) (fun _ h => h.elim) (fun _ h => h.elim) hh7 hw7; (with_reducible refine ⟨k + 1, _, _, _, _, _, _, ?_, ?_, (H _).choose_spec⟩); exact hlt; go_num)
            | (have H := put1_new HT2.out (weakE (HC5.out.trans HC7.out (fun _ _ h => h))) (Side.none w7 (k + 1)) (fun _ h => h.elim) (fun _ h => h.elim) hh7 hw7; (with_reducible refine ⟨k + 1, _, _, _, _, _, _, ?_, ?_, (H _).choose_spec⟩); exact hlt; go_num)
            | ((with_reducible refine ⟨k + 1, _, _, _, _, _, _, ?_, ?_, HT2.out.stay ((HC5.out.trans HC7.out (fun _ _ h => h)).alloc _)⟩); exact hlt; go_num)
      · have hup := HT2.out.up
        have hw01 : who = 0 ∨ who = 1 ∨ (¬ who = 0 ∧ ¬ who = 1 ∧ (who == 0) = false ∧ (who == 1) = false) := by
            by_cases e0 : who = 0
            · exact .inl e0
            · by_cases e1 : who = 1
              · exact .inr (.inl e1)
              · exact .inr (.inr ⟨e0, e1, by simpa using e0, by simpa using e1⟩)
        rcases hw01 with rfl | rfl | ⟨hw0, hw1, hd0, hd1⟩
        · have HCS : Hid (∀ W, Chg (fun _ => False) w5 W → _) := Lib.hid (fun W hW => called_side (HT2.out.s0.chg (HC5.out.trans hW (fun _ _ h => h)) (fun _ _ h => h) (fun _ _ h => h) (Nat.le_refl k)) (by omega) kd 0 kp2 sl cd q3 q4)
          have HP : Hid (∀ q, E0 q → R + 1 < q ∧ q < X) := Lib.hid (fun q hq => ⟨hup q (.inl hq), by have := HT2.out.s0.low q hq; have := HXX.out; omega⟩)
          clear hup q3 q4
          go_wp2_with (go_at_call 19; go_loud (refine (HCS.out _ (HR0.out.alloc _)).mono ?_; rintro e w7 ⟨E', k', t', kp', A', n', c', B', m', d', rfl, hs7, hE7, hk7, hc7⟩; have HS7 := Lib.hid hs7; have HE7 := Lib.hid hE7; have HK7 := Lib.hid hk7; have HC7 := Lib.hid hc7; clear hs7 hE7 hk7 hc7; have HH7 := Lib.hid (HC7.out.at_ (heap_old _ (HHW.out w5 HR0.out).1) (fun h => by have := HP.out _ h; omega)); have HW7 := Lib.hid (HC7.out.at_ (heap_old _ (HHW.out w5 HR0.out).2) (fun h => by have := HP.out _ h; omega)); have HX7 := Lib.hid (HC7.out.at_ (heap_old _ HB5.out) (fun h => by have := HP.out _ h; omega)); clear l0 l1 g0 g1 a0 a1 a2 a3 b0 b1 b2 b3 f0 f1 lx o0 o1 o2 o3 o4; obtain ⟨⟨l0, l1⟩, ⟨g0, g1⟩, ⟨a0, a1, a2, a3⟩, ⟨b0, b1, b2, b3⟩, f0, f1⟩ := two_cells HH7.out HW7.out; obtain ⟨lx, o0, o1, o2, o3, o4⟩ := op_cells HX7.out))
          go_roundw
          all_goals have hz5 := HC5.out.size
          all_goals first
            | (show _ < _; simp [intOf]; omega)
            | (have H := put0_old HT2.out ((weakE (HC5.out.alloc _)).trans HC7.out (fun _ _ h => h)) HS7.out (fun q hq => (HE7.out q hq).imp id (fun h => by simp only [World.size_alloc] at h; omega)) (fun q hq => (HK7.out q hq).imp id (fun h => by simp only [World.size_alloc] at h; omega)) HH7.out HW7.out rfl; (with_reducible refine ⟨k + 1, _, _, _, _, _, _, ?_, ?_, (H _).choose_spec⟩); exact hlt; go_num)
        · have HCS : Hid (∀ W, Chg (fun _ => False) w5 W → _) := Lib.hid (fun W hW => called_side (HT2.out.s1.chg (HC5.out.trans hW (fun _ _ h => h)) (fun _ _ h => h) (fun _ _ h => h) (Nat.le_refl k)) (by omega) kd 1 kp2 sl cd q3 q4)
          have HP : Hid (∀ q, E1 q → R + 1 < q ∧ q < X) := Lib.hid (fun q hq => ⟨hup q (.inr (.inl hq)), by have := HT2.out.s1.low q hq; have := HXX.out; omega⟩)
          clear hup q3 q4
          go_wp2_with (go_at_call 19; go_loud (refine (HCS.out _ (HR0.out.alloc _)).mono ?_; rintro e w7 ⟨E', k', t', kp', A', n', c', B', m', d', rfl, hs7, hE7, hk7, hc7⟩; have HS7 := Lib.hid hs7; have HE7 := Lib.hid hE7; have HK7 := Lib.hid hk7; have HC7 := Lib.hid hc7; clear hs7 hE7 hk7 hc7; have HH7 := Lib.hid (HC7.out.at_ (heap_old _ (HHW.out w5 HR0.out).1) (fun h => by have := HP.out _ h; omega)); have HW7 := Lib.hid (HC7.out.at_ (heap_old _ (HHW.out w5 HR0.out).2) (fun h => by have := HP.out _ h; omega)); have HX7 := Lib.hid (HC7.out.at_ (heap_old _ HB5.out) (fun h => by have := HP.out _ h; omega)); clear l0 l1 g0 g1 a0 a1 a2 a3 b0 b1 b2 b3 f0 f1 lx o0 o1 o2 o3 o4; obtain ⟨⟨l0, l1⟩, ⟨g0, g1⟩, ⟨a0, a1, a2, a3⟩, ⟨b0, b1, b2, b3⟩, f0, f1⟩ := two_cells HH7.out HW7.out; obtain ⟨lx, o0, o1, o2, o3, o4⟩ := op_cells HX7.out))
          go_roundw
          all_goals have hz5 := HC5.out.size
          all_goals first
            | (show _ < _; simp [intOf]; omega)
            | (have H := put1_old HT2.out ((weakE (HC5.out.alloc _)).trans HC7.out (fun _ _ h => h)) HS7.out (fun q hq => (HE7.out q hq).imp id (fun h => by simp only [World.size_alloc] at h; omega)) (fun q hq => (HK7.out q hq).imp id (fun h => by simp only [World.size_alloc] at h; omega)) HH7.out HW7.out rfl; (with_reducible refine ⟨k + 1, _, _, _, _, _, _, ?_, ?_, (H _).choose_spec⟩); exact hlt; go_num)
        · have HCS : Hid (∀ W, Chg (fun _ => False) w5 W → _) := Lib.hid (fun W hW => called_side (Side.none W k) (by omega) kd who kp2 sl cd q3 q4)
          clear hup q3 q4
          go_wp2_with (go_at_call 19; go_loud (refine (HCS.out _ (HR0.out.alloc _)).mono ?_; rintro e w7 ⟨E', k', t', kp', A', n', c', B', m', d', rfl, hs7, hE7, hk7, hc7⟩; have HC7 := Lib.hid ((HR0.out.alloc _).trans hc7 (fun _ _ h => h)); clear l0 l1 g0 g1 a0 a1 a2 a3 b0 b1 b2 b3 f0 f1 lx o0 o1 o2 o3 o4; obtain ⟨⟨l0, l1⟩, ⟨g0, g1⟩, ⟨a0, a1, a2, a3⟩, ⟨b0, b1, b2, b3⟩, f0, f1⟩ := HF2.out w7 HC7.out; obtain ⟨lx, o0, o1, o2, o3, o4⟩ := HX.out w7 HC7.out; clear hs7 hE7 hk7 hc7))
          go_roundw
          all_goals first
            | (show _ < _; simp [intOf]; omega)
            | ((with_reducible refine ⟨k + 1, _, _, _, _, _, _, ?_, ?_, HT2.out.stay ((HC5.out.trans HC7.out (fun _ _ h => h)).alloc _)⟩); exact hlt; go_num)
            | (refine ⟨k + 1, _, _, _, _, _, _, ?_, ?_, HT2.out.stay ((HC5.out.trans HC7.out (fun _ _ h => h)).alloc _)⟩; exact hlt; go_num)
    · obtain ⟨T0, hT0⟩ := h2.s0.tells (by omega)
      obtain ⟨T1, hT1⟩ := h2.s1.tells (by omega)
      dsimp only at hT0 hT1
      have HK0 : Hid (∀ W, Chg (fun _ => False) w4 W → _) := Lib.hid (fun W hW => look_any (hT0.up hW) 0 (by decide) 4602678819172646912)
      have HK1 : Hid (∀ W, Chg (fun _ => False) w4 W → _) := Lib.hid (fun W hW => look_any (hT1.up hW) 0 (by decide) 4602678819172646912)
      have HF2 : Hid (∀ W, Chg (fun _ => False) w4 W → _) := Lib.hid (fun W hW => two_cells (hW.at_ HT2.out.here (fun h => h)) (hW.at_ HT2.out.want (fun h => h)))
      have HR0 : Hid (Chg (fun _ => False) w4 w4) := Chg.refl _ _
      obtain ⟨⟨l0, l1⟩, ⟨g0, g1⟩, ⟨a0, a1, a2, a3⟩, ⟨b0, b1, b2, b3⟩, f0, f1⟩ := HF2.out w4 HR0.out
      clear h2 hT0 hT1
      go_wp2_with (go_at_call 20; go_loud ((first
        | (with_reducible refine (HK0.out _ HR0.out).mono ?_)
        | (with_reducible refine (HK1.out _ HR0.out).mono ?_)); rintro e w7 ⟨rfl, hc7⟩; replace HR0 := Lib.hid (HR0.out.trans hc7 (fun _ _ h => h)); clear l0 l1 g0 g1 a0 a1 a2 a3 b0 b1 b2 b3 f0 f1; obtain ⟨⟨l0, l1⟩, ⟨g0, g1⟩, ⟨a0, a1, a2, a3⟩, ⟨b0, b1, b2, b3⟩, f0, f1⟩ := HF2.out _ HR0.out; clear hc7))
      go_ret
      exact ⟨rfl, (HT2.out.chg.trans HR0.out (fun _ _ h => h)).below⟩
end Go.Proofs.Ytecppcgleidhkaa.Gs
