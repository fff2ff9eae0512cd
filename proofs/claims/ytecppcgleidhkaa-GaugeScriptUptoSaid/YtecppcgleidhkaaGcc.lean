/- One call of a script: Hear. Conditions: what both Hears answer. -/
import Derived.Test.YtecppcgleidhkaaGca
import Derived.Deep.RegionHeld3
set_option linter.unusedVariables false
set_option linter.unusedSimpArgs false
set_option exponentiation.threshold 3000
namespace Go.Proofs.Ytecppcgleidhkaa.Gs
open Go.RowKit Go.Proofs.Ytecppcgleidhkaa.Lib1 Go.Proofs.Ytecppcgleidhkaa.Rel Go.Proofs.Ytecppcgleidhkaa.Own Go.Proofs.Ytecppcgleidhkaa.Fl Go.Proofs.Ytecppcgleidhkaa.Gp Go.Proofs.Ytecppcgleidhkaa.Gw Go.Proofs.Ytecppcgleidhkaa.Gm Go.Proofs.Ytecppcgleidhkaa.Gk Go.Proofs.Ytecppcgleidhkaa.Gb Go.Proofs.Ytecppcgleidhkaa.Gx

theorem cell_al {W : World} {o : Obj} {b i : Nat} {v : Value} (h : W.cell? ⟨b, i, none⟩ = some v) (hb : b < W.heap.size) : (W.alloc o).cell? ⟨b, i, none⟩ = some v :=
  (World.cell?_of_block (a := ⟨b, i, none⟩) (((Chg.refl (fun _ => False) W).alloc o).block b hb (fun h => h))).trans h
theorem kbox {W : World} {K : Nat} {a0 a1 a2 a3 : Value} {t1 : TypeId} (h0 : W.heap[K]? = some (.cells #[a0, a1, a2, a3] t1 (0, 0))) : K < W.heap.size ∧ (W.cell? ⟨K, 0, none⟩ = some a0 ∧ W.cell? ⟨K, 1, none⟩ = some a1 ∧ W.cell? ⟨K, 2, none⟩ = some a2 ∧ W.cell? ⟨K, 3, none⟩ = some a3) ∧ ∀ i, W.frozen? ⟨K, i, none⟩ = false :=
  ⟨lt_of _ h0, ⟨cell_at h0 0 rfl, cell_at h0 1 rfl, cell_at h0 2 rfl, cell_at h0 3 rfl⟩, fun i => free_at h0 i⟩
theorem cell_dr {W : World} {b i : Nat} {v : Value} (h : W.cell? ⟨b, i, none⟩ = some v) : W.drew.cell? ⟨b, i, none⟩ = some v := h
theorem kept3 {W w' : World} {o : Obj} {R : Nat} (h : Chg (fun _ => False) (W.alloc o) w') (l : R + 2 < W.heap.size) : w'.heap[W.heap.size]? = some o ∧ R ≠ W.heap.size ∧ R + 1 ≠ W.heap.size ∧ R + 3 ≤ W.heap.size := ⟨h.at_ (heap_new _ _) (fun h => h), by omega, by omega, l⟩
theorem kept3d {W w' : World} {o : Obj} {R : Nat} (h : Chg (fun _ => False) (W.alloc o).drew w') (l : R + 2 < W.heap.size) : w'.heap[W.heap.size]? = some o ∧ R ≠ W.heap.size ∧ R + 1 ≠ W.heap.size ∧ R + 3 ≤ W.heap.size := ⟨h.at_ (heap_new _ _) (fun h => h), by omega, by omega, l⟩
theorem kept {W w' : World} {o : Obj} (h : Chg (fun _ => False) (W.alloc o) w') : w'.heap[W.heap.size]? = some o := h.at_ (heap_new _ _) (fun h => h)
theorem kept_d {W w' : World} {o : Obj} (h : Chg (fun _ => False) (W.alloc o).drew w') : w'.heap[W.heap.size]? = some o := h.at_ (heap_new _ _) (fun h => h)
theorem both {a b c : World} (h1 : Chg (fun _ => False) a b) (h2 : Chg (fun _ => False) b c) : Chg (fun _ => False) a b ∧ Chg (fun _ => False) a c := ⟨h1, h1.trans h2 (fun _ _ h => h)⟩
set_option maxRecDepth 100000 in
set_option maxHeartbeats 4000000 in
theorem called_1 {w : World} {gv : Value} {t : Bool} {kp : Nat} {A B : Option Addr} {n c m d : Nat} {T : Told} (h : Tells w gv t kp A n c B m d T) (who : Int) (kp2 : Nat) (sl cd er : Int) (PG : World → World → Prop) (PD : Nat → World → Value → Prop)
    (HG : ∀ W, Chg (fun _ => False) w W → Calls Try.prog 22 #[gv, .agg (resp sl cd)] W fun e w' => e = .returned (.int .i64 er) ∧ PG W w' ∧ Chg (fun k => k < w.heap.size) W w')
    (HD : ∀ W W1 W2, Chg (fun _ => False) w W → PG W W1 → Chg (fun k => k < w.heap.size) W W1 → Chg (fun _ => False) W1 W2 → Calls Try.prog 26 #[.agg #[.bool t, .float .f64 kp, .slice A n c, .slice B m d], .agg (resp sl cd)] W2 fun e w' => (∃ t' kp' A' n' c' B' m' d', e = .returned (.tuple #[.agg #[.bool t', .float .f64 kp', .slice A' n' c', .slice B' m' d'], .int .i64 er]) ∧ PD W2.heap.size w' (.agg #[.bool t', .float .f64 kp', .slice A' n' c', .slice B' m' d'])) ∧ Chg (fun _ => False) W2 w') :
    Calls Try.prog 19 #[gv, .agg #[.bool t, .float .f64 kp, .slice A n c, .slice B m d], .agg #[.int .i64 1, .int .i64 who, .float .f64 kp2, .int .i64 sl, .int .i64 cd]] w fun e w' => ∃ W W1 W2 W3 wv', e = .returned (.tuple #[wv', .bool true]) ∧ Chg (fun _ => False) w W ∧ PG W W1 ∧ Chg (fun k => k < w.heap.size) W W1 ∧ Chg (fun _ => False) W1 W2 ∧ PD W2.heap.size W3 wv' ∧ Chg (fun _ => False) W2 W3 ∧ Chg (fun k => (w.heap.size ≤ k ∧ k < W.heap.size) ∨ (W1.heap.size ≤ k ∧ k < W2.heap.size)) W3 w' := by
  have DM := Lib.hid h.DM
  have HG := Lib.hid HG
  have HD := Lib.hid HD
  have HRS : Hid (∀ W, Calls Try.prog 23 #[.agg #[.int .i64 sl, .int .i64 cd]] W fun e w' => e = .returned (.agg (resp sl cd)) ∧ Chg (fun _ => False) W w') := fun W => response_walk sl cd W
  clear h
  unfold resp at HG HD HRS
  obtain ⟨mm, s, v, k, qf, qcf, tr, ti, cnf⟩ := T
  simp only at DM
  obtain ⟨R, hR⟩ : ∃ R, R = w.heap.size := ⟨_, rfl⟩
  have HR := Lib.hid hR
  go_enter Try.func19, Try.ntmps19
  go_upto_region 1 with (fail)
  rw [← hR]
  generalize hw1 : ((w.alloc _).alloc _).alloc _ = w1
  have HC1 : Hid (Chg (fun _ => False) w w1) := by rw [← hw1]; exact (((Chg.refl _ _).alloc _).alloc _).alloc _
  have HB0 : Hid (w1.heap[R]? = some (.cells #[.bool t, .float .f64 kp, .slice A n c, .slice B m d] 44 (0, 0))) := by rw [← hw1, hR]; exact heap_old _ (heap_old _ (heap_new _ _))
  have HB1 : Hid (w1.heap[R + 1]? = some (.cells #[.int .i64 1, .int .i64 who, .float .f64 kp2, .int .i64 sl, .int .i64 cd] 47 (0, 0))) := by rw [← hw1]; exact heap_old _ (heap_new' _ _ (by rw [hR]; simp))
  have HB2 : Hid (w1.heap[R + 2]? = some (.cells #[.bool false, .float .f64 0, .slice none 0 0, .slice none 0 0] 44 (0, 0))) := by rw [← hw1]; exact heap_new' _ _ (by rw [hR]; simp)
  clear hw1 hR
  have HX : Hid (∀ W, Chg (fun k => k < w.heap.size) w1 W → _) := Lib.hid (fun W hW => boxes (hW.at_ HB0.out (fun h => by have := HR.out; omega)) (hW.at_ HB1.out (fun h => by have := HR.out; omega)) (hW.at_ HB2.out (fun h => by have := HR.out; omega)))
  have HC : Hid (Chg (fun k => k < w.heap.size) w1 w1) := Chg.refl _ _
  obtain ⟨⟨l0, l1, l2⟩, ⟨a0, a1, a2, a3⟩, ⟨o0, o1, o2, o3, o4⟩, ⟨r0, r1, r2, r3⟩, fz2⟩ := HX.out _ HC.out
  clear HB0 HB1 HB2
  have HA : Hid (Chg (fun _ => False) w w1) := HC1
  go_upto_region 5 with (first
    | (go_at_call 33; go_loud (refine (DM.out _ HA.out).mono ?_; rintro e w' ⟨rfl, hc'⟩; replace HA := Lib.hid (HA.out.trans hc' (fun _ _ h => h)); replace HC := Lib.hid (HC.out.trans hc' (fun _ _ h => h.elim)); clear l0 l1 l2 a0 a1 a2 a3 o0 o1 o2 o3 o4 r0 r1 r2 r3 fz2; obtain ⟨⟨l0, l1, l2⟩, ⟨a0, a1, a2, a3⟩, ⟨o0, o1, o2, o3, o4⟩, ⟨r0, r1, r2, r3⟩, fz2⟩ := HX.out _ HC.out; clear hc'))
    | (go_at_call 23; go_loud (refine (HRS.out _).mono ?_; rintro e W0 ⟨rfl, hc'⟩; replace HA := Lib.hid (HA.out.trans hc' (fun _ _ h => h)); replace HC := Lib.hid (HC.out.trans hc' (fun _ _ h => h.elim)); clear l0 l1 l2 a0 a1 a2 a3 o0 o1 o2 o3 o4 r0 r1 r2 r3 fz2; obtain ⟨⟨l0, l1, l2⟩, ⟨a0, a1, a2, a3⟩, ⟨o0, o1, o2, o3, o4⟩, ⟨r0, r1, r2, r3⟩, fz2⟩ := HX.out _ HC.out; clear hc'))
    | (go_at_call 22; go_loud (refine (HG.out _ HA.out).mono ?_; rintro e W1 ⟨rfl, hp, hc'⟩; have HLW : Hid (R + 2 < W0.heap.size) := l2; have HPG := Lib.hid hp; have HC2 := Lib.hid hc'; replace HC := Lib.hid (HC.out.trans hc' (fun _ _ h => h)); clear l0 l1 l2 a0 a1 a2 a3 o0 o1 o2 o3 o4 r0 r1 r2 r3 fz2; obtain ⟨⟨l0, l1, l2⟩, ⟨a0, a1, a2, a3⟩, ⟨o0, o1, o2, o3, o4⟩, ⟨r0, r1, r2, r3⟩, fz2⟩ := HX.out _ HC.out; clear hc' hp)))
  have HXX : Hid (∀ W, Chg (fun _ => False) W1 W → _) := Lib.hid (fun W hW => HX.out W (HC.out.trans hW (fun _ _ h => h.elim)))
  clear HX DM HG
  have HDD : Hid (∀ W2, Chg (fun _ => False) W1 W2 → _) := Lib.hid (fun W2 hW => HD.out _ W1 W2 HA.out HPG.out HC2.out hW)
  clear HD
  go_cut [12, 13] from 47 to 58 (fun x y wx => ∃ K W2 W3 t' kp' A' n' c' B' m' d', x = .pointer (some ⟨K, 0, none⟩) ∧ y = .int .i64 er ∧ Chg (fun _ => False) W1 W2 ∧ PD W2.heap.size W3 (.agg #[.bool t', .float .f64 kp', .slice A' n' c', .slice B' m' d']) ∧ Chg (fun _ => False) W2 W3 ∧ Chg (fun k => (w.heap.size ≤ k ∧ k < W0.heap.size) ∨ (W1.heap.size ≤ k ∧ k < W2.heap.size)) W3 wx ∧ wx.heap[K]? = some (.cells #[.bool t', .float .f64 kp', .slice A' n' c', .slice B' m' d'] 44 (0, 0)) ∧ R + 3 ≤ K ∧ Chg (fun _ => False) W1 wx)
  case first =>
    have HE : Hid (Chg (fun _ => False) W1 W1.drew) := (Chg.refl _ _).drew
    go_region_held3 (fun W => W.cell? ⟨R, 0, none⟩ = some (.bool t) ∧ W.cell? ⟨R, 1, none⟩ = some (.float .f64 kp) ∧ W.cell? ⟨R, 2, none⟩ = some (.slice A n c) ∧ W.cell? ⟨R, 3, none⟩ = some (.slice B m d) ∧ W.cell? ⟨R + 1, 3, none⟩ = some (.int .i64 sl) ∧ W.cell? ⟨R + 1, 4, none⟩ = some (.int .i64 cd)) (first | with_reducible exact ⟨a0, a1, a2, a3, o3, o4⟩ | with_reducible exact ⟨cell_dr a0, cell_dr a1, cell_dr a2, cell_dr a3, cell_dr o3, cell_dr o4⟩ | with_reducible exact ⟨cell_al a0 l0, cell_al a1 l0, cell_al a2 l0, cell_al a3 l0, cell_al o3 l1, cell_al o4 l1⟩ | with_reducible exact ⟨cell_dr (cell_al a0 l0), cell_dr (cell_al a1 l0), cell_dr (cell_al a2 l0), cell_dr (cell_al a3 l0), cell_dr (cell_al o3 l1), cell_dr (cell_al o4 l1)⟩ | with_reducible exact ⟨cell_st4 a0 kz0, cell_st4 a1 kz0, cell_st4 a2 kz0, cell_st4 a3 kz0, cell_st4 o3 kz1, cell_st4 o4 kz1⟩ | with_reducible exact ⟨cell_dr (cell_st4 a0 kz0), cell_dr (cell_st4 a1 kz0), cell_dr (cell_st4 a2 kz0), cell_dr (cell_st4 a3 kz0), cell_dr (cell_st4 o3 kz1), cell_dr (cell_st4 o4 kz1)⟩) (first
      | (go_at_call 23; go_loud (refine (HRS.out _).mono ?_; rintro e w' ⟨rfl, hc'⟩; have l2p := l2; obtain ⟨hw2, hw3⟩ := both (show Chg (fun _ => False) W1 _ from by repeat (first | with_reducible exact HE.out | with_reducible apply Chg.alloc | with_reducible apply Chg.drew | with_reducible exact Chg.refl _ _)) hc'; replace HE := Lib.hid hw3; clear hw2 hw3; clear l0 l1 l2 a0 a1 a2 a3 o0 o1 o2 o3 o4 r0 r1 r2 r3 fz2; obtain ⟨⟨l0, l1, l2⟩, ⟨a0, a1, a2, a3⟩, ⟨o0, o1, o2, o3, o4⟩, ⟨r0, r1, r2, r3⟩, fz2⟩ := HXX.out _ HE.out; (first | ((first | (with_reducible have hz3 := kept3 hc' l2p) | (with_reducible have hz3 := kept3d hc' l2p)); obtain ⟨hz, kz0, kz1, kz2⟩ := hz3; have HZ := Lib.hid hz; clear hz; obtain ⟨zl, ⟨z0, z1, z2, z3⟩, zf⟩ := kbox HZ.out) | skip); clear l2p hc'))
      | (go_at_call 26; go_loud (refine (HDD.out _ (by repeat (first | with_reducible exact HE.out | with_reducible apply Chg.alloc | with_reducible apply Chg.drew | with_reducible exact Chg.refl _ _))).mono ?_; rintro e w' ⟨⟨t', kp', A', n', c', B', m', d', rfl, hpd⟩, hc'⟩; have l2p := l2; obtain ⟨hw2, hw3⟩ := both (show Chg (fun _ => False) W1 _ from by repeat (first | with_reducible exact HE.out | with_reducible apply Chg.alloc | with_reducible apply Chg.drew | with_reducible exact Chg.refl _ _)) hc'; have HW2 := Lib.hid hw2; have HPD := Lib.hid hpd; have HC3 := Lib.hid hc'; have HE0 := HE; replace HE := Lib.hid hw3; clear hw2 hw3; clear l0 l1 l2 a0 a1 a2 a3 o0 o1 o2 o3 o4 r0 r1 r2 r3 fz2; obtain ⟨⟨l0, l1, l2⟩, ⟨a0, a1, a2, a3⟩, ⟨o0, o1, o2, o3, o4⟩, ⟨r0, r1, r2, r3⟩, fz2⟩ := HXX.out _ HE.out; (first | ((first | (with_reducible have hz3 := kept3 hc' l2p) | (with_reducible have hz3 := kept3d hc' l2p)); obtain ⟨hz, kz0, kz1, kz2⟩ := hz3; have HZ := Lib.hid hz; clear hz; obtain ⟨zl, ⟨z0, z1, z2, z3⟩, zf⟩ := kbox HZ.out) | (have HZ2 := Lib.hid (hc'.at_ HZ.out (fun h => h)); have zl0 := zl; clear zl z0 z1 z2 z3 zf; obtain ⟨zl, ⟨z0, z1, z2, z3⟩, zf⟩ := kbox HZ2.out) | skip); clear l2p hc' hpd)))
    all_goals go_wp2
    all_goals go_meet
    all_goals have hr := HR.out
    all_goals first
      | with_reducible refine ⟨_, _, _, _, _, _, _, _, _, _, _, rfl, rfl, HW2.out, HPD.out, HC3.out, (Chg.refl _ _).alloc _, heap_new _ _, ?_, HE.out.alloc _⟩
      | with_reducible refine ⟨_, _, _, _, _, _, _, _, _, _, _, rfl, rfl, HW2.out, HPD.out, HC3.out, ?_, (set4 _ _ _ _ HZ2.out).1, kz2, ?_⟩
      | with_reducible refine ⟨_, _, _, _, _, _, _, _, _, _, _, rfl, rfl, HW2.out, HPD.out, HC3.out, ?_, (set4 _ _ _ _ HZ.out).1, kz2, ?_⟩
    all_goals repeat (first | with_reducible exact Chg.refl _ _ | with_reducible exact HE.out | (with_reducible refine Chg.set (S := fun k => (w.heap.size ≤ k ∧ k < W0.heap.size) ∨ (W1.heap.size ≤ k ∧ k < _)) ?_ (.inr (.inr ⟨?_, ?_⟩))) | with_reducible refine Chg.set ?_ (.inl ?_))
    all_goals first | omega | (simp only [World.size_alloc]; omega) | (have := HE.out.size; have := HW2.out.size; have := HE0.out.size; (try simp only [World.size_alloc] at *); omega)
  case rest =>
    have hl2 := l2
    obtain ⟨K, W2, W3, t', kp', A', n', c', B', m', d', rfl, rfl, h1, hpd, h3, h4, hk, hk3, h5⟩ := hcut
    clear l0 l1 l2 a0 a1 a2 a3 o0 o1 o2 o3 o4 r0 r1 r2 r3 fz2
    obtain ⟨⟨l0, l1, l2⟩, ⟨a0, a1, a2, a3⟩, ⟨o0, o1, o2, o3, o4⟩, ⟨r0, r1, r2, r3⟩, fz2⟩ := HXX.out _ h5
    obtain ⟨zl, ⟨z0, z1, z2, z3⟩, zf⟩ := kbox hk
    have hs1 := h1.size
    have H4 := Lib.hid h4
    have HK := Lib.hid hk
    clear h4 hk h5
    go_wp2
    refine bodyPost_ret (v := .tuple #[.agg #[.bool t', .float .f64 kp', .slice A' n' c', .slice B' m' d'], .bool true]) (by simp [results, Try.results19, go_sem, r0, r1, r2, r3, fz2]) rfl ?_
    have hr := HR.out
    refine ⟨_, W1, W2, W3, _, rfl, HA.out, HPG.out, HC2.out, h1, hpd, h3, ?_⟩
    have hlw := HLW.out
    repeat (first | with_reducible exact H4.out | with_reducible refine Chg.set ?_ (.inr (.inl ⟨?_, ?_⟩)))
    all_goals omega
end Go.Proofs.Ytecppcgleidhkaa.Gs
