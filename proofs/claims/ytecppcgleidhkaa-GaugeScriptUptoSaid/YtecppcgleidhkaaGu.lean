/- The document's Measure. Conditions: the list reads so. -/
import Derived.Test.YtecppcgleidhkaaGj
set_option linter.unusedVariables false
set_option linter.unusedSimpArgs false
set_option exponentiation.threshold 3000
namespace Go.Proofs.Ytecppcgleidhkaa.Gx
open Go.RowKit Go.Proofs.Ytecppcgleidhkaa.Lib1 Go.Proofs.Ytecppcgleidhkaa.Rel Go.Proofs.Ytecppcgleidhkaa.Own Go.Proofs.Ytecppcgleidhkaa.Fl Go.Proofs.Ytecppcgleidhkaa.Gp Go.Proofs.Ytecppcgleidhkaa.Gw Go.Proofs.Ytecppcgleidhkaa.Gm Go.Proofs.Ytecppcgleidhkaa.Gk Go.Proofs.Ytecppcgleidhkaa.Gb

/-- How the document's Measure answers. -/
def RM (w : World) (k n : Nat) : Option G → Ending → World → Prop
  | some g, e, w' => ∃ A c B d, e = .returned (.tuple #[.agg #[.bool true, .float .f64 k, .slice A n c, .slice B n d], .int .i64 0]) ∧ RW (fun q => w.heap.size ≤ q ∧ q < w'.heap.size) w' A n c B n d g ∧ Chg (fun _ => False) w w'
  | none, e, w' => e = .returned (.tuple #[.agg #[.bool false, .float .f64 0, .slice none 0 0, .slice none 0 0], .int .i64 2]) ∧ Chg (fun _ => False) w w'
theorem rd_nil (ok : Nat → Prop) (w : World) : Rd ok w none 0 0 1 [] := ⟨rfl, Nat.le_refl _, fun _ => rfl, fun h => absurd h (Nat.lt_irrefl _)⟩
theorem set4 {W : World} {T : Nat} {x0 x1 x2 x3 : Value} {ty : TypeId} {sp : Nat × Nat} (v0 v1 v2 v3 : Value) (h : W.heap[T]? = some (.cells #[x0, x1, x2, x3] ty sp)) :
    ((((W.setCell ⟨T, 0, none⟩ v0).setCell ⟨T, 1, none⟩ v1).setCell ⟨T, 2, none⟩ v2).setCell ⟨T, 3, none⟩ v3).heap[T]? = some (.cells #[v0, v1, v2, v3] ty sp) ∧
    Chg (fun q => q = T) W ((((W.setCell ⟨T, 0, none⟩ v0).setCell ⟨T, 1, none⟩ v1).setCell ⟨T, 2, none⟩ v2).setCell ⟨T, 3, none⟩ v3) :=
  ⟨heap_set (heap_set (heap_set (heap_set h 0 v0) 1 v1) 2 v2) 3 v3, ((((Chg.refl (fun q => q = T) W).set (.inr rfl)).set (.inr rfl)).set (.inr rfl)).set (.inr rfl)⟩
set_option maxRecDepth 100000 in
set_option maxHeartbeats 2000000 in
theorem rmeasure_walk (keep : Nat) (hk64 : keep < 2 ^ 64) (hs : List (Int × Int)) (A : Option Addr) (n c : Nat) (w : World) (h : (Kd.slice 112 respK).rel (fun k => k < w.heap.size) w hs [.slice A n c]) (hn : n ≤ 1073741824) (hfit : ∀ x ∈ hs, (Lit.int .i64 x.1).wf = true ∧ (Lit.int .i64 x.2).wf = true) :
    Calls Try.prog 21 #[.float .f64 keep, .slice A n c] w fun e w' => RM w keep n (Gm.measure keep hs) e w' := by
  have HL : Hid (hs.length = n) := by
    obtain ⟨A', c', cells, he, -⟩ := h
    simp only [List.cons.injEq, Value.slice.injEq, and_true] at he
    exact he.2.1.symm
  have HH := Lib.hid h
  have HF := Lib.hid hfit
  have HN : Hid (∀ W, _) := Lib.hid (fun W => rnew_walk keep W)
  clear h hfit
  obtain ⟨R, hR⟩ : ∃ R, R = w.heap.size := ⟨_, rfl⟩
  have HR := Lib.hid hR
  unfold Gm.measure
  by_cases hk : keeps keep = true
  · simp only [hk, if_true] at HN ⊢
    have HK := Lib.hid (keeps_lt hk64 hk)
    clear hk
    go_enter Try.func21, Try.ntmps21
    go_upto_region 2 with (go_at_call 18; go_loud (refine (HN.out _).mono ?_; rintro e w1 ⟨rfl, hc⟩; have HC1 := Lib.hid hc; clear hc))
    rw [← hR]
    obtain ⟨T, hT⟩ : ∃ T, T = w1.heap.size := ⟨_, rfl⟩
    have hRT : R < T := by
      have := HC1.out.size
      simp only [World.size_alloc] at this
      omega
    rw [← hT]
    generalize hw2 : w1.alloc _ = w2
    have HC2 : Hid (Chg (fun _ => False) w w2) := by rw [← hw2]; exact (((Chg.refl _ _).alloc _).trans HC1.out (fun _ _ h => h)).alloc _
    have HB4 : Hid (w2.heap[R]? = some (.cells #[.bool false, .float .f64 0, .slice none 0 0, .slice none 0 0] 44 (0, 0))) := by
      rw [← hw2, hR]; exact heap_old _ ((HC1.out.block w.heap.size (by simp) (fun h => h)).trans (heap_new _ _))
    have HB6 : Hid (w2.heap[T]? = some (.cells #[.bool true, .float .f64 keep, .slice none 0 0, .slice none 0 0] 44 (0, 0))) := by
      rw [← hw2, hT]; exact heap_new _ _
    have hT2 : T < w2.heap.size := by rw [← hw2, hT]; simp
    clear hw2 hT hR HC1
    go_wp2
    go_loopw [7, 8] (fun code i wr => ∃ k : Nat, k ≤ n ∧ i = .int .i64 k ∧ Chg (fun q => q = T) w2 wr ∧
      ((code = .int .i64 0 ∧ ∃ g A c B d, hears (g0 keep) (hs.take k) = some g ∧ wr.heap[T]? = some (.cells #[.bool true, .float .f64 keep, .slice A k c, .slice B k d] 44 (0, 0)) ∧ RW (fun q => T < q ∧ q < wr.heap.size) wr A k c B k d g)
       ∨ (code = .int .i64 2 ∧ hears (g0 keep) hs = none))) (fun _ i _ => n - (intOf i).toNat)
    case atStart => exact ⟨0, Nat.zero_le _, rfl, Chg.refl _ _, .inl ⟨rfl, g0 keep, none, 0, none, 0, rfl, HB6.out, ⟨rd_nil _ _ , rd_nil _ _⟩⟩⟩
    case round =>
      obtain ⟨w3, rfl⟩ : ∃ w3, w3 = wr := ⟨_, rfl⟩
      obtain ⟨k, hk, rfl, hc, hJ⟩ := hrel
      have HC := Lib.hid hc
      have hB3 : w3.heap[R]? = _ := (hc.block R (by omega) (fun e => by omega)).trans HB4.out
      have HB3 := Lib.hid hB3
      have hT3 : T < w3.heap.size := Nat.lt_of_lt_of_le hT2 hc.size
      clear hc hB3
      rcases hJ with ⟨rfl, g, A1, c1, B1, d1, hh, hbx, hrw⟩ | ⟨rfl, hnone⟩
      · have HHS := Lib.hid hh
        have HBX := Lib.hid hbx
        have HRW := Lib.hid hrw
        have HGD := Lib.hid (good_any HK.out hh (by rw [List.length_take]; omega))
        obtain ⟨p0, p1, p2, p3⟩ : w3.cell? ⟨T, 0, none⟩ = some (.bool true) ∧ w3.cell? ⟨T, 1, none⟩ = some (.float .f64 keep) ∧ w3.cell? ⟨T, 2, none⟩ = some (.slice A1 k c1) ∧ w3.cell? ⟨T, 3, none⟩ = some (.slice B1 k d1) := ⟨cell_at hbx 0 rfl, cell_at hbx 1 rfl, cell_at hbx 2 rfl, cell_at hbx 3 rfl⟩
        clear hh hbx hrw
        by_cases hlt : k < n
        · obtain ⟨⟨s0, c0⟩, hx⟩ : ∃ x, hs[k]? = some x := ⟨_, List.getElem?_eq_getElem (by have := HL.out; omega)⟩
          obtain ⟨-, b2, off, rfl, hb, hcell⟩ := resp_at HH.out (by omega)
          have hcell2 : ∀ j u, (resp s0 c0)[j]? = some u → w3.cell? ⟨b2, off + k * 10 + j, none⟩ = some u := fun j u hu => (World.cell?_of_block (a := ⟨b2, off + k * 10 + j, none⟩) ((HC.out.block b2 (Nat.lt_of_lt_of_le hb HC2.out.size) (fun e => by have := HR.out; omega)).trans (HC2.out.block b2 hb (fun h => h)))).trans (hcell k s0 c0 hx j u hu)
          have y0 : w3.cell? ⟨b2, off + k * 10, none⟩ = some (.int .i64 s0) := hcell2 0 _ rfl
          have y1 : w3.cell? ⟨b2, off + k * 10 + 1, none⟩ = some (.int .i64 0) := hcell2 1 _ rfl
          have y2 : w3.cell? ⟨b2, off + k * 10 + 2, none⟩ = some (.int .i64 c0) := hcell2 2 _ rfl
          have y3 : w3.cell? ⟨b2, off + k * 10 + 3, none⟩ = some (.int .i64 0) := hcell2 3 _ rfl
          have y4 : w3.cell? ⟨b2, off + k * 10 + 4, none⟩ = some (.int .i64 0) := hcell2 4 _ rfl
          have y5 : w3.cell? ⟨b2, off + k * 10 + 5, none⟩ = some (.bool false) := hcell2 5 _ rfl
          have y6 : w3.cell? ⟨b2, off + k * 10 + 6, none⟩ = some (.slice none 0 0) := hcell2 6 _ rfl
          have y7 : w3.cell? ⟨b2, off + k * 10 + 7, none⟩ = some (.slice none 0 0) := hcell2 7 _ rfl
          have y8 : w3.cell? ⟨b2, off + k * 10 + 8, none⟩ = some (.bool false) := hcell2 8 _ rfl
          have y9 : w3.cell? ⟨b2, off + k * 10 + 9, none⟩ = some (.int .i64 0) := hcell2 9 _ rfl
          have HX := Lib.hid hx
          have hfx := HF.out (s0, c0) (List.mem_of_getElem? hx)
          have HW : Hid (∀ W, Chg (fun _ => False) w3 W → Calls Try.prog 26 #[.agg #[.bool true, .float .f64 keep, .slice A1 k c1, .slice B1 k d1], .agg (resp s0 c0)] W fun e w' =>
              (if takes g s0 = true then ∃ A' c' B' d', e = .returned (.tuple #[.agg #[.bool true, .float .f64 keep, .slice A' (k + 1) c', .slice B' (k + 1) d'], .int .i64 0]) ∧ RW (fun q => W.heap.size ≤ q ∧ q < w'.heap.size) w' A' (k + 1) c' B' (k + 1) d' (g.hear s0.toNat c0)
               else e = .returned (.tuple #[.agg #[.bool true, .float .f64 keep, .slice A1 k c1, .slice B1 k d1], .int .i64 2])) ∧ Chg (fun _ => False) W w') := fun W hW => by
            refine rhear_walk ((HRW.out.mono (fun q hq => hq.2)).up hW) (by omega) (by omega) keep s0 c0 ?_ HGD.out.ok
            have := hfx.1
            simp [Lit.wf, IntKind.min, IntKind.max, IntKind.bits, IntKind.signed] at this
            omega
          unfold resp at HW
          have HNX : Hid (hears (g0 keep) (hs.take (k + 1)) = hear1 g (s0, c0)) := by
            rw [take_snoc' hx, hears_snoc, HHS.out]; rfl
          clear hcell hcell2 hx hfx
          go_upto_region 5 with (fail)
          by_cases ht : takes g s0 = true
          · simp only [ht, if_true] at HW
            have HT := Lib.hid ht
            clear ht
            go_region_with (go_at_call 26; go_loud (refine (HW.out _ (Chg.refl (fun _ => False) w3).drew).mono ?_; rintro e w4 ⟨⟨A', c', B', d', rfl, hrw4⟩, hc4⟩; have HRW4 := Lib.hid hrw4; have HC4 := Lib.hid hc4; have hT4 : T < w4.heap.size := Nat.lt_of_lt_of_le hT3 hc4.size; have hb4 := hc4.at_ (show w3.drew.heap[T]? = _ from HBX.out) (fun h => h); have HB64 := Lib.hid hb4; have f4 : ∀ i, w4.frozen? ⟨T, i, none⟩ = false := fun i => free_at hb4 i; obtain ⟨q0, q1, q2, q3⟩ : w4.cell? ⟨T, 0, none⟩ = some (.bool true) ∧ w4.cell? ⟨T, 1, none⟩ = some (.float .f64 keep) ∧ w4.cell? ⟨T, 2, none⟩ = some (.slice A1 k c1) ∧ w4.cell? ⟨T, 3, none⟩ = some (.slice B1 k d1) := ⟨cell_at hb4 0 rfl, cell_at hb4 1 rfl, cell_at hb4 2 rfl, cell_at hb4 3 rfl⟩; clear hb4; clear hrw4 hc4))
            all_goals go_wp2
            all_goals go_roundw
            all_goals first
              | (show _ < _; simp [intOf]; omega)
              | skip
            all_goals
              obtain ⟨hbx5, hc5⟩ := set4 (.bool true) (.float .f64 keep) (.slice A' (k + 1) c') (.slice B' (k + 1) d') HB64.out
              have hsz := HC4.out.size
              have hsz2 := hc5.size
              simp only [World.size_drew] at hsz
              exact ⟨k + 1, hlt, by go_num, (HC.out.trans ((Chg.refl (fun _ => False) w3).drew.trans HC4.out (fun _ _ h => h)) (fun _ _ h => h.elim)).trans hc5 (fun _ _ h => h), .inl ⟨rfl, g.hear s0.toNat c0, A', c', B', d', by rw [HNX.out]; unfold hear1; rw [if_pos HT.out], hbx5, (HRW4.out.move (fun q hq => hc5.block q hq.2 (fun e => by have := hq.1; simp only [World.size_drew] at this; omega))).mono (fun q hq => ⟨by have := hq.1; simp only [World.size_drew] at this; omega, Nat.lt_of_lt_of_le hq.2 hsz2⟩)⟩⟩
          · have ht' : takes g s0 = false := by simpa using ht
            simp only [ht', Bool.false_eq_true, if_false] at HW
            have HT := Lib.hid ht'
            clear ht ht'
            go_region_with (go_at_call 26; go_loud (refine (HW.out _ (Chg.refl (fun _ => False) w3).drew).mono ?_; rintro e w4 ⟨rfl, hc4⟩; have HC4 := Lib.hid hc4; have hT4 : T < w4.heap.size := Nat.lt_of_lt_of_le hT3 hc4.size; have hb4 := hc4.at_ (show w3.drew.heap[T]? = _ from HBX.out) (fun h => h); have HB64 := Lib.hid hb4; have f4 : ∀ i, w4.frozen? ⟨T, i, none⟩ = false := fun i => free_at hb4 i; obtain ⟨q0, q1, q2, q3⟩ : w4.cell? ⟨T, 0, none⟩ = some (.bool true) ∧ w4.cell? ⟨T, 1, none⟩ = some (.float .f64 keep) ∧ w4.cell? ⟨T, 2, none⟩ = some (.slice A1 k c1) ∧ w4.cell? ⟨T, 3, none⟩ = some (.slice B1 k d1) := ⟨cell_at hb4 0 rfl, cell_at hb4 1 rfl, cell_at hb4 2 rfl, cell_at hb4 3 rfl⟩; clear hb4 hc4))
            all_goals go_wp2
            all_goals go_roundw
            all_goals first
              | (show _ < _; simp [intOf]; omega)
              | skip
            all_goals
              obtain ⟨hbx5, hc5⟩ := set4 (.bool true) (.float .f64 keep) (.slice A1 k c1) (.slice B1 k d1) HB64.out
              exact ⟨k + 1, hlt, by go_num, (HC.out.trans ((Chg.refl (fun _ => False) w3).drew.trans HC4.out (fun _ _ h => h)) (fun _ _ h => h.elim)).trans hc5 (fun _ _ h => h), .inr ⟨rfl, hears_take (k := k + 1) (by rw [HNX.out]; unfold hear1; rw [HT.out]; rfl)⟩⟩
        · have fR : ∀ i, w3.frozen? ⟨R, i, none⟩ = false := fun i => free_at HB3.out i
          obtain ⟨r0, r1, r2, r3⟩ : w3.cell? ⟨R, 0, none⟩ = some (.bool false) ∧ w3.cell? ⟨R, 1, none⟩ = some (.float .f64 0) ∧ w3.cell? ⟨R, 2, none⟩ = some (.slice none 0 0) ∧ w3.cell? ⟨R, 3, none⟩ = some (.slice none 0 0) := ⟨cell_at HB3.out 0 rfl, cell_at HB3.out 1 rfl, cell_at HB3.out 2 rfl, cell_at HB3.out 3 rfl⟩
          have hR3 : R < w3.heap.size := by omega
          go_wp2
          refine bodyPost_ret (v := .tuple #[.agg #[.bool true, .float .f64 keep, .slice A1 k c1, .slice B1 k d1], .int .i64 0]) (by simp [results, Try.results21, go_sem, p0, p1, p2, p3, r0, r1, r2, r3, fR]) rfl ?_
          obtain rfl : k = n := by omega
          obtain ⟨hbx5, hc5⟩ := set4 (.bool true) (.float .f64 keep) (.slice A1 k c1) (.slice B1 k d1) HB3.out
          have hh := HHS.out
          rw [List.take_of_length_le (by rw [HL.out]; exact Nat.le_refl _)] at hh
          rw [hh]
          have hsz2 := hc5.size
          exact ⟨A1, c1, B1, d1, rfl, (HRW.out.move (fun q hq => hc5.block q hq.2 (fun e => by have := hq.1; omega))).mono (fun q hq => ⟨by have := hq.1; have := HR.out; omega, Nat.lt_of_lt_of_le hq.2 hsz2⟩), (HC2.out.trans HC.out (fun q hq e => by have := HR.out; omega)).trans hc5 (fun q hq e => by have := HR.out; omega)⟩
      · have HNO := Lib.hid hnone
        clear hnone
        have fR : ∀ i, w3.frozen? ⟨R, i, none⟩ = false := fun i => free_at HB3.out i
        obtain ⟨r0, r1, r2, r3⟩ : w3.cell? ⟨R, 0, none⟩ = some (.bool false) ∧ w3.cell? ⟨R, 1, none⟩ = some (.float .f64 0) ∧ w3.cell? ⟨R, 2, none⟩ = some (.slice none 0 0) ∧ w3.cell? ⟨R, 3, none⟩ = some (.slice none 0 0) := ⟨cell_at HB3.out 0 rfl, cell_at HB3.out 1 rfl, cell_at HB3.out 2 rfl, cell_at HB3.out 3 rfl⟩
        have hR3 : R < w3.heap.size := by omega
        by_cases hlt : k < n
        · go_wp2
          refine bodyPost_ret (v := .tuple #[.agg #[.bool false, .float .f64 0, .slice none 0 0, .slice none 0 0], .int .i64 2]) (by simp [results, Try.results21, go_sem, r0, r1, r2, r3, fR]) rfl ?_
          obtain ⟨hbx5, hc5⟩ := set4 (.bool false) (.float .f64 0) (.slice none 0 0) (.slice none 0 0) HB3.out
          rw [HNO.out]
          exact ⟨rfl, (HC2.out.trans HC.out (fun q hq e => by have := HR.out; omega)).trans hc5 (fun q hq e => by have := HR.out; omega)⟩
        · go_wp2
          refine bodyPost_ret (v := .tuple #[.agg #[.bool false, .float .f64 0, .slice none 0 0, .slice none 0 0], .int .i64 2]) (by simp [results, Try.results21, go_sem, r0, r1, r2, r3, fR]) rfl ?_
          obtain ⟨hbx5, hc5⟩ := set4 (.bool false) (.float .f64 0) (.slice none 0 0) (.slice none 0 0) HB3.out
          rw [HNO.out]
          exact ⟨rfl, (HC2.out.trans HC.out (fun q hq e => by have := HR.out; omega)).trans hc5 (fun q hq e => by have := HR.out; omega)⟩
  · have hk' : keeps keep = false := by simpa using hk
    simp only [hk', Bool.false_eq_true, if_false] at HN ⊢
    clear hk hk'
    go_enter Try.func21, Try.ntmps21
    go_upto_region 2 with (go_at_call 18; go_loud (refine (HN.out _).mono ?_; rintro e w1 ⟨rfl, hc⟩; have HC1 := Lib.hid hc; clear hc))
    rw [← hR]
    obtain ⟨T, hT⟩ : ∃ T, T = w1.heap.size := ⟨_, rfl⟩
    have hRT : R < T := by
      have := HC1.out.size
      simp only [World.size_alloc] at this
      omega
    rw [← hT]
    generalize hw2 : w1.alloc _ = w3
    have HC2 : Hid (Chg (fun _ => False) w w3) := by rw [← hw2]; exact (((Chg.refl _ _).alloc _).trans HC1.out (fun _ _ h => h)).alloc _
    have HB3 : Hid (w3.heap[R]? = some (.cells #[.bool false, .float .f64 0, .slice none 0 0, .slice none 0 0] 44 (0, 0))) := by
      rw [← hw2, hR]; exact heap_old _ ((HC1.out.block w.heap.size (by simp) (fun h => h)).trans (heap_new _ _))
    have hT2 : T < w3.heap.size := by rw [← hw2, hT]; simp
    clear hw2 hT hR HC1
    go_wp2
    go_loopw [7, 8] (fun code i wr => code = .int .i64 2 ∧ i = .int .i64 0 ∧ wr = w3) (fun _ i _ => n - (intOf i).toNat)
    case atStart => exact ⟨rfl, rfl, rfl⟩
    case round =>
      obtain ⟨rfl, rfl, hwr⟩ := hrel
      subst hwr
      have fR : ∀ i, wr.frozen? ⟨R, i, none⟩ = false := fun i => free_at HB3.out i
      obtain ⟨r0, r1, r2, r3⟩ : wr.cell? ⟨R, 0, none⟩ = some (.bool false) ∧ wr.cell? ⟨R, 1, none⟩ = some (.float .f64 0) ∧ wr.cell? ⟨R, 2, none⟩ = some (.slice none 0 0) ∧ wr.cell? ⟨R, 3, none⟩ = some (.slice none 0 0) := ⟨cell_at HB3.out 0 rfl, cell_at HB3.out 1 rfl, cell_at HB3.out 2 rfl, cell_at HB3.out 3 rfl⟩
      have hR3 : R < wr.heap.size := by omega
      by_cases hlt : 0 < n
      · go_wp2
        refine bodyPost_ret (v := .tuple #[.agg #[.bool false, .float .f64 0, .slice none 0 0, .slice none 0 0], .int .i64 2]) (by simp [results, Try.results21, go_sem, r0, r1, r2, r3, fR]) rfl ?_
        obtain ⟨hbx5, hc5⟩ := set4 (.bool false) (.float .f64 0) (.slice none 0 0) (.slice none 0 0) HB3.out
        exact ⟨rfl, HC2.out.trans hc5 (fun q hq e => by have := HR.out; omega)⟩
      · go_wp2
        refine bodyPost_ret (v := .tuple #[.agg #[.bool false, .float .f64 0, .slice none 0 0, .slice none 0 0], .int .i64 2]) (by simp [results, Try.results21, go_sem, r0, r1, r2, r3, fR]) rfl ?_
        obtain ⟨hbx5, hc5⟩ := set4 (.bool false) (.float .f64 0) (.slice none 0 0) (.slice none 0 0) HB3.out
        exact ⟨rfl, HC2.out.trans hc5 (fun q hq e => by have := HR.out; omega)⟩
end Go.Proofs.Ytecppcgleidhkaa.Gx
