/- The walk of LabelKeepsLists. Conditions: what comes in reads so, at most 2^20 labels. -/
import Derived.Test.YtdfplhoijapoeaaRw
import Derived.Test.YtdfplhoijapoeaaRx
import Derived.Test.YtdfplhoijapoeaaKe
set_option linter.unusedVariables false
set_option linter.unusedSimpArgs false
namespace Go.Proofs.Ytdfplhoijapoeaa.Lrz
open Go.RowKit Go.Proofs.Ytdfplhoijapoeaa.Lib1 Go.Proofs.Ytdfplhoijapoeaa.Rel Go.Proofs.Ytdfplhoijapoeaa.Lat Go.Proofs.Ytdfplhoijapoeaa.Lbl Go.Proofs.Ytdfplhoijapoeaa.Lbw Go.Proofs.Ytdfplhoijapoeaa.Lck Go.Proofs.Ytdfplhoijapoeaa.Lcb Go.Proofs.Ytdfplhoijapoeaa.Lcv Go.Proofs.Ytdfplhoijapoeaa.Lpl Go.Proofs.Ytdfplhoijapoeaa.Law Go.Proofs.Ytdfplhoijapoeaa.Lwc Go.Proofs.Ytdfplhoijapoeaa.Lkc Go.Proofs.Ytdfplhoijapoeaa.Lis Go.Proofs.Ytdfplhoijapoeaa.Lwr Go.Proofs.Ytdfplhoijapoeaa.Lke Go.Proofs.Ytdfplhoijapoeaa.Lcm Go.Proofs.Ytdfplhoijapoeaa.Lrc Go.Proofs.Ytdfplhoijapoeaa.Lcw Go.Proofs.Ytdfplhoijapoeaa.Lrv Go.Proofs.Ytdfplhoijapoeaa.Lrw Go.Proofs.Ytdfplhoijapoeaa.Lrx

theorem own_cell {w : World} {base : Nat} {e : TypeId} {sz n g c : Nat} {xs : List Value} (h : w.ownsRow base e sz (.slice (some ⟨g, 0, none⟩) n c) n xs) {i : Nat} (hi : i < n * sz) :
    (∃ u, w.cell? ⟨g, i, none⟩ = some u) ∧ w.frozen? ⟨g, i, none⟩ = false ∧ base ≤ g ∧ n ≤ c ∧ g < w.heap.size := by
  rcases h.2 with ⟨hv, _⟩ | ⟨g', cap, cur, hv, hb, hg, hn, hcm, hs, ht⟩
  · cases hv
  · simp only [Value.slice.injEq, Option.some.injEq, Addr.mk.injEq, true_and, and_true] at hv
    obtain ⟨rfl, rfl⟩ := hv
    have hi2 : i < cur.size := by rw [hs]; exact Nat.lt_of_lt_of_le hi (Nat.mul_le_mul_right sz hn)
    exact ⟨⟨_, cell_at hg i (Array.getElem?_eq_getElem hi2)⟩, free_at hg i, hb, hn, lt_of _ hg⟩
theorem own_set {w : World} {base : Nat} {e : TypeId} {sz n g c : Nat} {xs : List Value} (h : w.ownsRow base e sz (.slice (some ⟨g, 0, none⟩) n c) n xs) (i : Nat) (u : Value) :
    (w.setCell ⟨g, i, none⟩ u).ownsRow base e sz (.slice (some ⟨g, 0, none⟩) n c) n (xs.set i u) := by
  refine ⟨by rw [List.length_set]; exact h.1, ?_⟩
  rcases h.2 with ⟨hv, _⟩ | ⟨g', cap, cur, hv, hb, hg, hn, hcm, hs, ht⟩
  · cases hv
  · simp only [Value.slice.injEq, Option.some.injEq, Addr.mk.injEq, true_and, and_true] at hv
    obtain ⟨rfl, rfl⟩ := hv
    refine .inr ⟨g, c, cur.setIfInBounds i u, rfl, hb, heap_set hg i u, hn, hcm, by simpa using hs, ?_⟩
    rw [← ht, Array.toList_setIfInBounds, List.take_set]
/-- A row of one's own is nil or somewhere. -/
theorem own_some {w : World} {base : Nat} {e : TypeId} {sz n c : Nat} {A : Option Addr} {xs : List Value} (h : w.ownsRow base e sz (.slice A n c) n xs) (hn : 0 < n) : ∃ g, A = some ⟨g, 0, none⟩ := by
  rcases h.2 with ⟨hv, hz⟩ | ⟨g', cap, cur, hv, _⟩
  · omega
  · simp only [Value.slice.injEq] at hv
    exact ⟨g', hv.1⟩

set_option maxRecDepth 100000 in
set_option maxHeartbeats 6400000 in
theorem lists_walk {ok ok' : Nat → Prop} {w : World} (ls ms : List Nat) (A : Option Addr) (n c : Nat) (h : labsK.rel ok w ls [.slice A n c]) (hok : ∀ k, ok k → k < w.heap.size) (hf : labsK.fits ls)
    (B : Option Addr) (m d : Nat) (h' : labsK.rel ok' w ms [.slice B m d]) (hok' : ∀ k, ok' k → k < w.heap.size) (hf' : labsK.fits ms) (hN : n ≤ 1048576) :
    Calls Try.prog 11 #[.slice A n c, .slice B m d] w fun e w' => e = .returned (.bool true) ∧ Below w.heap.size w w' := by
  obtain ⟨hr, hn, hl⟩ := labs_rd h hf
  obtain ⟨hr', hn', hl'⟩ := labs_rd h' hf'
  have HL : Hid (ls.length = n) := by have := hr.len; rw [us_len] at this; show _ = _; omega
  have HM : Hid (ms.length = m) := by have := hr'.len; rw [us_len] at this; show _ = _; omega
  have HR : Hid (∀ w', Chg (fun _ => False) w w' → Rd (fun k => k < w.heap.size) w' A n c 1 (us ls)) := fun w' hc => (hr.mono hok).move (fun k hk => hc.block k hk (fun h => h))
  have HS : Hid (∀ w', Chg (fun _ => False) w w' → Rd (fun k => k < w.heap.size) w' B m d 1 (us ms)) := fun w' hc => (hr'.mono hok').move (fun k hk => hc.block k hk (fun h => h))
  have HB := Lib.hid hl
  have HB' := Lib.hid hl'
  clear h hr hl hf hok h' hr' hl' hf' hok'
  have H1 := Lib.hid (plain_any ls A n c (HR.out _ (Chg.refl _ _)) (fun k hk => hk) hn)
  go_enter Try.func11, Try.ntmps11
  go_wp2_with fail
  refine H1.out.mono ?_
  clear H1
  rintro e w1 ⟨v1, rfl, o1, hc⟩
  have C1 := Lib.hid hc
  have O1 := Lib.hid o1
  clear hc o1
  have H2 := Lib.hid (room_any ls A n c w1 _ (HR.out _ C1.out) (fun k hk => Nat.lt_of_lt_of_le hk C1.out.size) hn)
  go_wp2_with fail
  refine H2.out.mono ?_
  clear H2
  rintro e w2 ⟨v2, rfl, o2, hc⟩
  have C2 := Lib.hid hc
  obtain ⟨A2, c2, rfl, -⟩ := Rd.of_own o2
  obtain ⟨F, rfl⟩ := own_some o2 (by omega)
  have O2 := Lib.hid o2
  obtain ⟨N2, hN2⟩ : ∃ N2, N2 = n + 70 := ⟨_, rfl⟩
  rw [← hN2] at O2 ⊢
  have HN2 := Lib.hid hN2
  have hnN : n ≤ N2 := by omega
  have hNc : N2 ≤ c2 := (own_cell O2.out (i := 0) (by omega)).2.2.2.1
  have hF1 : w1.heap.size ≤ F := (own_cell O2.out (i := 0) (by omega)).2.2.1
  have hF2 : F < w2.heap.size := (own_cell O2.out (i := 0) (by omega)).2.2.2.2
  have hnc : n ≤ c2 := by omega
  clear hc o2 hN2
  obtain ⟨A1, c1, rfl, R1⟩ := Rd.of_own O1.out
  have HP : Hid (∀ W, (∀ k, k < w1.heap.size → W.heap[k]? = w1.heap[k]?) → Rd (fun k => k < w1.heap.size) W A1 n c1 1 (us ls)) := fun W hW => (R1.mono (fun k hk => (O1.out.lt k hk).2)).move hW
  clear R1 O1
  have H3 := Lib.hid (rcovers_any ls A1 n c1 w2 _ (HP.out w2 (fun k hk => C2.out.block k hk (fun h => h))) (fun k hk => Nat.lt_of_lt_of_le hk C2.out.size) hN HB.out)
  go_wp2_with fail
  refine H3.out.mono ?_
  clear H3
  rintro e w3 ⟨v3, rfl, o3, hc⟩
  have C3 := Lib.hid hc
  obtain ⟨A3, c3, rfl, R3⟩ := Rd.of_own o3
  obtain ⟨N, hNN⟩ : ∃ N, N = (covs ls ls ls.length).length := ⟨_, rfl⟩
  rw [← hNN] at o3 R3 ⊢
  have HNN := Lib.hid hNN
  have hNb : N ≤ 1099511627776 := by
    have h1 := covs_len ls ls ls.length
    have h2 : ls.length ≤ 1048576 := by rw [HL.out]; exact hN
    have h3 : ls.length * ls.length ≤ 1048576 * 1048576 := Nat.mul_le_mul h2 h2
    omega
  have HR3 : Hid (∀ W, (∀ k, w2.heap.size ≤ k → k < w3.heap.size → W.heap[k]? = w3.heap[k]?) → Rd (fun _ => True) W A3 N c3 2 (flat2 (covs ls ls ls.length))) := fun W hW => (R3.move (fun k hk => hW k (o3.lt k hk).1 (o3.lt k hk).2)).any
  clear hc o3 R3 hNN
  have C23 : Hid (Chg (fun _ => False) w2 w3) := C3.out
  have H4 := Lib.hid (rclose_cd ls A1 n c1 w3 _ (HP.out w3 (fun k hk => ((C2.out.trans C3.out (fun _ _ h => h)).block k hk (fun h => h)))) (fun k hk => Nat.lt_of_lt_of_le hk (Nat.le_trans C2.out.size C3.out.size)) hn HB.out)
  go_wp2_with fail
  refine H4.out.mono ?_
  clear H4
  rintro e w4 ⟨A4, c4, cs, z, rfl, d4, R4, hc⟩
  have C4 := Lib.hid hc
  have D4 := Lib.hid d4
  have HFEW : Hid (cs.length ≤ 16) := by
    rcases d4 with ⟨_, h2, _⟩ | ⟨_, _, h2⟩
    · rw [h2]; exact Nat.zero_le _
    · exact h2.few
  have HR4 : Hid (∀ W, (∀ k, w3.heap.size ≤ k → k < w4.heap.size → W.heap[k]? = w4.heap[k]?) → Rd (fun _ => True) W A4 cs.length c4 1 (us cs)) := fun W hW => (R4.move (fun k hk => hW k hk.1 hk.2)).any
  clear hc d4 R4
  have C24 : Hid (Chg (fun _ => False) w2 w4) := C23.out.trans C4.out (fun _ _ h => h)
  have HI : Hid (∀ W, W.heap[F]? = w2.heap[F]? → Rd (fun k => k = F) W (some ⟨F, 0, none⟩) n c2 1 (us ls)) := fun W hW => by
    have hrd := (Rd.of_own O2.out)
    obtain ⟨A', c', e', hr'⟩ := hrd
    simp only [Value.slice.injEq, true_and] at e'
    obtain ⟨rfl, rfl⟩ := e'
    refine ⟨by rw [us_len]; have := HL.out; omega, hnc, fun h => (by cases h), fun hp => ⟨F, 0, rfl, rfl, fun j u hu => ?_⟩⟩
    have hj : j < ls.length := by have := (List.getElem?_eq_some_iff.1 hu).1; simpa [us] using this
    obtain ⟨b, off, e1, hb, hcc⟩ := hr'.at_ (by have := HN2.out; omega)
    cases e1
    have e2 : (us (room ls 70))[j]? = some u := by
      rw [us_get (by rw [room_len]; omega), room_get1 ls 70 j hj, ← us_get hj]; exact hu
    exact (World.cell?_of_block (a := ⟨F, 0 + j, none⟩) hW).trans (hcc j u e2)
  have H5 := Lib.hid (covers_all ls (some ⟨F, 0, none⟩) n c2 w4 ((HI.out w4 (C24.out.block F hF2 (fun h => h))).mono (fun k hk => by subst hk; exact Nat.lt_of_lt_of_le hF2 C24.out.size)) hN HB.out)
  go_wp2_with fail
  refine H5.out.mono ?_
  clear H5
  rintro e w5 ⟨v5, rfl, o5, hc⟩
  have C5 := Lib.hid hc
  obtain ⟨A5, c5, rfl, -⟩ := Rd.of_own o5
  rw [← HNN.out] at o5 ⊢
  have O5 := Lib.hid o5
  have C25 : Hid (Chg (fun _ => False) w2 w5) := C24.out.trans hc (fun _ _ h => h)
  clear hc o5
  have H6 := Lib.hid (covers_all ls (some ⟨F, 0, none⟩) n c2 w5 ((HI.out w5 (C25.out.block F hF2 (fun h => h))).mono (fun k hk => by subst hk; exact Nat.lt_of_lt_of_le hF2 C25.out.size)) hN HB.out)
  go_wp2_with fail
  refine H6.out.mono ?_
  clear H6
  rintro e w6 ⟨v6, rfl, o6, hc⟩
  have C6 := Lib.hid hc
  obtain ⟨A6, c6, rfl, R6⟩ := Rd.of_own o6
  rw [← HNN.out] at o6 R6 ⊢
  have HR6 : Hid (∀ W, (∀ k, w5.heap.size ≤ k → k < w6.heap.size → W.heap[k]? = w6.heap[k]?) → Rd (fun _ => True) W A6 N c6 2 (flat2 (covs ls ls ls.length))) := fun W hW => (R6.move (fun k hk => hW k (o6.lt k hk).1 (o6.lt k hk).2)).any
  have C26 : Hid (Chg (fun _ => False) w2 w6) := C25.out.trans hc (fun _ _ h => h)
  clear hc o6 R6
  have H7 := Lib.hid (close_own ls (some ⟨F, 0, none⟩) n c2 w6 ((HI.out w6 (C26.out.block F hF2 (fun h => h))).mono (fun k hk => by subst hk; exact Nat.lt_of_lt_of_le hF2 C26.out.size)) hn HB.out)
  go_wp2_with fail
  refine H7.out.mono ?_
  clear H7
  rintro e w7 ⟨A7, c7, cs7, z7, rfl, d7, o7, hc⟩
  obtain ⟨rfl, rfl⟩ := D4.out.unique d7
  have C7 := Lib.hid hc
  have O7 := Lib.hid o7
  have C27 : Hid (Chg (fun _ => False) w2 w7) := C26.out.trans hc (fun _ _ h => h)
  clear hc o7 d7
  have H8 := Lib.hid (close_own ls (some ⟨F, 0, none⟩) n c2 w7 ((HI.out w7 (C27.out.block F hF2 (fun h => h))).mono (fun k hk => by subst hk; exact Nat.lt_of_lt_of_le hF2 C27.out.size)) hn HB.out)
  go_wp2_with fail
  refine H8.out.mono ?_
  clear H8
  rintro e w8 ⟨A8, c8, cs8, z8, rfl, d8, o8, hc⟩
  obtain ⟨rfl, rfl⟩ := D4.out.unique d8
  have C8 := Lib.hid hc
  have R8 := rd_own o8
  have HR8 : Hid (∀ W, (∀ k, w7.heap.size ≤ k → k < w8.heap.size → W.heap[k]? = w8.heap[k]?) → Rd (fun _ => True) W A8 cs.length c8 1 (us cs)) := fun W hW => (R8.move (fun k hk => hW k hk.1 hk.2)).any
  have C28 : Hid (Chg (fun _ => False) w2 w8) := C27.out.trans hc (fun _ _ h => h)
  clear hc o8 d8 R8
  obtain ⟨S, hS⟩ : ∃ S : Nat → Prop, S = fun k => w4.heap.size ≤ k ∧ k < w5.heap.size := ⟨_, rfl⟩
  obtain ⟨S', hS'⟩ : ∃ S' : Nat → Prop, S' = fun k => (w4.heap.size ≤ k ∧ k < w5.heap.size) ∨ (w6.heap.size ≤ k ∧ k < w7.heap.size) := ⟨_, rfl⟩
  have OA : Hid (w8.ownsRow w4.heap.size 62 2 (.slice A5 N c5) N (flat2 (covs ls ls ls.length))) := own_chg (C6.out.trans (C7.out.trans C8.out (fun _ _ h => h)) (fun _ _ h => h)) O5.out (fun _ _ h => h)
  have OX : Hid (w8.ownsRow w6.heap.size 23 1 (.slice A7 cs.length c7) cs.length (us cs)) := own_chg C8.out O7.out (fun _ _ h => h)
  have BA : Hid (∀ k, Value.ownBlock (.slice A5 N c5) = some k → S k) := fun k hk => by rw [hS]; exact O5.out.lt k hk
  have BX : Hid (∀ k, Value.ownBlock (.slice A7 cs.length c7) = some k → S' k) := fun k hk => by rw [hS']; exact .inr (O7.out.lt k hk)
  have z2 := C2.out.size
  have z3 := C3.out.size
  have z4 := C4.out.size
  have z5 := C5.out.size
  have z6 := C6.out.size
  have z7' := C7.out.size
  have z8' := C8.out.size
  have S1 : Hid (∀ k, k < w4.heap.size → ¬ S' k) := fun k hk h => by rw [hS'] at h; omega
  have S2 : Hid (∀ k, w5.heap.size ≤ k → k < w6.heap.size → ¬ S' k) := fun k h1 h2 h => by rw [hS'] at h; omega
  have S3 : Hid (∀ k, w7.heap.size ≤ k → ¬ S' k) := fun k h1 h => by rw [hS'] at h; omega
  have HSS : Hid (∀ k, S k → S' k) := fun k h => by rw [hS'] ; rw [hS] at h; exact .inl h
  have HXS : Hid (∀ k, Value.ownBlock (.slice A7 cs.length c7) = some k → ¬ S k) := fun k hk h => by have := (O7.out.lt k hk).1; rw [hS] at h; omega
  have hfew := HFEW.out
  clear hS hS' O5 O7
  go_wp2
  go_loopw [16] (fun i wr => ∃ (k : Nat) (xs : List Value), k ≤ N ∧ i = .int .i64 k ∧ wr.ownsRow w4.heap.size 62 2 (.slice A5 N c5) N xs ∧ Chg S w8 wr) (fun i _ => N - (intOf i).toNat)
  case atStart => exact ⟨0, _, by omega, rfl, OA.out, Chg.refl _ _⟩
  case round =>
    clear OA
    obtain ⟨k, xs, hk, rfl, ho, hch⟩ := hrel
    obtain ⟨wa, rfl⟩ : ∃ wa : World, wa = wr := ⟨_, rfl⟩
    by_cases hlt : k < N
    · obtain ⟨g, rfl⟩ := own_some ho (by omega)
      obtain ⟨⟨u0, f1⟩, f2, hbg, hnc2, -⟩ := own_cell ho (i := k * 2) (by omega)
      obtain ⟨⟨u1, f3⟩, f4, -, -, -⟩ := own_cell ho (i := k * 2 + 1) (by omega)
      have HO := Lib.hid ho
      have HC := Lib.hid hch
      have HSg : Hid (S g) := BA.out g rfl
      have e1 : IntKind.i64.wrap (-(k : Int)) = -(k : Int) := by rw [IntKind.wrap_i64]; omega
      have i5 : (k : Int) < (N : Int) := by omega
      clear ho hch
      go_wp2
      go_roundw
      case rel => exact ⟨k + 1, _, by omega, by go_num, own_set (own_set HO.out (k * 2) _) (k * 2 + 1) _, (HC.out.set (.inr HSg.out)).set (.inr HSg.out)⟩
      case measure => simp [intOf]; omega
    · have HO := Lib.hid ho
      have HC := Lib.hid hch
      clear ho hch
      go_wp2
      go_loopw [10, 17] (fun v i wr => ∃ (k : Nat) (xs : List Value), k ≤ 70 ∧ i = .int .i64 k ∧ wr.ownsRow w4.heap.size 62 2 v (N + k) xs ∧ (∀ j, v.ownBlock = some j → S j ∨ w8.heap.size ≤ j) ∧ Chg S w8 wr) (fun _ i _ => 70 - (intOf i).toNat)
      case atStart => exact ⟨0, _, by omega, rfl, HO.out, fun j hj => .inl (BA.out j hj), HC.out⟩
      case round =>
        clear HO HC
        obtain ⟨k2, xs2, hk2, rfl, ho, hbl, hch⟩ := hrel
        obtain ⟨wb, rfl⟩ : ∃ wb : World, wb = wr := ⟨_, rfl⟩
        obtain ⟨A9, c9, rfl, -⟩ := Rd.of_own ho
        have HO := Lib.hid ho
        have HC := Lib.hid hch
        have HBL := Lib.hid hbl
        have hsb : w4.heap.size ≤ wb.heap.size := by have := hch.size; omega
        clear ho hch hbl
        by_cases hlt2 : k2 < 70
        · have e1 : IntKind.i64.wrap (-(k2 : Int)) = -(k2 : Int) := by rw [IntKind.wrap_i64]; omega
          go_wp2_with (at_builtin; refine ap_one rfl (.tmp 75) (.tmp 79) 53 rfl w4.heap.size 62 2 16 (.agg #[.int .i64 0, .int .i64 0]) Try.underlying53 infoP rfl (by decide) (by decide) (.slice A9 (N + k2) c9) (N + k2) _ rfl HO.out #[.int .i64 (-8), .int .i64 (-(k2 : Int))] rfl rfl (by simp [Value.oneCell']) (by omega) hsb ?_; intro v1 w1' o1' g1 r1)
          go_roundw
          case rel => exact ⟨k2 + 1, _, by omega, by go_num, o1', (fun j hj => by
            rcases r1 with r1 | ⟨b, r1, hb⟩
            · rw [r1] at hj; exact HBL.out j hj
            · rw [r1] at hj; have := Option.some.inj hj; have := HC.out.size; exact .inr (by omega)), HC.out.of_grown g1 (fun j hj => (HBL.out j hj).elim .inr .inl)⟩
          case measure => simp [intOf]; omega
        · have OX2 : Hid (wb.ownsRow w6.heap.size 23 1 (.slice A7 cs.length c7) cs.length (us cs)) := own_chg HC.out OX.out HXS.out
          have HC2 : Hid (Chg S' w8 wb) := HC.out.mono (fun k _ h => HSS.out k h)
          clear HO HC HBL OX
          go_wp2
          go_loopw [18] (fun i wr => ∃ (k : Nat) (xs : List Value), k ≤ cs.length ∧ i = .int .i64 k ∧ wr.ownsRow w6.heap.size 23 1 (.slice A7 cs.length c7) cs.length xs ∧ Chg S' w8 wr) (fun i _ => cs.length - (intOf i).toNat)
          case atStart => exact ⟨0, us cs, by omega, rfl, OX2.out, HC2.out⟩
          case round =>
            clear OX2 HC2
            obtain ⟨k3, xs3, hk3, rfl, ho, hch⟩ := hrel
            obtain ⟨wc, rfl⟩ : ∃ wc : World, wc = wr := ⟨_, rfl⟩
            by_cases hlt3 : k3 < cs.length
            · obtain ⟨g, rfl⟩ := own_some ho (by omega)
              obtain ⟨⟨u0, f1⟩, f2, hbg, hnc2, -⟩ := own_cell ho (i := k3) (by omega)
              have HO := Lib.hid ho
              have HC := Lib.hid hch
              have HSg : Hid (S' g) := BX.out g rfl
              have e1 : IntKind.i64.wrap (7000 + (k3 : Int)) = 7000 + (k3 : Int) := by rw [IntKind.wrap_i64]; omega
              have e2 : IntKind.u64.wrap (7000 + (k3 : Int)) = 7000 + (k3 : Int) := by rw [IntKind.wrap_u64]; omega
              have i5 : (k3 : Int) < (cs.length : Int) := by omega
              clear ho hch
              go_wp2
              go_roundw
              case rel => exact ⟨k3 + 1, _, by omega, by go_num, own_set HO.out k3 _, HC.out.set (.inr HSg.out)⟩
              case measure => simp [intOf]; omega
            · have HO := Lib.hid ho
              have HC := Lib.hid hch
              clear ho hch
              go_wp2
              go_loopw [12, 19] (fun v i wr => ∃ (k : Nat) (xs : List Value), k ≤ 70 ∧ i = .int .i64 k ∧ wr.ownsRow w6.heap.size 23 1 v (cs.length + k) xs ∧ (∀ j, v.ownBlock = some j → S' j ∨ w8.heap.size ≤ j) ∧ Chg S' w8 wr) (fun _ i _ => 70 - (intOf i).toNat)
              case atStart => exact ⟨0, _, by omega, rfl, HO.out, fun j hj => .inl (BX.out j hj), HC.out⟩
              case round =>
                clear HO HC
                obtain ⟨k4, xs4, hk4, rfl, ho, hbl, hch⟩ := hrel
                obtain ⟨wd, rfl⟩ : ∃ wd : World, wd = wr := ⟨_, rfl⟩
                obtain ⟨A9, c9, rfl, -⟩ := Rd.of_own ho
                have HO := Lib.hid ho
                have HC := Lib.hid hch
                have HBL := Lib.hid hbl
                have hsb : w6.heap.size ≤ wd.heap.size := by have := hch.size; omega
                clear ho hch hbl
                by_cases hlt4 : k4 < 70
                · have e1 : IntKind.i64.wrap (8000 + (k4 : Int)) = 8000 + (k4 : Int) := by rw [IntKind.wrap_i64]; omega
                  have e2 : IntKind.u64.wrap (8000 + (k4 : Int)) = 8000 + (k4 : Int) := by rw [IntKind.wrap_u64]; omega
                  go_wp2_with (at_builtin; refine ap_one rfl (.tmp 97) (.tmp 101) 28 rfl w6.heap.size 23 1 8 (.int .u64 0) Try.underlying28 infoL rfl (by decide) (by decide) (.slice A9 (cs.length + k4) c9) (cs.length + k4) _ rfl HO.out #[.int .u64 (8000 + (k4 : Int))] rfl rfl (by simp [Value.oneCell']) (by omega) hsb ?_; intro v1 w1' o1' g1 r1)
                  go_roundw
                  case rel => exact ⟨k4 + 1, _, by omega, by go_num, o1', (fun j hj => by
                    rcases r1 with r1 | ⟨b, r1, hb⟩
                    · rw [r1] at hj; exact HBL.out j hj
                    · rw [r1] at hj; have := Option.some.inj hj; have := HC.out.size; exact .inr (by omega)), HC.out.of_grown g1 (fun j hj => (HBL.out j hj).elim .inr .inl)⟩
                  case measure => simp [intOf]; omega
                · have hFS : wd.heap[F]? = w2.heap[F]? := (HC.out.block F (by omega) (S1.out F (by omega))).trans (C28.out.block F hF2 (fun h => h))
                  have K1 : Hid (Rd (fun _ => True) wd (some ⟨F, 0, none⟩) N2 c2 1 (us (room ls 70))) := (rd_own (own_move O2.out (fun k hk => by
                    have : F = k := by simpa [Value.ownBlock] using hk
                    subst this; exact hFS))).any
                  have K2 : Hid (∀ W, (∀ k, k < w1.heap.size → W.heap[k]? = wd.heap[k]?) → Rd (fun _ => True) W A1 n c1 1 (us ls)) := fun W hW => (HP.out W (fun k hk => (hW k hk).trans ((HC.out.block k (by omega) (S1.out k (by omega))).trans ((C28.out.block k (by omega) (fun h => h)).trans (C2.out.block k hk (fun h => h)))))).any
                  have hagree : Hid (∀ k, k < w8.heap.size → ¬ S' k → wd.heap[k]? = w8.heap[k]?) := fun k hk hs => HC.out.block k hk hs
                  have M3 : Hid (∀ W, Chg (fun k => k = F) wd W → Rd (fun _ => True) W A3 N c3 2 (flat2 (covs ls ls ls.length))) := fun W hW => HR3.out W (fun k h1 h2 => (hW.block k (by have := HC.out.size; omega) (by omega)).trans ((hagree.out k (by omega) (S1.out k (by omega))).trans ((C4.out.trans (C5.out.trans (C6.out.trans (C7.out.trans C8.out (fun _ _ h => h)) (fun _ _ h => h)) (fun _ _ h => h)) (fun _ _ h => h)).block k h2 (fun h => h))))
                  have M4 : Hid (∀ W, Chg (fun k => k = F) wd W → Rd (fun _ => True) W A4 cs.length c4 1 (us cs)) := fun W hW => HR4.out W (fun k h1 h2 => (hW.block k (by have := HC.out.size; omega) (by omega)).trans ((hagree.out k (by omega) (S1.out k (by omega))).trans ((C5.out.trans (C6.out.trans (C7.out.trans C8.out (fun _ _ h => h)) (fun _ _ h => h)) (fun _ _ h => h)).block k h2 (fun h => h))))
                  have M6 : Hid (∀ W, Chg (fun k => k = F) wd W → Rd (fun _ => True) W A6 N c6 2 (flat2 (covs ls ls ls.length))) := fun W hW => HR6.out W (fun k h1 h2 => (hW.block k (by have := HC.out.size; omega) (by omega)).trans ((hagree.out k (by omega) (S2.out k h1 h2)).trans ((C7.out.trans C8.out (fun _ _ h => h)).block k h2 (fun h => h))))
                  have M8 : Hid (∀ W, Chg (fun k => k = F) wd W → Rd (fun _ => True) W A8 cs.length c8 1 (us cs)) := fun W hW => HR8.out W (fun k h1 h2 => (hW.block k (by have := HC.out.size; omega) (by omega)).trans (hagree.out k (by omega) (S3.out k h1)))
                  have HI2 : Hid (∀ W, W.heap[F]? = wd.heap[F]? → Rd (fun k => k = F) W (some ⟨F, 0, none⟩) n c2 1 (us ls)) := fun W hW => HI.out W (hW.trans hFS)
                  have OF : Hid (wd.ownsRow w1.heap.size 23 1 (.slice (some ⟨F, 0, none⟩) N2 c2) N2 (us (room ls 70))) := own_move O2.out (fun k hk => by
                    have : F = k := by simpa [Value.ownBlock] using hk
                    subst this; exact hFS)
                  have hFd : F < wd.heap.size := by have := HC.out.size; omega
                  have HW : Hid (Chg (fun _ => False) w wd) := ((C1.out.trans C2.out (fun _ _ h => h)).trans (C28.out.trans HC.out (fun k hk hs => by exact absurd hs (S1.out k (by omega)))) (fun _ _ h => h))
                  have hsm : Hid (∀ k, k < w.heap.size → k ≠ F) := fun k hk e => by have := C1.out.size; omega
                  have H9 := Lib.hid (kept_any ls (some ⟨F, 0, none⟩) A1 N2 n c2 c1 HN2.out wd _ _ K1.out (K2.out wd (fun k _ => rfl)) (by omega))
                  clear HO HC HBL hagree K1 K2 HP HR3 HR4 HR6 HR8 HI BA BX S1 S2 S3 HSS HXS O2 C2 C3 C4 C5 C6 C7 C8 C28 C1 C23 C24 C25 C26 C27 hFS hsb
                  go_wp2_with fail
                  refine H9.out.mono ?_
                  clear H9
                  rintro e w9 ⟨rfl, q9, hq9⟩
                  have D9 : Hid (Chg (fun k => k = F) wd w9) := by rw [hq9]; exact (Chg.refl _ wd).drewN _
                  have E9 : Hid (Chg (fun _ => False) wd w9) := by rw [hq9]; exact (Chg.refl _ wd).drewN _
                  clear hq9
                  have H10 := Lib.hid (same_pairs (covs ls ls ls.length) A6 A3 N c6 c3 w9 _ _ (M6.out w9 D9.out) (M3.out w9 D9.out) (by omega))
                  go_wp2_with fail
                  refine H10.out.mono ?_
                  clear H10
                  rintro e w10 ⟨rfl, q10, hq10⟩
                  have D10 : Hid (Chg (fun k => k = F) wd w10) := by rw [hq10]; exact D9.out.drewN _
                  have E10 : Hid (Chg (fun _ => False) wd w10) := by rw [hq10]; exact E9.out.drewN _
                  clear hq10 D9 E9
                  have H11 := Lib.hid (same_eq cs A8 A4 cs.length cs.length c8 c4 w10 _ _ (M8.out w10 D10.out) (M4.out w10 D10.out) (by omega) (by omega))
                  go_wp2_with fail
                  refine H11.out.mono ?_
                  clear H11
                  rintro e w11 ⟨rfl, q11, hq11⟩
                  have E11 : Hid (Chg (fun _ => False) wd w11) := by rw [hq11]; exact E10.out.drewN _
                  clear hq11 D10 E10 M6 M8
                  have H12 := Lib.hid (close_cd ls (some ⟨F, 0, none⟩) n c2 w11 ((HI2.out w11 (E11.out.block F hFd (fun h => h))).mono (fun k hk => by subst hk; exact Nat.lt_of_lt_of_le hFd E11.out.size)) hn HB.out)
                  go_wp2_with fail
                  refine H12.out.mono ?_
                  clear H12
                  rintro e w12 ⟨A12, c12, cs12, z12, rfl, d12, r12, hc⟩
                  obtain ⟨rfl, rfl⟩ := D4.out.unique d12
                  have E12 : Hid (Chg (fun _ => False) wd w12) := E11.out.trans hc (fun _ _ h => h)
                  have z11 := E11.out.size
                  have M12 : Hid (∀ W, Chg (fun k => k = F) w12 W → Rd (fun _ => True) W A12 cs.length c12 1 (us cs)) := fun W hW => (r12.move (fun k hk => hW.block k hk.2 (by omega))).any
                  clear hc d12 r12 E11
                  have H13 := Lib.hid (covers_all ls (some ⟨F, 0, none⟩) n c2 w12 ((HI2.out w12 (E12.out.block F hFd (fun h => h))).mono (fun k hk => by subst hk; exact Nat.lt_of_lt_of_le hFd E12.out.size)) hN HB.out)
                  go_wp2_with fail
                  refine H13.out.mono ?_
                  clear H13
                  rintro e w13 ⟨v13, rfl, o13, hc⟩
                  obtain ⟨A13, c13, rfl, R13⟩ := Rd.of_own o13
                  rw [← HNN.out] at o13 R13 ⊢
                  have z12 := E12.out.size
                  have M13 : Hid (∀ W, Chg (fun k => k = F) w13 W → Rd (fun _ => True) W A13 N c13 2 (flat2 (covs ls ls ls.length))) := fun W hW => (R13.move (fun k hk => hW.block k (o13.lt k hk).2 (by have := (o13.lt k hk).1; omega))).any
                  have N12 : Hid (∀ W, Chg (fun k => k = F) w13 W → Rd (fun _ => True) W A12 cs.length c12 1 (us cs)) := fun W hW => M12.out W ((hc.mono (fun _ _ h => h.elim)).trans hW (fun _ _ h => h))
                  have E13 : Hid (Chg (fun _ => False) wd w13) := E12.out.trans hc (fun _ _ h => h)
                  have N3 : Hid (∀ W, Chg (fun k => k = F) w13 W → Rd (fun _ => True) W A3 N c3 2 (flat2 (covs ls ls ls.length))) := fun W hW => M3.out W ((E13.out.mono (fun _ _ h => h.elim)).trans hW (fun _ _ h => h))
                  have N4 : Hid (∀ W, Chg (fun k => k = F) w13 W → Rd (fun _ => True) W A4 cs.length c4 1 (us cs)) := fun W hW => M4.out W ((E13.out.mono (fun _ _ h => h.elim)).trans hW (fun _ _ h => h))
                  have OF13 : Hid (w13.ownsRow w1.heap.size 23 1 (.slice (some ⟨F, 0, none⟩) N2 c2) N2 (us (room ls 70))) := own_chg E13.out OF.out (fun _ _ h => h)
                  have HW13 : Hid (Chg (fun _ => False) w w13) := HW.out.trans E13.out (fun _ _ h => h)
                  clear hc o13 R13 E12 E13 M12 M3 M4 OF HI2 HW
                  go_wp2
                  go_loopw [23] (fun i wr => ∃ (k : Nat) (qs : List Nat) (xs : List Value), k ≤ n ∧ i = .int .i64 k ∧ qs.length = n ∧ (∀ x ∈ qs, x < B64) ∧ (∀ j, j < n → xs[j]? = some (.int .u64 ((qs.getD j 0 : Nat) : Int))) ∧ wr.ownsRow w1.heap.size 23 1 (.slice (some ⟨F, 0, none⟩) N2 c2) N2 xs ∧ Chg (fun k => k = F) w13 wr) (fun i _ => n - (intOf i).toNat)
                  case atStart => exact ⟨0, ls, _, by omega, rfl, HL.out, HB.out, fun j hj => by rw [us_get (by rw [room_len]; have := HL.out; omega), room_get1 ls 70 j (by rw [HL.out]; exact hj)], OF13.out, Chg.refl _ _⟩
                  case round =>
                    clear OF13
                    obtain ⟨k5, qs, xs5, hk5, rfl, hql, hqb, hqx, ho, hch⟩ := hrel
                    obtain ⟨we, rfl⟩ : ∃ we : World, we = wr := ⟨_, rfl⟩
                    have HO := Lib.hid ho
                    have HC := Lib.hid hch
                    have HQL := Lib.hid hql
                    have HQB := Lib.hid hqb
                    have HQX := Lib.hid hqx
                    by_cases hgo : k5 < n ∧ k5 < m
                    · obtain ⟨hlt5, hltm⟩ := hgo
                      obtain ⟨⟨u0, f1⟩, f2, hbg, hnc2, -⟩ := own_cell ho (i := k5) (by omega)
                      have hWe : Chg (fun k => k = F) w we := (HW13.out.mono (fun _ _ h => h.elim)).trans hch (fun _ _ h => h)
                      obtain ⟨b, off, rfl, hbk, hcell⟩ := rd_us ((HS.out w (Chg.refl _ _)).move (w1 := we) (fun k hk => hWe.block k hk (hsm.out k hk))) (by omega)
                      have f3 := hcell k5 hltm
                      obtain ⟨x, hx⟩ : ∃ x, x = ms.getD k5 0 := ⟨_, rfl⟩
                      rw [← hx] at f3
                      have hx64 : Hid (x < B64) := by rw [hx]; exact HB'.out _ (mem_getD (by rw [HM.out]; exact hltm))
                      have i5 : (k5 : Int) < (n : Int) := by omega
                      have i6 : (k5 : Int) < (m : Int) := by omega
                      clear ho hch hql hqb hqx hcell hbk hx hWe
                      go_wp2
                      go_roundw
                      case rel => exact ⟨k5 + 1, qs.set k5 x, _, by omega, by go_num, by rw [List.length_set]; exact HQL.out, (fun y hy => (List.mem_or_eq_of_mem_set hy).elim (HQB.out y) (fun e => e ▸ hx64.out)), (fun j hj => by
                        by_cases e : j = k5
                        · subst e
                          have h1 := (List.getElem?_eq_some_iff.1 (HQX.out j hj)).1
                          rw [List.getElem?_set_self h1, List.getD_eq_getElem?_getD, List.getElem?_set_self (by rw [HQL.out]; exact hj)]; rfl
                        · rw [List.getElem?_set_ne (Ne.symm e), List.getD_eq_getElem?_getD, List.getElem?_set_ne (Ne.symm e), ← List.getD_eq_getElem?_getD]; exact HQX.out j hj), own_set HO.out k5 _, HC.out.set (.inr rfl)⟩
                      case measure => simp [intOf]; omega
                    · have KQ : Hid (∀ W, Chg (fun _ => False) we W → Rd (fun k => k = F) W (some ⟨F, 0, none⟩) n c2 1 (us qs)) := fun W hW => by
                        have hFl : 0 < n → F < we.heap.size := fun hp => (own_cell ho (i := 0) (by omega)).2.2.2.2
                        obtain ⟨A', c', e', hr'⟩ := Rd.of_own ho
                        simp only [Value.slice.injEq, true_and] at e'
                        obtain ⟨rfl, rfl⟩ := e'
                        refine ⟨by rw [us_len]; omega, hnc, fun h => (by cases h), fun hp => ⟨F, 0, rfl, rfl, fun j u hu => ?_⟩⟩
                        have hj : j < qs.length := by have := (List.getElem?_eq_some_iff.1 hu).1; simpa [us] using this
                        obtain ⟨b, off, e1, hb, hcc⟩ := hr'.at_ (by omega)
                        cases e1
                        have e2 : xs5[j]? = some u := by rw [hqx j (by omega), ← us_get hj]; exact hu
                        exact (World.cell?_of_block (a := ⟨F, 0 + j, none⟩) (hW.block F (hFl hp) (fun h => h))).trans (hcc j u e2)
                      have hFw : F < we.heap.size := by have := HC.out.size; have := hch.size; have := HW13.out.size; exact (World.block_lt_of_cell? _ _ (own_cell ho (i := n) (by rw [Nat.mul_one]; have := HN2.out; omega)).1.choose_spec)
                      have G3 : Hid (∀ W, Chg (fun _ => False) we W → Rd (fun _ => True) W A3 N c3 2 (flat2 (covs ls ls ls.length))) := fun W hW => N3.out W (hch.trans hW (fun _ _ h => h.elim))
                      have G4 : Hid (∀ W, Chg (fun _ => False) we W → Rd (fun _ => True) W A4 cs.length c4 1 (us cs)) := fun W hW => N4.out W (hch.trans hW (fun _ _ h => h.elim))
                      have G12 : Hid (∀ W, Chg (fun _ => False) we W → Rd (fun _ => True) W A12 cs.length c12 1 (us cs)) := fun W hW => N12.out W (hch.trans hW (fun _ _ h => h.elim))
                      have G13 : Hid (∀ W, Chg (fun _ => False) we W → Rd (fun _ => True) W A13 N c13 2 (flat2 (covs ls ls ls.length))) := fun W hW => M13.out W (hch.trans hW (fun _ _ h => h.elim))
                      have hsz13 := HW13.out.size
                      have HWE : Hid (Chg (fun _ => False) w we) := HW13.out.trans hch (fun k hk e => absurd e (hsm.out k hk))
                      have H20 := Lib.hid (plain_any qs (some ⟨F, 0, none⟩) n c2 (KQ.out we (Chg.refl _ _)) (fun k hk => by subst hk; exact hFw) hn)
                      clear ho hch hql hqb hqx N3 N4 N12 M13 HO HC HQX
                      have hstop : (decide ((k5 : Int) < (n : Int)) = false ∧ decide (k5 < n) = false) ∨ ((k5 : Int) < (n : Int) ∧ k5 < n ∧ decide ((k5 : Int) < (m : Int)) = false ∧ decide (k5 < m) = false) := by
                        by_cases h : k5 < n
                        · exact .inr ⟨by omega, h, decide_eq_false (by omega), decide_eq_false (by omega)⟩
                        · exact .inl ⟨decide_eq_false (by omega), decide_eq_false (by omega)⟩
                      clear hgo
                      rcases hstop with ⟨i5, i6⟩ | ⟨i5, i6, i7, i8⟩
                      all_goals
                        go_wp2_with fail
                        refine H20.out.mono ?_
                        clear H20
                        rintro e x1 ⟨v21, rfl, o21, hc⟩
                        obtain ⟨A21, c21, rfl, R21⟩ := Rd.of_own o21
                        have X1 := Lib.hid hc
                        have HQ21 : Hid (∀ W, Chg (fun _ => False) x1 W → Rd (fun k => k < x1.heap.size) W A21 n c21 1 (us qs)) := fun W hW => (R21.mono (fun k hk => (o21.lt k hk).2)).move (fun k hk => hW.block k hk (fun h => h))
                        clear hc o21 R21
                        have H21 := Lib.hid (rclose_cd qs A21 n c21 x1 _ (HQ21.out _ (Chg.refl _ _)) (fun k hk => hk) hn HQB.out)
                        go_wp2_with fail
                        refine H21.out.mono ?_
                        clear H21
                        rintro e x2 ⟨A22, c22, cq, zq, rfl, d22, r22, hc⟩
                        have DQ := Lib.hid d22
                        have X12 := Lib.hid hc
                        have X2 : Hid (Chg (fun _ => False) we x2) := X1.out.trans hc (fun _ _ h => h)
                        have HQ22 : Hid (∀ W, Chg (fun _ => False) x2 W → Rd (fun k => k < x2.heap.size) W A22 cq.length c22 1 (us cq)) := fun W hW => (r22.mono (fun k hk => hk.2)).move (fun k hk => hW.block k hk (fun h => h))
                        have hfq : cq.length ≤ 16 := by
                          rcases d22 with ⟨_, h2, _⟩ | ⟨_, _, h2⟩
                          · rw [h2]; exact Nat.zero_le _
                          · exact h2.few
                        clear hc d22 r22
                        have H22 := Lib.hid (close_cd qs (some ⟨F, 0, none⟩) n c2 x2 ((KQ.out x2 X2.out).mono (fun k hk => by subst hk; exact Nat.lt_of_lt_of_le hFw X2.out.size)) hn HQB.out)
                        go_wp2_with fail
                        refine H22.out.mono ?_
                        clear H22
                        rintro e x3 ⟨A23, c23, cq3, zq3, rfl, d23, r23, hc⟩
                        obtain ⟨rfl, rfl⟩ := DQ.out.unique d23
                        have X3 : Hid (Chg (fun _ => False) we x3) := X2.out.trans hc (fun _ _ h => h)
                        have X13 : Hid (Chg (fun _ => False) x1 x3) := X12.out.trans hc (fun _ _ h => h)
                        have H23 := Lib.hid (same_eq cq A23 A22 cq.length cq.length c23 c22 x3 _ _ r23 (HQ22.out x3 hc) (by omega) (by omega))
                        clear hc d23 r23 HQ22 X12 X2
                        go_wp2_with fail
                        refine H23.out.mono ?_
                        clear H23
                        rintro e x4 ⟨rfl, p4, hp4⟩
                        have X4 : Hid (Chg (fun _ => False) we x4) := by rw [hp4]; exact X3.out.drewN _
                        have X14 : Hid (Chg (fun _ => False) x1 x4) := by rw [hp4]; exact X13.out.drewN _
                        clear hp4 X3 X13
                        have H24 := Lib.hid (covers_all qs (some ⟨F, 0, none⟩) n c2 x4 ((KQ.out x4 X4.out).mono (fun k hk => by subst hk; exact Nat.lt_of_lt_of_le hFw X4.out.size)) hN HQB.out)
                        go_wp2_with fail
                        refine H24.out.mono ?_
                        clear H24
                        rintro e x5 ⟨v25, rfl, o25, hc⟩
                        obtain ⟨A25, c25, rfl, R25⟩ := Rd.of_own o25
                        obtain ⟨Nq, hNq⟩ : ∃ Nq, Nq = (covs qs qs qs.length).length := ⟨_, rfl⟩
                        rw [← hNq] at o25 R25 ⊢
                        have HNQ := Lib.hid hNq
                        have hNqb : Nq ≤ 1099511627776 := by
                          have h1 := covs_len qs qs qs.length
                          have h2 : qs.length ≤ 1048576 := by rw [HQL.out]; exact hN
                          have h3 : qs.length * qs.length ≤ 1048576 * 1048576 := Nat.mul_le_mul h2 h2
                          omega
                        have HQ25 : Hid (∀ W, Chg (fun _ => False) x5 W → Rd (fun _ => True) W A25 Nq c25 2 (flat2 (covs qs qs qs.length))) := fun W hW => (R25.move (fun k hk => hW.block k (o25.lt k hk).2 (fun h => h))).any
                        have X5 : Hid (Chg (fun _ => False) we x5) := X4.out.trans hc (fun _ _ h => h)
                        have X15 : Hid (Chg (fun _ => False) x1 x5) := X14.out.trans hc (fun _ _ h => h)
                        clear hc o25 R25 X4 X14 hNq
                        have H25 := Lib.hid (rcovers_any qs A21 n c21 x5 _ (HQ21.out x5 X15.out) (fun k hk => Nat.lt_of_lt_of_le hk X15.out.size) hN HQB.out)
                        go_wp2_with fail
                        refine H25.out.mono ?_
                        clear H25
                        rintro e x6 ⟨v26, rfl, o26, hc⟩
                        obtain ⟨A26, c26, rfl, R26⟩ := Rd.of_own o26
                        rw [← HNQ.out] at o26 R26 ⊢
                        have H26 := Lib.hid (same_pairs (covs qs qs qs.length) A25 A26 Nq c25 c26 x6 _ _ (HQ25.out x6 hc) R26 (by omega))
                        have X6 : Hid (Chg (fun _ => False) we x6) := X5.out.trans hc (fun _ _ h => h)
                        clear hc o26 R26 X5 X15 HQ25
                        go_wp2_with fail
                        refine H26.out.mono ?_
                        clear H26
                        rintro e x7 ⟨rfl, p7, hp7⟩
                        have X7 : Hid (Chg (fun _ => False) we x7) := by rw [hp7]; exact X6.out.drewN _
                        clear hp7 X6
                        have H27 := Lib.hid (same_eq cs A12 A4 cs.length cs.length c12 c4 x7 _ _ (G12.out x7 X7.out) (G4.out x7 X7.out) (by omega) (by omega))
                        go_wp2_with fail
                        refine H27.out.mono ?_
                        clear H27
                        rintro e x8 ⟨rfl, p8, hp8⟩
                        have X8 : Hid (Chg (fun _ => False) we x8) := by rw [hp8]; exact X7.out.drewN _
                        clear hp8 X7
                        have H28 := Lib.hid (same_pairs (covs ls ls ls.length) A13 A3 N c13 c3 x8 _ _ (G13.out x8 X8.out) (G3.out x8 X8.out) (by omega))
                        go_wp2_with fail
                        refine H28.out.mono ?_
                        clear H28
                        rintro e x9 ⟨rfl, p9, hp9⟩
                        have X9 : Hid (Chg (fun _ => False) w x9) := by rw [hp9]; exact (HWE.out.trans X8.out (fun _ _ h => h)).drewN _
                        clear hp9 X8
                        go_wp2_with fail
                        refine (awake_any _).mono ?_
                        rintro e x10 ⟨rfl, hc⟩
                        have X10 : Hid (Chg (fun _ => False) w x10) := X9.out.trans hc (fun _ _ h => h)
                        clear hc X9
                        go_wp2
                        go_ret
                        exact ⟨rfl, X10.out.below⟩
end Go.Proofs.Ytdfplhoijapoeaa.Lrz
