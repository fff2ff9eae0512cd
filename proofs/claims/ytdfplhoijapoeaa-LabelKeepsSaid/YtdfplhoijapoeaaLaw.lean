/- The law's awake, by contract: it says true. Conditions: none. -/
import Derived.Test.YtdfplhoijapoeaaLcl
import Derived.Test.YtdfplhoijapoeaaLsl
set_option linter.unusedVariables false
set_option linter.unusedSimpArgs false
namespace Go.Proofs.Ytdfplhoijapoeaa.Law
open Go.RowKit Go.Maps Go.Sort Go.Proofs.Ytdfplhoijapoeaa.Lib1 Go.Proofs.Ytdfplhoijapoeaa.Lat Go.Proofs.Ytdfplhoijapoeaa.Lbl Go.Proofs.Ytdfplhoijapoeaa.Lbw Go.Proofs.Ytdfplhoijapoeaa.Lck Go.Proofs.Ytdfplhoijapoeaa.Lis Go.Proofs.Ytdfplhoijapoeaa.Lcv Go.Proofs.Ytdfplhoijapoeaa.Lcl Go.Proofs.Ytdfplhoijapoeaa.Lsl

theorem rd_lit (W : World) (arr : Array Value) (T n : Nat) (xs : List Value) (h : arr.toList = xs) (hn : xs.length = n) : Rd (fun k => k < (W.alloc (.cells arr T)).heap.size) (W.alloc (.cells arr T)) (some ⟨W.heap.size, 0, none⟩) n n 1 xs :=
  ⟨by omega, Nat.le_refl _, fun h => (by cases h), fun _ => ⟨W.heap.size, 0, rfl, by simp, fun j u hu => by
    rw [Nat.zero_add]
    refine cell_at (heap_new W _) j ?_
    rw [← Array.getElem?_toList, h]; exact hu⟩⟩
theorem four (cs : List Nat) (hs : Srt cs cs.length) (hn : cs.Nodup) (h1 : ∀ x ∈ [1, 2], x ∈ cs) (h2 : ∀ x ∈ cs, x ∈ [0, 1, 2, 3]) (hc : Cl cs) : cs = [0, 1, 2, 3] := by
  have m1 := h1 1 (by simp)
  have m2 := h1 2 (by simp)
  have m3 : 3 ∈ cs := (hc 1 m1 2 m2).1
  have m0 : 0 ∈ cs := (hc 1 m1 2 m2).2
  have hp : cs.Perm [0, 1, 2, 3] := (List.perm_ext_iff_of_nodup hn (by decide)).2 (fun x => ⟨h2 x, fun hx => by
    simp only [List.mem_cons, List.not_mem_nil, or_false] at hx
    rcases hx with rfl | rfl | rfl | rfl <;> assumption⟩)
  refine List.Perm.eq_of_pairwise (le := fun a b => a ≤ b) (fun a b _ _ h h' => Nat.le_antisymm h h') ?_ (by decide) hp
  rw [List.pairwise_iff_getElem]
  intro i j hi hj hij
  have := hs i j hij hj
  rwa [List.getD_eq_getElem?_getD, List.getD_eq_getElem?_getD, List.getElem?_eq_getElem hi, List.getElem?_eq_getElem hj] at this
theorem cl4 : Cl [0, 1, 2, 3] := by unfold Cl; decide
theorem chk12 : chk [1, 2] = 12 := by
  refine chk_closed (by decide) (by decide) (fun i hi => ?_) (fun h => absurd (h 0 1 (by decide) (by decide)).1 (by decide))
  have : i = 0 := by simp at hi; omega
  subst this; decide
theorem chk0123 : chk [0, 1, 2, 3] = 0 := by
  refine chk_ok (by decide) (by decide) (fun i hi => ?_) (fun i j hi hj => ?_)
  · have : i = 0 ∨ i = 1 ∨ i = 2 := by simp at hi; omega
    rcases this with rfl | rfl | rfl <;> decide
  · refine cl4 _ ?_ _ ?_
    · rw [List.getD_eq_getElem?_getD, List.getElem?_eq_getElem hi]; exact List.getElem_mem hi
    · rw [List.getD_eq_getElem?_getD, List.getElem?_eq_getElem hj]; exact List.getElem_mem hj
theorem leq13 (W : World) : Calls Try.prog 17 #[.int .u64 1, .int .u64 3] W fun e w' => e = .returned (.bool true) ∧ W = w' := leq_any 1 3 W (by decide) (by decide)
theorem leq31 (W : World) : Calls Try.prog 17 #[.int .u64 3, .int .u64 1] W fun e w' => e = .returned (.bool false) ∧ W = w' := leq_any 3 1 W (by decide) (by decide)
theorem join16 (W : World) : Calls Try.prog 19 #[.int .u64 1, .int .u64 6] W fun e w' => e = .returned (.int .u64 7) ∧ W = w' := join_any 1 6 W (by decide) (by decide)
theorem meet36 (W : World) : Calls Try.prog 21 #[.int .u64 3, .int .u64 6] W fun e w' => e = .returned (.int .u64 2) ∧ W = w' := meet_any 3 6 W (by decide) (by decide)
abbrev L4 (W : World) : World := W.alloc (.cells #[.int .u64 0, .int .u64 1, .int .u64 2, .int .u64 3] 23)
abbrev L2 (W : World) : World := W.alloc (.cells #[.int .u64 1, .int .u64 2] 23)
theorem rd4 (W : World) : Rd (fun k => k < (L4 W).heap.size) (L4 W) (some ⟨W.heap.size, 0, none⟩) 4 4 1 (us [0, 1, 2, 3]) := rd_lit W _ _ 4 _ rfl rfl
theorem rd2 (W : World) : Rd (fun k => k < (L2 W).heap.size) (L2 W) (some ⟨W.heap.size, 0, none⟩) 2 2 1 (us [1, 2]) := rd_lit W _ _ 2 _ rfl rfl
theorem chk2 (W : World) : Calls Try.prog 31 #[.slice (some ⟨W.heap.size, 0, none⟩) 2 2] (L2 W) fun e w' => e = .returned (.int .i64 12) ∧ ∃ q, w' = (L2 W).drewN q :=
  (check_any _ _ _ _ _ _ (rd2 W) (by decide) (by decide)).mono (fun e w' h => ⟨h.1.trans (by rw [chk12]), h.2⟩)
theorem chk4 (W : World) : Calls Try.prog 31 #[.slice (some ⟨W.heap.size, 0, none⟩) 4 4] (L4 W) fun e w' => e = .returned (.int .i64 0) ∧ ∃ q, w' = (L4 W).drewN q :=
  (check_any _ _ _ _ _ _ (rd4 W) (by decide) (by decide)).mono (fun e w' h => ⟨h.1.trans (by rw [chk0123]), h.2⟩)
theorem cov4 (W : World) : Calls Try.prog 34 #[.slice (some ⟨W.heap.size, 0, none⟩) 4 4] (L4 W) fun e w' => (∃ A c, e = .returned (.slice A 4 c)) ∧ Chg (fun _ => False) (L4 W) w' :=
  (covers_small _ _ _ _ _ (rd4 W) (by decide) (by decide) (by decide)).mono (fun e w' h => by
    obtain ⟨v, rfl, ho, hc⟩ := h
    obtain ⟨A, c, rfl, -⟩ := Rd.of_own ho
    exact ⟨⟨A, c, by rw [show (covs [0, 1, 2, 3] [0, 1, 2, 3] [0, 1, 2, 3].length).length = 4 by decide]⟩, hc⟩)
theorem close2 (W : World) : Calls Try.prog 36 #[.slice (some ⟨W.heap.size, 0, none⟩) 2 2] (L2 W) fun e w' => ∃ g c, e = .returned (.tuple #[.slice (some ⟨g, 0, none⟩) 4 c, .int .i64 0]) ∧ Rd (fun k => k = g) w' (some ⟨g, 0, none⟩) 4 c 1 (us [0, 1, 2, 3]) ∧ Chg (fun _ => False) (L2 W) w' :=
  (close_in [0, 1, 2, 3] [1, 2] _ _ _ _ (rd2 W) (by decide) (by decide) cl4 (by decide) (by decide) (by decide)).mono (fun e w' h => by
    obtain ⟨g, c, cs, rfl, h1, h2, h3, h4, h5, h6, h7, h8⟩ := h
    obtain rfl := four cs h1 h2 h3 h4 h5
    exact ⟨g, c, rfl, h6, h8⟩)

set_option maxRecDepth 100000 in
set_option maxHeartbeats 4000000 in
theorem awake_any (w : World) : Calls Try.prog 30 #[] w fun e w' => e = .returned (.bool true) ∧ Chg (fun _ => False) w w' := by
  go_enter Try.func30, Try.ntmps30
  go_wp2_with fail
  refine (cov4 _).mono ?_
  rintro e w1 ⟨⟨A1, c1, rfl⟩, hc1⟩
  have H1 : Hid (Chg (fun _ => False) w w1) := ((Chg.refl _ w).alloc _).trans hc1 (fun _ _ h => h)
  clear hc1
  go_wp2_with fail
  refine (close2 _).mono ?_
  rintro e w2 ⟨g, c2, rfl, hr, hc2⟩
  have H2 : Hid (Chg (fun _ => False) w w2) := (H1.out.alloc _).trans hc2 (fun _ _ h => h)
  have HR := Lib.hid hr
  clear hr hc2 H1
  go_wp2_with fail
  refine (leq13 _).mono ?_
  rintro e w' ⟨rfl, rfl⟩
  go_wp2_with fail
  refine (leq31 _).mono ?_
  rintro e w' ⟨rfl, rfl⟩
  go_wp2_with fail
  refine (join16 _).mono ?_
  rintro e w' ⟨rfl, rfl⟩
  go_wp2_with fail
  refine (meet36 _).mono ?_
  rintro e w' ⟨rfl, rfl⟩
  go_wp2_with fail
  refine (chk2 _).mono ?_
  rintro e w3 ⟨rfl, q3, hq3⟩
  have H3 : Hid (Chg (fun _ => False) w2 w3) := by rw [hq3]; exact ((Chg.refl _ w2).alloc _).drewN _
  clear hq3
  go_wp2_with fail
  refine (chk4 _).mono ?_
  rintro e w4 ⟨rfl, q4, hq4⟩
  have H4 : Hid (Chg (fun _ => False) w2 w4) := by rw [hq4]; exact (H3.out.alloc _).drewN _
  clear hq4 H3
  have HRF := Lib.hid (HR.out.move (w1 := w4.alloc (.cells #[.int .u64 0, .int .u64 1, .int .u64 2, .int .u64 3] 22)) (fun k hk => by
    subst hk
    obtain ⟨g', o', e', hg', hcc⟩ := HR.out.at_ (by decide)
    cases e'
    exact (H4.out.alloc _).block k (World.block_lt_of_cell? _ _ (hcc 0 _ rfl)) (fun h => h)))
  have HS := Lib.hid (same_any [0, 1, 2, 3] [0, 1, 2, 3] _ _ _ _ _ _ (w4.alloc (.cells #[.int .u64 0, .int .u64 1, .int .u64 2, .int .u64 3] 22)) _ _ HRF.out (rd_lit w4 #[.int .u64 0, .int .u64 1, .int .u64 2, .int .u64 3] 22 4 _ rfl rfl) (by decide) (by decide))
  go_wp2_with fail
  refine HS.out.mono ?_
  rintro e w5 ⟨rfl, q5, hq5⟩
  have H5 : Hid (Chg (fun _ => False) w w5) := by rw [hq5]; exact (((H2.out.trans H4.out (fun _ _ h => h)).alloc _).drewN _)
  clear hq5
  go_wp2
  go_ret
  exact ⟨by simp, H5.out⟩
end Go.Proofs.Ytdfplhoijapoeaa.Law
