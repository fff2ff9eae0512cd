/- The law LabelHeights: its walk. Conditions: the row reads so, labels below 2^64. -/
import Derived.Test.YtdfplhoijapoeaaHk
import Derived.Test.YtdfplhoijapoeaaLsi
import Derived.Test.YtdfplhoijapoeaaLaw
import Derived.Test.YtdfplhoijapoeaaLwc
set_option linter.unusedVariables false
set_option linter.unusedSimpArgs false
namespace Go.Proofs.Ytdfplhoijapoeaa.Lhl
open Go.RowKit Go.Proofs.Ytdfplhoijapoeaa.Lib1 Go.Proofs.Ytdfplhoijapoeaa.Lat Go.Proofs.Ytdfplhoijapoeaa.Lbl Go.Proofs.Ytdfplhoijapoeaa.Lbw Go.Proofs.Ytdfplhoijapoeaa.Lck Go.Proofs.Ytdfplhoijapoeaa.Lmay Go.Proofs.Ytdfplhoijapoeaa.Lcb Go.Proofs.Ytdfplhoijapoeaa.Lpl Go.Proofs.Ytdfplhoijapoeaa.Lhg Go.Proofs.Ytdfplhoijapoeaa.Lhh Go.Proofs.Ytdfplhoijapoeaa.Lhi Go.Proofs.Ytdfplhoijapoeaa.Lhk Go.Proofs.Ytdfplhoijapoeaa.Law Go.Proofs.Ytdfplhoijapoeaa.Lwc

/-- The heights as numbers. -/
def hgs (ls : List Nat) : List Int := ls.map fun x => ((hg ls x : Nat) : Int)
theorem hgs_len (ls : List Nat) : (hgs ls).length = ls.length := by simp [hgs]
theorem ib_rd {w : World} {g n : Nat} {F : Nat → Nat} {ls : List Nat} (h : IB w g n F) (hF : ∀ t, t < n → F t = hg ls (ls.getD t 0)) (hl : ls.length = n) : Rd (fun k => k = g) w (some ⟨g, 0, none⟩) n n 1 (is (hgs ls)) :=
  ⟨by rw [is_len, hgs_len, hl, Nat.mul_one], Nat.le_refl _, fun h => (by cases h), fun _ => ⟨g, 0, rfl, rfl, fun j u hu => by
    have hj : j < n := by
      rcases Nat.lt_or_ge j n with c | c
      · exact c
      · rw [List.getElem?_eq_none (by rw [is_len, hgs_len]; omega)] at hu; cases hu
    rw [Nat.zero_add, h.cell hj, hF j hj]
    rw [is_get (by rw [hgs_len]; omega)] at hu
    rw [← hu]
    congr 2
    simp only [hgs, List.getD_eq_getElem?_getD, List.getElem?_map, List.getElem?_eq_getElem (show j < ls.length by omega), Option.map_some, Option.getD_some]⟩⟩
theorem hgs4 : hgs [7, 1, 1, 3] = [2, 0, 0, 1] := by decide
abbrev M4 (W : World) : World := W.alloc (.cells #[.int .u64 7, .int .u64 1, .int .u64 1, .int .u64 3] 23)
abbrev I4 (W : World) : World := W.alloc (.cells #[.int .i64 2, .int .i64 0, .int .i64 0, .int .i64 1] 3)
theorem rdM (W : World) : Rd (fun k => k < (M4 W).heap.size) (M4 W) (some ⟨W.heap.size, 0, none⟩) 4 4 1 (us [7, 1, 1, 3]) := rd_lit W _ _ 4 _ rfl rfl
theorem rdI (W : World) : Rd (fun k => k < (I4 W).heap.size) (I4 W) (some ⟨W.heap.size, 0, none⟩) 4 4 1 (is [2, 0, 0, 1]) := rd_lit W _ _ 4 _ rfl rfl
theorem hg4 (W : World) : Calls Try.prog 27 #[.slice (some ⟨W.heap.size, 0, none⟩) 4 4] (M4 W) fun e w' => ∃ g, e = .returned (.slice (some ⟨g, 0, none⟩) 4 4) ∧ Rd (fun k => k = g) w' (some ⟨g, 0, none⟩) 4 4 1 (is [2, 0, 0, 1]) ∧ g < w'.heap.size ∧ Chg (fun _ => False) (M4 W) w' :=
  (heights_any [7, 1, 1, 3] _ 4 4 _ _ (rdM W) (fun k hk => hk) (by decide) (by decide)).mono (fun e w' h => by
    obtain ⟨g, F, rfl, hg, hi, hF, hc⟩ := h
    have := ib_rd (ls := [7, 1, 1, 3]) hi hF rfl
    rw [hgs4] at this
    exact ⟨g, rfl, this, hi.lt, hc⟩)

set_option maxRecDepth 100000 in
set_option maxHeartbeats 1600000 in
theorem heights_walk {ok : Nat → Prop} {w : World} (ls : List Nat) (A : Option Addr) (n c : Nat) (h : labsK.rel ok w ls [.slice A n c]) (hok : ∀ k, ok k → k < w.heap.size) (hf : labsK.fits ls) :
    Calls Try.prog 5 #[.slice A n c] w fun e w' => e = .returned (.bool true) ∧ Below w.heap.size w w' := by
  obtain ⟨hr, hn, hl⟩ := labs_rd h hf
  have HL : Hid (ls.length = n) := by have := hr.len; rw [us_len] at this; show _ = _; omega
  have HR : Hid (∀ w', Chg (fun _ => False) w w' → Rd ok w' A n c 1 (us ls)) := fun w' hc => hr.move (fun k hk => hc.block k (hok k hk) (fun h => h))
  have HK : Hid (∀ w', Chg (fun _ => False) w w' → ∀ k, ok k → k < w'.heap.size) := fun w' hc k hk => Nat.lt_of_lt_of_le (hok k hk) hc.size
  have HB := Lib.hid hl
  have H1 := Lib.hid (heights_any ls A n c w ok hr hok hn hl)
  clear h hr hl hf hok
  go_enter Try.func5, Try.ntmps5
  go_wp2_with fail
  refine H1.out.mono ?_
  clear H1
  rintro e w1 ⟨g1, F1, rfl, hg1, hi1, hF1, hc⟩
  have C1 := Lib.hid hc
  have hr1 := ib_rd hi1 hF1 HL.out
  have hlt1 := hi1.lt
  have HP : Hid (∀ w', Chg (fun _ => False) w1 w' → Rd (fun k => k = g1) w' (some ⟨g1, 0, none⟩) n n 1 (is (hgs ls))) := fun w' hc' => hr1.move (fun k hk => hc'.block k (by omega) (fun h => h))
  clear hc hr1 hlt1 hi1 hF1 hg1
  have H2 := Lib.hid (plain_any ls A n c (HR.out _ C1.out) (HK.out _ C1.out) hn)
  go_wp2_with fail
  refine H2.out.mono ?_
  clear H2
  rintro e w2 ⟨v, rfl, ho, hc⟩
  obtain ⟨A2, c2, rfl, hr2⟩ := Rd.of_own ho
  have H3 := Lib.hid (rheights_any ls A2 n c2 w2 _ hr2 (fun k hk => (ho.lt k hk).2) hn HB.out)
  have C12 := Lib.hid hc
  have C2 : Hid (Chg (fun _ => False) w w2) := C1.out.trans hc (fun _ _ h => h)
  clear ho hc hr2
  go_wp2_with fail
  refine H3.out.mono ?_
  clear H3
  rintro e w3 ⟨g3, F3, rfl, hg3, hi3, hF3, hc⟩
  have C3 : Hid (Chg (fun _ => False) w w3) := C2.out.trans hc (fun _ _ h => h)
  have hr3 := ib_rd hi3 hF3 HL.out
  have H4 := Lib.hid (Lsi.same_any (hgs ls) (hgs ls) (some ⟨g1, 0, none⟩) (some ⟨g3, 0, none⟩) n n n n w3 _ _ (HP.out w3 (C12.out.trans hc (fun _ _ h => h))) hr3 (by omega) (by omega))
  clear hc hr3 hi3 hF3 hg3 HP C12 C2 C1
  rw [decide_eq_true rfl] at H4
  go_wp2_with fail
  refine H4.out.mono ?_
  clear H4
  rintro e w4 ⟨rfl, q, hq⟩
  have C4 : Hid (Chg (fun _ => False) w w4) := by rw [hq]; exact C3.out.drewN _
  clear hq C3
  go_wp2_with fail
  refine (hg4 _).mono ?_
  rintro e w5 ⟨g5, rfl, hr5, hlt5, hc⟩
  have C5 : Hid (Chg (fun _ => False) w w5) := (C4.out.alloc _).trans hc (fun _ _ h => h)
  have H6 := Lib.hid (Lsi.same_any [2, 0, 0, 1] [2, 0, 0, 1] (some ⟨g5, 0, none⟩) (some ⟨w5.heap.size, 0, none⟩) 4 4 4 4 (I4 w5) _ _ (hr5.move (fun k hk => Below.heap_alloc _ _ _ (by omega))) (rdI w5) (by omega) (by omega))
  rw [decide_eq_true rfl] at H6
  clear hc hr5 hlt5 C4
  go_wp2_with fail
  refine H6.out.mono ?_
  clear H6
  rintro e w6 ⟨rfl, q, hq⟩
  have C6 : Hid (Chg (fun _ => False) w w6) := by rw [hq]; exact (C5.out.alloc _).drewN _
  clear hq C5
  go_wp2
  go_ret
  exact ⟨rfl, C6.out.below⟩
end Go.Proofs.Ytdfplhoijapoeaa.Lhl
