/- The walk of LabelPlaces. Conditions: what comes in reads so. -/
import Derived.Test.YtdfplhoijapoeaaLwc
import Derived.Test.YtdfplhoijapoeaaLpp
import Derived.Test.YtdfplhoijapoeaaLrd
import Derived.Test.YtdfplhoijapoeaaLsi
set_option linter.unusedVariables false
set_option linter.unusedSimpArgs false
namespace Go.Proofs.Ytdfplhoijapoeaa.Lwp
open Go.RowKit Go.Proofs.Ytdfplhoijapoeaa.Lib1 Go.Proofs.Ytdfplhoijapoeaa.Rel Go.Proofs.Ytdfplhoijapoeaa.Own Go.Proofs.Ytdfplhoijapoeaa.Lat Go.Proofs.Ytdfplhoijapoeaa.Lbl Go.Proofs.Ytdfplhoijapoeaa.Lbw Go.Proofs.Ytdfplhoijapoeaa.Lck Go.Proofs.Ytdfplhoijapoeaa.Lmay Go.Proofs.Ytdfplhoijapoeaa.Lpl Go.Proofs.Ytdfplhoijapoeaa.Lkd Go.Proofs.Ytdfplhoijapoeaa.Law Go.Proofs.Ytdfplhoijapoeaa.Lwc Go.Proofs.Ytdfplhoijapoeaa.Lpp Go.Proofs.Ytdfplhoijapoeaa.Lrd

theorem own_is {base : Nat} {w : World} {v : Value} {l : List Int} {e : TypeId} (h : OwnL (Kd.int .i64) e base w v l) : ∃ A c, v = .slice A l.length c ∧ Rd (fun k => base ≤ k ∧ k < w.heap.size) w A l.length c 1 (is l) := by
  obtain ⟨A, c, cells, he, hrd, hel⟩ := h.reads (bytes := 8)
  simp only [List.cons.injEq, and_true] at he
  have e1 := flat_cells (d := Kd.int .i64) (fun x => [.int .i64 x]) (fun _ _ _ _ h => h) (by decide) l cells _ w hrd.len hel
  rw [flatMap_one] at e1
  rw [e1] at hrd
  exact ⟨A, c, he, hrd⟩

theorem same_eq (xs : List Int) (A B : Option Addr) (n m c d : Nat) (w : World) (ok ok' : Nat → Prop) (ha : Rd ok w A n c 1 (is xs)) (hb : Rd ok' w B m d 1 (is xs)) (hn : n ≤ 9223372036854775807) (hm : m ≤ 9223372036854775807) :
    Calls Try.prog 26 #[.slice A n c, .slice B m d] w fun e w' => e = .returned (.bool true) ∧ ∃ q, w' = w.drewN q :=
  (Lsi.same_any xs xs A B n m c d w ok ok' ha hb hn hm).mono (fun e w' h => ⟨h.1.trans (by simp), h.2⟩)
set_option maxRecDepth 100000 in
set_option maxHeartbeats 4000000 in
theorem places_walk {ok : Nat → Prop} {w : World} (ls : List Nat) (l : Nat) (A : Option Addr) (n c : Nat) (h : labsK.rel ok w ls [.slice A n c]) (hok : ∀ k, ok k → k < w.heap.size) (hf : labsK.fits ls) (hl : l < 18446744073709551616) :
    Calls Try.prog 13 #[.slice A n c, .int .u64 (l : Int)] w fun e w' => e = .returned (.bool true) ∧ Below w.heap.size w w' := by
  obtain ⟨hr, hn, hb⟩ := labs_rd h hf
  have HR : Hid (∀ w', Chg (fun _ => False) w w' → Rd ok w' A n c 1 (us ls)) := fun w' hc => hr.move (fun k hk => hc.block k (hok k hk) (fun h => h))
  have HK : Hid (∀ w', Chg (fun _ => False) w w' → ∀ k, ok k → k < w'.heap.size) := fun w' hc k hk => Nat.lt_of_lt_of_le (hok k hk) hc.size
  have HB := Lib.hid hb
  have H1 := Lib.hid (plain_any ls A n c hr hok hn)
  clear h hr hb hf hok
  go_enter Try.func13, Try.ntmps13
  go_wp2_with fail
  refine H1.out.mono ?_
  clear H1
  rintro e w1 ⟨v, rfl, ho, hc⟩
  obtain ⟨A1, c1, rfl, hr1⟩ := Rd.of_own ho
  have C1 := Lib.hid hc
  have HP : Hid (∀ w', Chg (fun _ => False) w1 w' → Rd (fun k => k < w1.heap.size) w' A1 n c1 1 (us ls)) := fun w' hc' => (hr1.mono (fun k hk => (ho.lt k hk).2)).move (fun k hk => hc'.block k hk (fun h => h))
  clear ho hc hr1
  go_wp2_with fail
  refine (place_any ls l A n c w1 ok (HR.out _ C1.out) (by omega)).mono ?_
  rintro e w2 ⟨rfl, rfl⟩
  go_wp2_with fail
  refine (rplace_any ls l A1 n c1 w1 _ (HP.out _ (Chg.refl _ _)) (by omega)).mono ?_
  rintro e w2 ⟨rfl, rfl⟩
  obtain ⟨p, hp⟩ : ∃ p, p = place ls l := ⟨_, rfl⟩
  rw [← hp]
  clear hp
  have D1 := Lib.hid (Ldn.down_any ls l A n c w1 ok (HR.out _ C1.out) (HK.out _ C1.out) HB.out hl hn)
  have hcase : (max 0 p = p ∧ decide (0 ≤ p) = true) ∨ (max 0 p = 0 ∧ decide (0 ≤ p) = false) := by
    by_cases h : 0 ≤ p
    · exact .inl ⟨by omega, decide_eq_true h⟩
    · exact .inr ⟨by omega, decide_eq_false h⟩
  have hne : (p != p) = false := by simp
  have hll : ∀ m, (Ldn.downs ls l m).length ≤ m := Ldn.downs_len ls l
  have hul : ∀ m, (Lup.downs ls l m).length ≤ m := Lup.downs_len ls l
  have HD := Lib.hid (hll n)
  have HU := Lib.hid (hul n)
  clear hll hul
  rcases hcase with ⟨m1, d1⟩ | ⟨m1, d1⟩
  all_goals
    rw [m1, d1]
    clear m1
    go_wp2_with fail
    refine D1.out.mono ?_
    rintro e w2 ⟨v2, rfl, ho2, hc2⟩
    have C2 := Lib.hid (C1.out.trans hc2 (fun _ _ h => h))
    have C12 := Lib.hid hc2
    obtain ⟨A2, c2, rfl, hr2⟩ := own_is ho2
    have HR2 := Lib.hid hr2
    clear ho2 hc2 hr2
    have D2 := Lib.hid (rdown_any ls l A1 n c1 w2 _ (HP.out _ C12.out) (fun k hk => Nat.lt_of_lt_of_le hk C12.out.size) HB.out hl hn)
    go_wp2_with fail
    refine D2.out.mono ?_
    rintro e w3 ⟨v3, rfl, ho3, hc3⟩
    have C3 := Lib.hid (C2.out.trans hc3 (fun _ _ h => h))
    have C13 := Lib.hid (C12.out.trans hc3 (fun _ _ h => h))
    obtain ⟨A3, c3, rfl, hr3⟩ := own_is ho3
    have S1 := Lib.hid (same_eq (Ldn.downs ls l n) A2 A3 _ _ c2 c3 w3 _ _ (HR2.out.move (fun k hk => hc3.block k hk.2 (fun h => h))) hr3 (by have := HD.out; omega) (by have := HD.out; omega))
    clear ho3 hc3 hr3
    go_wp2_with fail
    refine S1.out.mono ?_
    rintro e w4 ⟨rfl, q4, hq4⟩
    have C4 : Hid (Chg (fun _ => False) w w4) := by rw [hq4]; exact C3.out.drewN _
    have C14 : Hid (Chg (fun _ => False) w1 w4) := by rw [hq4]; exact C13.out.drewN _
    clear hq4
    have D3 := Lib.hid (Lup.down_any ls l A n c w4 ok (HR.out _ C4.out) (HK.out _ C4.out) HB.out hl hn)
    go_wp2_with fail
    refine D3.out.mono ?_
    rintro e w5 ⟨v5, rfl, ho5, hc5⟩
    have C5 := Lib.hid (C4.out.trans hc5 (fun _ _ h => h))
    have C15 := Lib.hid (C14.out.trans hc5 (fun _ _ h => h))
    obtain ⟨A5, c5, rfl, hr5⟩ := own_is ho5
    have HR5 := Lib.hid hr5
    clear ho5 hc5 hr5
    have D4 := Lib.hid (rup_any ls l A1 n c1 w5 _ (HP.out _ C15.out) (fun k hk => Nat.lt_of_lt_of_le hk C15.out.size) HB.out hl hn)
    go_wp2_with fail
    refine D4.out.mono ?_
    rintro e w6 ⟨v6, rfl, ho6, hc6⟩
    have C6 := Lib.hid (C5.out.trans hc6 (fun _ _ h => h))
    obtain ⟨A6, c6, rfl, hr6⟩ := own_is ho6
    have S2 := Lib.hid (same_eq (Lup.downs ls l n) A5 A6 _ _ c5 c6 w6 _ _ (HR5.out.move (fun k hk => hc6.block k hk.2 (fun h => h))) hr6 (by have := HU.out; omega) (by have := HU.out; omega))
    clear ho6 hc6 hr6
    go_wp2_with fail
    refine S2.out.mono ?_
    rintro e w7 ⟨rfl, q7, hq7⟩
    have C7 : Hid (Chg (fun _ => False) w w7) := by rw [hq7]; exact C6.out.drewN _
    clear hq7
    go_wp2_with fail
    refine (awake_any _).mono ?_
    rintro e w8 ⟨rfl, hc8⟩
    have C8 := Lib.hid (C7.out.trans hc8 (fun _ _ h => h))
    clear hc8
    go_wp2
    go_ret
    exact ⟨rfl, C8.out.below⟩
theorem places_row {ok : Nat → Prop} {w : World} (ls : List Nat) (l : Int) (A : Option Addr) (n c : Nat) (h : labsK.rel ok w ls [.slice A n c]) (hok : ∀ k, ok k → k < w.heap.size) (hf : labsK.fits ls) (hl : (Lit.int .u64 l).wf = true) :
    Calls Try.prog 13 #[.slice A n c, .int .u64 l] w fun e w' => e = .returned (.bool true) ∧ Below w.heap.size w w' := by
  obtain ⟨a0, a1⟩ := wf_u64 hl
  obtain ⟨x, rfl⟩ := Int.eq_ofNat_of_zero_le a0
  exact places_walk ls x A n c h hok hf (by omega)
end Go.Proofs.Ytdfplhoijapoeaa.Lwp
