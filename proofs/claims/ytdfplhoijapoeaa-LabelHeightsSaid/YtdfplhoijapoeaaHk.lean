/- The document's Heights, by contract: the walk. Conditions: the row reads so, labels below 2^64. -/
import Derived.Test.YtdfplhoijapoeaaHj
set_option linter.unusedVariables false
set_option linter.unusedSimpArgs false
namespace Go.Proofs.Ytdfplhoijapoeaa.Lhk
open Go.RowKit Go.Proofs.Ytdfplhoijapoeaa.Lib1 Go.Proofs.Ytdfplhoijapoeaa.Lat Go.Proofs.Ytdfplhoijapoeaa.Lbl Go.Proofs.Ytdfplhoijapoeaa.Lbw Go.Proofs.Ytdfplhoijapoeaa.Lck Go.Proofs.Ytdfplhoijapoeaa.Lcb Go.Proofs.Ytdfplhoijapoeaa.Lhg Go.Proofs.Ytdfplhoijapoeaa.Lru Go.Proofs.Ytdfplhoijapoeaa.Lhh Go.Proofs.Ytdfplhoijapoeaa.Lhj

def cnt (b : Bool) : Nat := if b then 1 else 0
set_option maxRecDepth 100000 in
set_option maxHeartbeats 3200000 in
theorem rheights_any (ls : List Nat) (A : Option Addr) (n c : Nat) (w : World) (ok : Nat → Prop) (h : Rd ok w A n c 1 (us ls)) (hok : ∀ k, ok k → k < w.heap.size) (hf : n * 8 ≤ 140737488351232) (hl : ∀ x ∈ ls, x < B64) :
    Calls Try.prog 28 #[.slice A n c] w fun e w' => ∃ g F, e = .returned (.slice (some ⟨g, 0, none⟩) n n) ∧ w.heap.size ≤ g ∧ IB w' g n F ∧ (∀ t, t < n → F t = hg ls (ls.getD t 0)) ∧ Chg (fun _ => False) w w' := by
  have HL : Hid (ls.length = n) := by have := h.len; rw [us_len] at this; show _ = _; omega
  have hlg : ls.length ≤ 17592186044416 := by have := h.len; rw [us_len] at this; omega
  have HLG := Lib.hid hlg
  have H64 : Hid (∀ x ∈ ls, x < B64) := hl
  have HU := Lib.hid (unlike_any ls A n c w ok h hok hf)
  have hmn := make_int n hf
  clear h hok hl hlg
  go_enter Try.func28, Try.ntmps28
  go_wp2_with fail
  refine HU.out.mono ?_
  clear HU
  rintro e w1 ⟨v, i9, rfl, hi9, kk, arr, ss, hkk, hi8, ho, hne, hb, ha, hm, hsk, hc⟩
  obtain rfl : kk = n := by rw [hi9] at hi8; simp only [Value.int.injEq, true_and] at hi8; omega
  obtain ⟨A1, c1, rfl, hr1⟩ := Rd.of_own ho
  have hin : Hid (∀ x ∈ ss, x ∈ ls) := hm
  have hall : Hid (∀ y ∈ ls, ∃ p, p < ss.length ∧ ss.getD p 0 = y) := fun y hy => by
    obtain ⟨t, ht, rfl⟩ := List.getElem_of_mem hy
    obtain ⟨p, h1, h2, h3⟩ := ha.at_ t (by have := HL.out; omega)
    exact ⟨p, h2, by rw [h3, List.getD_eq_getElem?_getD, List.getElem?_eq_getElem ht]; rfl⟩
  have hss : Hid (∀ p, p < ss.length → ss.getD p 0 < B64) := fun p hp => H64.out _ (hm _ (mem_at hp))
  obtain ⟨N, hN⟩ : ∃ N, N = ss.length := ⟨_, rfl⟩
  have hms := make_int N (by rw [hN]; omega)
  -- the worlds behind: what stays
  have HA1 : Hid (0 < N → ∃ b off, A1 = some ⟨b, off, none⟩ ∧ b < w1.heap.size ∧ ∀ k, k < N → w1.cell? ⟨b, off + k, none⟩ = some (.int .u64 ((ss.getD k 0 : Nat) : Int))) := fun hn => by
    rw [hN] at hn
    obtain ⟨b, off, e, hb', hc'⟩ := rd_us hr1 hn
    exact ⟨b, off, e, (ho.lt b hb').2, by rw [hN]; exact hc'⟩
  have HAt : Hid (∀ q, q < kk → ∃ p : Nat, w1.cell? ⟨w.heap.size, q, none⟩ = some (.int .i64 (p : Int)) ∧ p < N ∧ ss.getD p 0 = ls.getD q 0) := fun q hq => by
    obtain ⟨p, h1, h2, h3⟩ := ha.at_ q hq
    exact ⟨p, cell_at hb q h1, by rw [hN]; exact h2, h3⟩
  have hg0 : w.heap.size < w1.heap.size := lt_of w1 hb
  have HC1 := Lib.hid hc
  have hNk : N ≤ kk := by rw [hN]; exact hsk
  rw [← hN]
  have HN := Lib.hid hN
  clear ha hb hr1 ho hne hm hi8 hi9 hc hN hkk hsk
  -- the heights of those that are unlike
  obtain ⟨g, hg'⟩ : ∃ g, g = w1.heap.size := ⟨_, rfl⟩
  have HG := Lib.hid hg'
  obtain ⟨w2, hw2⟩ : ∃ w2, w2 = w1.alloc (.cells (madeCells #[.int .i64 0] N) 3) := ⟨_, rfl⟩
  have HW2 := Lib.hid hw2
  have HI2 : Hid (IB w2 g N (fun _ => 0)) := by show IB _ _ _ _; rw [hw2, hg']; exact IB.made _ _
  have C2 : Hid (Chg (fun _ => False) w1 w2) := by show Chg _ _ _; rw [hw2]; exact (Chg.refl _ _).alloc _
  have HU2 : Hid (Up ls ss (fun _ => 0)) := fun q hq => Nat.zero_le _
  have HQ : Hid (∀ W, Chg (fun q => q = g) w2 W → (∀ b off, b < w1.heap.size → ∀ x, W.cell? ⟨b, off + x, none⟩ = w1.cell? ⟨b, off + x, none⟩) ∧ ∀ x, W.cell? ⟨w.heap.size, x, none⟩ = w1.cell? ⟨w.heap.size, x, none⟩) := fun W hW => by
    have e1 : ∀ j, j < g → W.heap[j]? = w1.heap[j]? := fun j hj => (hW.block j (by have := C2.out.size; omega) (by omega)).trans (C2.out.block j (by omega) (fun h => h))
    exact ⟨fun b off hb x => World.cell?_of_block (e1 b (by omega)), fun x => World.cell?_of_block (e1 w.heap.size (by omega))⟩
  have HGl : Hid (w.heap.size < g) := by show _ < _; omega
  clear hw2 hg'
  go_wp2
  go_loopg [6] (1 + pot ls ss (fun _ => 0)) (fun γ v6 wr => ∃ (ch : Bool) (Q : Nat → Nat), v6 = .bool ch ∧ cnt ch + pot ls ss Q ≤ γ ∧ Hid (IB wr g N Q) ∧ Hid (Up ls ss Q) ∧ Hid (ch = false → Fx ss ss.length Q) ∧ Hid (Chg (fun q => q = g) w2 wr))
  case atStart => exact ⟨true, _, rfl, Nat.le_refl _, by rw [← HW2.out]; exact HI2, HU2, (fun h => by cases h), by rw [← HW2.out]; exact Chg.refl _ _⟩
  case round =>
    clear HI2 HU2
    obtain ⟨wo, rfl⟩ : ∃ wo : World, wo = wr := ⟨_, rfl⟩
    obtain ⟨ch, Q, rfl, hγ, HI, HUp, HFx, HC⟩ := hrel
    cases ch with
    | true =>
      have HPot := Lib.hid hγ
      clear hγ HFx
      go_wp2
      go_loopw [6, 7] (fun v6 v7 wr => ∃ (ch : Bool) (i : Nat) (Q' : Nat → Nat), v6 = .bool ch ∧ v7 = .int .i64 i ∧ i ≤ N ∧ Hid (IB wr g N Q') ∧ Hid (Up ls ss Q') ∧ Hid (cnt ch + pot ls ss Q' ≤ pot ls ss Q) ∧ Hid (ch = false → Fx ss i Q') ∧ Hid (Chg (fun q => q = g) w2 wr)) (fun _ v7 _ => N - (intOf v7).toNat)
      case atStart => exact ⟨false, 0, Q, rfl, rfl, Nat.zero_le _, HI, HUp, (show Hid _ from by show 0 + _ ≤ _; omega), (fun _ p hp => absurd hp (by omega)), HC⟩
      case round =>
        clear HI HUp HC
        obtain ⟨wi, rfl⟩ : ∃ wi : World, wi = wr := ⟨_, rfl⟩
        obtain ⟨ch, i, Q1, rfl, rfl, hi, HI, HUp, HP, HFx, HC⟩ := hrel
        by_cases hlti : i < N
        · have i1 : (i : Int) < (N : Int) := by omega
          obtain ⟨b, off, rfl, hb, hcl⟩ := HA1.out (by omega)
          have HCl := Lib.hid hcl
          clear hcl
          go_wp2
          go_loopw [6, 8] (fun v6 v8 wr => ∃ (ch : Bool) (j : Nat) (Q' : Nat → Nat), v6 = .bool ch ∧ v8 = .int .i64 j ∧ j ≤ N ∧ Hid (IB wr g N Q') ∧ Hid (Up ls ss Q') ∧ Hid (cnt ch + pot ls ss Q' ≤ pot ls ss Q) ∧ Hid (ch = false → Fx ss i Q' ∧ Fy ss i j Q') ∧ Hid (Chg (fun q => q = g) w2 wr)) (fun _ v8 _ => N - (intOf v8).toNat)
          case atStart => exact ⟨ch, 0, Q1, rfl, rfl, Nat.zero_le _, HI, HUp, HP, (fun h => ⟨HFx.out h, fun p hp => absurd hp (by omega)⟩), HC⟩
          case round =>
            clear HI HUp HP HFx HC
            obtain ⟨wj, rfl⟩ : ∃ wj : World, wj = wr := ⟨_, rfl⟩
            obtain ⟨ch, j, Q2, rfl, rfl, hj, HI, HUp, HP, HFx, HC⟩ := hrel
            by_cases hltj : j < N
            · have j1 : (j : Int) < (N : Int) := by omega
              obtain ⟨x, hx⟩ : ∃ x, x = ss.getD j 0 := ⟨_, rfl⟩
              obtain ⟨y, hy⟩ : ∃ y, y = ss.getD i 0 := ⟨_, rfl⟩
              have o1 := ((HQ.out wj HC.out).1 b off hb j).trans (HCl.out j hltj)
              have o2 := ((HQ.out wj HC.out).1 b off hb i).trans (HCl.out i hlti)
              rw [← hx] at o1
              rw [← hy] at o2
              have hx64 : x < B64 := by rw [hx]; exact hss.out j (by have := HN.out; omega)
              have hy64 : y < B64 := by rw [hy]; exact hss.out i (by have := HN.out; omega)
              have hbel : ∀ W, Calls Try.prog 59 #[.int .u64 x, .int .u64 y] W fun e w' => e = .returned (.bool (bel x y)) ∧ w' = W := fun W => (rbelow_any x y W hx64 hy64).mono (fun _ _ h => ⟨h.1, h.2.symm⟩)
              have HX := Lib.hid hx
              have HY := Lib.hid hy
              clear hx hy
              have f1 := HI.out.cell (q := i) hlti
              have f2 := HI.out.cell (q := j) hltj
              have f3 := HI.out.free i
              rw [HG.out] at f1 f2 f3
              obtain ⟨a, ha⟩ : ∃ a, a = Q2 i := ⟨_, rfl⟩
              obtain ⟨d, hd⟩ : ∃ d, d = Q2 j := ⟨_, rfl⟩
              rw [← ha] at f1
              rw [← hd] at f2
              have hdz : (d : Int) + 1 ≤ 17592186044417 := by
                have h1 := HUp.out j (by have := HN.out; omega)
                have h2 := hg_len ls (ss.getD j 0)
                have h3 := HLG.out
                omega
              have HA := Lib.hid ha
              have HD := Lib.hid hd
              clear ha hd
              cases hbv : bel x y with
              | false =>
                rw [hbv] at hbel
                have HBV : Hid (bel (ss.getD j 0) (ss.getD i 0) = false) := by show _ = _; rw [← HX.out, ← HY.out]; exact hbv
                clear hbv
                go_wp2_with fail
                go_quiet ((go_at_call 59; exact Calls.quiet_of_same (hbel _)))
                clear o1 o2 f1 f2 f3
                go_wp2
                go_roundw
                case rel => exact ⟨ch, j + 1, Q2, rfl, by go_num, hltj, HI.out.move rfl, HUp, HP, (fun h => ⟨(HFx.out h).1, fy_skip (HFx.out h).2 (fun hb' => by rw [HBV.out] at hb'; cases hb')⟩), HC.out.drewN _⟩
                case measure => simp [intOf]; omega
              | true =>
                rw [hbv] at hbel
                have HBV : Hid (bel (ss.getD j 0) (ss.getD i 0) = true) := by show _ = _; rw [← HX.out, ← HY.out]; exact hbv
                clear hbv
                by_cases had : a < d + 1
                · have d1 : decide ((a : Int) < (d : Int) + 1) = true := by simp; omega
                  have d2 : decide (a < d + 1) = true := by simp; omega
                  have HAD := Lib.hid had
                  clear had
                  go_wp2_with fail
                  go_quiet ((go_at_call 59; exact Calls.quiet_of_same (hbel _)))
                  clear o1 o2
                  go_wp2
                  go_roundw
                  case rel =>
                    have em : (d : Int) + 1 = ((d + 1 : Nat) : Int) := by omega
                    have hlt' : Q2 i < Q2 j + 1 := by rw [← HA.out, ← HD.out]; exact HAD.out
                    refine ⟨true, j + 1, fun t => if t = i then Q2 j + 1 else Q2 t, rfl, by go_num, hltj, ?_, up_set HUp.out hin.out (by have := HN.out; omega) HBV.out, ?_, (fun h => by cases h), ?_⟩
                    · show IB _ _ _ _
                      rw [em, ← HG.out, HD.out]
                      exact (HI.out.move (w' := wj.drewN nq) rfl).set hlti (Q2 j + 1)
                    · show 1 + _ ≤ _
                      have h1 := pot_set HUp.out hin.out (i := i) (j := j) (by have := HN.out; omega) (by have := HN.out; omega) HBV.out hlt'
                      have h2 := HP.out
                      omega
                    · show Chg _ _ _
                      rw [em, ← HG.out]
                      exact (HC.out.drewN nq).set (.inr rfl)
                  case measure => simp [intOf]; omega
                · have d1 : decide ((a : Int) < (d : Int) + 1) = false := by simp; omega
                  have d2 : decide (a < d + 1) = false := by simp; omega
                  have HAD := Lib.hid had
                  clear had
                  go_wp2_with fail
                  go_quiet ((go_at_call 59; exact Calls.quiet_of_same (hbel _)))
                  clear o1 o2 f1 f2 f3
                  go_wp2
                  go_roundw
                  case rel => exact ⟨ch, j + 1, Q2, rfl, by go_num, hltj, HI.out.move rfl, HUp, HP, (fun h => ⟨(HFx.out h).1, fy_skip (HFx.out h).2 (fun hb' => by have := HAD.out; rw [HA.out, HD.out] at this; omega)⟩), HC.out.drewN _⟩
                  case measure => simp [intOf]; omega
            · obtain rfl : j = N := by omega
              go_wp2
              go_roundw
              case rel => exact ⟨ch, i + 1, Q2, rfl, by go_num, hlti, HI, HUp, HP, (fun h => fx_more (HFx.out h).1 (by rw [← HN.out]; exact (HFx.out h).2)), HC⟩
              case measure => simp [intOf]; omega
        · obtain rfl : i = N := by omega
          go_wp2
          go_roundg (pot ls ss Q)
          case measure => have h1 := HPot.out; simp only [cnt, if_true] at h1; omega
          case rel => exact ⟨ch, Q1, rfl, HP.out, HI, HUp, (fun h => by rw [← HN.out]; exact HFx.out h), HC⟩
    | false =>
      have HFin : Hid (∀ p, p < N → Q p = hg ls (ss.getD p 0)) := fun p hp => fix_hg HUp.out (HFx.out rfl) hall.out (ss.getD p 0) p (by have := HN.out; omega) (Nat.le_refl _)
      have HFW : Hid (Chg (fun _ => False) w wo) := by
        have a1 : Chg (fun q => g ≤ q) w w1 := HC1.out.mono (fun _ _ h => h.elim)
        have a3 : Chg (fun q => g ≤ q) w1 w2 := C2.out.mono (fun _ _ h => h.elim)
        have a4 : Chg (fun q => g ≤ q) w2 wo := HC.out.mono (fun _ _ h => by omega)
        exact ((a1.trans a3 (fun _ _ h => h)).trans a4 (fun _ _ h => h)).mono (fun j hj e => by have := HGl.out; omega)
      obtain ⟨g2, hg2⟩ : ∃ g2, g2 = wo.heap.size := ⟨_, rfl⟩
      have HG2 := Lib.hid hg2
      obtain ⟨w6, hw6⟩ : ∃ w6, w6 = wo.alloc (.cells (madeCells #[.int .i64 0] kk) 3) := ⟨_, rfl⟩
      have HW6 := Lib.hid hw6
      have HI6 : Hid (IB w6 g2 kk (fun _ => 0)) := by show IB _ _ _ _; rw [hw6, hg2]; exact IB.made _ _
      have C6 : Hid (Chg (fun _ => False) wo w6) := by show Chg _ _ _; rw [hw6]; exact (Chg.refl _ _).alloc _
      have HGg : Hid (g < g2) := by show _ < _; rw [hg2]; exact HI.out.lt
      have HE : Hid (∀ W, Chg (fun q => q = g2) w6 W → (∀ p, p < N → W.cell? ⟨g, p, none⟩ = some (.int .i64 ((Q p : Nat) : Int))) ∧ (∀ x, W.cell? ⟨w.heap.size, x, none⟩ = w1.cell? ⟨w.heap.size, x, none⟩) ∧ Chg (fun _ => False) w W) := fun W hW => by
        have e1 : ∀ j, j < g2 → W.heap[j]? = wo.heap[j]? := fun j hj => (hW.block j (by have := C6.out.size; have := HG2.out; omega) (by omega)).trans (C6.out.block j (by have := HG2.out; omega) (fun h => h))
        refine ⟨fun p hp => (World.cell?_of_block (e1 g HGg.out)).trans (HI.out.cell hp), fun x => (World.cell?_of_block (e1 w.heap.size (by have := HGl.out; have := HGg.out; omega))).trans ((HQ.out wo HC.out).2 x), ?_⟩
        have a1 : Chg (fun q => g ≤ q) w wo := HFW.out.mono (fun _ _ h => h.elim)
        have a3 : Chg (fun q => g ≤ q) wo w6 := C6.out.mono (fun _ _ h => h.elim)
        have a4 : Chg (fun q => g ≤ q) w6 W := hW.mono (fun _ _ h => by have := HGg.out; omega)
        exact ((a1.trans a3 (fun _ _ h => h)).trans a4 (fun _ _ h => h)).mono (fun j hj e => by have := HGl.out; omega)
      clear hw6 hg2 HI HUp HFx HC hγ
      go_wp2
      go_loopw [10] (fun v wr => ∃ (i : Nat) (F : Nat → Nat), i ≤ kk ∧ v = .int .i64 i ∧ Hid (IB wr g2 kk F) ∧ Hid (∀ q, q < i → F q = hg ls (ls.getD q 0)) ∧ Hid (Chg (fun q => q = g2) w6 wr)) (fun v _ => kk - (intOf v).toNat)
      case atStart => exact ⟨0, _, Nat.zero_le _, rfl, by rw [← HW6.out]; exact HI6, (fun q hq => absurd hq (by omega)), by rw [← HW6.out]; exact Chg.refl _ _⟩
      case round =>
        clear HI6
        obtain ⟨wi, rfl⟩ : ∃ wi : World, wi = wr := ⟨_, rfl⟩
        obtain ⟨i, F, hi, rfl, HI, HF, HC⟩ := hrel
        by_cases hlt : i < kk
        · have i1 : (i : Int) < (kk : Int) := by omega
          obtain ⟨p, p1, p2, p3⟩ := HAt.out i hlt
          obtain ⟨q1, q2, q3⟩ := HE.out wi HC.out
          have o1 := (q2 i).trans p1
          have o2 := q1 p p2
          have o3 := HI.out.cell hlt
          have o4 := HI.out.free i
          rw [HG2.out] at o3 o4
          rw [HG.out] at o2
          have j1 : (p : Int) < (N : Int) := by omega
          have HP3 : Hid (Q p = hg ls (ls.getD i 0)) := by show _ = _; rw [HFin.out p p2, p3]
          clear p1 p3 q1 q2 q3
          go_wp2
          go_roundw
          case rel =>
            refine ⟨i + 1, fun t => if t = i then Q p else F t, hlt, by go_num, ?_, fun q hq => ?_, ?_⟩
            · rw [← HG2.out]; exact HI.out.set hlt (Q p)
            · show (if q = i then Q p else F q) = _
              by_cases e : q = i
              · subst e; rw [if_pos rfl]; exact HP3.out
              · rw [if_neg e]; exact HF.out q (by omega)
            · rw [← HG2.out]; exact HC.out.set (.inr rfl)
          case measure => simp [intOf]; omega
        · obtain rfl : i = kk := by omega
          go_wp2
          go_ret
          exact ⟨g2, F, by rw [HG2.out]; rfl, by have := HGl.out; have := HGg.out; omega, HI.out, HF.out, (HE.out wi HC.out).2.2⟩
end Go.Proofs.Ytdfplhoijapoeaa.Lhk
