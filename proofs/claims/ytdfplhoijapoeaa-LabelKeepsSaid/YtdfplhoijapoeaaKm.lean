/- LabelKeeps: its texts as one. Conditions: the rows read so, labels below 2^64. -/
import Derived.Test.YtdfplhoijapoeaaHi
import Derived.Deep.LoopGhost
import Derived.Test.YtdfplhoijapoeaaLdn
import Derived.Test.YtdfplhoijapoeaaLup
import Derived.Test.YtdfplhoijapoeaaRu
import Derived.Test.YtdfplhoijapoeaaLmay
import Derived.Test.YtdfplhoijapoeaaLaw
import Derived.Test.YtdfplhoijapoeaaLwc
set_option linter.unusedVariables false
set_option linter.unusedSimpArgs false
namespace Go.Proofs.Ytdfplhoijapoeaa.Lhj
open Go.RowKit Go.Proofs.Ytdfplhoijapoeaa.Lib1 Go.Proofs.Ytdfplhoijapoeaa.Lat Go.Proofs.Ytdfplhoijapoeaa.Lbl Go.Proofs.Ytdfplhoijapoeaa.Lbw Go.Proofs.Ytdfplhoijapoeaa.Lck Go.Proofs.Ytdfplhoijapoeaa.Lcb Go.Proofs.Ytdfplhoijapoeaa.Lhg Go.Proofs.Ytdfplhoijapoeaa.Lru Go.Proofs.Ytdfplhoijapoeaa.Lhh

def sumTo (f : Nat → Nat) : Nat → Nat
  | 0 => 0
  | n + 1 => sumTo f n + f n
theorem sumTo_congr {f g : Nat → Nat} : ∀ n, (∀ i, i < n → f i = g i) → sumTo f n = sumTo g n := fun n => by
  induction n with
  | zero => intro _; rfl
  | succ n ih => intro h; show sumTo f n + f n = sumTo g n + g n; rw [ih (fun i hi => h i (by omega)), h n (by omega)]
theorem sumTo_lt {f g : Nat → Nat} {k : Nat} : ∀ n, k < n → (∀ i, i < n → i ≠ k → f i = g i) → f k < g k → sumTo f n < sumTo g n := fun n => by
  induction n with
  | zero => intro h; omega
  | succ n ih =>
    intro hk h hlt
    show sumTo f n + f n < sumTo g n + g n
    by_cases e : k = n
    · subst e
      rw [sumTo_congr k (fun i hi => h i (by omega) (by omega))]
      omega
    · have := ih (by omega) (fun i hi hne => h i (by omega) hne) hlt
      rw [h n (by omega) (Ne.symm e)]
      omega
/-- What is left to be raised. -/
def pot (ls ss : List Nat) (Q : Nat → Nat) : Nat := sumTo (fun i => hg ls (ss.getD i 0) - Q i) ss.length
def Up (ls ss : List Nat) (Q : Nat → Nat) : Prop := ∀ i, i < ss.length → Q i ≤ hg ls (ss.getD i 0)
/-- The first i are as high as all below them ask, the i-th as the first j of them. -/
def Fx (ss : List Nat) (i : Nat) (Q : Nat → Nat) : Prop := ∀ p, p < i → ∀ q, q < ss.length → bel (ss.getD q 0) (ss.getD p 0) = true → Q q + 1 ≤ Q p
def Fy (ss : List Nat) (i j : Nat) (Q : Nat → Nat) : Prop := ∀ q, q < j → bel (ss.getD q 0) (ss.getD i 0) = true → Q q + 1 ≤ Q i
theorem fx_more {ss : List Nat} {i : Nat} {Q : Nat → Nat} (h : Fx ss i Q) (g : Fy ss i ss.length Q) : Fx ss (i + 1) Q := fun p hp q hq hb => by
  rcases Nat.lt_or_eq_of_le (Nat.le_of_lt_succ hp) with e | rfl
  · exact h p e q hq hb
  · exact g q hq hb
theorem fy_skip {ss : List Nat} {i j : Nat} {Q : Nat → Nat} (h : Fy ss i j Q) (hb : bel (ss.getD j 0) (ss.getD i 0) = true → Q j + 1 ≤ Q i) : Fy ss i (j + 1) Q := fun q hq hb' => by
  rcases Nat.lt_or_eq_of_le (Nat.le_of_lt_succ hq) with e | rfl
  · exact h q e hb'
  · exact hb hb'
theorem up_set {ls ss : List Nat} {Q : Nat → Nat} {i j : Nat} (h : Up ls ss Q) (hin : ∀ x ∈ ss, x ∈ ls) (hj : j < ss.length) (hb : bel (ss.getD j 0) (ss.getD i 0) = true) : Up ls ss (fun q => if q = i then Q j + 1 else Q q) := fun q hq => by
  show (if q = i then Q j + 1 else Q q) ≤ _
  by_cases e : q = i
  · subst e
    rw [if_pos rfl]
    exact Nat.le_trans (Nat.succ_le_succ (h j hj)) (hg_le (hin _ (mem_at hj)) hb)
  · rw [if_neg e]; exact h q hq
theorem pot_set {ls ss : List Nat} {Q : Nat → Nat} {i j : Nat} (h : Up ls ss Q) (hin : ∀ x ∈ ss, x ∈ ls) (hi : i < ss.length) (hj : j < ss.length) (hb : bel (ss.getD j 0) (ss.getD i 0) = true) (hlt : Q i < Q j + 1) : pot ls ss (fun q => if q = i then Q j + 1 else Q q) < pot ls ss Q := by
  refine sumTo_lt (k := i) _ hi (fun q hq hne => ?_) ?_
  · show _ - (if q = i then Q j + 1 else Q q) = _
    rw [if_neg hne]
  · show _ - (if i = i then Q j + 1 else Q i) < _ - Q i
    rw [if_pos rfl]
    have := Nat.le_trans (Nat.succ_le_succ (h j hj)) (hg_le (hin _ (mem_at hj)) hb)
    omega
theorem fix_hg {ls ss : List Nat} {Q : Nat → Nat} (hU : Up ls ss Q) (hF : Fx ss ss.length Q) (hall : ∀ y ∈ ls, ∃ p, p < ss.length ∧ ss.getD p 0 = y) : ∀ (f p : Nat), p < ss.length → ss.getD p 0 ≤ f → Q p = hg ls (ss.getD p 0) := fun f => by
  induction f with
  | zero =>
    intro p hp h0
    have h1 := hU p hp
    rcases hg_at ls (ss.getD p 0) with h | ⟨y, hy, hb, he⟩
    · omega
    · have := bel_lt hb; omega
  | succ f ih =>
    intro p hp h0
    have h1 := hU p hp
    rcases hg_at ls (ss.getD p 0) with h | ⟨y, hy, hb, he⟩
    · omega
    · obtain ⟨q, hq, rfl⟩ := hall y hy
      have h2 := bel_lt hb
      have h3 := ih q hq (by omega)
      have h4 := hF p hp q hq hb
      omega
end Go.Proofs.Ytdfplhoijapoeaa.Lhj
namespace Go.Proofs.Ytdfplhoijapoeaa.Lhk
open Go.RowKit Go.Proofs.Ytdfplhoijapoeaa.Lib1 Go.Proofs.Ytdfplhoijapoeaa.Lat Go.Proofs.Ytdfplhoijapoeaa.Lbl Go.Proofs.Ytdfplhoijapoeaa.Lbw Go.Proofs.Ytdfplhoijapoeaa.Lck Go.Proofs.Ytdfplhoijapoeaa.Lcb Go.Proofs.Ytdfplhoijapoeaa.Lhg Go.Proofs.Ytdfplhoijapoeaa.Lru Go.Proofs.Ytdfplhoijapoeaa.Lhh Go.Proofs.Ytdfplhoijapoeaa.Lhj

def cnt (b : Bool) : Nat := if b then 1 else 0
set_option maxRecDepth 100000 in
set_option maxHeartbeats 3200000 in
theorem rheights_any (ls : List Nat) (A : Option Addr) (n c : Nat) (w : World) (ok : Nat → Prop) (h : Rd ok w A n c 1 (us ls)) (hok : ∀ k, ok k → k < w.heap.size) (hf : n * 8 ≤ 140737488351232) (hl : ∀ x ∈ ls, x < B64) :
    Calls Try.prog 28 #[.slice A n c] w fun e w' => ∃ g F, e = .returned (.slice (some ⟨g, 0, none⟩) n n) ∧ w.heap.size ≤ g ∧ IB w' g n F ∧ (∀ t, t < n → F t = hg ls (ls.getD t 0)) ∧ Chg (fun _ => False) w w' := by
  have HL : Hid (ls.length = n) := by have := h.len; rw [us_len] at this; show _ = _; omega
  have hlg : ls.length ≤ 17592186044416 := by have := h.len; rw [us_len] at this; omega
  have HLG := Lib.hid hlg
  have H64 : Hid (∀ x ∈ ls, x < B64) := hl
  have HU := Lib.hid (unlike_any ls A n c w ok h hok hf)
  have hmn := make_int n hf
  clear h hok hl hlg
  go_enter Try.func28, Try.ntmps28
  go_wp2_with fail
  refine HU.out.mono ?_
  clear HU
  rintro e w1 ⟨v, i9, rfl, hi9, kk, arr, ss, hkk, hi8, ho, hne, hb, ha, hm, hsk, hc⟩
  obtain rfl : kk = n := by rw [hi9] at hi8; simp only [Value.int.injEq, true_and] at hi8; omega
  obtain ⟨A1, c1, rfl, hr1⟩ := Rd.of_own ho
  have hin : Hid (∀ x ∈ ss, x ∈ ls) := hm
  have hall : Hid (∀ y ∈ ls, ∃ p, p < ss.length ∧ ss.getD p 0 = y) := fun y hy => by
    obtain ⟨t, ht, rfl⟩ := List.getElem_of_mem hy
    obtain ⟨p, h1, h2, h3⟩ := ha.at_ t (by have := HL.out; omega)
    exact ⟨p, h2, by rw [h3, List.getD_eq_getElem?_getD, List.getElem?_eq_getElem ht]; rfl⟩
  have hss : Hid (∀ p, p < ss.length → ss.getD p 0 < B64) := fun p hp => H64.out _ (hm _ (mem_at hp))
  obtain ⟨N, hN⟩ : ∃ N, N = ss.length := ⟨_, rfl⟩
  have hms := make_int N (by rw [hN]; omega)
  -- the worlds behind: what stays
  have HA1 : Hid (0 < N → ∃ b off, A1 = some ⟨b, off, none⟩ ∧ b < w1.heap.size ∧ ∀ k, k < N → w1.cell? ⟨b, off + k, none⟩ = some (.int .u64 ((ss.getD k 0 : Nat) : Int))) := fun hn => by
    rw [hN] at hn
    obtain ⟨b, off, e, hb', hc'⟩ := rd_us hr1 hn
    exact ⟨b, off, e, (ho.lt b hb').2, by rw [hN]; exact hc'⟩
  have HAt : Hid (∀ q, q < kk → ∃ p : Nat, w1.cell? ⟨w.heap.size, q, none⟩ = some (.int .i64 (p : Int)) ∧ p < N ∧ ss.getD p 0 = ls.getD q 0) := fun q hq => by
    obtain ⟨p, h1, h2, h3⟩ := ha.at_ q hq
    exact ⟨p, cell_at hb q h1, by rw [hN]; exact h2, h3⟩
  have hg0 : w.heap.size < w1.heap.size := lt_of w1 hb
  have HC1 := Lib.hid hc
  have hNk : N ≤ kk := by rw [hN]; exact hsk
  rw [← hN]
  have HN := Lib.hid hN
  clear ha hb hr1 ho hne hm hi8 hi9 hc hN hkk hsk
  -- the heights of those that are unlike
  obtain ⟨g, hg'⟩ : ∃ g, g = w1.heap.size := ⟨_, rfl⟩
  have HG := Lib.hid hg'
  obtain ⟨w2, hw2⟩ : ∃ w2, w2 = w1.alloc (.cells (madeCells #[.int .i64 0] N) 3) := ⟨_, rfl⟩
  have HW2 := Lib.hid hw2
  have HI2 : Hid (IB w2 g N (fun _ => 0)) := by show IB _ _ _ _; rw [hw2, hg']; exact IB.made _ _
  have C2 : Hid (Chg (fun _ => False) w1 w2) := by show Chg _ _ _; rw [hw2]; exact (Chg.refl _ _).alloc _
  have HU2 : Hid (Up ls ss (fun _ => 0)) := fun q hq => Nat.zero_le _
  have HQ : Hid (∀ W, Chg (fun q => q = g) w2 W → (∀ b off, b < w1.heap.size → ∀ x, W.cell? ⟨b, off + x, none⟩ = w1.cell? ⟨b, off + x, none⟩) ∧ ∀ x, W.cell? ⟨w.heap.size, x, none⟩ = w1.cell? ⟨w.heap.size, x, none⟩) := fun W hW => by
    have e1 : ∀ j, j < g → W.heap[j]? = w1.heap[j]? := fun j hj => (hW.block j (by have := C2.out.size; omega) (by omega)).trans (C2.out.block j (by omega) (fun h => h))
    exact ⟨fun b off hb x => World.cell?_of_block (e1 b (by omega)), fun x => World.cell?_of_block (e1 w.heap.size (by omega))⟩
  have HGl : Hid (w.heap.size < g) := by show _ < _; omega
  clear hw2 hg'
  go_wp2
  go_loopg [6] (1 + pot ls ss (fun _ => 0)) (fun γ v6 wr => ∃ (ch : Bool) (Q : Nat → Nat), v6 = .bool ch ∧ cnt ch + pot ls ss Q ≤ γ ∧ Hid (IB wr g N Q) ∧ Hid (Up ls ss Q) ∧ Hid (ch = false → Fx ss ss.length Q) ∧ Hid (Chg (fun q => q = g) w2 wr))
  case atStart => exact ⟨true, _, rfl, Nat.le_refl _, by rw [← HW2.out]; exact HI2, HU2, (fun h => by cases h), by rw [← HW2.out]; exact Chg.refl _ _⟩
  case round =>
    clear HI2 HU2
    obtain ⟨wo, rfl⟩ : ∃ wo : World, wo = wr := ⟨_, rfl⟩
    obtain ⟨ch, Q, rfl, hγ, HI, HUp, HFx, HC⟩ := hrel
    cases ch with
    | true =>
      have HPot := Lib.hid hγ
      clear hγ HFx
      go_wp2
      go_loopw [6, 7] (fun v6 v7 wr => ∃ (ch : Bool) (i : Nat) (Q' : Nat → Nat), v6 = .bool ch ∧ v7 = .int .i64 i ∧ i ≤ N ∧ Hid (IB wr g N Q') ∧ Hid (Up ls ss Q') ∧ Hid (cnt ch + pot ls ss Q' ≤ pot ls ss Q) ∧ Hid (ch = false → Fx ss i Q') ∧ Hid (Chg (fun q => q = g) w2 wr)) (fun _ v7 _ => N - (intOf v7).toNat)
      case atStart => exact ⟨false, 0, Q, rfl, rfl, Nat.zero_le _, HI, HUp, (show Hid _ from by show 0 + _ ≤ _; omega), (fun _ p hp => absurd hp (by omega)), HC⟩
      case round =>
        clear HI HUp HC
        obtain ⟨wi, rfl⟩ : ∃ wi : World, wi = wr := ⟨_, rfl⟩
        obtain ⟨ch, i, Q1, rfl, rfl, hi, HI, HUp, HP, HFx, HC⟩ := hrel
        by_cases hlti : i < N
        · have i1 : (i : Int) < (N : Int) := by omega
          obtain ⟨b, off, rfl, hb, hcl⟩ := HA1.out (by omega)
          have HCl := Lib.hid hcl
          clear hcl
          go_wp2
          go_loopw [6, 8] (fun v6 v8 wr => ∃ (ch : Bool) (j : Nat) (Q' : Nat → Nat), v6 = .bool ch ∧ v8 = .int .i64 j ∧ j ≤ N ∧ Hid (IB wr g N Q') ∧ Hid (Up ls ss Q') ∧ Hid (cnt ch + pot ls ss Q' ≤ pot ls ss Q) ∧ Hid (ch = false → Fx ss i Q' ∧ Fy ss i j Q') ∧ Hid (Chg (fun q => q = g) w2 wr)) (fun _ v8 _ => N - (intOf v8).toNat)
          case atStart => exact ⟨ch, 0, Q1, rfl, rfl, Nat.zero_le _, HI, HUp, HP, (fun h => ⟨HFx.out h, fun p hp => absurd hp (by omega)⟩), HC⟩
          case round =>
            clear HI HUp HP HFx HC
            obtain ⟨wj, rfl⟩ : ∃ wj : World, wj = wr := ⟨_, rfl⟩
            obtain ⟨ch, j, Q2, rfl, rfl, hj, HI, HUp, HP, HFx, HC⟩ := hrel
            by_cases hltj : j < N
            · have j1 : (j : Int) < (N : Int) := by omega
              obtain ⟨x, hx⟩ : ∃ x, x = ss.getD j 0 := ⟨_, rfl⟩
              obtain ⟨y, hy⟩ : ∃ y, y = ss.getD i 0 := ⟨_, rfl⟩
              have o1 := ((HQ.out wj HC.out).1 b off hb j).trans (HCl.out j hltj)
              have o2 := ((HQ.out wj HC.out).1 b off hb i).trans (HCl.out i hlti)
              rw [← hx] at o1
              rw [← hy] at o2
              have hx64 : x < B64 := by rw [hx]; exact hss.out j (by have := HN.out; omega)
              have hy64 : y < B64 := by rw [hy]; exact hss.out i (by have := HN.out; omega)
              have hbel : ∀ W, Calls Try.prog 59 #[.int .u64 x, .int .u64 y] W fun e w' => e = .returned (.bool (bel x y)) ∧ w' = W := fun W => (rbelow_any x y W hx64 hy64).mono (fun _ _ h => ⟨h.1, h.2.symm⟩)
              have HX := Lib.hid hx
              have HY := Lib.hid hy
              clear hx hy
              have f1 := HI.out.cell (q := i) hlti
              have f2 := HI.out.cell (q := j) hltj
              have f3 := HI.out.free i
              rw [HG.out] at f1 f2 f3
              obtain ⟨a, ha⟩ : ∃ a, a = Q2 i := ⟨_, rfl⟩
              obtain ⟨d, hd⟩ : ∃ d, d = Q2 j := ⟨_, rfl⟩
              rw [← ha] at f1
              rw [← hd] at f2
              have hdz : (d : Int) + 1 ≤ 17592186044417 := by
                have h1 := HUp.out j (by have := HN.out; omega)
                have h2 := hg_len ls (ss.getD j 0)
                have h3 := HLG.out
                omega
              have HA := Lib.hid ha
              have HD := Lib.hid hd
              clear ha hd
              cases hbv : bel x y with
              | false =>
                rw [hbv] at hbel
                have HBV : Hid (bel (ss.getD j 0) (ss.getD i 0) = false) := by show _ = _; rw [← HX.out, ← HY.out]; exact hbv
                clear hbv
                go_wp2_with fail
                go_quiet ((go_at_call 59; exact Calls.quiet_of_same (hbel _)))
                clear o1 o2 f1 f2 f3
                go_wp2
                go_roundw
                case rel => exact ⟨ch, j + 1, Q2, rfl, by go_num, hltj, HI.out.move rfl, HUp, HP, (fun h => ⟨(HFx.out h).1, fy_skip (HFx.out h).2 (fun hb' => by rw [HBV.out] at hb'; cases hb')⟩), HC.out.drewN _⟩
                case measure => simp [intOf]; omega
              | true =>
                rw [hbv] at hbel
                have HBV : Hid (bel (ss.getD j 0) (ss.getD i 0) = true) := by show _ = _; rw [← HX.out, ← HY.out]; exact hbv
                clear hbv
                by_cases had : a < d + 1
                · have d1 : decide ((a : Int) < (d : Int) + 1) = true := by simp; omega
                  have d2 : decide (a < d + 1) = true := by simp; omega
                  have HAD := Lib.hid had
                  clear had
                  go_wp2_with fail
                  go_quiet ((go_at_call 59; exact Calls.quiet_of_same (hbel _)))
                  clear o1 o2
                  go_wp2
                  go_roundw
                  case rel =>
                    have em : (d : Int) + 1 = ((d + 1 : Nat) : Int) := by omega
                    have hlt' : Q2 i < Q2 j + 1 := by rw [← HA.out, ← HD.out]; exact HAD.out
                    refine ⟨true, j + 1, fun t => if t = i then Q2 j + 1 else Q2 t, rfl, by go_num, hltj, ?_, up_set HUp.out hin.out (by have := HN.out; omega) HBV.out, ?_, (fun h => by cases h), ?_⟩
                    · show IB _ _ _ _
                      rw [em, ← HG.out, HD.out]
                      exact (HI.out.move (w' := wj.drewN nq) rfl).set hlti (Q2 j + 1)
                    · show 1 + _ ≤ _
                      have h1 := pot_set HUp.out hin.out (i := i) (j := j) (by have := HN.out; omega) (by have := HN.out; omega) HBV.out hlt'
                      have h2 := HP.out
                      omega
                    · show Chg _ _ _
                      rw [em, ← HG.out]
                      exact (HC.out.drewN nq).set (.inr rfl)
                  case measure => simp [intOf]; omega
                · have d1 : decide ((a : Int) < (d : Int) + 1) = false := by simp; omega
                  have d2 : decide (a < d + 1) = false := by simp; omega
                  have HAD := Lib.hid had
                  clear had
                  go_wp2_with fail
                  go_quiet ((go_at_call 59; exact Calls.quiet_of_same (hbel _)))
                  clear o1 o2 f1 f2 f3
                  go_wp2
                  go_roundw
                  case rel => exact ⟨ch, j + 1, Q2, rfl, by go_num, hltj, HI.out.move rfl, HUp, HP, (fun h => ⟨(HFx.out h).1, fy_skip (HFx.out h).2 (fun hb' => by have := HAD.out; rw [HA.out, HD.out] at this; omega)⟩), HC.out.drewN _⟩
                  case measure => simp [intOf]; omega
            · obtain rfl : j = N := by omega
              go_wp2
              go_roundw
              case rel => exact ⟨ch, i + 1, Q2, rfl, by go_num, hlti, HI, HUp, HP, (fun h => fx_more (HFx.out h).1 (by rw [← HN.out]; exact (HFx.out h).2)), HC⟩
              case measure => simp [intOf]; omega
        · obtain rfl : i = N := by omega
          go_wp2
          go_roundg (pot ls ss Q)
          case measure => have h1 := HPot.out; simp only [cnt, if_true] at h1; omega
          case rel => exact ⟨ch, Q1, rfl, HP.out, HI, HUp, (fun h => by rw [← HN.out]; exact HFx.out h), HC⟩
    | false =>
      have HFin : Hid (∀ p, p < N → Q p = hg ls (ss.getD p 0)) := fun p hp => fix_hg HUp.out (HFx.out rfl) hall.out (ss.getD p 0) p (by have := HN.out; omega) (Nat.le_refl _)
      have HFW : Hid (Chg (fun _ => False) w wo) := by
        have a1 : Chg (fun q => g ≤ q) w w1 := HC1.out.mono (fun _ _ h => h.elim)
        have a3 : Chg (fun q => g ≤ q) w1 w2 := C2.out.mono (fun _ _ h => h.elim)
        have a4 : Chg (fun q => g ≤ q) w2 wo := HC.out.mono (fun _ _ h => by omega)
        exact ((a1.trans a3 (fun _ _ h => h)).trans a4 (fun _ _ h => h)).mono (fun j hj e => by have := HGl.out; omega)
      obtain ⟨g2, hg2⟩ : ∃ g2, g2 = wo.heap.size := ⟨_, rfl⟩
      have HG2 := Lib.hid hg2
      obtain ⟨w6, hw6⟩ : ∃ w6, w6 = wo.alloc (.cells (madeCells #[.int .i64 0] kk) 3) := ⟨_, rfl⟩
      have HW6 := Lib.hid hw6
      have HI6 : Hid (IB w6 g2 kk (fun _ => 0)) := by show IB _ _ _ _; rw [hw6, hg2]; exact IB.made _ _
      have C6 : Hid (Chg (fun _ => False) wo w6) := by show Chg _ _ _; rw [hw6]; exact (Chg.refl _ _).alloc _
      have HGg : Hid (g < g2) := by show _ < _; rw [hg2]; exact HI.out.lt
      have HE : Hid (∀ W, Chg (fun q => q = g2) w6 W → (∀ p, p < N → W.cell? ⟨g, p, none⟩ = some (.int .i64 ((Q p : Nat) : Int))) ∧ (∀ x, W.cell? ⟨w.heap.size, x, none⟩ = w1.cell? ⟨w.heap.size, x, none⟩) ∧ Chg (fun _ => False) w W) := fun W hW => by
        have e1 : ∀ j, j < g2 → W.heap[j]? = wo.heap[j]? := fun j hj => (hW.block j (by have := C6.out.size; have := HG2.out; omega) (by omega)).trans (C6.out.block j (by have := HG2.out; omega) (fun h => h))
        refine ⟨fun p hp => (World.cell?_of_block (e1 g HGg.out)).trans (HI.out.cell hp), fun x => (World.cell?_of_block (e1 w.heap.size (by have := HGl.out; have := HGg.out; omega))).trans ((HQ.out wo HC.out).2 x), ?_⟩
        have a1 : Chg (fun q => g ≤ q) w wo := HFW.out.mono (fun _ _ h => h.elim)
        have a3 : Chg (fun q => g ≤ q) wo w6 := C6.out.mono (fun _ _ h => h.elim)
        have a4 : Chg (fun q => g ≤ q) w6 W := hW.mono (fun _ _ h => by have := HGg.out; omega)
        exact ((a1.trans a3 (fun _ _ h => h)).trans a4 (fun _ _ h => h)).mono (fun j hj e => by have := HGl.out; omega)
      clear hw6 hg2 HI HUp HFx HC hγ
      go_wp2
      go_loopw [10] (fun v wr => ∃ (i : Nat) (F : Nat → Nat), i ≤ kk ∧ v = .int .i64 i ∧ Hid (IB wr g2 kk F) ∧ Hid (∀ q, q < i → F q = hg ls (ls.getD q 0)) ∧ Hid (Chg (fun q => q = g2) w6 wr)) (fun v _ => kk - (intOf v).toNat)
      case atStart => exact ⟨0, _, Nat.zero_le _, rfl, by rw [← HW6.out]; exact HI6, (fun q hq => absurd hq (by omega)), by rw [← HW6.out]; exact Chg.refl _ _⟩
      case round =>
        clear HI6
        obtain ⟨wi, rfl⟩ : ∃ wi : World, wi = wr := ⟨_, rfl⟩
        obtain ⟨i, F, hi, rfl, HI, HF, HC⟩ := hrel
        by_cases hlt : i < kk
        · have i1 : (i : Int) < (kk : Int) := by omega
          obtain ⟨p, p1, p2, p3⟩ := HAt.out i hlt
          obtain ⟨q1, q2, q3⟩ := HE.out wi HC.out
          have o1 := (q2 i).trans p1
          have o2 := q1 p p2
          have o3 := HI.out.cell hlt
          have o4 := HI.out.free i
          rw [HG2.out] at o3 o4
          rw [HG.out] at o2
          have j1 : (p : Int) < (N : Int) := by omega
          have HP3 : Hid (Q p = hg ls (ls.getD i 0)) := by show _ = _; rw [HFin.out p p2, p3]
          clear p1 p3 q1 q2 q3
          go_wp2
          go_roundw
          case rel =>
            refine ⟨i + 1, fun t => if t = i then Q p else F t, hlt, by go_num, ?_, fun q hq => ?_, ?_⟩
            · rw [← HG2.out]; exact HI.out.set hlt (Q p)
            · show (if q = i then Q p else F q) = _
              by_cases e : q = i
              · subst e; rw [if_pos rfl]; exact HP3.out
              · rw [if_neg e]; exact HF.out q (by omega)
            · rw [← HG2.out]; exact HC.out.set (.inr rfl)
          case measure => simp [intOf]; omega
        · obtain rfl : i = kk := by omega
          go_wp2
          go_ret
          exact ⟨g2, F, by rw [HG2.out]; rfl, by have := HGl.out; have := HGg.out; omega, HI.out, HF.out, (HE.out wi HC.out).2.2⟩
end Go.Proofs.Ytdfplhoijapoeaa.Lhk
namespace Go.Proofs.Ytdfplhoijapoeaa.Lrd
open Go.RowKit Go.Proofs.Ytdfplhoijapoeaa.Lib1 Go.Proofs.Ytdfplhoijapoeaa.Rel Go.Proofs.Ytdfplhoijapoeaa.Own Go.Proofs.Ytdfplhoijapoeaa.Lat Go.Proofs.Ytdfplhoijapoeaa.Lbl Go.Proofs.Ytdfplhoijapoeaa.Lbw Go.Proofs.Ytdfplhoijapoeaa.Lck Go.Proofs.Ytdfplhoijapoeaa.Lkd Go.Proofs.Ytdfplhoijapoeaa.Ldn
set_option maxRecDepth 100000 in
set_option maxHeartbeats 1600000 in
theorem rdown_any (ls : List Nat) (l : Nat) (A : Option Addr) (n c : Nat) (w : World) (ok : Nat → Prop) (h : Rd ok w A n c 1 (us ls)) (hok : ∀ k, ok k → k < w.heap.size) (hb : ∀ x ∈ ls, x < 18446744073709551616) (hl : l < 18446744073709551616) (hn : n * 8 ≤ 140737488351232) :
    Calls Try.prog 44 #[.slice A n c, .int .u64 (l : Int)] w fun e w' => ∃ v, e = .returned v ∧ OwnL (Kd.int .i64) 3 w.heap.size w' v (Ldn.downs ls l n) ∧ Chg (fun _ => False) w w' := by
  have HM : Hid (∀ w', Chg (fun _ => False) w w' → Rd ok w' A n c 1 (us ls)) := fun w' hc => h.move (fun k hk => hc.block k (hok k hk) (fun h => h))
  have HB := Lib.hid (lt_mem hb)
  clear h hok hb
  go_enter Try.func44, Try.ntmps44
  go_wp2
  go_loopw [5, 6] (fun v i wr => Ldn.DnRel w ls l n v i wr) (fun _ i _ => n - (intOf i).toNat)
  case atStart => exact ⟨0, Nat.zero_le _, rfl, OwnL.nil _ _ _ _, Chg.refl _ _⟩
  case round =>
    obtain ⟨k, hk, rfl, ho, hcw⟩ := hrel
    have HO := Lib.hid ho
    have HW := Lib.hid hcw
    have hdl := Ldn.downs_len ls l k
    obtain ⟨Av, cv, ev⟩ := ho.form
    have hsz := hcw.size
    subst ev
    clear ho hcw
    by_cases hlt : k < n
    · obtain ⟨g, off, rfl, _, hcell⟩ := rd_us (HM.out _ HW.out) (by omega)
      have q0 := hcell k hlt
      have hxb := HB.out k
      have HYes := Lib.hid (Ldn.downs_yes (ls := ls) (l := l) (k := k))
      have HNo := Lib.hid (Ldn.downs_no (ls := ls) (l := l) (k := k))
      generalize ls.getD k 0 = x at q0 hxb HYes HNo
      clear hcell
      have i1 : (k : Int) < (n : Int) := by omega
      go_wp2_with fail
      refine (rleq_any x l _ hxb hl).mono ?_
      rintro e w2 ⟨rfl, rfl⟩
      cases hq : leq x l with
      | true =>
        have HQ := Lib.hid (HYes.out hq)
        clear hq
        go_wp2_with (at_builtin; refine ap_push rfl (.tmp 19) (.tmp 21) 30 rfl (Kd.int .i64) w.heap.size 3 8 (.int .i64 0) Try.underlying30 info_int rfl (by decide) (by decide) (.slice Av (Ldn.downs ls l k).length cv) (Ldn.downs ls l k) rfl HO.out (k : Int) _ rfl rfl ?bL ?bB ?_; (case bL => omega); (case bB => omega); intro v3 w3 o3 g3; obtain ⟨A3, c3, e3⟩ := o3.form; subst e3)
        go_roundw
        case rel => exact ⟨k + 1, hlt, by go_num, by rw [HQ.out]; have o4 := o3; simp only [List.length_append, List.length_singleton] at o4; exact o4, HW.out.trans g3 (fun j hj he => by have := (HO.out.low j he).1; omega)⟩
        case measure => simp [intOf]; omega
      | false =>
        have HQ := Lib.hid (HNo.out hq)
        clear hq
        go_wp2
        go_roundw
        case rel => exact ⟨k + 1, hlt, by go_num, by rw [HQ.out]; exact HO.out, HW.out⟩
        case measure => simp [intOf]; omega
    · have hkk : k = n := by omega
      have ho := HO.out
      rw [hkk] at ho
      subst hkk
      go_wp2
      go_ret
      exact ⟨_, rfl, ho, HW.out⟩
set_option maxRecDepth 100000 in
set_option maxHeartbeats 1600000 in
theorem rup_any (ls : List Nat) (l : Nat) (A : Option Addr) (n c : Nat) (w : World) (ok : Nat → Prop) (h : Rd ok w A n c 1 (us ls)) (hok : ∀ k, ok k → k < w.heap.size) (hb : ∀ x ∈ ls, x < 18446744073709551616) (hl : l < 18446744073709551616) (hn : n * 8 ≤ 140737488351232) :
    Calls Try.prog 46 #[.slice A n c, .int .u64 (l : Int)] w fun e w' => ∃ v, e = .returned v ∧ OwnL (Kd.int .i64) 3 w.heap.size w' v (Lup.downs ls l n) ∧ Chg (fun _ => False) w w' := by
  have HM : Hid (∀ w', Chg (fun _ => False) w w' → Rd ok w' A n c 1 (us ls)) := fun w' hc => h.move (fun k hk => hc.block k (hok k hk) (fun h => h))
  have HB := Lib.hid (lt_mem hb)
  clear h hok hb
  go_enter Try.func46, Try.ntmps46
  go_wp2
  go_loopw [5, 6] (fun v i wr => Lup.DnRel w ls l n v i wr) (fun _ i _ => n - (intOf i).toNat)
  case atStart => exact ⟨0, Nat.zero_le _, rfl, OwnL.nil _ _ _ _, Chg.refl _ _⟩
  case round =>
    obtain ⟨k, hk, rfl, ho, hcw⟩ := hrel
    have HO := Lib.hid ho
    have HW := Lib.hid hcw
    have hdl := Lup.downs_len ls l k
    obtain ⟨Av, cv, ev⟩ := ho.form
    have hsz := hcw.size
    subst ev
    clear ho hcw
    by_cases hlt : k < n
    · obtain ⟨g, off, rfl, _, hcell⟩ := rd_us (HM.out _ HW.out) (by omega)
      have q0 := hcell k hlt
      have hxb := HB.out k
      have HYes := Lib.hid (Lup.downs_yes (ls := ls) (l := l) (k := k))
      have HNo := Lib.hid (Lup.downs_no (ls := ls) (l := l) (k := k))
      generalize ls.getD k 0 = x at q0 hxb HYes HNo
      clear hcell
      have i1 : (k : Int) < (n : Int) := by omega
      go_wp2_with fail
      refine (rleq_any l x _ hl hxb).mono ?_
      rintro e w2 ⟨rfl, rfl⟩
      cases hq : leq l x with
      | true =>
        have HQ := Lib.hid (HYes.out hq)
        clear hq
        go_wp2_with (at_builtin; refine ap_push rfl (.tmp 19) (.tmp 21) 30 rfl (Kd.int .i64) w.heap.size 3 8 (.int .i64 0) Try.underlying30 info_int rfl (by decide) (by decide) (.slice Av (Lup.downs ls l k).length cv) (Lup.downs ls l k) rfl HO.out (k : Int) _ rfl rfl ?bL ?bB ?_; (case bL => omega); (case bB => omega); intro v3 w3 o3 g3; obtain ⟨A3, c3, e3⟩ := o3.form; subst e3)
        go_roundw
        case rel => exact ⟨k + 1, hlt, by go_num, by rw [HQ.out]; have o4 := o3; simp only [List.length_append, List.length_singleton] at o4; exact o4, HW.out.trans g3 (fun j hj he => by have := (HO.out.low j he).1; omega)⟩
        case measure => simp [intOf]; omega
      | false =>
        have HQ := Lib.hid (HNo.out hq)
        clear hq
        go_wp2
        go_roundw
        case rel => exact ⟨k + 1, hlt, by go_num, by rw [HQ.out]; exact HO.out, HW.out⟩
        case measure => simp [intOf]; omega
    · have hkk : k = n := by omega
      have ho := HO.out
      rw [hkk] at ho
      subst hkk
      go_wp2
      go_ret
      exact ⟨_, rfl, ho, HW.out⟩
end Go.Proofs.Ytdfplhoijapoeaa.Lrd
namespace Go.Proofs.Ytdfplhoijapoeaa.Lka
open Go.RowKit Go.Proofs.Ytdfplhoijapoeaa.Lib1 Go.Proofs.Ytdfplhoijapoeaa.Lat Go.Proofs.Ytdfplhoijapoeaa.Lbl Go.Proofs.Ytdfplhoijapoeaa.Lbw Go.Proofs.Ytdfplhoijapoeaa.Lck Go.Proofs.Ytdfplhoijapoeaa.Lmay Go.Proofs.Ytdfplhoijapoeaa.Lru

theorem own_cell {w : World} {base : Nat} {e : TypeId} {sz n g c : Nat} {xs : List Value} (h : w.ownsRow base e sz (.slice (some ⟨g, 0, none⟩) n c) n xs) {i : Nat} (hi : i < n * sz) :
    (∃ u, w.cell? ⟨g, i, none⟩ = some u) ∧ w.frozen? ⟨g, i, none⟩ = false ∧ base ≤ g ∧ n ≤ c ∧ g < w.heap.size := by
  rcases h.2 with ⟨hv, _⟩ | ⟨g', cap, cur, hv, hb, hg, hn, hcm, hs, ht⟩
  · cases hv
  · simp only [Value.slice.injEq, Option.some.injEq, Addr.mk.injEq, true_and, and_true] at hv
    obtain ⟨rfl, rfl⟩ := hv
    have hi2 : i < cur.size := by rw [hs]; exact Nat.lt_of_lt_of_le hi (Nat.mul_le_mul_right sz hn)
    exact ⟨⟨_, cell_at hg i (Array.getElem?_eq_getElem hi2)⟩, free_at hg i, hb, hn, lt_of _ hg⟩
theorem own_set {w : World} {base : Nat} {e : TypeId} {sz n g c : Nat} {xs : List Value} (h : w.ownsRow base e sz (.slice (some ⟨g, 0, none⟩) n c) n xs) (i : Nat) (u : Value) :
    (w.setCell ⟨g, i, none⟩ u).ownsRow base e sz (.slice (some ⟨g, 0, none⟩) n c) n (xs.set i u) := by
  refine ⟨by rw [List.length_set]; exact h.1, ?_⟩
  rcases h.2 with ⟨hv, _⟩ | ⟨g', cap, cur, hv, hb, hg, hn, hcm, hs, ht⟩
  · cases hv
  · simp only [Value.slice.injEq, Option.some.injEq, Addr.mk.injEq, true_and, and_true] at hv
    obtain ⟨rfl, rfl⟩ := hv
    refine .inr ⟨g, c, cur.setIfInBounds i u, rfl, hb, heap_set hg i u, hn, hcm, by simpa using hs, ?_⟩
    rw [← ht, Array.toList_setIfInBounds, List.take_set]
theorem own_some {w : World} {base : Nat} {e : TypeId} {sz n c : Nat} {A : Option Addr} {xs : List Value} (h : w.ownsRow base e sz (.slice A n c) n xs) (hn : 0 < n) : ∃ g, A = some ⟨g, 0, none⟩ := by
  rcases h.2 with ⟨hv, hz⟩ | ⟨g', cap, cur, hv, _⟩
  · omega
  · simp only [Value.slice.injEq] at hv
    exact ⟨g', hv.1⟩

set_option maxRecDepth 100000 in
set_option maxHeartbeats 3200000 in
theorem spoil_any {w : World} {base N c m : Nat} {A : Option Addr} {xs : List Value} (ho : w.ownsRow base 3 1 (.slice A N c) N xs) (hN : N * 8 ≤ 140737488351232) (hm : m ≤ 1000000) (hm0 : 1000 ≤ m) (hbase : base ≤ w.heap.size) :
    Calls Try.prog 50 #[.slice A N c, .int .i64 (m : Int)] w fun e w' => e = .returned (.tuple #[]) ∧ Chg (fun q => Value.ownBlock (.slice A N c) = some q) w w' := by
  have HO0 := Lib.hid ho
  obtain ⟨S, hS⟩ : ∃ S : Nat → Prop, S = (fun q => Value.ownBlock (.slice A N c) = some q) := ⟨_, rfl⟩
  have HS : Hid (∀ q, Value.ownBlock (.slice A N c) = some q → S q) := fun q hq => by rw [hS]; exact hq
  rw [← hS]
  clear ho hS
  go_enter Try.func50, Try.ntmps50
  go_wp2
  go_loopw [4] (fun i wr => ∃ (k : Nat) (xs : List Value), k ≤ N ∧ i = .int .i64 k ∧ Hid (wr.ownsRow base 3 1 (.slice A N c) N xs) ∧ Hid (Chg S w wr)) (fun i _ => N - (intOf i).toNat)
  case atStart => exact ⟨0, xs, by omega, rfl, HO0, Chg.refl _ _⟩
  case round =>
    clear HO0
    obtain ⟨wa, rfl⟩ : ∃ wa : World, wa = wr := ⟨_, rfl⟩
    obtain ⟨k, xs1, hk, rfl, HO, HC⟩ := hrel
    by_cases hlt : k < N
    · obtain ⟨g, rfl⟩ := own_some HO.out (by omega)
      obtain ⟨⟨u, o1⟩, o2, o3, o4, o5⟩ := own_cell HO.out (i := k) (by omega)
      have i1 : (k : Int) < (N : Int) := by omega
      go_wp2
      go_roundw
      case rel => exact ⟨k + 1, _, by omega, by go_num, own_set HO.out k _, HC.out.set (.inr (HS.out g rfl))⟩
      case measure => simp [intOf]; omega
    · have HBA : Hid (∀ j, Value.ownBlock (.slice A N c) = some j → S j ∨ w.heap.size ≤ j) := fun j hj => .inl (HS.out j hj)
      go_wp2
      go_loopw [0, 5] (fun v i wr => ∃ (k : Nat) (xs : List Value), k ≤ 70 ∧ i = .int .i64 k ∧ Hid (wr.ownsRow base 3 1 v (N + k) xs) ∧ Hid (∀ j, v.ownBlock = some j → S j ∨ w.heap.size ≤ j) ∧ Hid (Chg S w wr)) (fun _ i _ => 70 - (intOf i).toNat)
      case atStart => exact ⟨0, _, by omega, rfl, HO, HBA, HC⟩
      case round =>
        clear HO HC HBA
        obtain ⟨k2, xs2, hk2, rfl, HO, HBL, HC⟩ := hrel
        obtain ⟨wb, rfl⟩ : ∃ wb : World, wb = wr := ⟨_, rfl⟩
        obtain ⟨A9, c9, rfl, -⟩ := Rd.of_own HO.out
        have hsb : base ≤ wb.heap.size := by have := HC.out.size; omega
        by_cases hlt2 : k2 < 70
        · obtain ⟨i0, hi0, hz0, hz1, hz2⟩ := info_parts info_int
          go_wp2_with (at_builtin; refine ap_one rfl (.tmp 22) (.tmp 27) 30 rfl base 3 1 8 (.int .i64 0) Try.underlying30 info_int rfl (by decide) (by decide) (.slice A9 (N + k2) c9) (N + k2) _ rfl HO.out #[.int .i64 ((m : Int) - 1 - (k2 : Int))] rfl rfl (by simp [Value.oneCell']) (by omega) hsb ?_; intro v1 w1' o1' g1 r1)
          go_roundw
          case rel => exact ⟨k2 + 1, _, by omega, by go_num, o1', (fun j hj => by
            rcases r1 with r1 | ⟨b, r1, hb⟩
            · rw [r1] at hj; exact HBL.out j hj
            · rw [r1] at hj; have := Option.some.inj hj; have := HC.out.size; exact .inr (by omega)), HC.out.of_grown g1 (fun j hj => (HBL.out j hj).elim .inr .inl)⟩
          case measure => simp [intOf]; omega
        · go_wp2
          go_end0
          exact ⟨rfl, HC.out⟩
end Go.Proofs.Ytdfplhoijapoeaa.Lka
namespace Go.Proofs.Ytdfplhoijapoeaa.Lwr
open Go.RowKit Go.Proofs.Ytdfplhoijapoeaa.Lib1 Go.Proofs.Ytdfplhoijapoeaa.Lat Go.Proofs.Ytdfplhoijapoeaa.Lbl Go.Proofs.Ytdfplhoijapoeaa.Lbw Go.Proofs.Ytdfplhoijapoeaa.Lck Go.Proofs.Ytdfplhoijapoeaa.Lkc
theorem us_one (ls : List Nat) : ∀ u ∈ us ls, u.oneCell' = true := fun u hu => by
  unfold us at hu
  obtain ⟨x, _, rfl⟩ := List.mem_map.1 hu
  rfl
def room (ls : List Nat) (k : Nat) : List Nat := ls ++ (List.range k).map (9000 + ·)
theorem room_succ (ls : List Nat) (k : Nat) : room ls (k + 1) = room ls k ++ [9000 + k] := by simp [room, List.range_succ]
theorem room_len (ls : List Nat) (k : Nat) : (room ls k).length = ls.length + k := by simp [room]
set_option maxRecDepth 100000 in
set_option maxHeartbeats 1600000 in
theorem room_any (ls : List Nat) (A : Option Addr) (n c : Nat) (w : World) (ok : Nat → Prop) (h : Rd ok w A n c 1 (us ls)) (hok : ∀ k, ok k → k < w.heap.size) (hn : n * 8 ≤ 140737488351232) :
    Calls Try.prog 39 #[.slice A n c] w fun e w' => ∃ v, e = .returned v ∧ w'.ownsRow w.heap.size 23 1 v (n + 70) (us (room ls 70)) ∧ Chg (fun _ => False) w w' := by
  have HL : Hid (ls.length = n) := by have := h.len; rw [us_len] at this; show _ = _; omega
  have HR := Lib.hid h.any
  have HO := Lib.hid (us_one ls)
  clear h hok
  go_enter Try.func39, Try.ntmps39
  go_wp2_with (at_builtin; refine ap_src rfl (Operand.const (.slice none 0 0)) (.tmp 5) 28 rfl w.heap.size 23 1 8 (.int .u64 0) Try.underlying28 infoL rfl (by decide) (by decide) (.slice none 0 0) 0 [] rfl (World.ownsRow_nil _ _ _ _) A n c (us ls) rfl HR.out HO.out (by omega) (Nat.le_refl _) ?_; intro v1 w1 o1 g1 r1)
  have HO1 : Hid (w1.ownsRow w.heap.size 23 1 v1 (n + 0) (us (room ls 0))) := by show World.ownsRow _ _ _ _ _ _ _; simpa [room] using o1
  have HC1 : Hid (Chg (fun _ => False) w w1) := (Chg.refl _ w).of_grown g1 (fun k hk => by simp [Value.ownBlock] at hk)
  clear o1 g1 r1
  go_wp2
  go_loopw [3, 4] (fun v i wr => ∃ k : Nat, k ≤ 70 ∧ i = .int .i64 k ∧ wr.ownsRow w.heap.size 23 1 v (n + k) (us (room ls k)) ∧ Chg (fun _ => False) w wr) (fun _ i _ => 70 - (intOf i).toNat)
  case atStart => exact ⟨0, by omega, rfl, HO1.out, HC1.out⟩
  case round =>
    obtain ⟨k, hk, rfl, ho, hc⟩ := hrel
    obtain ⟨A1, c1, rfl, -⟩ := Rd.of_own ho
    have HO2 := Lib.hid ho
    have HC2 := Lib.hid hc
    have hsz := hc.size
    clear ho hc HO1 HC1
    by_cases hlt : k < 70
    · have i1 : IntKind.i64.wrap (9000 + (k : Int)) = 9000 + (k : Int) := by rw [IntKind.wrap_i64]; omega
      have i2 : IntKind.u64.wrap (9000 + (k : Int)) = ((9000 + k : Nat) : Int) := by simp [IntKind.wrap, IntKind.bits, IntKind.signed]; omega
      have i3 : (k : Int) < 70 := by omega
      go_wp2_with (at_builtin; refine ap_one rfl (.tmp 11) (.tmp 15) 28 rfl w.heap.size 23 1 8 (.int .u64 0) Try.underlying28 infoL rfl (by decide) (by decide) (.slice A1 (n + k) c1) (n + k) _ rfl HO2.out #[.int .u64 ((9000 + k : Nat) : Int)] rfl rfl (by simp [Value.oneCell']) (by omega) hsz ?_; intro v2 w2 o2 g2 r2)
      go_roundw
      case rel => exact ⟨k + 1, by omega, by go_num, by rw [room_succ]; simpa [us, Nat.add_assoc] using o2, HC2.out.of_grown g2 (fun j hj => .inl (HO2.out.lt j hj).1)⟩
      case measure => simp [intOf]; omega
    · have : k = 70 := by omega
      subst this
      go_wp2
      go_ret
      exact ⟨_, rfl, HO2.out, HC2.out⟩
end Go.Proofs.Ytdfplhoijapoeaa.Lwr
namespace Go.Proofs.Ytdfplhoijapoeaa.Lke
open Go.RowKit Go.Proofs.Ytdfplhoijapoeaa.Lib1 Go.Proofs.Ytdfplhoijapoeaa.Lat Go.Proofs.Ytdfplhoijapoeaa.Lbl Go.Proofs.Ytdfplhoijapoeaa.Lbw Go.Proofs.Ytdfplhoijapoeaa.Lck Go.Proofs.Ytdfplhoijapoeaa.Lwr

theorem room_get1 (ls : List Nat) (m k : Nat) (h : k < ls.length) : (room ls m).getD k 0 = ls.getD k 0 := by
  unfold room
  rw [List.getD_eq_getElem?_getD, List.getElem?_append_left h, ← List.getD_eq_getElem?_getD]
theorem room_get2 (ls : List Nat) (m k : Nat) (h : ls.length ≤ k) (h2 : k < ls.length + m) : (room ls m).getD k 0 = 9000 + (k - ls.length) := by
  unfold room
  rw [List.getD_eq_getElem?_getD, List.getElem?_append_right h, List.getElem?_map, List.getElem?_range (by omega)]
  rfl
set_option maxRecDepth 100000 in
set_option maxHeartbeats 1600000 in
theorem kept_any (ls : List Nat) (A B : Option Addr) (N n c d : Nat) (hN : N = n + 70) (w : World) (ok ok' : Nat → Prop) (ha : Rd ok w A N c 1 (us (room ls 70))) (hb : Rd ok' w B n d 1 (us ls)) (hn : n ≤ 4611686018427387904) :
    Calls Try.prog 40 #[.slice A N c, .slice B n d] w fun e w' => e = .returned (.bool true) ∧ ∃ q, w' = w.drewN q := by
  have HB : Hid (ls.length = n) := by have := hb.len; rw [us_len] at this; show _ = _; omega
  have HRA := Lib.hid (rd_us ha (by omega))
  have HRB := Lib.hid (fun hp => rd_us hb hp)
  have HN := Lib.hid hN
  have hNle : N ≤ n + 70 := by omega
  have hNge : n + 70 ≤ N := by omega
  clear ha hb hN
  go_enter Try.func40, Try.ntmps40
  go_wp2
  go_loopw [5] (fun i wr => ∃ (k q : Nat), k ≤ N ∧ i = .int .i64 k ∧ wr = w.drewN q) (fun i _ => N - (intOf i).toNat)
  case atStart => exact ⟨0, 0, by omega, rfl, rfl⟩
  case round =>
    obtain ⟨k, q, hk, rfl, rfl⟩ := hrel
    by_cases hlt : k < N
    · obtain ⟨b1, off1, rfl, _, hc1⟩ := HRA.out
      have k1 := hc1 k hlt
      clear hc1
      have i5 : decide ((k : Int) < (N : Int)) = true := decide_eq_true (by omega)
      by_cases hin : k < n
      · obtain ⟨b2, off2, rfl, _, hc2⟩ := HRB.out (by omega)
        have k2 := hc2 k hin
        clear hc2
        rw [room_get1 ls 70 k (by have := HB.out; omega)] at k1
        obtain ⟨x, hx⟩ : ∃ x, x = ls.getD k 0 := ⟨_, rfl⟩
        rw [← hx] at k1 k2
        clear hx
        have i6 : (k : Int) < (n : Int) := by omega
        have i7 : decide ((n : Int) ≤ (k : Int)) = false := decide_eq_false (by omega)
        have i8 : decide (n ≤ k) = false := decide_eq_false (by omega)
        have hne : ((x : Int) != (x : Int)) = false := by simp
        go_wp2_with fail
        go_quiet (fail)
        go_wp2
        go_roundw
        case rel => exact ⟨k + 1, _, hlt, by go_num, rfl⟩
        case measure => simp [intOf]; omega
      · rw [room_get2 ls 70 k (by have := HB.out; omega) (by have := HB.out; omega), HB.out] at k1
        obtain ⟨x, hx⟩ : ∃ x : Nat, x = 9000 + (k - n) := ⟨_, rfl⟩
        rw [← hx] at k1
        have i6 : decide ((k : Int) < (n : Int)) = false := decide_eq_false (by omega)
        have i7 : (n : Int) ≤ (k : Int) := by omega
        have i8 : decide (k < n) = false := decide_eq_false (by omega)
        have i9 : decide (n ≤ k) = true := decide_eq_true (by omega)
        have e1 : IntKind.i64.wrap (9000 + (k : Int)) = 9000 + (k : Int) := by rw [IntKind.wrap_i64]; omega
        have e2 : IntKind.i64.wrap (9000 + (k : Int) - (n : Int)) = (x : Int) := by rw [IntKind.wrap_i64]; omega
        have e4 : 9000 + (k : Int) - (n : Int) = (x : Int) := by omega
        have e3 : IntKind.u64.wrap (x : Int) = (x : Int) := by rw [IntKind.wrap_u64]; omega
        have hne : ((x : Int) != (x : Int)) = false := by simp
        clear hx
        go_wp2_with fail
        go_quiet (fail)
        go_wp2
        go_roundw
        case rel => exact ⟨k + 1, _, hlt, by go_num, rfl⟩
        case measure => simp [intOf]; omega
    · have i5 : decide ((k : Int) < (N : Int)) = false := decide_eq_false (by omega)
      go_wp2
      go_ret
      exact ⟨rfl, q, rfl⟩
end Go.Proofs.Ytdfplhoijapoeaa.Lke
namespace Go.Proofs.Ytdfplhoijapoeaa.Lkb
open Go.RowKit Go.Proofs.Ytdfplhoijapoeaa.Lib1 Go.Proofs.Ytdfplhoijapoeaa.Rel Go.Proofs.Ytdfplhoijapoeaa.Own Go.Proofs.Ytdfplhoijapoeaa.Lat Go.Proofs.Ytdfplhoijapoeaa.Lbl Go.Proofs.Ytdfplhoijapoeaa.Lbw Go.Proofs.Ytdfplhoijapoeaa.Lck Go.Proofs.Ytdfplhoijapoeaa.Lmay Go.Proofs.Ytdfplhoijapoeaa.Lcb Go.Proofs.Ytdfplhoijapoeaa.Lkd Go.Proofs.Ytdfplhoijapoeaa.Lhg Go.Proofs.Ytdfplhoijapoeaa.Lhh Go.Proofs.Ytdfplhoijapoeaa.Lhi Go.Proofs.Ytdfplhoijapoeaa.Lhk Go.Proofs.Ytdfplhoijapoeaa.Lrd

def hgs (ls : List Nat) : List Int := ls.map fun x => ((hg ls x : Nat) : Int)
theorem hgs_len (ls : List Nat) : (hgs ls).length = ls.length := by simp [hgs]
theorem own_of_ib {w : World} {base g n : Nat} {F : Nat → Nat} {ls : List Nat} (hb : base ≤ g) (h : IB w g n F) (hF : ∀ t, t < n → F t = hg ls (ls.getD t 0)) (hl : ls.length = n) (hn : n ≤ 17592186044416) : w.ownsRow base 3 1 (.slice (some ⟨g, 0, none⟩) n n) n (is (hgs ls)) := by
  obtain ⟨arr, h1, h2, h3⟩ := h
  refine ⟨by rw [is_len, hgs_len, hl, Nat.mul_one], .inr ⟨g, n, arr, rfl, hb, h1, Nat.le_refl _, by unfold maxLen; omega, by omega, ?_⟩⟩
  rw [Nat.mul_one, List.take_of_length_le (by rw [Array.length_toList]; omega)]
  refine List.ext_getElem? (fun j => ?_)
  rcases Nat.lt_or_ge j n with c | c
  · rw [Array.getElem?_toList, h3 j c, hF j c, is_get (by rw [hgs_len]; omega)]
    congr 2
    simp only [hgs, List.getD_eq_getElem?_getD, List.getElem?_map, List.getElem?_eq_getElem (show j < ls.length by omega), Option.map_some, Option.getD_some]
  · rw [List.getElem?_eq_none (by rw [Array.length_toList]; omega), List.getElem?_eq_none (by rw [is_len, hgs_len]; omega)]
theorem own_row {base : Nat} {w : World} {v : Value} {l : List Int} {e : TypeId} (h : OwnL (Kd.int .i64) e base w v l) : w.ownsRow base e 1 v l.length (is l) := by
  obtain ⟨cells, ho, hr⟩ := h
  have e1 := flat_cells (d := Kd.int .i64) (fun x => [.int .i64 x]) (fun _ _ _ _ h => h) (by decide) l cells _ w ho.1 hr
  rw [flatMap_one] at e1
  rw [e1] at ho
  exact ho
/-- What is answered. -/
def ans (ls : List Nat) (l n t : Nat) : List Int := if t = 0 then Ldn.downs ls l n else if t = 1 then Lup.downs ls l n else hgs ls
theorem downs_len (ls : List Nat) (l k : Nat) : (Ldn.downs ls l k).length ≤ k := by
  unfold Ldn.downs; rw [List.length_map]; exact Nat.le_trans (List.length_filter_le _ _) (by simp)
theorem ups_len (ls : List Nat) (l k : Nat) : (Lup.downs ls l k).length ≤ k := by
  unfold Lup.downs; rw [List.length_map]; exact Nat.le_trans (List.length_filter_le _ _) (by simp)
theorem ans_len {ls : List Nat} {l n t : Nat} (hl : ls.length = n) : (ans ls l n t).length ≤ n := by
  unfold ans
  split
  · exact downs_len _ _ _
  · split
    · exact ups_len _ _ _
    · rw [hgs_len, hl]; exact Nat.le_refl _
/-- An answer as a row of its own. -/
def Out (w : World) (L : List Int) (e : Ending) (w' : World) : Prop := ∃ B d, e = .returned (.slice B L.length d) ∧ w'.ownsRow w.heap.size 3 1 (.slice B L.length d) L.length (is L) ∧ Chg (fun _ => False) w w'
theorem out_of {w : World} {L : List Int} {e : Ending} {w' : World} (h : ∃ v, e = .returned v ∧ OwnL (Kd.int .i64) 3 w.heap.size w' v L ∧ Chg (fun _ => False) w w') : Out w L e w' := by
  obtain ⟨v, rfl, ho, hc⟩ := h
  obtain ⟨B, d, rfl⟩ := ho.form
  exact ⟨B, d, rfl, own_row ho, hc⟩
theorem out_ib {w : World} {ls : List Nat} {n : Nat} {e : Ending} {w' : World} (hl : ls.length = n) (hn : n ≤ 17592186044416) (h : ∃ g F, e = .returned (.slice (some ⟨g, 0, none⟩) n n) ∧ w.heap.size ≤ g ∧ IB w' g n F ∧ (∀ t, t < n → F t = hg ls (ls.getD t 0)) ∧ Chg (fun _ => False) w w') : Out w (hgs ls) e w' := by
  obtain ⟨g, F, rfl, hg, hi, hF, hc⟩ := h
  have ho := own_of_ib hg hi hF hl hn
  have hl2 : (hgs ls).length = n := by rw [hgs_len, hl]
  refine ⟨some ⟨g, 0, none⟩, n, by rw [hl2], ?_, hc⟩
  rw [hl2]; exact ho

section
variable (ls : List Nat) (l : Nat) (A : Option Addr) (n c : Nat) (w : World) (ok : Nat → Prop)
set_option maxRecDepth 100000 in
theorem ask_any (t : Nat) (h : Rd ok w A n c 1 (us ls)) (hok : ∀ k, ok k → k < w.heap.size) (hb : ∀ x ∈ ls, x < B64) (hl : l < B64) (hn : n * 8 ≤ 140737488351232) (ht : t < 3) :
    Calls Try.prog 49 #[.int .i64 (t : Int), .slice A n c, .int .u64 (l : Int)] w (Out w (ans ls l n t)) := by
  have HL : ls.length = n := by have := h.len; rw [us_len] at this; omega
  have H1 := Lib.hid ((Ldn.down_any ls l A n c w ok h hok hb hl hn).mono (fun e w' h => out_of h))
  have H2 := Lib.hid ((Lup.down_any ls l A n c w ok h hok hb hl hn).mono (fun e w' h => out_of h))
  have H3 := Lib.hid ((heights_any ls A n c w ok h hok hn hb).mono (fun e w' h => out_ib HL (by omega) h))
  clear h hok hb hl
  have hc : t = 0 ∨ t = 1 ∨ t = 2 := by omega
  rcases hc with rfl | rfl | rfl
  · show Calls _ _ _ _ (Out w (Ldn.downs ls l n))
    go_enter Try.func49, Try.ntmps49
    go_wp2_with fail
    refine H1.out.mono ?_
    clear H1 H2 H3
    rintro e w1 ⟨B, d, rfl, ho, hc⟩
    have HO := Lib.hid ho
    have HC := Lib.hid hc
    clear ho hc
    go_wp2
    go_ret
    exact ⟨B, d, rfl, HO.out, HC.out⟩
  · show Calls _ _ _ _ (Out w (Lup.downs ls l n))
    go_enter Try.func49, Try.ntmps49
    go_wp2_with fail
    refine H2.out.mono ?_
    clear H1 H2 H3
    rintro e w1 ⟨B, d, rfl, ho, hc⟩
    have HO := Lib.hid ho
    have HC := Lib.hid hc
    clear ho hc
    go_wp2
    go_ret
    exact ⟨B, d, rfl, HO.out, HC.out⟩
  · show Calls _ _ _ _ (Out w (hgs ls))
    go_enter Try.func49, Try.ntmps49
    go_wp2_with fail
    refine H3.out.mono ?_
    clear H1 H2 H3
    rintro e w1 ⟨B, d, rfl, ho, hc⟩
    have HO := Lib.hid ho
    have HC := Lib.hid hc
    clear ho hc
    go_wp2
    go_ret
    exact ⟨B, d, rfl, HO.out, HC.out⟩
set_option maxRecDepth 100000 in
theorem answer_any (t : Nat) (h : Rd ok w A n c 1 (us ls)) (hok : ∀ k, ok k → k < w.heap.size) (hb : ∀ x ∈ ls, x < B64) (hl : l < B64) (hn : n * 8 ≤ 140737488351232) (ht : t < 3) :
    Calls Try.prog 48 #[.int .i64 (t : Int), .slice A n c, .int .u64 (l : Int)] w (Out w (ans ls l n t)) := by
  have HL : ls.length = n := by have := h.len; rw [us_len] at this; omega
  have H1 := Lib.hid ((rdown_any ls l A n c w ok h hok hb hl hn).mono (fun e w' h => out_of h))
  have H2 := Lib.hid ((rup_any ls l A n c w ok h hok hb hl hn).mono (fun e w' h => out_of h))
  have H3 := Lib.hid ((rheights_any ls A n c w ok h hok hn hb).mono (fun e w' h => out_ib HL (by omega) h))
  clear h hok hb hl
  have hc : t = 0 ∨ t = 1 ∨ t = 2 := by omega
  rcases hc with rfl | rfl | rfl
  · show Calls _ _ _ _ (Out w (Ldn.downs ls l n))
    go_enter Try.func48, Try.ntmps48
    go_wp2_with fail
    refine H1.out.mono ?_
    clear H1 H2 H3
    rintro e w1 ⟨B, d, rfl, ho, hc⟩
    have HO := Lib.hid ho
    have HC := Lib.hid hc
    clear ho hc
    go_wp2
    go_ret
    exact ⟨B, d, rfl, HO.out, HC.out⟩
  · show Calls _ _ _ _ (Out w (Lup.downs ls l n))
    go_enter Try.func48, Try.ntmps48
    go_wp2_with fail
    refine H2.out.mono ?_
    clear H1 H2 H3
    rintro e w1 ⟨B, d, rfl, ho, hc⟩
    have HO := Lib.hid ho
    have HC := Lib.hid hc
    clear ho hc
    go_wp2
    go_ret
    exact ⟨B, d, rfl, HO.out, HC.out⟩
  · show Calls _ _ _ _ (Out w (hgs ls))
    go_enter Try.func48, Try.ntmps48
    go_wp2_with fail
    refine H3.out.mono ?_
    clear H1 H2 H3
    rintro e w1 ⟨B, d, rfl, ho, hc⟩
    have HO := Lib.hid ho
    have HC := Lib.hid hc
    clear ho hc
    go_wp2
    go_ret
    exact ⟨B, d, rfl, HO.out, HC.out⟩
end
end Go.Proofs.Ytdfplhoijapoeaa.Lkb
namespace Go.Proofs.Ytdfplhoijapoeaa.Lsi
open Go.RowKit Go.Proofs.Ytdfplhoijapoeaa.Lib1 Go.Proofs.Ytdfplhoijapoeaa.Lat Go.Proofs.Ytdfplhoijapoeaa.Lbl Go.Proofs.Ytdfplhoijapoeaa.Lbw Go.Proofs.Ytdfplhoijapoeaa.Lck Go.Proofs.Ytdfplhoijapoeaa.Lmay

theorem getD_eq {xs ys : List Int} (hl : xs.length = ys.length) (h : ∀ j, j < xs.length → xs.getD j 0 = ys.getD j 0) : xs = ys := by
  refine List.ext_getElem hl (fun j h1 h2 => ?_)
  have := h j h1
  rwa [List.getD_eq_getElem?_getD, List.getD_eq_getElem?_getD, List.getElem?_eq_getElem h1, List.getElem?_eq_getElem h2] at this

set_option maxRecDepth 100000 in
set_option maxHeartbeats 1600000 in
theorem same_any (xs ys : List Int) (A B : Option Addr) (n m c d : Nat) (w : World) (ok ok' : Nat → Prop) (ha : Rd ok w A n c 1 (is xs)) (hb : Rd ok' w B m d 1 (is ys)) (hn : n ≤ 9223372036854775807) (hm : m ≤ 9223372036854775807) :
    Calls Try.prog 26 #[.slice A n c, .slice B m d] w fun e w' => e = .returned (.bool (decide (xs = ys))) ∧ ∃ q, w' = w.drewN q := by
  have HA : Hid (xs.length = n) := by have := ha.len; rw [is_len] at this; show _ = _; omega
  have HB : Hid (ys.length = m) := by have := hb.len; rw [is_len] at this; show _ = _; omega
  by_cases hnm : n = m
  · subst hnm
    have HRA := Lib.hid (fun hp => rd_is ha hp)
    have HRB := Lib.hid (fun hp => rd_is hb hp)
    clear ha hb
    go_enter Try.func26, Try.ntmps26
    go_wp2
    go_loopw [5] (fun i wr => ∃ (k q : Nat), k ≤ n ∧ i = .int .i64 k ∧ wr = w.drewN q ∧ ∀ j, j < k → xs.getD j 0 = ys.getD j 0) (fun i _ => n - (intOf i).toNat)
    case atStart => exact ⟨0, 0, by omega, rfl, rfl, fun j hj => absurd hj (by omega)⟩
    case round =>
      obtain ⟨k, q, hk, rfl, rfl, hall⟩ := hrel
      have HALL := Lib.hid hall
      clear hall
      by_cases hlt : k < n
      · obtain ⟨b1, off1, rfl, _, hc1⟩ := HRA.out (by omega)
        obtain ⟨b2, off2, rfl, _, hc2⟩ := HRB.out (by omega)
        have k1 := hc1 k hlt
        have k2 := hc2 k hlt
        clear hc1 hc2
        obtain ⟨x, hx⟩ : ∃ x, x = xs.getD k 0 := ⟨_, rfl⟩
        obtain ⟨y, hy⟩ : ∃ y, y = ys.getD k 0 := ⟨_, rfl⟩
        rw [← hx] at k1
        rw [← hy] at k2
        have HX := Lib.hid hx
        have HY := Lib.hid hy
        clear hx hy
        have i5 : (k : Int) < (n : Int) := by omega
        by_cases he : x = y
        · subst he
          have hne : (x != x) = false := by simp
          go_wp2_with fail
          go_quiet (fail)
          go_wp2
          go_roundw
          case rel => exact ⟨k + 1, _, hlt, by go_num, rfl, fun j hj => by
            rcases Nat.lt_succ_iff_lt_or_eq.1 hj with hj | rfl
            · exact HALL.out j hj
            · rw [← HX.out, ← HY.out]⟩
          case measure => simp [intOf]; omega
        · have e2 : (x == y) = false := by rw [beq_eq_false_iff_ne]; omega
          have hne : (x != y) = true := by rw [bne, e2]; rfl
          have HE := Lib.hid he
          clear he
          go_wp2_with fail
          go_quiet (fail)
          go_wp2
          go_ret
          refine ⟨ret_bool (decide_eq_false (fun e => ?_)).symm, _, World.drewN_drewN _ _ _⟩
          exact HE.out (by rw [HX.out, HY.out, e])
      · have : k = n := by omega
        subst this
        go_wp2
        go_ret
        exact ⟨ret_bool (decide_eq_true (getD_eq (by rw [HA.out, HB.out]) (fun j hj => HALL.out j (by have := HA.out; omega)))).symm, _, rfl⟩
  · have h1 : ((n : Int) == (m : Int)) = false := by rw [beq_eq_false_iff_ne]; omega
    clear ha hb
    go_enter Try.func26, Try.ntmps26
    go_wp2
    go_ret
    refine ⟨ret_bool (decide_eq_false (fun e => ?_)).symm, 0, rfl⟩
    have := HA.out; have := HB.out
    subst e
    omega
end Go.Proofs.Ytdfplhoijapoeaa.Lsi
namespace Go.Proofs.Ytdfplhoijapoeaa.Lkc
open Go.RowKit Go.Proofs.Ytdfplhoijapoeaa.Lib1 Go.Proofs.Ytdfplhoijapoeaa.Rel Go.Proofs.Ytdfplhoijapoeaa.Lat Go.Proofs.Ytdfplhoijapoeaa.Lbl Go.Proofs.Ytdfplhoijapoeaa.Lbw Go.Proofs.Ytdfplhoijapoeaa.Lck Go.Proofs.Ytdfplhoijapoeaa.Lmay Go.Proofs.Ytdfplhoijapoeaa.Lcb Go.Proofs.Ytdfplhoijapoeaa.Lpl Go.Proofs.Ytdfplhoijapoeaa.Law Go.Proofs.Ytdfplhoijapoeaa.Lwc Go.Proofs.Ytdfplhoijapoeaa.Lka Go.Proofs.Ytdfplhoijapoeaa.Lkb Go.Proofs.Ytdfplhoijapoeaa.Lke Go.Proofs.Ytdfplhoijapoeaa.Lwr

/-- All below g is as it was. -/
def Old (g : Nat) (w w' : World) : Prop := Chg (fun q => g ≤ q) w w'
theorem same_eq (xs : List Int) (A B : Option Addr) (n c d : Nat) (w : World) (ok ok' : Nat → Prop) (ha : Rd ok w A n c 1 (is xs)) (hb : Rd ok' w B n d 1 (is xs)) (hn : n ≤ 9223372036854775807) :
    Calls Try.prog 26 #[.slice A n c, .slice B n d] w fun e w' => e = .returned (.bool true) ∧ Chg (fun _ => False) w w' :=
  (Lsi.same_any xs xs A B n n c d w ok ok' ha hb hn hn).mono (fun e w' h => ⟨h.1.trans (by simp), by obtain ⟨q, hq⟩ := h.2; rw [hq]; exact (Chg.refl _ _).drewN _⟩)

theorem rd_own {w : World} {base : Nat} {e : TypeId} {sz n c : Nat} {A : Option Addr} {xs : List Value} (h : w.ownsRow base e sz (.slice A n c) n xs) : Rd (fun k => base ≤ k ∧ k < w.heap.size) w A n c sz xs := by
  obtain ⟨A', c', e', hr'⟩ := Rd.of_own h
  simp only [Value.slice.injEq, true_and] at e'
  obtain ⟨rfl, rfl⟩ := e'
  exact hr'.mono (fun k hk => h.lt k hk)
/-- A block whose first n cells are these labels. -/
def UB (w : World) (g n : Nat) (F : Nat → Nat) : Prop := ∃ (arr : Array Value) (T : TypeId), w.heap[g]? = some (.cells arr T (0, 0)) ∧ n ≤ arr.size ∧ ∀ q, q < n → arr[q]? = some (.int .u64 ((F q : Nat) : Int))
theorem UB.cell {w : World} {g n : Nat} {F : Nat → Nat} (h : UB w g n F) {q : Nat} (hq : q < n) : w.cell? ⟨g, q, none⟩ = some (.int .u64 ((F q : Nat) : Int)) := by
  obtain ⟨arr, T, h1, h2, h3⟩ := h
  exact cell_at h1 q (h3 q hq)
theorem UB.free {w : World} {g n : Nat} {F : Nat → Nat} (h : UB w g n F) (q : Nat) : w.frozen? ⟨g, q, none⟩ = false := by
  obtain ⟨arr, T, h1, h2, h3⟩ := h
  exact free_at h1 q
theorem UB.set {w : World} {g n : Nat} {F : Nat → Nat} (h : UB w g n F) {i : Nat} (hi : i < n) (v : Nat) : UB (w.setCell ⟨g, i, none⟩ (.int .u64 (v : Int))) g n (fun q => if q = i then v else F q) := by
  obtain ⟨arr, T, h1, h2, h3⟩ := h
  refine ⟨_, T, heap_set h1 i _, by simpa using h2, fun q hq => ?_⟩
  show _ = some (Value.int .u64 ((if q = i then v else F q : Nat) : Int))
  by_cases e : q = i
  · subst e; rw [Array.getElem?_setIfInBounds_self_of_lt (by omega), if_pos rfl]
  · rw [Array.getElem?_setIfInBounds_ne (Ne.symm e), if_neg e]; exact h3 q hq
theorem UB.move {w w' : World} {g n : Nat} {F : Nat → Nat} (h : UB w g n F) (he : w'.heap[g]? = w.heap[g]?) : UB w' g n F := by
  obtain ⟨arr, T, h1, h2, h3⟩ := h
  exact ⟨arr, T, he.trans h1, h2, h3⟩
theorem UB.rd {w : World} {g n c : Nat} {F : Nat → Nat} (h : UB w g n F) (hc : n ≤ c) : Rd (fun k => k = g) w (some ⟨g, 0, none⟩) n c 1 (us ((List.range n).map F)) :=
  ⟨by rw [us_len]; simp, hc, fun h => (by cases h), fun _ => ⟨g, 0, rfl, rfl, fun j u hu => by
    have hj : j < n := by
      have := (List.getElem?_eq_some_iff.1 hu).1
      simpa [us] using this
    rw [Nat.zero_add, h.cell hj]
    rw [us_get (by simpa using hj)] at hu
    rw [← hu]
    congr 2
    simp [List.getD_eq_getElem?_getD, List.getElem?_map, List.getElem?_range hj]⟩⟩
theorem ub_of {w : World} {base g N n c : Nat} {xs : List Value} {F : Nat → Nat} {e : TypeId} (h : w.ownsRow base e 1 (.slice (some ⟨g, 0, none⟩) N c) N xs) (hn : n ≤ N) (hc : ∀ q, q < n → w.cell? ⟨g, q, none⟩ = some (.int .u64 ((F q : Nat) : Int))) (hN : 0 < N) : UB w g n F := by
  rcases h.2 with ⟨hv, _⟩ | ⟨g', cap, cur, hv, hb, hg, hn2, hcm, hs, ht⟩
  · cases hv
  · simp only [Value.slice.injEq, Option.some.injEq, Addr.mk.injEq, true_and, and_true] at hv
    obtain ⟨rfl, rfl⟩ := hv
    refine ⟨cur, e, hg, by omega, fun q hq => ?_⟩
    have := hc q hq
    simpa [World.cell?, hg] using this
set_option maxRecDepth 100000 in
set_option maxHeartbeats 6400000 in
theorem keeps_walk {ok ok' : Nat → Prop} {w : World} (ls ms : List Nat) (l : Nat) (A : Option Addr) (n c : Nat) (h : labsK.rel ok w ls [.slice A n c]) (hok : ∀ k, ok k → k < w.heap.size) (hf : labsK.fits ls)
    (B : Option Addr) (m d : Nat) (h' : labsK.rel ok' w ms [.slice B m d]) (hok' : ∀ k, ok' k → k < w.heap.size) (hf' : labsK.fits ms) (hl64 : l < B64) :
    Calls Try.prog 16 #[.slice A n c, .int .u64 (l : Int), .slice B m d] w fun e w' => e = .returned (.bool true) ∧ Below w.heap.size w w' := by
  obtain ⟨hr, hn, hl⟩ := labs_rd h hf
  obtain ⟨hr', hn', hl'⟩ := labs_rd h' hf'
  have HL : Hid (ls.length = n) := by have := hr.len; rw [us_len] at this; show _ = _; omega
  have HM : Hid (ms.length = m) := by have := hr'.len; rw [us_len] at this; show _ = _; omega
  have HB := Lib.hid hl
  have HB' := Lib.hid hl'
  have HL64 := Lib.hid hl64
  have H1 := Lib.hid (plain_any ls A n c hr hok hn)
  have HR0 : Hid (∀ W, (∀ k, k < w.heap.size → W.heap[k]? = w.heap[k]?) → Rd (fun k => k < w.heap.size) W A n c 1 (us ls)) := fun W hW => (hr.mono hok).move hW
  have HM0 : Hid (∀ W, (∀ k, k < w.heap.size → W.heap[k]? = w.heap[k]?) → Rd (fun k => k < w.heap.size) W B m d 1 (us ms)) := fun W hW => (hr'.mono hok').move hW
  clear h hr hl hf hok h' hr' hl' hf' hok'
  go_enter Try.func16, Try.ntmps16
  go_wp2_with fail
  refine H1.out.mono ?_
  clear H1
  rintro e w1 ⟨v1, rfl, o1, hc⟩
  have C1 := Lib.hid hc
  obtain ⟨A1, c1, rfl, R1⟩ := Rd.of_own o1
  have HP : Hid (∀ W, Old w1.heap.size w1 W → Rd (fun k => k < w1.heap.size) W A1 n c1 1 (us ls)) := fun W hW => (R1.mono (fun k hk => (o1.lt k hk).2)).move (fun k hk => hW.block k hk (by omega))
  have HR : Hid (∀ W, Old w1.heap.size w1 W → Rd (fun k => k < w1.heap.size) W A n c 1 (us ls)) := fun W hW => (HR0.out W (fun k hk => (hW.block k (Nat.lt_of_lt_of_le hk hc.size) (by have := hc.size; omega)).trans (hc.block k hk (fun h => h)))).mono (fun k hk => Nat.lt_of_lt_of_le hk hc.size)
  have HMr : Hid (∀ W, Old w1.heap.size w1 W → Rd (fun k => k < w1.heap.size) W B m d 1 (us ms)) := fun W hW => (HM0.out W (fun k hk => (hW.block k (Nat.lt_of_lt_of_le hk hc.size) (by have := hc.size; omega)).trans (hc.block k hk (fun h => h)))).mono (fun k hk => Nat.lt_of_lt_of_le hk hc.size)
  clear hc R1 o1 HR0 HM0
  go_wp2
  go_loopw [8] (fun v8 wr => ∃ t : Nat, v8 = .int .i64 t ∧ t ≤ 3 ∧ Hid (Old w1.heap.size w1 wr)) (fun v8 _ => 3 - (intOf v8).toNat)
  case atStart => exact ⟨0, rfl, by omega, Chg.refl _ _⟩
  case round =>
    obtain ⟨wo, rfl⟩ : ∃ wo : World, wo = wr := ⟨_, rfl⟩
    obtain ⟨t, rfl, ht, HD⟩ := hrel
    by_cases hlt : t < 3
    · have hltz : (t : Int) < 3 := by omega
      obtain ⟨L, hLe⟩ : ∃ L, L = ans ls l n t := ⟨_, rfl⟩
      have HLe := Lib.hid hLe
      have hLn : L.length ≤ n := by rw [hLe]; exact ans_len HL.out
      have H2 := Lib.hid (answer_any ls l A1 n c1 wo _ t (HP.out wo HD.out) (fun k hk => Nat.lt_of_lt_of_le hk HD.out.size) HB.out HL64.out hn hlt)
      rw [← hLe] at H2
      clear hLe
      go_wp2_with fail
      refine H2.out.mono ?_
      clear H2
      rintro e w2 ⟨B2, d2, rfl, o2, hc⟩
      have C2 := Lib.hid hc
      have R2 := rd_own o2
      have HW : Hid (∀ W, (∀ k, wo.heap.size ≤ k → k < w2.heap.size → W.heap[k]? = w2.heap[k]?) → Rd (fun _ => True) W B2 L.length d2 1 (is L)) := fun W hW => (R2.move (fun k hk => hW k hk.1 hk.2)).any
      have HD2 : Hid (Old w1.heap.size w1 w2) := HD.out.trans hc (fun _ _ h => h.elim)
      clear hc o2 R2
      have H3 := Lib.hid (room_any ls A n c w2 _ (HR.out w2 HD2.out) (fun k hk => Nat.lt_of_lt_of_le hk HD2.out.size) hn)
      go_wp2_with fail
      refine H3.out.mono ?_
      clear H3
      rintro e w3 ⟨v3, rfl, o3, hc⟩
      have C3 := Lib.hid hc
      obtain ⟨A3, c3, rfl, -⟩ := Rd.of_own o3
      obtain ⟨F, rfl⟩ := own_some o3 (by omega)
      have O3 := Lib.hid o3
      have hF := own_cell o3 (i := 0) (by omega)
      have hcap : n ≤ c3 := by have := hF.2.2.2.1; omega
      have HF1 : Hid (w2.heap.size ≤ F) := hF.2.2.1
      have HF2 : Hid (F < w3.heap.size) := hF.2.2.2.2
      have HD3 : Hid (Old w1.heap.size w1 w3) := HD2.out.trans hc (fun _ _ h => h.elim)
      have HI : Hid (∀ W, W.heap[F]? = w3.heap[F]? → Rd (fun k => k = F) W (some ⟨F, 0, none⟩) n c3 1 (us ls)) := fun W hW => by
        obtain ⟨A', c', e', hr'⟩ := Rd.of_own O3.out
        simp only [Value.slice.injEq, true_and] at e'
        obtain ⟨rfl, rfl⟩ := e'
        refine ⟨by rw [us_len]; have := HL.out; omega, hcap, fun h => (by cases h), fun hp => ⟨F, 0, rfl, rfl, fun j u hu => ?_⟩⟩
        have hj : j < ls.length := by have := (List.getElem?_eq_some_iff.1 hu).1; simpa [us] using this
        obtain ⟨b, off, e1, hb, hcc⟩ := hr'.at_ (by omega)
        cases e1
        have e2 : (us (room ls 70))[j]? = some u := by
          rw [us_get (by rw [room_len]; omega), room_get1 ls 70 j hj, ← us_get hj]; exact hu
        exact (World.cell?_of_block (a := ⟨F, 0 + j, none⟩) hW).trans (hcc j u e2)
      have HK3 : Hid (∀ W, W.heap[F]? = w3.heap[F]? → Rd (fun _ => True) W (some ⟨F, 0, none⟩) (n + 70) c3 1 (us (room ls 70))) := fun W hW => by
        obtain ⟨A', c', e', hr'⟩ := Rd.of_own O3.out
        simp only [Value.slice.injEq, true_and] at e'
        obtain ⟨rfl, rfl⟩ := e'
        exact (hr'.move (fun k hk => by
          have : F = k := by simpa [Value.ownBlock] using hk
          subst this; exact hW)).any
      obtain ⟨N2, hN2⟩ : ∃ N2, N2 = n + 70 := ⟨_, rfl⟩
      have HN2 := Lib.hid hN2
      rw [← hN2] at HK3 ⊢
      have hnN : n ≤ N2 := by omega
      have hNc : N2 ≤ c3 := by have := hF.2.2.2.1; omega
      have HU3 : Hid (UB w3 F n (fun q => ls.getD q 0)) := ub_of O3.out (by omega) (fun q hq => by
        obtain ⟨b, off, e1, hb, hcc⟩ := rd_us (HI.out w3 rfl) (by omega)
        cases e1
        have := hcc q hq
        rwa [Nat.zero_add] at this) (by omega)
      clear hc o3 hF hN2 O3
      have H4 := Lib.hid (ask_any ls l (some ⟨F, 0, none⟩) n c3 w3 _ t (HI.out w3 rfl) (fun k hk => by subst hk; exact HF2.out) HB.out HL64.out hn hlt)
      rw [← HLe.out] at H4
      go_wp2_with fail
      refine H4.out.mono ?_
      clear H4
      rintro e w4 ⟨B4, d4, rfl, o4, hc⟩
      have C4 := Lib.hid hc
      have O4 := Lib.hid o4
      clear hc o4
      have H5 := Lib.hid (ask_any ls l (some ⟨F, 0, none⟩) n c3 w4 _ t (HI.out w4 (C4.out.block F HF2.out (fun h => h))) (fun k hk => by subst hk; exact Nat.lt_of_lt_of_le HF2.out C4.out.size) HB.out HL64.out hn hlt)
      rw [← HLe.out] at H5
      go_wp2_with fail
      refine H5.out.mono ?_
      clear H5
      rintro e w5 ⟨B5, d5, rfl, o5, hc⟩
      have C5 := Lib.hid hc
      have O5 := Lib.hid o5
      clear hc o5
      have C35 : Hid (Chg (fun _ => False) w3 w5) := C4.out.trans C5.out (fun _ _ h => h)
      have HD5 : Hid (Old w1.heap.size w1 w5) := HD3.out.trans C35.out (fun _ _ h => h.elim)
      have C25 : Hid (Chg (fun _ => False) w2 w5) := C3.out.trans C35.out (fun _ _ h => h)
      have R4 : Hid (∀ W, (∀ k, w3.heap.size ≤ k → k < w4.heap.size → W.heap[k]? = w4.heap[k]?) → Rd (fun _ => True) W B4 L.length d4 1 (is L)) := fun W hW => ((rd_own O4.out).move (fun k hk => hW k hk.1 hk.2)).any
      have R5 : Hid (∀ W, (∀ k, w4.heap.size ≤ k → k < w5.heap.size → W.heap[k]? = w5.heap[k]?) → Rd (fun _ => True) W B5 L.length d5 1 (is L)) := fun W hW => ((rd_own O5.out).move (fun k hk => hW k hk.1 hk.2)).any
      -- the first checks
      have H6 := Lib.hid (kept_any ls (some ⟨F, 0, none⟩) A1 N2 n c3 c1 HN2.out w5 _ _ (HK3.out w5 (C35.out.block F HF2.out (fun h => h))) (HP.out w5 HD5.out) (by omega))
      go_wp2_with fail
      refine H6.out.mono ?_
      clear H6
      rintro e w6 ⟨rfl, q6, hq⟩
      have C6 : Hid (Chg (fun _ => False) w5 w6) := by rw [hq]; exact (Chg.refl _ _).drewN _
      clear hq
      have H7 := Lib.hid (same_eq L B4 B2 L.length d4 d2 w6 _ _ (R4.out w6 (fun k h1 h2 => (C6.out.block k (Nat.lt_of_lt_of_le h2 C5.out.size) (fun h => h)).trans (C5.out.block k h2 (fun h => h)))) (HW.out w6 (fun k h1 h2 => (C6.out.block k (Nat.lt_of_lt_of_le h2 C25.out.size) (fun h => h)).trans (C25.out.block k h2 (fun h => h)))) (by omega))
      go_wp2_with fail
      refine H7.out.mono ?_
      clear H7
      rintro e w7 ⟨rfl, hc⟩
      have C7 : Hid (Chg (fun _ => False) w5 w7) := C6.out.trans hc (fun _ _ h => h)
      clear hc C6
      have H8 := Lib.hid (same_eq L B5 B2 L.length d5 d2 w7 _ _ (R5.out w7 (fun k h1 h2 => C7.out.block k h2 (fun h => h))) (HW.out w7 (fun k h1 h2 => (C7.out.block k (Nat.lt_of_lt_of_le h2 C25.out.size) (fun h => h)).trans (C25.out.block k h2 (fun h => h)))) (by omega))
      go_wp2_with fail
      refine H8.out.mono ?_
      clear H8
      rintro e w8 ⟨rfl, hc⟩
      have C8 : Hid (Chg (fun _ => False) w5 w8) := C7.out.trans hc (fun _ _ h => h)
      clear hc C7
      -- the first answer is written over
      have s35 := C35.out.size
      have s58 := C8.out.size
      have s45 := C5.out.size
      have s34 := C4.out.size
      have s23 := C3.out.size
      have O48 : Hid (w8.ownsRow w3.heap.size 3 1 (.slice B4 L.length d4) L.length (is L)) := own_chg (C5.out.trans C8.out (fun _ _ h => h)) O4.out (fun _ _ h => h)
      have H9 := Lib.hid (spoil_any (m := 100000) O48.out (by omega) (by omega) (by omega) (by omega))
      go_wp2_with fail
      refine H9.out.mono ?_
      clear H9
      rintro e w9 ⟨rfl, hc⟩
      have A9 : Hid (∀ k, k < w8.heap.size → ¬ (w3.heap.size ≤ k ∧ k < w4.heap.size) → w9.heap[k]? = w8.heap[k]?) := fun k hk hn => hc.block k hk (fun e => hn (O4.out.lt k e))
      have HD9 : Hid (Old w1.heap.size w1 w9) := (HD5.out.trans C8.out (fun _ _ h => h.elim)).trans hc (fun k _ e => by have := (O4.out.lt k e).1; have := HD3.out.size; omega)
      have s89 := hc.size
      clear hc O48
      have G3 : Hid (∀ k, k < w3.heap.size → w9.heap[k]? = w3.heap[k]?) := fun k hk => (A9.out k (by omega) (by omega)).trans ((C8.out.block k (by omega) (fun h => h)).trans (C35.out.block k hk (fun h => h)))
      have G5 : Hid (∀ k, w4.heap.size ≤ k → k < w5.heap.size → w9.heap[k]? = w5.heap[k]?) := fun k h1 h2 => (A9.out k (by omega) (by omega)).trans (C8.out.block k h2 (fun h => h))
      have G2 : Hid (∀ k, wo.heap.size ≤ k → k < w2.heap.size → w9.heap[k]? = w2.heap[k]?) := fun k h1 h2 => (G3.out k (by omega)).trans (C3.out.block k h2 (fun h => h))
      clear A9 R4 C25 C35 C8
      have H10 := Lib.hid (same_eq L B5 B2 L.length d5 d2 w9 _ _ (R5.out w9 G5.out) (HW.out w9 G2.out) (by omega))
      go_wp2_with fail
      refine H10.out.mono ?_
      clear H10
      rintro e w10 ⟨rfl, hc⟩
      have C10 := Lib.hid hc
      clear hc
      have s910 := C10.out.size
      have HD10 : Hid (Old w1.heap.size w1 w10) := HD9.out.trans C10.out (fun _ _ h => h.elim)
      have H11 := Lib.hid (kept_any ls (some ⟨F, 0, none⟩) A1 N2 n c3 c1 HN2.out w10 _ _ (HK3.out w10 ((C10.out.block F (by have := HF2.out; omega) (fun h => h)).trans (G3.out F HF2.out))) (HP.out w10 HD10.out) (by omega))
      go_wp2_with fail
      refine H11.out.mono ?_
      clear H11
      rintro e w11 ⟨rfl, q11, hq⟩
      have C11 : Hid (Chg (fun _ => False) w9 w11) := by rw [hq]; exact C10.out.drewN _
      clear hq C10
      have s911 := C11.out.size
      have HD11 : Hid (Old w1.heap.size w1 w11) := HD9.out.trans C11.out (fun _ _ h => h.elim)
      -- the third answer
      have H12 := Lib.hid (ask_any ls l (some ⟨F, 0, none⟩) n c3 w11 _ t (HI.out w11 ((C11.out.block F (by have := HF2.out; omega) (fun h => h)).trans (G3.out F HF2.out))) (fun k hk => by subst hk; have := HF2.out; omega) HB.out HL64.out hn hlt)
      rw [← HLe.out] at H12
      go_wp2_with fail
      refine H12.out.mono ?_
      clear H12
      rintro e w12 ⟨B6, d6, rfl, o6, hc⟩
      have C12 := Lib.hid hc
      have s12 := hc.size
      have R6 : Hid (∀ W, (∀ k, w11.heap.size ≤ k → k < w12.heap.size → W.heap[k]? = w12.heap[k]?) → Rd (fun _ => True) W B6 L.length d6 1 (is L)) := fun W hW => ((rd_own o6).move (fun k hk => hW k hk.1 hk.2)).any
      have HD12 : Hid (Old w1.heap.size w1 w12) := HD11.out.trans hc (fun _ _ h => h.elim)
      clear hc o6
      have G12 : Hid (∀ k, k < w9.heap.size → w12.heap[k]? = w9.heap[k]?) := fun k hk => (C12.out.block k (by omega) (fun h => h)).trans (C11.out.block k hk (fun h => h))
      have O512 : Hid (w12.ownsRow w4.heap.size 3 1 (.slice B5 L.length d5) L.length (is L)) := own_move O5.out (fun k hk => (G12.out k (by have := (O5.out.lt k hk).2; omega)).trans (G5.out k (O5.out.lt k hk).1 (O5.out.lt k hk).2))
      have H13 := Lib.hid (spoil_any (m := 200000) O512.out (by omega) (by omega) (by omega) (by omega))
      go_wp2_with fail
      refine H13.out.mono ?_
      clear H13
      rintro e w13 ⟨rfl, hc⟩
      have A13 : Hid (∀ k, k < w12.heap.size → ¬ (w4.heap.size ≤ k ∧ k < w5.heap.size) → w13.heap[k]? = w12.heap[k]?) := fun k hk hn => hc.block k hk (fun e => hn (O5.out.lt k e))
      have HD13 : Hid (Old w1.heap.size w1 w13) := HD12.out.trans hc (fun k _ e => by have := (O5.out.lt k e).1; have := HD3.out.size; omega)
      have s13 := hc.size
      clear hc O512 R5
      have G13 : Hid (∀ k, k < w3.heap.size → w13.heap[k]? = w3.heap[k]?) := fun k hk => (A13.out k (by omega) (by omega)).trans ((G12.out k (by omega)).trans (G3.out k hk))
      have G132 : Hid (∀ k, wo.heap.size ≤ k → k < w2.heap.size → w13.heap[k]? = w2.heap[k]?) := fun k h1 h2 => (A13.out k (by omega) (by omega)).trans ((G12.out k (by omega)).trans (G2.out k h1 h2))
      have G136 : Hid (∀ k, w11.heap.size ≤ k → k < w12.heap.size → w13.heap[k]? = w12.heap[k]?) := fun k h1 h2 => A13.out k h2 (by omega)
      have H14 := Lib.hid (same_eq L B6 B2 L.length d6 d2 w13 _ _ (R6.out w13 G136.out) (HW.out w13 G132.out) (by omega))
      go_wp2_with fail
      refine H14.out.mono ?_
      clear H14
      rintro e w14 ⟨rfl, hc⟩
      have C14 := Lib.hid hc
      have s14 := hc.size
      have HD14 : Hid (Old w1.heap.size w1 w14) := HD13.out.trans hc (fun _ _ h => h.elim)
      have HU14 : Hid (UB w14 F n (fun q => ls.getD q 0)) := HU3.out.move ((hc.block F (by have := HF2.out; omega) (fun h => h)).trans (G13.out F HF2.out))
      have HFlt : Hid (wo.heap.size ≤ F ∧ w2.heap.size ≤ F ∧ F < w11.heap.size) := ⟨by have := HF1.out; have := C2.out.size; omega, HF1.out, by have := HF2.out; omega⟩
      clear hc G12 G3 G5 G2 A13 HU3 HI HK3
      go_wp2
      go_loopw [15] (fun v15 wr => ∃ (k : Nat) (E : Nat → Nat), v15 = .int .i64 k ∧ k ≤ n ∧ k ≤ m ∧ Hid (UB wr F n E) ∧ Hid (∀ q, q < n → E q < B64) ∧ Hid (Chg (fun q => q = F) w14 wr)) (fun v15 _ => n - (intOf v15).toNat)
      case atStart => exact ⟨0, _, rfl, by omega, by omega, HU14, (fun q hq => HB.out _ (Lhh.mem_at (by have := HL.out; omega))), Chg.refl _ _⟩
      case round =>
        clear HU14
        obtain ⟨wi, rfl⟩ : ∃ wi : World, wi = wr := ⟨_, rfl⟩
        obtain ⟨k, E, rfl, hkn, hkm, HU, HE, HC⟩ := hrel
        have HDi : Hid (Old w1.heap.size w1 wi) := HD14.out.trans HC.out (fun j _ e => by have := HFlt.out.1; have := HD.out.size; omega)
        by_cases g1 : k < n ∧ k < m
        · obtain ⟨g2, g3⟩ := g1
          have i1 : (k : Int) < (n : Int) := by omega
          have i2 : (k : Int) < (m : Int) := by omega
          obtain ⟨b, off, rfl, hbk, hcl⟩ := rd_us (HMr.out wi HDi.out) (by omega)
          have o1 := hcl k g3
          have hx64 : ms.getD k 0 < B64 := HB'.out _ (Lhh.mem_at (by have := HM.out; omega))
          generalize ms.getD k 0 = x at o1 hx64
          have o2 := HU.out.cell g2
          have o3 := HU.out.free k
          have HX := Lib.hid hx64
          clear hcl hbk hx64
          go_wp2
          go_roundw
          case rel => exact ⟨k + 1, fun q => if q = k then x else E q, by go_num, by omega, by omega, (by first | exact HU.out.set g2 x | exact (HU.out.move (w' := wi.drewN _) rfl).set g2 x), (fun q hq => by
            show (if q = k then x else E q) < B64
            split
            · exact HX.out
            · exact HE.out q hq), (by first | exact HC.out.set (.inr rfl) | exact (HC.out.drewN _).set (.inr rfl))⟩
          case measure => simp [intOf]; omega
        · have g2 : k = n ∨ k = m := by omega
          obtain ⟨ls2, hls2⟩ : ∃ ls2, ls2 = (List.range n).map E := ⟨_, rfl⟩
          have RI : Hid (∀ W, W.heap[F]? = wi.heap[F]? → Rd (fun j => j = F) W (some ⟨F, 0, none⟩) n c3 1 (us ls2)) := fun W hW => by rw [hls2]; exact (HU.out.move hW).rd hcap
          have HB2 : Hid (∀ x ∈ ls2, x < B64) := fun x hx => by
            rw [hls2] at hx
            obtain ⟨q, hq, rfl⟩ := List.mem_map.1 hx
            exact HE.out q (List.mem_range.1 hq)
          have HL2 : Hid (ls2.length = n) := by show _ = _; rw [hls2]; simp
          have sF : Hid (F < wi.heap.size) := by show _ < _; have := HFlt.out.2.2; have := HC.out.size; omega
          have Gi2 : Hid (∀ j, wo.heap.size ≤ j → j < w2.heap.size → wi.heap[j]? = w2.heap[j]?) := fun j h1 h2 => (HC.out.block j (by omega) (by have := HFlt.out.2.1; omega)).trans ((C14.out.block j (by omega) (fun h => h)).trans (G132.out j h1 h2))
          have Gi6 : Hid (∀ j, w11.heap.size ≤ j → j < w12.heap.size → wi.heap[j]? = w12.heap[j]?) := fun j h1 h2 => (HC.out.block j (by omega) (by have := HFlt.out.2.2; omega)).trans ((C14.out.block j (by omega) (fun h => h)).trans (G136.out j h1 h2))
          have si := HC.out.size
          clear hls2
          have H15 := Lib.hid (plain_any ls2 (some ⟨F, 0, none⟩) n c3 (RI.out wi rfl) (fun j hj => by subst hj; exact sF.out) hn)
          by_cases g3 : k < n
          · have i1 : (k : Int) < (n : Int) := by omega
            have i2 : ¬ (k : Int) < (m : Int) := by omega
            have i3 : decide ((k : Int) < (n : Int)) = true := by simp; omega
            have i4 : decide ((k : Int) < (m : Int)) = false := by simp; omega
            clear g1 g2
            go_wp2_with fail
            refine H15.out.mono ?_
            clear H15
            rintro e w15 ⟨v15, rfl, o15, hc⟩
            obtain ⟨A15, c15, rfl, -⟩ := Rd.of_own o15
            have C15 := Lib.hid hc
            have s15 := hc.size
            have R15 : Hid (∀ W, (∀ j, wi.heap.size ≤ j → j < w15.heap.size → W.heap[j]? = w15.heap[j]?) → Rd (fun j => wi.heap.size ≤ j ∧ j < w15.heap.size) W A15 n c15 1 (us ls2)) := fun W hW => (rd_own o15).move (fun j hj => hW j hj.1 hj.2)
            clear hc o15
            obtain ⟨L2, hL2⟩ : ∃ L2, L2 = ans ls2 l n t := ⟨_, rfl⟩
            have hLn2 : L2.length ≤ n := by rw [hL2]; exact ans_len HL2.out
            have HLe2 := Lib.hid hL2
            clear hL2
            have H16 := Lib.hid (ask_any ls2 l (some ⟨F, 0, none⟩) n c3 w15 _ t (RI.out w15 (C15.out.block F sF.out (fun h => h))) (fun j hj => by subst hj; have := sF.out; omega) HB2.out HL64.out hn hlt)
            rw [← HLe2.out] at H16
            go_wp2_with fail
            refine H16.out.mono ?_
            clear H16
            rintro e w16 ⟨B16, d16, rfl, o16, hc⟩
            have C16 := Lib.hid hc
            have s16 := hc.size
            have R16 : Hid (∀ W, (∀ j, w15.heap.size ≤ j → j < w16.heap.size → W.heap[j]? = w16.heap[j]?) → Rd (fun _ => True) W B16 L2.length d16 1 (is L2)) := fun W hW => ((rd_own o16).move (fun j hj => hW j hj.1 hj.2)).any
            clear hc o16
            have H17 := Lib.hid (answer_any ls2 l A15 n c15 w16 _ t (R15.out w16 (fun j h1 h2 => C16.out.block j h2 (fun h => h))) (fun j hj => by omega) HB2.out HL64.out hn hlt)
            rw [← HLe2.out] at H17
            go_wp2_with fail
            refine H17.out.mono ?_
            clear H17
            rintro e w17 ⟨B17, d17, rfl, o17, hc⟩
            have C17 := Lib.hid hc
            have s17 := hc.size
            have H18 := Lib.hid (same_eq L2 B16 B17 L2.length d16 d17 w17 _ _ (R16.out w17 (fun j h1 h2 => C17.out.block j h2 (fun h => h))) (rd_own o17) (by omega))
            clear hc o17
            go_wp2_with fail
            refine H18.out.mono ?_
            clear H18
            rintro e w18 ⟨rfl, hc⟩
            have C18 : Hid (Chg (fun _ => False) wi w18) := ((C15.out.trans C16.out (fun _ _ h => h)).trans C17.out (fun _ _ h => h)).trans hc (fun _ _ h => h)
            clear hc C15 C16 C17 R15 R16
            have H19 := Lib.hid (same_eq L B6 B2 L.length d6 d2 w18 _ _ (R6.out w18 (fun j h1 h2 => (C18.out.block j (by omega) (fun h => h)).trans (Gi6.out j h1 h2))) (HW.out w18 (fun j h1 h2 => (C18.out.block j (by omega) (fun h => h)).trans (Gi2.out j h1 h2))) (by omega))
            go_wp2_with fail
            refine H19.out.mono ?_
            clear H19
            rintro e w19 ⟨rfl, hc⟩
            have HD19 : Hid (Old w1.heap.size w1 w19) := (HDi.out.trans C18.out (fun _ _ h => h.elim)).trans hc (fun _ _ h => h.elim)
            clear hc C18
            go_wp2
            go_roundw
            case rel => exact ⟨t + 1, by go_num, by omega, HD19⟩
            case measure => simp [intOf]; omega
          · have i1 : ¬ (k : Int) < (n : Int) := by omega
            have i3 : decide ((k : Int) < (n : Int)) = false := by simp; omega
            clear g1 g2
            go_wp2_with fail
            refine H15.out.mono ?_
            clear H15
            rintro e w15 ⟨v15, rfl, o15, hc⟩
            obtain ⟨A15, c15, rfl, -⟩ := Rd.of_own o15
            have C15 := Lib.hid hc
            have s15 := hc.size
            have R15 : Hid (∀ W, (∀ j, wi.heap.size ≤ j → j < w15.heap.size → W.heap[j]? = w15.heap[j]?) → Rd (fun j => wi.heap.size ≤ j ∧ j < w15.heap.size) W A15 n c15 1 (us ls2)) := fun W hW => (rd_own o15).move (fun j hj => hW j hj.1 hj.2)
            clear hc o15
            obtain ⟨L2, hL2⟩ : ∃ L2, L2 = ans ls2 l n t := ⟨_, rfl⟩
            have hLn2 : L2.length ≤ n := by rw [hL2]; exact ans_len HL2.out
            have HLe2 := Lib.hid hL2
            clear hL2
            have H16 := Lib.hid (ask_any ls2 l (some ⟨F, 0, none⟩) n c3 w15 _ t (RI.out w15 (C15.out.block F sF.out (fun h => h))) (fun j hj => by subst hj; have := sF.out; omega) HB2.out HL64.out hn hlt)
            rw [← HLe2.out] at H16
            go_wp2_with fail
            refine H16.out.mono ?_
            clear H16
            rintro e w16 ⟨B16, d16, rfl, o16, hc⟩
            have C16 := Lib.hid hc
            have s16 := hc.size
            have R16 : Hid (∀ W, (∀ j, w15.heap.size ≤ j → j < w16.heap.size → W.heap[j]? = w16.heap[j]?) → Rd (fun _ => True) W B16 L2.length d16 1 (is L2)) := fun W hW => ((rd_own o16).move (fun j hj => hW j hj.1 hj.2)).any
            clear hc o16
            have H17 := Lib.hid (answer_any ls2 l A15 n c15 w16 _ t (R15.out w16 (fun j h1 h2 => C16.out.block j h2 (fun h => h))) (fun j hj => by omega) HB2.out HL64.out hn hlt)
            rw [← HLe2.out] at H17
            go_wp2_with fail
            refine H17.out.mono ?_
            clear H17
            rintro e w17 ⟨B17, d17, rfl, o17, hc⟩
            have C17 := Lib.hid hc
            have s17 := hc.size
            have H18 := Lib.hid (same_eq L2 B16 B17 L2.length d16 d17 w17 _ _ (R16.out w17 (fun j h1 h2 => C17.out.block j h2 (fun h => h))) (rd_own o17) (by omega))
            clear hc o17
            go_wp2_with fail
            refine H18.out.mono ?_
            clear H18
            rintro e w18 ⟨rfl, hc⟩
            have C18 : Hid (Chg (fun _ => False) wi w18) := ((C15.out.trans C16.out (fun _ _ h => h)).trans C17.out (fun _ _ h => h)).trans hc (fun _ _ h => h)
            clear hc C15 C16 C17 R15 R16
            have H19 := Lib.hid (same_eq L B6 B2 L.length d6 d2 w18 _ _ (R6.out w18 (fun j h1 h2 => (C18.out.block j (by omega) (fun h => h)).trans (Gi6.out j h1 h2))) (HW.out w18 (fun j h1 h2 => (C18.out.block j (by omega) (fun h => h)).trans (Gi2.out j h1 h2))) (by omega))
            go_wp2_with fail
            refine H19.out.mono ?_
            clear H19
            rintro e w19 ⟨rfl, hc⟩
            have HD19 : Hid (Old w1.heap.size w1 w19) := (HDi.out.trans C18.out (fun _ _ h => h.elim)).trans hc (fun _ _ h => h.elim)
            clear hc C18
            go_wp2
            go_roundw
            case rel => exact ⟨t + 1, by go_num, by omega, HD19⟩
            case measure => simp [intOf]; omega
    · obtain rfl : t = 3 := by omega
      go_wp2_with fail
      refine (awake_any _).mono ?_
      rintro e w5 ⟨rfl, hc⟩
      have C5 : Hid (Chg (fun _ => False) wo w5) := hc
      clear hc
      go_wp2
      go_ret
      refine ⟨rfl, Chg.below ?_⟩
      have a1 : Chg (fun q => w1.heap.size ≤ q) w w1 := C1.out.mono (fun _ _ h => h.elim)
      have a2 : Chg (fun q => w1.heap.size ≤ q) w w5 := (a1.trans HD.out (fun _ _ h => h)).trans C5.out (fun _ _ h => h.elim)
      exact a2.mono (fun j hj e => by have := C1.out.size; omega)
theorem keeps_row {ok ok' : Nat → Prop} {w : World} (ls ms : List Nat) (l : Int) (A : Option Addr) (n c : Nat) (h : labsK.rel ok w ls [.slice A n c]) (hok : ∀ k, ok k → k < w.heap.size) (hf : labsK.fits ls)
    (B : Option Addr) (m d : Nat) (h' : labsK.rel ok' w ms [.slice B m d]) (hok' : ∀ k, ok' k → k < w.heap.size) (hf' : labsK.fits ms) (hl : (Lit.int .u64 l).wf = true) :
    Calls Try.prog 16 #[.slice A n c, .int .u64 l, .slice B m d] w fun e w' => e = .returned (.bool true) ∧ Below w.heap.size w w' := by
  obtain ⟨a0, a1⟩ := wf_u64 hl
  obtain ⟨x, rfl⟩ := Int.eq_ofNat_of_zero_le a0
  exact keeps_walk ls ms x A n c h hok hf B m d h' hok' hf' (by show x < 18446744073709551616; omega)
end Go.Proofs.Ytdfplhoijapoeaa.Lkc
