/- label.Heights, by contract: the walk. Conditions: the row reads so, labels below 2^64. -/
import Derived.Test.YtdfplhoijapoeaaHh
import Derived.Laws.ByValue
set_option linter.unusedVariables false
set_option linter.unusedSimpArgs false
namespace Go.Proofs.Ytdfplhoijapoeaa.Lhi
open Go.RowKit Go.Sort Go.Proofs.Ytdfplhoijapoeaa.Lib1 Go.Proofs.Ytdfplhoijapoeaa.Lat Go.Proofs.Ytdfplhoijapoeaa.Lbl Go.Proofs.Ytdfplhoijapoeaa.Lbw Go.Proofs.Ytdfplhoijapoeaa.Lck Go.Proofs.Ytdfplhoijapoeaa.Lcb Go.Proofs.Ytdfplhoijapoeaa.Lh Go.Proofs.Ytdfplhoijapoeaa.Lhb Go.Proofs.Ytdfplhoijapoeaa.Lhf Go.Proofs.Ytdfplhoijapoeaa.Lhg Go.Proofs.Ytdfplhoijapoeaa.Lru Go.Proofs.Ytdfplhoijapoeaa.Lhh

set_option maxRecDepth 100000 in
set_option maxHeartbeats 3200000 in
theorem heights_any (ls : List Nat) (A : Option Addr) (n c : Nat) (w : World) (ok : Nat → Prop) (h : Rd ok w A n c 1 (us ls)) (hok : ∀ k, ok k → k < w.heap.size) (hf : n * 8 ≤ 140737488351232) (hl : ∀ x ∈ ls, x < B64) :
    Calls Try.prog 27 #[.slice A n c] w fun e w' => ∃ g F, e = .returned (.slice (some ⟨g, 0, none⟩) n n) ∧ w.heap.size ≤ g ∧ IB w' g n F ∧ (∀ t, t < n → F t = hg ls (ls.getD t 0)) ∧ Chg (fun _ => False) w w' := by
  have HL : Hid (ls.length = n) := by have := h.len; rw [us_len] at this; show _ = _; omega
  have H64 : Hid (∀ k, k < ls.length → ls.getD k 0 < B64) := fun k hk => hl _ (by rw [List.getD_eq_getElem?_getD, List.getElem?_eq_getElem hk]; simp)
  have HR : Hid (0 < n → ∃ b off, A = some ⟨b, off, none⟩ ∧ b < w.heap.size ∧ ∀ k, k < n → w.cell? ⟨b, off + k, none⟩ = some (.int .u64 ((ls.getD k 0 : Nat) : Int))) := fun hn => by
    obtain ⟨b, off, e, hb, hc⟩ := rd_us h hn
    exact ⟨b, off, e, hok b hb, hc⟩
  have hmk := make_int n hf
  clear h hok hl
  -- the two new blocks
  obtain ⟨B, hB⟩ : ∃ B, B = w.heap.size := ⟨_, rfl⟩
  obtain ⟨w2, hw2⟩ : ∃ w2, w2 = (w.alloc (.cells #[.slice A n c] 28)).alloc (.cells (madeCells #[.int .i64 0] n) 3) := ⟨_, rfl⟩
  have HW2 := Lib.hid hw2
  have s1 : (w.alloc (.cells #[.slice A n c] 28)).heap.size = B + 1 := by simp [hB]
  have HI0 : Hid (IB w2 (B + 1) n (fun _ => 0)) := by
    show IB _ _ _ _
    rw [hw2, ← s1]; exact IB.made _ _
  have HB0 : Hid (w2.heap[B]? = some (.cells #[.slice A n c] 28 (0, 0))) := by
    show _ = _
    rw [hw2, hB]; exact heap_old _ (heap_new _ _)
  have HC0 : Hid (Chg (fun _ => False) w w2) := by show Chg _ _ _; rw [hw2]; exact ((Chg.refl _ w).alloc _).alloc _
  have HBw := Lib.hid hB
  clear hw2 s1
  go_enter Try.func27, Try.ntmps27
  go_wp2
  go_loopw [15] (fun i wr => ∃ (k : Nat) (F : Nat → Nat), k ≤ n ∧ i = .int .i64 k ∧ Hid (IB wr (B + 1) n F) ∧ Hid (∀ q, q < k → F q = q) ∧ Hid (Chg (fun q => q = B + 1) w2 wr)) (fun i _ => n - (intOf i).toNat)
  case atStart => exact ⟨0, _, Nat.zero_le _, rfl, by rw [← HW2.out]; exact HI0, fun q hq => absurd hq (by omega), by rw [← HW2.out]; exact Chg.refl _ _⟩
  case round =>
    obtain ⟨wo, rfl⟩ : ∃ wo : World, wo = wr := ⟨_, rfl⟩
    obtain ⟨k, F, hk, rfl, HI, HF, HC⟩ := hrel
    by_cases hlt : k < n
    · have o0 := HI.out.cell hlt
      have o1 := HI.out.free k
      rw [HBw.out] at o0 o1
      have i1 : (k : Int) < (n : Int) := by omega
      go_wp2
      go_roundw
      case rel =>
        refine ⟨k + 1, fun q => if q = k then k else F q, hlt, by go_num, ?_, fun q hq => ?_, ?_⟩
        · rw [← HBw.out]; exact HI.out.set hlt k
        · show (if q = k then k else F q) = q
          by_cases e : q = k
          · rw [if_pos e, e]
          · rw [if_neg e]; exact HF.out q (by omega)
        · rw [← HBw.out]; exact HC.out.set (.inr rfl)
      case measure => simp [intOf]; omega
    · obtain rfl : k = n := by omega
      have HO : Hid (Holds Lh.encI wo (B + 1) 0 (Array.range k)) := fun j hj => by
        have hj' : j < k := by simpa using hj
        rw [Nat.zero_add]
        refine ⟨?_, HI.out.free j⟩
        rw [HI.out.cell hj', HF.out j hj', getElem!_pos (Array.range k) j hj]
        simp
      have HRow : Hid (Row wo (B + 1) 0 k) := ⟨Array.range k, by simp, HO.out⟩
      have HBo : Hid (wo.heap[B]? = some (.cells #[.slice A k c] 28 (0, 0))) := HC.out.at_ HB0.out (by omega)
      have HLo : Hid (∀ b off, A = some ⟨b, off, none⟩ → b < w.heap.size → ∀ W : World, Chg (fun q => q = B + 1) wo W → ∀ x, (wo.cell? ⟨b, off + x, none⟩ = w.cell? ⟨b, off + x, none⟩ ∧ W.cell? ⟨b, off + x, none⟩ = w.cell? ⟨b, off + x, none⟩)) := fun b off _ hb W hW x => by
        have e1 : wo.heap[b]? = w.heap[b]? := (HC.out.block b (by have := HC0.out.size; omega) (by omega)).trans (HC0.out.block b hb (fun h => h))
        have e2 : W.heap[b]? = wo.heap[b]? := hW.block b (by have := HC0.out.size; have := HC.out.size; omega) (by omega)
        exact ⟨World.cell?_of_block e1, World.cell?_of_block (e2.trans e1)⟩
      have HCm : Hid (Cm (kl ls) wo (B + 1) 0 k k (some ⟨B, 0, none⟩)) := fun D W hS x y hx hy => by
        obtain ⟨b, off, rfl, hb, hc⟩ := HR.out (by omega)
        have hch := SW.chg hS
        exact cmp_any ls B b off k c x y W (cell_at (hch.at_ HBo.out (by omega)) 0 rfl) (by omega) hx hy ((HLo.out b off rfl hb W hch x).2.trans (hc x hx)) ((HLo.out b off rfl hb W hch y).2.trans (hc y hy))
      have hr := sortStable_c k HCm HRow (SW.start (N := k) (by simp) (fun q hq => by rw [getElem!_pos (Array.range k) q (by simpa using hq)]; simpa using hq) HO.out) (by omega)
      have HRN : Hid (Row wo (B + 1) 0 k) := HRow
      clear HCm HO HI HF
      rw [HBw.out] at hr
      go_wp2_with fail
      refine hr.mono ?_
      clear hr
      rintro e w4 ⟨rfl, E, S4, P4, D4⟩
      rw [← HBw.out] at S4
      have HOrd : Hid (Ord ls k (fun q => E[q]!)) := ord_of S4.1 P4 D4
      have HE : Hid (∀ q, q < k → w4.cell? ⟨B + 1, q, none⟩ = some (.int .i64 ((E[q]! : Nat) : Int))) := fun q hq => by
        have := S4.cell HRN.out q hq
        rwa [Nat.zero_add] at this
      have HC4 : Hid (Chg (fun q => q = B + 1) w2 w4) := HC.out.trans (SW.chg S4) (fun _ _ h => h)
      have HB4 : Hid (w4.heap[B]? = some (.cells #[.slice A k c] 28 (0, 0))) := (SW.chg S4).at_ HBo.out (by omega)
      have hb4 := cell_at HB4.out 0 rfl
      rw [HBw.out] at hb4
      clear S4 P4 D4 HLo HBo HC
      obtain ⟨g, hg⟩ : ∃ g, g = w4.heap.size := ⟨_, rfl⟩
      have HG := Lib.hid hg
      obtain ⟨w5, hw5⟩ : ∃ w5, w5 = w4.alloc (.cells (madeCells #[.int .i64 0] k) 3) := ⟨_, rfl⟩
      have HW5 := Lib.hid hw5
      have HI5 : Hid (IB w5 g k (fun _ => 0)) := by show IB _ _ _ _; rw [hw5, hg]; exact IB.made _ _
      have C5 : Hid (Chg (fun _ => False) w4 w5) := by show Chg _ _ _; rw [hw5]; exact (Chg.refl _ _).alloc _
      have hgl : B + 1 < g := by have := HI0.out.lt; have := HC4.out.size; omega
      have HQ : Hid (∀ W, Chg (fun q => q = g) w5 W → (∀ q, q < k → W.cell? ⟨B + 1, q, none⟩ = some (.int .i64 ((E[q]! : Nat) : Int))) ∧ W.cell? ⟨B, 0, none⟩ = some (.slice A k c) ∧ ∀ b off, b < B → ∀ x, W.cell? ⟨b, off + x, none⟩ = w.cell? ⟨b, off + x, none⟩) := fun W hW => by
        have e1 : ∀ j, j < g → W.heap[j]? = w4.heap[j]? := fun j hj => (hW.block j (by have := C5.out.size; omega) (by omega)).trans (C5.out.block j (by omega) (fun h => h))
        refine ⟨fun q hq => (World.cell?_of_block (e1 _ hgl)).trans (HE.out q hq), (World.cell?_of_block (e1 B (by omega))).trans (cell_at HB4.out 0 rfl), fun b off hb x => World.cell?_of_block ?_⟩
        exact (e1 b (by omega)).trans ((HC4.out.block b (by have := HC0.out.size; omega) (by omega)).trans (HC0.out.block b (by omega) (fun h => h)))
      have HF5 : Hid (∀ W, Chg (fun q => q = g) w5 W → Chg (fun _ => False) w W) := fun W hW => by
        have a1 : Chg (fun q => B + 1 ≤ q) w w2 := HC0.out.mono (fun _ _ h => h.elim)
        have a2 : Chg (fun q => B + 1 ≤ q) w2 w4 := HC4.out.mono (fun _ _ h => by omega)
        have a3 : Chg (fun q => B + 1 ≤ q) w4 w5 := C5.out.mono (fun _ _ h => h.elim)
        have a4 : Chg (fun q => B + 1 ≤ q) w5 W := hW.mono (fun _ _ h => by omega)
        exact (((a1.trans a2 (fun _ _ h => h)).trans a3 (fun _ _ h => h)).trans a4 (fun _ _ h => h)).mono (fun j hj e => by omega)
      rw [HBw.out] at HQ
      have HGL : Hid (w.heap.size ≤ g) := by show _ ≤ _; omega
      clear hgl hw5 HE HB4 HC4 HRN HRow HI0 HB0 hg
      go_wp2
      go_loopw [31] (fun v wr => ∃ (m : Nat) (F : Nat → Nat), m ≤ k ∧ v = .int .i64 m ∧ Hid (IB wr g k F) ∧ Hid (H1 ls k m (fun q => E[q]!) F) ∧ Hid (Chg (fun q => q = g) w5 wr)) (fun v _ => k - (intOf v).toNat)
      case atStart => exact ⟨0, _, Nat.zero_le _, rfl, by rw [← HW5.out]; exact HI5, fun q hq => by rw [if_neg (by omega)], by rw [← HW5.out]; exact Chg.refl _ _⟩
      case round =>
        obtain ⟨wi, rfl⟩ : ∃ wi : World, wi = wr := ⟨_, rfl⟩
        obtain ⟨m, F, hm, rfl, HI, HF, HC⟩ := hrel
        by_cases hltm : m < k
        · have i1 : (m : Int) < (k : Int) := by omega
          obtain ⟨b, off, rfl, hb, hc⟩ := HR.out (by omega)
          have HCC := Lib.hid hc
          obtain ⟨i, hi⟩ : ∃ i, i = E[m]! := ⟨_, rfl⟩
          have hik : i < k := by rw [hi]; exact HOrd.out.lt m hltm
          obtain ⟨q1, q2, q3⟩ := HQ.out wi HC.out
          have o1 := q1 m hltm
          rw [← hi] at o1
          have HII := Lib.hid hi
          clear q1 q2 q3 hc hi
          go_wp2
          go_loopw [40] (fun v wr => ∃ (q : Nat) (F : Nat → Nat), q ≤ m ∧ v = .int .i64 q ∧ Hid (IB wr g k F) ∧ Hid (H2 ls k m q (fun q => E[q]!) F) ∧ Hid (Chg (fun q => q = g) w5 wr)) (fun v _ => m - (intOf v).toNat)
          case atStart => exact ⟨0, F, Nat.zero_le _, rfl, HI, HF.out.open hltm, HC⟩
          case round =>
            clear HI HF HC
            obtain ⟨wj, rfl⟩ : ∃ wj : World, wj = wr := ⟨_, rfl⟩
            obtain ⟨q, F2, hq, rfl, HI, HF, HC⟩ := hrel
            by_cases hltq : q < m
            · have i2 : (q : Int) < (m : Int) := by omega
              obtain ⟨j, hj⟩ : ∃ j, j = E[q]! := ⟨_, rfl⟩
              have hjk : j < k := by rw [hj]; exact HOrd.out.lt q (by omega)
              obtain ⟨q1, q2, q3⟩ := HQ.out wj HC.out
              have o1 := q1 q (by omega)
              have o2 := q2
              have o3 := (q3 b off hb j).trans (HCC.out j hjk)
              have o4 := (q3 b off hb i).trans (HCC.out i hik)
              rw [← hj] at o1
              have j1 : (j : Int) < (k : Int) := by omega
              have j2 : (i : Int) < (k : Int) := by omega
              obtain ⟨x, hx⟩ : ∃ x, x = ls.getD j 0 := ⟨_, rfl⟩
              obtain ⟨y, hy⟩ : ∃ y, y = ls.getD i 0 := ⟨_, rfl⟩
              rw [← hx] at o3
              rw [← hy] at o4
              have hx64 : x < B64 := by rw [hx]; exact H64.out j (by have := HL.out; omega)
              have hy64 : y < B64 := by rw [hy]; exact H64.out i (by have := HL.out; omega)
              have HX := Lib.hid hx
              have HY := Lib.hid hy
              have HJ := Lib.hid hj
              clear q1 q2 q3 hj hx hy
              have hbel : ∀ W, Calls Try.prog 57 #[.int .u64 x, .int .u64 y] W fun e w' => e = .returned (.bool (bel x y)) ∧ w' = W := fun W => (below_any x y W hx64 hy64).mono (fun _ _ h => ⟨h.1, h.2.symm⟩)
              cases hbv : bel x y with
              | true =>
                rw [hbv] at hbel
                have f1 := HI.out.cell (q := i) hik
                have f2 := HI.out.cell (q := j) hjk
                have f3 := HI.out.free i
                rw [HG.out] at f1 f2 f3
                obtain ⟨a, ha⟩ : ∃ a, a = F2 i := ⟨_, rfl⟩
                obtain ⟨d, hd⟩ : ∃ d, d = F2 j := ⟨_, rfl⟩
                rw [← ha] at f1
                rw [← hd] at f2
                have HA := Lib.hid ha
                have HD := Lib.hid hd
                have HBV : Hid (bel (ls.getD (E[q]!) 0) (ls.getD (E[m]!) 0) = true) := by show _ = _; rw [← HJ.out, ← HII.out, ← HX.out, ← HY.out]; exact hbv
                have hdb : Hid (d ≤ ls.length) := by
                  show _ ≤ _
                  have := HF.out.oth q (by omega) (by omega)
                  rw [if_pos hltq] at this
                  rw [hd, HJ.out, this]
                  exact hg_len _ _
                have hdz : (d : Int) + 1 ≤ 17592186044417 := by have := hdb.out; have := HL.out; omega
                clear ha hd hbv
                go_wp2_with fail
                go_quiet ((go_at_call 57; exact Calls.quiet_of_same (hbel _)))
                clear o3 o4 o2 o1
                go_wp2_with fail
                go_region
                all_goals go_wp2
                go_roundw
                case rel =>
                  have em : max (a : Int) ((d : Int) + 1) = ((max a (d + 1) : Nat) : Int) := by omega
                  refine ⟨q + 1, fun t => if t = i then max a (d + 1) else F2 t, hltq, by go_num, ?_, ?_, ?_⟩
                  · show IB _ _ _ _
                    rw [em, ← HG.out]
                    exact (HI.out.move (w' := wj.drewN (nq + 1)) rfl).set hik (max a (d + 1))
                  · have hm := HF.out.more HL.out HOrd.out hltm hltq HBV.out
                    show H2 _ _ _ _ _ _
                    rw [← HII.out, ← HJ.out, ← HA.out, ← HD.out] at hm
                    exact hm
                  · show Chg _ _ _
                    rw [em, ← HG.out]
                    exact (HC.out.drewN (nq + 1)).set (.inr rfl)
                case measure => simp [intOf]; omega
              | false =>
                rw [hbv] at hbel
                have HBV : Hid (bel (ls.getD (E[q]!) 0) (ls.getD (E[m]!) 0) = false) := by show _ = _; rw [← HJ.out, ← HII.out, ← HX.out, ← HY.out]; exact hbv
                clear hbv
                go_wp2_with fail
                go_quiet ((go_at_call 57; exact Calls.quiet_of_same (hbel _)))
                go_wp2
                go_roundw
                case rel => exact ⟨q + 1, F2, hltq, by go_num, HI.out.move rfl, HF.out.skip HBV.out, HC.out.drewN _⟩
                case measure => simp [intOf]; omega
            · obtain rfl : q = m := by omega
              go_wp2
              go_roundw
              case rel => exact ⟨q + 1, F2, hltm, by go_num, HI, HF.out.shut HL.out HOrd.out hltm, HC⟩
              case measure => simp [intOf]; omega
        · obtain rfl : m = k := by omega
          go_wp2
          go_ret
          exact ⟨g, F, by rw [HG.out]; rfl, HGL.out, HI.out, HF.out.done HOrd.out, HF5.out wi HC.out⟩
end Go.Proofs.Ytdfplhoijapoeaa.Lhi
