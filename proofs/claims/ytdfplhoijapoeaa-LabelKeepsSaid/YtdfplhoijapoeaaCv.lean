/- label.Covers of at most 2^20 labels, by contract. Conditions: the row reads so, labels below 2^64. -/
import Derived.Test.YtdfplhoijapoeaaSj
import Derived.Test.YtdfplhoijapoeaaLcv
set_option linter.unusedVariables false
set_option linter.unusedSimpArgs false
namespace Go.Proofs.Ytdfplhoijapoeaa.Lcw
open Go.RowKit Go.Maps Go.Sort Go.Proofs.Ytdfplhoijapoeaa.Lib1 Go.Proofs.Ytdfplhoijapoeaa.Lat Go.Proofs.Ytdfplhoijapoeaa.Lbl Go.Proofs.Ytdfplhoijapoeaa.Lbw Go.Proofs.Ytdfplhoijapoeaa.Lck Go.Proofs.Ytdfplhoijapoeaa.Ki Go.Proofs.Ytdfplhoijapoeaa.Kj Go.Proofs.Ytdfplhoijapoeaa.Lks Go.Proofs.Ytdfplhoijapoeaa.Lcb Go.Proofs.Ytdfplhoijapoeaa.Lis Go.Proofs.Ytdfplhoijapoeaa.Lcv Go.Proofs.Ytdfplhoijapoeaa.Lsj

set_option maxRecDepth 100000 in
set_option maxHeartbeats 4000000 in
theorem covers_some (ls : List Nat) (A : Option Addr) (n c : Nat) (w : World) (h : Rd (fun k => k < w.heap.size) w A n c 1 (us ls)) (h1 : 1 ≤ n) (h12 : n ≤ 1048576) (hl : ∀ x ∈ ls, x < B64) :
    Calls Try.prog 34 #[.slice A n c] w fun e w' => ∃ v, e = .returned v ∧ w'.ownsRow w.heap.size 62 2 v (covs ls ls ls.length).length (flat2 (covs ls ls ls.length)) ∧ Chg (fun _ => False) w w' := by
  have HL : Hid (ls.length = n) := by have := h.len; rw [us_len] at this; show _ = _; omega
  have hmm := @run_makeMap Try.prog
  obtain ⟨b, off, rfl, hbs, hc⟩ := rd_us h (by omega)
  have HC := Lib.hid hc
  have H64 : Hid (∀ k, k < ls.length → ls.getD k 0 < B64) := fun k hk => hl _ (by rw [List.getD_eq_getElem?_getD, List.getElem?_eq_getElem hk]; simp)
  have hcap := h.cap
  have HLL := Lib.hid hl
  clear h hc hl
  go_enter Try.func34, Try.ntmps34
  go_wp2
  go_loopw [21] (fun i wr => ∃ (k : Nat) (D : DT), k ≤ n ∧ i = .int .i64 k ∧ wr.ownsMap Try.prog KL RI w.heap.size k D ∧ There D ls k ∧ Chg (fun _ => False) w wr)
    (fun i _ => n - (intOf i).toNat)
  case atStart => exact ⟨0, _, by omega, rfl, World.ownsMap_made _ _ _ _, there_nil _, (Chg.refl _ w).alloc _⟩
  case round =>
    obtain ⟨k, D, hk, rfl, hown, hD, hch⟩ := hrel
    have HD := Lib.hid hD
    clear hD
    by_cases hlt : k < n
    · have hcx : wr.cell? ⟨b, off + k, none⟩ = some (.int .u64 ((ls.getD k 0 : Nat) : Int)) := (World.cell?_of_block (hch.block b hbs (fun h => h))).trans (HC.out k hlt)
      have hkey := key_of (H64.out k (by have := HL.out; omega))
      obtain ⟨x, hx⟩ : ∃ x, x = ls.getD k 0 := ⟨_, rfl⟩
      rw [← hx] at hcx hkey
      have HX := Lib.hid hx
      clear hx
      go_wp2_with (first
        | (at_lookup; refine wpList_lookup_own_int _ rfl _ _ 87 rfl 23 3 .i64 (int_keyed uL) Try.underlying87 uI (zeroI _) w.heap.size k _ rfl hown _ _ rfl hkey ?_; intro cc hat hwc)
        | (at_mapUpdate; refine wpList_mapUpdate_own _ rfl _ _ _ 87 rfl 23 3 (int_keyed uL) Try.underlying87 _ w.heap.size k _ rfl hown (by unfold maxLen; omega) _ _ _ rfl rfl hkey _ [] (plainElem_int uI (wrap64_wf _)) ?_; intro w1 hown1 hgrow1)
        | go_in)
      go_roundw
      case rel => exact ⟨k + 1, _, by omega, by go_num, hown1, by rw [HX.out]; exact HD.out.step (by have := HL.out; omega) _, hch.of_grown hgrow1 (fun j hj => by cases hj; exact .inl (Nat.le_refl _))⟩
      case measure => simp [intOf]; omega
    · have : k = n := by omega
      subst this
      obtain ⟨bm, hbm⟩ : ∃ bm, bm = wr.heap.size := ⟨_, rfl⟩
      have hLn := HL.out
      have hmem : ∀ x, has D (kl x) = true ↔ x ∈ ls := fun x => by rw [HD.out.2 x, List.take_of_length_le (by omega)]
      have HS := Lib.hid (sorted_all bm w.heap.size k D (wr.alloc (.cells #[.map (some w.heap.size)] 87)) (by rw [hbm]; exact cell_at (heap_new wr _) 0 rfl) (hown.alloc _) (by have := hown.size_le; omega) (ls.getD 0 0) ((hmem _).2 (by rw [List.getD_eq_getElem?_getD, List.getElem?_eq_getElem (by omega)]; simp)))
      unfold keysF at HS
      have HM := Lib.hid hmem
      have HZ := Lib.hid hown.size_le
      have HW := Lib.hid hch
      clear hmem hown hch hLn
      go_wp2_with fail
      refine (keys_any _ _).mono ?_
      rintro e w1 ⟨rfl, rfl⟩
      rw [← hbm]
      clear hbm
      go_wp2_with fail
      refine HS.out.mono ?_
      clear HS
      rintro e w2 ⟨v, rfl, g, c2, cs, rfl, hk2, hs2, hr2, hg2, hch2⟩
      have hW : Chg (fun _ => False) w w2 := (HW.out.alloc _).trans hch2 (fun _ _ h => h)
      have hcs : Hid (∀ x, x ∈ cs ↔ x ∈ ls) := fun x => by rw [hk2.1.2 x, HM.out x]
      have hm12 : cs.length ≤ 1048576 := by have := hk2.2; have := HZ.out; omega
      clear hk2 hs2 hg2 hch2 HZ HM HD HW
      clear D wr
      have HCC : Hid (∀ k, k < cs.length → ∀ W, Chg (fun _ => False) w2 W → W.cell? ⟨g, k, none⟩ = some (.int .u64 ((cs.getD k 0 : Nat) : Int))) := fun k hk W hc => by
        obtain ⟨b', off', e, -, hcc⟩ := rd_us hr2 (by omega)
        cases e
        have := hcc k hk
        rw [Nat.zero_add] at this
        exact (World.cell?_of_block (hc.block g (World.block_lt_of_cell? _ _ this) (fun h => h))).trans this
      have HRD := Lib.hid hr2
      have HB2 : Hid (∀ x ∈ cs, x < B64) := fun x hx => HLL.out x ((hcs.out x).1 hx)
      have HB : Hid (∀ p, p < cs.length → cs.getD p 0 < B64) := fun p hp => HB2.out _ (by rw [List.getD_eq_getElem?_getD, List.getElem?_eq_getElem hp]; simp)
      have HGL : Hid (0 < cs.length → g < w2.heap.size) := fun h => World.block_lt_of_cell? _ _ (HCC.out 0 h w2 (Chg.refl _ _))
      have HWW := Lib.hid hW
      have hcc2 := hr2.cap
      clear hr2 hW
      obtain ⟨wm, hwm⟩ : ∃ wm, wm = w2.alloc (.map #[] 0) := ⟨_, rfl⟩
      go_wp2
      go_loopw [36] (fun i wr => ∃ (p nn : Nat) (D : DT), p ≤ cs.length ∧ i = .int .i64 p ∧ nn ≤ p * cs.length ∧ wr.ownsMap Try.prog 95 RI w2.heap.size nn D ∧ Right D cs p 0 ∧ Chg (fun _ => False) w2 wr)
        (fun i _ => cs.length - (intOf i).toNat)
      case atStart => exact ⟨0, 0, _, by omega, rfl, by omega, World.ownsMap_made _ _ _ _, right_nil _, (Chg.refl _ w2).alloc _⟩
      case round =>
        obtain ⟨p, nn, D, hp, rfl, hnn, hown, hR, hch⟩ := hrel
        obtain ⟨wo, hwo⟩ : ∃ wo, wo = wr := ⟨_, rfl⟩
        subst hwo
        have HR := Lib.hid hR
        have HO := Lib.hid hown
        have HH := Lib.hid hch
        clear hR hown hch
        by_cases hpl : p < cs.length
        · have hca := HCC.out p hpl wo HH.out
          obtain ⟨x, hx⟩ : ∃ x, x = cs.getD p 0 := ⟨_, rfl⟩
          rw [← hx] at hca
          have HX := Lib.hid hx
          clear hx
          go_wp2
          obtain ⟨w3, hw3⟩ : ∃ w3, wo.alloc (.cells #[.int .u64 (x : Int)] 23) = w3 := ⟨_, rfl⟩
          obtain ⟨pa, hpa⟩ : ∃ pa, wo.heap.size = pa := ⟨_, rfl⟩
          have HA : Hid (w3.heap[pa]? = some (.cells #[.int .u64 (x : Int)] 23 (0, 0))) := by show _ = _; rw [← hw3, ← hpa]; exact heap_new wo _
          have HO3 : Hid (w3.ownsMap Try.prog 95 RI w2.heap.size nn D) := by rw [← hw3]; exact HO.out.alloc _
          have HH3 : Hid (Chg (fun _ => False) w2 w3) := by rw [← hw3]; exact HH.out.alloc _
          have hpn : w2.heap.size < pa := by rw [← hpa]; exact HO.out.lt
          rw [hw3, hpa]
          clear hw3 hpa HO HH hca
          clear wo
          go_loopw [42] (fun j wr => ∃ (q nn : Nat) (D : DT), q ≤ cs.length ∧ j = .int .i64 q ∧ nn ≤ p * cs.length + q ∧ wr.ownsMap Try.prog 95 RI w2.heap.size nn D ∧ Right D cs p q ∧ Chg (fun _ => False) w2 wr ∧ wr.heap[pa]? = some (.cells #[.int .u64 (x : Int)] 23 (0, 0)))
            (fun j _ => cs.length - (intOf j).toNat)
          case atStart => exact ⟨0, nn, D, by omega, rfl, by omega, HO3.out, HR.out, HH3.out, HA.out⟩
          case round =>
            clear HO3 HR hnn HA HH3
            clear nn D w3
            obtain ⟨q, nn, D, hq, rfl, hnn, hown, hR, hch, hpa⟩ := hrel
            obtain ⟨wo, hwo⟩ : ∃ wo, wo = wr := ⟨_, rfl⟩
            subst hwo
            have HR := Lib.hid hR
            have HO := Lib.hid hown
            have HH := Lib.hid hch
            have HA := Lib.hid hpa
            clear hR hown hch hpa
            by_cases hql : q < cs.length
            · have hcb := HCC.out q hql wo HH.out
              obtain ⟨y, hy⟩ : ∃ y, y = cs.getD q 0 := ⟨_, rfl⟩
              rw [← hy] at hcb
              have HY := Lib.hid hy
              clear hy
              have k1 := cell_at HA.out 0 rfl
              have hlt := World.block_lt_of_cell? _ _ k1
              have hx64 : x < B64 := by have := HX.out; subst this; exact HB.out p hpl
              have hy64 : y < B64 := by have := HY.out; subst this; exact HB.out q hql
              obtain ⟨W, hW⟩ : ∃ W, wo.alloc (.cells #[.int .u64 (y : Int)] 23) = W := ⟨_, rfl⟩
              obtain ⟨pb, hpb⟩ : ∃ pb, wo.heap.size = pb := ⟨_, rfl⟩
              have HW2 : Hid (Chg (fun _ => False) w2 W) := by rw [← hW]; exact HH.out.alloc _
              have HW3 : Hid (W.heap[pa]? = some (.cells #[.int .u64 (x : Int)] 23 (0, 0))) := by show _ = _; rw [← hW]; exact heap_old _ HA.out
              have HOW : Hid (W.ownsMap Try.prog 95 RI w2.heap.size nn D) := by rw [← hW]; exact HO.out.alloc _
              have ka : W.cell? ⟨pa, 0, none⟩ = some (.int .u64 (x : Int)) := by rw [← hW]; exact cell_at (heap_old _ HA.out) 0 rfl
              have kb : W.cell? ⟨pb, 0, none⟩ = some (.int .u64 (y : Int)) := by rw [← hW, ← hpb]; exact cell_at (heap_new wo _) 0 rfl
              have HK := Lib.hid (contf_any cs (some ⟨g, 0, none⟩) cs.length c2 W (fun k => k = g) (HRD.out.move (fun k hk => HW2.out.block k (by rw [hk]; exact HGL.out (by omega)) (fun h => h))) (by omega) ka kb hx64 hy64 HB2.out)
              unfold betF at HK
              have HBL := Lib.hid (below_any x y W hx64 hy64)
              go_wp2_with fail
              try rw [hW]
              try rw [hpb]
              clear hW hpb HH HO HA k1 hlt hcb
              clear wo
              refine HBL.out.mono ?_
              rintro e W1 ⟨rfl, rfl⟩
              have HE : Hid (rt cs x y = (bel x y && !(cs.any (btw x y)))) := by show _ = _; rfl
              cases hb1 : bel x y with
              | false =>
                rw [hb1] at HE
                go_wp2
                go_roundw
                case rel => exact ⟨q + 1, nn, D, hql, by go_num, by omega, HOW.out, HR.out.no (by have e1 := HX.out; have e2 := HY.out; subst e1 e2; simpa using HE.out), HW2.out, HW3.out⟩
                case measure => simp [intOf]; omega
              | true =>
                rw [hb1] at HE
                go_wp2_with fail
                refine HK.out.mono ?_
                rintro e W1 ⟨rfl, rfl⟩
                cases hb2 : cs.any (btw x y) with
                | true =>
                  rw [hb2] at HE
                  go_wp2
                  go_roundw
                  case rel => exact ⟨q + 1, nn, D, hql, by go_num, by omega, HOW.out, HR.out.no (by have e1 := HX.out; have e2 := HY.out; subst e1 e2; simpa using HE.out), HW2.out, HW3.out⟩
                  case measure => simp [intOf]; omega
                | false =>
                  rw [hb2] at HE
                  have hnm : nn < maxLen := by
                    have : p * cs.length ≤ 1048576 * 1048576 := Nat.mul_le_mul (by omega) hm12
                    unfold maxLen; omega
                  go_wp2_with (first
                    | (at_mapUpdate; refine wpList_mapUpdate_own _ rfl _ _ _ 92 rfl 95 3 keyed2 Try.underlying92 _ w2.heap.size nn _ rfl HOW.out hnm _ _ _ rfl rfl (key_pair hx64 hy64) o1 [] (plainElem_int uI (by decide)) ?_; intro w4 hown4 hgrow4)
                    | go_in)
                  go_roundw
                  case rel => exact ⟨q + 1, nn + 1, _, hql, by go_num, by omega, hown4, (by have e1 := HX.out; have e2 := HY.out; subst e1 e2; exact HR.out.yes HB.out hpl hql (by simpa using HE.out)), HW2.out.of_grown hgrow4 (fun j hj => by cases hj; exact .inl (Nat.le_refl _)), grow_keep hgrow4 HW3.out (fun h => by have := Option.some.inj h; omega)⟩
                  case measure => simp [intOf]; omega
            · have : q = cs.length := by omega
              subst this
              go_wp2
              go_roundw
              case rel => exact ⟨p + 1, nn, D, hpl, by go_num, by rw [Nat.succ_mul]; exact hnn, HO.out, HR.out.row (Nat.le_refl _), HH.out⟩
              case measure => simp [intOf]; omega
        · have : p = cs.length := by omega
          subst this
          have HT : Hid (∀ a b, a ∈ cs → b ∈ cs → (D.atKey (kk a b) z0 = o1 ↔ rt cs a b = true)) := fun a b ha hb => HR.out.tell (Nat.le_refl _) HB2.out ha hb
          have HCL : Hid (∀ k', k' < ls.length → ∀ W, Chg (fun _ => False) w W → W.cell? ⟨b, off + k', none⟩ = some (.int .u64 ((ls.getD k' 0 : Nat) : Int))) := fun k' hk' W hc => (World.cell?_of_block (hc.block b hbs (fun h => h))).trans (HC.out k' (by have := HL.out; omega))
          have hLn := HL.out
          have HWo : Hid (Chg (fun _ => False) w wo) := HWW.out.trans HH.out (fun _ _ h => h)
          have hbm : w2.heap.size < wo.heap.size := HO.out.lt
          clear HR HH HB HB2 HCC HRD HWW HGL
          go_wp2
          go_loopw [13, 64] (fun v i wr => ∃ (p : Nat), p ≤ ls.length ∧ i = .int .i64 p ∧ wr.ownsRow wo.heap.size 62 2 v (covs cs ls p).length (flat2 (covs cs ls p)) ∧ Chg (fun _ => False) wo wr)
            (fun _ i _ => ls.length - (intOf i).toNat)
          case atStart => exact ⟨0, by omega, rfl, World.ownsRow_nil _ _ _ _, Chg.refl _ _⟩
          case round =>
            obtain ⟨p, hp, rfl, hrow, hch⟩ := hrel
            obtain ⟨wa, hwa⟩ : ∃ wa, wa = wr := ⟨_, rfl⟩
            subst hwa
            obtain ⟨A1, c1, rfl, -⟩ := Rd.of_own hrow
            have HO1 := Lib.hid hrow
            have HH1 := Lib.hid hch
            clear hrow hch
            by_cases hpl : p < k
            · have hca := HCL.out p (by omega) wa (HWo.out.trans HH1.out (fun _ _ h => h))
              obtain ⟨x, hx⟩ : ∃ x, x = ls.getD p 0 := ⟨_, rfl⟩
              rw [← hx] at hca
              have HX := Lib.hid hx
              clear hx
              go_wp2
              go_loopw [13, 71] (fun v i wr => ∃ (q : Nat), q ≤ ls.length ∧ i = .int .i64 q ∧ wr.ownsRow wo.heap.size 62 2 v (covs cs ls p ++ rowC cs ls p q).length (flat2 (covs cs ls p ++ rowC cs ls p q)) ∧ Chg (fun _ => False) wo wr)
                (fun _ i _ => ls.length - (intOf i).toNat)
              case atStart => exact ⟨0, by omega, rfl, by simpa [rowC] using HO1.out, HH1.out⟩
              case round =>
                clear hca HO1 HH1
                obtain ⟨q, hq, rfl, hrow, hch⟩ := hrel
                obtain ⟨wb, hwb⟩ : ∃ wb, wb = wr := ⟨_, rfl⟩
                subst hwb
                obtain ⟨L, hL⟩ : ∃ L, L = covs cs ls p ++ rowC cs ls p q := ⟨_, rfl⟩
                rw [← hL] at hrow
                have HLL2 := Lib.hid hL
                clear hL
                obtain ⟨A1, c1, rfl, -⟩ := Rd.of_own hrow
                have HO1 := Lib.hid hrow
                have HH1 := Lib.hid hch
                clear hrow hch
                by_cases hql : q < k
                · have hcb := HCL.out q (by omega) wb (HWo.out.trans HH1.out (fun _ _ h => h))
                  obtain ⟨y, hy⟩ : ∃ y, y = ls.getD q 0 := ⟨_, rfl⟩
                  rw [← hy] at hcb
                  have HY := Lib.hid hy
                  clear hy
                  have hx64 : x < B64 := by have := HX.out; subst this; exact H64.out p (by omega)
                  have hy64 : y < B64 := by have := HY.out; subst this; exact H64.out q (by omega)
                  have HBL := Lib.hid (below_any x y wb hx64 hy64)
                  have HE : Hid (rt cs x y = (bel x y && !(cs.any (btw x y)))) := by show _ = _; rfl
                  have HMX : Hid (x ∈ cs ∧ y ∈ cs) := by
                    have e1 := HX.out; have e2 := HY.out
                    refine ⟨(hcs.out x).2 ?_, (hcs.out y).2 ?_⟩
                    · rw [e1, List.getD_eq_getElem?_getD, List.getElem?_eq_getElem (by omega)]; simp
                    · rw [e2, List.getD_eq_getElem?_getD, List.getElem?_eq_getElem (by omega)]; simp
                  have HOM : Hid (wb.ownsMap Try.prog 95 RI w2.heap.size nn D) := by
                    obtain ⟨es, clock, hb, Ft, hs, hD⟩ := HO.out
                    exact ⟨es, clock, (HH1.out.block _ hbm (fun h => h)).trans hb, Ft, hs, hD⟩
                  go_wp2_with fail
                  refine HBL.out.mono ?_
                  rintro e W1 ⟨rfl, rfl⟩
                  cases hb1 : bel x y with
                  | false =>
                    rw [hb1] at HE
                    go_wp2
                    go_roundw
                    case rel => exact ⟨q + 1, by omega, by go_num, by rw [rowC_no (by rw [← HX.out, ← HY.out]; simpa using HE.out), ← HLL2.out]; exact HO1.out, HH1.out⟩
                    case measure => simp [intOf]; omega
                  | true =>
                    rw [hb1] at HE
                    obtain ⟨cc, hrun, hat, -⟩ := HOM.out.lookup_int keyed2 Try.underlying92 uI (zeroI _) (key_pair hx64 hy64)
                    have HAT : Hid (D.atKey (kk x y) z0 = .lit (.int .i64 cc)) := hat
                    clear hat
                    by_cases h1c : cc = 1
                    · subst h1c
                      have hrt : Hid (rt cs x y = true) := (HT.out x y HMX.out.1 HMX.out.2).1 HAT.out
                      have hLn2 : L.length ≤ 1099512676352 := by
                        rw [HLL2.out, List.length_append]
                        have h1 := covs_len cs ls p
                        have h2 := rowC_len cs ls p q
                        have h3 : p * ls.length ≤ 1048576 * 1048576 := Nat.mul_le_mul (by omega) (by omega)
                        omega
                      have hbs2 := HH1.out.size
                      go_wp2_with (first
                        | (at_builtin; refine ap_one rfl (.tmp 87) (.tmp 91) 53 rfl wo.heap.size 62 2 16 (.agg #[.int .i64 0, .int .i64 0]) Try.underlying53 infoP rfl (by decide) (by decide) (.slice A1 L.length c1) L.length _ rfl HO1.out #[.int .i64 (p : Int), .int .i64 (q : Int)] rfl rfl (by simp [Value.oneCell']) (by omega) hbs2 ?_; intro v1 w1 o1' g1 r1)
                        | go_in)
                      go_roundw
                      case rel => exact ⟨q + 1, by omega, by go_num, by rw [rowC_yes (by rw [← HX.out, ← HY.out]; exact hrt.out), ← List.append_assoc, ← HLL2.out, List.length_append, flat2_app]; exact o1', HH1.out.of_grown g1 (fun j hj => .inl (HO1.out.lt j hj).1)⟩
                      case measure => simp [intOf]; omega
                    · have hrt : Hid (rt cs x y = false) := by
                        show rt cs x y = false
                        rw [Bool.eq_false_iff]
                        intro hr
                        have := (HT.out x y HMX.out.1 HMX.out.2).2 hr
                        rw [HAT.out] at this
                        simp [o1] at this
                        exact h1c this
                      have hbq : (cc == 1) = false := by rw [beq_eq_false_iff_ne]; exact h1c
                      go_wp2
                      go_roundw
                      case rel => exact ⟨q + 1, by omega, by go_num, by rw [rowC_no (by rw [← HX.out, ← HY.out]; exact hrt.out), ← HLL2.out]; exact HO1.out, HH1.out⟩
                      case measure => simp [intOf]; omega
                · have : q = ls.length := by omega
                  subst this
                  go_wp2
                  go_roundw
                  case rel => exact ⟨p + 1, by omega, by go_num, by rw [covs_succ, ← HLL2.out]; exact HO1.out, HH1.out⟩
                  case measure => simp [intOf]; omega
            · have : p = ls.length := by omega
              subst this
              go_wp2
              go_ret
              have hcv : covs cs ls ls.length = covs ls ls ls.length := covs_same hcs.out _
              rw [hcv] at HO1
              refine ⟨.slice A1 (covs ls ls ls.length).length c1, by simp only [← hcv]; rfl, own_base_le HO1.out (fun k hk => ?_), HWo.out.trans HH1.out (fun _ _ h => h)⟩
              exact Nat.le_trans HWo.out.size (HO1.out.lt k hk).1
set_option maxRecDepth 100000 in
set_option maxHeartbeats 4000000 in
theorem covers_zero (A : Option Addr) (c : Nat) (w : World) :
    Calls Try.prog 34 #[.slice A 0 c] w fun e w' => ∃ v, e = .returned v ∧ w'.ownsRow w.heap.size 62 2 v 0 [] ∧ Chg (fun _ => False) w w' := by
  have hmm := @run_makeMap Try.prog
  go_enter Try.func34, Try.ntmps34
  go_wp2
  refine wp_loop_rounds 1 ?_
  rw [rounds_succ]
  have hw0 : ∀ W : World, Chg (fun _ => False) W (W.alloc (.map #[] 0)) := fun W => (Chg.refl _ W).alloc _
  obtain ⟨wr, hwr⟩ : ∃ wr, wr = w.alloc (.map #[] 0) := ⟨_, rfl⟩
  have hown : wr.ownsMap Try.prog KL RI w.heap.size 0 (.map []) := by rw [hwr]; exact World.ownsMap_made _ _ _ _
  have HW : Hid (Chg (fun _ => False) w wr) := by rw [hwr]; exact (Chg.refl _ w).alloc _
  rw [← hwr]
  obtain ⟨bm, hbm⟩ : ∃ bm, bm = wr.heap.size := ⟨_, rfl⟩
  have HS := Lib.hid (sorted_none bm w.heap.size 0 (.map []) (wr.alloc (.cells #[.map (some w.heap.size)] 87)) (by rw [hbm]; exact cell_at (heap_new wr _) 0 rfl) (hown.alloc _) rfl)
  unfold keysF at HS
  clear hown hwr hw0
  go_wp2_with fail
  refine (keys_any _ _).mono ?_
  rintro e w1 ⟨rfl, rfl⟩
  rw [← hbm]
  clear hbm
  go_wp2_with fail
  refine HS.out.mono ?_
  clear HS
  rintro e w2 ⟨⟨A2, c2, rfl⟩, hch2⟩
  have HC2 : Hid (Chg (fun _ => False) w w2) := (HW.out.alloc _).trans hch2 (fun _ _ h => h)
  clear hch2 HW
  go_wp2
  refine wp_loop_rounds 1 ?_
  rw [rounds_succ]
  go_wp2
  refine wp_loop_rounds 1 ?_
  rw [rounds_succ]
  go_wp2
  go_ret
  exact ⟨_, rfl, World.ownsRow_nil _ _ _ _, HC2.out.alloc _⟩
theorem covers_all (ls : List Nat) (A : Option Addr) (n c : Nat) (w : World) (h : Rd (fun k => k < w.heap.size) w A n c 1 (us ls)) (hn : n ≤ 1048576) (hl : ∀ x ∈ ls, x < B64) :
    Calls Try.prog 34 #[.slice A n c] w fun e w' => ∃ v, e = .returned v ∧ w'.ownsRow w.heap.size 62 2 v (covs ls ls ls.length).length (flat2 (covs ls ls ls.length)) ∧ Chg (fun _ => False) w w' := by
  rcases Nat.eq_zero_or_pos n with h0 | h0
  · subst h0
    have : ls = [] := List.eq_nil_of_length_eq_zero (by have := h.len; rw [us_len] at this; omega)
    subst this
    exact covers_zero A c w
  · exact covers_some ls A n c w h h0 hn hl
end Go.Proofs.Ytdfplhoijapoeaa.Lcw
