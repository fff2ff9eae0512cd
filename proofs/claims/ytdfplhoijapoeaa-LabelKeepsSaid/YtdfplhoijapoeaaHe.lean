/- The stable sort: symMergeCmpFunc whole. Conditions: the row reads so. -/
import Derived.Test.YtdfplhoijapoeaaHd
import Derived.Deep.CutRange
set_option linter.unusedVariables false
set_option linter.unusedSimpArgs false
namespace Go.Proofs.Ytdfplhoijapoeaa.Lhe
open Go.RowKit Go.Sort Go.Proofs.Ytdfplhoijapoeaa.Lib1 Go.Proofs.Ytdfplhoijapoeaa.Lh Go.Proofs.Ytdfplhoijapoeaa.Lhb Go.Proofs.Ytdfplhoijapoeaa.Lhc Go.Proofs.Ytdfplhoijapoeaa.Lhd

def MergeC (K : Nat → Nat) (w0 : World) (blk off sz N cap : Nat) (p : Option Addr) (L : Nat) : Prop := ∀ (a m b : Nat) (W : World) (D : Array Nat), b - a ≤ L → a < m → m < b → b ≤ sz → Hid (SW w0 blk off sz N D W) → Hid (Sd K a m D) → Hid (Sd K m b D) →
  Calls Try.prog 77 #[.slice (some ⟨blk, off, none⟩) sz cap, .int .i64 a, .int .i64 m, .int .i64 b, cmpV p] W fun e w' => e = .returned (.tuple #[]) ∧ ∃ E, SW w0 blk off sz N E w' ∧ PermIn a b D E ∧ Sd K a b E

set_option maxHeartbeats 1600000 in
set_option maxRecDepth 100000 in
theorem merge_step {K : Nat → Nat} {w0 : World} {blk off sz N : Nat} {p : Option Addr} (cap : Nat) (HC : Hid (Cm K w0 blk off sz N p)) (H : Hid (Row w0 blk off sz)) (hsz : sz < 4611686018427387904) (L : Nat) (IH : Hid (MergeC K w0 blk off sz N cap p L)) : MergeC K w0 blk off sz N cap p (L + 1) := by
  intro a m b W D hL ham hmb hb S hL1 hR1
  by_cases hm1 : m = a + 1
  · subst hm1; exact merge_left cap a b HC H S hmb hb hsz hR1
  by_cases hb1 : b = m + 1
  · subst hb1; exact merge_right cap a m HC H S (by omega) hb hsz hL1
  have hsD : Hid (D.size = sz) := S.out.1
  have ed0 : ((m : Int) - (a : Int) == 1) = false := by simp; omega
  have ed1 : ((b : Int) - (m : Int) == 1) = false := by simp; omega
  obtain ⟨mid, hmid⟩ : ∃ x, x = (a + b) / 2 := ⟨_, rfl⟩
  have em : ((a : Int) + (b : Int)) / 2 = (mid : Int) := by omega
  have b1 : a < mid := by omega
  have b2 : mid < b := by omega
  have HM := Lib.hid hmid
  clear hmid hm1 hb1
  go_enter Try.func77, Try.ntmps77
  go_upto_if 140 with fail
  go_cut [20, 21] from 138 (fun s20 s21 wc => s20 = .int .i64 ((s0 a m b : Nat) : Int) ∧ s21 = .int .i64 ((r0 a m b : Nat) : Int) ∧ wc = W)
  case first =>
    by_cases hmm : mid < m
    · have e1 : s0 a m b = mid + m - b := by unfold s0; rw [if_pos (by rw [← HM.out]; exact hmm), ← HM.out]
      have e2 : r0 a m b = mid := by unfold r0; rw [if_pos (by rw [← HM.out]; exact hmm), ← HM.out]
      have E1 := Lib.hid e1
      have E2 := Lib.hid e2
      clear e1 e2
      go_wp2
      go_meet
      case rel => exact ⟨by rw [E1.out]; congr 1; omega, by rw [E2.out], rfl⟩
    · have e1 : s0 a m b = a := by unfold s0; rw [if_neg (by rw [← HM.out]; exact hmm)]
      have e2 : r0 a m b = m := by unfold r0; rw [if_neg (by rw [← HM.out]; exact hmm)]
      have E1 := Lib.hid e1
      have E2 := Lib.hid e2
      clear e1 e2
      go_wp2
      go_meet
      case rel => exact ⟨by rw [E1.out], by rw [E2.out], rfl⟩
  case rest =>
    obtain ⟨rfl, rfl, rfl⟩ := hcut
    obtain ⟨k1, k2, k3, k4, k5⟩ := s0_r0 ham hmb
    rw [← HM.out] at k4 k5
    have HB0 : Hid (B3 K D a m b (s0 a m b) (r0 a m b)) := B3.start ham hmb
    have HQ : Hid (∀ c, s0 a m b ≤ c → c < r0 a m b → a ≤ c ∧ c < m ∧ m ≤ mid + m - 1 - c ∧ mid + m - 1 - c < b) := fun c h1 h2 => by rw [HM.out]; exact bounds ham hmb h1 h2
    generalize hS0 : s0 a m b = S0 at *
    generalize hR0 : r0 a m b = R0 at *
    have HS0 := Lib.hid hS0
    have HR0 := Lib.hid hR0
    clear hS0 hR0
    go_wp2
    go_loopw [20, 21] (fun vi vj wr => ∃ (i j : Nat), vi = .int .i64 i ∧ vj = .int .i64 j ∧ S0 ≤ i ∧ i ≤ j ∧ j ≤ R0 ∧ Hid (B3 K D a m b i j) ∧ Hid (SW w0 blk off sz N D wr)) (fun vi vj _ => (intOf vj).toNat - (intOf vi).toNat)
    case atStart => exact ⟨S0, R0, rfl, rfl, Nat.le_refl _, k1, Nat.le_refl _, HB0, S⟩
    case round =>
      clear S HB0
      obtain ⟨wo, rfl⟩ : ∃ wo : World, wo = wr := ⟨_, rfl⟩
      obtain ⟨i, j, rfl, rfl, hi, hij, hj, HB, S⟩ := hrel
      by_cases hlt : i < j
      · obtain ⟨h, hh⟩ : ∃ h, h = (i + j) / 2 := ⟨_, rfl⟩
        have h1 : i ≤ h := by omega
        have h2 : h < j := by omega
        obtain ⟨g1, g2, g3, g4⟩ := HQ.out h (by omega) (by omega)
        obtain ⟨z, hz⟩ : ∃ z, z = mid + m - 1 - h := ⟨_, rfl⟩
        have ez : (mid : Int) + (m : Int) - 1 - (h : Int) = (z : Int) := by omega
        have eh : ((i : Int) + (j : Int)) / 2 = (h : Int) := by omega
        have hhs : h < sz := by omega
        have has : z < sz := by omega
        have hhz : (h : Int) < (sz : Int) := by omega
        have haz : (z : Int) < (sz : Int) := by omega
        obtain ⟨x, hx⟩ : ∃ x, x = D[z]! := ⟨_, rfl⟩
        obtain ⟨y, hy⟩ : ∃ y, y = D[h]! := ⟨_, rfl⟩
        have c1 := S.out.cell H.out z has
        have c2 := S.out.cell H.out h hhs
        have f1 := S.out.free H.out z has
        have f2 := S.out.free H.out h hhs
        have hc : ∀ n, Calls Try.prog 56 #[.int .i64 x, .int .i64 y, .pointer p] (wo.drewN n) fun e w' => e = .returned (.int .i64 (cf K x y)) ∧ ∃ q, w' = (wo.drewN n).drewN q := fun n =>
          HC.out D _ (S.out.drewN n) _ _ (by rw [hx]; exact S.out.2.1 z has) (by rw [hy]; exact S.out.2.1 h hhs)
        rw [← hx] at c1
        rw [← hy] at c2
        have HX : Hid (x = D[(a + b) / 2 + m - 1 - h]!) := by show _ = _; rw [hx, hz, HM.out]
        have HY := Lib.hid hy
        have HH := Lib.hid hh
        have HZ := Lib.hid hz
        clear hx hy hh hz g1 g2 g3 g4
        cases hlv : ltK K x y with
        | true =>
          have hd : decide (cf K x y < 0) = true := by rw [cf_lt]; exact hlv
          have HU : Hid (B3 K D a m b i h) := HB.out.down ham hmb hL1.out hR1.out h1 h2 (by rw [← HX.out, ← HY.out]; simpa [ltK] using hlv)
          clear hlv
          go_wp2_with fail
          go_quiet ((go_at_call 56; exact Calls.quiet_of (hc _)))
          clear hc
          go_wp2
          go_roundw
          case rel => exact ⟨i, h, rfl, rfl, hi, h1, by omega, HU, S.out.drewN nq⟩
          case measure => simp [intOf]; omega
        | false =>
          have hd : decide (cf K x y < 0) = false := by rw [cf_lt]; exact hlv
          have HU : Hid (B3 K D a m b (h + 1) j) := HB.out.up ham hmb hL1.out hR1.out h1 h2 (by rw [← HX.out, ← HY.out]; simp [ltK] at hlv; omega)
          clear hlv
          go_wp2_with fail
          go_quiet ((go_at_call 56; exact Calls.quiet_of (hc _)))
          clear hc
          go_wp2
          go_roundw
          case rel => exact ⟨h + 1, j, by go_num, rfl, by omega, by omega, hj, HU, S.out.drewN nq⟩
          case measure => simp [intOf]; omega
      · obtain rfl : i = j := by omega
        obtain ⟨e, he⟩ : ∃ e, e = mid + m - i := ⟨_, rfl⟩
        have ee : (mid : Int) + (m : Int) - (i : Int) = (e : Int) := by omega
        have n1 : a ≤ i := by omega
        have n2 : i ≤ mid := by omega
        have n3 : mid ≤ e := by omega
        have n4 : e ≤ b := by omega
        have n5 : i ≤ m := by omega
        have n6 : m ≤ e := by omega
        have HCd : Hid (∀ E, PermIn i e D E → (∀ q, E[q]! = rot D i m e q) → Cutd K D a i mid e b E) := fun E hp hE => by
          have := HB.out.done (E := E) ham hmb hL1.out hR1.out (by rw [hsD.out]; exact hb) (by rw [← HM.out, ← he]; exact hp) (by rw [← HM.out, ← he]; exact hE)
          rw [← HM.out, ← he] at this
          exact this
        have HE := Lib.hid he
        clear he
        obtain ⟨c1, hc1⟩ : ∃ c, c = (decide (i < m) && decide (m < e)) := ⟨_, rfl⟩
        obtain ⟨c2, hc2⟩ : ∃ c, c = (decide (a < i) && decide (i < mid)) := ⟨_, rfl⟩
        obtain ⟨c3, hc3⟩ : ∃ c, c = (decide (mid < e) && decide (e < b)) := ⟨_, rfl⟩
        have Z1 := Lib.hid hc1
        have Z2 := Lib.hid hc2
        have Z3 := Lib.hid hc3
        clear hc1 hc2 hc3
        go_upto_region 39 with fail
        go_cut [24, 185] from 178 (fun s24 s185 wc => s24 = .int .i64 (e : Int) ∧ s185 = .bool c1 ∧ wc = wo)
        case first =>
          by_cases r1 : i < m
          · have r1d : decide ((i : Int) < (m : Int)) = true := by simp; omega
            by_cases r2 : m < e
            · have r2d : decide ((m : Int) < (e : Int)) = true := by simp; omega
              go_wp2
              go_meet
              case rel => exact ⟨rfl, by rw [Z1.out]; simp [r1, r2], rfl⟩
            · have r2d : decide ((m : Int) < (e : Int)) = false := by simp; omega
              go_wp2
              go_meet
              case rel => exact ⟨rfl, by rw [Z1.out]; simp [r1, r2], rfl⟩
          · have r1d : decide ((i : Int) < (m : Int)) = false := by simp; omega
            go_wp2
            go_meet
            case rel => exact ⟨rfl, by rw [Z1.out]; simp [r1], rfl⟩
        case rest =>
        obtain ⟨rfl, rfl, rfl⟩ := hcut
        go_upto_if 185 with fail
        go_cut [24] from 178 (fun s24 wc => s24 = .int .i64 (e : Int) ∧ ∃ E, SW w0 blk off sz N E wc ∧ Cutd K D a i mid e b E)
        case first =>
          cases c1 with
          | true =>
            have hz : i < m ∧ m < e := by simpa using Z1.out.symm
            have hr := rotate_c (p := p) cap i m e H S hz.1 hz.2 (by omega) hsz
            clear hz
            go_wp2_with (go_at_call 81; refine hr.mono ?_; rintro e9 w1 ⟨rfl, E, S1, P1, G1⟩; have HG : Hid (∃ E, SW w0 blk off sz N E w1 ∧ Cutd K D a i mid e b E) := ⟨E, S1, HCd.out E P1 G1⟩; clear S1 P1 G1)
            go_meet
            case rel => exact ⟨rfl, Hid.out (by assumption)⟩
          | false =>
            have hz : i = m ∨ m = e := by
              have := Z1.out.symm
              simp only [Bool.and_eq_false_iff, decide_eq_false_iff_not] at this
              omega
            have HZ := Lib.hid hz
            clear hz
            go_wp2
            go_meet
            case rel => exact ⟨rfl, D, S.out, HCd.out D (permIn_refl _ _ _) (fun q => (rot_one HZ.out n5 n6 q).symm)⟩
        case rest =>
        obtain ⟨rfl, E, s1, cu⟩ := hcut
        have S1 := Lib.hid s1
        have CU := Lib.hid cu
        clear s1 cu S HCd HB
        obtain ⟨wp, rfl⟩ : ∃ wp : World, wp = wc := ⟨_, rfl⟩
        go_upto_region 41 with fail
        go_cut [24, 199] from 192 (fun s24 s199 wc => s24 = .int .i64 (e : Int) ∧ s199 = .bool c2 ∧ wc = wp)
        case first =>
          by_cases r1 : a < i
          · have r1d : decide ((a : Int) < (i : Int)) = true := by simp; omega
            by_cases r2 : i < mid
            · have r2d : decide ((i : Int) < (mid : Int)) = true := by simp; omega
              go_wp2
              go_meet
              case rel => exact ⟨rfl, by rw [Z2.out]; simp [r1, r2], rfl⟩
            · have r2d : decide ((i : Int) < (mid : Int)) = false := by simp; omega
              go_wp2
              go_meet
              case rel => exact ⟨rfl, by rw [Z2.out]; simp [r1, r2], rfl⟩
          · have r1d : decide ((a : Int) < (i : Int)) = false := by simp; omega
            go_wp2
            go_meet
            case rel => exact ⟨rfl, by rw [Z2.out]; simp [r1], rfl⟩
        case rest =>
        obtain ⟨rfl, rfl, rfl⟩ := hcut
        go_upto_if 199 with fail
        go_cut [24] from 192 (fun s24 wx => s24 = .int .i64 (e : Int) ∧ ∃ E, SW w0 blk off sz N E wx ∧ Half K D a mid e b E)
        case first =>
          cases c2 with
          | true =>
            have hz : a < i ∧ i < mid := by simpa using Z2.out.symm
            have hr := IH.out a i mid _ E (by omega) hz.1 hz.2 (by omega) S1 CU.out.p1 CU.out.p2
            clear hz
            go_wp2_with (go_at_call 77; refine hr.mono ?_; rintro e9 w1 ⟨rfl, F, S2, P2, G2⟩; have HG : Hid (∃ E, SW w0 blk off sz N E w1 ∧ Half K D a mid e b E) := ⟨F, S2, CU.out.left (by rw [hsD.out]; exact hb) P2 G2⟩; clear S2 P2 G2)
            go_meet
            case rel => exact ⟨rfl, Hid.out (by assumption)⟩
          | false =>
            have HZ : Hid (¬ (a < i ∧ i < mid)) := by
              have := Z2.out.symm
              show ¬ _
              simp only [Bool.and_eq_false_iff, decide_eq_false_iff_not] at this
              omega
            go_wp2
            go_meet
            case rel => exact ⟨rfl, E, S1.out, CU.out.none HZ.out⟩
        case rest =>
        obtain ⟨rfl, F, s2, hf⟩ := hcut
        have S2 := Lib.hid s2
        have HF := Lib.hid hf
        clear s2 hf S1 CU
        obtain ⟨wp2, rfl⟩ : ∃ wp : World, wp = wc := ⟨_, rfl⟩
        go_upto_region 43 with fail
        go_cut [24, 213] from 206 (fun s24 s213 wc => s24 = .int .i64 (e : Int) ∧ s213 = .bool c3 ∧ wc = wp2)
        case first =>
          by_cases r1 : mid < e
          · have r1d : decide ((mid : Int) < (e : Int)) = true := by simp; omega
            by_cases r2 : e < b
            · have r2d : decide ((e : Int) < (b : Int)) = true := by simp; omega
              go_wp2
              go_meet
              case rel => exact ⟨rfl, by rw [Z3.out]; simp [r1, r2], rfl⟩
            · have r2d : decide ((e : Int) < (b : Int)) = false := by simp; omega
              go_wp2
              go_meet
              case rel => exact ⟨rfl, by rw [Z3.out]; simp [r1, r2], rfl⟩
          · have r1d : decide ((mid : Int) < (e : Int)) = false := by simp; omega
            go_wp2
            go_meet
            case rel => exact ⟨rfl, by rw [Z3.out]; simp [r1], rfl⟩
        case rest =>
        obtain ⟨rfl, rfl, rfl⟩ := hcut
        cases c3 with
        | true =>
          have hz : mid < e ∧ e < b := by simpa using Z3.out.symm
          have hr := IH.out mid e b _ F (by omega) hz.1 hz.2 (by omega) S2 HF.out.p3 HF.out.p4
          clear hz
          go_wp2_with (go_at_call 77; refine hr.mono ?_; rintro e9 w1 ⟨rfl, G, S3, P3, G3⟩; have HG : Hid (∃ E, SW w0 blk off sz N E w1 ∧ PermIn a b D E ∧ Sd K a b E) := ⟨G, S3, (HF.out.right (by rw [hsD.out]; exact hb) P3 G3).1, (HF.out.right (by rw [hsD.out]; exact hb) P3 G3).2⟩; clear S3 P3 G3)
          go_end0
          exact ⟨rfl, Hid.out (by assumption)⟩
        | false =>
          have HZ : Hid (¬ (mid < e ∧ e < b)) := by
            have := Z3.out.symm
            show ¬ _
            simp only [Bool.and_eq_false_iff, decide_eq_false_iff_not] at this
            omega
          go_wp2
          go_end0
          have := HF.out.none (by rw [hsD.out]; exact hb) HZ.out
          exact ⟨rfl, F, S2.out, this.1, this.2⟩
theorem merge_c {K : Nat → Nat} {w0 : World} {blk off sz N : Nat} {p : Option Addr} (cap : Nat) (HC : Hid (Cm K w0 blk off sz N p)) (H : Hid (Row w0 blk off sz)) (hsz : sz < 4611686018427387904) : ∀ L, MergeC K w0 blk off sz N cap p L
  | 0 => fun a m b W D h1 h2 h3 => by omega
  | L + 1 => merge_step cap HC H hsz L (merge_c cap HC H hsz L)
end Go.Proofs.Ytdfplhoijapoeaa.Lhe
