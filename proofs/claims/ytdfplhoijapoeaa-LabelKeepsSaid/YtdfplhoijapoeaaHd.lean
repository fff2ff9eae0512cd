/- The stable sort: symMergeCmpFunc, its two short ways. Conditions: the row reads so. -/
import Derived.Test.YtdfplhoijapoeaaHc
set_option linter.unusedVariables false
set_option linter.unusedSimpArgs false
namespace Go.Proofs.Ytdfplhoijapoeaa.Lhd
open Go.RowKit Go.Sort Go.Proofs.Ytdfplhoijapoeaa.Lib1 Go.Proofs.Ytdfplhoijapoeaa.Lh Go.Proofs.Ytdfplhoijapoeaa.Lhb Go.Proofs.Ytdfplhoijapoeaa.Lhc

set_option maxHeartbeats 3200000 in
set_option maxRecDepth 100000 in
theorem merge_left {K : Nat → Nat} {w0 W : World} {blk off sz N : Nat} {p : Option Addr} {D : Array Nat} (cap a b : Nat) (HC : Hid (Cm K w0 blk off sz N p)) (H : Hid (Row w0 blk off sz)) (S : Hid (SW w0 blk off sz N D W)) (hab : a + 1 < b) (hb : b ≤ sz) (hsz : sz < 4611686018427387904) (hR : Hid (Sd K (a + 1) b D)) :
    Calls Try.prog 77 #[.slice (some ⟨blk, off, none⟩) sz cap, .int .i64 a, .int .i64 ((a + 1 : Nat) : Int), .int .i64 b, cmpV p] W fun e w' => e = .returned (.tuple #[]) ∧ ∃ E, SW w0 blk off sz N E w' ∧ PermIn a b D E ∧ Sd K a b E := by
  have hsD : Hid (D.size = sz) := S.out.1
  have ew : IntKind.i64.wrap (((a + 1 : Nat) : Int) - (a : Int)) = 1 := by rw [IntKind.wrap_i64] <;> omega
  have ed : (((a + 1 : Nat) : Int) - (a : Int)) = 1 := by omega
  go_enter Try.func77, Try.ntmps77
  go_wp2
  go_loopw [10, 11] (fun vi vj wr => ∃ (i j : Nat), vi = .int .i64 i ∧ vj = .int .i64 j ∧ a + 1 ≤ i ∧ i ≤ j ∧ j ≤ b ∧ Hid (B1 K D a b i j) ∧ Hid (SW w0 blk off sz N D wr)) (fun vi vj _ => (intOf vj).toNat - (intOf vi).toNat)
  case atStart => exact ⟨a + 1, b, rfl, rfl, Nat.le_refl _, by omega, Nat.le_refl _, B1.start (by omega), S⟩
  case round =>
    clear S
    obtain ⟨wo, rfl⟩ : ∃ wo : World, wo = wr := ⟨_, rfl⟩
    obtain ⟨i, j, rfl, rfl, hi, hij, hj, HB, S⟩ := hrel
    by_cases hlt : i < j
    · obtain ⟨h, hh⟩ : ∃ h, h = (i + j) / 2 := ⟨_, rfl⟩
      have h1 : i ≤ h := by omega
      have h2 : h < j := by omega
      have eh : ((i : Int) + (j : Int)) / 2 = (h : Int) := by omega
      have hhs : h < sz := by omega
      have has : a < sz := by omega
      have hhz : (h : Int) < (sz : Int) := by omega
      have haz : (a : Int) < (sz : Int) := by omega
      obtain ⟨x, hx⟩ : ∃ x, x = D[h]! := ⟨_, rfl⟩
      obtain ⟨y, hy⟩ : ∃ y, y = D[a]! := ⟨_, rfl⟩
      have c1 := S.out.cell H.out h hhs
      have c2 := S.out.cell H.out a has
      have f1 := S.out.free H.out h hhs
      have f2 := S.out.free H.out a has
      have hc : ∀ n, Calls Try.prog 56 #[.int .i64 x, .int .i64 y, .pointer p] (wo.drewN n) fun e w' => e = .returned (.int .i64 (cf K x y)) ∧ ∃ q, w' = (wo.drewN n).drewN q := fun n =>
        HC.out D _ (S.out.drewN n) _ _ (by rw [hx]; exact S.out.2.1 h hhs) (by rw [hy]; exact S.out.2.1 a has)
      rw [← hx] at c1
      rw [← hy] at c2
      have HX := Lib.hid hx
      have HY := Lib.hid hy
      have HH := Lib.hid hh
      clear hx hy hh
      cases hlv : ltK K x y with
      | true =>
        have hd : decide (cf K x y < 0) = true := by rw [cf_lt]; exact hlv
        have HU : Hid (B1 K D a b (h + 1) j) := HB.out.up hR.out h1 h2 (by rw [← HX.out, ← HY.out]; simpa [ltK] using hlv)
        clear hlv
        go_wp2_with fail
        go_quiet ((go_at_call 56; exact Calls.quiet_of (hc _)))
        clear hc
        go_wp2
        go_roundw
        case rel => exact ⟨h + 1, j, by go_num, rfl, by omega, by omega, hj, HU, S.out.drewN nq⟩
        case measure => simp [intOf]; omega
      | false =>
        have hd : decide (cf K x y < 0) = false := by rw [cf_lt]; exact hlv
        have HU : Hid (B1 K D a b i h) := HB.out.down hR.out h1 h2 (by rw [← HX.out, ← HY.out]; simp [ltK] at hlv; omega)
        clear hlv
        go_wp2_with fail
        go_quiet ((go_at_call 56; exact Calls.quiet_of (hc _)))
        clear hc
        go_wp2
        go_roundw
        case rel => exact ⟨i, h, rfl, rfl, hi, h1, by omega, HU, S.out.drewN nq⟩
        case measure => simp [intOf]; omega
    · obtain rfl : i = j := by omega
      go_wp2
      go_loopw [13] (fun vk wr => ∃ (k : Nat) (E : Array Nat), vk = .int .i64 k ∧ a ≤ k ∧ k + 1 ≤ i ∧ Hid (ShU D a k b E) ∧ Hid (SW w0 blk off sz N E wr)) (fun vk _ => i - (intOf vk).toNat)
      case atStart => exact ⟨a, D, rfl, Nat.le_refl _, hi, ShU.start D a b, S⟩
      case round =>
        clear S
        obtain ⟨wi, rfl⟩ : ∃ wi : World, wi = wr := ⟨_, rfl⟩
        obtain ⟨k, E, rfl, hak, hki, HE, S⟩ := hrel
        have hik : (i : Int) - 1 = ((i - 1 : Nat) : Int) := by omega
        by_cases hlt2 : k < i - 1
        · have hltz : (k : Int) < (i : Int) - 1 := by omega
          have hks : k < sz := by omega
          have hks1 : k + 1 < sz := by omega
          have hkz : (k : Int) < (sz : Int) := by omega
          have hkz1 : (k : Int) + 1 < (sz : Int) := by omega
          obtain ⟨G, hG⟩ : ∃ G : Nat → Nat, ∀ t, G t = E[t]! := ⟨fun t => E[t]!, fun _ => rfl⟩
          have hcw : ∀ t, t < sz → wi.cell? ⟨blk, off + t, none⟩ = some (.int .i64 ((G t : Nat) : Int)) := fun t ht => by rw [hG]; exact S.out.cell H.out t ht
          have hfw : ∀ t, t < sz → wi.frozen? ⟨blk, off + t, none⟩ = false := fun t ht => S.out.free H.out t ht
          have HG := Lib.hid hG
          clear hG
          go_wp2_with fail
          go_region
          all_goals go_wp2
          go_roundw
          case rel =>
            refine ⟨k + 1, swp E k (k + 1), by go_num, by omega, by omega, HE.out.step hak (by omega) (by rw [hsD.out]; exact hb), ?_⟩
            show SW _ _ _ _ _ _ _
            rw [HG.out, HG.out]
            exact S.out.swap (by omega) (by omega) 1
          case measure => simp [intOf]; omega
        · have hltz : ¬ (k : Int) < (i : Int) - 1 := by omega
          have HF : Hid (Sd K a b E) := HE.out.done hak (by omega) hR.out (fun q g1 g2 => Nat.le_of_lt (HB.out.yes q g1 (by omega))) (fun q g1 g2 => HB.out.no q (by omega) g2)
          go_wp2
          refine bodyPost_ret (results_none rfl _ _ _) rfl ?_
          exact ⟨rfl, E, S.out, HE.out.perm, HF.out⟩
set_option maxHeartbeats 3200000 in
set_option maxRecDepth 100000 in
theorem merge_right {K : Nat → Nat} {w0 W : World} {blk off sz N : Nat} {p : Option Addr} {D : Array Nat} (cap a m : Nat) (HC : Hid (Cm K w0 blk off sz N p)) (H : Hid (Row w0 blk off sz)) (S : Hid (SW w0 blk off sz N D W)) (hab : a + 1 < m) (hb : m + 1 ≤ sz) (hsz : sz < 4611686018427387904) (hR : Hid (Sd K a m D)) :
    Calls Try.prog 77 #[.slice (some ⟨blk, off, none⟩) sz cap, .int .i64 a, .int .i64 m, .int .i64 ((m + 1 : Nat) : Int), cmpV p] W fun e w' => e = .returned (.tuple #[]) ∧ ∃ E, SW w0 blk off sz N E w' ∧ PermIn a (m + 1) D E ∧ Sd K a (m + 1) E := by
  have hsD : Hid (D.size = sz) := S.out.1
  have ed0 : ((m : Int) - (a : Int) == 1) = false := by simp; omega
  go_enter Try.func77, Try.ntmps77
  go_wp2
  go_loopw [14, 15] (fun vi vj wr => ∃ (i j : Nat), vi = .int .i64 i ∧ vj = .int .i64 j ∧ a ≤ i ∧ i ≤ j ∧ j ≤ m ∧ Hid (B2 K D a m i j) ∧ Hid (SW w0 blk off sz N D wr)) (fun vi vj _ => (intOf vj).toNat - (intOf vi).toNat)
  case atStart => exact ⟨a, m, rfl, rfl, Nat.le_refl _, by omega, Nat.le_refl _, B2.start (by omega), S⟩
  case round =>
    clear S
    obtain ⟨wo, rfl⟩ : ∃ wo : World, wo = wr := ⟨_, rfl⟩
    obtain ⟨i, j, rfl, rfl, hi, hij, hj, HB, S⟩ := hrel
    by_cases hlt : i < j
    · obtain ⟨h, hh⟩ : ∃ h, h = (i + j) / 2 := ⟨_, rfl⟩
      have h1 : i ≤ h := by omega
      have h2 : h < j := by omega
      have eh : ((i : Int) + (j : Int)) / 2 = (h : Int) := by omega
      have hhs : h < sz := by omega
      have has : m < sz := by omega
      have hhz : (h : Int) < (sz : Int) := by omega
      have haz : (m : Int) < (sz : Int) := by omega
      obtain ⟨x, hx⟩ : ∃ x, x = D[m]! := ⟨_, rfl⟩
      obtain ⟨y, hy⟩ : ∃ y, y = D[h]! := ⟨_, rfl⟩
      have c1 := S.out.cell H.out m has
      have c2 := S.out.cell H.out h hhs
      have f1 := S.out.free H.out h hhs
      have f2 := S.out.free H.out m has
      have hc : ∀ n, Calls Try.prog 56 #[.int .i64 x, .int .i64 y, .pointer p] (wo.drewN n) fun e w' => e = .returned (.int .i64 (cf K x y)) ∧ ∃ q, w' = (wo.drewN n).drewN q := fun n =>
        HC.out D _ (S.out.drewN n) _ _ (by rw [hx]; exact S.out.2.1 m has) (by rw [hy]; exact S.out.2.1 h hhs)
      rw [← hx] at c1
      rw [← hy] at c2
      have HX := Lib.hid hx
      have HY := Lib.hid hy
      have HH := Lib.hid hh
      clear hx hy hh
      cases hlv : ltK K x y with
      | true =>
        have hd : decide (cf K x y < 0) = true := by rw [cf_lt]; exact hlv
        have HU : Hid (B2 K D a m i h) := HB.out.down hR.out h1 h2 (by rw [← HX.out, ← HY.out]; simpa [ltK] using hlv)
        clear hlv
        go_wp2_with fail
        go_quiet ((go_at_call 56; exact Calls.quiet_of (hc _)))
        clear hc
        go_wp2
        go_roundw
        case rel => exact ⟨i, h, rfl, rfl, hi, h1, by omega, HU, S.out.drewN nq⟩
        case measure => simp [intOf]; omega
      | false =>
        have hd : decide (cf K x y < 0) = false := by rw [cf_lt]; exact hlv
        have HU : Hid (B2 K D a m (h + 1) j) := HB.out.up hR.out h1 h2 (by rw [← HX.out, ← HY.out]; simp [ltK] at hlv; omega)
        clear hlv
        go_wp2_with fail
        go_quiet ((go_at_call 56; exact Calls.quiet_of (hc _)))
        clear hc
        go_wp2
        go_roundw
        case rel => exact ⟨h + 1, j, by go_num, rfl, by omega, by omega, hj, HU, S.out.drewN nq⟩
        case measure => simp [intOf]; omega
    · obtain rfl : i = j := by omega
      go_wp2
      go_loopw [17] (fun vk wr => ∃ (k : Nat) (E : Array Nat), vk = .int .i64 k ∧ i ≤ k ∧ k ≤ m ∧ Hid (ShD D a k m E) ∧ Hid (SW w0 blk off sz N E wr)) (fun vk _ => (intOf vk).toNat)
      case atStart => exact ⟨m, D, rfl, hj, Nat.le_refl _, ShD.start D a m, S⟩
      case round =>
        clear S
        obtain ⟨wi, rfl⟩ : ∃ wi : World, wi = wr := ⟨_, rfl⟩
        obtain ⟨k, E, rfl, hik, hkm, HE, S⟩ := hrel
        by_cases hlt2 : i < k
        · have hks : k < sz := by omega
          have hks1 : k - 1 < sz := by omega
          have hkz : (k : Int) < (sz : Int) := by omega
          have hkz1 : (k : Int) - 1 < (sz : Int) := by omega
          have hk0 : (0 : Int) ≤ (k : Int) - 1 := by omega
          obtain ⟨G, hG⟩ : ∃ G : Nat → Nat, ∀ t, G t = E[t]! := ⟨fun t => E[t]!, fun _ => rfl⟩
          have hcw : ∀ t, t < sz → wi.cell? ⟨blk, off + t, none⟩ = some (.int .i64 ((G t : Nat) : Int)) := fun t ht => by rw [hG]; exact S.out.cell H.out t ht
          have hfw : ∀ t, t < sz → wi.frozen? ⟨blk, off + t, none⟩ = false := fun t ht => S.out.free H.out t ht
          have HG := Lib.hid hG
          clear hG
          go_wp2_with fail
          go_region
          all_goals go_wp2
          go_roundw
          case rel =>
            refine ⟨k - 1, swp E k (k - 1), by congr 1; omega, by omega, by omega, HE.out.step (by omega) (by omega) (by rw [hsD.out]; exact hb), ?_⟩
            show SW _ _ _ _ _ _ _
            rw [HG.out, HG.out]
            exact S.out.swap (by omega) (by omega) 1
          case measure => simp [intOf]; omega
        · obtain rfl : k = i := by omega
          have HF : Hid (Sd K a (m + 1) E) := HE.out.done (by omega) (by omega) hR.out (fun q g1 g2 => HB.out.yes q g1 g2) (fun q g1 g2 => Nat.le_of_lt (HB.out.no q g1 g2))
          go_wp2
          refine bodyPost_ret (results_none rfl _ _ _) rfl ?_
          exact ⟨rfl, E, S.out, HE.out.perm, HF.out⟩
end Go.Proofs.Ytdfplhoijapoeaa.Lhd
