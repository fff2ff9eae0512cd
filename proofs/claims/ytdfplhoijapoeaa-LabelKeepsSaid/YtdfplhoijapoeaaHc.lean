/- The stable sort: swapRangeCmpFunc, rotateCmpFunc. Conditions: the row reads so. -/
import Derived.Test.YtdfplhoijapoeaaHb
set_option linter.unusedVariables false
set_option linter.unusedSimpArgs false
namespace Go.Proofs.Ytdfplhoijapoeaa.Lhc
open Go.RowKit Go.Sort Go.Proofs.Ytdfplhoijapoeaa.Lib1 Go.Proofs.Ytdfplhoijapoeaa.Lh Go.Proofs.Ytdfplhoijapoeaa.Lhb

set_option maxHeartbeats 3200000 in
set_option maxRecDepth 100000 in
theorem swapRange_c {w0 W : World} {blk off sz N : Nat} {p : Option Addr} {D : Array Nat} (cap a b n : Nat) (H : Hid (Row w0 blk off sz)) (S : Hid (SW w0 blk off sz N D W)) (hab : a + n ≤ b) (hb : b + n ≤ sz) (hsz : sz < 4611686018427387904) :
    Calls Try.prog 93 #[.slice (some ⟨blk, off, none⟩) sz cap, .int .i64 a, .int .i64 b, .int .i64 n, cmpV p] W fun e w' => e = .returned (.tuple #[]) ∧ SW w0 blk off sz N (swapR D a b n) w' := by
  go_enter Try.func93, Try.ntmps93
  go_wp2
  go_loopw [10] (fun vi wr => ∃ (i : Nat), vi = .int .i64 i ∧ i ≤ n ∧ Hid (SW w0 blk off sz N (swapR D a b i) wr)) (fun vi _ => n - (intOf vi).toNat)
  case atStart => exact ⟨0, rfl, by omega, S⟩
  case round =>
    clear S
    obtain ⟨wo, rfl⟩ : ∃ wo : World, wo = wr := ⟨_, rfl⟩
    obtain ⟨i, rfl, hin, S⟩ := hrel
    by_cases hlt : i < n
    · obtain ⟨G, hG⟩ : ∃ G : Nat → Nat, ∀ t, G t = (swapR D a b i)[t]! := ⟨fun t => (swapR D a b i)[t]!, fun _ => rfl⟩
      have hcw : ∀ t, t < sz → wo.cell? ⟨blk, off + t, none⟩ = some (.int .i64 ((G t : Nat) : Int)) := fun t ht => by rw [hG]; exact S.out.cell H.out t ht
      have hfw : ∀ t, t < sz → wo.frozen? ⟨blk, off + t, none⟩ = false := fun t ht => S.out.free H.out t ht
      have HG := Lib.hid hG
      clear hG
      obtain ⟨x, hx⟩ : ∃ x, x = a + i := ⟨_, rfl⟩
      obtain ⟨y, hy⟩ : ∃ y, y = b + i := ⟨_, rfl⟩
      have hxi : (a : Int) + (i : Int) = (x : Int) := by omega
      have hyi : (b : Int) + (i : Int) = (y : Int) := by omega
      have hxl : x < sz := by omega
      have hyl : y < sz := by omega
      have hxz : (x : Int) < (sz : Int) := by omega
      have hyz : (y : Int) < (sz : Int) := by omega
      have hx0 : (0 : Int) ≤ (x : Int) := by omega
      have hy0 : (0 : Int) ≤ (y : Int) := by omega
      have hwx : IntKind.i64.wrap ((a : Int) + (i : Int)) = (x : Int) := by rw [IntKind.wrap_i64]; omega
      have hwy : IntKind.i64.wrap ((b : Int) + (i : Int)) = (y : Int) := by rw [IntKind.wrap_i64]; omega
      have hne : ¬ off + x = off + y := by omega
      have c1 := hcw x hxl
      have c2 := hcw y hyl
      have f1 := hfw x hxl
      have f2 := hfw y hyl
      have HX := Lib.hid hx
      have HY := Lib.hid hy
      clear hx hy hcw hfw
      go_wp2_with fail
      go_region
      all_goals go_wp2
      go_roundw
      case rel =>
        refine ⟨i + 1, by go_num, by omega, ?_⟩
        show SW _ _ _ _ _ _ _
        have := S.out.swap (i := a + i) (j := b + i) (by omega) (by omega) 1
        rw [← HX.out, ← HY.out, ← HG.out, ← HG.out] at this
        rw [swapR, ← HX.out, ← HY.out]
        exact this
      case measure => simp [intOf]; omega
    · go_wp2
      go_end0
      obtain rfl : i = n := by omega
      exact ⟨rfl, S.out⟩

set_option maxHeartbeats 3200000 in
set_option maxRecDepth 100000 in
theorem rotate_c {w0 W : World} {blk off sz N : Nat} {p : Option Addr} {D : Array Nat} (cap a m b : Nat) (H : Hid (Row w0 blk off sz)) (S : Hid (SW w0 blk off sz N D W)) (ham : a < m) (hmb : m < b) (hb : b ≤ sz) (hsz : sz < 4611686018427387904) :
    Calls Try.prog 81 #[.slice (some ⟨blk, off, none⟩) sz cap, .int .i64 a, .int .i64 m, .int .i64 b, cmpV p] W fun e w' => e = .returned (.tuple #[]) ∧ ∃ E, SW w0 blk off sz N E w' ∧ PermIn a b D E ∧ ∀ q, E[q]! = rot D a m b q := by
  have hsD : Hid (D.size = sz) := S.out.1
  go_enter Try.func81, Try.ntmps81
  go_wp2
  go_loopw [10, 11] (fun vi vj wr => ∃ (i j : Nat) (E : Array Nat), vi = .int .i64 i ∧ vj = .int .i64 j ∧ 0 < i ∧ 0 < j ∧ a + i ≤ m ∧ m + j ≤ b ∧ Hid (RotI D a m b i j E) ∧ Hid (SW w0 blk off sz N E wr)) (fun vi vj _ => (intOf vi).toNat + (intOf vj).toNat)
  case atStart => exact ⟨m - a, b - m, D, by congr 1; omega, by congr 1; omega, by omega, by omega, by omega, by omega, RotI.start ham hmb, S⟩
  case round =>
    clear S
    obtain ⟨wo, rfl⟩ : ∃ wo : World, wo = wr := ⟨_, rfl⟩
    obtain ⟨i, j, E, rfl, rfl, i0, j0, hlo, hhi, HR, S⟩ := hrel
    have e1 : (m : Int) - (i : Int) = ((m - i : Nat) : Int) := by omega
    rcases Nat.lt_trichotomy i j with c | c | c
    · have d1 : ((i : Int) != (j : Int)) = true := by simp; omega
      have d2 : decide ((j : Int) < (i : Int)) = false := by simp; omega
      have e2 : (m : Int) + (j : Int) - (i : Int) = ((m + j - i : Nat) : Int) := by omega
      have hs := swapRange_c (p := p) cap (m - i) (m + j - i) i H S (by omega) (by omega) hsz
      have HRn : Hid _ := HR.out.right (by rw [hsD.out]; exact hb) c
      go_wp2_with (go_at_call 93; refine hs.mono ?_; rintro e w1 ⟨rfl, S1⟩; have S1 := Lib.hid S1)
      go_roundw
      case rel => exact ⟨i, j - i, _, rfl, by congr 1; omega, i0, by omega, hlo, by omega, HRn, ‹_›⟩
      case measure => simp [intOf]; omega
    · subst c
      have hs := swapRange_c (p := p) cap (m - i) m i H S (by omega) (by omega) hsz
      have HD := Lib.hid (HR.out.done (by rw [hsD.out]; exact hb))
      go_wp2_with (go_at_call 93; refine hs.mono ?_; rintro e w1 ⟨rfl, S1⟩; have S1 := Lib.hid S1)
      go_end0
      exact ⟨rfl, _, Hid.out ‹_›, HD.out.1, HD.out.2⟩
    · have d1 : ((i : Int) != (j : Int)) = true := by simp; omega
      have d2 : decide ((j : Int) < (i : Int)) = true := by simp; omega
      have hs := swapRange_c (p := p) cap (m - i) m j H S (by omega) (by omega) hsz
      have HRn : Hid _ := HR.out.left (by rw [hsD.out]; exact hb) c
      go_wp2_with (go_at_call 93; refine hs.mono ?_; rintro e w1 ⟨rfl, S1⟩; have S1 := Lib.hid S1)
      go_roundw
      case rel => exact ⟨i - j, j, _, by congr 1; omega, rfl, by omega, j0, by omega, hhi, HRn, ‹_›⟩
      case measure => simp [intOf]; omega
end Go.Proofs.Ytdfplhoijapoeaa.Lhc
