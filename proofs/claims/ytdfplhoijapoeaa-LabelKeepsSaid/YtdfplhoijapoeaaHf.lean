/- The stable sort: stableCmpFunc, SortStableFunc. Conditions: the row reads so; at most 2^45 elements. -/
import Derived.Test.YtdfplhoijapoeaaHe
set_option linter.unusedVariables false
set_option linter.unusedSimpArgs false
namespace Go.Proofs.Ytdfplhoijapoeaa.Lhf
open Go.RowKit Go.Sort Go.Proofs.Ytdfplhoijapoeaa.Lib1 Go.Proofs.Ytdfplhoijapoeaa.Lh Go.Proofs.Ytdfplhoijapoeaa.Lhb Go.Proofs.Ytdfplhoijapoeaa.Lhc Go.Proofs.Ytdfplhoijapoeaa.Lhd Go.Proofs.Ytdfplhoijapoeaa.Lhe

theorem next_mul {s a c : Nat} (ha : a % s = 0) (hc : c % s = 0) (h : a < c) : a + s ≤ c := by
  obtain ⟨k, rfl⟩ := Nat.dvd_of_mod_eq_zero ha
  obtain ⟨l, rfl⟩ := Nat.dvd_of_mod_eq_zero hc
  have : k < l := Nat.lt_of_mul_lt_mul_left h
  have := Nat.mul_le_mul_left s this
  rw [Nat.mul_succ] at this
  exact this
theorem sd_keep {K : Nat → Nat} {a b c d : Nat} {D E : Array Nat} (h : Sd K c d D) (hP : PermIn a b D E) (hd : d ≤ a ∨ b ≤ c) : Sd K c d E := fun i j h1 h2 h3 => by
  rw [hP.2.1 i (by omega), hP.2.1 j (by omega)]
  exact h i j h1 h2 h3
theorem sd_none {K : Nat → Nat} {c d : Nat} {D : Array Nat} (h : d ≤ c) : Sd K c d D := fun i j h1 h2 h3 => by omega
/-- All blocks of bs are sorted. -/
structure AllB (K : Nat → Nat) (bs n : Nat) (D0 D : Array Nat) : Prop where
  perm : PermIn 0 n D0 D
  all : ∀ c, c % bs = 0 → Sd K c (min (c + bs) n) D
/-- The blocks of bs ahead of a are sorted. -/
structure St1 (K : Nat → Nat) (bs n a : Nat) (D0 D : Array Nat) : Prop where
  mod : a % bs = 0
  perm : PermIn 0 n D0 D
  done : ∀ c, c % bs = 0 → c + bs ≤ a → Sd K c (c + bs) D
theorem St1.start (K : Nat → Nat) (bs n : Nat) (D0 : Array Nat) (hb : 0 < bs) : St1 K bs n 0 D0 D0 := ⟨Nat.zero_mod _, permIn_refl _ _ _, fun c h1 h2 => by omega⟩
theorem St1.step {K : Nat → Nat} {bs n a : Nat} {D0 D E : Array Nat} (h : St1 K bs n a D0 D) (hb : 0 < bs) (hn : n ≤ D0.size) (ha : a + bs ≤ n) (hP : PermIn a (a + bs) D E) (hS : Sd K a (a + bs) E) : St1 K bs n (a + bs) D0 E := by
  obtain ⟨hm, hp, hd⟩ := h
  have hs : D.size = D0.size := hp.1
  refine ⟨by rw [Nat.add_mod_right]; exact hm, permIn_trans _ _ _ _ _ hp (permIn_mono _ _ _ _ _ _ (by omega) (by omega) (by omega) hP), fun c h1 h2 => ?_⟩
  rcases Nat.lt_trichotomy c a with g | rfl | g
  · exact sd_keep (hd c h1 (next_mul h1 hm g)) hP (.inl (next_mul h1 hm g))
  · exact hS
  · have := next_mul hm h1 g; omega
theorem St1.last {K : Nat → Nat} {bs n a : Nat} {D0 D E : Array Nat} (h : St1 K bs n a D0 D) (hb : 0 < bs) (hn : n ≤ D0.size) (hle : a ≤ n) (ha : n < a + bs) (hP : PermIn a n D E) (hS : Sd K a n E) : AllB K bs n D0 E := by
  obtain ⟨hm, hp, hd⟩ := h
  have hs : D.size = D0.size := hp.1
  refine ⟨permIn_trans _ _ _ _ _ hp (permIn_mono _ _ _ _ _ _ (by omega) (by omega) (by omega) hP), fun c h1 => ?_⟩
  rcases Nat.lt_trichotomy c a with g | rfl | g
  · have := next_mul h1 hm g
    rw [Nat.min_eq_left (by omega)]
    exact sd_keep (hd c h1 this) hP (.inl this)
  · rw [Nat.min_eq_right (by omega)]; exact hS
  · have := next_mul hm h1 g
    exact sd_none (by omega)
/-- Blocks of 2 bs ahead of a, blocks of bs from a on. -/
structure St2 (K : Nat → Nat) (bs n a : Nat) (D0 D : Array Nat) : Prop where
  one : St1 K (2 * bs) n a D0 D
  two : ∀ c, c % bs = 0 → a ≤ c → Sd K c (min (c + bs) n) D
theorem St2.start {K : Nat → Nat} {bs n : Nat} {D0 D : Array Nat} (hb : 0 < bs) (h : AllB K bs n D0 D) : St2 K bs n 0 D0 D := ⟨⟨Nat.zero_mod _, h.perm, fun c h1 h2 => by omega⟩, fun c h1 _ => h.all c h1⟩
theorem St2.mod {K : Nat → Nat} {bs n a : Nat} {D0 D : Array Nat} (h : St2 K bs n a D0 D) : a % bs = 0 := by
  have := h.one.mod
  obtain ⟨k, rfl⟩ := Nat.dvd_of_mod_eq_zero this
  rw [show 2 * bs * k = 2 * k * bs by rw [Nat.mul_assoc, Nat.mul_assoc, Nat.mul_comm bs k]]
  exact Nat.mul_mod_left _ _
theorem St2.l {K : Nat → Nat} {bs n a : Nat} {D0 D : Array Nat} (h : St2 K bs n a D0 D) (ha : a + bs ≤ n) : Sd K a (a + bs) D := by
  have := h.two a h.mod (Nat.le_refl _)
  rwa [Nat.min_eq_left ha] at this
theorem St2.r {K : Nat → Nat} {bs n a : Nat} {D0 D : Array Nat} (h : St2 K bs n a D0 D) (ha : a + 2 * bs ≤ n) : Sd K (a + bs) (a + 2 * bs) D := by
  have := h.two (a + bs) (by rw [Nat.add_mod_right]; exact h.mod) (by omega)
  rwa [Nat.min_eq_left (by omega), show a + bs + bs = a + 2 * bs by omega] at this
theorem St2.r' {K : Nat → Nat} {bs n a : Nat} {D0 D : Array Nat} (h : St2 K bs n a D0 D) (ha : n < a + 2 * bs) : Sd K (a + bs) n D := by
  have := h.two (a + bs) (by rw [Nat.add_mod_right]; exact h.mod) (by omega)
  rwa [Nat.min_eq_right (by omega)] at this
theorem St2.step {K : Nat → Nat} {bs n a : Nat} {D0 D E : Array Nat} (h : St2 K bs n a D0 D) (hb : 0 < bs) (hn : n ≤ D0.size) (ha : a + 2 * bs ≤ n) (hP : PermIn a (a + 2 * bs) D E) (hS : Sd K a (a + 2 * bs) E) : St2 K bs n (a + 2 * bs) D0 E :=
  ⟨h.one.step (by omega) hn ha hP hS, fun c h1 h2 => sd_keep (h.two c h1 (by omega)) hP (.inr h2)⟩
theorem St2.last {K : Nat → Nat} {bs n a : Nat} {D0 D E : Array Nat} (h : St2 K bs n a D0 D) (hb : 0 < bs) (hn : n ≤ D0.size) (hle : a ≤ n) (ha : n < a + 2 * bs) (hP : PermIn a n D E) (hS : Sd K a n E) : AllB K (2 * bs) n D0 E := h.one.last (by omega) hn hle ha hP hS
theorem St2.short {K : Nat → Nat} {bs n a : Nat} {D0 D : Array Nat} (h : St2 K bs n a D0 D) (ha : n ≤ a + bs) : Sd K a n D := by
  have := h.two a h.mod (Nat.le_refl _)
  rwa [Nat.min_eq_right ha] at this
theorem AllB.whole {K : Nat → Nat} {bs n : Nat} {D0 D : Array Nat} (h : AllB K bs n D0 D) (hb : n ≤ bs) : Sd K 0 n D := by
  have := h.all 0 (Nat.zero_mod _)
  rwa [Nat.min_eq_right (by omega)] at this

set_option maxHeartbeats 3200000 in
set_option maxRecDepth 100000 in
theorem stable_c {K : Nat → Nat} {w0 W : World} {blk off sz N : Nat} {p : Option Addr} {D0 : Array Nat} (cap : Nat) (HC : Hid (Cm K w0 blk off sz N p)) (H : Hid (Row w0 blk off sz)) (S : Hid (SW w0 blk off sz N D0 W)) (hsz : sz ≤ 35184372088832) :
    Calls Try.prog 71 #[.slice (some ⟨blk, off, none⟩) sz cap, .int .i64 sz, cmpV p] W fun e w' => e = .returned (.tuple #[]) ∧ ∃ E, SW w0 blk off sz N E w' ∧ PermIn 0 sz D0 E ∧ Sd K 0 sz E := by
  have hsD : Hid (D0.size = sz) := S.out.1
  have hIns : Hid (∀ (a b : Nat) (D : Array Nat) (W : World), Hid (SW w0 blk off sz N D W) → PermIn 0 sz D0 D → a ≤ b → b ≤ sz → Calls Try.prog 76 #[.slice (some ⟨blk, off, none⟩) sz cap, .int .i64 a, .int .i64 b, cmpV p] W fun e w' => e = .returned (.tuple #[]) ∧ ∃ E, Hid (SW w0 blk off sz N E w') ∧ PermIn a b D E ∧ Sd K a b E) := fun a b D W h1 hp h2 h3 =>
    (ins_c cap a b HC H h1 h2 h3 (by omega)).mono fun e w' ⟨he, hs⟩ => ⟨he, _, hs, (insertionSort_holds (swo_K K) D a b h2 (by have := hp.1; have := hsD.out; omega)).1, Sd.of (insertionSort_holds (swo_K K) D a b h2 (by have := hp.1; have := hsD.out; omega)).2⟩
  have hMrg : Hid (∀ (a m b : Nat) (D : Array Nat) (W : World), Hid (SW w0 blk off sz N D W) → a < m → m < b → b ≤ sz → Sd K a m D → Sd K m b D → Calls Try.prog 77 #[.slice (some ⟨blk, off, none⟩) sz cap, .int .i64 a, .int .i64 m, .int .i64 b, cmpV p] W fun e w' => e = .returned (.tuple #[]) ∧ ∃ E, Hid (SW w0 blk off sz N E w') ∧ PermIn a b D E ∧ Sd K a b E) := fun a m b D W h1 h2 h3 h4 h5 h6 =>
    (merge_c cap HC H (by omega) (b - a) a m b W D (Nat.le_refl _) h2 h3 h4 h1 h5 h6).mono fun e w' h => h
  go_enter Try.func71, Try.ntmps71
  go_wp2
  go_loopw [7, 8] (fun v7 v8 wr => ∃ (a : Nat) (D : Array Nat), v7 = .int .i64 a ∧ v8 = .int .i64 ((a : Int) + 20) ∧ a ≤ sz ∧ Hid (St1 K 20 sz a D0 D) ∧ Hid (SW w0 blk off sz N D wr)) (fun v7 _ _ => sz - (intOf v7).toNat)
  case atStart => exact ⟨0, D0, rfl, rfl, by omega, St1.start K 20 sz D0 (by omega), S⟩
  case round =>
    clear S
    obtain ⟨wo, rfl⟩ : ∃ wo : World, wo = wr := ⟨_, rfl⟩
    obtain ⟨a, D, rfl, rfl, ha, HS, S⟩ := hrel
    by_cases hlt : a + 20 ≤ sz
    · have hltz : (a : Int) + 20 ≤ (sz : Int) := by omega
      have hr := hIns.out a (a + 20) D wo S HS.out.perm (by omega) hlt
      rw [show ((a + 20 : Nat) : Int) = (a : Int) + 20 by omega] at hr
      have HN : Hid (∀ E, PermIn a (a + 20) D E → Sd K a (a + 20) E → St1 K 20 sz (a + 20) D0 E) := fun E h1 h2 => HS.out.step (by omega) (by rw [hsD.out]; exact Nat.le_refl _) hlt h1 h2
      go_wp2_with (go_at_call 76; refine hr.mono ?_; rintro e w1 ⟨rfl, E, S1, P1, G1⟩; have HG : Hid (∃ E, Hid (St1 K 20 sz (a + 20) D0 E) ∧ Hid (SW w0 blk off sz N E w1)) := ⟨E, HN.out E P1 G1, S1⟩; clear S1 P1 G1)
      go_roundw
      case rel =>
        obtain ⟨E, h1, h2⟩ := Hid.out (by assumption : Hid (∃ E, Hid (St1 K 20 sz (a + 20) D0 E) ∧ Hid (SW w0 blk off sz N E _)))
        exact ⟨a + 20, E, by go_num, by first | rfl | (congr 1; omega), hlt, h1, h2⟩
      case measure => simp [intOf]; omega
    · have hltz : ¬ (a : Int) + 20 ≤ (sz : Int) := by omega
      have hr := hIns.out a sz D wo S HS.out.perm ha (Nat.le_refl _)
      have HN : Hid (∀ E, PermIn a sz D E → Sd K a sz E → AllB K 20 sz D0 E) := fun E h1 h2 => HS.out.last (by omega) (by rw [hsD.out]; exact Nat.le_refl _) ha (by omega) h1 h2
      go_wp2_with (go_at_call 76; refine hr.mono ?_; rintro e w1 ⟨rfl, E, S1, P1, G1⟩; have HG : Hid (∃ E, Hid (AllB K 20 sz D0 E) ∧ Hid (SW w0 blk off sz N E w1)) := ⟨E, HN.out E P1 G1, S1⟩; clear S1 P1 G1)
      go_loopw [6] (fun v6 wr => ∃ (bs : Nat) (D : Array Nat), v6 = .int .i64 bs ∧ 20 ≤ bs ∧ bs ≤ 2 * sz + 20 ∧ Hid (AllB K bs sz D0 D) ∧ Hid (SW w0 blk off sz N D wr)) (fun v6 _ => sz - (intOf v6).toNat)
      case atStart =>
        obtain ⟨E, h1, h2⟩ := Hid.out (by assumption : Hid (∃ E, Hid (AllB K 20 sz D0 E) ∧ Hid (SW w0 blk off sz N E _)))
        exact ⟨20, E, rfl, by omega, by omega, h1, h2⟩
      case round =>
        clear S hr HN HS hltz hlt
        obtain ⟨wi, rfl⟩ : ∃ wi : World, wi = wr := ⟨_, rfl⟩
        obtain ⟨bs, D2, rfl, hb1, hb2, HA, S⟩ := hrel
        by_cases hlt : bs < sz
        · have hltz : (bs : Int) < (sz : Int) := by omega
          go_wp2
          go_loopw [7, 8] (fun v7 v8 wr => ∃ (a : Nat) (D : Array Nat), v7 = .int .i64 a ∧ v8 = .int .i64 ((a : Int) + 2 * (bs : Int)) ∧ a ≤ sz ∧ Hid (St2 K bs sz a D0 D) ∧ Hid (SW w0 blk off sz N D wr)) (fun v7 _ _ => sz - (intOf v7).toNat)
          case atStart => exact ⟨0, D2, rfl, by first | rfl | (congr 1; omega), by omega, St2.start (by omega) HA.out, S⟩
          case round =>
            clear S HA
            obtain ⟨wk, rfl⟩ : ∃ wk : World, wk = wr := ⟨_, rfl⟩
            obtain ⟨a2, D3, rfl, rfl, ha2, HS, S⟩ := hrel
            by_cases hlt2 : a2 + 2 * bs ≤ sz
            · have hlz2 : (a2 : Int) + 2 * (bs : Int) ≤ (sz : Int) := by omega
              have hr := hMrg.out a2 (a2 + bs) (a2 + 2 * bs) D3 wk S (by omega) (by omega) hlt2 (HS.out.l (by omega)) (HS.out.r hlt2)
              rw [show ((a2 + bs : Nat) : Int) = (a2 : Int) + (bs : Int) by omega, show ((a2 + 2 * bs : Nat) : Int) = (a2 : Int) + 2 * (bs : Int) by omega] at hr
              have HN : Hid (∀ E, PermIn a2 (a2 + 2 * bs) D3 E → Sd K a2 (a2 + 2 * bs) E → St2 K bs sz (a2 + 2 * bs) D0 E) := fun E h1 h2 => HS.out.step (by omega) (by rw [hsD.out]; exact Nat.le_refl _) hlt2 h1 h2
              go_wp2_with (go_at_call 77; refine hr.mono ?_; rintro e w1 ⟨rfl, E, S1, P1, G1⟩; have HG : Hid (∃ E, Hid (St2 K bs sz (a2 + 2 * bs) D0 E) ∧ Hid (SW w0 blk off sz N E w1)) := ⟨E, HN.out E P1 G1, S1⟩; clear S1 P1 G1)
              go_roundw
              case rel =>
                obtain ⟨E, h1, h2⟩ := Hid.out (by assumption : Hid (∃ E, Hid (St2 K bs sz (a2 + 2 * bs) D0 E) ∧ Hid (SW w0 blk off sz N E _)))
                exact ⟨a2 + 2 * bs, E, by first | rfl | (congr 1; omega), by first | rfl | (congr 1; omega), hlt2, h1, h2⟩
              case measure => simp [intOf]; omega
            · have hlz2 : ¬ (a2 : Int) + 2 * (bs : Int) ≤ (sz : Int) := by omega
              by_cases hm : a2 + bs < sz
              · have hmz : (a2 : Int) + (bs : Int) < (sz : Int) := by omega
                have hr := hMrg.out a2 (a2 + bs) sz D3 wk S (by omega) (by omega) (Nat.le_refl _) (HS.out.l (by omega)) (HS.out.r' (by omega))
                rw [show ((a2 + bs : Nat) : Int) = (a2 : Int) + (bs : Int) by omega] at hr
                have HN : Hid (∀ E, PermIn a2 sz D3 E → Sd K a2 sz E → AllB K (2 * bs) sz D0 E) := fun E h1 h2 => HS.out.last (by omega) (by rw [hsD.out]; exact Nat.le_refl _) ha2 (by omega) h1 h2
                go_wp2_with (go_at_call 77; refine hr.mono ?_; rintro e w1 ⟨rfl, E, S1, P1, G1⟩; have HG : Hid (∃ E, Hid (AllB K (2 * bs) sz D0 E) ∧ Hid (SW w0 blk off sz N E w1)) := ⟨E, HN.out E P1 G1, S1⟩; clear S1 P1 G1)
                go_roundw
                case rel =>
                  obtain ⟨E, h1, h2⟩ := Hid.out (by assumption : Hid (∃ E, Hid (AllB K (2 * bs) sz D0 E) ∧ Hid (SW w0 blk off sz N E _)))
                  exact ⟨2 * bs, E, by first | rfl | (congr 1; omega), by omega, by omega, h1, h2⟩
                case measure => simp [intOf]; omega
              · have hmz : ¬ (a2 : Int) + (bs : Int) < (sz : Int) := by omega
                have HN : Hid (AllB K (2 * bs) sz D0 D3) := HS.out.last (by omega) (by rw [hsD.out]; exact Nat.le_refl _) ha2 (by omega) (permIn_refl _ _ _) (HS.out.short (by omega))
                go_wp2
                go_roundw
                case rel => exact ⟨2 * bs, D3, by first | rfl | (congr 1; omega), by omega, by omega, HN, S⟩
                case measure => simp [intOf]; omega
        · have hltz : ¬ (bs : Int) < (sz : Int) := by omega
          go_wp2
          go_end0
          exact ⟨rfl, D2, S.out, HA.out.perm, HA.out.whole (by omega)⟩

set_option maxRecDepth 100000 in
theorem sortStable_c {K : Nat → Nat} {w0 W : World} {blk off sz N : Nat} {p : Option Addr} {D0 : Array Nat} (cap : Nat) (HC : Hid (Cm K w0 blk off sz N p)) (H : Hid (Row w0 blk off sz)) (S : Hid (SW w0 blk off sz N D0 W)) (hsz : sz ≤ 35184372088832) :
    Calls Try.prog 55 #[.slice (some ⟨blk, off, none⟩) sz cap, cmpV p] W fun e w' => e = .returned (.tuple #[]) ∧ ∃ E, SW w0 blk off sz N E w' ∧ PermIn 0 sz D0 E ∧ Sd K 0 sz E := by
  have hr := stable_c cap HC H S hsz
  clear HC H S
  go_enter Try.func55, Try.ntmps55
  go_wp2_with (go_at_call 71; refine hr.mono ?_; rintro e w1 ⟨rfl, HG⟩; have HG := Lib.hid HG)
  go_end0
  exact ⟨rfl, Hid.out (by assumption)⟩
end Go.Proofs.Ytdfplhoijapoeaa.Lhf
