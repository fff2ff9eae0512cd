/- Sums, differences and quotients of doubles that are not below 0; a mean's step, a spread's, a smoothed value's. Conditions: finite words. -/
import Derived.Test.YtecppcgleidhkaaFv
set_option linter.unusedVariables false
set_option exponentiation.threshold 3000
namespace Go.Proofs.Ytecppcgleidhkaa.Fl
open Ieee

theorem INF_lt : INF < 2 ^ 63 := by decide
theorem rg_pos {x : Nat} (h : x < 2 ^ 63) : rg x = x := Nat.mod_eq_of_lt h
theorem sg_pos {x : Nat} (h : x < 2 ^ 63) : sg x = false := by unfold sg; rw [Nat.div_eq_of_lt h]; rfl
theorem sv_pos {x : Nat} (h : x < 2 ^ 63) : sv x = (V x : Int) := by unfold sv; rw [sg_pos h, rg_pos h]; rfl
theorem pos_of {z : Nat} (hz : z < 2 ^ 64) (h : sg z = false) : z < 2 ^ 63 := by
  unfold sg at h
  rcases Nat.lt_or_ge z (2 ^ 63) with c | c
  · exact c
  · have e : z / 2 ^ 63 = 1 := Nat.div_eq_of_lt_le (by omega) (by omega)
    rw [e] at h; cases h
theorem V_zero : V 0 = 0 := by decide
theorem V_pos {a : Nat} (h : V a = 0) : a = 0 := V_inj (h.trans V_zero.symm)
theorem V_le {a b : Nat} (h : V a ≤ V b) : a ≤ b := by
  rcases Nat.lt_or_ge b a with c | c
  · have := Nat.lt_of_lt_of_le (V_succ b) (V_mono (a := b + 1) (b := a) c); omega
  · exact c

/-- A rung twice as great, a rung that many powers greater. -/
theorem V_twice (a : Nat) : ∃ b, V b = 2 * V a := by
  rcases Nat.lt_or_ge a (2 ^ 52) with h | h
  · exact ⟨2 * a, by rw [V_small (by omega), V_small (by omega)]⟩
  · refine ⟨a + 2 ^ 52, ?_⟩
    obtain ⟨q, hq⟩ : ∃ q, q = a / 2 ^ 52 - 1 := ⟨_, rfl⟩
    unfold V
    rw [if_neg (by omega), if_neg (by omega)]
    have e1 : (a + 2 ^ 52) % 2 ^ 52 = a % 2 ^ 52 := by omega
    have e2 : (a + 2 ^ 52) / 2 ^ 52 - 1 = q + 1 := by omega
    rw [e1, e2, ← hq, show (2 : Nat) ^ (q + 1) = 2 ^ q * 2 from Nat.pow_succ _ _]
    generalize 2 ^ 52 + a % 2 ^ 52 = M
    generalize 2 ^ q = Q
    rw [← Nat.mul_assoc, Nat.mul_comm]
theorem V_up (a : Nat) : ∀ s, ∃ b, V b = V a * 2 ^ s
  | 0 => ⟨a, by simp⟩
  | s + 1 => by
    obtain ⟨b, hb⟩ := V_up a s
    obtain ⟨c, hc⟩ := V_twice b
    exact ⟨c, by rw [hc, hb, Nat.pow_succ]; ac_rfl⟩
theorem V_num {n : Nat} (h : n < 2 ^ 53) (s : Nat) : ∃ b, V b = n * 2 ^ s := by
  obtain ⟨b, hb⟩ := V_up n s
  exact ⟨b, by rw [hb, V_small h]⟩
theorem V_inf : V INF = 2 ^ 52 * 2 ^ 2046 := by
  unfold V INF
  rw [if_neg (by decide)]
theorem lt_inf {r : Nat} (h : V r < 2 ^ 52 * 2 ^ 2046) : r < INF := V_lt (by rw [V_inf]; exact h)

theorem add_zero_sg {x y z : Nat} (hx : rg x < INF) (hy : rg y < INF) (h : double.add x y = some z) (h0 : sv x + sv y = 0) : sg z = (sg x && sg y) := by
  obtain ⟨M, t, e1, v1⟩ := read_fin hx
  obtain ⟨N, u, e2, v2⟩ := read_fin hy
  unfold Format.add at h
  rw [e1, e2] at h
  simp only [Datum.sum, Option.map_some, Option.some.injEq] at h
  obtain ⟨b, hb⟩ : ∃ b, b = min t u := ⟨_, rfl⟩
  have hmin : min ((t : Int) - 1074) ((u : Int) - 1074) = (b : Int) - 1074 := by omega
  rw [hmin, show ((t : Int) - 1074 - ((b : Int) - 1074)).toNat = t - b by omega, show ((u : Int) - 1074 - ((b : Int) - 1074)).toNat = u - b by omega] at h
  have s1 := signed_val (sg x) M t b (by omega)
  have s2 := signed_val (sg y) N u b (by omega)
  rw [v1] at s1
  rw [v2] at s2
  have hsum : (signed (sg x) M (t - b) + signed (sg y) N (u - b)) * 2 ^ b = sv x + sv y := by
    rw [Int.add_mul, s1, s2]; rfl
  have hT : signed (sg x) M (t - b) + signed (sg y) N (u - b) = 0 := by
    rw [h0] at hsum
    rcases Int.mul_eq_zero.1 hsum with c | c
    · exact c
    · exact absurd c (Int.ne_of_gt (Int.pow_pos (by decide)))
  rw [if_pos hT] at h
  rw [← h]
  exact (write_num _ _ _).2
theorem sub_zero_sg {x y z : Nat} (hx : rg x < INF) (hy : rg y < INF) (h : double.sub x y = some z) (h0 : sv x - sv y = 0) : sg z = (sg x && !sg y) := by
  obtain ⟨M, t, e1, v1⟩ := read_fin hx
  obtain ⟨N, u, e2, v2⟩ := read_fin hy
  unfold Format.sub at h
  rw [e1, e2] at h
  simp only [Datum.opposite, Datum.sum, Option.map_some, Option.some.injEq] at h
  obtain ⟨b, hb⟩ : ∃ b, b = min t u := ⟨_, rfl⟩
  have hmin : min ((t : Int) - 1074) ((u : Int) - 1074) = (b : Int) - 1074 := by omega
  rw [hmin, show ((t : Int) - 1074 - ((b : Int) - 1074)).toNat = t - b by omega, show ((u : Int) - 1074 - ((b : Int) - 1074)).toNat = u - b by omega] at h
  have s1 := signed_val (sg x) M t b (by omega)
  have s2 := signed_val (!sg y) N u b (by omega)
  rw [v1] at s1
  rw [v2] at s2
  have hsum : (signed (sg x) M (t - b) + signed (!sg y) N (u - b)) * 2 ^ b = sv x - sv y := by
    rw [Int.add_mul, s1, s2]
    unfold sv
    cases sg x <;> cases sg y <;> simp <;> omega
  have hT : signed (sg x) M (t - b) + signed (!sg y) N (u - b) = 0 := by
    rw [h0] at hsum
    rcases Int.mul_eq_zero.1 hsum with c | c
    · exact c
    · exact absurd c (Int.ne_of_gt (Int.pow_pos (by decide)))
  rw [if_pos hT] at h
  rw [← h]
  exact (write_num _ _ _).2

theorem w64 : double.width = 64 := by decide
theorem add_64 {x y z : Nat} (h : double.add x y = some z) : z < 2 ^ 64 := by have := double.add_lt h; rwa [w64] at this
theorem sub_64 {x y z : Nat} (h : double.sub x y = some z) : z < 2 ^ 64 := by have := double.sub_lt h; rwa [w64] at this
theorem mul_64 {x y z : Nat} (h : double.mul x y = some z) : z < 2 ^ 64 := by have := double.mul_lt h; rwa [w64] at this
theorem div_64 {x y z : Nat} (h : double.div x y = some z) : z < 2 ^ 64 := by have := double.div_lt h; rwa [w64] at this

/-- The difference of two words that are not below 0. -/
theorem sub_pos {x m : Nat} (hx : x < INF) (hm : m < INF) : ∃ d, double.sub x m = some d ∧ d < 2 ^ 64 ∧ sg d = decide (x < m) ∧ (∀ r, (V x - V m) + (V m - V x) ≤ V r → rg d ≤ r) ∧ (∀ r, r ≤ INF → V r ≤ (V x - V m) + (V m - V x) → r ≤ rg d) ∧ rg d < INF := by
  have hx3 : x < 2 ^ 63 := Nat.lt_trans hx INF_lt
  have hm3 : m < 2 ^ 63 := Nat.lt_trans hm INF_lt
  have rx : rg x < INF := by rw [rg_pos hx3]; exact hx
  have rm : rg m < INF := by rw [rg_pos hm3]; exact hm
  obtain ⟨d, e, h1, h2, h3⟩ := sub_fin rx rm
  rw [sv_pos hx3, sv_pos hm3] at h1 h2 h3
  have ha : ((V x : Int) - (V m : Int)).natAbs = (V x - V m) + (V m - V x) := by omega
  rw [ha] at h1 h2
  have hs : sg d = decide (x < m) := by
    by_cases h0 : (V x : Int) - (V m : Int) = 0
    · rw [sub_zero_sg rx rm e (by rw [sv_pos hx3, sv_pos hm3]; exact h0), sg_pos hx3]
      have : x = m := V_inj (by omega)
      subst this
      simp
    · rw [h3 h0]
      apply decide_eq_decide.2
      constructor
      · intro h; exact V_lt (by omega)
      · intro h; have := V_mono (Nat.le_of_lt h); omega
  refine ⟨d, e, sub_64 e, hs, h1, h2, ?_⟩
  rcases Nat.le_total x m with c | c
  · have := V_mono c
    exact Nat.lt_of_le_of_lt (h1 m (by omega)) hm
  · have := V_mono c
    exact Nat.lt_of_le_of_lt (h1 x (by omega)) hx

/-- A word of a sign and a rung, whole. -/
theorem word_eq {z : Nat} (hz : z < 2 ^ 64) (h : sg z = false) : z = rg z := (rg_pos (pos_of hz h)).symm

/-- A finite word by a positive one, nought too. -/
theorem div_any {x y : Nat} (hx : rg x < INF) (hy : rg y < INF) (hy0 : V (rg y) ≠ 0) : ∃ z, double.div x y = some z ∧ z < 2 ^ 64 ∧ (∀ r, V (rg x) * 2 ^ 1074 ≤ V r * V (rg y) → rg z ≤ r) ∧ (∀ r, r ≤ INF → V r * V (rg y) ≤ V (rg x) * 2 ^ 1074 → r ≤ rg z) ∧ sg z = (sg x ^^ sg y) := by
  by_cases hx0 : V (rg x) = 0
  · obtain ⟨M, t, e1, v1⟩ := read_fin hx
    obtain ⟨N, u, e2, v2⟩ := read_fin hy
    have hM : M = 0 := by
      rw [hx0] at v1
      rcases Nat.mul_eq_zero.1 v1 with c | c
      · exact c
      · exact absurd c (Nat.ne_of_gt (Nat.two_pow_pos _))
    have hN : N ≠ 0 := fun h => hy0 (by rw [← v2, h]; simp)
    have e : double.div x y = some (double.write (.number (sg x ^^ sg y) 0 ((t : Int) - 1074 - ((u : Int) - 1074) - (double.fractionBits + 2 + N.log2 - M.log2 : Nat) - 1))) := by
      unfold Format.div
      rw [e1, e2]
      simp only [Datum.quotient, if_neg hN, Option.map_some]
      subst hM
      simp
    refine ⟨_, e, div_64 e, fun r hr => ?_, fun r hi hr => ?_, (write_num _ _ _).2⟩
    · rw [(write_num _ _ _).1]; unfold rnd; rw [if_pos rfl]; exact Nat.zero_le _
    · rw [(write_num _ _ _).1]; unfold rnd; rw [if_pos rfl]
      rw [hx0, Nat.zero_mul] at hr
      rcases Nat.mul_eq_zero.1 (Nat.le_zero.1 hr) with c | c
      · rw [V_pos c]; exact Nat.le_refl _
      · exact absurd c hy0
  · obtain ⟨z, e, h1, h2, h3⟩ := div_fin hx hy hx0 hy0
    exact ⟨z, e, div_64 e, h1, h2, h3⟩

/-- A whole number as a double: exact below 2 ^ 53. -/
def F (n : Nat) : Nat := double.write (.number false n 0)
theorem F_lt (n : Nat) : F n < 2 ^ 63 := pos_of (by have := double.write_lt (.number false n 0); rwa [w64] at this) (nat_fin n).2.2
theorem F_rg (n : Nat) : rg (F n) = F n := rg_pos (F_lt n)
theorem F_val {n : Nat} (h : n < 2 ^ 53) : V (F n) = n * 2 ^ 1074 ∧ F n < INF := by
  obtain ⟨b, hb⟩ := V_num h 1074
  have hi : b < INF := lt_inf (by
    rw [hb]
    calc n * 2 ^ 1074 < 2 ^ 53 * 2 ^ 1074 := Nat.mul_lt_mul_of_pos_right h (Nat.two_pow_pos _)
      _ ≤ 2 ^ 52 * 2 ^ 2046 := by rw [← Nat.pow_add, ← Nat.pow_add]; exact Nat.pow_le_pow_right (by decide) (by decide))
  have h1 := (nat_fin n).1 b (by rw [hb]; exact Nat.le_refl _)
  have h2 := (nat_fin n).2.1 b (Nat.le_of_lt hi) (by rw [hb]; exact Nat.le_refl _)
  have e : F n = b := by rw [← F_rg]; exact Nat.le_antisymm h1 h2
  rw [e]; exact ⟨hb, hi⟩
/-- Up to 2 ^ 62: as great as that at the most; and the order is kept. -/
def B62 : Nat := F (2 ^ 62)
theorem B62_val : V B62 = 2 ^ 62 * 2 ^ 1074 ∧ B62 < INF := by
  obtain ⟨b, hb⟩ := V_num (n := 1) (by decide) (62 + 1074)
  rw [Nat.one_mul, Nat.pow_add] at hb
  have hi : b < INF := lt_inf (by rw [hb, ← Nat.pow_add, ← Nat.pow_add]; exact Nat.pow_lt_pow_right (by decide) (by decide))
  have h1 := (nat_fin (2 ^ 62)).1 b (by rw [hb]; exact Nat.le_refl _)
  have h2 := (nat_fin (2 ^ 62)).2.1 b (Nat.le_of_lt hi) (by rw [hb]; exact Nat.le_refl _)
  have e : B62 = b := by unfold B62; rw [← F_rg]; exact Nat.le_antisymm h1 h2
  rw [e]; exact ⟨hb, hi⟩
theorem F_le {n : Nat} (h : n ≤ 2 ^ 62) : F n ≤ B62 := by
  have := (nat_fin n).1 B62 (by rw [B62_val.1]; exact Nat.mul_le_mul_right _ h)
  have e := F_rg n
  unfold F at e
  unfold F
  rw [← e]; exact this
theorem F_fin {n : Nat} (h : n ≤ 2 ^ 62) : F n < INF := Nat.lt_of_le_of_lt (F_le h) B62_val.2
theorem F_zero : F 0 = 0 := by
  have h := (F_val (n := 0) (by decide)).1
  rw [Nat.zero_mul] at h
  exact V_pos h

/-- A word that is not below 0 by a whole number. -/
theorem div_nat {x n : Nat} (hx : rg x < INF) (hn : 1 ≤ n) (hn2 : n < 2 ^ 53) : ∃ z, double.div x (F n) = some z ∧ z < 2 ^ 64 ∧ sg z = sg x ∧ (∀ r, V (rg x) ≤ V r * n → rg z ≤ r) ∧ (∀ r, r ≤ INF → V r * n ≤ V (rg x) → r ≤ rg z) := by
  have hf := F_val hn2
  have h0 : V (rg (F n)) ≠ 0 := by
    rw [F_rg, hf.1]
    exact Nat.ne_of_gt (Nat.mul_pos hn (Nat.two_pow_pos _))
  obtain ⟨z, e, h1, h2, h3, h4⟩ := div_any hx (by rw [F_rg]; exact hf.2) h0
  rw [F_rg, hf.1] at h2 h3
  refine ⟨z, e, h1, by rw [h4, sg_pos (F_lt n)]; simp, fun r hr => h2 r ?_, fun r hi hr => h3 r hi ?_⟩
  · rw [← Nat.mul_assoc]; exact Nat.mul_le_mul_right _ hr
  · rw [← Nat.mul_assoc]; exact Nat.mul_le_mul_right _ hr

/-- The n-th step of a mean: between the old one and the sample. -/
theorem mean_step {x m n : Nat} (hx : x < INF) (hm : m < INF) (hn : 1 ≤ n) (hn2 : n < 2 ^ 53) (h1 : n = 1 → m = 0) : ∃ d e m', double.sub x m = some d ∧ double.div d (F n) = some e ∧ double.add m e = some m' ∧ m' < INF ∧ (x ≤ m → x ≤ m' ∧ m' ≤ m) ∧ (m ≤ x → m ≤ m' ∧ m' ≤ x) ∧ (n = 1 → m' = x) ∧ sg d = decide (x < m) ∧ rg d ≤ max x m ∧ d < 2 ^ 64 := by
  have hx3 : x < 2 ^ 63 := Nat.lt_trans hx INF_lt
  have hm3 : m < 2 ^ 63 := Nat.lt_trans hm INF_lt
  have rm : rg m < INF := by rw [rg_pos hm3]; exact hm
  obtain ⟨d, ed, d1, d2, d3, d4, d5⟩ := sub_pos hx hm
  obtain ⟨e, ee, g1, g2, g3, g4⟩ := div_nat d5 hn hn2
  obtain ⟨D, hD⟩ : ∃ D, D = (V x - V m) + (V m - V x) := ⟨_, rfl⟩
  rw [← hD] at d3 d4
  have hdm : rg d ≤ max x m := by
    apply d3
    rcases Nat.le_total x m with c | c
    · have := V_mono c; rw [Nat.max_eq_right c]; omega
    · have := V_mono c; rw [Nat.max_eq_left c]; omega
  have hV : V (rg e) ≤ D := by
    by_cases h0 : D = 0
    · have hd0 : rg d ≤ 0 := d3 0 (by rw [h0]; exact Nat.zero_le _)
      have : rg e ≤ 0 := g3 0 (by rw [Nat.le_zero.1 hd0, V_zero]; exact Nat.zero_le _)
      rw [Nat.le_zero.1 this, V_zero]; exact Nat.zero_le _
    · by_cases hn1 : n = 1
      · have hm0 := h1 hn1
        subst hm0
        rw [V_zero] at hD
        have hd : rg d ≤ x := d3 x (by omega)
        have : rg e ≤ x := g3 x (by rw [hn1, Nat.mul_one]; exact V_mono hd)
        have := V_mono this
        omega
      · have hl := log_le h0
        have hl2 := log_lt D
        obtain ⟨a, ha⟩ := V_num (n := 1) (by decide) D.log2
        obtain ⟨b, hb⟩ := V_num (n := 1) (by decide) (D.log2 + 1)
        rw [Nat.one_mul] at ha hb
        have hd : rg d ≤ b := d3 b (by rw [hb]; exact Nat.le_of_lt hl2)
        have : rg e ≤ a := g3 a (by
          calc V (rg d) ≤ V b := V_mono hd
            _ = V a * 2 := by rw [hb, ha, Nat.pow_succ]
            _ ≤ V a * n := Nat.mul_le_mul_left _ (by omega))
        exact Nat.le_trans (V_mono this) (by rw [ha]; exact hl)
  have hei : rg e < INF := by
    have hDm : D ≤ V (max x m) := by
      rcases Nat.le_total x m with c | c
      · have := V_mono c; rw [Nat.max_eq_right c]; omega
      · have := V_mono c; rw [Nat.max_eq_left c]; omega
    exact Nat.lt_of_le_of_lt (V_le (Nat.le_trans hV hDm)) (Nat.max_lt.2 ⟨hx, hm⟩)
  obtain ⟨m', em, a1, a2, a3⟩ := add_fin rm hei
  have hse : sv e = if x < m then -(V (rg e) : Int) else (V (rg e) : Int) := by
    unfold sv
    rw [g2, d2]
    by_cases c : x < m <;> simp [c]
  have h64 := add_64 em
  have fin : ∀ lo hi : Nat, V lo ≤ (sv m + sv e).natAbs → (sv m + sv e).natAbs ≤ V hi → 0 ≤ sv m + sv e → hi < INF → lo ≤ hi → lo ≤ m' ∧ m' ≤ hi ∧ m' < INF := by
    intro lo hi q1 q2 q3 q4 q5
    have hs : sg m' = false := by
      by_cases h0 : sv m + sv e = 0
      · rw [add_zero_sg rm hei em h0, sg_pos hm3]; rfl
      · rw [a3 h0]; simp; omega
    have hw := word_eq h64 hs
    have b1 := a2 lo (Nat.le_of_lt (Nat.lt_of_le_of_lt q5 q4)) q1
    have b2 := a1 hi q2
    rw [← hw] at b1 b2
    exact ⟨b1, b2, Nat.lt_of_le_of_lt b2 q4⟩
  rw [sv_pos hm3] at fin
  have lohi : (x ≤ m → x ≤ m' ∧ m' ≤ m ∧ m' < INF) ∧ (m ≤ x → m ≤ m' ∧ m' ≤ x ∧ m' < INF) := by
    constructor
    · intro c
      have hc := V_mono c
      apply fin x m _ _ _ hm c
      all_goals (rw [hse]; split <;> first | omega | skip)
      all_goals (rename_i c2; obtain rfl : x = m := by omega)
      all_goals omega
    · intro c
      have hc := V_mono c
      have c2 : ¬ x < m := by omega
      rw [if_neg c2] at hse
      rw [hse] at fin
      exact fin m x (by omega) (by omega) (by omega) hx c
  refine ⟨d, e, m', ed, ee, em, ?_, fun c => ⟨(lohi.1 c).1, (lohi.1 c).2.1⟩, fun c => ⟨(lohi.2 c).1, (lohi.2 c).2.1⟩, fun c => ?_, d2, hdm, d1⟩
  · rcases Nat.le_total x m with c | c
    · exact (lohi.1 c).2.2
    · exact (lohi.2 c).2.2
  · have hm0 := h1 c
    subst hm0
    rw [V_zero] at hD
    have q1 : x ≤ rg d := d4 x (Nat.le_of_lt hx) (by omega)
    have q2 : x ≤ rg e := g4 x (Nat.le_of_lt hx) (by rw [c, Nat.mul_one]; exact V_mono q1)
    have q3 := V_mono q2
    have q4 := (lohi.2 (Nat.zero_le _)).2.1
    have c2 : ¬ x < 0 := by omega
    rw [if_neg c2] at hse
    have q5 := (fin x x (by rw [hse, V_zero]; omega) (by rw [hse, V_zero]; omega) (by rw [hse, V_zero]; omega) hx (Nat.le_refl _)).1
    omega
end Go.Proofs.Ytecppcgleidhkaa.Fl
