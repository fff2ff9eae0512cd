/- A spread's step, a smoothed value's step: what stays finite. Conditions: samples up to 2 ^ 62. -/
import Derived.Test.YtecppcgleidhkaaFw
set_option linter.unusedVariables false
set_option exponentiation.threshold 3000
namespace Go.Proofs.Ytecppcgleidhkaa.Fl
open Ieee

theorem sv_zero {x : Nat} (h : rg x = 0) : sv x = 0 := by
  unfold sv; rw [h, V_zero]; split <;> rfl
theorem spread_step {x m d m' s k : Nat} (hx : x ≤ B62) (hm : m ≤ B62) (hm' : m' ≤ B62) (hd : sg d = decide (x < m)) (hdr : rg d ≤ max x m) (c1 : x ≤ m → x ≤ m') (c2 : m ≤ x → m' ≤ x) (hs : s < INF) (hsv : V s ≤ k * 2 ^ 1198) (hk : k + 1 < 2 ^ 53) :
    ∃ r p s', double.sub x m' = some r ∧ double.mul d r = some p ∧ double.add s p = some s' ∧ s' < INF ∧ V s' ≤ (k + 1) * 2 ^ 1198 ∧ (rg d = 0 ∨ x = m' → s = 0 → s' = 0) := by
  have hb := B62_val
  have lx : x < INF := Nat.lt_of_le_of_lt hx hb.2
  have lm' : m' < INF := Nat.lt_of_le_of_lt hm' hb.2
  have hs3 : s < 2 ^ 63 := Nat.lt_trans hs INF_lt
  have rs : rg s < INF := by rw [rg_pos hs3]; exact hs
  obtain ⟨r, er, r1, r2, r3, r4, r5⟩ := sub_pos lx lm'
  have hd5 : rg d < INF := Nat.lt_of_le_of_lt hdr (Nat.max_lt.2 ⟨lx, Nat.lt_of_le_of_lt hm hb.2⟩)
  have vd : V (rg d) ≤ 2 ^ 62 * 2 ^ 1074 := by
    rw [← hb.1]; exact V_mono (Nat.le_trans hdr (Nat.max_le.2 ⟨hx, hm⟩))
  have vr : V (rg r) ≤ 2 ^ 62 * 2 ^ 1074 := by
    rw [← hb.1]
    refine V_mono (r3 _ ?_)
    have a1 := V_mono hx
    have a2 := V_mono hm'
    omega
  obtain ⟨p, ep, p1, p2, p3⟩ := mul_fin hd5 r5
  obtain ⟨rp, hrp⟩ := V_num (n := 1) (by decide) 1198
  rw [Nat.one_mul] at hrp
  have hp : rg p ≤ rp := p1 rp (by
    rw [hrp]
    calc V (rg d) * V (rg r) ≤ (2 ^ 62 * 2 ^ 1074) * (2 ^ 62 * 2 ^ 1074) := Nat.mul_le_mul vd vr
      _ = 2 ^ 1198 * 2 ^ 1074 := by simp only [← Nat.pow_add])
  have hpv : V (rg p) ≤ 2 ^ 1198 := by rw [← hrp]; exact V_mono hp
  have hpi : rg p < INF := lt_inf (Nat.lt_of_le_of_lt hpv (by rw [← Nat.pow_add]; exact Nat.pow_lt_pow_right (by decide) (by decide)))
  have hzero : rg d = 0 ∨ x = m' → rg p = 0 := by
    intro h
    apply Nat.le_zero.1
    apply p1 0
    rcases h with h | h
    · rw [h, V_zero]; simp
    · subst h
      have : rg r ≤ 0 := r3 0 (by omega)
      rw [Nat.le_zero.1 this, V_zero]; simp
  have hsp : 0 ≤ sv p ∧ sv p ≤ (2 ^ 1198 : Nat) := by
    by_cases c : x < m
    · have hc := c1 (Nat.le_of_lt c)
      rcases Nat.lt_or_ge x m' with c' | c'
      · have : sg p = false := by rw [p3, hd, r2]; simp [c, c']
        unfold sv; rw [this]
        simp only [Bool.false_eq_true, if_false]
        exact ⟨Int.natCast_nonneg _, Int.ofNat_le.2 hpv⟩
      · rw [sv_zero (hzero (Or.inr (by omega)))]
        exact ⟨Int.le_refl _, Int.natCast_nonneg _⟩
    · have hc := c2 (by omega)
      have : sg p = false := by rw [p3, hd, r2]; simp; omega
      unfold sv; rw [this]
      simp only [Bool.false_eq_true, if_false]
      exact ⟨Int.natCast_nonneg _, Int.ofNat_le.2 hpv⟩
  obtain ⟨s', es, s1, s2, s3⟩ := add_fin rs hpi
  rw [sv_pos hs3] at s1 s2 s3
  have hsg : sg s' = false := by
    by_cases h0 : (V s : Int) + sv p = 0
    · rw [add_zero_sg rs hpi es (by rw [sv_pos hs3]; exact h0), sg_pos hs3]; rfl
    · rw [s3 h0]; simp; omega
  have hw := word_eq (add_64 es) hsg
  obtain ⟨rk, hrk⟩ := V_num hk 1198
  have hle : ((V s : Int) + sv p).natAbs ≤ (k + 1) * 2 ^ 1198 := by
    rw [Nat.succ_mul]
    generalize (2 : Nat) ^ 1198 = Q at *
    generalize k * Q = K at *
    omega
  have hsle : s' ≤ rk := by rw [hw]; exact s1 rk (by rw [hrk]; exact hle)
  have hvs : V s' ≤ (k + 1) * 2 ^ 1198 := by rw [← hrk]; exact V_mono hsle
  refine ⟨r, p, s', er, ep, es, lt_inf (Nat.lt_of_le_of_lt hvs ?_), hvs, fun h h0 => ?_⟩
  · calc (k + 1) * 2 ^ 1198 < 2 ^ 53 * 2 ^ 1198 := Nat.mul_lt_mul_of_pos_right hk (Nat.two_pow_pos _)
      _ ≤ 2 ^ 52 * 2 ^ 2046 := by rw [← Nat.pow_add, ← Nat.pow_add]; exact Nat.pow_le_pow_right (by decide) (by decide)
  · have : rg s' ≤ 0 := s1 0 (by rw [h0, V_zero, sv_zero (hzero h)]; simp)
    rw [hw]; exact Nat.le_zero.1 this

/-- 1, and what is left of it. -/
def ONE : Nat := 4607182418800017408
theorem one_F : F 1 = ONE := by decide
theorem one_val : V ONE = 2 ^ 1074 ∧ ONE < INF := by
  have := F_val (n := 1) (by decide)
  rw [one_F, Nat.one_mul] at this
  exact this
/-- The smoothed value's step: it stays at 2 ^ 63 at the most. -/
theorem smooth_step {k v x : Nat} (hk : k < ONE) (hv : v < INF) (hvv : V v ≤ 2 ^ 63 * 2 ^ 1074) (hx : x ≤ B62) :
    ∃ p l q v', double.mul k v = some p ∧ double.sub ONE k = some l ∧ double.mul l x = some q ∧ double.add p q = some v' ∧ v' < INF ∧ V v' ≤ 2 ^ 63 * 2 ^ 1074 := by
  have hb := B62_val
  have ho := one_val
  have lk : k < INF := Nat.lt_trans hk ho.2
  have lx : x < INF := Nat.lt_of_le_of_lt hx hb.2
  have k3 : k < 2 ^ 63 := Nat.lt_trans lk INF_lt
  have v3 : v < 2 ^ 63 := Nat.lt_trans hv INF_lt
  have x3 : x < 2 ^ 63 := Nat.lt_trans lx INF_lt
  have kv : V k < 2 ^ 1074 := by
    rw [← ho.1]
    exact Nat.lt_of_lt_of_le (V_succ k) (V_mono hk)
  obtain ⟨p, ep, p1, p2, p3⟩ := mul_fin (x := k) (y := v) (by rw [rg_pos k3]; exact lk) (by rw [rg_pos v3]; exact hv)
  rw [rg_pos k3, rg_pos v3] at p1
  obtain ⟨a, ha⟩ := V_up k 63
  have hp : V (rg p) ≤ V k * 2 ^ 63 := by
    rw [← ha]
    refine V_mono (p1 a ?_)
    rw [ha, Nat.mul_assoc]
    exact Nat.mul_le_mul_left _ hvv
  have sp : sg p = false := by rw [p3, sg_pos k3, sg_pos v3]; rfl
  obtain ⟨l, el, l1, l2, l3, l4, l5⟩ := sub_pos ho.2 lk
  have sl : sg l = false := by rw [l2]; simp; omega
  obtain ⟨D, hD⟩ : ∃ D, D = 2 ^ 1074 - V k := ⟨_, rfl⟩
  have hD0 : D ≠ 0 := by omega
  have hl : V (rg l) ≤ 2 * D := by
    have g1 := log_le hD0
    have g2 := log_lt D
    obtain ⟨b, hb'⟩ := V_num (n := 1) (by decide) (D.log2 + 1)
    rw [Nat.one_mul] at hb'
    have : rg l ≤ b := l3 b (by rw [hb', ho.1]; omega)
    have := V_mono this
    rw [hb', Nat.pow_succ] at this
    omega
  obtain ⟨q, eq, q1, q2, q3⟩ := mul_fin (x := l) (y := x) l5 (by rw [rg_pos x3]; exact lx)
  rw [rg_pos x3] at q1
  obtain ⟨c, hc⟩ := V_up (rg l) 62
  have hq : V (rg q) ≤ D * 2 ^ 63 := by
    have h1 : rg q ≤ c := by
      apply q1 c
      rw [hc, Nat.mul_assoc]
      refine Nat.mul_le_mul_left _ ?_
      rw [← hb.1]; exact V_mono hx
    calc V (rg q) ≤ V c := V_mono h1
      _ = V (rg l) * 2 ^ 62 := hc
      _ ≤ 2 * D * 2 ^ 62 := Nat.mul_le_mul_right _ hl
      _ = D * 2 ^ 63 := by rw [Nat.mul_comm 2 D, Nat.mul_assoc]
  have sq : sg q = false := by rw [q3, sl, sg_pos x3]; rfl
  have hsum : V (rg p) + V (rg q) ≤ 2 ^ 63 * 2 ^ 1074 := by
    calc V (rg p) + V (rg q) ≤ V k * 2 ^ 63 + D * 2 ^ 63 := Nat.add_le_add hp hq
      _ = (V k + D) * 2 ^ 63 := (Nat.add_mul ..).symm
      _ = 2 ^ 63 * 2 ^ 1074 := by rw [show V k + D = 2 ^ 1074 by omega, Nat.mul_comm]
  have small : ∀ r, V r ≤ 2 ^ 63 * 2 ^ 1074 → r < INF := fun r h => lt_inf (Nat.lt_of_le_of_lt h (by rw [← Nat.pow_add, ← Nat.pow_add]; exact Nat.pow_lt_pow_right (by decide) (by decide)))
  have ip : rg p < INF := small _ (Nat.le_trans (Nat.le_add_right _ _) hsum)
  have iq : rg q < INF := small _ (Nat.le_trans (Nat.le_add_left _ _) hsum)
  obtain ⟨v', ev, w1, w2, w3⟩ := add_fin ip iq
  have svp : sv p = (V (rg p) : Int) := by unfold sv; rw [sp]; rfl
  have svq : sv q = (V (rg q) : Int) := by unfold sv; rw [sq]; rfl
  have sv' : sg v' = false := by
    by_cases h0 : sv p + sv q = 0
    · rw [add_zero_sg ip iq ev h0, sp]; rfl
    · rw [w3 h0, svp, svq]; simp; omega
  have hw := word_eq (add_64 ev) sv'
  obtain ⟨t, ht⟩ := V_num (n := 1) (by decide) (63 + 1074)
  rw [Nat.one_mul, Nat.pow_add] at ht
  have hv' : v' ≤ t := by
    rw [hw]
    apply w1 t
    rw [svp, svq, ht]
    omega
  have := V_mono hv'
  rw [ht] at this
  exact ⟨p, l, q, v', ep, el, eq, ev, small _ this, this⟩
end Go.Proofs.Ytecppcgleidhkaa.Fl
