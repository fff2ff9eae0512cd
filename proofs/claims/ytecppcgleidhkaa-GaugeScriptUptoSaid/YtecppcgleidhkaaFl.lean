/- Rounding to a double, as rungs: it is monotone, and a double's own value is kept. Conditions: none. -/
import Ieee.Arith
import Derived.Laws.FloatBits
set_option linter.unusedVariables false
namespace Go.Proofs.Ytecppcgleidhkaa.Fl
open Ieee

/-- A half-even cut of n by d digits. -/
def cutE (n d : Nat) : Nat := Toward.even.cut false n d
theorem cut_any (neg : Bool) (n d : Nat) : Toward.even.cut neg n d = cutE n d := rfl

theorem log_lt (n : Nat) : n < 2 ^ (n.log2 + 1) := Nat.lt_log2_self
theorem log_le {n : Nat} (h : n ≠ 0) : 2 ^ n.log2 ≤ n := Nat.log2_self_le h

theorem cut_gap (n d : Nat) : cutE n d = n / 2 ^ min d (n.log2 + 2) + (decide (2 ^ min d (n.log2 + 2) < 2 * (n % 2 ^ min d (n.log2 + 2))) || (2 ^ min d (n.log2 + 2) == 2 * (n % 2 ^ min d (n.log2 + 2)) && n / 2 ^ min d (n.log2 + 2) % 2 == 1)).toNat := by
  unfold cutE Toward.cut
  simp only [Nat.shiftLeft_eq, Nat.one_mul]
theorem cut_zero (n : Nat) : cutE n 0 = n := by
  rw [cut_gap]
  simp [Nat.mod_one]
theorem toNat_le (b : Bool) : b.toNat ≤ 1 := by cases b <;> simp
theorem cut_le {n d M : Nat} (h : n ≤ M * 2 ^ d) : cutE n d ≤ M := by
  rw [cut_gap]
  by_cases hd : d ≤ n.log2 + 2
  · rw [Nat.min_eq_left hd]
    have hg : 0 < 2 ^ d := Nat.two_pow_pos d
    generalize 2 ^ d = G at *
    have h1 := Nat.div_add_mod n G
    have h2 : n % G < G := Nat.mod_lt n hg
    have h3 : n / G ≤ M := by
      rw [Nat.mul_comm] at h
      have := Nat.div_le_div_right (c := G) h
      rwa [Nat.mul_div_cancel_left _ hg] at this
    rcases Nat.lt_or_ge (n / G) M with hlt | hge
    · have := toNat_le (decide (G < 2 * (n % G)) || (G == 2 * (n % G) && n / G % 2 == 1)); omega
    · have e : n / G = M := by omega
      have h4 : n % G = 0 := by
        rw [e, Nat.mul_comm] at h1
        omega
      rw [h4, e]
      have : (decide (G < 2 * 0) || (G == 2 * 0 && M % 2 == 1)) = false := by
        simp; omega
      rw [this]; simp
  · rw [Nat.min_eq_right (by omega)]
    have h1 := log_lt n
    have e2 : 2 ^ (n.log2 + 2) = 2 * 2 ^ (n.log2 + 1) := by rw [Nat.pow_succ, Nat.mul_comm]
    generalize 2 ^ (n.log2 + 2) = G at *
    have h3 : n < G := by omega
    rw [Nat.div_eq_of_lt h3, Nat.mod_eq_of_lt h3]
    have : (decide (G < 2 * n) || (G == 2 * n && 0 % 2 == 1)) = false := by
      simp; omega
    rw [this]; simp
theorem cut_ge {n d M : Nat} (h : M * 2 ^ d ≤ n) : M ≤ cutE n d := by
  rw [cut_gap]
  by_cases hd : d ≤ n.log2 + 2
  · rw [Nat.min_eq_left hd]
    have hg : 0 < 2 ^ d := Nat.two_pow_pos d
    have := (Nat.le_div_iff_mul_le hg).2 h
    omega
  · rcases Nat.eq_zero_or_pos M with h0 | h0
    · rw [h0]; exact Nat.zero_le _
    · have h1 := log_lt n
      have h2 : 2 ^ (n.log2 + 1) ≤ 2 ^ d := Nat.pow_le_pow_right (by decide) (by omega)
      have h3 : 2 ^ d ≤ M * 2 ^ d := Nat.le_mul_of_pos_left _ h0
      exact absurd (Nat.lt_of_lt_of_le h1 (Nat.le_trans h2 (Nat.le_trans h3 h))) (Nat.lt_irrefl _)

/-- The rung of m * 2 ^ e. -/
def rnd (m : Nat) (e : Int) : Nat :=
  if m = 0 then 0 else
    min ((max (e + m.log2 - 52) (-1074) + 1074).toNat * 2 ^ 52 + cutE (m <<< (e - max (e + m.log2 - 52) (-1074)).toNat) (max (e + m.log2 - 52) (-1074) - e).toNat) double.infRung
theorem nearest_rnd (neg : Bool) (m : Nat) (e : Int) : double.nearest neg m e = double.word neg (rnd m e) := by
  unfold Format.nearest rnd
  by_cases h : m = 0
  · rw [if_pos h, if_pos h]
  · rw [if_neg h, if_neg h]
    have e1 : double.leastPlace = -1074 := by decide
    have e2 : double.binade = 2 ^ 52 := rfl
    have e3 : ((double.fractionBits : Nat) : Int) = 52 := rfl
    simp only [e1, e2, e3, cut_any]
    rw [show ∀ a : Int, a - -1074 = a + 1074 from fun a => by omega]

/-- A rung's value, in units of the least place. -/
def V (r : Nat) : Nat := if r < 2 ^ 52 then r else (2 ^ 52 + r % 2 ^ 52) * 2 ^ (r / 2 ^ 52 - 1)
theorem V_small {r : Nat} (h : r < 2 ^ 53) : V r = r := by
  unfold V
  split
  · rfl
  · have : r / 2 ^ 52 = 1 := by omega
    rw [this]
    omega
theorem V_great {r : Nat} (h : 2 ^ 52 ≤ r) : ∃ M t, V r = M * 2 ^ t ∧ 2 ^ 52 ≤ M ∧ M < 2 ^ 53 ∧ r = t * 2 ^ 52 + M := by
  refine ⟨2 ^ 52 + r % 2 ^ 52, r / 2 ^ 52 - 1, ?_, by omega, by omega, by omega⟩
  unfold V
  rw [if_neg (by omega)]
theorem V_ge {r : Nat} (h : 2 ^ 53 ≤ r) : 2 ^ 53 ≤ V r := by
  obtain ⟨M, t, e, h1, h2, h3⟩ := V_great (r := r) (by omega)
  rw [e]
  have ht : 1 ≤ t := by omega
  have : 2 ^ 1 ≤ 2 ^ t := Nat.pow_le_pow_right (by decide) ht
  calc 2 ^ 53 = 2 ^ 52 * 2 ^ 1 := by decide
    _ ≤ M * 2 ^ t := Nat.mul_le_mul h1 this

theorem pow_lt_imp {a b : Nat} (h : 2 ^ a < 2 ^ b) : a < b := (Nat.pow_lt_pow_iff_right (by decide)).1 h
theorem pow_le_imp {a b : Nat} (h : 2 ^ a ≤ 2 ^ b) : a ≤ b := (Nat.pow_le_pow_iff_right (by decide)).1 h

/-- The parts of rnd at e = E - 1074 - s. -/
theorem rnd_low {m E s : Nat} (hm : m ≠ 0) (h : E + m.log2 ≤ s + 52) : rnd m ((E : Int) - 1074 - s) = min (if s ≤ E then m * 2 ^ (E - s) else cutE m (s - E)) double.infRung := by
  unfold rnd
  rw [if_neg hm]
  have e1 : max ((E : Int) - 1074 - s + m.log2 - 52) (-1074) = -1074 := by omega
  rw [e1]
  have e2 : ((-1074 : Int) + 1074).toNat = 0 := by decide
  rw [e2, Nat.zero_mul, Nat.zero_add]
  by_cases hs : s ≤ E
  · rw [if_pos hs, show ((E : Int) - 1074 - s - -1074).toNat = E - s by omega, show (-1074 - ((E : Int) - 1074 - s)).toNat = 0 by omega, cut_zero, Nat.shiftLeft_eq]
  · rw [if_neg hs, show ((E : Int) - 1074 - s - -1074).toNat = 0 by omega, show (-1074 - ((E : Int) - 1074 - s)).toNat = s - E by omega, Nat.shiftLeft_zero]
theorem rnd_high {m E s : Nat} (hm : m ≠ 0) (h : s + 52 < E + m.log2) : rnd m ((E : Int) - 1074 - s) = min ((E + m.log2 - s - 52) * 2 ^ 52 + (if m.log2 ≤ 52 then m * 2 ^ (52 - m.log2) else cutE m (m.log2 - 52))) double.infRung := by
  unfold rnd
  rw [if_neg hm]
  have e1 : max ((E : Int) - 1074 - s + m.log2 - 52) (-1074) = (E : Int) - 1074 - s + m.log2 - 52 := by omega
  rw [e1]
  rw [show ((E : Int) - 1074 - s + m.log2 - 52 + 1074).toNat = E + m.log2 - s - 52 by omega]
  by_cases hs : m.log2 ≤ 52
  · rw [if_pos hs, show ((E : Int) - 1074 - s - ((E : Int) - 1074 - s + m.log2 - 52)).toNat = 52 - m.log2 by omega, show ((E : Int) - 1074 - s + m.log2 - 52 - ((E : Int) - 1074 - s)).toNat = 0 by omega, cut_zero, Nat.shiftLeft_eq]
  · rw [if_neg hs, show ((E : Int) - 1074 - s - ((E : Int) - 1074 - s + m.log2 - 52)).toNat = 0 by omega, show ((E : Int) - 1074 - s + m.log2 - 52 - ((E : Int) - 1074 - s)).toNat = m.log2 - 52 by omega, Nat.shiftLeft_zero]

theorem le_cancel {a b k : Nat} (h : a * 2 ^ k ≤ b * 2 ^ k) : a ≤ b := Nat.le_of_mul_le_mul_right h (Nat.two_pow_pos k)
theorem pow_split {a b : Nat} (h : b ≤ a) : 2 ^ a = 2 ^ (a - b) * 2 ^ b := by rw [← Nat.pow_add]; congr 1; omega

/-- What is at most a double's value is rounded to at most that double. -/
theorem rnd_le {m E s r : Nat} (h : m * 2 ^ E ≤ V r * 2 ^ s) : rnd m ((E : Int) - 1074 - s) ≤ r := by
  by_cases hm : m = 0
  · unfold rnd; rw [if_pos hm]; exact Nat.zero_le _
  have hl := log_lt m
  have hl2 := log_le hm
  by_cases hc : E + m.log2 ≤ s + 52
  · rw [rnd_low hm hc]
    refine Nat.le_trans (Nat.min_le_left ..) ?_
    split
    · rename_i hs
      have h1 : m * 2 ^ (E - s) ≤ V r := by
        rw [pow_split hs, ← Nat.mul_assoc] at h
        exact le_cancel h
      have h2 : m * 2 ^ (E - s) < 2 ^ 53 := by
        calc m * 2 ^ (E - s) < 2 ^ (m.log2 + 1) * 2 ^ (E - s) := Nat.mul_lt_mul_of_pos_right hl (Nat.two_pow_pos _)
          _ = 2 ^ (m.log2 + 1 + (E - s)) := (Nat.pow_add ..).symm
          _ ≤ 2 ^ 53 := Nat.pow_le_pow_right (by decide) (by omega)
      rcases Nat.lt_or_ge r (2 ^ 53) with hr | hr
      · rwa [V_small hr] at h1
      · omega
    · rename_i hs
      rcases Nat.lt_or_ge r (2 ^ 53) with hr | hr
      · rw [V_small hr, pow_split (show E ≤ s by omega), ← Nat.mul_assoc] at h
        exact cut_le (le_cancel h)
      · refine Nat.le_trans (cut_le (M := 2 ^ 53) ?_) hr
        calc m ≤ 2 ^ (m.log2 + 1) := Nat.le_of_lt hl
          _ ≤ 2 ^ (53 + (s - E)) := Nat.pow_le_pow_right (by decide) (by omega)
          _ = 2 ^ 53 * 2 ^ (s - E) := Nat.pow_add ..
  · have hc' : s + 52 < E + m.log2 := by omega
    rw [rnd_high hm hc']
    refine Nat.le_trans (Nat.min_le_left ..) ?_
    have hlo : 2 ^ (m.log2 + E) ≤ V r * 2 ^ s := by
      rw [Nat.pow_add]
      exact Nat.le_trans (Nat.mul_le_mul_right _ hl2) h
    have hkept : (if m.log2 ≤ 52 then m * 2 ^ (52 - m.log2) else cutE m (m.log2 - 52)) ≤ 2 ^ 53 := by
      split
      · calc m * 2 ^ (52 - m.log2) ≤ 2 ^ (m.log2 + 1) * 2 ^ (52 - m.log2) := Nat.mul_le_mul_right _ (Nat.le_of_lt hl)
          _ = 2 ^ (m.log2 + 1 + (52 - m.log2)) := (Nat.pow_add ..).symm
          _ ≤ 2 ^ 53 := Nat.pow_le_pow_right (by decide) (by omega)
      · refine cut_le ?_
        calc m ≤ 2 ^ (m.log2 + 1) := Nat.le_of_lt hl
          _ ≤ 2 ^ (53 + (m.log2 - 52)) := Nat.pow_le_pow_right (by decide) (by omega)
          _ = 2 ^ 53 * 2 ^ (m.log2 - 52) := Nat.pow_add ..
    have hr : 2 ^ 53 ≤ r := by
      rcases Nat.lt_or_ge r (2 ^ 53) with hr | hr
      · rw [V_small hr] at hlo
        have h2 : r * 2 ^ s < 2 ^ 53 * 2 ^ s := Nat.mul_lt_mul_of_pos_right hr (Nat.two_pow_pos _)
        rw [← Nat.pow_add] at h2
        have := pow_lt_imp (Nat.lt_of_le_of_lt hlo h2)
        omega
      · exact hr
    obtain ⟨M, t, e, h1, h2, h3⟩ := V_great (r := r) (by omega)
    rw [e] at hlo h
    have hla : m.log2 + E < 53 + t + s := by
      apply pow_lt_imp
      calc 2 ^ (m.log2 + E) ≤ M * 2 ^ t * 2 ^ s := hlo
        _ < 2 ^ 53 * 2 ^ t * 2 ^ s := Nat.mul_lt_mul_of_pos_right (Nat.mul_lt_mul_of_pos_right h2 (Nat.two_pow_pos _)) (Nat.two_pow_pos _)
        _ = 2 ^ (53 + t + s) := by rw [Nat.pow_add, Nat.pow_add]
    rcases Nat.lt_or_ge (E + m.log2 - s - 52) t with hlt | hge
    · obtain ⟨t', rfl⟩ : ∃ t', t = t' + 1 := ⟨t - 1, by omega⟩
      have h4 : (E + m.log2 - s - 52) * 2 ^ 52 ≤ t' * 2 ^ 52 := Nat.mul_le_mul_right _ (by omega)
      rw [Nat.succ_mul] at h3
      clear h hlo hla hl hl2 e
      generalize (if m.log2 ≤ 52 then m * 2 ^ (52 - m.log2) else cutE m (m.log2 - 52)) = K at *
      generalize (E + m.log2 - s - 52) = L at *
      rw [show (2 : Nat) ^ 53 = 2 * 2 ^ 52 by decide] at hkept
      clear hc hc' hlt hr h2 hm
      generalize (2 : Nat) ^ 52 = Q at *
      generalize t' * Q = U at *
      generalize L * Q = W at *
      omega
    · have et : E + m.log2 - s - 52 = t := by omega
      rw [et]
      have hk : (if m.log2 ≤ 52 then m * 2 ^ (52 - m.log2) else cutE m (m.log2 - 52)) ≤ M := by
        rw [Nat.mul_assoc, ← Nat.pow_add, show t + s = E + m.log2 - 52 by omega] at h
        split
        · rename_i hs
          apply le_cancel (k := E + m.log2 - 52)
          rw [Nat.mul_assoc, ← Nat.pow_add, show 52 - m.log2 + (E + m.log2 - 52) = E by omega]
          exact h
        · rename_i hs
          refine cut_le (le_cancel (k := E) ?_)
          rw [Nat.mul_assoc, ← Nat.pow_add, show m.log2 - 52 + E = E + m.log2 - 52 by omega]
          exact h
      omega

/-- What is at least a double's value is rounded to at least that double. -/
theorem le_rnd {m E s r : Nat} (h : V r * 2 ^ s ≤ m * 2 ^ E) (hi : r ≤ double.infRung) : r ≤ rnd m ((E : Int) - 1074 - s) := by
  by_cases hm : m = 0
  · subst hm
    rw [Nat.zero_mul] at h
    have hv : V r = 0 := by
      have := Nat.two_pow_pos s
      rcases Nat.eq_zero_or_pos (V r) with h0 | h0
      · exact h0
      · have := Nat.mul_pos h0 this; omega
    rcases Nat.lt_or_ge r (2 ^ 53) with hr | hr
    · rw [V_small hr] at hv; omega
    · have := V_ge hr; omega
  have hl := log_lt m
  have hl2 := log_le hm
  have key : ∀ k, m * 2 ^ E < 2 ^ k → V r * 2 ^ s < 2 ^ k := fun k hk => Nat.lt_of_le_of_lt h hk
  have hup : m * 2 ^ E < 2 ^ (m.log2 + 1 + E) := by
    rw [Nat.pow_add]; exact Nat.mul_lt_mul_of_pos_right hl (Nat.two_pow_pos _)
  by_cases hc : E + m.log2 ≤ s + 52
  · rw [rnd_low hm hc]
    refine Nat.le_min.2 ⟨?_, hi⟩
    have hr : r < 2 ^ 53 := by
      rcases Nat.lt_or_ge r (2 ^ 53) with hr | hr
      · exact hr
      · have h1 := V_ge hr
        have h2 : 2 ^ 53 * 2 ^ s ≤ V r * 2 ^ s := Nat.mul_le_mul_right _ h1
        rw [← Nat.pow_add] at h2
        have := pow_lt_imp (Nat.lt_of_le_of_lt h2 (key _ hup))
        omega
    rw [V_small hr] at h
    split
    · rename_i hs
      rw [pow_split hs, ← Nat.mul_assoc] at h
      exact le_cancel h
    · rename_i hs
      rw [pow_split (show E ≤ s by omega), ← Nat.mul_assoc] at h
      exact cut_ge (le_cancel h)
  · have hc' : s + 52 < E + m.log2 := by omega
    rw [rnd_high hm hc']
    refine Nat.le_min.2 ⟨?_, hi⟩
    have hkept : 2 ^ 52 ≤ (if m.log2 ≤ 52 then m * 2 ^ (52 - m.log2) else cutE m (m.log2 - 52)) := by
      split
      · calc 2 ^ 52 = 2 ^ m.log2 * 2 ^ (52 - m.log2) := by rw [← Nat.pow_add]; congr 1; omega
          _ ≤ m * 2 ^ (52 - m.log2) := Nat.mul_le_mul_right _ hl2
      · refine cut_ge ?_
        rw [← Nat.pow_add, show 52 + (m.log2 - 52) = m.log2 by omega]
        exact hl2
    have hla1 : 2 ^ 52 ≤ (E + m.log2 - s - 52) * 2 ^ 52 := Nat.le_mul_of_pos_left _ (by omega)
    rcases Nat.lt_or_ge r (2 ^ 53) with hr | hr
    · omega
    · obtain ⟨M, t, e, h1, h2, h3⟩ := V_great (r := r) (by omega)
      rw [e] at h
      have hla : 52 + t + s < m.log2 + 1 + E := by
        apply pow_lt_imp
        calc 2 ^ (52 + t + s) = 2 ^ 52 * 2 ^ t * 2 ^ s := by rw [Nat.pow_add, Nat.pow_add]
          _ ≤ M * 2 ^ t * 2 ^ s := Nat.mul_le_mul_right _ (Nat.mul_le_mul_right _ h1)
          _ ≤ m * 2 ^ E := h
          _ < _ := hup
      rcases Nat.lt_or_ge t (E + m.log2 - s - 52) with hlt | hge
      · have h4 : (t + 1) * 2 ^ 52 ≤ (E + m.log2 - s - 52) * 2 ^ 52 := Nat.mul_le_mul_right _ hlt
        rw [Nat.succ_mul] at h4
        omega
      · have et : E + m.log2 - s - 52 = t := by omega
        rw [et]
        have hk : M ≤ (if m.log2 ≤ 52 then m * 2 ^ (52 - m.log2) else cutE m (m.log2 - 52)) := by
          rw [Nat.mul_assoc, ← Nat.pow_add, show t + s = E + m.log2 - 52 by omega] at h
          split
          · rename_i hs
            apply le_cancel (k := E + m.log2 - 52)
            rw [Nat.mul_assoc m, ← Nat.pow_add, show 52 - m.log2 + (E + m.log2 - 52) = E by omega]
            exact h
          · rename_i hs
            refine cut_ge (le_cancel (k := E) ?_)
            rw [Nat.mul_assoc, ← Nat.pow_add, show m.log2 - 52 + E = E + m.log2 - 52 by omega]
            exact h
        omega
end Go.Proofs.Ytecppcgleidhkaa.Fl
