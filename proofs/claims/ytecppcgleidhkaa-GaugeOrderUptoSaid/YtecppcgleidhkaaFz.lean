/- Rounding to a double rises with what is rounded; the parts of a whole number. Conditions: none. -/
import Derived.Test.YtecppcgleidhkaaGt
set_option linter.unusedVariables false
set_option exponentiation.threshold 3000
namespace Go.Proofs.Ytecppcgleidhkaa.Fl
open Ieee

theorem bool_le {a b : Bool} (h : a = true → b = true) : a.toNat ≤ b.toNat := by cases a <;> cases b <;> simp_all
/-- A cut, without the bound on what is dropped. -/
theorem cut_plain (n d : Nat) : cutE n d = n / 2 ^ d + (decide (2 ^ d < 2 * (n % 2 ^ d)) || (2 ^ d == 2 * (n % 2 ^ d) && n / 2 ^ d % 2 == 1)).toNat := by
  rw [cut_gap]
  rcases Nat.le_total d (n.log2 + 2) with h | h
  · rw [Nat.min_eq_left h]
  · rw [Nat.min_eq_right h]
    have hl := log_lt n
    have e2 : 2 ^ (n.log2 + 2) = 2 * 2 ^ (n.log2 + 1) := by rw [Nat.pow_succ, Nat.mul_comm]
    have h3 : 2 ^ (n.log2 + 2) ≤ 2 ^ d := Nat.pow_le_pow_right (by decide) h
    generalize 2 ^ (n.log2 + 2) = G at *
    generalize 2 ^ d = D at *
    have g1 : n < G := by omega
    have g2 : n < D := by omega
    rw [Nat.div_eq_of_lt g1, Nat.mod_eq_of_lt g1, Nat.div_eq_of_lt g2, Nat.mod_eq_of_lt g2]
    rw [decide_eq_false (by omega), decide_eq_false (by omega)]
    simp
theorem cut_mono {n1 n2 d : Nat} (h : n1 ≤ n2) : cutE n1 d ≤ cutE n2 d := by
  rw [cut_plain, cut_plain]
  have hD : 0 < 2 ^ d := Nat.two_pow_pos d
  generalize 2 ^ d = D at *
  have h1 := Nat.div_add_mod n1 D
  have h2 := Nat.div_add_mod n2 D
  have hq : n1 / D ≤ n2 / D := Nat.div_le_div_right h
  rcases Nat.eq_or_lt_of_le hq with e | e
  · rw [e] at h1 ⊢
    have hr : n1 % D ≤ n2 % D := by omega
    generalize n1 % D = r1 at *
    generalize n2 % D = r2 at *
    apply Nat.add_le_add_left
    apply bool_le
    intro hb
    simp only [Bool.or_eq_true, decide_eq_true_eq, Bool.and_eq_true, beq_iff_eq] at hb ⊢
    rcases hb with hb | ⟨hb, hc⟩
    · left; omega
    · rcases Nat.eq_or_lt_of_le hr with e2 | e2
      · right; exact ⟨by omega, hc⟩
      · left; omega
  · have := toNat_le (decide (D < 2 * (n1 % D)) || (D == 2 * (n1 % D) && n1 / D % 2 == 1))
    omega
theorem cut_if (m E d : Nat) : cutE (m * 2 ^ E) d = if d ≤ E then m * 2 ^ (E - d) else cutE m (d - E) := by
  split
  · rename_i h
    have e : m * 2 ^ E = m * 2 ^ (E - d) * 2 ^ d := by rw [Nat.mul_assoc, ← Nat.pow_add]; congr 2; omega
    exact Nat.le_antisymm (cut_le (Nat.le_of_eq e)) (cut_ge (Nat.le_of_eq e.symm))
  · rename_i h
    rw [cut_plain, cut_plain]
    have e : 2 ^ d = 2 ^ (d - E) * 2 ^ E := by rw [← Nat.pow_add]; congr 1; omega
    rw [e]
    have hG : 0 < 2 ^ E := Nat.two_pow_pos E
    generalize 2 ^ E = G at *
    generalize 2 ^ (d - E) = D at *
    rw [Nat.mul_div_mul_right _ _ hG, Nat.mul_mod_mul_right]
    congr 1
    congr 1
    have k1 : (decide (D * G < 2 * (m % D * G))) = decide (D < 2 * (m % D)) := by
      apply decide_eq_decide.2
      rw [← Nat.mul_assoc]
      exact Nat.mul_lt_mul_right hG
    have k2 : (D * G == 2 * (m % D * G)) = (D == 2 * (m % D)) := by
      rw [← Nat.mul_assoc, Bool.eq_iff_iff, beq_iff_eq, beq_iff_eq]
      exact ⟨fun h => Nat.eq_of_mul_eq_mul_right hG h, fun h => congrArg (· * G) h⟩
    rw [k1, k2]
/-- Rounding is monotone. -/
theorem rnd_mono {m1 E1 m2 E2 s : Nat} (h : m1 * 2 ^ E1 ≤ m2 * 2 ^ E2) : rnd m1 ((E1 : Int) - 1074 - s) ≤ rnd m2 ((E2 : Int) - 1074 - s) := by
  by_cases h1 : m1 = 0
  · unfold rnd; rw [if_pos h1]; exact Nat.zero_le _
  have p1 := Nat.mul_pos (Nat.pos_of_ne_zero h1) (Nat.two_pow_pos E1)
  have h2 : m2 ≠ 0 := fun e => by rw [e, Nat.zero_mul] at h; exact absurd (Nat.le_trans p1 h) (Nat.lt_irrefl 0)
  have a1 : 2 ^ (m1.log2 + E1) ≤ m1 * 2 ^ E1 := by rw [Nat.pow_add]; exact Nat.mul_le_mul_right _ (log_le h1)
  have a2 : 2 ^ (m2.log2 + E2) ≤ m2 * 2 ^ E2 := by rw [Nat.pow_add]; exact Nat.mul_le_mul_right _ (log_le h2)
  have b1 : m1 * 2 ^ E1 < 2 ^ (m1.log2 + 1 + E1) := by rw [Nat.pow_add]; exact Nat.mul_lt_mul_of_pos_right (log_lt m1) (Nat.two_pow_pos _)
  have b2 : m2 * 2 ^ E2 < 2 ^ (m2.log2 + 1 + E2) := by rw [Nat.pow_add]; exact Nat.mul_lt_mul_of_pos_right (log_lt m2) (Nat.two_pow_pos _)
  have hL : m1.log2 + E1 < m2.log2 + 1 + E2 := pow_lt_imp (Nat.lt_of_le_of_lt a1 (Nat.lt_of_le_of_lt h b2))
  by_cases c2 : E2 + m2.log2 ≤ s + 52
  · rw [rnd_low h1 (by omega), rnd_low h2 c2, ← cut_if, ← cut_if]
    exact Nat.le_min.2 ⟨Nat.le_trans (Nat.min_le_left ..) (cut_mono h), Nat.min_le_right ..⟩
  · rcases Nat.lt_or_ge (m1.log2 + E1) (m2.log2 + E2) with c | c
    · obtain ⟨r, hr⟩ := V_num (n := 1) (by decide) (m2.log2 + E2 - s)
      rw [Nat.one_mul] at hr
      have hrs : V r * 2 ^ s = 2 ^ (m2.log2 + E2) := by rw [hr, ← Nat.pow_add]; congr 1; omega
      have k1 : rnd m1 ((E1 : Int) - 1074 - s) ≤ r := rnd_le (by
        rw [hrs]
        exact Nat.le_of_lt (Nat.lt_of_lt_of_le b1 (Nat.pow_le_pow_right (by decide) (by omega))))
      rcases Nat.lt_or_ge INF r with ci | ci
      · refine Nat.le_trans (rnd_inf _ _) (le_rnd ?_ (by rw [inf_eq]; exact Nat.le_refl _))
        refine Nat.le_trans (Nat.mul_le_mul_right _ (V_mono (Nat.le_of_lt ci))) ?_
        rw [hrs]; exact a2
      · exact Nat.le_trans k1 (le_rnd (by rw [hrs]; exact a2) (by rw [inf_eq]; exact ci))
    · have e : m1.log2 + E1 = m2.log2 + E2 := by omega
      rw [rnd_high h1 (by omega), rnd_high h2 (by omega)]
      have hh : ∀ m E, m.log2 + E = m2.log2 + E2 → m ≠ 0 → (if m.log2 ≤ 52 then m * 2 ^ (52 - m.log2) else cutE m (m.log2 - 52)) = cutE (m * 2 ^ E) (m2.log2 + E2 - 52) := fun m E he hm => by
        rw [cut_if]
        by_cases hc : m.log2 ≤ 52
        · rw [if_pos hc, if_pos (by omega)]; congr 2; omega
        · rw [if_neg hc, if_neg (by omega)]; congr 1; omega
      rw [hh m1 E1 e h1, hh m2 E2 rfl h2]
      rw [show E1 + m1.log2 = E2 + m2.log2 by omega]
      exact Nat.le_min.2 ⟨Nat.le_trans (Nat.min_le_left ..) (Nat.add_le_add_left (cut_mono h) _), Nat.min_le_right ..⟩
/-- The product's rung. -/
theorem mul_rung {x y z : Nat} (hx : rg x < INF) (hy : rg y < INF) (h : double.mul x y = some z) : ∃ m E : Nat, rg z = rnd m ((E : Int) - 1074 - (1074 : Nat)) ∧ m * 2 ^ E = V (rg x) * V (rg y) := by
  obtain ⟨M, t, e1, v1⟩ := read_fin hx
  obtain ⟨N, u, e2, v2⟩ := read_fin hy
  unfold Format.mul at h
  rw [e1, e2] at h
  simp only [Datum.product, Option.map_some, Option.some.injEq] at h
  refine ⟨M * N, t + u, ?_, ?_⟩
  · rw [← h, (write_num _ _ _).1]
    congr 1
    omega
  · rw [← v1, ← v2, Nat.pow_add]
    ac_rfl
theorem mul_mono {x x' y z z' : Nat} (hx : rg x < INF) (hx' : rg x' < INF) (hy : rg y < INF) (h : double.mul x y = some z) (h' : double.mul x' y = some z') (hle : V (rg x) ≤ V (rg x')) : rg z ≤ rg z' := by
  obtain ⟨m, E, e1, v1⟩ := mul_rung hx hy h
  obtain ⟨m', E', e2, v2⟩ := mul_rung hx' hy h'
  rw [e1, e2]
  exact rnd_mono (by rw [v1, v2]; exact Nat.mul_le_mul_right _ hle)
end Go.Proofs.Ytecppcgleidhkaa.Fl
namespace Go.Proofs.Ytecppcgleidhkaa.Gp
open Ieee Go.Proofs.Ytecppcgleidhkaa.Fl
theorem sv_abs {p : Nat} (h : 0 ≤ sv p) : (V (rg p) : Int) = sv p := by
  unfold sv at h ⊢
  split
  · rename_i hs; rw [hs] at h; simp at h ⊢; omega
  · rfl
theorem part_le {a b n : Nat} (ha : partOk a = true) (hb : partOk b = true) (hab : sv a ≤ sv b) (hn : n < 2 ^ 53) : sv (wantOf a n) ≤ sv (wantOf b n) := by
  obtain ⟨a1, a2, a3⟩ := part_fin ha
  obtain ⟨b1, b2, b3⟩ := part_fin hb
  obtain ⟨wa, wa1, wa2⟩ := want_some ha hn
  obtain ⟨wb, wb1, wb2⟩ := want_some hb hn
  have hf : rg (F n) < INF := by rw [F_rg]; exact (F_val hn).2
  have hm := V_mono (mul_mono a1 b1 hf wa wb (by have := sv_abs a2; have := sv_abs b2; omega))
  have nn : ∀ p z, rg p < INF → 0 ≤ sv p → double.mul p (F n) = some z → (V (rg z) : Int) = sv z := fun p z hp hp0 hz => by
    apply sv_abs
    obtain ⟨z', e, k1, k2, k3⟩ := mul_fin hp hf
    rw [hz] at e
    cases e
    rw [show sg (F n) = false from sg_pos (F_lt n), Bool.xor_false] at k3
    unfold sv
    rw [k3]
    split
    · rename_i hs
      have h0 : V (rg p) = 0 := by
        have := sv_abs hp0
        unfold sv at this hp0
        rw [hs] at this hp0
        simp at hp0; omega
      have : rg z ≤ 0 := k1 0 (by rw [h0]; simp)
      rw [Nat.le_zero.1 this, V_zero]; simp
    · exact Int.natCast_nonneg _
  rw [← nn a _ a1 a2 wa, ← nn b _ b1 b2 wb]
  exact Int.ofNat_le.2 hm
theorem IsQ.mono {xs : List Nat} {a b n x y : Nat} (ha : partOk a = true) (hb : partOk b = true) (hab : sv a ≤ sv b) (hn : n < 2 ^ 53) (hl : xs.length = n) (h : IsQ xs (wantOf a n) x) (g : IsQ xs (wantOf b n) y) : x ≤ y := by
  have hle := part_le ha hb hab hn
  refine h.least y g.mem ?_
  have hc : F (cnt xs y) < INF := (F_val (Nat.lt_of_le_of_lt (cnt_le xs y) (by omega))).2
  have g1 := g.ok
  rw [ge_fin hc (want_some hb hn).2.1] at g1
  rw [ge_fin hc (want_some ha hn).2.1]
  have := of_decide_eq_true g1
  exact decide_eq_true (by omega)
theorem IsQ.low {xs : List Nat} {n x : Nat} (hn : n < 2 ^ 53) (hl : xs.length = n) (h : IsQ xs (wantOf 0 n) x) : ∀ y ∈ xs, x ≤ y := by
  intro y hy
  have h0 : partOk 0 = true := by decide
  refine h.least y hy ?_
  have hc : F (cnt xs y) < INF := (F_val (Nat.lt_of_le_of_lt (cnt_le xs y) (by omega))).2
  obtain ⟨w, w1, w2⟩ := want_some h0 hn
  rw [ge_fin hc w1]
  apply decide_eq_true
  have hf : rg (F n) < INF := by rw [F_rg]; exact (F_val hn).2
  obtain ⟨z', e, k1, k2, k3⟩ := mul_fin (show rg 0 < INF by decide) hf
  rw [w] at e
  cases e
  have : rg (wantOf 0 n) ≤ 0 := k1 0 (by rw [show rg 0 = 0 by decide, V_zero]; simp)
  rw [sv_zero (Nat.le_zero.1 this)]
  exact Int.natCast_nonneg _
theorem IsQ.high {xs : List Nat} {n x : Nat} (hn : n < 2 ^ 53) (hl : xs.length = n) (h : IsQ xs (wantOf ONE n) x) : ∀ y ∈ xs, y ≤ x := by
  intro y hy
  have h0 : partOk ONE = true := by decide
  have ho := one_val
  have o3 := Nat.lt_trans ho.2 INF_lt
  have hcl := cnt_le xs x
  have hc := F_val (show cnt xs x < 2 ^ 53 by omega)
  obtain ⟨w, w1, w2⟩ := want_some h0 hn
  have g1 := h.ok
  rw [ge_fin hc.2 w1] at g1
  have g2 := of_decide_eq_true g1
  have hf : rg (F n) < INF := by rw [F_rg]; exact (F_val hn).2
  obtain ⟨z', e, k1, k2, k3⟩ := mul_fin (show rg ONE < INF by rw [rg_pos o3]; exact ho.2) hf
  rw [w] at e
  cases e
  rw [sg_pos o3, sg_pos (F_lt n)] at k3
  have k4 : F n ≤ rg (wantOf ONE n) := k2 (F n) (Nat.le_of_lt (F_val hn).2) (by rw [rg_pos o3, ho.1, F_rg, Nat.mul_comm]; exact Nat.le_refl _)
  have k5 := V_mono k4
  rw [(F_val hn).1] at k5
  rw [hc.1] at g2
  have k6 : sv (wantOf ONE n) = (V (rg (wantOf ONE n)) : Int) := by unfold sv; rw [k3]; rfl
  rw [k6] at g2
  have k7 : n * 2 ^ 1074 ≤ cnt xs x * 2 ^ 1074 := by omega
  have k8 : n ≤ cnt xs x := Nat.le_of_mul_le_mul_right k7 (Nat.two_pow_pos _)
  have k9 : cnt xs x = xs.length := by omega
  have := (List.countP_eq_length.1 k9) y hy
  simpa using this
/-- What the law's guard says of two parts. -/
theorem guard_parts {a b : Nat} (h1 : ge a 0 = true) (h2 : le a b = true) (h3 : le b ONE = true) : partOk a = true ∧ partOk b = true ∧ sv a ≤ sv b := by
  have ho := one_val.2
  have o3 := Nat.lt_trans ho INF_lt
  have rO : rg ONE < INF := by rw [rg_pos o3]; exact ho
  obtain ⟨MO, tO, eO, -⟩ := read_fin rO
  obtain ⟨MZ, tZ, eZ, -⟩ := read_fin (show rg 0 < INF by decide)
  have hb : rg b < INF := by
    rcases Nat.lt_or_ge (rg b) INF with h | h
    · exact h
    · exfalso
      rcases read_big h with ⟨s, e⟩ | ⟨s, f, e⟩
      · cases s
        · unfold le Format.order at h3
          rw [e, eO] at h3
          simp [Datum.order] at h3
        · unfold le Format.order at h2
          rw [e] at h2
          rcases Nat.lt_or_ge (rg a) INF with ha | ha
          · obtain ⟨M, t, ea, -⟩ := read_fin ha
            rw [ea] at h2
            simp [Datum.order] at h2
          · unfold ge Format.order at h1
            rcases read_big ha with ⟨s, e'⟩ | ⟨s, f, e'⟩
            · rw [e'] at h1 h2
              cases s
              · simp [Datum.order] at h2
                exact absurd h2 (by decide)
              · rw [eZ] at h1
                simp [Datum.order] at h1
            · rw [e'] at h1
              simp [Datum.order] at h1
      · unfold le Format.order at h3
        rw [e] at h3
        simp [Datum.order] at h3
  have ha : rg a < INF := by
    rcases Nat.lt_or_ge (rg a) INF with h | h
    · exact h
    · exfalso
      obtain ⟨M, t, eb, -⟩ := read_fin hb
      unfold ge Format.order at h1
      unfold le Format.order at h2
      rcases read_big h with ⟨s, e⟩ | ⟨s, f, e⟩
      · rw [e] at h1 h2
        rw [eb] at h2
        rw [eZ] at h1
        cases s <;> simp [Datum.order] at h1 h2
      · rw [e] at h1
        simp [Datum.order] at h1
  have k2 : sv a ≤ sv b := by
    unfold le at h2
    rw [order_fin ha hb] at h2
    rcases Int.lt_trichotomy (sv a) (sv b) with c | c | c
    · omega
    · omega
    · rw [Int.compare_eq_gt.2 c] at h2; cases h2
  have k1 : 0 ≤ sv a := by
    unfold ge at h1
    rw [order_fin ha (show rg 0 < INF by decide)] at h1
    have hz : sv 0 = 0 := by decide
    rcases Int.lt_trichotomy (sv a) (sv 0) with c | c | c
    · rw [Int.compare_eq_lt.2 c] at h1; cases h1
    · omega
    · omega
  have k3 : sv b ≤ (V ONE : Int) := by
    unfold le at h3
    rw [order_fin hb rO, sv_pos o3] at h3
    rcases Int.lt_trichotomy (sv b) (V ONE) with c | c | c
    · omega
    · omega
    · rw [Int.compare_eq_gt.2 c] at h3; cases h3
  have mkle : ∀ z, rg z < INF → sv z ≤ (V ONE : Int) → le z ONE = true := fun z hz h => by
    unfold le
    rw [order_fin hz rO, sv_pos o3]
    rcases Int.lt_trichotomy (sv z) (V ONE) with c | c | c
    · rw [Int.compare_eq_lt.2 c]; rfl
    · rw [c, Int.compare_eq_eq.2 rfl]; rfl
    · omega
  have mkge : ∀ z, rg z < INF → 0 ≤ sv z → ge z 0 = true := fun z hz h => by
    unfold ge
    have hz0 : sv 0 = 0 := by decide
    rw [order_fin hz (show rg 0 < INF by decide), hz0]
    rcases Int.lt_trichotomy (sv z) 0 with c | c | c
    · omega
    · rw [c, Int.compare_eq_eq.2 rfl]; rfl
    · rw [Int.compare_eq_gt.2 c]; rfl
  refine ⟨?_, ?_, k2⟩
  · unfold partOk; rw [mkge a ha k1, mkle a ha (by omega)]; rfl
  · unfold partOk; rw [mkge b hb (by omega), mkle b hb k3]; rfl
end Go.Proofs.Ytecppcgleidhkaa.Gp
