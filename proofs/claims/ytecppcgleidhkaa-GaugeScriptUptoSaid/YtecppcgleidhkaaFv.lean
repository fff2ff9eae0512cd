/- Finite doubles as whole numbers of the least unit: what a word stands for; sums, products, quotients of finite ones. Conditions: none. -/
import Derived.Test.YtecppcgleidhkaaFl
set_option linter.unusedVariables false
namespace Go.Proofs.Ytecppcgleidhkaa.Fl
open Ieee

/-- A word's rung, its sign, its value in units of the least place. -/
def rg (x : Nat) : Nat := x % 2 ^ 63
def sg (x : Nat) : Bool := x / 2 ^ 63 % 2 == 1
def sv (x : Nat) : Int := if sg x then -(V (rg x) : Int) else (V (rg x) : Int)
def INF : Nat := 2047 * 2 ^ 52
theorem inf_eq : double.infRung = INF := by decide
theorem sw_eq : double.signWeight = 2 ^ 63 := by decide
theorem bin_eq : double.binade = 2 ^ 52 := rfl

/-- A finite word, read. -/
theorem read_fin {x : Nat} (h : rg x < INF) : ∃ M t : Nat, double.read x = .number (sg x) M ((t : Int) - 1074) ∧ M * 2 ^ t = V (rg x) := by
  unfold Format.read
  simp only [sw_eq, bin_eq, inf_eq]
  have hr : x % 2 ^ 63 = rg x := rfl
  have hs : (x / 2 ^ 63 % 2 == 1) = sg x := rfl
  have hl : double.leastPlace = -1074 := by decide
  rw [hr, hs, hl]
  by_cases h1 : rg x < 2 ^ 52
  · rw [if_pos h1]
    refine ⟨rg x, 0, by simp, ?_⟩
    rw [V_small (Nat.lt_trans h1 (by decide))]; simp
  · rw [if_neg h1, if_pos h]
    refine ⟨2 ^ 52 + rg x % 2 ^ 52, rg x / 2 ^ 52 - 1, ?_, ?_⟩
    · congr 1
    · unfold V; rw [if_neg h1]

theorem word_rg {b : Bool} {r : Nat} (h : r < 2 ^ 63) : rg (double.word b r) = r ∧ sg (double.word b r) = b := by
  unfold Format.word rg sg
  rw [sw_eq]
  cases b
  · simp; omega
  · simp; omega
theorem rnd_inf (m : Nat) (e : Int) : rnd m e ≤ INF := by
  unfold rnd
  split
  · exact Nat.zero_le _
  · rw [← inf_eq]; exact Nat.min_le_right ..
theorem write_num (s : Bool) (m : Nat) (e : Int) : rg (double.write (.number s m e)) = rnd m e ∧ sg (double.write (.number s m e)) = s := by
  have := rnd_inf m e
  show rg (double.nearest s m e) = _ ∧ sg (double.nearest s m e) = _
  rw [nearest_rnd]
  have h2 : INF < 2 ^ 63 := by decide
  exact word_rg (Nat.lt_of_le_of_lt this h2)

/-- A rounded word's rung by its exact value, in units (times 2 ^ s where it is a fraction of units). -/
theorem rnd_up {m E s r : Nat} {e : Int} (he : e = (E : Int) - 1074 - s) (h : m * 2 ^ E ≤ V r * 2 ^ s) : rnd m e ≤ r := by subst he; exact rnd_le h
theorem rnd_dn {m E s r : Nat} {e : Int} (he : e = (E : Int) - 1074 - s) (h : V r * 2 ^ s ≤ m * 2 ^ E) (hi : r ≤ INF) : r ≤ rnd m e := by subst he; exact le_rnd h (by rw [inf_eq]; exact hi)

theorem signed_val (s : Bool) (M t b : Nat) (hb : b ≤ t) : signed s M (t - b) * 2 ^ b = if s then -((M * 2 ^ t : Nat) : Int) else ((M * 2 ^ t : Nat) : Int) := by
  unfold signed
  have : (M <<< (t - b)) * 2 ^ b = M * 2 ^ t := by
    rw [Nat.shiftLeft_eq, Nat.mul_assoc, ← Nat.pow_add]; congr 2; omega
  cases s
  · simp only [Bool.false_eq_true, if_false]
    rw [← this]; push_cast; rfl
  · simp only [if_true]
    rw [← this]; push_cast; rw [Int.neg_mul]

/-- The sum of two finite words: its rung by the exact sum's size; its sign. -/
theorem add_fin {x y : Nat} (hx : rg x < INF) (hy : rg y < INF) : ∃ z, double.add x y = some z ∧ (∀ r, (sv x + sv y).natAbs ≤ V r → rg z ≤ r) ∧ (∀ r, r ≤ INF → V r ≤ (sv x + sv y).natAbs → r ≤ rg z) ∧ (sv x + sv y ≠ 0 → sg z = decide (sv x + sv y < 0)) := by
  obtain ⟨M, t, e1, v1⟩ := read_fin hx
  obtain ⟨N, u, e2, v2⟩ := read_fin hy
  unfold Format.add
  rw [e1, e2]
  simp only [Datum.sum, Option.map_some]
  obtain ⟨b, hb⟩ : ∃ b, b = min t u := ⟨_, rfl⟩
  have hmin : min ((t : Int) - 1074) ((u : Int) - 1074) = (b : Int) - 1074 := by omega
  rw [hmin, show ((t : Int) - 1074 - ((b : Int) - 1074)).toNat = t - b by omega, show ((u : Int) - 1074 - ((b : Int) - 1074)).toNat = u - b by omega]
  have s1 := signed_val (sg x) M t b (by omega)
  have s2 := signed_val (sg y) N u b (by omega)
  rw [v1] at s1
  rw [v2] at s2
  have hsum : (signed (sg x) M (t - b) + signed (sg y) N (u - b)) * 2 ^ b = sv x + sv y := by
    rw [Int.add_mul, s1, s2]; rfl
  generalize signed (sg x) M (t - b) + signed (sg y) N (u - b) = T at *
  have habs : T.natAbs * 2 ^ b = (sv x + sv y).natAbs := by
    rw [← hsum, Int.natAbs_mul]
    congr 1
    try (rw [Int.natAbs_pow]; rfl)
  refine ⟨_, rfl, fun r hr => ?_, fun r hi hr => ?_, fun hne => ?_⟩
  · rw [(write_num _ _ _).1]
    exact rnd_up (E := b) (s := 0) (by omega) (by rw [habs]; simpa using hr)
  · rw [(write_num _ _ _).1]
    exact rnd_dn (E := b) (s := 0) (by omega) (by rw [habs]; simpa using hr) hi
  · rw [(write_num _ _ _).2]
    have hT : T ≠ 0 := fun h0 => hne (by rw [← hsum, h0]; simp)
    rw [if_neg hT]
    have hp : (0 : Int) < 2 ^ b := Int.pow_pos (by decide)
    rw [← hsum]
    congr 1
    apply propext
    constructor
    · intro h; exact Int.mul_neg_of_neg_of_pos h hp
    · intro h
      rcases Int.lt_or_le T 0 with h1 | h1
      · exact h1
      · have := Int.mul_nonneg h1 (Int.le_of_lt hp); omega

/-- The difference of two finite words. -/
theorem sub_fin {x y : Nat} (hx : rg x < INF) (hy : rg y < INF) : ∃ z, double.sub x y = some z ∧ (∀ r, (sv x - sv y).natAbs ≤ V r → rg z ≤ r) ∧ (∀ r, r ≤ INF → V r ≤ (sv x - sv y).natAbs → r ≤ rg z) ∧ (sv x - sv y ≠ 0 → sg z = decide (sv x - sv y < 0)) := by
  obtain ⟨M, t, e1, v1⟩ := read_fin hx
  obtain ⟨N, u, e2, v2⟩ := read_fin hy
  unfold Format.sub
  rw [e1, e2]
  simp only [Datum.opposite, Datum.sum, Option.map_some]
  obtain ⟨b, hb⟩ : ∃ b, b = min t u := ⟨_, rfl⟩
  have hmin : min ((t : Int) - 1074) ((u : Int) - 1074) = (b : Int) - 1074 := by omega
  rw [hmin, show ((t : Int) - 1074 - ((b : Int) - 1074)).toNat = t - b by omega, show ((u : Int) - 1074 - ((b : Int) - 1074)).toNat = u - b by omega]
  have s1 := signed_val (sg x) M t b (by omega)
  have s2 := signed_val (!sg y) N u b (by omega)
  rw [v1] at s1
  rw [v2] at s2
  have hsum : (signed (sg x) M (t - b) + signed (!sg y) N (u - b)) * 2 ^ b = sv x - sv y := by
    rw [Int.add_mul, s1, s2]
    unfold sv
    cases sg x <;> cases sg y <;> simp <;> omega
  generalize signed (sg x) M (t - b) + signed (!sg y) N (u - b) = T at *
  have habs : T.natAbs * 2 ^ b = (sv x - sv y).natAbs := by
    rw [← hsum, Int.natAbs_mul]
    congr 1
    try (rw [Int.natAbs_pow]; rfl)
  refine ⟨_, rfl, fun r hr => ?_, fun r hi hr => ?_, fun hne => ?_⟩
  · rw [(write_num _ _ _).1]
    exact rnd_up (E := b) (s := 0) (by omega) (by rw [habs]; simpa using hr)
  · rw [(write_num _ _ _).1]
    exact rnd_dn (E := b) (s := 0) (by omega) (by rw [habs]; simpa using hr) hi
  · rw [(write_num _ _ _).2]
    have hT : T ≠ 0 := fun h0 => hne (by rw [← hsum, h0]; simp)
    rw [if_neg hT]
    have hp : (0 : Int) < 2 ^ b := Int.pow_pos (by decide)
    rw [← hsum]
    congr 1
    apply propext
    constructor
    · intro h; exact Int.mul_neg_of_neg_of_pos h hp
    · intro h
      rcases Int.lt_or_le T 0 with h1 | h1
      · exact h1
      · have := Int.mul_nonneg h1 (Int.le_of_lt hp); omega

/-- The product of two finite words. -/
theorem mul_fin {x y : Nat} (hx : rg x < INF) (hy : rg y < INF) : ∃ z, double.mul x y = some z ∧ (∀ r, V (rg x) * V (rg y) ≤ V r * 2 ^ 1074 → rg z ≤ r) ∧ (∀ r, r ≤ INF → V r * 2 ^ 1074 ≤ V (rg x) * V (rg y) → r ≤ rg z) ∧ sg z = (sg x ^^ sg y) := by
  obtain ⟨M, t, e1, v1⟩ := read_fin hx
  obtain ⟨N, u, e2, v2⟩ := read_fin hy
  unfold Format.mul
  rw [e1, e2]
  simp only [Datum.product, Option.map_some]
  have hv : M * N * 2 ^ (t + u) = V (rg x) * V (rg y) := by
    rw [← v1, ← v2, Nat.pow_add]
    rw [Nat.mul_assoc, Nat.mul_assoc]
    congr 1
    rw [← Nat.mul_assoc N, Nat.mul_comm N, Nat.mul_assoc]
  refine ⟨_, rfl, fun r hr => ?_, fun r hi hr => ?_, ?_⟩
  · rw [(write_num _ _ _).1]
    exact rnd_up (E := t + u) (s := 1074) (by omega) (by rw [hv]; exact hr)
  · rw [(write_num _ _ _).1]
    exact rnd_dn (E := t + u) (s := 1074) (by omega) (by rw [hv]; exact hr) hi
  · exact (write_num _ _ _).2

/-- How two finite words stand to each other. -/
theorem compare_scale (A B : Int) (b : Nat) : compare A B = compare (A * 2 ^ b) (B * 2 ^ b) := by
  have hp : (0 : Int) < 2 ^ b := Int.pow_pos (by decide)
  rcases Int.lt_trichotomy A B with h | h | h
  · rw [Int.compare_eq_lt.2 h, Int.compare_eq_lt.2 (Int.mul_lt_mul_of_pos_right h hp)]
  · subst h; rw [Int.compare_eq_eq.2 rfl, Int.compare_eq_eq.2 rfl]
  · rw [Int.compare_eq_gt.2 h, Int.compare_eq_gt.2 (Int.mul_lt_mul_of_pos_right h hp)]
theorem order_fin {x y : Nat} (hx : rg x < INF) (hy : rg y < INF) : double.order x y = some (compare (sv x) (sv y)) := by
  obtain ⟨M, t, e1, v1⟩ := read_fin hx
  obtain ⟨N, u, e2, v2⟩ := read_fin hy
  unfold Format.order
  rw [e1, e2]
  simp only [Datum.order]
  obtain ⟨b, hb⟩ : ∃ b, b = min t u := ⟨_, rfl⟩
  have hmin : min ((t : Int) - 1074) ((u : Int) - 1074) = (b : Int) - 1074 := by omega
  rw [hmin, show ((t : Int) - 1074 - ((b : Int) - 1074)).toNat = t - b by omega, show ((u : Int) - 1074 - ((b : Int) - 1074)).toNat = u - b by omega]
  have s1 := signed_val (sg x) M t b (by omega)
  have s2 := signed_val (sg y) N u b (by omega)
  rw [v1] at s1
  rw [v2] at s2
  rw [compare_scale _ _ b, s1, s2]
  rfl

/-- A whole number as a double. -/
theorem nat_fin (n : Nat) : (∀ r, n * 2 ^ 1074 ≤ V r → rg (double.write (.number false n 0)) ≤ r) ∧ (∀ r, r ≤ INF → V r ≤ n * 2 ^ 1074 → r ≤ rg (double.write (.number false n 0))) ∧ sg (double.write (.number false n 0)) = false := by
  refine ⟨fun r hr => ?_, fun r hi hr => ?_, (write_num _ _ _).2⟩
  · rw [(write_num _ _ _).1]
    exact rnd_up (E := 1074) (s := 0) (by omega) (by rw [Nat.pow_zero, Nat.mul_one]; exact hr)
  · rw [(write_num _ _ _).1]
    exact rnd_dn (E := 1074) (s := 0) (by omega) (by rw [Nat.pow_zero, Nat.mul_one]; exact hr) hi

/-! ### The rungs rise -/
theorem V_mono {a b : Nat} (h : a ≤ b) : V a ≤ V b := by
  rcases Nat.lt_or_ge b (2 ^ 53) with hb | hb
  · rw [V_small hb, V_small (by omega)]; exact h
  · rcases Nat.lt_or_ge a (2 ^ 53) with ha | ha
    · rw [V_small ha]; exact Nat.le_of_lt (Nat.lt_of_lt_of_le ha (V_ge hb))
    · obtain ⟨M, t, e1, h1, h2, h3⟩ := V_great (r := a) (by omega)
      obtain ⟨N, u, e2, k1, k2, k3⟩ := V_great (r := b) (by omega)
      rw [e1, e2]
      rcases Nat.lt_trichotomy t u with c | c | c
      · calc M * 2 ^ t ≤ 2 ^ 53 * 2 ^ t := Nat.mul_le_mul_right _ (Nat.le_of_lt h2)
          _ = 2 ^ 52 * 2 ^ (t + 1) := by rw [← Nat.pow_add, ← Nat.pow_add]; congr 1; omega
          _ ≤ 2 ^ 52 * 2 ^ u := Nat.mul_le_mul_left _ (Nat.pow_le_pow_right (by decide) c)
          _ ≤ N * 2 ^ u := Nat.mul_le_mul_right _ k1
      · subst c
        exact Nat.mul_le_mul_right _ (by omega)
      · exfalso
        have : (u + 1) * 2 ^ 52 ≤ t * 2 ^ 52 := Nat.mul_le_mul_right _ c
        rw [Nat.succ_mul] at this
        omega
theorem V_lt {a b : Nat} (h : V a < V b) : a < b := by
  rcases Nat.lt_or_ge a b with c | c
  · exact c
  · exact absurd (V_mono c) (Nat.not_le.2 h)
theorem V_succ (a : Nat) : V a < V (a + 1) := by
  rcases Nat.lt_or_ge (a + 1) (2 ^ 53) with hb | hb
  · rw [V_small hb, V_small (by omega)]; omega
  · rcases Nat.lt_or_ge a (2 ^ 53) with ha | ha
    · rw [V_small ha]; exact Nat.lt_of_lt_of_le ha (V_ge hb)
    · obtain ⟨M, t, e1, h1, h2, h3⟩ := V_great (r := a) (by omega)
      obtain ⟨N, u, e2, k1, k2, k3⟩ := V_great (r := a + 1) (by omega)
      rw [e1, e2]
      rcases Nat.lt_trichotomy t u with c | c | c
      · calc M * 2 ^ t < 2 ^ 53 * 2 ^ t := Nat.mul_lt_mul_of_pos_right h2 (Nat.two_pow_pos _)
          _ = 2 ^ 52 * 2 ^ (t + 1) := by rw [← Nat.pow_add, ← Nat.pow_add]; congr 1; omega
          _ ≤ 2 ^ 52 * 2 ^ u := Nat.mul_le_mul_left _ (Nat.pow_le_pow_right (by decide) c)
          _ ≤ N * 2 ^ u := Nat.mul_le_mul_right _ k1
      · subst c
        exact Nat.mul_lt_mul_of_pos_right (by omega) (Nat.two_pow_pos _)
      · exfalso
        have : (u + 1) * 2 ^ 52 ≤ t * 2 ^ 52 := Nat.mul_le_mul_right _ c
        rw [Nat.succ_mul] at this
        omega
theorem V_inj {a b : Nat} (h : V a = V b) : a = b := by
  rcases Nat.lt_trichotomy a b with c | c | c
  · have := Nat.lt_of_lt_of_le (V_succ a) (V_mono (a := a + 1) (b := b) c); omega
  · exact c
  · have := Nat.lt_of_lt_of_le (V_succ b) (V_mono (a := b + 1) (b := a) c); omega
/-- A double's own value is kept. -/
theorem rnd_own {m E s r : Nat} {e : Int} (he : e = (E : Int) - 1074 - s) (h : m * 2 ^ E = V r * 2 ^ s) (hi : r ≤ INF) : rnd m e = r :=
  Nat.le_antisymm (rnd_up he (Nat.le_of_eq h)) (rnd_dn he (Nat.le_of_eq h.symm) hi)

/-- Above 2 ^ 54 units a double is a whole number of units. -/
theorem whole {r s E F : Nat} (hF : 2 ^ 53 ≤ F) (h : 2 * F * 2 ^ E < V r * 2 ^ s) : ∃ X, V r * 2 ^ s = X * 2 ^ E := by
  have hlow : 2 ^ (54 + E) ≤ 2 * F * 2 ^ E := by
    rw [Nat.pow_add]; exact Nat.mul_le_mul_right _ (by omega)
  have fin : ∀ M t, M < 2 ^ 53 → V r = M * 2 ^ t → ∃ X, V r * 2 ^ s = X * 2 ^ E := by
    intro M t hM e
    rw [e] at h ⊢
    have h1 : M * 2 ^ t * 2 ^ s < 2 ^ (53 + (t + s)) := by
      rw [Nat.mul_assoc, ← Nat.pow_add, Nat.pow_add 2 53]
      exact Nat.mul_lt_mul_of_pos_right hM (Nat.two_pow_pos _)
    have h2 : 54 + E < 53 + (t + s) := pow_lt_imp (Nat.lt_of_le_of_lt hlow (Nat.lt_trans h h1))
    refine ⟨M * 2 ^ (t + s - E), ?_⟩
    rw [Nat.mul_assoc, Nat.mul_assoc, ← Nat.pow_add, ← Nat.pow_add]
    congr 2; omega
  rcases Nat.lt_or_ge r (2 ^ 53) with hr | hr
  · exact fin r 0 hr (by rw [V_small hr]; simp)
  · obtain ⟨M, t, e, h1, h2, h3⟩ := V_great (r := r) (by omega)
    exact fin M t h2 e

theorem acA (M P T K : Nat) : 2 * (M * P) * (T * K) = M * T * K * (P * 2) := by ac_rfl
theorem acB (v N U Q : Nat) : v * (N * U) * Q = N * (v * (U * Q)) := by ac_rfl
theorem acC (N F G : Nat) : N * (2 * F * G) = 2 * (N * F) * G := by ac_rfl
theorem acD (N F : Nat) : N * (2 * F) = 2 * (N * F) := by ac_rfl
/-- The quotient of two finite words, the second not nought. -/
theorem div_fin {x y : Nat} (hx : rg x < INF) (hy : rg y < INF) (hx0 : V (rg x) ≠ 0) (hy0 : V (rg y) ≠ 0) : ∃ z, double.div x y = some z ∧ (∀ r, V (rg x) * 2 ^ 1074 ≤ V r * V (rg y) → rg z ≤ r) ∧ (∀ r, r ≤ INF → V r * V (rg y) ≤ V (rg x) * 2 ^ 1074 → r ≤ rg z) ∧ sg z = (sg x ^^ sg y) := by
  obtain ⟨M, t, e1, v1⟩ := read_fin hx
  obtain ⟨N, u, e2, v2⟩ := read_fin hy
  have hM : M ≠ 0 := fun h => hx0 (by rw [← v1, h]; simp)
  have hN : N ≠ 0 := fun h => hy0 (by rw [← v2, h]; simp)
  unfold Format.div
  rw [e1, e2]
  simp only [Datum.quotient, if_neg hN, Option.map_some]
  obtain ⟨more, hmore⟩ : ∃ k, k = double.fractionBits + 2 + N.log2 - M.log2 := ⟨_, rfl⟩
  rw [← hmore]
  have hf : double.fractionBits = 52 := rfl
  obtain ⟨D, hD⟩ : ∃ D, D = M <<< more := ⟨_, rfl⟩
  rw [← hD]
  have hD' : D = M * 2 ^ more := by rw [hD, Nat.shiftLeft_eq]
  obtain ⟨F, hF⟩ : ∃ F, F = D / N := ⟨_, rfl⟩
  obtain ⟨R, hR⟩ : ∃ R, R = D % N := ⟨_, rfl⟩
  have hdm : N * F + R = D := by rw [hF, hR]; exact Nat.div_add_mod D N
  have hRl : R < N := by rw [hR]; exact Nat.mod_lt _ (Nat.pos_of_ne_zero hN)
  rw [← hF, ← hR]
  have hF53 : 2 ^ 53 ≤ F := by
    rw [hF]
    refine (Nat.le_div_iff_mul_le (Nat.pos_of_ne_zero hN)).2 ?_
    have a1 := Nat.le_of_lt (log_lt N)
    have a2 := log_le hM
    calc 2 ^ 53 * N ≤ 2 ^ 53 * 2 ^ (N.log2 + 1) := Nat.mul_le_mul_left _ a1
      _ = 2 ^ (54 + N.log2) := by rw [← Nat.pow_add]; congr 1; omega
      _ ≤ 2 ^ (M.log2 + more) := Nat.pow_le_pow_right (by decide) (by omega)
      _ = 2 ^ M.log2 * 2 ^ more := Nat.pow_add ..
      _ ≤ M * 2 ^ more := Nat.mul_le_mul_right _ a2
      _ = D := hD'.symm
  have hplace : (t : Int) - 1074 - ((u : Int) - 1074) - (more : Int) - 1 = ((t + 1074 : Nat) : Int) - 1074 - ((u + more + 1 : Nat) : Int) := by omega
  have hup : ∀ r, V (rg x) * 2 ^ 1074 ≤ V r * V (rg y) → 2 * D * 2 ^ (t + 1074) ≤ N * (V r * 2 ^ (u + more + 1)) := by
    intro r hr
    rw [← v1, ← v2] at hr
    calc 2 * D * 2 ^ (t + 1074) = (M * 2 ^ t * 2 ^ 1074) * 2 ^ (more + 1) := by
          rw [hD', Nat.pow_add 2 t, Nat.pow_succ 2 more]; exact acA _ _ _ _
      _ ≤ (V r * (N * 2 ^ u)) * 2 ^ (more + 1) := Nat.mul_le_mul_right _ hr
      _ = N * (V r * 2 ^ (u + more + 1)) := by
          rw [Nat.add_assoc u, Nat.pow_add 2 u]; exact acB _ _ _ _
  have hdn : ∀ r, V r * V (rg y) ≤ V (rg x) * 2 ^ 1074 → N * (V r * 2 ^ (u + more + 1)) ≤ 2 * D * 2 ^ (t + 1074) := by
    intro r hr
    rw [← v1, ← v2] at hr
    calc N * (V r * 2 ^ (u + more + 1)) = (V r * (N * 2 ^ u)) * 2 ^ (more + 1) := by
          rw [Nat.add_assoc u, Nat.pow_add 2 u]; exact (acB _ _ _ _).symm
      _ ≤ (M * 2 ^ t * 2 ^ 1074) * 2 ^ (more + 1) := Nat.mul_le_mul_right _ hr
      _ = 2 * D * 2 ^ (t + 1074) := by
          rw [hD', Nat.pow_add 2 t, Nat.pow_succ 2 more]; exact (acA _ _ _ _).symm
  have hNp := Nat.pos_of_ne_zero hN
  refine ⟨_, rfl, fun r hr => ?_, fun r hi hr => ?_, (write_num _ _ _).2⟩
  · rw [(write_num _ _ _).1]
    refine rnd_up hplace ?_
    have h1 := hup r hr
    have hG := Nat.two_pow_pos (t + 1074)
    by_cases h0 : R = 0
    · rw [h0]
      have e : (0 != 0 : Bool).toNat = 0 := rfl
      rw [e, Nat.add_zero]
      apply Nat.le_of_mul_le_mul_left (c := N) _ hNp
      rw [← hdm, h0, Nat.add_zero] at h1
      calc N * (2 * F * 2 ^ (t + 1074)) = 2 * (N * F) * 2 ^ (t + 1074) := acC _ _ _
        _ ≤ _ := h1
    · have e : (R != 0 : Bool).toNat = 1 := by simp [h0]
      rw [e]
      have h2 : 2 * F * 2 ^ (t + 1074) < V r * 2 ^ (u + more + 1) := by
        apply Nat.lt_of_mul_lt_mul_left (a := N)
        calc N * (2 * F * 2 ^ (t + 1074)) = 2 * (N * F) * 2 ^ (t + 1074) := acC _ _ _
          _ < 2 * D * 2 ^ (t + 1074) := Nat.mul_lt_mul_of_pos_right (by omega) hG
          _ ≤ _ := h1
      obtain ⟨X, hX⟩ := whole hF53 h2
      rw [hX] at h2 ⊢
      have : 2 * F < X := Nat.lt_of_mul_lt_mul_right h2
      exact Nat.mul_le_mul_right _ this
  · rw [(write_num _ _ _).1]
    refine rnd_dn hplace ?_ hi
    have h1 := hdn r hr
    have hG := Nat.two_pow_pos (t + 1074)
    rcases Nat.lt_or_ge (2 * F * 2 ^ (t + 1074)) (V r * 2 ^ (u + more + 1)) with h2 | h2
    · obtain ⟨X, hX⟩ := whole hF53 h2
      rw [hX] at h1 h2 ⊢
      have h3 : 2 * F < X := Nat.lt_of_mul_lt_mul_right h2
      have h4 : N * X ≤ 2 * D := by
        apply Nat.le_of_mul_le_mul_right (c := 2 ^ (t + 1074)) _ hG
        rw [Nat.mul_assoc]; exact h1
      have h5 : X < 2 * F + 2 := by
        apply Nat.lt_of_mul_lt_mul_left (a := N)
        rw [Nat.mul_add]
        have := acD N F
        omega
      have hXe : X = 2 * F + 1 := by omega
      have hR1 : R ≠ 0 := by
        intro h0
        rw [hXe, Nat.mul_add, ← hdm, h0] at h4
        have := acD N F
        omega
      have e : (R != 0 : Bool).toNat = 1 := by simp [hR1]
      rw [e, hXe]
      exact Nat.le_refl _
    · exact Nat.le_trans h2 (Nat.mul_le_mul_right _ (Nat.le_add_right _ _))
end Go.Proofs.Ytecppcgleidhkaa.Fl
