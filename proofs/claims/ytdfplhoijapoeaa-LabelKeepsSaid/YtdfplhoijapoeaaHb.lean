/- The stable sort's plain laws: exchange of ranges, rotation, the merge. Conditions: none. -/
import Derived.Test.YtdfplhoijapoeaaHa
set_option linter.unusedVariables false
set_option linter.unusedSimpArgs false
namespace Go.Proofs.Ytdfplhoijapoeaa.Lhb
open Go.RowKit Go.Sort Go.Proofs.Ytdfplhoijapoeaa.Lib1 Go.Proofs.Ytdfplhoijapoeaa.Lh

def swapR (d : Array Nat) (a b : Nat) : Nat → Array Nat
  | 0 => d
  | n + 1 => swp (swapR d a b n) (a + n) (b + n)
theorem swapR_size (d : Array Nat) (a b n : Nat) : (swapR d a b n).size = d.size := by
  induction n with
  | zero => rfl
  | succ n ih => rw [swapR, size_swp, ih]
theorem swapR_get (d : Array Nat) (a b : Nat) : ∀ n, a + n ≤ b → b + n ≤ d.size → ∀ q, (swapR d a b n)[q]! = if a ≤ q ∧ q < a + n then d[b + (q - a)]! else if b ≤ q ∧ q < b + n then d[a + (q - b)]! else d[q]! := by
  intro n
  induction n with
  | zero => intro _ _ q; rw [if_neg (by omega), if_neg (by omega)]; rfl
  | succ n ih =>
    intro h1 h2 q
    have ih := ih (by omega) (by omega)
    rw [swapR, swp_any _ (by rw [swapR_size]; omega) (by rw [swapR_size]; omega)]
    by_cases e1 : q = a + n
    · subst e1
      rw [if_pos rfl, ih, if_neg (by omega), if_neg (by omega), if_pos (by omega), show b + (a + n - a) = b + n by omega]
    · rw [if_neg e1]
      by_cases e2 : q = b + n
      · subst e2
        rw [if_pos rfl, ih, if_neg (by omega), if_neg (by omega), if_neg (by omega), if_pos (by omega), show a + (b + n - b) = a + n by omega]
      · rw [if_neg e2, ih]
        by_cases e3 : a ≤ q ∧ q < a + n
        · rw [if_pos e3, if_pos (by omega)]
        · rw [if_neg e3]
          by_cases e4 : b ≤ q ∧ q < b + n
          · rw [if_pos e4, if_neg (by omega), if_pos (by omega)]
          · rw [if_neg e4, if_neg (by omega), if_neg (by omega)]
theorem swapR_perm (d : Array Nat) (a b lo hi : Nat) (hlo : lo ≤ a) (hhi : hi ≤ d.size) : ∀ n, a + n ≤ b → b + n ≤ hi → PermIn lo hi d (swapR d a b n) := by
  intro n
  induction n with
  | zero => intro _ _; exact permIn_refl _ _ _
  | succ n ih =>
    intro h1 h2
    refine permIn_trans _ _ _ _ _ (ih (by omega) (by omega)) (swp_permIn _ _ _ _ _ (by omega) (by omega) (by omega) (by omega) (by rw [swapR_size]; omega))

/-- The row with [a, m) and [m, b) turned about. -/
def rot (D : Array Nat) (a m b q : Nat) : Nat := if a ≤ q ∧ q < a + (b - m) then D[m + (q - a)]! else if a + (b - m) ≤ q ∧ q < b then D[a + (q - (a + (b - m)))]! else D[q]!
structure RotI (D : Array Nat) (a m b i j : Nat) (E : Array Nat) : Prop where
  i0 : 0 < i
  j0 : 0 < j
  lo : a + i ≤ m
  hi : m + j ≤ b
  perm : PermIn a b D E
  out : ∀ q, q < m - i ∨ m + j ≤ q → E[q]! = rot D a m b q
  lft : ∀ q, m - i ≤ q → q < m - i + j → rot D a m b q = E[m + (q - (m - i))]!
  rgt : ∀ q, m - i + j ≤ q → q < m + j → rot D a m b q = E[m - i + (q - (m - i + j))]!
theorem RotI.start {D : Array Nat} {a m b : Nat} (h1 : a < m) (h2 : m < b) : RotI D a m b (m - a) (b - m) D where
  i0 := by omega
  j0 := by omega
  lo := by omega
  hi := by omega
  perm := permIn_refl _ _ _
  out := fun q h => by unfold rot; rw [if_neg (by omega), if_neg (by omega)]
  lft := fun q g1 g2 => by unfold rot; rw [if_pos (by omega), show m - (m - a) = a by omega]
  rgt := fun q g1 g2 => by unfold rot; rw [if_neg (by omega), if_pos (by omega), show m - (m - a) = a by omega]
theorem RotI.left {D E : Array Nat} {a m b i j : Nat} (h : RotI D a m b i j E) (hb : b ≤ D.size) (hij : j < i) : RotI D a m b (i - j) j (swapR E (m - i) m j) := by
  obtain ⟨i0, j0, lo, hi, perm, ou, lf, rg⟩ := h
  have hs : E.size = D.size := perm.1
  have hg := swapR_get E (m - i) m j (by omega) (by omega)
  refine ⟨by omega, j0, by omega, hi, permIn_trans _ _ _ _ _ perm (swapR_perm E _ _ _ _ (by omega) (by omega) _ (by omega) (by omega)), fun q hq => ?_, fun q g1 g2 => ?_, fun q g1 g2 => ?_⟩
  · rw [hg]
    by_cases e : m - i ≤ q ∧ q < m - i + j
    · rw [if_pos e, lf q e.1 e.2]
    · rw [if_neg e, if_neg (by omega), ou q (by omega)]
  · rw [hg, if_neg (by omega), if_pos (by omega), rg q (by omega) (by omega)]
    congr 1; omega
  · rw [hg, if_neg (by omega), if_neg (by omega), rg q (by omega) (by omega)]
    congr 1; omega
theorem RotI.right {D E : Array Nat} {a m b i j : Nat} (h : RotI D a m b i j E) (hb : b ≤ D.size) (hij : i < j) : RotI D a m b i (j - i) (swapR E (m - i) (m + j - i) i) := by
  obtain ⟨i0, j0, lo, hi, perm, ou, lf, rg⟩ := h
  have hs : E.size = D.size := perm.1
  have hg := swapR_get E (m - i) (m + j - i) i (by omega) (by omega)
  refine ⟨i0, by omega, lo, by omega, permIn_trans _ _ _ _ _ perm (swapR_perm E _ _ _ _ (by omega) (by omega) _ (by omega) (by omega)), fun q hq => ?_, fun q g1 g2 => ?_, fun q g1 g2 => ?_⟩
  · rw [hg, if_neg (by omega)]
    by_cases e : m + j - i ≤ q ∧ q < m + j - i + i
    · rw [if_pos e, rg q (by omega) (by omega)]
      congr 1; omega
    · rw [if_neg e, ou q (by omega)]
  · rw [hg, lf q (by omega) (by omega)]
    by_cases e : m - i ≤ m + (q - (m - i)) ∧ m + (q - (m - i)) < m - i + i
    · omega
    · rw [if_neg e, if_neg (by omega)]
  · rw [hg, if_pos (by omega), lf q (by omega) (by omega)]
    congr 1; omega
theorem RotI.done {D E : Array Nat} {a m b i : Nat} (h : RotI D a m b i i E) (hb : b ≤ D.size) : PermIn a b D (swapR E (m - i) m i) ∧ ∀ q, (swapR E (m - i) m i)[q]! = rot D a m b q := by
  obtain ⟨i0, j0, lo, hi, perm, ou, lf, rg⟩ := h
  have hs : E.size = D.size := perm.1
  have hg := swapR_get E (m - i) m i (by omega) (by omega)
  refine ⟨permIn_trans _ _ _ _ _ perm (swapR_perm E _ _ _ _ (by omega) (by omega) _ (by omega) (by omega)), fun q => ?_⟩
  rw [hg]
  by_cases e : m - i ≤ q ∧ q < m - i + i
  · rw [if_pos e, lf q e.1 e.2]
  · rw [if_neg e]
    by_cases e2 : m ≤ q ∧ q < m + i
    · rw [if_pos e2, rg q (by omega) (by omega)]
      congr 1; omega
    · rw [if_neg e2, ou q (by omega)]

/-- Sorted by K from a to b. -/
def Sd (K : Nat → Nat) (a b : Nat) (D : Array Nat) : Prop := ∀ i j, a ≤ i → i ≤ j → j < b → K D[i]! ≤ K D[j]!
theorem Sd.of {K : Nat → Nat} {a b : Nat} {D : Array Nat} (h : SortedIn (ltK K) a b D) : Sd K a b D := fun i j h1 h2 h3 => by
  rcases Nat.lt_or_eq_of_le h2 with h | rfl
  · have := h; rename_i hh; have := hh i j h1 h h3
    simp only [ltK, decide_eq_false_iff_not] at this; omega
  · exact Nat.le_refl _
/-! ### One on the left -/
structure ShU (D : Array Nat) (a k b : Nat) (E : Array Nat) : Prop where
  perm : PermIn a b D E
  lo : ∀ q, a ≤ q → q < k → E[q]! = D[q + 1]!
  at' : E[k]! = D[a]!
  hi : ∀ q, k < q → E[q]! = D[q]!
theorem ShU.start (D : Array Nat) (a b : Nat) : ShU D a a b D := ⟨permIn_refl _ _ _, fun q h1 h2 => by omega, rfl, fun q h => rfl⟩
theorem ShU.step {D E : Array Nat} {a k b : Nat} (h : ShU D a k b E) (hak : a ≤ k) (hk : k + 1 < b) (hb : b ≤ D.size) : ShU D a (k + 1) b (swp E k (k + 1)) := by
  obtain ⟨p, l, e, r⟩ := h
  have hs : E.size = D.size := p.1
  have hg := swp_any E (i := k) (j := k + 1) (by omega) (by omega)
  refine ⟨permIn_trans _ _ _ _ _ p (swp_permIn _ _ _ _ _ hak (by omega) (by omega) (by omega) (by omega)), fun q h1 h2 => ?_, ?_, fun q h1 => ?_⟩
  · rw [hg]
    by_cases e1 : q = k
    · subst e1; rw [if_pos rfl, r _ (by omega)]
    · rw [if_neg e1, if_neg (by omega), l q h1 (by omega)]
  · rw [hg, if_neg (by omega), if_pos rfl, e]
  · rw [hg, if_neg (by omega), if_neg (by omega), r q (by omega)]
theorem ShU.done {K : Nat → Nat} {D E : Array Nat} {a k b : Nat} (h : ShU D a k b E) (hak : a ≤ k) (hk : k < b) (hD : Sd K (a + 1) b D) (h1 : ∀ q, a + 1 ≤ q → q ≤ k → K D[q]! ≤ K D[a]!) (h2 : ∀ q, k + 1 ≤ q → q < b → K D[a]! ≤ K D[q]!) : Sd K a b E := fun i j g1 g2 g3 => by
  obtain ⟨p, l, e, r⟩ := h
  rcases Nat.lt_trichotomy i k with c | rfl | c
  · rw [l i g1 c]
    rcases Nat.lt_trichotomy j k with c2 | rfl | c2
    · rw [l j (by omega) c2]; exact hD _ _ (by omega) (by omega) (by omega)
    · rw [e]; exact h1 _ (by omega) (by omega)
    · rw [r j c2]; exact hD _ _ (by omega) (by omega) (by omega)
  · rw [e]
    rcases Nat.lt_or_eq_of_le g2 with c2 | rfl
    · rw [r j c2]; exact h2 _ (by omega) (by omega)
    · rw [e]; exact Nat.le_refl _
  · rw [r i c, r j (by omega)]; exact hD _ _ (by omega) (by omega) (by omega)
structure B1 (K : Nat → Nat) (D : Array Nat) (a b i j : Nat) : Prop where
  lo : a + 1 ≤ i
  mid : i ≤ j
  hi : j ≤ b
  yes : ∀ q, a + 1 ≤ q → q < i → K D[q]! < K D[a]!
  no : ∀ q, j ≤ q → q < b → K D[a]! ≤ K D[q]!
theorem B1.start {K : Nat → Nat} {D : Array Nat} {a b : Nat} (h : a + 1 ≤ b) : B1 K D a b (a + 1) b := ⟨Nat.le_refl _, h, Nat.le_refl _, fun q h1 h2 => by omega, fun q h1 h2 => by omega⟩
theorem B1.up {K : Nat → Nat} {D : Array Nat} {a b i j h : Nat} (H : B1 K D a b i j) (hD : Sd K (a + 1) b D) (h1 : i ≤ h) (h2 : h < j) (hl : K D[h]! < K D[a]!) : B1 K D a b (h + 1) j :=
  ⟨by have := H.lo; omega, by omega, H.hi, fun q g1 g2 => Nat.lt_of_le_of_lt (hD q h g1 (by omega) (by have := H.hi; omega)) hl, H.no⟩
theorem B1.down {K : Nat → Nat} {D : Array Nat} {a b i j h : Nat} (H : B1 K D a b i j) (hD : Sd K (a + 1) b D) (h1 : i ≤ h) (h2 : h < j) (hl : K D[a]! ≤ K D[h]!) : B1 K D a b i h :=
  ⟨H.lo, h1, by have := H.hi; omega, H.yes, fun q g1 g2 => Nat.le_trans hl (hD h q (by have := H.lo; omega) g1 g2)⟩
/-! ### One on the right -/
structure ShD (D : Array Nat) (a k m : Nat) (E : Array Nat) : Prop where
  perm : PermIn a (m + 1) D E
  hi : ∀ q, k < q → q ≤ m → E[q]! = D[q - 1]!
  at' : E[k]! = D[m]!
  lo : ∀ q, q < k → E[q]! = D[q]!
theorem ShD.start (D : Array Nat) (a m : Nat) : ShD D a m m D := ⟨permIn_refl _ _ _, fun q h1 h2 => by omega, rfl, fun q h => rfl⟩
theorem ShD.step {D E : Array Nat} {a k m : Nat} (h : ShD D a k m E) (hak : a < k) (hk : k ≤ m) (hb : m + 1 ≤ D.size) : ShD D a (k - 1) m (swp E k (k - 1)) := by
  obtain ⟨p, l, e, r⟩ := h
  have hs : E.size = D.size := p.1
  have hg := swp_any E (i := k) (j := k - 1) (by omega) (by omega)
  refine ⟨permIn_trans _ _ _ _ _ p (swp_permIn _ _ _ _ _ (by omega) (by omega) (by omega) (by omega) (by omega)), fun q h1 h2 => ?_, ?_, fun q h1 => ?_⟩
  · rw [hg]
    by_cases e1 : q = k
    · subst e1; rw [if_pos rfl, r _ (by omega)]
    · rw [if_neg e1, if_neg (by omega), l q (by omega) h2]
  · rw [hg, if_neg (by omega), if_pos rfl, e]
  · rw [hg, if_neg (by omega), if_neg (by omega), r q (by omega)]
theorem ShD.done {K : Nat → Nat} {D E : Array Nat} {a k m : Nat} (h : ShD D a k m E) (hak : a ≤ k) (hk : k ≤ m) (hD : Sd K a m D) (h1 : ∀ q, a ≤ q → q < k → K D[q]! ≤ K D[m]!) (h2 : ∀ q, k ≤ q → q < m → K D[m]! ≤ K D[q]!) : Sd K a (m + 1) E := fun i j g1 g2 g3 => by
  obtain ⟨p, l, e, r⟩ := h
  rcases Nat.lt_trichotomy j k with c | rfl | c
  · rw [r i (by omega), r j c]; exact hD _ _ (by omega) (by omega) (by omega)
  · rw [e]
    rcases Nat.lt_or_eq_of_le g2 with c2 | rfl
    · rw [r i c2]; exact h1 _ (by omega) (by omega)
    · rw [e]; exact Nat.le_refl _
  · rw [l j c (by omega)]
    rcases Nat.lt_trichotomy i k with c2 | rfl | c2
    · rw [r i c2]; exact hD _ _ (by omega) (by omega) (by omega)
    · rw [e]; exact h2 _ (by omega) (by omega)
    · rw [l i c2 (by omega)]; exact hD _ _ (by omega) (by omega) (by omega)
structure B2 (K : Nat → Nat) (D : Array Nat) (a m i j : Nat) : Prop where
  lo : a ≤ i
  mid : i ≤ j
  hi : j ≤ m
  yes : ∀ q, a ≤ q → q < i → K D[q]! ≤ K D[m]!
  no : ∀ q, j ≤ q → q < m → K D[m]! < K D[q]!
theorem B2.start {K : Nat → Nat} {D : Array Nat} {a m : Nat} (h : a ≤ m) : B2 K D a m a m := ⟨Nat.le_refl _, h, Nat.le_refl _, fun q h1 h2 => by omega, fun q h1 h2 => by omega⟩
theorem B2.up {K : Nat → Nat} {D : Array Nat} {a m i j h : Nat} (H : B2 K D a m i j) (hD : Sd K a m D) (h1 : i ≤ h) (h2 : h < j) (hl : ¬ K D[m]! < K D[h]!) : B2 K D a m (h + 1) j :=
  ⟨by have := H.lo; omega, by omega, H.hi, fun q g1 g2 => Nat.le_trans (hD q h g1 (by omega) (by have := H.hi; omega)) (by omega), H.no⟩
theorem B2.down {K : Nat → Nat} {D : Array Nat} {a m i j h : Nat} (H : B2 K D a m i j) (hD : Sd K a m D) (h1 : i ≤ h) (h2 : h < j) (hl : K D[m]! < K D[h]!) : B2 K D a m i h :=
  ⟨H.lo, h1, by have := H.hi; omega, H.yes, fun q g1 g2 => Nat.lt_of_lt_of_le hl (hD h q (by have := H.lo; omega) g1 g2)⟩
/-! ### The search in the middle -/
def s0 (a m b : Nat) : Nat := if m > (a + b) / 2 then (a + b) / 2 + m - b else a
def r0 (a m b : Nat) : Nat := if m > (a + b) / 2 then (a + b) / 2 else m
structure B3 (K : Nat → Nat) (D : Array Nat) (a m b i j : Nat) : Prop where
  lo : s0 a m b ≤ i
  mid : i ≤ j
  hi : j ≤ r0 a m b
  yes : ∀ c, s0 a m b ≤ c → c < i → K D[c]! ≤ K D[(a + b) / 2 + m - 1 - c]!
  no : ∀ c, j ≤ c → c < r0 a m b → K D[(a + b) / 2 + m - 1 - c]! < K D[c]!
theorem bounds {a m b c : Nat} (h1 : a < m) (h2 : m < b) (h3 : s0 a m b ≤ c) (h4 : c < r0 a m b) : a ≤ c ∧ c < m ∧ m ≤ (a + b) / 2 + m - 1 - c ∧ (a + b) / 2 + m - 1 - c < b := by
  unfold s0 at h3
  unfold r0 at h4
  split at h3 <;> rename_i g
  · rw [if_pos g] at h4; omega
  · rw [if_neg g] at h4; omega
theorem s0_r0 {a m b : Nat} (h1 : a < m) (h2 : m < b) : s0 a m b ≤ r0 a m b ∧ a ≤ s0 a m b ∧ r0 a m b ≤ m ∧ r0 a m b ≤ (a + b) / 2 ∧ (a + b) / 2 + m ≤ s0 a m b + b := by
  unfold s0 r0
  split <;> omega
theorem B3.start {K : Nat → Nat} {D : Array Nat} {a m b : Nat} (h1 : a < m) (h2 : m < b) : B3 K D a m b (s0 a m b) (r0 a m b) := ⟨Nat.le_refl _, (s0_r0 h1 h2).1, Nat.le_refl _, fun q h1 h2 => by omega, fun q h1 h2 => by omega⟩
theorem B3.up {K : Nat → Nat} {D : Array Nat} {a m b i j h : Nat} (H : B3 K D a m b i j) (g1 : a < m) (g2 : m < b) (hL : Sd K a m D) (hR : Sd K m b D) (h1 : i ≤ h) (h2 : h < j) (hl : ¬ K D[(a + b) / 2 + m - 1 - h]! < K D[h]!) : B3 K D a m b (h + 1) j := by
  have H1 := H.lo; have H2 := H.hi
  refine ⟨by omega, by omega, H2, fun c e1 e2 => ?_, H.no⟩
  have b1 := bounds (c := c) g1 g2 e1 (by omega)
  have b2 := bounds (c := h) g1 g2 (by omega) (by omega)
  have x1 := hL c h b1.1 (by omega) b2.2.1
  have x2 := hR ((a + b) / 2 + m - 1 - h) ((a + b) / 2 + m - 1 - c) b2.2.2.1 (by omega) b1.2.2.2
  omega
theorem B3.down {K : Nat → Nat} {D : Array Nat} {a m b i j h : Nat} (H : B3 K D a m b i j) (g1 : a < m) (g2 : m < b) (hL : Sd K a m D) (hR : Sd K m b D) (h1 : i ≤ h) (h2 : h < j) (hl : K D[(a + b) / 2 + m - 1 - h]! < K D[h]!) : B3 K D a m b i h := by
  have H1 := H.lo; have H2 := H.hi
  refine ⟨H1, h1, by omega, H.yes, fun c e1 e2 => ?_⟩
  have b1 := bounds (c := c) g1 g2 (by omega) e2
  have b2 := bounds (c := h) g1 g2 (by omega) (by omega)
  have x1 := hL h c b2.1 (by omega) b1.2.1
  have x2 := hR ((a + b) / 2 + m - 1 - c) ((a + b) / 2 + m - 1 - h) b1.2.2.1 (by omega) b2.2.2.2
  omega
/-- What the search and the rotation leave. -/
structure Cutd (K : Nat → Nat) (D : Array Nat) (a s mid e b : Nat) (E : Array Nat) : Prop where
  asl : a ≤ s
  smid : s ≤ mid
  mide : mid ≤ e
  eb : e ≤ b
  perm : PermIn a b D E
  p1 : Sd K a s E
  p2 : Sd K s mid E
  p3 : Sd K mid e E
  p4 : Sd K e b E
  x : ∀ i j, a ≤ i → i < mid → mid ≤ j → j < b → K E[i]! ≤ K E[j]!
theorem rot_one {D : Array Nat} {a m b : Nat} (h : a = m ∨ m = b) (hab : a ≤ m) (hmb : m ≤ b) (q : Nat) : rot D a m b q = D[q]! := by
  unfold rot
  by_cases e1 : a ≤ q ∧ q < a + (b - m)
  · rw [if_pos e1]; congr 1; omega
  · rw [if_neg e1]
    by_cases e2 : a + (b - m) ≤ q ∧ q < b
    · rw [if_pos e2]; congr 1; omega
    · rw [if_neg e2]
theorem B3.done {K : Nat → Nat} {D E : Array Nat} {a m b s : Nat} (H : B3 K D a m b s s) (g1 : a < m) (g2 : m < b) (hL : Sd K a m D) (hR : Sd K m b D) (hb : b ≤ D.size) (hP : PermIn s ((a + b) / 2 + m - s) D E) (hE : ∀ q, E[q]! = rot D s m ((a + b) / 2 + m - s) q) :
    Cutd K D a s ((a + b) / 2) ((a + b) / 2 + m - s) b E := by
  have H1 := H.lo; have H2 := H.hi
  obtain ⟨k1, k2, k3, k4, k5⟩ := s0_r0 g1 g2
  have hem : s + ((a + b) / 2 + m - s - m) = (a + b) / 2 := by omega
  -- the four parts
  have q1 : ∀ q, q < s → E[q]! = D[q]! := fun q h => by rw [hE]; unfold rot; rw [if_neg (by omega), if_neg (by omega)]
  have q2 : ∀ q, s ≤ q → q < (a + b) / 2 → E[q]! = D[m + (q - s)]! := fun q h1 h2 => by rw [hE]; unfold rot; rw [if_pos (by omega)]
  have q3 : ∀ q, (a + b) / 2 ≤ q → q < (a + b) / 2 + m - s → E[q]! = D[s + (q - (a + b) / 2)]! := fun q h1 h2 => by
    rw [hE]; unfold rot; rw [if_neg (by omega), if_pos (by omega)]
    congr 1; omega
  have q4 : ∀ q, (a + b) / 2 + m - s ≤ q → E[q]! = D[q]! := fun q h => by rw [hE]; unfold rot; rw [if_neg (by omega), if_neg (by omega)]
  -- the last on the left against the first on the right, and the other way about
  have y1 : ∀ i j, a ≤ i → i < s → (a + b) / 2 + m - s ≤ j → j < b → K D[i]! ≤ K D[j]! := fun i j f1 f2 f3 f4 => by
    rcases Nat.lt_or_eq_of_le H1 with c | c
    · have z := H.yes (s - 1) (by omega) (by omega)
      have z1 := hL i (s - 1) f1 (by omega) (by omega)
      have z2 := hR ((a + b) / 2 + m - 1 - (s - 1)) j (by omega) (by omega) f4
      omega
    · unfold s0 at c
      split at c <;> omega
  have y2 : ∀ i j, m ≤ i → i < (a + b) / 2 + m - s → s ≤ j → j < m → K D[i]! ≤ K D[j]! := fun i j f1 f2 f3 f4 => by
    rcases Nat.lt_or_eq_of_le H2 with c | c
    · have z := H.no s (Nat.le_refl _) c
      have z1 := hL s j (by omega) f3 f4
      have z2 := hR i ((a + b) / 2 + m - 1 - s) f1 (by omega) (by omega)
      omega
    · unfold r0 at c
      split at c <;> omega
  refine ⟨by omega, by omega, by omega, by omega, permIn_mono _ _ _ _ _ _ (by omega) (by omega) hb hP, fun i j f1 f2 f3 => ?_, fun i j f1 f2 f3 => ?_, fun i j f1 f2 f3 => ?_, fun i j f1 f2 f3 => ?_, fun i j f1 f2 f3 f4 => ?_⟩
  · rw [q1 i (by omega), q1 j f3]; exact hL i j f1 f2 (by omega)
  · rw [q2 i f1 (by omega), q2 j (by omega) f3]; exact hR _ _ (by omega) (by omega) (by omega)
  · rw [q3 i f1 (by omega), q3 j (by omega) f3]; exact hL _ _ (by omega) (by omega) (by omega)
  · rw [q4 i f1, q4 j (by omega)]; exact hR _ _ (by omega) (by omega) f3
  · rcases Nat.lt_or_ge i s with c1 | c1
    · rw [q1 i c1]
      rcases Nat.lt_or_ge j ((a + b) / 2 + m - s) with c2 | c2
      · rw [q3 j f3 c2]; exact hL _ _ f1 (by omega) (by omega)
      · rw [q4 j c2]; exact y1 i j f1 c1 c2 f4
    · rw [q2 i c1 f2]
      rcases Nat.lt_or_ge j ((a + b) / 2 + m - s) with c2 | c2
      · rw [q3 j f3 c2]; exact y2 _ _ (by omega) (by omega) (by omega) (by omega)
      · rw [q4 j c2]; exact hR _ _ (by omega) (by omega) f4
/-- The left side merged. -/
structure Half (K : Nat → Nat) (D : Array Nat) (a mid e b : Nat) (E : Array Nat) : Prop where
  amid : a ≤ mid
  mide : mid ≤ e
  eb : e ≤ b
  perm : PermIn a b D E
  p1 : Sd K a mid E
  p3 : Sd K mid e E
  p4 : Sd K e b E
  x : ∀ i j, a ≤ i → i < mid → mid ≤ j → j < b → K E[i]! ≤ K E[j]!
theorem Cutd.left {K : Nat → Nat} {D E F : Array Nat} {a s mid e b : Nat} (h : Cutd K D a s mid e b E) (hb : b ≤ D.size) (hP : PermIn a mid E F) (hS : Sd K a mid F) : Half K D a mid e b F := by
  obtain ⟨i1, i2, i3, i4, perm, p1, p2, p3, p4, x⟩ := h
  have hs : E.size = D.size := perm.1
  have ho : ∀ q, mid ≤ q → F[q]! = E[q]! := fun q hq => hP.2.1 q (.inr hq)
  refine ⟨by omega, i3, i4, permIn_trans _ _ _ _ _ perm (permIn_mono _ _ _ _ _ _ (Nat.le_refl _) (by omega) (by omega) hP), hS, fun i j f1 f2 f3 => ?_, fun i j f1 f2 f3 => ?_, fun i j f1 f2 f3 f4 => ?_⟩
  · rw [ho i f1, ho j (by omega)]; exact p3 i j f1 f2 f3
  · rw [ho i (by omega), ho j (by omega)]; exact p4 i j f1 f2 f3
  · rw [ho j f3]
    exact permIn_all E F a mid (fun v => K v ≤ K E[j]!) (by omega) hP (fun i h1 h2 => x i j h1 h2 f3 f4) i f1 f2
theorem Cutd.none {K : Nat → Nat} {D E : Array Nat} {a s mid e b : Nat} (h : Cutd K D a s mid e b E) (hn : ¬ (a < s ∧ s < mid)) : Half K D a mid e b E := by
  obtain ⟨i1, i2, i3, i4, perm, p1, p2, p3, p4, x⟩ := h
  refine ⟨by omega, i3, i4, perm, ?_, p3, p4, x⟩
  rcases Nat.lt_or_eq_of_le i1 with c | rfl
  · obtain rfl : s = mid := by omega
    exact p1
  · exact p2
theorem Half.right {K : Nat → Nat} {D E F : Array Nat} {a mid e b : Nat} (h : Half K D a mid e b E) (hb : b ≤ D.size) (hP : PermIn mid b E F) (hS : Sd K mid b F) : PermIn a b D F ∧ Sd K a b F := by
  obtain ⟨i1, i3, i4, perm, p1, p3, p4, x⟩ := h
  have hs : E.size = D.size := perm.1
  have ho : ∀ q, q < mid → F[q]! = E[q]! := fun q hq => hP.2.1 q (.inl hq)
  refine ⟨permIn_trans _ _ _ _ _ perm (permIn_mono _ _ _ _ _ _ (by omega) (by omega) (by omega) hP), fun i j f1 f2 f3 => ?_⟩
  rcases Nat.lt_or_ge j mid with c | c
  · rw [ho i (by omega), ho j c]; exact p1 i j f1 f2 c
  · rcases Nat.lt_or_ge i mid with c2 | c2
    · rw [ho i c2]
      exact permIn_all E F mid b (fun v => K E[i]! ≤ K v) (by omega) hP (fun q h1 h2 => x i q f1 c2 h1 h2) j c f3
    · exact hS i j c2 f2 f3
theorem Half.none {K : Nat → Nat} {D E : Array Nat} {a mid e b : Nat} (h : Half K D a mid e b E) (hb : b ≤ D.size) (hn : ¬ (mid < e ∧ e < b)) : PermIn a b D E ∧ Sd K a b E := by
  refine h.right hb (permIn_refl _ _ _) ?_
  obtain ⟨i1, i3, i4, perm, p1, p3, p4, x⟩ := h
  rcases Nat.lt_or_eq_of_le i3 with c | rfl
  · obtain rfl : e = b := by omega
    exact p3
  · exact p4
end Go.Proofs.Ytdfplhoijapoeaa.Lhb
