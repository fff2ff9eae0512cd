/- The gauge in plain words: gaps, mean and spread, the smoothed gap, the turn. Conditions: none. -/
import Derived.Test.YtecppcgleidhkaaFx
set_option linter.unusedVariables false
set_option exponentiation.threshold 3000
namespace Go.Proofs.Ytecppcgleidhkaa.Gp
open Ieee Go.Proofs.Ytecppcgleidhkaa.Fl

/-- The gaps between slots. -/
def gaps : List Nat → List Nat
  | a :: b :: l => F (b - a) :: gaps (b :: l)
  | _ => []
theorem gaps_snoc : ∀ (l : List Nat) (a s : Nat), gaps (l ++ [a, s]) = gaps (l ++ [a]) ++ [F (s - a)]
  | [], a, s => rfl
  | [b], a, s => rfl
  | b :: c :: l, a, s => by
    have ih := gaps_snoc (c :: l) a s
    simp only [List.cons_append, gaps] at ih ⊢
    rw [ih]
theorem gaps_one (s : Nat) : gaps [s] = [] := rfl
theorem gaps_last {l : List Nat} {a : Nat} (h : l.getLast? = some a) (s : Nat) : gaps (l ++ [s]) = gaps l ++ [F (s - a)] := by
  obtain ⟨ys, rfl⟩ := List.getLast?_eq_some_iff.1 h
  rw [← gaps_snoc ys a s]
  simp
theorem gaps_len : ∀ l : List Nat, (gaps l).length = l.length - 1
  | [] => rfl
  | [_] => rfl
  | a :: b :: l => by
    have := gaps_len (b :: l)
    simp only [gaps, List.length_cons] at this ⊢
    omega
theorem gaps_get : ∀ (l : List Nat) (i : Nat), i + 1 < l.length → (gaps l)[i]? = some (F (l.getD (i + 1) 0 - l.getD i 0))
  | [], i, h => by simp at h
  | [_], i, h => by simp at h
  | a :: b :: l, 0, h => rfl
  | a :: b :: l, i + 1, h => by
    have := gaps_get (b :: l) i (by simpa using h)
    simpa [gaps] using this
/-- Slots one after the other. -/
def Ok (l : List Nat) : Prop := ∀ x ∈ l, x ≤ 2 ^ 62
theorem gaps_le : ∀ {l : List Nat}, Ok l → ∀ x ∈ gaps l, x ≤ B62
  | [], h, x, hx => by cases hx
  | [_], h, x, hx => by cases hx
  | a :: b :: l, h, x, hx => by
    simp only [gaps, List.mem_cons] at hx
    rcases hx with rfl | hx
    · apply F_le
      have := h b (by simp)
      omega
    · exact gaps_le (l := b :: l) (fun y hy => h y (List.mem_cons_of_mem _ hy)) x hx
theorem B62_inf {x : Nat} (h : x ≤ B62) : x < INF := Nat.lt_of_le_of_lt h B62_val.2

/-- One sample more: how many, the mean, the sum of squares. -/
def step (st : Nat × Nat × Nat) (x : Nat) : Nat × Nat × Nat :=
  (st.1 + 1, (double.add st.2.1 ((double.div ((double.sub x st.2.1).getD 0) (F (st.1 + 1))).getD 0)).getD 0,
    (double.add st.2.2 ((double.mul ((double.sub x st.2.1).getD 0) ((double.sub x ((double.add st.2.1 ((double.div ((double.sub x st.2.1).getD 0) (F (st.1 + 1))).getD 0)).getD 0)).getD 0)).getD 0)).getD 0)
def ms (xs : List Nat) : Nat × Nat × Nat := xs.foldl step (0, 0, 0)
theorem ms_snoc (xs : List Nat) (x : Nat) : ms (xs ++ [x]) = step (ms xs) x := by simp [ms]
def mean (xs : List Nat) : Nat := (ms xs).2.1
def squares (xs : List Nat) : Nat := (ms xs).2.2
/-- What holds of a mean and a spread. -/
structure MS (xs : List Nat) : Prop where
  n : (ms xs).1 = xs.length
  m : mean xs ≤ B62
  s : squares xs < INF
  v : V (squares xs) ≤ xs.length * 2 ^ 1198
  zero : xs = [] → mean xs = 0
  lo : xs ≠ [] → ∀ a, (∀ x ∈ xs, a ≤ x) → a ≤ mean xs
  hi : xs ≠ [] → ∀ a, (∀ x ∈ xs, x ≤ a) → mean xs ≤ a
  one : ∀ a, (∀ x ∈ xs, x = a) → squares xs = 0
theorem ms_nil : MS [] := ⟨rfl, Nat.zero_le _, by decide, by simp [squares, ms, V_zero], fun _ => rfl, fun h => absurd rfl h, fun h => absurd rfl h, fun _ _ => rfl⟩
theorem ms_step {xs : List Nat} (h : MS xs) {x : Nat} (hx : x ≤ B62) (hn : xs.length + 1 < 2 ^ 53) :
    (∃ d e m' r p s', double.sub x (mean xs) = some d ∧ double.div d (F (xs.length + 1)) = some e ∧ double.add (mean xs) e = some m' ∧ double.sub x m' = some r ∧ double.mul d r = some p ∧ double.add (squares xs) p = some s' ∧ mean (xs ++ [x]) = m' ∧ squares (xs ++ [x]) = s') ∧ MS (xs ++ [x]) := by
  have hn1 : xs.length + 1 = 1 → mean xs = 0 := fun h1 => h.zero (List.eq_nil_of_length_eq_zero (by omega))
  obtain ⟨d, e, m', ed, ee, em, c1, c2, c3, c4, c5, c6, c7⟩ := mean_step (B62_inf hx) (B62_inf h.m) (Nat.le_add_left 1 xs.length) hn hn1
  have hm' : m' ≤ B62 := by
    rcases Nat.le_total x (mean xs) with c | c
    · exact Nat.le_trans (c2 c).2 h.m
    · exact Nat.le_trans (c3 c).2 hx
  obtain ⟨r, p, s', er, ep, es, b1, b2, b3⟩ := spread_step (k := xs.length) (s := squares xs) hx h.m hm' c5 c6 (fun c => (c2 c).1) (fun c => (c3 c).2) h.s h.v hn
  have hst : ms (xs ++ [x]) = (xs.length + 1, m', s') := by
    rw [ms_snoc]
    unfold step
    have e0 : (ms xs).2.1 = mean xs := rfl
    have e1 : (ms xs).2.2 = squares xs := rfl
    rw [h.n, e0, e1, ed]
    simp only [Option.getD_some]
    rw [ee]
    simp only [Option.getD_some]
    rw [em]
    simp only [Option.getD_some]
    rw [er]
    simp only [Option.getD_some]
    rw [ep]
    simp only [Option.getD_some]
    rw [es]
    rfl
  have hmm : mean (xs ++ [x]) = m' := by unfold mean; rw [hst]
  have hss : squares (xs ++ [x]) = s' := by unfold squares; rw [hst]
  refine ⟨⟨d, e, m', r, p, s', ed, ee, em, er, ep, es, hmm, hss⟩, ⟨by rw [hst]; simp, by rw [hmm]; exact hm', by rw [hss]; exact b1, by rw [hss]; simpa using b2, fun h0 => by simp at h0, fun _ a ha => ?_, fun _ a ha => ?_, fun a ha => ?_⟩⟩
  · rw [hmm]
    have hxa := ha x (by simp)
    by_cases h0 : xs = []
    · rw [c4 (by rw [h0]; rfl)]; exact hxa
    · have hma := h.lo h0 a (fun y hy => ha y (by simp [hy]))
      rcases Nat.le_total x (mean xs) with c | c
      · exact Nat.le_trans hxa (c2 c).1
      · exact Nat.le_trans hma (c3 c).1
  · rw [hmm]
    have hxa := ha x (by simp)
    by_cases h0 : xs = []
    · rw [c4 (by rw [h0]; rfl)]; exact hxa
    · have hma := h.hi h0 a (fun y hy => ha y (by simp [hy]))
      rcases Nat.le_total x (mean xs) with c | c
      · exact Nat.le_trans (c2 c).2 hma
      · exact Nat.le_trans (c3 c).2 hxa
  · rw [hss]
    have hxa := ha x (by simp)
    have hs0 := h.one a (fun y hy => ha y (by simp [hy]))
    refine b3 (Or.inr ?_) hs0
    by_cases h0 : xs = []
    · exact (c4 (by rw [h0]; rfl)).symm
    · have g1 := h.lo h0 a (fun y hy => Nat.le_of_eq (ha y (by simp [hy])).symm)
      have g2 := h.hi h0 a (fun y hy => Nat.le_of_eq (ha y (by simp [hy])))
      have : x = mean xs := by omega
      have g3 := c2 (by omega)
      omega
theorem snoc_ind {p : List Nat → Prop} (h0 : p []) (h1 : ∀ xs x, p xs → p (xs ++ [x])) (xs : List Nat) : p xs := by
  have : ∀ n, ∀ xs : List Nat, xs.length = n → p xs := by
    intro n
    induction n with
    | zero => intro xs h; rw [List.eq_nil_of_length_eq_zero h]; exact h0
    | succ n ih =>
      intro xs h
      have hne : xs ≠ [] := by intro e; subst e; simp at h
      rw [← List.dropLast_concat_getLast hne]
      exact h1 _ _ (ih _ (by rw [List.length_dropLast, h]; rfl))
  exact this _ xs rfl
theorem ms_all {xs : List Nat} (h : ∀ x ∈ xs, x ≤ B62) (hn : xs.length < 2 ^ 53) : MS xs := by
  induction xs using snoc_ind with
  | h0 => exact ms_nil
  | h1 xs x ih =>
    simp only [List.length_append, List.length_cons, List.length_nil] at hn
    exact (ms_step (ih (fun y hy => h y (by simp [hy])) (by omega)) (h x (by simp)) (by omega)).2
/-- The spread. -/
def spread (xs : List Nat) : Nat := (double.div (squares xs) (F xs.length)).getD 0
theorem spread_some {xs : List Nat} (h : MS xs) (h0 : xs ≠ []) (hn : xs.length < 2 ^ 53) : double.div (squares xs) (F xs.length) = some (spread xs) ∧ sg (spread xs) = false ∧ spread xs < INF ∧ (squares xs = 0 → spread xs = 0) := by
  have hs3 : squares xs < 2 ^ 63 := Nat.lt_trans h.s INF_lt
  have hl : 1 ≤ xs.length := List.length_pos_iff.2 h0
  obtain ⟨z, e, z1, z2, z3, z4⟩ := div_nat (x := squares xs) (by rw [rg_pos hs3]; exact h.s) hl hn
  rw [rg_pos hs3] at z3 z4
  have hz : spread xs = z := by unfold spread; rw [e]; rfl
  rw [sg_pos hs3] at z2
  have hw := word_eq z1 z2
  refine ⟨by rw [hz]; exact e, by rw [hz]; exact z2, ?_, fun h0 => ?_⟩
  · rw [hz, hw]
    exact Nat.lt_of_le_of_lt (z3 (squares xs) (Nat.le_mul_of_pos_right _ hl)) h.s
  · rw [hz, hw]
    exact Nat.le_zero.1 (z3 0 (by rw [h0, V_zero]; exact Nat.zero_le _))

/-- The smoothed gap. -/
def sstep (k v x : Nat) : Nat := (double.add ((double.mul k v).getD 0) ((double.mul ((double.sub ONE k).getD 0) x).getD 0)).getD 0
def smooth (k : Nat) : List Nat → Nat
  | [] => 0
  | x :: l => l.foldl (sstep k) x
theorem smooth_snoc (k : Nat) {xs : List Nat} (h : xs ≠ []) (x : Nat) : smooth k (xs ++ [x]) = sstep k (smooth k xs) x := by
  cases xs with
  | nil => exact absurd rfl h
  | cons y l => simp [smooth]
theorem smooth_all {k : Nat} (hk : k < ONE) {xs : List Nat} (h : ∀ x ∈ xs, x ≤ B62) : smooth k xs < INF ∧ V (smooth k xs) ≤ 2 ^ 63 * 2 ^ 1074 := by
  induction xs using snoc_ind with
  | h0 => exact ⟨(by decide : 0 < INF), by simp [smooth, V_zero]⟩
  | h1 xs x ih =>
    have hx := h x (by simp)
    by_cases h0 : xs = []
    · subst h0
      have := V_mono hx
      rw [B62_val.1] at this
      refine ⟨B62_inf hx, Nat.le_trans this (Nat.mul_le_mul_right _ (Nat.pow_le_pow_right (by decide) (by decide)))⟩
    · obtain ⟨i1, i2⟩ := ih (fun y hy => h y (by simp [hy]))
      obtain ⟨p, l, q, v', e1, e2, e3, e4, r1, r2⟩ := smooth_step hk i1 i2 hx
      rw [smooth_snoc k h0]
      unfold sstep
      rw [e1, e2]
      simp only [Option.getD_some]
      rw [e3]
      simp only [Option.getD_some]
      rw [e4]
      exact ⟨r1, r2⟩
theorem smooth_run {k : Nat} (hk : k < ONE) {xs : List Nat} (h : ∀ x ∈ xs, x ≤ B62) (h0 : xs ≠ []) {x : Nat} (hx : x ≤ B62) :
    ∃ p l q v', double.mul k (smooth k xs) = some p ∧ double.sub ONE k = some l ∧ double.mul l x = some q ∧ double.add p q = some v' ∧ smooth k (xs ++ [x]) = v' := by
  obtain ⟨i1, i2⟩ := smooth_all hk h
  obtain ⟨p, l, q, v', e1, e2, e3, e4, _, _⟩ := smooth_step hk i1 i2 hx
  refine ⟨p, l, q, v', e1, e2, e3, e4, ?_⟩
  rw [smooth_snoc k h0]
  unfold sstep
  rw [e1, e2]
  simp only [Option.getD_some]
  rw [e3]
  simp only [Option.getD_some]
  rw [e4]
  rfl

/-- The turn. -/
def tstep (t : Int × Int) (s : Nat) : Int × Int :=
  if s % 4 = 0 then (t.1 + 1, t.2) else if s % 4 = 1 then (t.1, t.2 + 1) else if s % 4 = 2 then (t.1 - 1, t.2) else (t.1, t.2 - 1)
def turn (l : List Nat) : Int × Int := l.foldl tstep (0, 0)
theorem turn_snoc (l : List Nat) (s : Nat) : turn (l ++ [s]) = tstep (turn l) s := by simp [turn]
theorem turn_bd (l : List Nat) : -(l.length : Int) ≤ (turn l).1 ∧ (turn l).1 ≤ l.length ∧ -(l.length : Int) ≤ (turn l).2 ∧ (turn l).2 ≤ l.length := by
  induction l using snoc_ind with
  | h0 => simp [turn]
  | h1 l s ih =>
    rw [turn_snoc]
    simp only [List.length_append, List.length_cons, List.length_nil]
    unfold tstep
    split
    · simp only []; omega
    · split
      · simp only []; omega
      · split <;> (simp only []; omega)

/-- A gauge. -/
structure G where
  keep : Nat
  slots : List Nat
  codes : List Int
/-- What is heard. -/
def G.hear (g : G) (s : Nat) (c : Int) : G := ⟨g.keep, g.slots ++ [s], g.codes ++ [c]⟩
def G.last (g : G) : Nat := g.slots.getLast?.getD 0
def G.gaps (g : G) : List Nat := Gp.gaps g.slots
def takes (g : G) (s : Int) : Bool := decide (0 ≤ s) && decide (s ≤ 4611686018427387904) && decide ((g.last : Int) ≤ s)
/-- A gauge that may be. -/
structure G.Good (g : G) : Prop where
  keep : g.keep < ONE
  ok : Ok g.slots
  len : g.codes.length = g.slots.length
  small : g.slots.length < 2 ^ 50
theorem G.Good.gaps_le {g : G} (h : g.Good) : ∀ x ∈ g.gaps, x ≤ B62 := Gp.gaps_le h.ok
theorem G.Good.gaps_len {g : G} (h : g.Good) : g.gaps.length < 2 ^ 53 := by
  have := h.small
  unfold G.gaps; rw [Gp.gaps_len]; omega
theorem G.Good.ms {g : G} (h : g.Good) : MS g.gaps := ms_all h.gaps_le h.gaps_len
theorem G.Good.last_le {g : G} (h : g.Good) : g.last ≤ 2 ^ 62 := by
  unfold G.last
  cases e : g.slots.getLast? with
  | none => simp
  | some a => exact h.ok a (List.mem_of_getLast? e)
theorem hear_gaps (g : G) (s : Nat) (c : Int) (h : g.slots ≠ []) : (g.hear s c).gaps = g.gaps ++ [F (s - g.last)] := by
  unfold G.gaps G.hear
  cases e : g.slots.getLast? with
  | none => exact absurd (List.getLast?_eq_none_iff.1 e) h
  | some a =>
    have : g.last = a := by unfold G.last; rw [e]; rfl
    rw [this]; exact gaps_last e s
theorem hear_gaps0 (g : G) (s : Nat) (c : Int) (h : g.slots = []) : (g.hear s c).gaps = [] := by
  unfold G.gaps G.hear; rw [h]; rfl
theorem hear_last (g : G) (s : Nat) (c : Int) : (g.hear s c).last = s := by simp [G.hear, G.last]
theorem G.Good.hear {g : G} (h : g.Good) {s : Nat} {c : Int} (hs : s ≤ 2 ^ 62) (hn : g.slots.length + 1 < 2 ^ 50) : (g.hear s c).Good :=
  ⟨h.keep, fun x hx => by
    rcases List.mem_append.1 hx with hx | hx
    · exact h.ok x hx
    · obtain rfl : x = s := by simpa using hx
      exact hs, by simp [G.hear, h.len], by simpa [G.hear] using hn⟩
end Go.Proofs.Ytecppcgleidhkaa.Gp
