/- Labels as numbers: Leq, Join, Meet bit by bit; Check and May as plain functions. Conditions: none. -/
import Derived.Laws.BitsAllLaws
namespace Go.Proofs.Ytchlolgfahgdeaa.Lbl

/-- Below, or the same. -/
def leq (a b : Nat) : Bool := (a &&& b) == a

theorem leq_iff {a b : Nat} : leq a b = true ↔ ∀ i, a.testBit i = true → b.testBit i = true := by
  unfold leq
  rw [beq_iff_eq]
  constructor
  · intro h i hi
    have := congrArg (·.testBit i) h
    simp only [Nat.testBit_and, hi, Bool.true_and] at this
    exact this
  · intro h
    apply Nat.eq_of_testBit_eq
    intro i
    rw [Nat.testBit_and]
    cases hi : a.testBit i with
    | false => simp
    | true => simp [h i hi]

theorem high_bit {a i : Nat} (ha : a < 18446744073709551616) (hi : 64 ≤ i) : a.testBit i = false :=
  Nat.testBit_lt_two_pow (Nat.lt_of_lt_of_le ha (Nat.pow_le_pow_right (n := 2) (by omega) hi : 2 ^ 64 ≤ 2 ^ i))

theorem andNot_zero {a b : Nat} (ha : a < 18446744073709551616) (hb : b < 18446744073709551616) : (a &&& (18446744073709551615 - b) = 0) ↔ leq a b = true := by
  rw [leq_iff]
  have key : ∀ i, (18446744073709551615 - b).testBit i = (decide (i < 64) && !b.testBit i) := by
    intro i
    rw [show 18446744073709551615 - b = 2 ^ 64 - (b + 1) by omega, Nat.testBit_two_pow_sub_succ hb]
  constructor
  · intro h i hi
    have h1 := congrArg (·.testBit i) h
    simp only [Nat.testBit_and, hi, Bool.true_and, key, Nat.zero_testBit] at h1
    rcases Nat.lt_or_ge i 64 with h2 | h2
    · simpa [h2] using h1
    · rw [high_bit ha h2] at hi; cases hi
  · intro h
    apply Nat.eq_of_testBit_eq
    intro i
    rw [Nat.testBit_and, key, Nat.zero_testBit]
    cases hi : a.testBit i with
    | false => simp
    | true => simp [h i hi]

theorem leq_low {a b : Nat} (ha : a < 18446744073709551616) : leq a b = true ↔ ∀ i, i < 64 → a.testBit i = true → b.testBit i = true := by
  rw [leq_iff]
  constructor
  · intro h i _ hi; exact h i hi
  · intro h i hi
    rcases Nat.lt_or_ge i 64 with h2 | h2
    · exact h i h2 hi
    · rw [high_bit ha h2] at hi; cases hi

theorem leq_refl (a : Nat) : leq a a = true := leq_iff.2 fun _ h => h
theorem leq_trans {a b c : Nat} (h : leq a b = true) (k : leq b c = true) : leq a c = true := leq_iff.2 fun i hi => leq_iff.1 k i (leq_iff.1 h i hi)

/-- One bit. -/
theorem bit_eq (a i : Nat) : a / 2 ^ i % 2 = if a.testBit i = true then 1 else 0 := by
  have := Nat.testBit_eq_decide_div_mod_eq (x := a) (i := i)
  by_cases h : a / 2 ^ i % 2 = 1
  · rw [h] at this
    simp [this, h]
  · rw [this]
    simp [h]
    omega
theorem half_step (a i : Nat) : a / 2 ^ i = 2 * (a / 2 ^ (i + 1)) + a / 2 ^ i % 2 := by
  rw [Nat.pow_succ, ← Nat.div_div_eq_div_mul]; omega

/-- What a list of labels is. -/
def Rising (l : List Nat) : Prop := ∀ i, i + 1 < l.length → l.getD i 0 < l.getD (i + 1) 0
def Closed (l : List Nat) : Prop := ∀ i j, i < l.length → j < l.length → (l.getD i 0 ||| l.getD j 0) ∈ l ∧ (l.getD i 0 &&& l.getD j 0) ∈ l
/-- What Check answers. -/
noncomputable def chk (l : List Nat) : Int :=
  open Classical in if l.length < 1 ∨ 16 < l.length then 10 else if ¬ Rising l then 11 else if ¬ Closed l then 12 else 0
theorem chk_count {l : List Nat} (h : l.length < 1 ∨ 16 < l.length) : chk l = 10 := by unfold chk; rw [if_pos h]
theorem chk_rising {l : List Nat} (h1 : ¬ l.length < 1) (h2 : ¬ 16 < l.length) (h : ¬ Rising l) : chk l = 11 := by unfold chk; rw [if_neg (by omega), if_pos h]
theorem chk_closed {l : List Nat} (h1 : ¬ l.length < 1) (h2 : ¬ 16 < l.length) (h3 : Rising l) (h : ¬ Closed l) : chk l = 12 := by unfold chk; rw [if_neg (by omega), if_neg (by simpa using h3), if_pos h]
theorem chk_ok {l : List Nat} (h1 : ¬ l.length < 1) (h2 : ¬ 16 < l.length) (h3 : Rising l) (h : Closed l) : chk l = 0 := by unfold chk; rw [if_neg (by omega), if_neg (by simpa using h3), if_neg (by simpa using h)]
theorem chk_bd (l : List Nat) : 0 ≤ chk l ∧ chk l ≤ 12 := by unfold chk; split <;> (try split) <;> (try split) <;> omega
theorem chk_zero {l : List Nat} : chk l = 0 ↔ (1 ≤ l.length ∧ l.length ≤ 16 ∧ Rising l ∧ Closed l) := by
  by_cases h1 : l.length < 1 ∨ 16 < l.length
  · rw [chk_count h1]; constructor
    · intro h; cases h
    · intro h; omega
  by_cases h2 : Rising l
  · by_cases h3 : Closed l
    · rw [chk_ok (by omega) (by omega) h2 h3]; simp [h2, h3]; omega
    · rw [chk_closed (by omega) (by omega) h2 h3]; simp [h3]
  · rw [chk_rising (by omega) (by omega) h2]; simp [h2]

/-- An account's five numbers. -/
structure Acc where
  quota : Int
  opn : Int
  queue : Int
  window : Int
  start : Int
def inR (n most : Int) : Bool := decide (0 ≤ n) && decide (n ≤ most)
def Acc.ok (a : Acc) : Bool := inR a.quota 1048576 && (inR a.opn 32 && (inR a.queue 64 && (inR a.window 1048576 && inR a.start 4611686018427387904)))
/-- A config. -/
structure Cfg where
  labels : List Nat
  accounts : List Acc
  sessions : List Int
noncomputable def mayB (c : Cfg) : Bool := decide (chk c.labels = 0) && (decide (c.accounts.length = c.labels.length) && (decide (c.sessions.length ≤ 32) && (c.accounts.all Acc.ok && c.sessions.all fun s => inR s ((c.labels.length : Int) - 1))))
end Go.Proofs.Ytchlolgfahgdeaa.Lbl
