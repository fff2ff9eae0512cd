/- The document's Heights, by contract. Conditions: the row reads so, labels below 2^64. -/
import Derived.Test.YtdfplhoijapoeaaHi
import Derived.Deep.LoopGhost
set_option linter.unusedVariables false
set_option linter.unusedSimpArgs false
namespace Go.Proofs.Ytdfplhoijapoeaa.Lhj
open Go.RowKit Go.Proofs.Ytdfplhoijapoeaa.Lib1 Go.Proofs.Ytdfplhoijapoeaa.Lat Go.Proofs.Ytdfplhoijapoeaa.Lbl Go.Proofs.Ytdfplhoijapoeaa.Lbw Go.Proofs.Ytdfplhoijapoeaa.Lck Go.Proofs.Ytdfplhoijapoeaa.Lcb Go.Proofs.Ytdfplhoijapoeaa.Lhg Go.Proofs.Ytdfplhoijapoeaa.Lru Go.Proofs.Ytdfplhoijapoeaa.Lhh

def sumTo (f : Nat → Nat) : Nat → Nat
  | 0 => 0
  | n + 1 => sumTo f n + f n
theorem sumTo_congr {f g : Nat → Nat} : ∀ n, (∀ i, i < n → f i = g i) → sumTo f n = sumTo g n := fun n => by
  induction n with
  | zero => intro _; rfl
  | succ n ih => intro h; show sumTo f n + f n = sumTo g n + g n; rw [ih (fun i hi => h i (by omega)), h n (by omega)]
theorem sumTo_lt {f g : Nat → Nat} {k : Nat} : ∀ n, k < n → (∀ i, i < n → i ≠ k → f i = g i) → f k < g k → sumTo f n < sumTo g n := fun n => by
  induction n with
  | zero => intro h; omega
  | succ n ih =>
    intro hk h hlt
    show sumTo f n + f n < sumTo g n + g n
    by_cases e : k = n
    · subst e
      rw [sumTo_congr k (fun i hi => h i (by omega) (by omega))]
      omega
    · have := ih (by omega) (fun i hi hne => h i (by omega) hne) hlt
      rw [h n (by omega) (Ne.symm e)]
      omega
/-- What is left to be raised. -/
def pot (ls ss : List Nat) (Q : Nat → Nat) : Nat := sumTo (fun i => hg ls (ss.getD i 0) - Q i) ss.length
def Up (ls ss : List Nat) (Q : Nat → Nat) : Prop := ∀ i, i < ss.length → Q i ≤ hg ls (ss.getD i 0)
/-- The first i are as high as all below them ask, the i-th as the first j of them. -/
def Fx (ss : List Nat) (i : Nat) (Q : Nat → Nat) : Prop := ∀ p, p < i → ∀ q, q < ss.length → bel (ss.getD q 0) (ss.getD p 0) = true → Q q + 1 ≤ Q p
def Fy (ss : List Nat) (i j : Nat) (Q : Nat → Nat) : Prop := ∀ q, q < j → bel (ss.getD q 0) (ss.getD i 0) = true → Q q + 1 ≤ Q i
theorem fx_more {ss : List Nat} {i : Nat} {Q : Nat → Nat} (h : Fx ss i Q) (g : Fy ss i ss.length Q) : Fx ss (i + 1) Q := fun p hp q hq hb => by
  rcases Nat.lt_or_eq_of_le (Nat.le_of_lt_succ hp) with e | rfl
  · exact h p e q hq hb
  · exact g q hq hb
theorem fy_skip {ss : List Nat} {i j : Nat} {Q : Nat → Nat} (h : Fy ss i j Q) (hb : bel (ss.getD j 0) (ss.getD i 0) = true → Q j + 1 ≤ Q i) : Fy ss i (j + 1) Q := fun q hq hb' => by
  rcases Nat.lt_or_eq_of_le (Nat.le_of_lt_succ hq) with e | rfl
  · exact h q e hb'
  · exact hb hb'
theorem up_set {ls ss : List Nat} {Q : Nat → Nat} {i j : Nat} (h : Up ls ss Q) (hin : ∀ x ∈ ss, x ∈ ls) (hj : j < ss.length) (hb : bel (ss.getD j 0) (ss.getD i 0) = true) : Up ls ss (fun q => if q = i then Q j + 1 else Q q) := fun q hq => by
  show (if q = i then Q j + 1 else Q q) ≤ _
  by_cases e : q = i
  · subst e
    rw [if_pos rfl]
    exact Nat.le_trans (Nat.succ_le_succ (h j hj)) (hg_le (hin _ (mem_at hj)) hb)
  · rw [if_neg e]; exact h q hq
theorem pot_set {ls ss : List Nat} {Q : Nat → Nat} {i j : Nat} (h : Up ls ss Q) (hin : ∀ x ∈ ss, x ∈ ls) (hi : i < ss.length) (hj : j < ss.length) (hb : bel (ss.getD j 0) (ss.getD i 0) = true) (hlt : Q i < Q j + 1) : pot ls ss (fun q => if q = i then Q j + 1 else Q q) < pot ls ss Q := by
  refine sumTo_lt (k := i) _ hi (fun q hq hne => ?_) ?_
  · show _ - (if q = i then Q j + 1 else Q q) = _
    rw [if_neg hne]
  · show _ - (if i = i then Q j + 1 else Q i) < _ - Q i
    rw [if_pos rfl]
    have := Nat.le_trans (Nat.succ_le_succ (h j hj)) (hg_le (hin _ (mem_at hj)) hb)
    omega
theorem fix_hg {ls ss : List Nat} {Q : Nat → Nat} (hU : Up ls ss Q) (hF : Fx ss ss.length Q) (hall : ∀ y ∈ ls, ∃ p, p < ss.length ∧ ss.getD p 0 = y) : ∀ (f p : Nat), p < ss.length → ss.getD p 0 ≤ f → Q p = hg ls (ss.getD p 0) := fun f => by
  induction f with
  | zero =>
    intro p hp h0
    have h1 := hU p hp
    rcases hg_at ls (ss.getD p 0) with h | ⟨y, hy, hb, he⟩
    · omega
    · have := bel_lt hb; omega
  | succ f ih =>
    intro p hp h0
    have h1 := hU p hp
    rcases hg_at ls (ss.getD p 0) with h | ⟨y, hy, hb, he⟩
    · omega
    · obtain ⟨q, hq, rfl⟩ := hall y hy
      have h2 := bel_lt hb
      have h3 := ih q hq (by omega)
      have h4 := hF p hp q hq hb
      omega
end Go.Proofs.Ytdfplhoijapoeaa.Lhj
