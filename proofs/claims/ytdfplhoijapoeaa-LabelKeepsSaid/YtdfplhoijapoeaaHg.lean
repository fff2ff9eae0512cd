/- The heights, plain. Conditions: none. -/
import Derived.Test.YtdfplhoijapoeaaLcb
set_option linter.unusedVariables false
set_option linter.unusedSimpArgs false
namespace Go.Proofs.Ytdfplhoijapoeaa.Lhg
open Go.RowKit Go.Proofs.Ytdfplhoijapoeaa.Lib1 Go.Proofs.Ytdfplhoijapoeaa.Lbl Go.Proofs.Ytdfplhoijapoeaa.Lbw Go.Proofs.Ytdfplhoijapoeaa.Lck Go.Proofs.Ytdfplhoijapoeaa.Lcb

theorem bel_lt {y x : Nat} (h : bel y x = true) : y < x := by
  simp only [bel, leq, Bool.and_eq_true, Bool.not_eq_true', beq_eq_false_iff_ne, beq_iff_eq] at h
  have : y &&& x ≤ x := Nat.and_le_right
  omega
def mxf (g : Nat → Nat) (l : List Nat) : Nat := l.foldr (fun y m => max (g y + 1) m) 0
theorem mxf_le (g : Nat → Nat) : ∀ (l : List Nat) (y : Nat), y ∈ l → g y + 1 ≤ mxf g l := fun l => by
  induction l with
  | nil => intro y h; cases h
  | cons a l ih =>
    intro y h
    show _ ≤ max (g a + 1) (mxf g l)
    rcases List.mem_cons.1 h with rfl | h
    · exact Nat.le_max_left _ _
    · exact Nat.le_trans (ih y h) (Nat.le_max_right _ _)
theorem mxf_at (g : Nat → Nat) : ∀ (l : List Nat), mxf g l = 0 ∨ ∃ y ∈ l, mxf g l = g y + 1 := fun l => by
  induction l with
  | nil => exact .inl rfl
  | cons a l ih =>
    have e : mxf g (a :: l) = max (g a + 1) (mxf g l) := rfl
    right
    rcases Nat.le_total (mxf g l) (g a + 1) with h | h
    · exact ⟨a, by simp, by rw [e, Nat.max_eq_left h]⟩
    · rcases ih with h0 | ⟨y, hy, he⟩
      · omega
      · exact ⟨y, by simp [hy], by rw [e, Nat.max_eq_right h, he]⟩
theorem mxf_congr (g g' : Nat → Nat) : ∀ (l : List Nat), (∀ y ∈ l, g y = g' y) → mxf g l = mxf g' l := fun l => by
  induction l with
  | nil => intro _; rfl
  | cons a l ih =>
    intro h
    show max (g a + 1) (mxf g l) = max (g' a + 1) (mxf g' l)
    rw [h a (by simp), ih (fun y hy => h y (by simp [hy]))]
def hgF (ls : List Nat) : Nat → Nat → Nat
  | 0, _ => 0
  | f + 1, x => mxf (hgF ls f) (ls.filter fun y => bel y x)
theorem none_below (ls : List Nat) : (ls.filter fun y => bel y 0) = [] := by
  rw [List.filter_eq_nil_iff]
  intro y _ h
  have := bel_lt h
  omega
theorem hgF_same (ls : List Nat) : ∀ (f g x : Nat), x ≤ f → x ≤ g → hgF ls f x = hgF ls g x := fun f => by
  induction f with
  | zero =>
    intro g x h1 h2
    obtain rfl : x = 0 := by omega
    cases g with
    | zero => rfl
    | succ g => show 0 = mxf _ _; rw [none_below]; rfl
  | succ f ih =>
    intro g x h1 h2
    cases g with
    | zero =>
      obtain rfl : x = 0 := by omega
      show mxf _ _ = 0; rw [none_below]; rfl
    | succ g =>
      show mxf _ _ = mxf _ _
      refine mxf_congr _ _ _ (fun y hy => ?_)
      have := bel_lt (List.mem_filter.1 hy).2
      exact ih g y (by omega) (by omega)
/-- The longest way down from x. -/
def hg (ls : List Nat) (x : Nat) : Nat := hgF ls x x
theorem hg_eq (ls : List Nat) (x : Nat) : hg ls x = mxf (hg ls) (ls.filter fun y => bel y x) := by
  unfold hg
  rw [hgF_same ls x (x + 1) x (Nat.le_refl _) (by omega)]
  show mxf _ _ = _
  refine mxf_congr _ _ _ (fun y hy => ?_)
  have := bel_lt (List.mem_filter.1 hy).2
  exact hgF_same ls x y y (by omega) (Nat.le_refl _)
theorem hg_le {ls : List Nat} {x y : Nat} (hy : y ∈ ls) (h : bel y x = true) : hg ls y + 1 ≤ hg ls x := by
  rw [hg_eq ls x]
  exact mxf_le _ _ _ (List.mem_filter.2 ⟨hy, h⟩)
theorem hg_at (ls : List Nat) (x : Nat) : hg ls x = 0 ∨ ∃ y ∈ ls, bel y x = true ∧ hg ls x = hg ls y + 1 := by
  rcases mxf_at (hg ls) (ls.filter fun y => bel y x) with h | ⟨y, hy, he⟩
  · left; rw [hg_eq, h]
  · right
    have := List.mem_filter.1 hy
    exact ⟨y, this.1, this.2, by rw [hg_eq, he]⟩
theorem cnt_lt {x y : Nat} (h : y < x) : ∀ (l : List Nat), y ∈ l → l.countP (fun z => decide (z < y)) + 1 ≤ l.countP (fun z => decide (z < x)) := fun l => by
  induction l with
  | nil => intro h; cases h
  | cons a l ih =>
    intro hm
    have hmono : l.countP (fun z => decide (z < y)) ≤ l.countP (fun z => decide (z < x)) := List.countP_mono_left (fun z _ hz => by simp only [decide_eq_true_eq] at *; omega)
    rcases List.mem_cons.1 hm with rfl | hm
    · rw [List.countP_cons_of_neg (by simp), List.countP_cons_of_pos (by simpa using h)]
      omega
    · have := ih hm
      simp only [List.countP_cons, decide_eq_true_eq]
      split <;> split <;> omega
theorem hg_cnt (ls : List Nat) : ∀ (f x : Nat), x ≤ f → hg ls x ≤ ls.countP (fun z => decide (z < x)) := fun f => by
  induction f with
  | zero =>
    intro x hx
    rcases hg_at ls x with h | ⟨y, hy, hb, he⟩
    · omega
    · have := bel_lt hb; omega
  | succ f ih =>
    intro x hx
    rcases hg_at ls x with h | ⟨y, hy, hb, he⟩
    · omega
    · have h1 := bel_lt hb
      have h2 := ih y (by omega)
      have h3 := cnt_lt h1 ls hy
      omega
theorem hg_len (ls : List Nat) (x : Nat) : hg ls x ≤ ls.length := Nat.le_trans (hg_cnt ls x x (Nat.le_refl _)) (List.countP_le_length)
end Go.Proofs.Ytdfplhoijapoeaa.Lhg
