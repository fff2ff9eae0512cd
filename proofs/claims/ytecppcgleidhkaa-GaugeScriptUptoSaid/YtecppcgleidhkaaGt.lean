/- The quantile in plain words: which sample it is. Conditions: none. -/
import Derived.Test.YtecppcgleidhkaaGp
set_option linter.unusedVariables false
set_option exponentiation.threshold 3000
namespace Go.Proofs.Ytecppcgleidhkaa.Gp
open Ieee Go.Proofs.Ytecppcgleidhkaa.Fl

def ge (a b : Nat) : Bool := (double.order a b == some .gt) || (double.order a b == some .eq)
def le (a b : Nat) : Bool := (double.order a b == some .lt) || (double.order a b == some .eq)
/-- A part between 0 and 1. -/
def partOk (p : Nat) : Bool := ge p 0 && le p ONE
theorem read_big {x : Nat} (h : INF ≤ rg x) : (∃ s, double.read x = .infinity s) ∨ ∃ s f, double.read x = .nan s f := by
  unfold Format.read
  simp only [sw_eq, bin_eq, inf_eq]
  have hr : x % 2 ^ 63 = rg x := rfl
  rw [hr]
  have h2 : (2 : Nat) ^ 52 ≤ INF := by decide
  rw [if_neg (by omega), if_neg (by omega)]
  split
  · exact .inl ⟨_, rfl⟩
  · exact .inr ⟨_, _, rfl⟩
theorem order_fin_of {p a b : Nat} (ha : a < INF) (hb : b < INF) (h1 : ge p a = true) (h2 : le p b = true) : rg p < INF := by
  rcases Nat.lt_or_ge (rg p) INF with h | h
  · exact h
  · exfalso
    have ra : rg a < INF := by rw [rg_pos (Nat.lt_trans ha INF_lt)]; exact ha
    have rb : rg b < INF := by rw [rg_pos (Nat.lt_trans hb INF_lt)]; exact hb
    obtain ⟨M, t, ea, -⟩ := read_fin ra
    obtain ⟨N, u, eb, -⟩ := read_fin rb
    unfold ge Format.order at h1
    unfold le Format.order at h2
    rw [ea] at h1
    rw [eb] at h2
    rcases read_big h with ⟨s, e⟩ | ⟨s, f, e⟩
    · rw [e] at h1 h2
      simp only [Datum.order] at h1 h2
      cases s <;> simp at h1 h2
    · rw [e] at h1
      simp [Datum.order] at h1
theorem ge_fin {a z : Nat} (ha : a < INF) (hz : rg z < INF) : ge a z = decide (sv z ≤ (V a : Int)) := by
  have a3 := Nat.lt_trans ha INF_lt
  unfold ge
  rw [order_fin (by rw [rg_pos a3]; exact ha) hz, sv_pos a3]
  rcases Int.lt_trichotomy (V a : Int) (sv z) with c | c | c
  · rw [Int.compare_eq_lt.2 c, decide_eq_false (by omega)]; rfl
  · rw [c, Int.compare_eq_eq.2 rfl, decide_eq_true (by omega)]; rfl
  · rw [Int.compare_eq_gt.2 c, decide_eq_true (by omega)]; rfl
theorem part_fin {p : Nat} (h : partOk p = true) : rg p < INF ∧ 0 ≤ sv p ∧ sv p ≤ (V ONE : Int) := by
  unfold partOk at h
  simp only [Bool.and_eq_true] at h
  have ho := one_val.2
  have hr := order_fin_of (by decide : 0 < INF) ho h.1 h.2
  refine ⟨hr, ?_, ?_⟩
  · have := h.1
    unfold ge at this
    rw [order_fin hr (by decide : rg 0 < INF)] at this
    rcases Int.lt_trichotomy (sv p) (sv 0) with c | c | c
    · rw [Int.compare_eq_lt.2 c] at this; cases this
    · have : sv 0 = 0 := by decide
      omega
    · have : sv 0 = 0 := by decide
      omega
  · have := h.2
    have o3 := Nat.lt_trans ho INF_lt
    unfold le at this
    rw [order_fin hr (by rw [rg_pos o3]; exact ho), sv_pos o3] at this
    rcases Int.lt_trichotomy (sv p) (V ONE) with c | c | c
    · omega
    · omega
    · rw [Int.compare_eq_gt.2 c] at this; cases this
def wantOf (p n : Nat) : Nat := (double.mul p (F n)).getD 0
theorem want_some {p n : Nat} (h : partOk p = true) (hn : n < 2 ^ 53) : double.mul p (F n) = some (wantOf p n) ∧ rg (wantOf p n) < INF ∧ ge (F n) (wantOf p n) = true := by
  obtain ⟨h1, h2, h3⟩ := part_fin h
  have hf := F_val hn
  have ho := one_val.1
  obtain ⟨z, e, z1, z2, z3⟩ := mul_fin h1 (show rg (F n) < INF by rw [F_rg]; exact hf.2)
  have hz : wantOf p n = z := by unfold wantOf; rw [e]; rfl
  rw [F_rg] at z1
  have hvp : V (rg p) ≤ 2 ^ 1074 := by
    rw [← ho]
    unfold sv at h2 h3
    split at h2 <;> rename_i hs <;> simp only [hs] at h3 <;> simp at h3 <;> omega
  have hzle : rg z ≤ F n := z1 (F n) (by rw [Nat.mul_comm]; exact Nat.mul_le_mul_left _ hvp)
  have hzi : rg z < INF := Nat.lt_of_le_of_lt hzle hf.2
  rw [hz]
  refine ⟨e, hzi, ?_⟩
  rw [ge_fin hf.2 hzi]
  apply decide_eq_true
  have h4 := V_mono hzle
  unfold sv
  split <;> omega

/-- How many samples are not above x. -/
def cnt (xs : List Nat) (x : Nat) : Nat := xs.countP (fun y => decide (y ≤ x))
structure IsQ (xs : List Nat) (want x : Nat) : Prop where
  mem : x ∈ xs
  ok : ge (F (cnt xs x)) want = true
  least : ∀ y ∈ xs, ge (F (cnt xs y)) want = true → x ≤ y
theorem IsQ.unique {xs : List Nat} {want x y : Nat} (h : IsQ xs want x) (g : IsQ xs want y) : x = y :=
  Nat.le_antisymm (h.least y g.mem g.ok) (g.least x h.mem h.ok)
theorem cnt_perm {xs ys : List Nat} (h : xs.Perm ys) (x : Nat) : cnt xs x = cnt ys x := h.countP_eq _
theorem cnt_iff : ∀ {cs : List Nat}, cs.Pairwise (· ≤ ·) → ∀ (y j : Nat), j < cs.length → (cs.getD j 0 ≤ y ↔ j < cnt cs y)
  | [], _, y, j, h => by simp at h
  | a :: l, hp, y, j, h => by
    obtain ⟨ha, hl⟩ := List.pairwise_cons.1 hp
    have ih := cnt_iff hl y
    unfold cnt at ih ⊢
    by_cases hay : a ≤ y
    · rw [List.countP_cons_of_pos (by simpa using hay)]
      cases j with
      | zero => simp [hay]
      | succ j =>
        have := ih j (by simpa using h)
        simp only [List.getD_cons_succ]
        omega
    · rw [List.countP_cons_of_neg (by simpa using hay)]
      have h0 : l.countP (fun y' => decide (y' ≤ y)) = 0 := by
        rw [List.countP_eq_zero]
        intro b hb
        have := ha b hb
        simp; omega
      rw [h0]
      cases j with
      | zero => simp; omega
      | succ j =>
        have hj : j < l.length := by simpa using h
        have : a ≤ l.getD j 0 := by
          apply ha
          rw [List.getD_eq_getElem?_getD, List.getElem?_eq_getElem hj]
          exact List.getElem_mem hj
        simp only [List.getD_cons_succ]
        omega
theorem cnt_le (cs : List Nat) (y : Nat) : cnt cs y ≤ cs.length := List.countP_le_length
/-- Does the loop stop at place i? -/
def stops (cs : List Nat) (want i : Nat) : Prop := (i + 1 = cs.length ∨ cs.getD (i + 1) 0 ≠ cs.getD i 0) ∧ ge (F (i + 1)) want = true
theorem cnt_stop {cs : List Nat} (hp : cs.Pairwise (· ≤ ·)) {i : Nat} (hi : i < cs.length) (h : i + 1 = cs.length ∨ cs.getD (i + 1) 0 ≠ cs.getD i 0) : cnt cs (cs.getD i 0) = i + 1 := by
  have h1 := (cnt_iff hp (cs.getD i 0) i hi).1 (Nat.le_refl _)
  have h2 := cnt_le cs (cs.getD i 0)
  rcases Nat.lt_or_ge (i + 1) (cnt cs (cs.getD i 0)) with c | c
  · exfalso
    have hi1 : i + 1 < cs.length := by omega
    have h3 := (cnt_iff hp (cs.getD i 0) (i + 1) hi1).2 c
    have h4 : cs.getD i 0 ≤ cs.getD (i + 1) 0 := by
      rw [List.pairwise_iff_getElem] at hp
      have := hp i (i + 1) hi hi1 (by omega)
      simpa [List.getD_eq_getElem?_getD, hi, hi1] using this
    rcases h with h | h
    · omega
    · exact h (Nat.le_antisymm h3 h4)
  · omega
theorem getD_mono {cs : List Nat} (hp : cs.Pairwise (· ≤ ·)) {i j : Nat} (hij : i ≤ j) (hj : j < cs.length) : cs.getD i 0 ≤ cs.getD j 0 := by
  rcases Nat.eq_or_lt_of_le hij with rfl | h
  · exact Nat.le_refl _
  · rw [List.pairwise_iff_getElem] at hp
    have := hp i j (by omega) hj h
    have hi : i < cs.length := by omega
    simpa [List.getD_eq_getElem?_getD, hi, hj] using this
theorem stop_is {xs cs : List Nat} {want i : Nat} (hperm : cs.Perm xs) (hp : cs.Pairwise (· ≤ ·)) (hi : i < cs.length) (h : stops cs want i) (hno : ∀ j, j < i → ¬ stops cs want j) : IsQ xs want (cs.getD i 0) := by
  have hc := cnt_stop hp hi h.1
  have hmem : cs.getD i 0 ∈ cs := by rw [List.getD_eq_getElem?_getD, List.getElem?_eq_getElem hi]; exact List.getElem_mem hi
  refine ⟨hperm.mem_iff.1 hmem, by rw [← cnt_perm hperm, hc]; exact h.2, fun y hy hge => ?_⟩
  rw [← cnt_perm hperm] at hge
  obtain ⟨j, hj, rfl⟩ := List.mem_iff_getElem.1 (hperm.mem_iff.2 hy)
  have ej : cs[j] = cs.getD j 0 := by simp [List.getD_eq_getElem?_getD, hj]
  rw [ej] at hge ⊢
  have h1 := (cnt_iff hp (cs.getD j 0) j hj).1 (Nat.le_refl _)
  have h2 := cnt_le cs (cs.getD j 0)
  obtain ⟨k, hk⟩ : ∃ k, cnt cs (cs.getD j 0) = k + 1 := ⟨cnt cs (cs.getD j 0) - 1, by omega⟩
  have hkl : k < cs.length := by omega
  have h3 := (cnt_iff hp (cs.getD j 0) k hkl).2 (by omega)
  have h4 := getD_mono hp (show j ≤ k by omega) hkl
  have ek : cs.getD k 0 = cs.getD j 0 := Nat.le_antisymm h3 h4
  have hstop : stops cs want k := by
    refine ⟨?_, by rw [← hk]; exact hge⟩
    rcases Nat.eq_or_lt_of_le (show k + 1 ≤ cs.length by omega) with e | e
    · exact .inl e
    · refine .inr (fun e2 => ?_)
      have := (cnt_iff hp (cs.getD j 0) (k + 1) e).1 (by rw [e2, ek]; exact Nat.le_refl _)
      omega
  rcases Nat.lt_or_ge k i with c | c
  · exact absurd hstop (hno k c)
  · rw [← ek]; exact getD_mono hp c hkl
theorem pairwise_of {cs : List Nat} (h : ∀ p q, p < q → q < cs.length → cs.getD p 0 ≤ cs.getD q 0) : cs.Pairwise (· ≤ ·) := by
  rw [List.pairwise_iff_getElem]
  intro i j hi hj hij
  have := h i j hij hj
  simpa [List.getD_eq_getElem?_getD, hi, hj] using this
end Go.Proofs.Ytecppcgleidhkaa.Gp
