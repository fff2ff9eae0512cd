/- Strikes mixed place by place: how the law's loop goes on. Conditions: none. -/
import Derived.Test.YtchlolgfahgdeaaEvb
set_option linter.unusedSimpArgs false
set_option linter.unusedVariables false
namespace Go.Proofs.Ytchlolgfahgdeaa.Ev
open Go.Proofs.Ytchlolgfahgdeaa.Lbl

def bad (c : Cfg) (place q : Nat) : Prop := c.labels.length ≤ q ∨ seen c place q = false
instance (c : Cfg) (place q : Nat) : Decidable (bad c place q) := by unfold bad; infer_instance
def mixTo (c : Cfg) (place : Nat) (a b : List Fate) (p : Nat) : List Fate := (List.range a.length).map fun q => if q < p ∧ bad c place q ∧ q < b.length then b.getD q Fate.zero else a.getD q Fate.zero
def mixesTo (c : Cfg) (place : Nat) (a b : List (List Fate)) (i p : Nat) : List (List Fate) :=
  (List.range a.length).map fun j => if j < b.length then mixTo c place (a.getD j []) (b.getD j []) (if j < i then (a.getD j []).length else if j = i then p else 0) else a.getD j []

theorem mixTo_len (c : Cfg) (place : Nat) (a b : List Fate) (p : Nat) : (mixTo c place a b p).length = a.length := by simp [mixTo]
theorem mixesTo_len (c : Cfg) (place : Nat) (a b : List (List Fate)) (i p : Nat) : (mixesTo c place a b i p).length = a.length := by simp [mixesTo]
theorem mixTo_get (c : Cfg) (place : Nat) (a b : List Fate) (p q : Nat) (h : q < a.length) : (mixTo c place a b p)[q]? = some (if q < p ∧ bad c place q ∧ q < b.length then b.getD q Fate.zero else a.getD q Fate.zero) := by simp [mixTo, h]
theorem mixesTo_get (c : Cfg) (place : Nat) (a b : List (List Fate)) (i p j : Nat) (h : j < a.length) : (mixesTo c place a b i p)[j]? = some (if j < b.length then mixTo c place (a.getD j []) (b.getD j []) (if j < i then (a.getD j []).length else if j = i then p else 0) else a.getD j []) := by simp [mixesTo, h]
theorem ext_len {α : Type} {a b : List α} (n : Nat) (ha : a.length = n) (hb : b.length = n) (h : ∀ i, i < n → a[i]? = b[i]?) : a = b := by
  apply List.ext_getElem?
  intro i
  by_cases hi : i < n
  · exact h i hi
  · rw [List.getElem?_eq_none (by omega), List.getElem?_eq_none (by omega)]
theorem mixTo_zero (c : Cfg) (place : Nat) (a b : List Fate) : mixTo c place a b 0 = a := by
  refine ext_len a.length (mixTo_len ..) rfl (fun q hq => ?_)
  rw [mixTo_get _ _ _ _ _ _ hq, if_neg (by omega)]
  simp [hq]
theorem mixTo_full (c : Cfg) (place : Nat) (a b : List Fate) : mixTo c place a b a.length = mix c place a b := by
  refine ext_len a.length (mixTo_len ..) (by simp [mix]) (fun q hq => ?_)
  rw [mixTo_get _ _ _ _ _ _ hq]
  simp only [mix, List.getElem?_map, List.getElem?_range hq, Option.map_some]
  by_cases h : (c.labels.length ≤ q ∨ seen c place q = false) ∧ q < b.length
  · rw [if_pos ⟨hq, h⟩, if_pos h]
  · rw [if_neg (fun h' => h h'.2), if_neg h]
theorem mixTo_step (c : Cfg) (place : Nat) (a b : List Fate) (p : Nat) (hp : p < a.length) (hb : bad c place p) (hq : p < b.length) : mixTo c place a b (p + 1) = (mixTo c place a b p).set p (b.getD p Fate.zero) := by
  refine ext_len a.length (mixTo_len ..) (by rw [List.length_set, mixTo_len]) (fun q hql => ?_)
  rw [mixTo_get _ _ _ _ _ _ hql]
  by_cases h : q = p
  · subst h
    rw [List.getElem?_set_self (by rw [mixTo_len]; exact hp), if_pos ⟨by omega, hb, hq⟩]
  · rw [List.getElem?_set_ne (fun h' => h h'.symm), mixTo_get _ _ _ _ _ _ hql]
    congr 1
    by_cases h2 : q < p ∧ bad c place q ∧ q < b.length
    · rw [if_pos h2, if_pos ⟨by omega, h2.2⟩]
    · rw [if_neg h2, if_neg (fun h' => h2 ⟨by omega, h'.2⟩)]
theorem mixTo_skip (c : Cfg) (place : Nat) (a b : List Fate) (p : Nat) (h : ¬ (bad c place p ∧ p < b.length)) : mixTo c place a b (p + 1) = mixTo c place a b p := by
  refine ext_len a.length (mixTo_len ..) (mixTo_len ..) (fun q hql => ?_)
  rw [mixTo_get _ _ _ _ _ _ hql, mixTo_get _ _ _ _ _ _ hql]
  congr 1
  by_cases h2 : q < p ∧ bad c place q ∧ q < b.length
  · rw [if_pos h2, if_pos ⟨by omega, h2.2⟩]
  · rw [if_neg h2, if_neg (fun h' => ?_)]
    by_cases hqp : q = p
    · subst hqp; exact h h'.2
    · exact h2 ⟨by omega, h'.2⟩

theorem mixesTo_zero (c : Cfg) (place : Nat) (a b : List (List Fate)) : mixesTo c place a b 0 0 = a := by
  refine ext_len a.length (mixesTo_len ..) rfl (fun j hj => ?_)
  rw [mixesTo_get _ _ _ _ _ _ _ hj]
  have : (if j < 0 then (a.getD j []).length else if j = 0 then 0 else 0) = 0 := by rw [if_neg (by omega)]; split <;> rfl
  rw [this, mixTo_zero]
  simp [hj]
theorem mixesTo_full (c : Cfg) (place : Nat) (a b : List (List Fate)) : mixesTo c place a b a.length 0 = mixes c place a b := by
  refine ext_len a.length (mixesTo_len ..) (by simp [mixes]) (fun j hj => ?_)
  rw [mixesTo_get _ _ _ _ _ _ _ hj, if_pos hj, mixTo_full]
  simp [mixes, hj]
theorem mixesTo_next (c : Cfg) (place : Nat) (a b : List (List Fate)) (i : Nat) : mixesTo c place a b i (a.getD i []).length = mixesTo c place a b (i + 1) 0 := by
  refine ext_len a.length (mixesTo_len ..) (mixesTo_len ..) (fun j hj => ?_)
  rw [mixesTo_get _ _ _ _ _ _ _ hj, mixesTo_get _ _ _ _ _ _ _ hj]
  have : (if j < i then (a.getD j []).length else if j = i then (a.getD i []).length else 0) = (if j < i + 1 then (a.getD j []).length else if j = i + 1 then 0 else 0) := by
    by_cases h1 : j < i
    · rw [if_pos h1, if_pos (by omega)]
    · by_cases h2 : j = i
      · subst h2; rw [if_neg h1, if_pos rfl, if_pos (by omega)]
      · rw [if_neg h1, if_neg h2, if_neg (by omega)]; split <;> rfl
  rw [this]
/-- The row that is being mixed. -/
theorem mixesTo_row (c : Cfg) (place : Nat) (a b : List (List Fate)) (i p : Nat) (hi : i < a.length) : ∃ f, (mixesTo c place a b i p)[i]? = some f ∧ f.length = (a.getD i []).length ∧ (i < b.length → f = mixTo c place (a.getD i []) (b.getD i []) p) := by
  refine ⟨_, mixesTo_get _ _ _ _ _ _ _ hi, ?_, fun h => ?_⟩
  · split
    · rw [mixTo_len]
    · rfl
  · rw [if_pos h, if_neg (by omega), if_pos rfl]
theorem mixesTo_step (c : Cfg) (place : Nat) (a b : List (List Fate)) (i p : Nat) (hi : i < a.length) (hib : i < b.length) (f : List Fate) (hf : (mixesTo c place a b i p)[i]? = some f) (hp : p < (a.getD i []).length) (hb : bad c place p) (hq : p < (b.getD i []).length) :
    mixesTo c place a b i (p + 1) = (mixesTo c place a b i p).set i (f.set p ((b.getD i []).getD p Fate.zero)) := by
  obtain ⟨f', h1, h2, h3⟩ := mixesTo_row c place a b i p hi
  rw [hf] at h1
  cases h1
  rw [h3 hib, ← mixTo_step c place _ _ p hp hb hq]
  refine ext_len a.length (mixesTo_len ..) (by rw [List.length_set, mixesTo_len]) (fun j hj => ?_)
  rw [mixesTo_get _ _ _ _ _ _ _ hj]
  by_cases h : j = i
  · subst h
    rw [List.getElem?_set_self (by rw [mixesTo_len]; exact hi), if_pos hib, if_neg (by omega), if_pos rfl]
  · rw [List.getElem?_set_ne (fun h' => h h'.symm), mixesTo_get _ _ _ _ _ _ _ hj]
    have : (if j < i then (a.getD j []).length else if j = i then p + 1 else 0) = (if j < i then (a.getD j []).length else if j = i then p else 0) := by
      rw [if_neg h, if_neg h]
    rw [this]
theorem mixesTo_skip (c : Cfg) (place : Nat) (a b : List (List Fate)) (i p : Nat) (h : ¬ (bad c place p ∧ i < b.length ∧ p < (b.getD i []).length)) : mixesTo c place a b i (p + 1) = mixesTo c place a b i p := by
  refine ext_len a.length (mixesTo_len ..) (mixesTo_len ..) (fun j hj => ?_)
  rw [mixesTo_get _ _ _ _ _ _ _ hj, mixesTo_get _ _ _ _ _ _ _ hj]
  congr 1
  by_cases hjb : j < b.length
  · rw [if_pos hjb, if_pos hjb]
    by_cases hji : j = i
    · subst hji
      rw [if_neg (by omega), if_pos rfl, if_neg (by omega), if_pos rfl]
      exact mixTo_skip c place _ _ p (fun h' => h ⟨h'.1, hjb, h'.2⟩)
    · rw [if_neg hji, if_neg hji]
  · rw [if_neg hjb, if_neg hjb]
end Go.Proofs.Ytchlolgfahgdeaa.Ev
