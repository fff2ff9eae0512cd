/- The keys of a map of labels, one after the other: what has come, as a list of numbers without a double. Conditions: none. -/
import Derived.Test.YtdfplhoijapoeaaLib
import Derived.Test.YtdfplhoijapoeaaOwn
import Derived.Sort.KeysCollected
import Derived.Sort.MapsRangeIn
import Derived.RangeFuncFrom
import Derived.RangeFuncStops
import Derived.RangeFuncOne
import Derived.WalkKit
import Derived.OwnWalkIn
import Derived.TacticsInMore
import Derived.RegionIn
import Derived.LoopNIn
import Derived.LoopIn
import Derived.Shelf.AbstractIn
set_option linter.unusedVariables false
set_option linter.unusedSimpArgs false
namespace Go.Proofs.Ytdfplhoijapoeaa.Ki
open Go.RowKit Go.Maps Go.Proofs.Ytdfplhoijapoeaa.Lib1

/-- A label as a value. -/
abbrev lab : Nat → Value := fun (x : Nat) => .int .u64 (x : Int)
abbrev kl (x : Nat) : Lit := .int .u64 (x : Int)
theorem lab_inj {x y : Nat} (h : lab x = lab y) : x = y := by
  simp only [lab, Value.int.injEq, true_and] at h
  omega
theorem key_lab {P : Program} {k : TypeId} (hk : P.underlying k = some (.int .u64)) {key : Value} {l : Lit} (h : keyOf P k key = some l) : ∃ x : Nat, key = lab x ∧ l = kl x ∧ x < 18446744073709551616 := by
  cases key <;> simp [keyOf, hk, mapKey] at h
  rename_i q a
  obtain ⟨⟨rfl, hw⟩, rfl⟩ := h
  have : 0 ≤ a ∧ a < 18446744073709551616 := by
    simp [Lit.wf, IntKind.min, IntKind.max, IntKind.bits, IntKind.signed] at hw
    omega
  refine ⟨a.toNat, ?_, ?_, by omega⟩
  · simp only [lab, Value.int.injEq, true_and]; omega
  · simp only [kl, Lit.int.injEq, true_and]; omega

/-- What has come of a map's keys. -/
def Come {H : Type} (D : DataW H) (left : Lit → Bool) (ss : List Nat) : Prop := ss.Nodup ∧ ∀ x : Nat, x ∈ ss ↔ (has D (kl x) = true ∧ left (kl x) = false)
section
variable {H : Type} {D : DataW H} {left : Lit → Bool} {ss : List Nat}
theorem come_nil (D : DataW H) : Come D (has D) [] := ⟨List.nodup_nil, fun x => by cases has D (kl x) <;> simp⟩
theorem Come.one (h : Come D left ss) {x : Nat} {y : DataW H} (hl : left (kl x) = true) (hat : ∀ z, D.atKey (kl x) z = y) : Come D (fun z => left z && !z.sameKey (kl x)) (ss ++ [x]) := by
  have hh : has D (kl x) = true := has_true_of_atKey hat
  have hn : x ∉ ss := fun hx => by have := ((h.2 x).1 hx).2; rw [hl] at this; cases this
  refine ⟨?_, fun y => ?_⟩
  · rw [List.nodup_append]
    refine ⟨h.1, by simp, fun a ha b hb e => ?_⟩
    obtain rfl : b = x := by simpa using hb
    exact hn (e ▸ ha)
  · rw [List.mem_append, h.2 y]
    by_cases hy : y = x
    · subst hy; simp [hh, Lit.sameKey, kl]
    · have : ¬ (y : Int) = (x : Int) := by omega
      simp [hy, Lit.sameKey, kl, this]
theorem Come.all (h : Come D left ss) (hl : ∀ z, left z = false) : ss.Nodup ∧ ∀ x : Nat, x ∈ ss ↔ has D (kl x) = true := ⟨h.1, fun x => by rw [h.2 x, hl]; simp⟩
theorem Come.part (h : Come D left ss) : ss.Nodup ∧ ∀ x ∈ ss, has D (kl x) = true := ⟨h.1, fun x hx => ((h.2 x).1 hx).1⟩
end
end Go.Proofs.Ytdfplhoijapoeaa.Ki
