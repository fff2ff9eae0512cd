/- slices.Equal at lists of string that read alike. Conditions: both read. -/
import Derived.Test.YtmlomceemcbnaaaQstr
set_option linter.unusedVariables false
set_option linter.unusedSimpArgs false
namespace Go.Proofs.Ytmlomceemcbnaaa.Qstr
open Go.RowKit Go.Proofs.Ytmlomceemcbnaaa.Lib1 Go.Proofs.Ytmlomceemcbnaaa.Q

def EqRel (w : World) (n : Nat) (i : Value) (wr : World) : Prop := ∃ k : Nat, k ≤ n ∧ i = .int .i64 k ∧ ∃ m, wr = w.drewN m

set_option maxRecDepth 100000 in
theorem equal_same (n : Nat) (hn : n ≤ 140737488355328) (A B : Option Addr) (c c' : Nat) (xs : List (ByteArray)) (w : World) (ok ok' : Nat → Prop) (h1 : Rd ok w A n c 1 (xs.map fun x => .string x)) (h2 : Rd ok' w B n c' 1 (xs.map fun x => .string x)) :
    Calls Try.prog 35 #[.slice A n c, .slice B n c'] w fun e w' => e = .returned (.bool true) ∧ ∃ m, w' = w.drewN m := by
  have hl : xs.length = n := by simpa using h1.len
  go_enter Try.func35, Try.ntmps35
  go_wp2
  go_loopw [13] (fun v wr => EqRel w n v wr) (fun v _ => n - (intOf v).toNat)
  case atStart => exact ⟨0, Nat.zero_le _, rfl, 0, rfl⟩
  case round =>
    obtain ⟨k, hk, rfl, m, rfl⟩ := hrel
    by_cases hlt : k < n
    · obtain ⟨g, off, rfl, -, hc⟩ := h1.at_ (by omega)
      obtain ⟨g', off', rfl, -, hc'⟩ := h2.at_ (by omega)
      obtain ⟨x, hx⟩ : ∃ x, xs[k]? = some x := ⟨xs[k], List.getElem?_eq_getElem (by omega)⟩
      have a1 : w.cell? ⟨g, off + k, none⟩ = some (.string x) := hc k _ (by simp [hx])
      have a2 : w.cell? ⟨g', off' + k, none⟩ = some (.string x) := hc' k _ (by simp [hx])
      have a3 : ∀ m, (w.drewN m).cell? ⟨g, off + k, none⟩ = some (.string x) := fun m => a1
      have a4 : ∀ m, (w.drewN m).cell? ⟨g', off' + k, none⟩ = some (.string x) := fun m => a2
      clear hc hc' h1 h2 hx
      go_wp2
      go_quiet (fail)
      go_wp2
      go_roundw
      case rel => exact ⟨k + 1, hlt, rfl, _, rfl⟩
      case measure => simp [intOf]; omega
    · obtain rfl : k = n := by omega
      clear h1 h2
      go_wp2
      go_ret
      exact ⟨rfl, _, rfl⟩
end Go.Proofs.Ytmlomceemcbnaaa.Qstr
