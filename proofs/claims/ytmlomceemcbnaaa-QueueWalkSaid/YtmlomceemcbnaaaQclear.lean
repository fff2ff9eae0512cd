/- The queue's Clear at strings. Conditions: a queue as IsQ tells it, or none. -/
import Derived.Test.YtmlomceemcbnaaaQstr
set_option linter.unusedVariables false
set_option linter.unusedSimpArgs false
namespace Go.Proofs.Ytmlomceemcbnaaa.Qstr
open Go.RowKit Go.Proofs.Ytmlomceemcbnaaa.Lib1 Go.Proofs.Ytmlomceemcbnaaa.Q

theorem clear_nil (w : World) : Calls Try.prog 51 #[.pointer none] w fun e w' => e = .returned (.tuple #[]) ∧ w = w' := by
  go_enter Try.func51, Try.ntmps51
  go_wp2
  go_end0
  exact ⟨rfl, rfl⟩
theorem clear_any {b : Nat} {l : Option Nat} {most : Int} {xs : List Value} (w : World) (h : IsQ QT ET w b l most xs) :
    Calls Try.prog 51 #[.pointer (some ⟨b, 0, none⟩)] w fun e w' => e = .returned (.tuple #[]) ∧ IsQ QT ET w' b none most [] ∧ Chg (fun k => k = b) w w' := by
  have hm := h.len_le
  obtain ⟨c1, c2, c3, hb⟩ : ∃ c1 c2 c3, w.heap[b]? = some (.cells #[.int .i64 most, c1, c2, c3] QT (0, 0)) := by
    rcases h with ⟨_, _, _, _, h⟩ | ⟨g, n, first, arr, _, h⟩
    · exact ⟨_, _, _, h⟩
    · exact ⟨_, _, _, h.hb⟩
  have q0 := cell_at hb 0 rfl
  have q1 := cell_at hb 1 rfl
  have q2 := cell_at hb 2 rfl
  have q3 := cell_at hb 3 rfl
  have f0 := free_at hb
  clear h
  go_enter Try.func51, Try.ntmps51
  go_wp2
  go_end0
  have b1 := heap_set hb 0 (.int .i64 most)
  have b2 := heap_set b1 1 (.slice none 0 0)
  have b3 := heap_set b2 2 (.int .i64 0)
  have b4 := heap_set b3 3 (.int .i64 0)
  exact ⟨rfl, .inl ⟨rfl, rfl, hm.1, hm.2.1, by rw [b4]; simp⟩, ((((Chg.refl (fun k => k = b) w).set (.inr rfl)).set (.inr rfl)).set (.inr rfl)).set (.inr rfl)⟩
end Go.Proofs.Ytmlomceemcbnaaa.Qstr
