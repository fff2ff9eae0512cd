/- queueFixed returns true, whatever the world, and turns nothing that was there. Conditions: none. -/
import Derived.Test.YtmlomceemcbnaaaQint
set_option linter.unusedVariables false
namespace Go.Proofs.Ytmlomceemcbnaaa.Qfix
open Go.RowKit Go.Proofs.Ytmlomceemcbnaaa.Lib1 Go.Proofs.Ytmlomceemcbnaaa.Q Go.Proofs.Ytmlomceemcbnaaa.Qint

theorem ints_enc (l : List Int) : ∀ v, v ∈ l.map (Value.int .i64) → ∃ (x : Int), v = .int .i64 x := fun v hv => by
  obtain ⟨x, _, rfl⟩ := List.mem_map.1 hv
  exact ⟨x, rfl⟩

theorem fixed_any (w : World) : Calls Try.prog 14 #[] w fun e w' => e = .returned (.bool true) ∧ Chg (fun _ => False) w w' := by
  go_enter Try.func14, Try.ntmps14
  go_wp2_with fail
  refine (new_ok 2 _ (by omega) (by omega)).mono ?_
  rintro e w1 ⟨rfl, hw1⟩
  have q1 : OwnQ w w1 w.heap.size 2 [] := by rw [hw1]; exact OwnQ.new (Chg.refl _ w) (by omega) (by omega)
  clear hw1
  go_wp2_with fail
  refine (push_own 7 w w1 q1 (by simp) (ints_enc [])).mono ?_
  rintro e w2 ⟨rfl, q2⟩
  go_wp2_with fail
  refine (push_own 8 w w2 q2 (by simp) (ints_enc [7])).mono ?_
  rintro e w3 ⟨rfl, q3⟩
  go_wp2_with fail
  refine (push_own_full 9 w w3 q3 (by simp)).mono ?_
  rintro e w4 ⟨rfl, q4⟩
  go_wp2_with fail
  refine (len_own w w4 q4).mono ?_
  rintro e w5 ⟨rfl, rfl⟩
  go_wp2_with fail
  refine (pop_own 7 w w4 q4).mono ?_
  rintro e w5 ⟨rfl, q5⟩
  go_wp2_with fail
  refine (first_own 8 w w5 q5).mono ?_
  rintro e w6 ⟨rfl, m, rfl⟩
  go_wp2
  go_ret
  obtain ⟨l, h1, h2, h3, h4⟩ := q5
  exact ⟨rfl, h4.drewN m⟩
end Go.Proofs.Ytmlomceemcbnaaa.Qfix
