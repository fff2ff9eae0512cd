/- QueueNew returns true at every size. Conditions: none. -/
import Derived.Test.YtmlomceemcbnaaaQfix
import Derived.Test.YtmlomceemcbnaaaQstr
import Derived.Test.YtmlomceemcbnaaaQref
set_option linter.unusedVariables false
set_option linter.unusedSimpArgs false
namespace Go.Proofs.Ytmlomceemcbnaaa.Qnew
open Go.RowKit Go.Proofs.Ytmlomceemcbnaaa.Lib1 Go.Proofs.Ytmlomceemcbnaaa.Q

theorem walk_low (most : Int) (w : World) (h : most < 0) : Calls Try.prog 4 #[.int .i64 most] w fun e w' => e = .returned (.bool true) ∧ Below w.heap.size w w' := by
  go_enter Try.func4, Try.ntmps4
  go_wp2_with fail
  refine (Qref.new_low most _ h).mono ?_
  rintro e w1 ⟨rfl, c1⟩
  go_wp2_with fail
  refine (Qstr.new_low most _ h).mono ?_
  rintro e w2 ⟨rfl, rfl⟩
  go_wp2_with fail
  refine (Qfix.fixed_any _).mono ?_
  rintro e w3 ⟨rfl, c3⟩
  go_wp2
  go_ret
  exact ⟨rfl, ((c1.alloc _).trans c3 (fun _ _ h => h.elim)).below⟩
theorem walk_high (most : Int) (w : World) (h0 : 0 ≤ most) (h : 65536 < most) : Calls Try.prog 4 #[.int .i64 most] w fun e w' => e = .returned (.bool true) ∧ Below w.heap.size w w' := by
  go_enter Try.func4, Try.ntmps4
  go_wp2_with fail
  refine (Qref.new_high most _ h0 h).mono ?_
  rintro e w1 ⟨rfl, c1⟩
  go_wp2_with fail
  refine (Qstr.new_high most _ h0 h).mono ?_
  rintro e w2 ⟨rfl, rfl⟩
  go_wp2_with fail
  refine (Qfix.fixed_any _).mono ?_
  rintro e w3 ⟨rfl, c3⟩
  go_wp2
  go_ret
  exact ⟨rfl, ((c1.alloc _).trans c3 (fun _ _ h => h.elim)).below⟩
theorem keep {w0 w w' : World} {b : Nat} {most : Int} {xs : List Value} (h : Qstr.OwnQ w0 w b most xs) (c : Chg (fun _ => False) w w') : Qstr.OwnQ w0 w' b most xs := by
  obtain ⟨l, h1, h2, h3, h4⟩ := h
  exact ⟨l, h1.kept c (fun h => h) (fun _ _ h => h), h2, h3, h4.trans c (fun _ _ h => h.elim)⟩
theorem own_new {w w1 : World} {most : Int} {o : Obj} (c : Chg (fun _ => False) w w1) (h0 : 0 ≤ most) (h1 : most ≤ 65536) :
    Qstr.OwnQ (w1.alloc o) ((w1.alloc o).alloc (.cells #[.int .i64 most, .slice none 0 0, .int .i64 0, .int .i64 0] Qstr.QT)) (w1.heap.size + 1) most [] := by
  have := Qstr.OwnQ.new (w0 := w1.alloc o) (Chg.refl _ (w1.alloc o)) h0 h1
  rwa [World.size_alloc] at this

theorem walk_ok (most : Int) (w : World) (h0 : 0 ≤ most) (h : most ≤ 65536) : Calls Try.prog 4 #[.int .i64 most] w fun e w' => e = .returned (.bool true) ∧ Below w.heap.size w w' := by
  go_enter Try.func4, Try.ntmps4
  go_wp2_with fail
  refine (Qref.new_ok most _ h0 h).mono ?_
  rintro e w1 ⟨rfl, c1⟩
  go_wp2_with fail
  refine (Qstr.new_ok most _ h0 h).mono ?_
  rintro e w2 ⟨rfl, hw2⟩
  have q2 : Qstr.OwnQ (w1.alloc (.cells #[.int .i64 most, .slice none 0 0] 25)) w2 (w1.heap.size + 1) most [] := by rw [hw2]; exact own_new c1 h0 h
  have b2 : w2.heap[w1.heap.size]? = some (.cells #[.int .i64 most, .slice none 0 0] 25 (0, 0)) := by rw [hw2]; exact heap_old _ (heap_new w1 _)
  have c2 : Chg (fun _ => False) w w2 := by rw [hw2]; exact (c1.alloc _).alloc _
  clear hw2
  go_wp2_with fail
  refine (Qfix.fixed_any _).mono ?_
  rintro e w3 ⟨rfl, c3⟩
  have q3 := keep q2 c3
  have b3 := c3.at_ b2 (fun h => h)
  have c4 := c2.trans c3 (fun _ _ h => h.elim)
  have k0 := cell_at b3 0 rfl
  have k1 := cell_at b3 1 rfl
  clear q2 b2 c2 c3 b3
  by_cases hz : most = 0
  · subst hz
    go_wp2_with fail
    refine (Qref.push_full 0 _ 0 [] _ w3 0 (World.ownsRow_nil _ _ _ _) (by simp)).mono ?_
    rintro e w5 ⟨rfl, c5⟩
    have q5 := keep q3 c5
    go_wp2_with fail
    refine (Qstr.push_own_full _ _ w5 q5 (by simp)).mono ?_
    rintro e w6 ⟨rfl, q6⟩
    go_wp2_with fail
    refine (Qstr.len_own _ w6 q6).mono ?_
    rintro e w7 ⟨rfl, rfl⟩
    go_wp2
    go_ret
    obtain ⟨l, _, _, _, c6⟩ := q6
    exact ⟨rfl, ((c1.alloc _).trans c6 (fun _ _ h => h.elim)).below⟩
  · have hne : ((0 : Int) == most) = false := by rw [beq_eq_false_iff_ne]; omega
    go_wp2_with fail
    refine (Qref.push_room most _ 0 [] _ w3 0 (World.ownsRow_nil _ _ _ _) hne (by simp) (by omega)).mono ?_
    rintro e w5 ⟨v5, rfl, o5, c5⟩
    have q5 := keep q3 c5
    clear o5
    go_wp2_with fail
    refine (Qstr.push_own _ _ w5 q5 (by simp; omega) (by simp)).mono ?_
    rintro e w6 ⟨rfl, q6⟩
    go_wp2_with fail
    refine (Qstr.len_own _ w6 q6).mono ?_
    rintro e w7 ⟨rfl, rfl⟩
    go_wp2
    go_ret
    obtain ⟨l, _, _, _, c6⟩ := q6
    exact ⟨rfl, ((c1.alloc _).trans c6 (fun _ _ h => h.elim)).below⟩

theorem queueNew_walk (most : Int) (w : World) : Calls Try.prog 4 #[.int .i64 most] w fun e w' => e = .returned (.bool true) ∧ Below w.heap.size w w' := by
  by_cases h0 : most < 0
  · exact walk_low most w h0
  · by_cases h1 : 65536 < most
    · exact walk_high most w (by omega) h1
    · exact walk_ok most w (by omega) (by omega)
end Go.Proofs.Ytmlomceemcbnaaa.Qnew
