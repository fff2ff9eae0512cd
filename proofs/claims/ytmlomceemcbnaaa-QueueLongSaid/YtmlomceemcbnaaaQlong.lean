/- QueueLong returns true at every size, every number held, every number of turns. Conditions: none. -/
import Derived.Test.YtmlomceemcbnaaaQfix
set_option linter.unusedVariables false
set_option linter.unusedSimpArgs false
namespace Go.Proofs.Ytmlomceemcbnaaa.Qlong
open Go.RowKit Go.Proofs.Ytmlomceemcbnaaa.Lib1 Go.Proofs.Ytmlomceemcbnaaa.Q Go.Proofs.Ytmlomceemcbnaaa.Qint

/-- a, a + 1, .., n of them. -/
def seq (a n : Nat) : List Value := (List.range n).map fun (j : Nat) => .int .i64 ((a : Int) + (j : Int))
theorem seq_length (a n : Nat) : (seq a n).length = n := by simp [seq]
theorem seq_snoc (a n : Nat) : seq a (n + 1) = seq a n ++ [.int .i64 ((a : Int) + (n : Int))] := by simp [seq, List.range_succ]
theorem seq_cons (a n : Nat) : seq a (n + 1) = .int .i64 (a : Int) :: seq (a + 1) n := by
  apply List.ext_getElem
  · simp [seq]
  · intro i h1 h2
    cases i with
    | zero => simp [seq]
    | succ i => simp [seq]; omega
theorem seq_enc (a n : Nat) : ∀ v, v ∈ seq a n → ∃ (x : Int), v = .int .i64 x := fun v hv => by
  obtain ⟨x, _, rfl⟩ := List.mem_map.1 hv
  exact ⟨_, rfl⟩

theorem long_out (size held turns : Int) (w : World) (h : size < 1 ∨ (¬ size < 1 ∧ 200 < size) ∨ (¬ size < 1 ∧ ¬ 200 < size ∧ held < 0) ∨ (¬ size < 1 ∧ ¬ 200 < size ∧ ¬ held < 0 ∧ size ≤ held) ∨ (¬ size < 1 ∧ ¬ 200 < size ∧ ¬ held < 0 ∧ ¬ size ≤ held ∧ turns < 0) ∨ (¬ size < 1 ∧ ¬ 200 < size ∧ ¬ held < 0 ∧ ¬ size ≤ held ∧ ¬ turns < 0 ∧ 3000 < turns)) :
    Calls Try.prog 6 #[.int .i64 size, .int .i64 held, .int .i64 turns] w fun e w' => e = .returned (.bool true) ∧ Below w.heap.size w w' := by
  rcases h with h1 | ⟨h1, h2⟩ | ⟨h1, h2, h3⟩ | ⟨h1, h2, h3, h4⟩ | ⟨h1, h2, h3, h4, h5⟩ | ⟨h1, h2, h3, h4, h5, h6⟩
  all_goals
    go_enter Try.func6, Try.ntmps6
    go_wp2_with fail
    refine (Qfix.fixed_any _).mono ?_
    rintro e w1 ⟨rfl, c1⟩
    go_wp2
    go_ret
    exact ⟨rfl, c1.below⟩

def Rel1 (w : World) (size : Int) (held : Nat) (i : Value) (wr : World) : Prop := ∃ k : Nat, k ≤ held ∧ i = .int .i64 k ∧ OwnQ w wr w.heap.size size (seq 0 k)
def Rel2 (w : World) (size : Int) (held turns : Nat) (i : Value) (wr : World) : Prop := ∃ k : Nat, k ≤ turns ∧ i = .int .i64 k ∧ OwnQ w wr w.heap.size size (seq k held)

theorem long_in (size : Int) (held turns : Nat) (w : World) (h1 : ¬ size < 1) (h2 : ¬ 200 < size) (h4 : ¬ size ≤ (held : Int)) (h6 : ¬ (3000 : Int) < turns) :
    Calls Try.prog 6 #[.int .i64 size, .int .i64 held, .int .i64 turns] w fun e w' => e = .returned (.bool true) ∧ Below w.heap.size w w' := by
  have h3 : ¬ (held : Int) < 0 := by omega
  have h5 : ¬ (turns : Int) < 0 := by omega
  go_enter Try.func6, Try.ntmps6
  go_wp2_with fail
  refine (new_ok size _ (by omega) (by omega)).mono ?_
  rintro e w1 ⟨rfl, hw1⟩
  have q1 : OwnQ w w1 w.heap.size size [] := by rw [hw1]; exact OwnQ.new (Chg.refl _ w) (by omega) (by omega)
  clear hw1
  go_wp2
  go_loopw [45] (fun i wr => Rel1 w size held i wr) (fun i _ => held - (intOf i).toNat)
  case atStart => exact ⟨0, Nat.zero_le _, rfl, q1⟩
  case round =>
    obtain ⟨k, hk, rfl, q2⟩ := hrel
    by_cases hlt : k < held
    · go_wp2_with fail
      refine (push_own (k : Int) w wr q2 (by rw [seq_length]; omega) (seq_enc _ _)).mono ?_
      rintro e w3 ⟨rfl, q3⟩
      go_wp2
      go_roundw
      case rel => exact ⟨k + 1, hlt, rfl, by rw [seq_snoc]; simpa using q3⟩
      case measure => simp [intOf]; omega
    · obtain rfl : k = held := by omega
      clear q1
      go_wp2
      go_loopw [54] (fun i wr => Rel2 w size k turns i wr) (fun i _ => turns - (intOf i).toNat)
      case atStart => exact ⟨0, Nat.zero_le _, rfl, q2⟩
      case round =>
        obtain ⟨j, hj, rfl, q4⟩ := hrel
        clear q2
        by_cases hjt : j < turns
        · go_wp2_with fail
          refine (push_own ((k : Int) + (j : Int)) w _ q4 (by rw [seq_length]; omega) (seq_enc _ _)).mono ?_
          rintro e w5 ⟨rfl, q5⟩
          rw [Int.add_comm, ← seq_snoc, seq_cons] at q5
          go_wp2_with fail
          refine (pop_own (j : Int) w _ q5).mono ?_
          rintro e w6 ⟨rfl, q6⟩
          go_wp2
          go_roundw
          case rel => exact ⟨j + 1, hjt, rfl, q6⟩
          case measure => simp [intOf]; omega
        · obtain rfl : j = turns := by omega
          go_wp2_with fail
          refine (len_own w _ q4).mono ?_
          rintro e w5 ⟨rfl, rfl⟩
          have hsl : ((seq j k).length : Int) = (k : Int) := by rw [seq_length]
          go_wp2_with fail
          refine (Qfix.fixed_any _).mono ?_
          rintro e w6 ⟨rfl, c6⟩
          go_wp2
          go_ret
          obtain ⟨l, _, _, _, c5⟩ := q4
          exact ⟨rfl, (c5.trans c6 (fun _ _ h => h.elim)).below⟩

theorem queueLong_walk (size held turns : Int) (w : World) : Calls Try.prog 6 #[.int .i64 size, .int .i64 held, .int .i64 turns] w fun e w' => e = .returned (.bool true) ∧ Below w.heap.size w w' := by
  by_cases h : 1 ≤ size ∧ size ≤ 200 ∧ 0 ≤ held ∧ held < size ∧ 0 ≤ turns ∧ turns ≤ 3000
  · obtain ⟨h1, h2, h3, h4, h5, h6⟩ := h
    obtain ⟨m, rfl⟩ := Int.eq_ofNat_of_zero_le h3
    obtain ⟨n, rfl⟩ := Int.eq_ofNat_of_zero_le h5
    exact long_in size m n w (by omega) (by omega) (by omega) (by omega)
  · exact long_out size held turns w (by omega)
end Go.Proofs.Ytmlomceemcbnaaa.Qlong
