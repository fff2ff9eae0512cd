/- Sorting of at most twelve labels: slices.Sort by contract. Conditions: the row reads so. -/
import Derived.Test.YtdfplhoijapoeaaLis
set_option linter.unusedVariables false
set_option linter.unusedSimpArgs false
namespace Go.Proofs.Ytdfplhoijapoeaa.Lso
open Go.RowKit Go.Proofs.Ytdfplhoijapoeaa.Lib1 Go.Proofs.Ytdfplhoijapoeaa.Lat Go.Proofs.Ytdfplhoijapoeaa.Lbl Go.Proofs.Ytdfplhoijapoeaa.Lbw Go.Proofs.Ytdfplhoijapoeaa.Lck Go.Proofs.Ytdfplhoijapoeaa.Lmay Go.Proofs.Ytdfplhoijapoeaa.Lpl Go.Proofs.Ytdfplhoijapoeaa.Lis

set_option maxRecDepth 100000 in
theorem len64_any (n : Nat) (hn : n < 256) (w : World) : Calls Try.prog 92 #[.int .u64 (n : Int)] w fun e w' => (∃ m : Int, e = .returned (.int .i64 m)) ∧ w' = w := by
  have e1 : decide ((4294967296 : Int) ≤ (n : Int)) = false := by simp; omega
  have e2 : decide ((65536 : Int) ≤ (n : Int)) = false := by simp; omega
  have e3 : decide ((256 : Int) ≤ (n : Int)) = false := by simp; omega
  have i1 : (n : Int) < 256 := by omega
  go_enter Try.func92, Try.ntmps92
  go_wp2
  go_ret
  exact ⟨⟨_, rfl⟩, rfl⟩
theorem len_any (n : Nat) (hn : n < 256) (w : World) : Calls Try.prog 80 #[.int .u64 (n : Int)] w fun e w' => (∃ m : Int, e = .returned (.int .i64 m)) ∧ w' = w := by
  go_enter Try.func80, Try.ntmps80
  go_wp2_with fail
  refine (len64_any n hn _).mono ?_
  rintro e w' ⟨⟨m, rfl⟩, rfl⟩
  go_wp2
  go_ret
  exact ⟨⟨_, rfl⟩, rfl⟩
/-- What a sort leaves in the row. -/
def Sorted (g T : Nat) (ls : List Nat) (w : World) (w' : World) : Prop :=
  ∃ (arr' : Array Value) (cs : List Nat), w'.heap[g]? = some (.cells arr' T (0, 0)) ∧ SA arr' cs ∧ cs.length = ls.length ∧ cs.Perm ls ∧ Srt cs ls.length ∧ Chg (fun q => q = g) w w'
set_option maxRecDepth 100000 in
set_option maxHeartbeats 1600000 in
theorem pdq_small {w : World} {g T c : Nat} {arr : Array Value} (ls : List Nat) (m : Int) (hb : w.heap[g]? = some (.cells arr T (0, 0))) (ha : SA arr ls) (hn : ls.length ≤ 12) :
    Calls Try.prog 79 #[.slice (some ⟨g, 0, none⟩) ls.length c, .int .i64 0, .int .i64 ls.length, .int .i64 m] w fun e w' => e = .returned (.tuple #[]) ∧ Sorted g T ls w w' := by
  have HI := Lib.hid (ins_any (c := c) ls hb ha (by omega))
  have e1 : decide ((ls.length : Int) ≤ 12) = true := by simp; omega
  clear hb ha
  go_enter Try.func79, Try.ntmps79
  go_wp2
  refine wp_loop_once ?_
  go_wp2_with fail
  refine HI.out.mono ?_
  rintro e w' ⟨rfl, hs⟩
  have HS : Hid (Sorted g T ls w w') := hs
  clear hs
  go_wp2
  exact bodyPost_ret (v := .tuple #[]) (by simp [results, Try.results79, go_sem]) rfl ⟨rfl, HS.out⟩
set_option maxRecDepth 100000 in
theorem sort_small {w : World} {g T c : Nat} {arr : Array Value} (ls : List Nat) (hb : w.heap[g]? = some (.cells arr T (0, 0))) (ha : SA arr ls) (hn : ls.length ≤ 12) :
    Calls Try.prog 73 #[.slice (some ⟨g, 0, none⟩) ls.length c] w fun e w' => e = .returned (.tuple #[]) ∧ Sorted g T ls w w' := by
  have HP : Hid (∀ m : Int, Calls Try.prog 79 #[.slice (some ⟨g, 0, none⟩) ls.length c, .int .i64 0, .int .i64 ls.length, .int .i64 m] w fun e w' => e = .returned (.tuple #[]) ∧ Sorted g T ls w w') := fun m => pdq_small ls m hb ha hn
  clear hb ha
  go_enter Try.func73, Try.ntmps73
  go_wp2_with fail
  refine (len_any ls.length (by omega) _).mono ?_
  rintro e w' ⟨⟨m, rfl⟩, rfl⟩
  go_wp2_with fail
  refine (HP.out m).mono ?_
  rintro e w2 ⟨rfl, hs⟩
  have HS : Hid (Sorted g T ls w' w2) := hs
  clear hs
  go_wp2
  go_end0
  exact ⟨rfl, HS.out⟩
end Go.Proofs.Ytdfplhoijapoeaa.Lso
