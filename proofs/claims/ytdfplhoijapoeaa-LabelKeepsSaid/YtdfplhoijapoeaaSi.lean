/- slices.Sort of labels, of every length, in the words of few labels' contract. Conditions: the row reads so. -/
import Derived.Test.YtdfplhoijapoeaaSh
import Derived.Test.YtdfplhoijapoeaaLso
set_option linter.unusedVariables false
set_option linter.unusedSimpArgs false
namespace Go.Proofs.Ytdfplhoijapoeaa.Lsi2
open Go.RowKit Go.Sort Go.Proofs.Ytdfplhoijapoeaa.Lib1 Go.Proofs.Ytdfplhoijapoeaa.Lis Go.Proofs.Ytdfplhoijapoeaa.Lso Go.Proofs.Ytdfplhoijapoeaa.Lq

def zs (ls : List Nat) : List Int := ls.map fun (x : Nat) => (x : Int)
theorem zs_get (ls : List Nat) (j : Nat) (h : j < ls.length) : (zs ls).toArray[j]! = ((ls.getD j 0 : Nat) : Int) := by
  rw [getElem!_pos _ _ (by simpa [zs] using h)]
  simp [zs, List.getD_eq_getElem?_getD, List.getElem?_eq_getElem h]
def nat (x : Int) : Nat := x.toNat
/-- The row sorted, as numbers. -/
def srt (ls : List Nat) : List Nat := ((zs ls).mergeSort fun x y => decide (x ≤ y)).map Int.toNat
theorem srt_perm (ls : List Nat) : (srt ls).Perm ls := by
  have h1 : ((zs ls).mergeSort fun x y => decide (x ≤ y)).Perm (zs ls) := List.mergeSort_perm _ _
  have h2 := h1.map Int.toNat
  have : (zs ls).map Int.toNat = ls := by simp [zs, List.map_map, Function.comp_def]
  rw [this] at h2
  exact h2
theorem srt_len (ls : List Nat) : (srt ls).length = ls.length := (srt_perm ls).length_eq
theorem ms_nn (ls : List Nat) : ∀ x ∈ (zs ls).mergeSort (fun x y => decide (x ≤ y)), 0 ≤ x := fun x hx => by
  have := (List.mergeSort_perm (zs ls) (fun x y => decide (x ≤ y))).mem_iff.1 hx
  simp only [zs, List.mem_map] at this
  obtain ⟨a, _, rfl⟩ := this
  omega
theorem srt_get (ls : List Nat) (j : Nat) (h : j < ls.length) : ((zs ls).mergeSort fun x y => decide (x ≤ y)).toArray[j]! = (((srt ls).getD j 0 : Nat) : Int) := by
  have hl : j < ((zs ls).mergeSort fun x y => decide (x ≤ y)).length := by rw [List.length_mergeSort]; simpa [zs] using h
  rw [getElem!_pos _ _ (by simpa using hl)]
  have hm := ms_nn ls _ (List.getElem_mem hl)
  simp only [srt, List.getD_eq_getElem?_getD, List.getElem?_map, List.getElem?_eq_getElem hl, Option.map_some, Option.getD_some, List.getElem_toArray]
  omega
theorem srt_sorted (ls : List Nat) : Srt (srt ls) ls.length := fun p q hpq hq => by
  have hs : ((zs ls).mergeSort fun x y => decide (x ≤ y)).Pairwise (fun x y => decide (x ≤ y) = true) :=
    List.pairwise_mergeSort (fun a b c h1 h2 => by simp only [decide_eq_true_eq] at *; omega) (fun a b => by simp only [Bool.or_eq_true, decide_eq_true_eq]; omega) _
  have hl : ((zs ls).mergeSort fun x y => decide (x ≤ y)).length = ls.length := by rw [List.length_mergeSort]; simp [zs]
  rw [List.pairwise_iff_getElem] at hs
  have := hs p q (by omega) (by omega) hpq
  simp only [decide_eq_true_eq] at this
  have e1 := srt_get ls p (by omega)
  have e2 := srt_get ls q (by omega)
  rw [getElem!_pos _ _ (by simp only [List.size_toArray]; omega)] at e1 e2
  simp only [List.getElem_toArray] at e1 e2
  omega
theorem putCells_get (d : Array Int) (c : Array Value) (k : Nat) : (putCells encU 0 d c)[k]? = if k < d.size then (if k < c.size then some (encU d[k]!) else none) else c[k]? := by
  simp only [putCells, Array.getElem?_mapIdx, Nat.zero_le, true_and, Nat.zero_add, Nat.sub_zero]
  by_cases h : k < d.size
  · simp only [h, if_true]
    by_cases h2 : k < c.size
    · simp [h2]
    · simp [h2, Array.getElem?_eq_none (Nat.le_of_not_lt h2)]
  · simp only [h, if_false]
    cases c[k]? <;> rfl
theorem sort_full {w : World} {g T c : Nat} {arr : Array Value} (ls : List Nat) (hb : w.heap[g]? = some (.cells arr T (0, 0))) (ha : SA arr ls) (hn : ls.length < 4611686018427387904) :
    Calls Try.prog 73 #[.slice (some ⟨g, 0, none⟩) ls.length c] w fun e w' => e = .returned (.tuple #[]) ∧ ∃ (arr' : Array Value) (cs : List Nat), w'.heap[g]? = some (.cells arr' T (0, 0)) ∧ SA arr' cs ∧ cs.length = ls.length ∧ cs.Perm ls ∧ Srt cs ls.length ∧ Chg (fun q => q = g) w w' ∧ arr'.size = arr.size := by
  have hH : Holds encU w g 0 (zs ls).toArray := fun j hj => by
    have hj' : j < ls.length := by simpa [zs] using hj
    rw [Nat.zero_add]
    exact ⟨by rw [zs_get ls j hj']; exact cell_at hb j (ha j hj'), free_at hb j⟩
  have hg := lt_of w hb
  have h := slices_Sort_u g 0 c (zs ls) w hH hg (by simpa [zs] using hn)
  rw [show (zs ls).length = ls.length by simp [zs]] at h
  refine h.mono ?_
  rintro e w' ⟨rfl, n, os, rfl⟩
  refine ⟨rfl, putCells encU 0 ((zs ls).mergeSort fun x y => decide (x ≤ y)).toArray arr, srt ls, ?_, ?_, srt_len ls, srt_perm ls, srt_sorted ls, ?_, by simp [putCells]⟩
  · have hlt : g < (putRow encU (Sort.ahead w n) g 0 ((zs ls).mergeSort fun x y => decide (x ≤ y)).toArray).heap.size := by simpa using hg
    rw [heap_grow_old _ _ hlt]
    show (w.heap.modify g _)[g]? = _
    rw [Array.getElem?_modify, if_pos rfl, hb]
    rfl
  · intro q hq
    rw [srt_len] at hq
    rw [putCells_get, if_pos (by simpa [zs] using hq), srt_get ls q hq, if_pos]
    have := ha q hq
    exact (Array.getElem?_eq_some_iff.1 this).1
  · refine ⟨rfl, rfl, rfl, by simp, fun k hk hne => ?_⟩
    rw [heap_grow_old _ _ (by simpa using hk)]
    show (w.heap.modify g _)[k]? = _
    rw [Array.getElem?_modify, if_neg (fun e => hne e.symm)]

theorem sort_all {w : World} {g T c : Nat} {arr : Array Value} (ls : List Nat) (hb : w.heap[g]? = some (.cells arr T (0, 0))) (ha : SA arr ls) (hn : ls.length < 4611686018427387904) :
    Calls Try.prog 73 #[.slice (some ⟨g, 0, none⟩) ls.length c] w fun e w' => e = .returned (.tuple #[]) ∧ Sorted g T ls w w' :=
  (sort_full ls hb ha hn).mono (fun e w' ⟨h, arr', cs, h1, h2, h3, h4, h5, h6, _⟩ => ⟨h, arr', cs, h1, h2, h3, h4, h5, h6⟩)

theorem ins_nil (p : Option Addr) (cap : Nat) (w : World) :
    Calls Try.prog 82 #[.slice p 0 cap, .int .i64 0, .int .i64 0] w fun e w' => e = .returned (.tuple #[]) ∧ w' = w := by
  go_enter Try.func82, Try.ntmps82
  go_wp2
  refine wp_loop_rounds 1 ?_
  rw [rounds_succ]
  go_wp2
  go_end0
  exact ⟨rfl, rfl⟩
set_option maxRecDepth 100000 in
theorem pdq_nil (p : Option Addr) (cap : Nat) (w : World) :
    Calls Try.prog 79 #[.slice p 0 cap, .int .i64 0, .int .i64 0, .int .i64 0] w fun e w' => e = .returned (.tuple #[]) ∧ w' = w := by
  go_enter Try.func79, Try.ntmps79
  go_wp2
  refine wp_loop_rounds 1 ?_
  rw [rounds_succ]
  go_wp2_with (first | (go_at_call 82; refine (ins_nil p cap _).mono ?_; rintro e w' ⟨rfl, rfl⟩))
  refine bodyPost_ret (results_none rfl _ _ _) rfl ?_
  exact ⟨rfl, rfl⟩
set_option maxRecDepth 100000 in
theorem sort_nil (p : Option Addr) (cap : Nat) (w : World) :
    Calls Try.prog 73 #[.slice p 0 cap] w fun e w' => e = .returned (.tuple #[]) ∧ w' = w := by
  have hLen : ∀ w, Calls Try.prog 80 #[.int .u64 0] w fun e w' => e = .returned (.int .i64 0) ∧ w' = w := fun w => bits_Len 0 w (by omega) (by omega)
  go_enter Try.func73, Try.ntmps73
  go_wp2_with (first
    | (go_at_call 80; refine (hLen _).mono ?_; rintro e w' ⟨rfl, rfl⟩)
    | (go_at_call 79; refine (pdq_nil p cap _).mono ?_; rintro e w' ⟨rfl, rfl⟩))
  go_end0
  exact ⟨rfl, rfl⟩
end Go.Proofs.Ytdfplhoijapoeaa.Lsi2
