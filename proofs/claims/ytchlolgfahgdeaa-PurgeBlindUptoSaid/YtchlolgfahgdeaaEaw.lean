/- What awake lays: a square, asks. Conditions: none. -/
import Derived.Test.YtchlolgfahgdeaaEn
set_option linter.unusedVariables false
set_option linter.unusedSimpArgs false
namespace Go.Proofs.Ytchlolgfahgdeaa.Eaw
open Go.RowKit Go.Proofs.Ytchlolgfahgdeaa.Lib1 Go.Proofs.Ytchlolgfahgdeaa.Rel Go.Proofs.Ytchlolgfahgdeaa.Own Go.Proofs.Ytchlolgfahgdeaa.Ev Go.Proofs.Ytchlolgfahgdeaa.Ek Go.Proofs.Ytchlolgfahgdeaa.Ec Go.Proofs.Ytchlolgfahgdeaa.Em Go.Proofs.Ytchlolgfahgdeaa.En Go.Proofs.Ytchlolgfahgdeaa.Lat Go.Proofs.Ytchlolgfahgdeaa.Lbl Go.Proofs.Ytchlolgfahgdeaa.Lbw Go.Proofs.Ytchlolgfahgdeaa.Lck Go.Proofs.Ytchlolgfahgdeaa.Lmay

def askE (s : Int) : Ev := ⟨1, s, { Req.zero with kind := 1 }, 0, []⟩
theorem ask_any (s : Int) (w : World) : Calls Try.prog 34 #[.int .i64 s] w fun e w' => e = .returned (.agg (evCs (askE s) (.slice none 0 0) (.slice none 0 0)).toArray) ∧ Chg (fun _ => False) w w' := by
  go_enter Try.func34, Try.ntmps34
  go_wp2
  refine bodyPost_ret (v := .agg #[.int .i64 1, .int .i64 s, .int .i64 1, .int .i64 0, .int .i64 0, .int .i64 0, .string ⟨#[]⟩, .string ⟨#[]⟩, .slice none 0 0, .int .i64 0, .int .i64 0, .slice none 0 0]) (by simp [results, Try.results34, go_sem]) rfl ⟨rfl, ?_⟩
  repeat (first | refine Chg.set ?_ (.inl (by omega)) | refine Chg.drew ?_ | refine Chg.drewN ?_ _ | refine Chg.alloc ?_ _)
  exact Chg.refl _ _

def squareC : Cfg := ⟨[0, 1, 2, 3], [Acc.zero, Acc.zero, Acc.zero, Acc.zero], [0, 1, 2, 3]⟩
def accZ : List Value := acs [Acc.zero, Acc.zero, Acc.zero, Acc.zero]
theorem made_acc : madeCells (Value.agg #[.int .i64 0, .int .i64 0, .int .i64 0, .int .i64 0, .int .i64 0]).cells (4 * 5) = accZ.toArray := by kernel_rfl
set_option maxRecDepth 100000 in
theorem info_account : (Try.prog.info? 87).map (fun i => (i.zero, i.size, i.bytes)) = some (some (.agg #[.int .i64 0, .int .i64 0, .int .i64 0, .int .i64 0, .int .i64 0]), 5, 40) := by kernel_rfl
set_option maxRecDepth 100000 in
theorem make_acc (W : World) : (Instr.makeSlice 24 (.int .i64 4) (.int .i64 4)).run Try.prog W = .ok (.slice (some ⟨W.heap.size, 0, none⟩) 4 4) (W.alloc (.cells accZ.toArray 87)) := by
  obtain ⟨i0, hi, hz0, hz1, hz2⟩ := info_parts info_account
  have hb : (i0.bytes : Int) * (4 : Nat) ≤ 281474976710656 := by rw [hz2]; decide
  have hr := run_make (P := Try.prog) W 24 87 i0 _ Try.underlying24 hi hz0 .i64 .i64 4 4 (by omega) (by omega) hb (by omega)
  rw [hz1] at hr
  rw [← made_acc]
  exact hr
/-- A slice that fills a block. -/
theorem rd_block {ok : Nat → Prop} {w : World} {b n T sz : Nat} {l : List Value} (hb : w.heap[b]? = some (.cells l.toArray T (0, 0))) (ho : ok b) (hl : l.length = n * sz) : Rd ok w (some ⟨b, 0, none⟩) n n sz l := by
  refine ⟨hl, Nat.le_refl _, (fun h => nomatch h), fun _ => ⟨b, 0, rfl, ho, fun i v hv => ?_⟩⟩
  have := cell_at hb i (by simpa using hv)
  simpa using this
theorem square_at (w : World) (X : Obj) (T1 T2 T3 : TypeId) :
    CfgAt (fun k => w.heap.size ≤ k ∧ k < ((((w.alloc X).alloc (.cells #[.int .u64 0, .int .u64 1, .int .u64 2, .int .u64 3] T1)).alloc (.cells accZ.toArray T2)).alloc (.cells #[.int .i64 0, .int .i64 1, .int .i64 2, .int .i64 3] T3)).heap.size)
      ((((w.alloc X).alloc (.cells #[.int .u64 0, .int .u64 1, .int .u64 2, .int .u64 3] T1)).alloc (.cells accZ.toArray T2)).alloc (.cells #[.int .i64 0, .int .i64 1, .int .i64 2, .int .i64 3] T3)) (some ⟨w.heap.size + 1, 0, none⟩) (some ⟨w.heap.size + 1 + 1, 0, none⟩) (some ⟨w.heap.size + 1 + 1 + 1, 0, none⟩) 4 4 4 4 4 4 squareC := by
  have s1 : (w.alloc X).heap.size = w.heap.size + 1 := by simp
  have s2 : ((w.alloc X).alloc (.cells #[.int .u64 0, .int .u64 1, .int .u64 2, .int .u64 3] T1)).heap.size = w.heap.size + 1 + 1 := by simp
  have s3 : (((w.alloc X).alloc (.cells #[.int .u64 0, .int .u64 1, .int .u64 2, .int .u64 3] T1)).alloc (.cells accZ.toArray T2)).heap.size = w.heap.size + 1 + 1 + 1 := by simp
  refine ⟨rfl, rfl, rfl, rd_block (T := T1) (by rw [← s1]; exact heap_old _ (heap_old _ (heap_new _ _))) ⟨by omega, by simp⟩ rfl, rd_block (T := T2) (by rw [← s2]; exact heap_old _ (heap_new _ _)) ⟨by omega, by simp⟩ rfl, rd_block (T := T3) (by rw [← s3]; exact heap_new _ _) ⟨by omega, by simp⟩ rfl, ?_, by omega, by omega, by omega⟩
  intro x hx
  simp [squareC] at hx
  omega
set_option maxRecDepth 100000 in
theorem square_any (w : World) : Calls Try.prog 33 #[] w fun e w' => ∃ A1 A2 A3, e = .returned (.agg #[.slice A1 4 4, .slice A2 4 4, .slice A3 4 4]) ∧ CfgAt (fun k => w.heap.size ≤ k ∧ k < w'.heap.size) w' A1 A2 A3 4 4 4 4 4 4 squareC ∧ Chg (fun _ => False) w w' := by
  have hmk := make_acc
  go_enter Try.func33, Try.ntmps33
  go_wp2
  refine bodyPost_ret (v := .agg #[.slice (some ⟨w.heap.size + 1, 0, none⟩) 4 4, .slice (some ⟨w.heap.size + 1 + 1, 0, none⟩) 4 4, .slice (some ⟨w.heap.size + 1 + 1 + 1, 0, none⟩) 4 4]) (by simp [results, Try.results33, go_sem]) rfl ⟨_, _, _, rfl, square_at _ _ _ _ _, ?_⟩
  exact ((((Chg.refl _ w).alloc _).alloc _).alloc _).alloc _
theorem square_fits : cfgFits squareC := by unfold cfgFits squareC; simp
end Go.Proofs.Ytchlolgfahgdeaa.Eaw
