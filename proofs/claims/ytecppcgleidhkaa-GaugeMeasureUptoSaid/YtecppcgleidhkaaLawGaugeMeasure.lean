/- The law GaugeMeasure: whatever the input, true; each argument reads as before. Conditions: what is read is of bulk at most 1048576. -/
import Derived.Test.YtecppcgleidhkaaRows
import Derived.Test.YtecppcgleidhkaaGc
import Derived.WalkKit
import Derived.ProofKit
import Derived.OpenShut
import Derived.ShutString
import Derived.ChangeOld
import Derived.Below
import Derived.SizedLaws
import Derived.JoinedCond
import Derived.Deep.CondSized
set_option linter.unusedVariables false
namespace Go.Proofs.Ytecppcgleidhkaa.gaugeMeasureRow
open Go.ChangeShapes Go.WideShapes Go.ChangeAt Go.RowKit
open Go.ChangeMaps (open_string shut_string)
theorem own : ownKnob Try.prog.godebug = none := by kernel_rfl
theorem laidOut : laidOutB Try.prog = true := by kernel_rfl
theorem slice_bulk {H : Type} {enc : TypeId × Value → H} {W : World} {t e : TypeId} {A : Option Addr} {n c : Nat} {dd : DataW H} {ps : List MemPlace} (ht : Try.prog.underlying t = some (.slice e)) (h : DataW.Trod enc Try.prog W 0 (fun _ => true) true t (.slice A n c) dd ps) : n ≤ Rows.uptoBulk dd := by
  have all_le : ∀ (l : List (DataW H)), l.length ≤ Rows.uptoBulkAll l := by
    intro l
    induction l with
    | nil => simp [Rows.uptoBulkAll]
    | cons x r ih =>
      have : 1 ≤ Rows.uptoBulk x := by cases x with
        | lit l => cases l <;> simp [Rows.uptoBulk]
        | _ => simp [Rows.uptoBulk]
      simp only [Rows.uptoBulkAll, List.length_cons]; omega
  obtain ⟨fuel, hf⟩ := h
  generalize hcs : (Value.slice A n c).cells.toList = cs at hf
  generalize hx : (dd, ps) = x at hf
  rcases DataW.trod_slice ht hf with ⟨rfl, rfl⟩ | ⟨a, len, cap, elems, rest, m, rfl, rfl, rfl, _, hle, _, hlen, hel, _, _⟩
  · simp [Value.cells] at hcs; omega
  · simp only [Value.cells, List.cons.injEq, Value.slice.injEq, and_true] at hcs
    obtain ⟨_, rfl, _⟩ := hcs
    simp only [Prod.mk.injEq] at hx
    obtain ⟨rfl, _⟩ := hx
    have := all_le (elems.map (·.1))
    simp only [Rows.uptoBulk, List.length_map] at *
    omega
set_option maxRecDepth 100000 in
theorem lifted (os : Os) (started : os.Started) (H : Type) (enc : TypeId × Value → H) (F : Stop.Interp) :
    ReturnsInHanded {} Try.checked os 6 .any ((Rows.OpenSpec.upto Rows.gaugeMeasureSpec).pre6 enc Try.prog Try.f6 Rows.gaugeMeasureUptoRow.domain false) (((Rows.OpenSpec.upto Rows.gaugeMeasureSpec).at F).post enc Try.prog Try.f6 false true false false) := by
  refine returnsInHanded_of_cond_sized (C := Try.checked) (s := (Rows.OpenSpec.upto Rows.gaugeMeasureSpec)) (k := Rows.uptoSmall) rfl own started (by kernel_rfl) Try.func6
    (OpenSpec.witness (enc := enc) (C := Try.checked) (s := (Rows.OpenSpec.upto Rows.gaugeMeasureSpec)) (k := Rows.uptoSmall) rfl false ⟨#[], #[.float .f64 0, .slice none 0 0, .float .f64 0], []⟩ 8 (by kernel_rfl) (by kernel_rfl) (by kernel_rfl) (x := ([.lit (.float .f64 0), .nil, .lit (.float .f64 0)], [], [])) (by kernel_rfl) rfl (by kernel_rfl)) ?_
  intro W base args ds gs before hval0 hW hcnd hbk hsz0 _
  have hsz : (DataW.weightsEach Try.prog (Try.f6.params.toList ++ Rows.gaugeMeasureSpec.plain.varTypes Try.prog) (ds ++ gs)).all (· ≤ reachBytes) = true := hsz0
  have hval : ∀ (j : Nat) t v, Try.f6.params[j]? = some t → args[j]? = some v → Value.okWide Try.prog W .any base t v := hval0
  have hW' := hW
  obtain ⟨p, q, hA0, hV, rfl, hfz, hnd⟩ := hW
  have hA : DataW.TrodAll enc Try.prog W 0 (fun _ => true) true Try.f6.params.toList args.toList ds p := hA0
  rw [Try.params6] at hA hval hsz
  obtain ⟨v0, vs0, d0, ds0, p0, q0, hargs, rfl, rfl, h0, s0⟩ := trodAll_cons hA
  obtain ⟨v1, vs1, d1, ds1, p1, q1, rfl, rfl, rfl, h1, s1⟩ := trodAll_cons s0
  obtain ⟨v2, vs2, d2, ds2, p2, q2, rfl, rfl, rfl, h2, s2⟩ := trodAll_cons s1
  obtain ⟨rfl, rfl, rfl⟩ := trodAll_nil s2
  obtain rfl : args = #[v0, v1, v2] := by cases args; simp_all
  obtain ⟨rfl, rfl⟩ := trodVars_none hV
  obtain ⟨a0, rfl, rfl, rfl, w0⟩ := Gk.open_float Try.underlying23 (hval 0 23 v0 rfl rfl) h0
  obtain ⟨A1, n1, c1, rfl⟩ := okWide_slice Try.underlying22 (hval 1 22 v1 rfl rfl)
  have k1 := h1
  have lt1 : ∀ x ∈ p1, x.block < W.heap.size := by obtain ⟨m, hm⟩ := k1; exact DataW.trod_lt m _ _ _ hm
  obtain ⟨y1, r1, f1⟩ := Rel.open_arg Gk.opens_hs hsz 1 rfl rfl h1
  obtain ⟨a2, rfl, rfl, rfl, w2⟩ := Gk.open_float Try.underlying23 (hval 2 23 v2 rfl rfl) h2
  have hbulk : Rows.uptoBulkAll _ ≤ 1048576 := of_decide_eq_true hbk
  simp only [List.append_nil, Rows.uptoBulkAll] at hbulk
  have hb1 := slice_bulk Try.underlying22 k1
  obtain ⟨_, _, hl1, -⟩ := Own.slice_form r1
  simp only [Value.cells, List.cons.injEq, Value.slice.injEq, and_true] at hl1
  clear hA0 hval0 hsz0
  refine (Gx.gmeasure_walk a0 (by simpa [Lit.wf] using w0) y1 A1 n1 c1 a2 W r1 (by omega) f1.2).mono fun e W' ⟨he, bel⟩ => ?_
  subst he
  exact ⟨_, rfl, _, _, _, [], _, [], hW', trodAll_mk1 (shut_bool Try.underlying4 _), (trodAll_cons_mk (Gk.shut_float Try.underlying23 w0) (trodAll_cons_mk (Below.trod laidOut (by kernel_rfl) (of_decide_eq_true (by kernel_rfl)) k1 bel lt1) (trodAll_cons_mk (Gk.shut_float Try.underlying23 w2) trodAll_mk0))), rfl, bel.frame _, fun h => by cases h⟩
theorem over : Rows.GaugeMeasureUptoSaid :=
  OpenClaim.holds_of_cond 6 Try.f6 rfl rfl rfl rfl rfl rfl rfl ⟨rfl, rfl, rfl, rfl, rfl⟩ rfl rfl rfl rfl rfl (by kernel_rfl) Try.func6 (by kernel_rfl)
    (of_decide_eq_true (by kernel_rfl)) (by unfold Func.isWrapper; first | (rw [if_pos (by decide +kernel)]; kernel_rfl) | (rw [if_neg (by decide +kernel)]; exact ⟨rfl, rfl⟩))
    (fun os started H enc _ F => lifted os started H enc F)
end Go.Proofs.Ytecppcgleidhkaa.gaugeMeasureRow
namespace Go.Proofs.Ytecppcgleidhkaa
theorem gaugeMeasureUpto_holds : Rows.GaugeMeasureUptoSaid := gaugeMeasureRow.over
#print axioms gaugeMeasureUpto_holds
end Go.Proofs.Ytecppcgleidhkaa
