/- The law GaugePieces: whatever the input, true; each argument reads as before. Conditions: what is read is of bulk at most 1048576. -/
import Derived.Test.YtecppcgleidhkaaRows
import Derived.Test.YtecppcgleidhkaaGf
import Derived.Test.YtecppcgleidhkaaGk
import Derived.WalkKit
import Derived.ProofKit
import Derived.OpenShut
import Derived.ShutString
import Derived.ChangeOld
import Derived.Below
import Derived.SizedLaws
import Derived.JoinedCond
import Derived.Deep.CondSized
set_option linter.unusedVariables false
namespace Go.Proofs.Ytecppcgleidhkaa.gaugePiecesRow
open Go.ChangeShapes Go.WideShapes Go.ChangeAt Go.RowKit
open Go.ChangeMaps (open_string shut_string)
theorem own : ownKnob Try.prog.godebug = none := by kernel_rfl
theorem laidOut : laidOutB Try.prog = true := by kernel_rfl
def piecesK := Rel.Kd.pair (Rel.Kd.slice 16 Gm.heardK) (Rel.Kd.pair (Rel.Kd.slice 16 Gm.heardK) (Rel.Kd.pair Gk.floatK (Rel.Kd.pair Gk.floatK Rel.Kd.unit)))
theorem opens_pieces : Rel.Opens Try.prog 58 piecesK := by
  apply Rel.opens_struct Try.underlying58 (by kernel_rfl)
  apply Rel.opensF_cons rfl (by kernel_rfl) Gk.opens_hs
  apply Rel.opensF_cons rfl (by kernel_rfl) Gk.opens_hs
  apply Rel.opensF_cons rfl (by kernel_rfl) (Gk.opens_float Try.underlying23)
  apply Rel.opensF_cons rfl (by kernel_rfl) (Gk.opens_float Try.underlying23)
  exact Rel.opensF_nil _
theorem agg_four {v a b c d : Value} (h : v.cells.toList = [a, b, c, d]) : v = .agg #[a, b, c, d] := by
  cases v with
  | agg xs => obtain ⟨xs⟩ := xs; simp only [Value.cells] at h; subst h; rfl
  | _ => simp [Value.cells] at h
theorem pieces_of {ok : Nat → Prop} {w : World} {y : List (Int × Int) × List (Int × Int) × Nat × Nat × Unit} {v : Value} (h : piecesK.rel ok w y v.cells.toList) : ∃ A c B d, v = .agg #[.slice A y.1.length c, .slice B y.2.1.length d, .float .f64 y.2.2.1, .float .f64 y.2.2.2.1] ∧ (Rel.Kd.slice 16 Gm.heardK).rel ok w y.1 [.slice A y.1.length c] ∧ (Rel.Kd.slice 16 Gm.heardK).rel ok w y.2.1 [.slice B y.2.1.length d] := by
  obtain ⟨c1, c2, e, h1, c3, c4, e2, h2, c5, c6, e3, h3, c7, c8, e4, h4, h5⟩ := h
  obtain ⟨A, c, e5, -⟩ := Own.slice_form h1
  obtain ⟨B, d, e6, -⟩ := Own.slice_form h2
  subst e5 e6
  have h3' : c5 = _ := h3
  have h4' : c7 = _ := h4
  have h5' : c8 = _ := h5
  subst h3' h4' h5' e4 e3 e2
  exact ⟨A, c, B, d, agg_four e, h1, h2⟩
theorem trod_bulk {H : Type} {enc : TypeId × Value → H} {W : World} {t e : TypeId} {A : Option Addr} {n c fuel : Nat} {x : DataW H × List MemPlace} (ht : Try.prog.underlying t = some (.slice e)) (hf : DataW.trod enc Try.prog W 0 (fun _ => true) true fuel t [.slice A n c] = some x) : n ≤ Rows.uptoBulk x.1 := by
  have all_le : ∀ (l : List (DataW H)), l.length ≤ Rows.uptoBulkAll l := by
    intro l
    induction l with
    | nil => simp [Rows.uptoBulkAll]
    | cons x r ih =>
      have : 1 ≤ Rows.uptoBulk x := by cases x with
        | lit l => cases l <;> simp [Rows.uptoBulk]
        | _ => simp [Rows.uptoBulk]
      simp only [Rows.uptoBulkAll, List.length_cons]; omega
  rcases DataW.trod_slice ht hf with ⟨e1, e2⟩ | ⟨a, len, cap, elems, rest, m, rfl, e1, rfl, _, hle, _, hlen, hel, _, _⟩
  · simp only [List.cons.injEq, Value.slice.injEq, and_true] at e1
    omega
  · simp only [List.cons.injEq, Value.slice.injEq, and_true] at e1
    obtain ⟨_, rfl, _⟩ := e1
    have := all_le (elems.map (·.1))
    simp only [Rows.uptoBulk, List.length_map] at *
    omega
theorem pieces_bulk {H : Type} {enc : TypeId × Value → H} {W : World} {A B : Option Addr} {n c m d x z : Nat} {dd : DataW H} {ps : List MemPlace} (h : DataW.Trod enc Try.prog W 0 (fun _ => true) true 58 (.agg #[.slice A n c, .slice B m d, .float .f64 x, .float .f64 z]) dd ps) : n ≤ Rows.uptoBulk dd ∧ m ≤ Rows.uptoBulk dd := by
  obtain ⟨fuel, hf⟩ := h
  obtain ⟨xs, k, e1, e2, hl, hxl, hg⟩ := DataW.trod_struct Try.underlying58 hf
  simp only [Prod.mk.injEq] at e2
  obtain ⟨rfl, -⟩ := e2
  have mem : ∀ (l : List (DataW H)) (a : DataW H), a ∈ l → Rows.uptoBulk a ≤ Rows.uptoBulkAll l := by
    intro l a ha
    induction l with
    | nil => cases ha
    | cons b r ih =>
      simp only [Rows.uptoBulkAll]
      rcases List.mem_cons.1 ha with rfl | ha
      · omega
      · have := ih ha; omega
  have c22 : Try.prog.cellsOf 22 = 1 := by kernel_rfl
  obtain ⟨f0, hf0, t0, o0⟩ : ∃ f : Field, (#[{ name := "A", type := 22, offset := 0, embedded := false, tag := "", pkgPath := "", byteOffset := 0 }, { name := "B", type := 22, offset := 1, embedded := false, tag := "", pkgPath := "", byteOffset := 24 }, { name := "Keep", type := 23, offset := 2, embedded := false, tag := "", pkgPath := "", byteOffset := 48 }, { name := "Part", type := 23, offset := 3, embedded := false, tag := "", pkgPath := "", byteOffset := 56 }] : Array Field)[0]? = some f ∧ f.type = 22 ∧ f.offset = 0 := ⟨_, rfl, rfl, rfl⟩
  obtain ⟨f1, hf1, t1, o1⟩ : ∃ f : Field, (#[{ name := "A", type := 22, offset := 0, embedded := false, tag := "", pkgPath := "", byteOffset := 0 }, { name := "B", type := 22, offset := 1, embedded := false, tag := "", pkgPath := "", byteOffset := 24 }, { name := "Keep", type := 23, offset := 2, embedded := false, tag := "", pkgPath := "", byteOffset := 48 }, { name := "Part", type := 23, offset := 3, embedded := false, tag := "", pkgPath := "", byteOffset := 56 }] : Array Field)[1]? = some f ∧ f.type = 22 ∧ f.offset = 1 := ⟨_, rfl, rfl, rfl⟩
  have g0 := hg 0 f0 hf0
  have g1 := hg 1 f1 hf1
  rw [t0, o0, c22] at g0
  rw [t1, o1, c22] at g1
  have key : ∀ (i : Nat) (A : Option Addr) (n c : Nat), DataW.trod enc Try.prog W 0 (fun _ => true) true k 22 [.slice A n c] = xs[i]? → i < xs.length → n ≤ Rows.uptoBulk (.agg (xs.map (·.1))) := fun i A n c g hi => by
    rw [List.getElem?_eq_getElem hi] at g
    have h1 := trod_bulk Try.underlying22 g
    have h2 := mem (xs.map (·.1)) (xs[i]).1 (List.mem_map.2 ⟨_, List.getElem_mem hi, rfl⟩)
    simp only [Rows.uptoBulk]
    omega
  exact ⟨key 0 A n c g0 (by rw [hxl]; decide), key 1 B m d g1 (by rw [hxl]; decide)⟩
theorem slice_bulk {H : Type} {enc : TypeId × Value → H} {W : World} {t e : TypeId} {A : Option Addr} {n c : Nat} {dd : DataW H} {ps : List MemPlace} (ht : Try.prog.underlying t = some (.slice e)) (h : DataW.Trod enc Try.prog W 0 (fun _ => true) true t (.slice A n c) dd ps) : n ≤ Rows.uptoBulk dd := by
  have all_le : ∀ (l : List (DataW H)), l.length ≤ Rows.uptoBulkAll l := by
    intro l
    induction l with
    | nil => simp [Rows.uptoBulkAll]
    | cons x r ih =>
      have : 1 ≤ Rows.uptoBulk x := by cases x with
        | lit l => cases l <;> simp [Rows.uptoBulk]
        | _ => simp [Rows.uptoBulk]
      simp only [Rows.uptoBulkAll, List.length_cons]; omega
  obtain ⟨fuel, hf⟩ := h
  generalize hcs : (Value.slice A n c).cells.toList = cs at hf
  generalize hx : (dd, ps) = x at hf
  rcases DataW.trod_slice ht hf with ⟨rfl, rfl⟩ | ⟨a, len, cap, elems, rest, m, rfl, rfl, rfl, _, hle, _, hlen, hel, _, _⟩
  · simp [Value.cells] at hcs; omega
  · simp only [Value.cells, List.cons.injEq, Value.slice.injEq, and_true] at hcs
    obtain ⟨_, rfl, _⟩ := hcs
    simp only [Prod.mk.injEq] at hx
    obtain ⟨rfl, _⟩ := hx
    have := all_le (elems.map (·.1))
    simp only [Rows.uptoBulk, List.length_map] at *
    omega
set_option maxRecDepth 100000 in
theorem lifted (os : Os) (started : os.Started) (H : Type) (enc : TypeId × Value → H) (F : Stop.Interp) :
    ReturnsInHanded {} Try.checked os 7 .any ((Rows.OpenSpec.upto Rows.gaugePiecesSpec).pre6 enc Try.prog Try.f7 Rows.gaugePiecesUptoRow.domain false) (((Rows.OpenSpec.upto Rows.gaugePiecesSpec).at F).post enc Try.prog Try.f7 false true false false) := by
  refine returnsInHanded_of_cond_sized (C := Try.checked) (s := (Rows.OpenSpec.upto Rows.gaugePiecesSpec)) (k := Rows.uptoSmall) rfl own started (by kernel_rfl) Try.func7
    (OpenSpec.witness (enc := enc) (C := Try.checked) (s := (Rows.OpenSpec.upto Rows.gaugePiecesSpec)) (k := Rows.uptoSmall) rfl false ⟨#[], #[.agg #[.slice none 0 0, .slice none 0 0, .float .f64 0, .float .f64 0]], []⟩ 8 (by kernel_rfl) (by kernel_rfl) (by kernel_rfl) (x := ([.agg [.nil, .nil, .lit (.float .f64 0), .lit (.float .f64 0)]], [], [])) (by kernel_rfl) rfl (by kernel_rfl)) ?_
  intro W base args ds gs before hval0 hW hcnd hbk hsz0 _
  have hsz : (DataW.weightsEach Try.prog (Try.f7.params.toList ++ Rows.gaugePiecesSpec.plain.varTypes Try.prog) (ds ++ gs)).all (· ≤ reachBytes) = true := hsz0
  have hval : ∀ (j : Nat) t v, Try.f7.params[j]? = some t → args[j]? = some v → Value.okWide Try.prog W .any base t v := hval0
  have hW' := hW
  obtain ⟨p, q, hA0, hV, rfl, hfz, hnd⟩ := hW
  have hA : DataW.TrodAll enc Try.prog W 0 (fun _ => true) true Try.f7.params.toList args.toList ds p := hA0
  rw [Try.params7] at hA hval hsz
  obtain ⟨v0, vs0, d0, ds0, p0, q0, hargs, rfl, rfl, h0, s0⟩ := trodAll_cons hA
  obtain ⟨rfl, rfl, rfl⟩ := trodAll_nil s0
  obtain rfl : args = #[v0] := by cases args; simp_all
  obtain ⟨rfl, rfl⟩ := trodVars_none hV
  have k0 := h0
  have lt0 : ∀ x ∈ p0, x.block < W.heap.size := by obtain ⟨m, hm⟩ := k0; exact DataW.trod_lt m _ _ _ hm
  obtain ⟨y0, r0, f0⟩ := Rel.open_arg opens_pieces hsz 0 rfl rfl h0
  obtain ⟨A0, cA0, B0, cB0, e0, rA0, rB0⟩ := pieces_of r0
  subst e0
  have hbulk : Rows.uptoBulkAll _ ≤ 1048576 := of_decide_eq_true hbk
  simp only [List.append_nil, Rows.uptoBulkAll] at hbulk
  have hpb := pieces_bulk k0
  clear hA0 hval0 hsz0
  refine (Gf.pieces_walk y0.1 y0.2.1 A0 B0 cA0 cB0 y0.2.2.1 y0.2.2.2.1 f0.2.2.1 W rA0 rB0 (by omega) (by omega) f0.1.2 f0.2.1.2).mono fun e W' ⟨he, bel⟩ => ?_
  subst he
  exact ⟨_, rfl, _, _, _, [], _, [], hW', trodAll_mk1 (shut_bool Try.underlying4 _), (trodAll_cons_mk (Below.trod laidOut (by kernel_rfl) (of_decide_eq_true (by kernel_rfl)) k0 bel lt0) trodAll_mk0), rfl, bel.frame _, fun h => by cases h⟩
theorem over : Rows.GaugePiecesUptoSaid :=
  OpenClaim.holds_of_cond 7 Try.f7 rfl rfl rfl rfl rfl rfl rfl ⟨rfl, rfl, rfl, rfl, rfl⟩ rfl rfl rfl rfl rfl (by kernel_rfl) Try.func7 (by kernel_rfl)
    (of_decide_eq_true (by kernel_rfl)) (by unfold Func.isWrapper; first | (rw [if_pos (by decide +kernel)]; kernel_rfl) | (rw [if_neg (by decide +kernel)]; exact ⟨rfl, rfl⟩))
    (fun os started H enc _ F => lifted os started H enc F)
end Go.Proofs.Ytecppcgleidhkaa.gaugePiecesRow
namespace Go.Proofs.Ytecppcgleidhkaa
theorem gaugePiecesUpto_holds : Rows.GaugePiecesUptoSaid := gaugePiecesRow.over
#print axioms gaugePiecesUpto_holds
end Go.Proofs.Ytecppcgleidhkaa
