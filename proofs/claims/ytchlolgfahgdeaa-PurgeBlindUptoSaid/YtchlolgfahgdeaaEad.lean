/- What awake lays and calls, by contracts whose answers bear notes. Conditions: none. -/
import Derived.Test.YtchlolgfahgdeaaRgs
import Derived.Test.YtchlolgfahgdeaaEaw
import Derived.Test.YtchlolgfahgdeaaEsq
import Derived.Test.YtchlolgfahgdeaaEpo
import Derived.Test.YtchlolgfahgdeaaEss
set_option linter.unusedVariables false
set_option linter.unusedSimpArgs false
namespace Go.Proofs.Ytchlolgfahgdeaa.Ead
open Go.RowKit Go.Proofs.Ytchlolgfahgdeaa.Lib1 Go.Proofs.Ytchlolgfahgdeaa.Rel Go.Proofs.Ytchlolgfahgdeaa.Own Go.Proofs.Ytchlolgfahgdeaa.Ev Go.Proofs.Ytchlolgfahgdeaa.Ek Go.Proofs.Ytchlolgfahgdeaa.Ec Go.Proofs.Ytchlolgfahgdeaa.Em Go.Proofs.Ytchlolgfahgdeaa.En Go.Proofs.Ytchlolgfahgdeaa.Lat Go.Proofs.Ytchlolgfahgdeaa.Lbl Go.Proofs.Ytchlolgfahgdeaa.Lbw Go.Proofs.Ytchlolgfahgdeaa.Lck Go.Proofs.Ytchlolgfahgdeaa.Lmay Go.Proofs.Ytchlolgfahgdeaa.Rgn Go.Proofs.Ytchlolgfahgdeaa.Rgs Go.Proofs.Ytchlolgfahgdeaa.Eaw Go.Proofs.Ytchlolgfahgdeaa.Esq Go.Proofs.Ytchlolgfahgdeaa.Epo Go.Proofs.Ytchlolgfahgdeaa.Ess

def tickE : Ev := ⟨2, 0, Req.zero, 0, []⟩
def vacE : Ev := ⟨3, 0, Req.zero, 2, []⟩
def idleE : Ev := ⟨5, 0, Req.zero, 0, []⟩
abbrev inL : List Ev := [askE 0, askE 2, askE 1, tickE, askE 3, vacE]
abbrev outL : List Ev := [askE 0, askE 1, tickE, idleE]
abbrev inS : List Ev := [vacE, askE 0]
abbrev outS : List Ev := [idleE, askE 0]

/-! ### What the document fixes of them -/
theorem square_may : mayB squareC = true := by
  have h : chk squareC.labels = 0 := by
    refine chk_zero.2 ⟨by decide, by decide, ?_, ?_⟩
    · intro i hi
      have : ∀ i, i < 3 → ([0, 1, 2, 3] : List Nat).getD i 0 < ([0, 1, 2, 3] : List Nat).getD (i + 1) 0 := by decide
      exact this i (by have : i + 1 < 4 := hi; omega)
    · intro i j hi hj
      have : ∀ i, i < 4 → ∀ j, j < 4 → (([0, 1, 2, 3] : List Nat).getD i 0 ||| ([0, 1, 2, 3] : List Nat).getD j 0) ∈ ([0, 1, 2, 3] : List Nat) ∧ (([0, 1, 2, 3] : List Nat).getD i 0 &&& ([0, 1, 2, 3] : List Nat).getD j 0) ∈ ([0, 1, 2, 3] : List Nat) := by decide
      exact this i hi j hj
  unfold mayB
  rw [h]
  decide
theorem may_tick : Ev.may squareC tickE = true := by rw [tickE, may_of square_may]; decide
theorem may_vac : Ev.may squareC vacE = true := by rw [vacE, may_of square_may]; decide
theorem may_ask (s : Nat) (h : s < 4) : Ev.may squareC (askE s) = true := by
  rw [askE, may_of square_may]
  have : squareC.sessions.length = 4 := rfl
  simp [this]; omega
theorem may_ask4 : Ev.may squareC (askE 4) = false := by rw [askE, may_of square_may]; decide
theorem req_ask0 : Ev.req { Req.zero with kind := 1 } = { Req.zero with kind := 1 } := by unfold Ev.req; simp
theorem purge1_ask (s : Nat) (h : s < 4) : purge1 squareC 1 (askE s) = if Ev.seen squareC 1 (squareC.sessions.getD s 0).toNat = true then some (askE s) else none := by
  rw [purge1, if_neg (by rw [may_ask s h]; simp)]
  simp only [askE, req_ask0, if_true]
  rfl
theorem purge_outL : Ev.purge squareC 1 inL = outL := by
  show Ev.purge squareC ((1 : Nat) : Int) inL = outL
  rw [purge_at square_may (by decide)]
  have a0 : purge1 squareC 1 (askE 0) = some (askE 0) := (purge1_ask 0 (by decide)).trans (if_pos (by decide))
  have a1 : purge1 squareC 1 (askE 1) = some (askE 1) := (purge1_ask 1 (by decide)).trans (if_pos (by decide))
  have a2 : purge1 squareC 1 (askE 2) = none := (purge1_ask 2 (by decide)).trans (if_neg (by decide))
  have a3 : purge1 squareC 1 (askE 3) = none := (purge1_ask 3 (by decide)).trans (if_neg (by decide))
  have t : purge1 squareC 1 tickE = some tickE := by rw [purge1, if_neg (by rw [may_tick]; simp)]; rfl
  have v : purge1 squareC 1 vacE = some idleE := by
    rw [purge1, if_neg (by rw [may_vac]; simp), if_neg (by decide), if_pos (by decide), if_neg (by decide)]
    rfl
  simp [inL, a0, a1, a2, a3, t, v]
theorem still_outS : Ev.still squareC inS = outS := by
  have a0 : still1 squareC (askE 0) = some (askE 0) := by rw [still1, if_neg (by have := may_ask 0 (by decide); rw [show askE 0 = askE (0 : Nat) from rfl, this]; simp), if_neg (by decide)]
  have v : still1 squareC vacE = some idleE := by rw [still1, if_neg (by rw [may_vac]; simp), if_pos (by decide)]; rfl
  simp [Ev.still, inS, a0, v]
theorem outLS : outL ≠ outS := by decide

/-! ### How they lie -/
/-- An event without lists. -/
def Bare (x : Ev) : Prop := x.req.value = [] ∧ x.strikes = [] ∧ x.req.key = ⟨#[]⟩ ∧ x.req.to = ⟨#[]⟩
abbrev bareCs (x : Ev) : List Value := evCs x (.slice none 0 0) (.slice none 0 0)
abbrev bareV (x : Ev) : Value := .agg (bareCs x).toArray
theorem nil_sl {α : Type} {b : Nat} {d : Kd α} {ok : Nat → Prop} {w : World} : (Kd.slice b d).rel ok w [] [.slice none 0 0] := ⟨none, 0, [], rfl, ⟨by simp, Nat.le_refl _, fun _ => rfl, fun h => absurd h (Nat.lt_irrefl _)⟩, fun i x h => by simp at h⟩
theorem bare_rel {ok : Nat → Prop} {w : World} {x : Ev} (h : Bare x) : evK.rel ok w x (bareCs x) := ⟨_, _, rfl, by rw [h.1]; exact nil_sl, by rw [h.2.1]; exact nil_sl⟩
theorem bare_fits {l : List Ev} (hl : l.length ≤ 1000) (h : ∀ x ∈ l, Bare x) : evsK.fits l := by
  refine ⟨by omega, fun x hx => ?_⟩
  obtain ⟨h1, h2, h3, h4⟩ := h x hx
  refine ⟨⟨by rw [h3]; decide, by rw [h4]; decide, ?_⟩, ?_⟩
  · rw [h1]; exact ⟨by decide, fun x h => by cases h⟩
  · rw [h2]; exact ⟨by decide, fun x h => by cases h⟩
theorem flat_chunk {f : Ev → List Value} {sz : Nat} (hf : ∀ x, (f x).length = sz) : ∀ (l : List Ev) (i : Nat) (x : Ev), l[i]? = some x → ((l.flatMap f).drop (i * sz)).take sz = f x
  | [], i, x, h => by simp at h
  | y :: l, 0, x, h => by
    simp at h; subst h
    rw [List.flatMap_cons, Nat.zero_mul, List.drop_zero, ← hf y, List.take_left]
  | y :: l, i + 1, x, h => by
    rw [List.flatMap_cons, Nat.succ_mul, Nat.add_comm, ← List.drop_drop]
    rw [show List.drop sz (f y ++ List.flatMap f l) = l.flatMap f by rw [← hf y]; simp]
    exact flat_chunk hf l i x (by simpa using h)
theorem flat_len {f : Ev → List Value} {sz : Nat} (hf : ∀ x, (f x).length = sz) : ∀ (l : List Ev), (l.flatMap f).length = l.length * sz
  | [] => by simp
  | y :: l => by rw [List.flatMap_cons, List.length_append, hf, flat_len hf l, List.length_cons, Nat.succ_mul, Nat.add_comm]
theorem bare_evs {w : World} {b T : Nat} {l : List Ev} (hb : w.heap[b]? = some (.cells (l.flatMap bareCs).toArray T (0, 0))) (h : ∀ x ∈ l, Bare x) : evsK.rel (fun k => k < w.heap.size) w l [.slice (some ⟨b, 0, none⟩) l.length l.length] := by
  refine ⟨_, _, l.flatMap bareCs, rfl, rd_block hb (lt_of _ hb) (flat_len (f := bareCs) (sz := 12) (fun _ => rfl) l), fun i x hx => ?_⟩
  show evK.rel _ _ _ (((l.flatMap bareCs).drop (i * 12)).take 12)
  rw [flat_chunk (f := bareCs) (sz := 12) (fun _ => rfl) l i x hx]
  exact bare_rel (h x (List.mem_of_getElem? hx))
theorem bare_askE (s : Int) : Bare (askE s) := ⟨rfl, rfl, rfl, rfl⟩
theorem bare_tick : Bare tickE := ⟨rfl, rfl, rfl, rfl⟩
theorem bare_vac : Bare vacE := ⟨rfl, rfl, rfl, rfl⟩
theorem bare_idle : Bare idleE := ⟨rfl, rfl, rfl, rfl⟩
theorem bare_inL : ∀ x ∈ inL, Bare x := by
  intro x hx; simp at hx; rcases hx with rfl | rfl | rfl | rfl | rfl | rfl <;> first | exact bare_askE _ | exact bare_tick | exact bare_vac
theorem bare_outL : ∀ x ∈ outL, Bare x := by
  intro x hx; simp at hx; rcases hx with rfl | rfl | rfl | rfl <;> first | exact bare_askE _ | exact bare_tick | exact bare_idle
theorem bare_inS : ∀ x ∈ inS, Bare x := by
  intro x hx; simp at hx; rcases hx with rfl | rfl <;> first | exact bare_askE _ | exact bare_vac
theorem bare_outS : ∀ x ∈ outS, Bare x := by
  intro x hx; simp at hx; rcases hx with rfl | rfl <;> first | exact bare_askE _ | exact bare_idle
theorem fits_inL : evsK.fits inL := bare_fits (by decide) bare_inL
theorem fits_outL : evsK.fits outL := bare_fits (by decide) bare_outL
theorem fits_inS : evsK.fits inS := bare_fits (by decide) bare_inS
theorem fits_outS : evsK.fits outS := bare_fits (by decide) bare_outS

/-! ### Notes -/
theorem size_up {w w' : World} (h : Chg (fun _ => False) w w') : ∀ k, k < w.heap.size → k < w'.heap.size := fun k hk => Nat.lt_of_lt_of_le hk h.size
def nEvs (l : List Ev) : Note := ⟨fun v w => evsK.rel (fun k => k < w.heap.size) w l [v], fun v w w' hc h => evsK.mono (size_up hc) (evsK.move (fun k hk => hc.block k hk (fun h => h)) h)⟩
def CfgV (v : Value) (w : World) : Prop := ∃ A1 A2 A3, v = .agg #[.slice A1 4 4, .slice A2 4 4, .slice A3 4 4] ∧ CfgAt (fun k => k < w.heap.size) w A1 A2 A3 4 4 4 4 4 4 squareC
def nCfg : Note := ⟨CfgV, fun v w w' hc h => by
  obtain ⟨A1, A2, A3, e, hC⟩ := h
  exact ⟨A1, A2, A3, e, (hC.move (fun k hk => hc.block k hk (fun h => h))).mono (size_up hc)⟩⟩

section
variable {w : World}
theorem c_square : Calls Try.prog 33 #[] w fun e w' => ∃ v, e = .returned v ∧ Chg (fun _ => False) w w' ∧ CfgV v w' :=
  (square_any w).mono fun e w' ⟨A1, A2, A3, he, hC, hc⟩ => ⟨_, he, hc, A1, A2, A3, rfl, hC.mono (fun k hk => hk.2)⟩
theorem c_ask (s : Int) : Calls Try.prog 34 #[.int .i64 s] w fun e w' => ∃ v, e = .returned v ∧ Chg (fun _ => False) w w' ∧ v = bareV (askE s) :=
  (ask_any s w).mono fun e w' ⟨he, hc⟩ => ⟨_, he, hc, rfl⟩
theorem c_purge {V1 V2 : Value} {l : List Ev} (p : Int) (h1 : CfgV V1 w) (h2 : (nEvs l).f V2 w) (hf : evsK.fits l) : Calls Try.prog 19 #[V1, .int .i64 p, V2] w fun e w' => ∃ v, e = .returned v ∧ Chg (fun _ => False) w w' ∧ (nEvs (Ev.purge squareC p l)).f v w' := by
  obtain ⟨A1, A2, A3, rfl, hC⟩ := h1
  obtain ⟨A, c, e, -⟩ := slice_form (bytes := 144) h2
  simp only [List.cons.injEq, and_true] at e
  subst e
  exact (ppurge_any hC (fun k hk => hk) square_fits p l A _ c h2 hf).mono fun e w' ⟨v, he, ho, hc⟩ => ⟨v, he, hc, evsK.mono (fun k hk => hk.2) (ho.reads (bytes := 144))⟩
theorem c_still {V1 V2 : Value} {l : List Ev} (h1 : CfgV V1 w) (h2 : (nEvs l).f V2 w) (hf : evsK.fits l) : Calls Try.prog 22 #[V1, V2] w fun e w' => ∃ v, e = .returned v ∧ Chg (fun _ => False) w w' ∧ (nEvs (Ev.still squareC l)).f v w' := by
  obtain ⟨A1, A2, A3, rfl, hC⟩ := h1
  obtain ⟨A, c, e, -⟩ := slice_form (bytes := 144) h2
  simp only [List.cons.injEq, and_true] at e
  subst e
  exact (pstill_any hC (fun k hk => hk) square_fits l A _ c h2 hf).mono fun e w' ⟨v, he, ho, hc⟩ => ⟨v, he, hc, evsK.mono (fun k hk => hk.2) (ho.reads (bytes := 144))⟩
theorem c_copies {V : Value} {l : List Ev} (h : (nEvs l).f V w) (hf : evsK.fits l) : Calls Try.prog 20 #[V] w fun e w' => ∃ v, e = .returned v ∧ Chg (fun _ => False) w w' ∧ (nEvs l).f v w' := by
  obtain ⟨A, c, e, -⟩ := slice_form (bytes := 144) h
  simp only [List.cons.injEq, and_true] at e
  subst e
  exact (copies_any w _ l A _ c h (fun k hk => hk) hf).mono fun e w' ⟨v, he, ho, hc⟩ => ⟨v, he, hc, evsK.mono (fun k hk => hk.2) (ho.reads (bytes := 144))⟩
theorem c_rsame {V1 V2 : Value} {l m : List Ev} (h1 : (nEvs l).f V1 w) (h2 : (nEvs m).f V2 w) (hf : evsK.fits l) (hg : evsK.fits m) : Calls Try.prog 18 #[V1, V2] w fun e w' => ∃ v, e = .returned v ∧ Chg (fun _ => False) w w' ∧ v = .bool (decide (l = m)) := by
  obtain ⟨A, c, e, -⟩ := slice_form (bytes := 144) h1
  simp only [List.cons.injEq, and_true] at e
  subst e
  obtain ⟨B, d, e, -⟩ := slice_form (bytes := 144) h2
  simp only [List.cons.injEq, and_true] at e
  subst e
  exact (rsame_any l m A B _ _ c d h1 h2 (fun k hk => hk) hf hg).mono fun e w' ⟨he, hc⟩ => ⟨_, he, hc, rfl⟩
theorem c_psame {V1 V2 : Value} {l m : List Ev} (h1 : (nEvs l).f V1 w) (h2 : (nEvs m).f V2 w) (hf : evsK.fits l) (hg : evsK.fits m) : Calls Try.prog 24 #[V1, V2] w fun e w' => ∃ v, e = .returned v ∧ Chg (fun _ => False) w w' ∧ v = .bool (decide (l = m)) := by
  obtain ⟨A, c, e, -⟩ := slice_form (bytes := 144) h1
  simp only [List.cons.injEq, and_true] at e
  subst e
  obtain ⟨B, d, e, -⟩ := slice_form (bytes := 144) h2
  simp only [List.cons.injEq, and_true] at e
  subst e
  exact (psame_any l m A B _ _ c d h1 h2 (fun k hk => hk) hf hg).mono fun e w' ⟨he, hc⟩ => ⟨_, he, hc, rfl⟩
theorem c_may {V1 : Value} {x : Ev} (h1 : CfgV V1 w) : Calls Try.prog 15 #[V1, bareV x] w fun e w' => ∃ v, e = .returned v ∧ Chg (fun _ => False) w w' ∧ v = .bool (Ev.may squareC x) := by
  obtain ⟨A1, A2, A3, rfl, hC⟩ := h1
  exact (mayE_any hC (fun k hk => hk) square_fits x none none 0 0 0 0).mono fun e w' ⟨he, hc⟩ => ⟨_, he, hc, rfl⟩
end
end Go.Proofs.Ytchlolgfahgdeaa.Ead
