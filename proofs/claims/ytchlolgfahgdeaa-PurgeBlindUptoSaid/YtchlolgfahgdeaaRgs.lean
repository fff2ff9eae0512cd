/- A region that draws its order, walked once: notes as a list; each kind of operation. Conditions: none. -/
import Derived.Test.YtchlolgfahgdeaaRgn
import Derived.WalkKit
import Derived.BigQuiet
set_option linter.unusedVariables false
set_option linter.unusedSimpArgs false
namespace Go.Proofs.Ytchlolgfahgdeaa.Rgs
open Go.RowKit Go.Proofs.Ytchlolgfahgdeaa.Lib1 Go.Proofs.Ytchlolgfahgdeaa.Lat Go.Proofs.Ytchlolgfahgdeaa.Rgn

/-- What an operation's value is known to be, whatever comes to stand in memory later. -/
structure Note where
  f : Value → World → Prop
  st : ∀ v w w', Chg (fun _ => False) w w' → f v w → f v w'
def notes (L : List Note) (k : Nat) : Value → World → Prop := match L[k]? with | some n => n.f | none => fun _ _ => True
theorem notes_st (L : List Note) : ∀ k v w w', Chg (fun _ => False) w w' → notes L k v w → notes L k v w' := by
  intro k v w w' hc h
  unfold notes at *
  generalize L[k]? = q at *
  cases q with
  | none => trivial
  | some n => exact n.st v w w' hc h
def Note.eq (x : Value) : Note := ⟨fun v _ => v = x, fun _ _ _ _ h => h⟩

/-- The same behind a name that nothing looks through. -/
structure Soft (P : Program) (o : Oper) (a : Act) (w : World) (R : Value → World → Prop) : Prop where
  out : softAt P o a w R
section
variable {P : Program} {ops : Array Oper} {md : Region.Mode} {N : Nat → Value → World → Prop} {w0 : World}
theorem soft_one {Q : Act → Prop} {o : Oper} {rest : List Oper} {k : Nat} {a : Act} (d : Option Tmp) (hd : o.dst = d) (f : Value → World → Prop) (hN : N k = f) (hw : Region.wanted o (yielded ops a.tmps) = true) (h1 : ∀ w, Chg (fun _ => False) w0 w → Known ops md N o a w → Soft P o a w f)
    (h2 : ∀ v w, Chg (fun _ => False) w0 w → f v w → wpSoft P ops md N w0 Q rest (k + 1) (a.put d v)) : wpSoft P ops md N w0 Q (o :: rest) k a := by
  subst hN hd
  exact ⟨fun w hc hk => by rw [if_pos hw]; exact (h1 w hc hk).out, fun v ⟨w, hc, hn⟩ => h2 v w hc hn⟩
theorem soft_skip {Q : Act → Prop} {o : Oper} {rest : List Oper} {k : Nat} {a : Act} (d : Option Tmp) (hd : o.dst = d) (hN : N k = (Note.eq undef).f) (hw : Region.wanted o (yielded ops a.tmps) = false)
    (h2 : wpSoft P ops md N w0 Q rest (k + 1) (a.put d undef)) : wpSoft P ops md N w0 Q (o :: rest) k a := by
  subst hd
  refine ⟨fun w hc hk => by rw [if_neg (by rw [hw]; exact Bool.false_ne_true), hN]; exact rfl, fun v ⟨w, hc, hn⟩ => ?_⟩
  rw [hN] at hn
  obtain rfl : v = undef := hn
  exact h2
theorem known_at {o : Oper} {a : Act} {w : World} (hk : Known ops md N o a w) (n : Nat) (f : Value → World → Prop) (v : Value) (hN : N n = f) (hv : Rgn.valOf ops a n = v) (h : (o.after.toList.any fun e => e.on == n && Region.binds md e) = true) : f v w := by
  subst hN hv
  rw [List.any_eq_true] at h
  obtain ⟨e, he, h2⟩ := h
  simp only [Bool.and_eq_true, beq_iff_eq] at h2
  have := hk e (by simpa using he) h2.2
  rwa [h2.1] at this
theorem note_at {a : Act} {w : World} {m : Nat} (hk : ∀ k, k < m → N k (Rgn.valOf ops a k) w) (n : Nat) (f : Value → World → Prop) (v : Value) (hN : N n = f) (hv : Rgn.valOf ops a n = v) (h : n < m) : f v w := by
  subst hN hv
  exact hk n h
theorem list_soft {n : Nat} (hD : Dsts ops n) (hst : ∀ k v w w', Chg (fun _ => False) w w' → N k v w → N k v w') {Q : Act → Prop} {Q' : Exit → Act → World → Prop} (hE : ∀ (i : Nat) (o : Oper), ops[i]? = some o → ∀ e ∈ o.after, Region.binds md e = true → e.on < i)
    (hQ : ∀ a w, Chg (fun _ => False) w0 w → (∀ k, k < ops.size → N k (Rgn.valOf ops a k) w) → Q a → Q' .normal a w) : ∀ (l : List Oper) (k : Nat) (a : Act) (w : World), a.tmps.size = n → (∀ j, l[j]? = ops[k + j]?) → k + l.length = ops.size → Chg (fun _ => False) w0 w → (∀ j, j < k → N j (Rgn.valOf ops a j) w) →
    wpSoft P ops md N w0 Q l k a → wpList P ops Q' l a w
  | [], k, a, w, _, _, hkl, hc, hv, h => hQ a w hc (fun j hj => hv j (by simp at hkl; omega)) h
  | o :: l, k, a, w, hs, hl, hkl, hc, hv, h => by
    have h0 : ops[k]? = some o := by simpa using (hl 0).symm
    obtain ⟨hsp, hnext⟩ := h
    have hkn : Known ops md N o a w := fun e he hb => hv e.on (hE k o h0 e he hb)
    have step : ∀ v w1, Chg (fun _ => False) w w1 → N k v w1 → wpList P ops Q' l (a.put o.dst v) w1 := fun v w1 hc1 hn => by
      have hc2 := hc.trans hc1 (fun _ _ h => h)
      refine list_soft hD hst hE hQ l (k + 1) (a.put o.dst v) w1 (by rw [put_size]; exact hs) (fun j => by have := hl (j + 1); simpa [Nat.add_assoc, Nat.add_comm 1 j] using this) (by simp at hkl; omega) hc2 (fun j hj => ?_) (hnext v ⟨w1, hc2, hn⟩)
      by_cases hjk : j = k
      · subst hjk; rw [valOf_put hD hs h0]; exact hn
      · rw [valOf_put_ne hD h0 hjk]; exact hst _ _ _ _ hc1 (hv j (by omega))
    have h3 := hsp w hc hkn
    show if Region.wanted o (yielded ops a.tmps) then o.wp P a w (wpList P ops Q' l) Q' ∨ (o.asks P a w ∧ LetsOut Q') else wpList P ops Q' l (a.put o.dst undef) w
    split
    · rename_i hw
      rw [if_pos hw] at h3
      refine .inl ?_
      unfold softAt at h3
      unfold Oper.wp
      generalize (execOp a.eval o).run P w = r at *
      cases r with
      | ok m w' =>
        cases m <;> simp only [softUpon] at h3 <;> simp only [Oper.upon]
        case value u => exact step _ _ h3.1 h3.2
        case skip => exact step _ _ h3.1 h3.2
        case enter f args => exact h3.mono fun e w'' ⟨v, he, hc1, hn⟩ => by subst he; exact step _ _ hc1 hn
      | halt x w' => simp only [softUpon] at h3
    · rename_i hw
      rw [if_neg hw] at h3
      exact step _ _ (Chg.refl _ _) h3
def seqB (l : List Oper) : Bool := (List.range l.length).all fun i => match l[i]? with | some o => o.after.toList.all fun e => !Region.binds .any e || decide (e.on < i) | none => true
/-- The same walk where the order is the text's. -/
theorem wp_region_seq {id : Nat} {Q : Exit → Act → World → Prop} {a : Act} {w : World} {l : List Oper} (N : Nat → Value → World → Prop) (hB : seqB l = true) (hD : dstsB l a.tmps.size = true)
    (hst : ∀ k v w w', Chg (fun _ => False) w w' → N k v w → N k v w')
    (h : wpSoft P l.toArray .any N w (fun a' => ∀ w', Chg (fun _ => False) w w' → (∀ k, k < l.length → N k (Rgn.valOf l.toArray a' k) w') → Q .normal a' w') l 0 a) : (Code.region id l.toArray false).wp P Q a w := by
  refine wp_region_lit (list_soft (dsts_of hD) hst (w0 := w) (fun i o hi e he hb => ?_) (fun a w' hc hn h => h w' hc (by simpa using hn)) l 0 a w rfl (by simp) (by simp) (Chg.refl _ w) (fun j hj => absurd hj (by omega)) h)
  unfold seqB at hB
  rw [List.all_eq_true] at hB
  have hi' : l[i]? = some o := by simpa using hi
  have := hB i (by simpa using (List.getElem?_eq_some_iff.1 hi').1)
  rw [hi'] at this
  simp only [List.all_eq_true, Bool.or_eq_true, Bool.not_eq_true', decide_eq_true_eq] at this
  rcases this e (by simpa using he) with h | h
  · rw [h] at hb; cases hb
  · exact h
/-- Behind the last one only this is kept of the frame. -/
theorem soft_end {Q : Exit → Act → World → Prop} {a : Act} {m : Nat} (F : Act → Prop) (hF : F a) (h : ∀ b, F b → ∀ w', Chg (fun _ => False) w0 w' → Q .normal b w') : ∀ w', Chg (fun _ => False) w0 w' → (∀ k, k < m → N k (Rgn.valOf ops a k) w') → Q .normal a w' := fun w' hc _ => h a hF w' hc
theorem soft_val {o : Oper} {a : Act} {w w1 : World} {u : Value} {R : Value → World → Prop} (h : (execOp a.eval o).run P w = .ok (.value u) w1) (hc : Chg (fun _ => False) w w1) (hr : R u w1) : Soft P o a w R := by
  refine ⟨?_⟩; unfold softAt; rw [h]; exact ⟨hc, hr⟩
/-- Only what the operands read is looked at. -/
theorem soft_at {o : Oper} {a : Act} {w w1 : World} {u : Value} {R : Value → World → Prop} (E : (Operand → Value) → Prop) (hE : E a.eval) (h : ∀ ρ : Operand → Value, E ρ → (execOp ρ o).run P w = .ok (.value u) w1) (hc : Chg (fun _ => False) w w1) (hr : R u w1) : Soft P o a w R :=
  soft_val (h _ hE) hc hr
theorem soft_move {o : Oper} {a : Act} {w : World} {R : Value → World → Prop} (x : Operand) (h : o.op = .move x) (u : Value) (hu : a.eval x = u) (hr : R u w) : Soft P o a w R := by
  subst hu
  refine ⟨?_⟩; unfold softAt; rw [BigFrame.run_move x h]; exact ⟨Chg.refl _ _, hr⟩
theorem soft_assign {o : Oper} {a : Act} {w : World} {R : Value → World → Prop} (x : Operand) (h : o.op = .assign x) (u : Value) (hu : a.eval x = u) (hr : R u w) : Soft P o a w R := by
  subst hu
  refine ⟨?_⟩; unfold softAt; rw [BigFrame.run_assign x h]; exact ⟨Chg.refl _ _, hr⟩
theorem soft_call {o : Oper} {a : Act} {w : World} {R : Value → World → Prop} {f : FuncId} {xs : Array Operand} {ts : Array TypeId} {args : Array Value} {fn : Func} (hf : P.funcs[f]? = some fn) (hname : (fn.name == "runtime.NumGoroutine") = false) (hb : fn.body.isNone = false) (ho : o.op = .call { callee := .value (.func f), args := xs, argTypes := ts }) (ha : xs.map a.eval = args)
    (h : Calls P f args w fun e w' => ∃ v, e = .returned v ∧ Chg (fun _ => False) w w' ∧ R v w') : Soft P o a w R := by
  obtain ⟨dst, op, ty, pos, after, guard⟩ := o
  simp only at ho
  subst ho
  refine ⟨?_⟩
  unfold softAt
  have hr : (execOp a.eval { dst := dst, op := .call { callee := .value (.func f), args := xs, argTypes := ts }, type := ty, pos := pos, after := after, guard := guard }).run P w = .ok (.enter f args) w := by
    have h1 : ¬ fn.name = "runtime.NumGoroutine" := by simpa using hname
    have h2 : ¬ fn.body = none := by intro h; simp [h] at hb
    simp [go_sem, BigFrame.eval_func, ha, callFunc, hf, h1, h2]
  rw [hr]
  exact h
end
end Go.Proofs.Ytchlolgfahgdeaa.Rgs
