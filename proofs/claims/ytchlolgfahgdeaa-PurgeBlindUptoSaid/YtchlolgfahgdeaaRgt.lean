/- A region that draws its order and ends in operations that wait for all others: the others walked once, under notes; the end in the text's order. Conditions: none. -/
import Derived.Test.YtchlolgfahgdeaaRgs
import Derived.StillTail
set_option linter.unusedVariables false
set_option linter.unusedSimpArgs false
namespace Go.Proofs.Ytchlolgfahgdeaa.Rgt
open Go.RowKit Go.Proofs.Ytchlolgfahgdeaa.Lib1 Go.Proofs.Ytchlolgfahgdeaa.Lat Go.Proofs.Ytchlolgfahgdeaa.Rgn Go.Proofs.Ytchlolgfahgdeaa.Rgs

/-- The first n operations have slots of their own. -/
def DstsN (ops : Array Oper) (m n : Nat) : Prop := (∀ (i : Nat) (o : Oper), i < n → ops[i]? = some o → ∃ t, o.dst = some t ∧ t < m) ∧ ∀ (i j : Nat) (oi oj : Oper) (t : Tmp), i < n → ops[i]? = some oi → ops[j]? = some oj → oi.dst = some t → oj.dst = some t → i = j
def dstsNB (l : List Oper) (m n : Nat) : Bool := (l.take n).all (fun o => match o.dst with | some t => decide (t < m) | none => false) && (List.range (min n l.length)).all fun i => (List.range l.length).all fun j => decide (i = j) || (match l[i]?, l[j]? with | some a, some b => decide (a.dst ≠ b.dst) | _, _ => false)
theorem dstsN_of {l : List Oper} {m n : Nat} (h : dstsNB l m n = true) : DstsN l.toArray m n := by
  unfold dstsNB at h
  simp only [Bool.and_eq_true, List.all_eq_true] at h
  refine ⟨fun i o hin hi => ?_, fun i j oi oj t hin hi hj ei ej => ?_⟩
  · have hi' : l[i]? = some o := by simpa using hi
    have hm : o ∈ l.take n := List.mem_of_getElem? (i := i) (by rw [List.getElem?_take, if_pos hin]; exact hi')
    have := h.1 o hm
    cases ho : o.dst with
    | none => rw [ho] at this; cases this
    | some t => rw [ho] at this; exact ⟨t, rfl, by simpa using this⟩
  · have hi' : l[i]? = some oi := by simpa using hi
    have hj' : l[j]? = some oj := by simpa using hj
    have hil := (List.getElem?_eq_some_iff.1 hi').1
    have hjl := (List.getElem?_eq_some_iff.1 hj').1
    have := h.2 i (List.mem_range.2 (by omega)) j (List.mem_range.2 hjl)
    rw [hi', hj'] at this
    simp only [Bool.or_eq_true, decide_eq_true_eq] at this
    rcases this with h | h
    · exact h
    · exact absurd (ei.trans ej.symm) h
section
variable {P : Program} {ops : Array Oper} {md : Region.Mode} {N : Nat → Value → World → Prop} {w0 : World}
theorem vput {m n : Nat} (hD : DstsN ops m n) {a : Act} (hs : a.tmps.size = m) {i : Nat} {o : Oper} (hin : i < n) (hi : ops[i]? = some o) (v : Value) : Rgn.valOf ops (a.put o.dst v) i = v := by
  obtain ⟨t, ht, hl⟩ := hD.1 i o hin hi
  simp [Rgn.valOf, hi, ht, Act.put, hs, hl, Array.getD_eq_getD_getElem?]
theorem vput_ne {m n : Nat} (hD : DstsN ops m n) {a : Act} {i k : Nat} {o : Oper} (hin : i < n) (hi : ops[i]? = some o) (hk : k ≠ i) (v : Value) : Rgn.valOf ops (a.put o.dst v) k = Rgn.valOf ops a k := by
  obtain ⟨t, ht, hl⟩ := hD.1 i o hin hi
  unfold Rgn.valOf
  cases hok : ops[k]? with
  | none => rfl
  | some ok =>
    cases hu : ok.dst with
    | none => simp [hu]
    | some u =>
      have hne : t ≠ u := fun e => hk (hD.2 i k o ok u hin hi hok (by rw [ht, e]) hu).symm
      simp [hu, ht, Act.put, Array.getD_eq_getD_getElem?, Array.getElem?_setIfInBounds_ne hne]
theorem iput {m n : Nat} (hD : DstsN ops m n) (hst : ∀ k v w w', Chg (fun _ => False) w w' → N k v w → N k v w') {listed : Array Bool} {a : Act} {w w1 : World} {i : Nat} {o : Oper} {v : Value} (hs : a.tmps.size = m) (hin : i < n) (hi : ops[i]? = some o)
    (hv : Rgn.Inv ops N listed a w) (hc : Chg (fun _ => False) w w1) (hn : N i v w1) : Rgn.Inv ops N (listed.setIfInBounds i true) (a.put o.dst v) w1 := by
  intro k hk hl
  by_cases hki : k = i
  · subst hki; rw [vput hD hs hin hi]; exact hn
  · rw [vput_ne hD hin hi hki]
    exact hst _ _ _ _ hc (hv k hk (by rw [← getD_set_ne true (Ne.symm hki)]; exact hl))
theorem kput {m n : Nat} (hD : DstsN ops m n) {a : Act} {w : World} {i : Nat} {oi o : Oper} {v : Value} (hin : i < n) (hi : ops[i]? = some oi) (hne : ∀ e ∈ o.after, Region.binds md e = true → e.on ≠ i) : Known ops md N o (a.put oi.dst v) w ↔ Known ops md N o a w := by
  unfold Known
  constructor
  · intro h e he hb; have := h e he hb; rwa [vput_ne hD hin hi (hne e he hb)] at this
  · intro h e he hb; rw [vput_ne hD hin hi (hne e he hb)]; exact h e he hb
end

section
variable {P : Program} {ops : Array Oper} {md : Region.Mode} {N : Nat → Value → World → Prop} {w0 : World}
def wpAnyM (P : Program) (md : Region.Mode) (ops : Array Oper) (N : Nat → Value → World → Prop) (w0 : World) (n : Nat) (L : Array Bool → Act → Prop) : Nat → Array Bool → Act → Prop
  | 0, listed, a => L listed a
  | fuel + 1, listed, a => Region.ready md ops listed ≠ [] ∧ ∀ i ∈ Region.ready md ops listed, i < n ∧ ∀ o, ops[i]? = some o → Rgn.Spec P ops md N w0 i o a ∧
      ∀ v, (∃ w, Chg (fun _ => False) w0 w ∧ Rgn.Inv ops N (listed.setIfInBounds i true) (a.put o.dst v) w) → wpAnyM P md ops N w0 n L fuel (listed.setIfInBounds i true) (a.put o.dst v)

theorem mid_first {m n : Nat} (hD : DstsN ops m n) (hst : ∀ k v w w', Chg (fun _ => False) w w' → N k v w → N k v w') {L : Array Bool → Act → Prop} {i : Nat} {oi : Oper} (hi : ops[i]? = some oi) (hsel : ∀ (j : Nat) (o : Oper) cs b, ops[j]? = some o → o.op ≠ .select cs b)
    (hs : Region.sinkB md ops n = true) (hc : Region.chainB md ops n = true) (hn : n < ops.size) (hin : i < n) (hdone : ∀ listed a, L listed a → ∀ j ∈ Region.ready md ops listed, n ≤ j) :
    ∀ (fuel : Nat) (listed : Array Bool) (a : Act), a.tmps.size = m → HeadInv md ops n listed →
      (∀ j oj, ops[j]? = some oj → j ≠ i → listed.getD j true = false → (∀ e ∈ oj.after, Region.binds md e = true → e.on ≠ i) → oi.apart ops oj = true) →
      i ∈ Region.ready md ops listed → Rgn.Spec P ops md N w0 i oi a → (∃ w, Chg (fun _ => False) w0 w ∧ Rgn.Inv ops N listed a w) →
      (∀ v, (∃ w, Chg (fun _ => False) w0 w ∧ Rgn.Inv ops N (listed.setIfInBounds i true) (a.put oi.dst v) w) → wpAnyM P md ops N w0 n L fuel (listed.setIfInBounds i true) (a.put oi.dst v)) → wpAnyM P md ops N w0 n L (fuel + 1) listed a := by
  intro fuel
  induction fuel with
  | zero =>
    intro listed a hz inv hfree hr hsp hreach H
    have hjn : ∀ j ∈ Region.ready md ops listed, j < n := fun j hj => by
      rcases Nat.lt_or_ge j n with h | h
      · exact h
      · exact absurd hj (tail_waits hs hc hn inv _ i rfl hin (not_listed hr) j h)
    refine ⟨fun h => (by rw [h] at hr; cases hr), fun j hj => ⟨hjn j hj, fun oj hoj => ?_⟩⟩
    by_cases hji : j = i
    · subst hji; rw [hi] at hoj; cases hoj; exact ⟨hsp, H⟩
    · obtain ⟨w, hcw, hv⟩ := hreach
      obtain ⟨v0, w1, hc1, hn1⟩ := hsp.run hcw (known_of_ready inv.size hi hr hv)
      have h1 := hdone _ _ (H v0 ⟨w1, hcw.trans hc1 (fun _ _ h => h), iput hD hst hz hin hi hv hc1 hn1⟩) j (ready_mono hj hji)
      have := hjn j hj
      omega
  | succ fuel ih =>
    intro listed a hz inv hfree hr hsp hreach H
    have hjn : ∀ j ∈ Region.ready md ops listed, j < n := fun j hj => by
      rcases Nat.lt_or_ge j n with h | h
      · exact h
      · exact absurd hj (tail_waits hs hc hn inv _ i rfl hin (not_listed hr) j h)
    refine ⟨fun h => (by rw [h] at hr; cases hr), fun j hj => ⟨hjn j hj, fun oj hoj => ?_⟩⟩
    by_cases hji : j = i
    · subst hji; rw [hi] at hoj; cases hoj; exact ⟨hsp, H⟩
    · have hap := hfree j oj hoj hji (not_listed hj) (on_ne hoj hj hr)
      obtain ⟨h1, h2, h3⟩ := Oper.apart_spec hap
      have hspj : Rgn.Spec P ops md N w0 j oj a := by
        obtain ⟨w, hcw, hv⟩ := hreach
        obtain ⟨v0, w1, hc1, hn1⟩ := hsp.run hcw (known_of_ready inv.size hi hr hv)
        have := (((H v0 ⟨w1, hcw.trans hc1 (fun _ _ h => h), iput hD hst hz hin hi hv hc1 hn1⟩).2 j (ready_mono hj hji)).2 oj hoj).1
        exact this.of_same (execOp_put oj (fun cs b => hsel j oj cs b hoj) a oi.dst v0 h1).symm (wanted_put oj a oi.dst v0 h1).symm (fun w h => (kput hD hin hi (on_ne hoj hj hr)).2 h)
      refine ⟨hspj, fun v hreach' => ?_⟩
      have hfree' : ∀ k ok, ops[k]? = some ok → k ≠ i → (listed.setIfInBounds j true).getD k true = false →
          (∀ e ∈ ok.after, Region.binds md e = true → e.on ≠ i) → oi.apart ops ok = true := fun k ok hk hki hun hno => by
        refine hfree k ok hk hki ?_ hno
        by_cases hjk : j = k
        · subst hjk; exact not_listed hj
        · rw [getD_set_ne true hjk] at hun; exact hun
      refine ih (listed.setIfInBounds j true) (a.put oj.dst v) (by rw [put_size]; exact hz) (inv.set hj (hjn j hj)) hfree' (ready_mono hr (Ne.symm hji))
        (hsp.of_same (execOp_put oi (fun cs b => hsel i oi cs b hi) a oj.dst v h3) (wanted_put oi a oj.dst v h3) (fun w h => (kput hD (hjn j hj) hoj (on_ne hi hr hj)).1 h)) hreach' (fun vi hvi => ?_)
      rw [← Act.put_comm a vi v h2] at hvi ⊢
      rw [Array.setIfInBounds_comm _ _ hji] at hvi ⊢
      obtain ⟨w', hc', hv'⟩ := hvi
      refine (((H vi ⟨w', hc', fun k hk hl => ?_⟩).2 j (ready_mono hj hji)).2 oj hoj).2 v ⟨w', hc', hv'⟩
      have hkj : k ≠ j := fun e => by
        subst e
        rw [getD_set_ne true (Ne.symm hji), not_listed hj] at hl
        cases hl
      have := hv' k hk (by rw [getD_set_ne true (Ne.symm hkj)]; exact hl)
      rwa [vput_ne hD (hjn j hj) hoj hkj] at this

theorem mid_lex {m n g : Nat} (hD : DstsN ops m n) (hst : ∀ k v w w', Chg (fun _ => False) w w' → N k v w → N k v w') {Q : Act → Prop} (hsel : Region.noSelect ops = true) (hs : Region.sinkB md ops n = true) (hc : Region.chainB md ops n = true) (hn : n < ops.size) :
    ∀ (l : List Oper) (k : Nat) (listed : Array Bool) (a : Act), a.tmps.size = m → (∀ j, j < l.length → l[j]? = ops[k + j]?) → (∀ j, j < k → listed.getD j true = true) → k + l.length = n → HeadInv md ops n listed →
    Region.lexHead md ops g l.length k listed = true → (∃ w, Chg (fun _ => False) w0 w ∧ Rgn.Inv ops N listed a w) → wpSoft P ops md N w0 Q l k a →
    wpAnyM P md ops N w0 n (fun listed' a' => Region.seqB md ops g n listed' = true ∧ (∀ j, j < n → listed'.getD j true = true) ∧ Q a') l.length listed a
  | [], k, listed, a, _, _, hall, hk, _, hB, _, h => by
    have : k = n := by simpa using hk
    subst this
    exact ⟨by simpa [Region.lexHead] using hB, hall, h⟩
  | o :: l, k, listed, a, hz, hl, hall, hk, inv, hB, hreach, h => by
    have h0 : ops[k]? = some o := by simpa using (hl 0 (by simp)).symm
    simp only [List.length_cons, Region.lexHead, Bool.and_eq_true] at hB
    obtain ⟨⟨hr, hf⟩, hB'⟩ := hB
    have hkn : k < n := by simp only [List.length_cons] at hk; omega
    have hks : k < ops.size := by omega
    have hr' : k ∈ Region.ready md ops listed := by simpa using hr
    refine mid_first hD hst h0 (Region.noSelect_spec hsel) hs hc hn hkn (fun listed' a' hL => seqB_ready hL.1) l.length listed a hz inv (Region.free_spec h0 hf) hr' h.1 hreach (fun v hv => ?_)
    refine mid_lex hD hst hsel hs hc hn l (k + 1) _ _ (by rw [put_size]; exact hz) (fun j hj => by have := hl (j + 1) (by simp; omega); simpa [Nat.add_assoc, Nat.add_comm 1 j] using this) (fun j hj => ?_) (by simp only [List.length_cons] at hk; omega) (inv.set hr' hkn) hB' hv (h.2 v ?_)
    · by_cases hjk : j = k
      · subst hjk; simp [inv.size, hks, Array.getD_eq_getD_getElem?]
      · rw [getD_set_ne true (Ne.symm hjk)]; exact hall j (by omega)
    · obtain ⟨w, hcw, hiv⟩ := hv
      have := hiv k hks (by simp [inv.size, hks, Array.getD_eq_getD_getElem?])
      rw [vput hD hz hkn h0] at this
      exact ⟨w, hcw, this⟩

theorem wpAny_of_mid {m n g : Nat} (hD : DstsN ops m n) (hst : ∀ k v w w', Chg (fun _ => False) w w' → N k v w → N k v w') {L : Array Bool → Act → Prop} {Q' : Exit → Act → World → Prop}
    (hL : ∀ listed a w, Chg (fun _ => False) w0 w → Rgn.Inv ops N listed a w → L listed a → wpAny P md ops Q' g listed a w) : ∀ (fuel : Nat) (listed : Array Bool) (a : Act) (w : World), a.tmps.size = m → listed.size = ops.size → Chg (fun _ => False) w0 w → Rgn.Inv ops N listed a w →
    wpAnyM P md ops N w0 n L fuel listed a → wpAny P md ops Q' (fuel + g) listed a w
  | 0, listed, a, w, hz, hls, hc, hv, h => by rw [Nat.zero_add]; exact hL _ _ _ hc hv h
  | fuel + 1, listed, a, w, hz, hls, hc, hv, h => by
    rw [show fuel + 1 + g = (fuel + g) + 1 by omega]
    refine ⟨fun h0 => absurd h0 h.1, fun i hi => ?_⟩
    obtain ⟨_, o, ho, _⟩ := mem_ready.1 hi
    obtain ⟨hsp, hnext⟩ := (h.2 i hi).2 o ho
    have hkn := known_of_ready hls ho hi hv
    have step : ∀ v w1, Chg (fun _ => False) w w1 → N i v w1 → wpAny P md ops Q' (fuel + g) (listed.setIfInBounds i true) (a.put o.dst v) w1 := fun v w1 hc1 hn =>
      have hc2 := hc.trans hc1 (fun _ _ h => h)
      have hi2 := iput hD hst hz (h.2 i hi).1 ho hv hc1 hn
      wpAny_of_mid hD hst hL fuel _ _ w1 (by rw [put_size]; exact hz) (by simpa using hls) hc2 hi2 (hnext v ⟨w1, hc2, hi2⟩)
    have h3 := hsp w hc hkn
    unfold wpOp
    simp only [ho]
    split
    · rename_i hw
      rw [if_pos hw] at h3
      refine .inl ?_
      unfold softAt at h3
      unfold Oper.wp
      generalize (execOp a.eval o).run P w = r at *
      cases r with
      | ok m w' =>
        cases m <;> simp only [softUpon] at h3 <;> simp only [Oper.upon]
        case value u => exact step _ _ h3.1 h3.2
        case skip => exact step _ _ h3.1 h3.2
        case enter f args => exact h3.mono fun e w'' ⟨v, he, hc1, hn⟩ => by subst he; exact step _ _ hc1 hn
      | halt x w' => simp only [softUpon] at h3
    · rename_i hw
      rw [if_neg hw] at h3
      exact step _ _ (Chg.refl _ _) h3

/-- The first n under notes, in whatever order; then the rest. -/
theorem wp_region_soft_tail {id : Nat} {Q : Exit → Act → World → Prop} {a : Act} {w : World} {l : List Oper} (n : Nat) (N : Nat → Value → World → Prop) (hm : P.follows .mixedOrders = true) (hB : Region.lexTailB .any l.toArray n = true) (hD : dstsNB l a.tmps.size n = true)
    (hst : ∀ k v w w', Chg (fun _ => False) w w' → N k v w → N k v w')
    (h : wpSoft P l.toArray .any N w (fun a' => ∀ w', Chg (fun _ => False) w w' → (∀ k, k < n → N k (Rgn.valOf l.toArray a' k) w') → wpList P l.toArray Q (l.drop n) a' w') (l.take n) 0 a) : (Code.region id l.toArray true).wp P Q a w := by
  simp only [Region.lexTailB, Bool.and_eq_true, decide_eq_true_eq] at hB
  obtain ⟨⟨⟨⟨hsel, hn⟩, hs⟩, hc⟩, hlex⟩ := hB
  have hn' : n < l.length := by simpa using hn
  have htl : (l.take n).length = n := by simp; omega
  have hdl : (l.drop n).length = l.toArray.size - n := by simp
  have inv0 : HeadInv .any l.toArray n (Array.replicate l.toArray.size false) :=
    ⟨by simp, fun j oj _ hl => (by rw [getD_replicate_false] at hl; cases hl), fun t _ ht => getD_in (by simpa using ht) (getD_replicate_false _ _)⟩
  have i0 : Rgn.Inv l.toArray N (Array.replicate l.toArray.size false) a w.drew := fun k hk hl => by
    simp [Array.getD_eq_getD_getElem?] at hl hk; simp [hk] at hl
  have H := mid_lex (P := P) (ops := l.toArray) (md := .any) (N := N) (w0 := w) (g := l.toArray.size - n) (dstsN_of hD) hst hsel hs hc hn (l.take n) 0 _ a rfl (fun j hj => by
    have hj' : j < n := by rw [htl] at hj; exact hj
    simp [hj']) (fun j hj => absurd hj (by omega)) (by simpa using htl) inv0 (by rw [htl]; exact hlex) ⟨w.drew, (Chg.refl _ w).drew, i0⟩ h
  refine wp_region_any hm ?_
  have := wpAny_of_mid (Q' := Q) (g := l.toArray.size - n) (dstsN_of hD) hst (w0 := w) (fun listed a' w' hcw hiv hL => by
    have := wpAny_of_seq (md := .any) (Q' := Q) (l.drop n) n listed a' w' (fun j => by simp [List.getElem?_drop]) (by rw [hdl]; exact hL.1) (hL.2.2 w' hcw (fun k hk => hiv k (by omega) (hL.2.1 k hk)))
    rwa [hdl] at this) _ _ _ w.drew rfl (by simp) (Chg.refl _ w).drew i0 H
  rw [htl, show n + (l.toArray.size - n) = l.toArray.size by omega] at this
  exact this
end

section
variable {P : Program} {ops : Array Oper}
/-- Whatever law the list's walk has for one operation serves here, where that operation leaves what was there. -/
theorem soft_of_list {o : Oper} {a : Act} {w : World} {R : Value → World → Prop} (t : Tmp) (hd : o.dst = some t) (ht : t < a.tmps.size) (hg : o.guard = none) (hrow : ∀ row args w', (execOp a.eval o).run P w ≠ .ok (.row row args) w')
    (h : ∀ Q : Exit → Act → World → Prop, (∀ v w1, Chg (fun _ => False) w w1 → R v w1 → Q .normal (a.put o.dst v) w1) → wpList P ops Q [o] a w) : Soft P o a w R := by
  have h1 := h (fun e a' w' => e = .normal ∧ ∃ v, a' = a.put o.dst v ∧ Chg (fun _ => False) w w' ∧ R v w') (fun v w1 hc hr => ⟨rfl, v, rfl, hc, hr⟩)
  have inj : ∀ u v, a.put o.dst u = a.put o.dst v → u = v := fun u v e => by
    rw [hd] at e
    have := congrArg (fun b : Act => b.tmps[t]?) e
    simpa [Act.put, ht] using this
  have hw : Region.wanted o (yielded ops a.tmps) = true := by simp [Region.wanted, hg]
  have h2 : (o.wp P a w (wpList P ops (fun e a' w' => e = .normal ∧ ∃ v, a' = a.put o.dst v ∧ Chg (fun _ => False) w w' ∧ R v w') []) (fun e a' w' => e = .normal ∧ ∃ v, a' = a.put o.dst v ∧ Chg (fun _ => False) w w' ∧ R v w')) ∨ (o.asks P a w ∧ LetsOut (fun e a' w' => e = .normal ∧ ∃ v, a' = a.put o.dst v ∧ Chg (fun _ => False) w w' ∧ R v w')) := by
    have h3 := h1
    unfold wpList at h3
    rwa [if_pos hw] at h3
  refine ⟨?_⟩
  rcases h2 with h2 | ⟨_, _, _, h2, _⟩
  · unfold Oper.wp at h2
    unfold softAt
    generalize hr : (execOp a.eval o).run P w = r at *
    cases r with
    | ok m w' =>
      cases m <;> simp only [Oper.upon] at h2 <;> simp only [softUpon]
      case value u =>
        obtain ⟨_, v, e, hc, hv⟩ := h2
        rw [inj _ _ e]; exact ⟨hc, hv⟩
      case skip =>
        obtain ⟨_, v, e, hc, hv⟩ := h2
        rw [inj _ _ e]; exact ⟨hc, hv⟩
      case defer d =>
        obtain ⟨_, v, e, hc, hv⟩ := h2
        have := congrArg (fun b : Act => b.defers.length) e
        simp [Act.put, hd] at this
      case enter f args =>
        refine h2.mono fun e w'' he => ?_
        cases e with
        | returned u =>
          obtain ⟨_, v, e, hc, hv⟩ := he
          exact ⟨u, rfl, by rw [inj _ _ e]; exact ⟨hc, hv⟩⟩
        | panicked c => exact absurd he.1 (by simp)
        | outgrown => obtain ⟨_, _, he, _⟩ := he; cases he
      case row row args => exact absurd rfl (hrow row args w')
    | halt x w' => 
      cases x <;> simp only [Oper.upon] at h2
      all_goals first | exact h2.elim | exact absurd h2.1 (by simp)
  · cases h2
end
end Go.Proofs.Ytchlolgfahgdeaa.Rgt
