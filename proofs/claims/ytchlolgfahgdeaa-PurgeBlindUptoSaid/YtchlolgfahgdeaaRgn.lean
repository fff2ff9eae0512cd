/- A region that draws its order, whose operations leave values with notes that stand: walked once, in the text's order. Conditions: none. -/
import Derived.Test.YtchlolgfahgdeaaLat
import Derived.Deep.Quiet
set_option linter.unusedVariables false
set_option linter.unusedSimpArgs false
namespace Go.Proofs.Ytchlolgfahgdeaa.Rgn
open Go.RowKit Go.Proofs.Ytchlolgfahgdeaa.Lib1 Go.Proofs.Ytchlolgfahgdeaa.Lat

section
variable {P : Program} {ops : Array Oper} {md : Region.Mode} {N : Nat → Value → World → Prop} {w0 : World}

/-- What an operation yields, in a world: a value that bears the note, and nothing that was there has turned. -/
def softUpon (P : Program) (w : World) (R : Value → World → Prop) : Result Next → Prop
  | .ok (.value u) w' => Chg (fun _ => False) w w' ∧ R u w'
  | .ok .skip w' => Chg (fun _ => False) w w' ∧ R undef w'
  | .ok (.enter f args) w' => Calls P f args w' (fun e w'' => ∃ v, e = .returned v ∧ Chg (fun _ => False) w w'' ∧ R v w'')
  | _ => False
def softAt (P : Program) (o : Oper) (a : Act) (w : World) (R : Value → World → Prop) : Prop := softUpon P w R ((execOp a.eval o).run P w)

/-- The value in the slot of operation k. -/
def valOf (ops : Array Oper) (a : Act) (k : Nat) : Value := match (ops[k]?).bind (·.dst) with | some t => a.tmps.getD t undef | none => undef
/-- The notes of what it waits for. -/
def Known (ops : Array Oper) (md : Region.Mode) (N : Nat → Value → World → Prop) (o : Oper) (a : Act) (w : World) : Prop := ∀ e ∈ o.after, Region.binds md e = true → N e.on (valOf ops a e.on) w

def Spec (P : Program) (ops : Array Oper) (md : Region.Mode) (N : Nat → Value → World → Prop) (w0 : World) (i : Nat) (o : Oper) (a : Act) : Prop :=
  ∀ w, Chg (fun _ => False) w0 w → Known ops md N o a w → if Region.wanted o (yielded ops a.tmps) = true then softAt P o a w (N i) else N i undef w

def wpSoft (P : Program) (ops : Array Oper) (md : Region.Mode) (N : Nat → Value → World → Prop) (w0 : World) (Q : Act → Prop) : List Oper → Nat → Act → Prop
  | [], _, a => Q a
  | o :: rest, k, a => Spec P ops md N w0 k o a ∧ ∀ v, (∃ w, Chg (fun _ => False) w0 w ∧ N k v w) → wpSoft P ops md N w0 Q rest (k + 1) (a.put o.dst v)

/-- Each operation has a slot of its own. -/
def Dsts (ops : Array Oper) (n : Nat) : Prop := (∀ (i : Nat) (o : Oper), ops[i]? = some o → ∃ t, o.dst = some t ∧ t < n) ∧ ∀ (i j : Nat) (oi oj : Oper) (t : Tmp), ops[i]? = some oi → ops[j]? = some oj → oi.dst = some t → oj.dst = some t → i = j
def dstsB (l : List Oper) (n : Nat) : Bool := l.all (fun o => match o.dst with | some t => decide (t < n) | none => false) && decide (l.map (·.dst)).Nodup
theorem dsts_of {l : List Oper} {n : Nat} (h : dstsB l n = true) : Dsts l.toArray n := by
  unfold dstsB at h
  simp only [Bool.and_eq_true, List.all_eq_true, decide_eq_true_eq] at h
  refine ⟨fun i o hi => ?_, fun i j oi oj t hi hj ei ej => ?_⟩
  · have hm : o ∈ l := List.mem_of_getElem? (i := i) (by simpa using hi)
    have := h.1 o hm
    cases ho : o.dst with
    | none => rw [ho] at this; cases this
    | some t => rw [ho] at this; exact ⟨t, rfl, by simpa using this⟩
  · have h1 : (l.map (·.dst))[i]? = some (some t) := by rw [List.getElem?_map]; simp at hi; rw [hi]; simp [ei]
    have h2 : (l.map (·.dst))[j]? = some (some t) := by rw [List.getElem?_map]; simp at hj; rw [hj]; simp [ej]
    exact (List.getElem?_inj (List.getElem?_eq_some_iff.1 h1).1 h.2).1 (h1.trans h2.symm)

theorem put_size (a : Act) (d : Option Tmp) (v : Value) : (a.put d v).tmps.size = a.tmps.size := by cases d <;> simp [Act.put]
theorem valOf_put {n : Nat} (hD : Dsts ops n) {a : Act} (hs : a.tmps.size = n) {i : Nat} {o : Oper} (hi : ops[i]? = some o) (v : Value) : valOf ops (a.put o.dst v) i = v := by
  obtain ⟨t, ht, hl⟩ := hD.1 i o hi
  simp [valOf, hi, ht, Act.put, hs, hl, Array.getD_eq_getD_getElem?]
theorem valOf_put_ne {n : Nat} (hD : Dsts ops n) {a : Act} {i k : Nat} {o : Oper} (hi : ops[i]? = some o) (hk : k ≠ i) (v : Value) : valOf ops (a.put o.dst v) k = valOf ops a k := by
  obtain ⟨t, ht, hl⟩ := hD.1 i o hi
  unfold valOf
  cases hok : ops[k]? with
  | none => rfl
  | some ok =>
    obtain ⟨u, hu, _⟩ := hD.1 k ok hok
    have hne : t ≠ u := fun e => hk (hD.2 k i ok o u hok hi hu (by rw [ht, e]))
    simp [hu, ht, Act.put, Array.getD_eq_getD_getElem?, Array.getElem?_setIfInBounds_ne hne]

def Inv (ops : Array Oper) (N : Nat → Value → World → Prop) (listed : Array Bool) (a : Act) (w : World) : Prop := ∀ k, k < ops.size → listed.getD k true = true → N k (valOf ops a k) w

theorem Spec.of_same {i : Nat} {o : Oper} {a a' : Act} (he : execOp a'.eval o = execOp a.eval o) (hw : Region.wanted o (yielded ops a'.tmps) = Region.wanted o (yielded ops a.tmps)) (hk : ∀ w, Known ops md N o a' w → Known ops md N o a w)
    (h : Spec P ops md N w0 i o a) : Spec P ops md N w0 i o a' := by
  intro w hc hn
  have := h w hc (hk w hn)
  unfold softAt at *
  rw [he, hw]
  exact this
theorem soft_run {o : Oper} {a : Act} {w : World} {R : Value → World → Prop} (h : softAt P o a w R) : ∃ v w1, Chg (fun _ => False) w w1 ∧ R v w1 := by
  unfold softAt at h
  generalize (execOp a.eval o).run P w = r at h
  cases r with
  | ok n w' =>
    cases n <;> simp only [softUpon] at h
    case value u => exact ⟨_, _, h⟩
    case skip => exact ⟨_, _, h⟩
    case enter f args =>
      obtain ⟨e, w1, fr, ⟨v, he, hc, hr⟩, _⟩ := h []
      exact ⟨v, w1, hc, hr⟩
  | halt x w' => simp only [softUpon] at h
theorem Spec.run {i : Nat} {o : Oper} {a : Act} {w : World} (h : Spec P ops md N w0 i o a) (hc : Chg (fun _ => False) w0 w) (hk : Known ops md N o a w) : ∃ v w1, Chg (fun _ => False) w w1 ∧ N i v w1 := by
  have := h w hc hk
  split at this
  · exact soft_run this
  · exact ⟨_, _, Chg.refl _ _, this⟩

/-- Whatever order is picked from here on. -/
def wpAnyS (P : Program) (md : Region.Mode) (ops : Array Oper) (N : Nat → Value → World → Prop) (w0 : World) (Q : Act → Prop) : Nat → Array Bool → Act → Prop
  | 0, listed, a => (∀ j, j < ops.size → listed.getD j true = true) ∧ Q a
  | fuel + 1, listed, a => Region.ready md ops listed ≠ [] ∧ ∀ i ∈ Region.ready md ops listed, ∀ o, ops[i]? = some o → Spec P ops md N w0 i o a ∧
      ∀ v, (∃ w, Chg (fun _ => False) w0 w ∧ Inv ops N (listed.setIfInBounds i true) (a.put o.dst v) w) → wpAnyS P md ops N w0 Q fuel (listed.setIfInBounds i true) (a.put o.dst v)

theorem known_of_ready {listed : Array Bool} {a : Act} {w : World} {i : Nat} {o : Oper} (hls : listed.size = ops.size) (hi : ops[i]? = some o) (hr : i ∈ Region.ready md ops listed) (hv : Inv ops N listed a w) : Known ops md N o a w := by
  obtain ⟨_, o', ho', hall⟩ := mem_ready.1 hr
  rw [hi] at ho'
  cases ho'
  intro e he hb
  have h1 := hall e he hb
  have hlt : e.on < listed.size := by
    rcases Nat.lt_or_ge e.on listed.size with h | h
    · exact h
    · rw [Array.getD_eq_getD_getElem?, Array.getElem?_eq_none h] at h1; cases h1
  exact hv e.on (by omega) (by rw [Array.getD_eq_getD_getElem?, Array.getElem?_eq_getElem hlt] at h1 ⊢; exact h1)
theorem inv_put {n : Nat} (hD : Dsts ops n) (hst : ∀ k v w w', Chg (fun _ => False) w w' → N k v w → N k v w') {listed : Array Bool} {a : Act} {w w1 : World} {i : Nat} {o : Oper} {v : Value} (hs : a.tmps.size = n) (hi : ops[i]? = some o)
    (hv : Inv ops N listed a w) (hc : Chg (fun _ => False) w w1) (hn : N i v w1) : Inv ops N (listed.setIfInBounds i true) (a.put o.dst v) w1 := by
  intro k hk hl
  by_cases hki : k = i
  · subst hki; rw [valOf_put hD hs hi]; exact hn
  · rw [valOf_put_ne hD hi hki]
    exact hst _ _ _ _ hc (hv k hk (by rw [← getD_set_ne true (Ne.symm hki)]; exact hl))
theorem not_listed {listed : Array Bool} {j : Nat} (h : j ∈ Region.ready md ops listed) : listed.getD j true = false := (mem_ready.1 h).1
theorem on_ne {listed : Array Bool} {i j : Nat} {o : Oper} (hi : ops[i]? = some o) (hr : i ∈ Region.ready md ops listed) (hj : j ∈ Region.ready md ops listed) : ∀ e ∈ o.after, Region.binds md e = true → e.on ≠ j := by
  obtain ⟨_, o', ho', hall⟩ := mem_ready.1 hr
  rw [hi] at ho'
  cases ho'
  intro e he hb heq
  have h1 := hall e he hb
  have h0 := not_listed hj
  rw [heq] at h1
  rcases Nat.lt_or_ge j listed.size with h' | h'
  · simp [h'] at h0 h1; rw [h0] at h1; cases h1
  · simp [Array.getElem?_eq_none h'] at h1
theorem known_put {n : Nat} (hD : Dsts ops n) {a : Act} {w : World} {i : Nat} {oi o : Oper} {v : Value} (hi : ops[i]? = some oi) (hne : ∀ e ∈ o.after, Region.binds md e = true → e.on ≠ i) : Known ops md N o (a.put oi.dst v) w ↔ Known ops md N o a w := by
  unfold Known
  constructor
  · intro h e he hb; have := h e he hb; rwa [valOf_put_ne hD hi (hne e he hb)] at this
  · intro h e he hb; rw [valOf_put_ne hD hi (hne e he hb)]; exact h e he hb

theorem soft_first {n : Nat} (hD : Dsts ops n) (hst : ∀ k v w w', Chg (fun _ => False) w w' → N k v w → N k v w') {Q : Act → Prop} {i : Nat} {oi : Oper} (hi : ops[i]? = some oi) (hsel : ∀ (j : Nat) (o : Oper) cs b, ops[j]? = some o → o.op ≠ .select cs b) :
    ∀ (fuel : Nat) (listed : Array Bool) (a : Act), a.tmps.size = n → listed.size = ops.size →
      (∀ j oj, ops[j]? = some oj → j ≠ i → listed.getD j true = false → (∀ e ∈ oj.after, Region.binds md e = true → e.on ≠ i) → oi.apart ops oj = true) →
      i ∈ Region.ready md ops listed → Spec P ops md N w0 i oi a → (∃ w, Chg (fun _ => False) w0 w ∧ Inv ops N listed a w) →
      (∀ v, (∃ w, Chg (fun _ => False) w0 w ∧ Inv ops N (listed.setIfInBounds i true) (a.put oi.dst v) w) → wpAnyS P md ops N w0 Q fuel (listed.setIfInBounds i true) (a.put oi.dst v)) → wpAnyS P md ops N w0 Q (fuel + 1) listed a := by
  intro fuel
  induction fuel with
  | zero =>
    intro listed a hs hls hfree hr hsp hreach H
    refine ⟨fun h => (by rw [h] at hr; cases hr), fun j hj oj hoj => ?_⟩
    by_cases hji : j = i
    · subst hji; rw [hi] at hoj; cases hoj; exact ⟨hsp, H⟩
    · obtain ⟨w, hc, hv⟩ := hreach
      obtain ⟨v0, w1, hc1, hn1⟩ := hsp.run hc (known_of_ready hls hi hr hv)
      have h1 := (H v0 ⟨w1, hc.trans hc1 (fun _ _ h => h), inv_put hD hst hs hi hv hc1 hn1⟩).1 j (Array.getElem?_eq_some_iff.1 hoj).1
      rw [getD_set_ne true (Ne.symm hji), not_listed hj] at h1
      cases h1
  | succ fuel ih =>
    intro listed a hs hls hfree hr hsp hreach H
    refine ⟨fun h => (by rw [h] at hr; cases hr), fun j hj oj hoj => ?_⟩
    by_cases hji : j = i
    · subst hji; rw [hi] at hoj; cases hoj; exact ⟨hsp, H⟩
    · have hap := hfree j oj hoj hji (not_listed hj) (on_ne hoj hj hr)
      obtain ⟨h1, h2, h3⟩ := Oper.apart_spec hap
      have hspj : Spec P ops md N w0 j oj a := by
        obtain ⟨w, hc, hv⟩ := hreach
        obtain ⟨v0, w1, hc1, hn1⟩ := hsp.run hc (known_of_ready hls hi hr hv)
        have := ((H v0 ⟨w1, hc.trans hc1 (fun _ _ h => h), inv_put hD hst hs hi hv hc1 hn1⟩).2 j (ready_mono hj hji) oj hoj).1
        exact this.of_same (execOp_put oj (fun cs b => hsel j oj cs b hoj) a oi.dst v0 h1).symm (wanted_put oj a oi.dst v0 h1).symm (fun w h => (known_put hD hi (on_ne hoj hj hr)).2 h)
      refine ⟨hspj, fun v hreach' => ?_⟩
      have hfree' : ∀ k ok, ops[k]? = some ok → k ≠ i → (listed.setIfInBounds j true).getD k true = false →
          (∀ e ∈ ok.after, Region.binds md e = true → e.on ≠ i) → oi.apart ops ok = true := fun k ok hk hki hun hno => by
        refine hfree k ok hk hki ?_ hno
        by_cases hjk : j = k
        · subst hjk; exact not_listed hj
        · rw [getD_set_ne true hjk] at hun; exact hun
      refine ih (listed.setIfInBounds j true) (a.put oj.dst v) (by rw [put_size]; exact hs) (by simpa using hls) hfree' (ready_mono hr (Ne.symm hji))
        (hsp.of_same (execOp_put oi (fun cs b => hsel i oi cs b hi) a oj.dst v h3) (wanted_put oi a oj.dst v h3) (fun w h => (known_put hD hoj (on_ne hi hr hj)).1 h)) hreach' (fun vi hvi => ?_)
      rw [← Act.put_comm a vi v h2] at hvi ⊢
      rw [Array.setIfInBounds_comm _ _ hji] at hvi ⊢
      obtain ⟨w', hc', hv'⟩ := hvi
      refine ((H vi ⟨w', hc', fun k hk hl => ?_⟩).2 j (ready_mono hj hji) oj hoj).2 v ⟨w', hc', hv'⟩
      have hkj : k ≠ j := fun e => by
        subst e
        rw [getD_set_ne true (Ne.symm hji), not_listed hj] at hl
        cases hl
      have := hv' k hk (by rw [getD_set_ne true (Ne.symm hkj)]; exact hl)
      rwa [valOf_put_ne hD hoj hkj] at this

theorem soft_lex {n : Nat} (hD : Dsts ops n) (hst : ∀ k v w w', Chg (fun _ => False) w w' → N k v w → N k v w') {Q : Act → Prop} (hs : Region.noSelect ops = true) : ∀ (l : List Oper) (k : Nat) (listed : Array Bool) (a : Act), a.tmps.size = n → listed.size = ops.size →
    (∀ j, l[j]? = ops[k + j]?) → (∀ j, j < k → listed.getD j true = true) → k + l.length = ops.size → Region.lexFrom md ops l.length k listed = true → (∃ w, Chg (fun _ => False) w0 w ∧ Inv ops N listed a w) →
    wpSoft P ops md N w0 Q l k a → wpAnyS P md ops N w0 Q l.length listed a
  | [], k, _, _, _, _, _, hk, hkl, _, _, h => ⟨fun j hj => hk j (by simp at hkl; omega), h⟩
  | o :: l, k, listed, a, hsz, hls, hl, hk, hkl, hB, hreach, h => by
    have h0 : ops[k]? = some o := by simpa using (hl 0).symm
    simp only [List.length_cons, Region.lexFrom, Bool.and_eq_true] at hB
    obtain ⟨⟨hr, hf⟩, hB'⟩ := hB
    refine soft_first hD hst h0 (Region.noSelect_spec hs) l.length listed a hsz hls (Region.free_spec h0 hf) (by simpa using hr) h.1 hreach (fun v hv => ?_)
    have hkn : k < ops.size := (Array.getElem?_eq_some_iff.1 h0).1
    refine soft_lex hD hst hs l (k + 1) _ _ (by rw [put_size]; exact hsz) (by simpa using hls) (fun j => by have := hl (j + 1); simpa [Nat.add_assoc, Nat.add_comm 1 j] using this) (fun j hj => ?_) (by simp at hkl; omega) hB' hv (h.2 v ?_)
    · by_cases hjk : j = k
      · subst hjk; simp [hls, hkn, Array.getD_eq_getD_getElem?]
      · rw [getD_set_ne true (Ne.symm hjk)]; exact hk j (by omega)
    · obtain ⟨w, hc, hi⟩ := hv
      have := hi k hkn (by simp [hls, hkn, Array.getD_eq_getD_getElem?])
      rw [valOf_put hD hsz h0] at this
      exact ⟨w, hc, this⟩

theorem wpAny_of_soft {n : Nat} (hD : Dsts ops n) (hst : ∀ k v w w', Chg (fun _ => False) w w' → N k v w → N k v w') {Q : Act → Prop} {Q' : Exit → Act → World → Prop}
    (hQ : ∀ a w, Chg (fun _ => False) w0 w → (∀ k, k < ops.size → N k (valOf ops a k) w) → Q a → Q' .normal a w) : ∀ (fuel : Nat) (listed : Array Bool) (a : Act) (w : World), a.tmps.size = n → listed.size = ops.size → Chg (fun _ => False) w0 w → Inv ops N listed a w →
    wpAnyS P md ops N w0 Q fuel listed a → wpAny P md ops Q' fuel listed a w
  | 0, listed, a, w, hs, hls, hc, hv, h => by
    refine ⟨?_, hQ a w hc (fun k hk => hv k hk (h.1 k hk)) h.2⟩
    cases hr : Region.ready md ops listed with
    | nil => rfl
    | cons x xs =>
      have hx : x ∈ Region.ready md ops listed := by rw [hr]; exact List.mem_cons_self
      obtain ⟨h0, o, ho, _⟩ := mem_ready.1 hx
      rw [h.1 x (Array.getElem?_eq_some_iff.1 ho).1] at h0
      cases h0
  | fuel + 1, listed, a, w, hs, hls, hc, hv, h => by
    refine ⟨fun h0 => absurd h0 h.1, fun i hi => ?_⟩
    obtain ⟨_, o, ho, _⟩ := mem_ready.1 hi
    obtain ⟨hsp, hnext⟩ := h.2 i hi o ho
    have hkn := known_of_ready hls ho hi hv
    have step : ∀ v w1, Chg (fun _ => False) w w1 → N i v w1 → wpAny P md ops Q' fuel (listed.setIfInBounds i true) (a.put o.dst v) w1 := fun v w1 hc1 hn =>
      have hc2 := hc.trans hc1 (fun _ _ h => h)
      have hi2 := inv_put hD hst hs ho hv hc1 hn
      wpAny_of_soft hD hst hQ fuel _ _ w1 (by rw [put_size]; exact hs) (by simpa using hls) hc2 hi2 (hnext v ⟨w1, hc2, hi2⟩)
    have h3 := hsp w hc hkn
    unfold wpOp
    simp only [ho]
    split
    · rename_i hw
      rw [if_pos hw] at h3
      refine .inl ?_
      unfold softAt at h3
      unfold Oper.wp
      generalize (execOp a.eval o).run P w = r at *
      cases r with
      | ok m w' =>
        cases m <;> simp only [softUpon] at h3 <;> simp only [Oper.upon]
        case value u => exact step _ _ h3.1 h3.2
        case skip => exact step _ _ h3.1 h3.2
        case enter f args => exact h3.mono fun e w'' ⟨v, he, hc1, hn⟩ => by subst he; exact step _ _ hc1 hn
      | halt x w' => simp only [softUpon] at h3
    · rename_i hw
      rw [if_neg hw] at h3
      exact step _ _ (Chg.refl _ _) h3

/-- One walk, in the text's order, where each operation's value bears a note that stands. -/
theorem wp_region_soft {id : Nat} {Q : Exit → Act → World → Prop} {a : Act} {w : World} {l : List Oper} (N : Nat → Value → World → Prop) (hm : P.follows .mixedOrders = true) (hB : Region.lexB .any l.toArray = true) (hD : dstsB l a.tmps.size = true)
    (hst : ∀ k v w w', Chg (fun _ => False) w w' → N k v w → N k v w')
    (h : wpSoft P l.toArray .any N w (fun a' => ∀ w', Chg (fun _ => False) w w' → (∀ k, k < l.length → N k (valOf l.toArray a' k) w') → Q .normal a' w') l 0 a) : (Code.region id l.toArray true).wp P Q a w := by
  simp only [Region.lexB, Bool.and_eq_true] at hB
  refine wp_region_any hm (wpAny_of_soft (n := a.tmps.size) (dsts_of hD) hst (w0 := w) (Q := fun a' => ∀ w', Chg (fun _ => False) w w' → (∀ k, k < l.length → N k (valOf l.toArray a' k) w') → Q .normal a' w') (fun a w' hc hn h => h w' hc (by simpa using hn)) _ _ _ _ rfl (by simp) (Chg.refl _ w).drew ?_ ?_)
  · intro k hk hl
    simp [Array.getD_eq_getD_getElem?] at hl hk
    simp [hk] at hl
  · have := soft_lex (P := P) (ops := l.toArray) (md := .any) (N := N) (w0 := w) (dsts_of hD) hst hB.1 l 0 (Array.replicate l.toArray.size false) a rfl (by simp) (by simp) (fun j hj => absurd hj (by omega)) (by simp) (by simpa using hB.2)
      ⟨w.drew, (Chg.refl _ w).drew, fun k hk hl => by simp [Array.getD_eq_getD_getElem?] at hl hk; simp [hk] at hl⟩ h
    simpa using this
end
end Go.Proofs.Ytchlolgfahgdeaa.Rgn
