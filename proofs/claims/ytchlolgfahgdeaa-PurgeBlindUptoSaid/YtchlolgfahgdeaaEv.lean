/- Events as plain data; what purge's functions answer, as plain functions; what the laws ask of them. Conditions: none. -/
import Derived.Test.YtchlolgfahgdeaaLbl
set_option linter.unusedSimpArgs false
set_option linter.unusedVariables false
namespace Go.Proofs.Ytchlolgfahgdeaa.Ev
open Go.Proofs.Ytchlolgfahgdeaa.Lbl

structure Fate where
  done : Int
  keep : Int
  torn : UInt8
  deriving DecidableEq
structure Req where
  kind : Int
  life : Int
  number : Int
  place : Int
  key : ByteArray
  to : ByteArray
  value : List UInt8
  limit : Int
  deriving DecidableEq
structure Ev where
  kind : Int
  session : Int
  req : Req
  place : Int
  strikes : List (List Fate)
  deriving DecidableEq
def Fate.zero : Fate := ⟨0, 0, 0⟩
def Req.zero : Req := ⟨0, 0, 0, 0, ⟨#[]⟩, ⟨#[]⟩, [], 0⟩

/-- Whether an event may be. -/
noncomputable def may (c : Cfg) (e : Ev) : Bool :=
  mayB c && (if e.kind = 1 then decide (0 ≤ e.session) && decide (e.session < (c.sessions.length : Int)) else if e.kind = 3 ∨ e.kind = 4 then decide (0 ≤ e.place) && decide (e.place < (c.labels.length : Int)) else decide (e.kind = 2 ∨ e.kind = 5))
/-- Whether a place is seen from another one. -/
def seen (c : Cfg) (from_ p : Nat) : Bool := leq (c.labels.getD p 0) (c.labels.getD from_ 0)
/-- A request with what counts. -/
def req (q : Req) : Req :=
  if q.kind ≤ 1 ∨ 7 < q.kind then { Req.zero with kind := q.kind }
  else if 6 ≤ q.kind then { Req.zero with kind := q.kind, life := q.life, number := q.number }
  else { kind := q.kind, life := q.life, number := q.number, place := q.place, key := q.key, to := if q.kind = 3 then q.to else ⟨#[]⟩, value := if q.kind = 4 then q.value else [], limit := if q.kind = 3 then q.limit else 0 }
def round (c : Cfg) (from_ : Nat) (fates : List Fate) : List Fate := (List.range c.labels.length).map fun p => if seen c from_ p = true ∧ p < fates.length then fates.getD p Fate.zero else Fate.zero
def strikes (c : Cfg) (from_ : Nat) (all : List (List Fate)) : List (List Fate) := all.map (round c from_)
/-- What a place may know of one event. -/
noncomputable def purge1 (c : Cfg) (place : Nat) (e : Ev) : Option Ev :=
  if may c e = false then none
  else if e.kind = 1 then (if seen c place (c.sessions.getD e.session.toNat 0).toNat = true then some { kind := 1, session := e.session, req := req e.req, place := 0, strikes := [] } else none)
  else if e.kind = 3 ∨ e.kind = 4 then
    (if seen c place e.place.toNat = true then some { kind := e.kind, session := 0, req := Req.zero, place := e.place, strikes := strikes c place e.strikes } else some { kind := 5, session := 0, req := Req.zero, place := 0, strikes := strikes c place e.strikes })
  else some { kind := e.kind, session := 0, req := Req.zero, place := 0, strikes := strikes c place e.strikes }
noncomputable def purge (c : Cfg) (place : Int) (l : List Ev) : List Ev :=
  if mayB c = true ∧ 0 ≤ place ∧ place < (c.labels.length : Int) then l.filterMap (purge1 c place.toNat) else []
noncomputable def still1 (c : Cfg) (e : Ev) : Option Ev :=
  if may c e = false then none else if e.kind = 3 ∨ e.kind = 4 then some { kind := 5, session := 0, req := Req.zero, place := 0, strikes := e.strikes } else some e
noncomputable def still (c : Cfg) (l : List Ev) : List Ev := l.filterMap (still1 c)

/-! ### What the laws ask -/
theorem may_mayB {c : Cfg} {e : Ev} (h : may c e = true) : mayB c = true := by
  unfold may at h
  simp only [Bool.and_eq_true] at h
  exact h.1
theorem seen_trans {c : Cfg} {a b d : Nat} (h : seen c a b = true) (k : seen c b d = true) : seen c a d = true := leq_trans k h
theorem seen_refl (c : Cfg) (a : Nat) : seen c a a = true := leq_refl _

theorem purge_append (c : Cfg) (place : Int) (a b : List Ev) : purge c place (a ++ b) = purge c place a ++ purge c place b := by
  unfold purge; split
  · exact List.filterMap_append
  · rfl
theorem still_append (c : Cfg) (a b : List Ev) : still c (a ++ b) = still c a ++ still c b := List.filterMap_append

theorem req_req (q : Req) : req (req q) = req q := by
  unfold req
  by_cases h1 : q.kind ≤ 1 ∨ 7 < q.kind
  · simp [h1]
  · by_cases h2 : 6 ≤ q.kind
    · simp [h1, h2]
    · simp only [h1, h2, if_false]
      by_cases h3 : q.kind = 3 <;> by_cases h4 : q.kind = 4 <;> simp [h3, h4]
theorem round_len (c : Cfg) (p : Nat) (f : List Fate) : (round c p f).length = c.labels.length := by simp [round]
theorem round_get (c : Cfg) (p : Nat) (f : List Fate) (i : Nat) (hi : i < c.labels.length) : (round c p f).getD i Fate.zero = if seen c p i = true ∧ i < f.length then f.getD i Fate.zero else Fate.zero := by
  simp [round, List.getD_eq_getElem?_getD, hi]
/-- A lower place knows no more by way of a higher one. -/
theorem round_round (c : Cfg) (p q : Nat) (h : ∀ i, seen c q i = true → seen c p i = true) (f : List Fate) : round c q (round c p f) = round c q f := by
  unfold round
  apply List.map_congr_left
  intro i hi
  rw [List.mem_range] at hi
  have e1 := round_get c p f i hi
  have e2 := round_len c p f
  unfold round at e1 e2
  rw [e1, e2]
  by_cases hs : seen c q i = true
  · simp only [hs, h i hs, hi, true_and, and_true, if_true]
  · simp only [hs, false_and, if_false]
    rfl
theorem strikes_strikes (c : Cfg) (p q : Nat) (h : ∀ i, seen c q i = true → seen c p i = true) (s : List (List Fate)) : strikes c q (strikes c p s) = strikes c q s := by
  unfold strikes
  rw [List.map_map]
  exact List.map_congr_left fun f _ => round_round c p q h f

theorem may_kinds {c : Cfg} {e : Ev} (h : may c e = true) : e.kind = 1 ∨ e.kind = 2 ∨ e.kind = 3 ∨ e.kind = 4 ∨ e.kind = 5 := by
  unfold may at h
  simp only [Bool.and_eq_true] at h
  have h := h.2
  split at h
  · exact .inl ‹_›
  · split at h
    · rcases ‹e.kind = 3 ∨ e.kind = 4› with h | h <;> simp [h]
    · have := of_decide_eq_true h
      omega
theorem may_of {c : Cfg} (hc : mayB c = true) {k s p : Int} {q : Req} {st : List (List Fate)} :
    may c ⟨k, s, q, p, st⟩ = (if k = 1 then decide (0 ≤ s) && decide (s < (c.sessions.length : Int)) else if k = 3 ∨ k = 4 then decide (0 ≤ p) && decide (p < (c.labels.length : Int)) else decide (k = 2 ∨ k = 5)) := by
  unfold may; rw [hc, Bool.true_and]

theorem purge1_idem (c : Cfg) (p q : Nat) (hq : seen c p q = true) (e : Ev) : (purge1 c p e).bind (purge1 c q) = purge1 c q e := by
  have hm : ∀ i, seen c q i = true → seen c p i = true := fun i hi => seen_trans hq hi
  by_cases h : may c e = false
  · unfold purge1; simp [h]
  have h' : may c e = true := by simpa using h
  have hc := may_mayB h'
  have e1 : ∀ r, purge1 c r e = if e.kind = 1 then (if seen c r (c.sessions.getD e.session.toNat 0).toNat = true then some { kind := 1, session := e.session, req := req e.req, place := 0, strikes := [] } else none)
      else if e.kind = 3 ∨ e.kind = 4 then (if seen c r e.place.toNat = true then some { kind := e.kind, session := 0, req := Req.zero, place := e.place, strikes := strikes c r e.strikes } else some { kind := 5, session := 0, req := Req.zero, place := 0, strikes := strikes c r e.strikes })
      else some { kind := e.kind, session := 0, req := Req.zero, place := 0, strikes := strikes c r e.strikes } := fun r => by rw [purge1, if_neg h]
  have h5 : ∀ st, may c ⟨5, 0, Req.zero, 0, st⟩ = true := fun st => by rw [may_of hc]; simp
  have i5 : ∀ r st, purge1 c r ⟨5, 0, Req.zero, 0, st⟩ = some ⟨5, 0, Req.zero, 0, strikes c r st⟩ := fun r st => by rw [purge1, if_neg (by rw [h5]; simp)]; simp
  have hk := may_kinds h'
  rw [e1 p, e1 q]
  by_cases k1 : e.kind = 1
  · simp only [k1, if_true]
    have hms : may c ⟨1, e.session, req e.req, 0, []⟩ = true := by
      rw [may_of hc]
      unfold may at h'
      rw [hc] at h'
      simpa [k1] using h'
    have i1 : purge1 c q ⟨1, e.session, req e.req, 0, []⟩ = if seen c q (c.sessions.getD e.session.toNat 0).toNat = true then some { kind := 1, session := e.session, req := req e.req, place := 0, strikes := [] } else none := by
      rw [purge1, if_neg (by rw [hms]; simp)]; simp [req_req]
    by_cases s2 : seen c p (c.sessions.getD e.session.toNat 0).toNat = true
    · rw [if_pos s2, Option.bind_some, i1]
    · rw [if_neg s2, if_neg (fun s => s2 (hm _ s))]; rfl
  · by_cases k3 : e.kind = 3 ∨ e.kind = 4
    · simp only [k1, k3, if_true, if_false]
      by_cases s2 : seen c p e.place.toNat = true
      · rw [if_pos s2, Option.bind_some]
        have hmp : may c ⟨e.kind, 0, Req.zero, e.place, strikes c p e.strikes⟩ = true := by
          rw [may_of hc]
          unfold may at h'
          rw [hc] at h'
          simpa [k1, k3] using h'
        rw [purge1, if_neg (by rw [hmp]; simp)]
        simp only [k1, k3, if_true, if_false, strikes_strikes c p q hm]
      · rw [if_neg s2, Option.bind_some, i5, if_neg (fun s => s2 (hm _ s)), strikes_strikes c p q hm]
    · simp only [k1, k3, if_false]
      rw [Option.bind_some]
      have hmp : may c ⟨e.kind, 0, Req.zero, 0, strikes c p e.strikes⟩ = true := by
        rw [may_of hc]; simp only [k1, k3, if_false]; rcases hk with h | h | h | h | h <;> simp_all
      rw [purge1, if_neg (by rw [hmp]; simp)]
      simp only [k1, k3, if_false, strikes_strikes c p q hm]

theorem filterMap_idem {α : Type} (f g : α → Option α) (h : ∀ x, (f x).bind g = g x) (l : List α) : (l.filterMap f).filterMap g = l.filterMap g := by
  rw [List.filterMap_filterMap]
  congr 1
  funext x
  exact h x
/-- Once is enough. -/
theorem purge_purge (c : Cfg) (place : Int) (l : List Ev) : purge c place (purge c place l) = purge c place l := by
  unfold purge
  split
  · exact filterMap_idem _ _ (purge1_idem c _ _ (seen_refl c _)) l
  · rfl
theorem purge_lower (c : Cfg) (place lower : Int) (l : List Ev) (hc : mayB c = true) (h0 : 0 ≤ place) (h1 : place < (c.labels.length : Int)) (h2 : 0 ≤ lower) (h3 : lower < (c.labels.length : Int)) (hs : seen c place.toNat lower.toNat = true) :
    purge c lower (purge c place l) = purge c lower l := by
  unfold purge
  rw [if_pos ⟨hc, h2, h3⟩, if_pos ⟨hc, h0, h1⟩, if_pos ⟨hc, h2, h3⟩]
  exact filterMap_idem _ _ (purge1_idem c _ _ hs) l

theorem purge1_still (c : Cfg) (p : Nat) (e : Ev) : (still1 c e).bind (purge1 c p) = (purge1 c p e).bind (still1 c) := by
  by_cases h : may c e = false
  · unfold purge1 still1; simp [h]
  have h' : may c e = true := by simpa using h
  have hc := may_mayB h'
  have hk := may_kinds h'
  have h5 : ∀ st, may c ⟨5, 0, Req.zero, 0, st⟩ = true := fun st => by rw [may_of hc]; simp
  by_cases k1 : e.kind = 1
  · have hms : may c ⟨1, e.session, req e.req, 0, []⟩ = true := by
      rw [may_of hc]
      unfold may at h'
      rw [hc] at h'
      simpa [k1] using h'
    have s1 : still1 c e = some e := by rw [still1, if_neg h, if_neg (by omega)]
    rw [s1, Option.bind_some, purge1, if_neg h, if_pos k1]
    split
    · rw [Option.bind_some, still1, if_neg (by rw [hms]; simp), if_neg (by simp)]
    · rfl
  · by_cases k3 : e.kind = 3 ∨ e.kind = 4
    · have s1 : still1 c e = some ⟨5, 0, Req.zero, 0, e.strikes⟩ := by rw [still1, if_neg h, if_pos k3]
      have i5 : purge1 c p ⟨5, 0, Req.zero, 0, e.strikes⟩ = some ⟨5, 0, Req.zero, 0, strikes c p e.strikes⟩ := by rw [purge1, if_neg (by rw [h5]; simp)]; simp
      rw [s1, Option.bind_some, i5, purge1, if_neg h, if_neg k1, if_pos k3]
      split
      · have hmp : may c ⟨e.kind, 0, Req.zero, e.place, strikes c p e.strikes⟩ = true := by
          rw [may_of hc]
          unfold may at h'
          rw [hc] at h'
          simpa [k1, k3] using h'
        rw [Option.bind_some, still1, if_neg (by rw [hmp]; simp), if_pos k3]
      · rw [Option.bind_some, still1, if_neg (by rw [h5]; simp), if_neg (by simp)]
    · have s1 : still1 c e = some e := by rw [still1, if_neg h, if_neg k3]
      have hmp : may c ⟨e.kind, 0, Req.zero, 0, strikes c p e.strikes⟩ = true := by
        rw [may_of hc]; simp only [k1, k3, if_false]; rcases hk with h | h | h | h | h <;> simp_all
      rw [s1, Option.bind_some, purge1, if_neg h, if_neg k1, if_neg k3, Option.bind_some, still1, if_neg (by rw [hmp]; simp), if_neg k3]
/-- Purge of Still is Still of Purge. -/
theorem purge_still (c : Cfg) (place : Int) (l : List Ev) : purge c place (still c l) = still c (purge c place l) := by
  unfold purge still
  split
  · rw [List.filterMap_filterMap, List.filterMap_filterMap]
    congr 1
    funext e
    exact purge1_still c _ e
  · rfl

/-- Of the events that may be and are no Ask: how many strikes; below 0: a Tick. -/
noncomputable def slot1 (c : Cfg) (e : Ev) : Option Int := if e.kind = 1 ∨ may c e = false then none else some (if e.kind = 2 then -1 - (e.strikes.length : Int) else (e.strikes.length : Int))
noncomputable def slots (c : Cfg) (l : List Ev) : List Int := l.filterMap (slot1 c)
theorem purge1_slot (c : Cfg) (p : Nat) (e : Ev) : (purge1 c p e).bind (slot1 c) = slot1 c e := by
  by_cases h : may c e = false
  · unfold purge1 slot1; simp [h]
  have h' : may c e = true := by simpa using h
  have hc := may_mayB h'
  have hk := may_kinds h'
  have hl : (strikes c p e.strikes).length = e.strikes.length := by simp [strikes]
  have h5 : ∀ st, may c ⟨5, 0, Req.zero, 0, st⟩ = true := fun st => by rw [may_of hc]; simp
  by_cases k1 : e.kind = 1
  · have : slot1 c e = none := by rw [slot1, if_pos (.inl k1)]
    rw [this, purge1, if_neg h, if_pos k1]
    split
    · rw [Option.bind_some, slot1, if_pos (.inl rfl)]
    · rfl
  · by_cases k3 : e.kind = 3 ∨ e.kind = 4
    · have s1 : slot1 c e = some (e.strikes.length : Int) := by rw [slot1, if_neg (by simp [k1, h']), if_neg (by omega)]
      rw [s1, purge1, if_neg h, if_neg k1, if_pos k3]
      split
      · have hmp : may c ⟨e.kind, 0, Req.zero, e.place, strikes c p e.strikes⟩ = true := by
          rw [may_of hc]
          unfold may at h'
          rw [hc] at h'
          simpa [k1, k3] using h'
        rw [Option.bind_some, slot1, if_neg (by rw [hmp]; simp [k1]), if_neg (by simp only; omega)]
        simp only [hl]
      · rw [Option.bind_some, slot1, if_neg (by rw [h5]; simp), if_neg (by simp)]
        simp only [hl]
    · have hmp : may c ⟨e.kind, 0, Req.zero, 0, strikes c p e.strikes⟩ = true := by
        rw [may_of hc]; simp only [k1, k3, if_false]; rcases hk with h | h | h | h | h <;> simp_all
      have e1 : slot1 c ⟨e.kind, 0, Req.zero, 0, strikes c p e.strikes⟩ = some (if e.kind = 2 then -1 - ((strikes c p e.strikes).length : Int) else ((strikes c p e.strikes).length : Int)) := by rw [slot1, if_neg (by rw [hmp]; simp [k1])]
      have e2 : slot1 c e = some (if e.kind = 2 then -1 - (e.strikes.length : Int) else (e.strikes.length : Int)) := by rw [slot1, if_neg (by rw [h']; simp [k1])]
      rw [purge1, if_neg h, if_neg k1, if_neg k3, Option.bind_some, e1, e2, hl]
/-- Slots and losses are known. -/
theorem purge_slots (c : Cfg) (place : Int) (l : List Ev) (hc : mayB c = true) (h0 : 0 ≤ place) (h1 : place < (c.labels.length : Int)) : slots c (purge c place l) = slots c l := by
  unfold purge slots
  rw [if_pos ⟨hc, h0, h1⟩, List.filterMap_filterMap]
  congr 1
  funext e
  exact purge1_slot c _ e
end Go.Proofs.Ytchlolgfahgdeaa.Ev
