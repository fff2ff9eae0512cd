/- What is not seen plays no part: events turned where a place does not see them. Conditions: none. -/
import Derived.Test.YtchlolgfahgdeaaEv
set_option linter.unusedSimpArgs false
set_option linter.unusedVariables false
namespace Go.Proofs.Ytchlolgfahgdeaa.Ev
open Go.Proofs.Ytchlolgfahgdeaa.Lbl

/-- Whether an event leaves no trace at all. -/
noncomputable def unseen (c : Cfg) (place : Nat) (e : Ev) : Bool := !may c e || (decide (e.kind = 1) && !seen c place (c.sessions.getD e.session.toNat 0).toNat)
def mix (c : Cfg) (place : Nat) (a b : List Fate) : List Fate := (List.range a.length).map fun p => if (c.labels.length ≤ p ∨ seen c place p = false) ∧ p < b.length then b.getD p Fate.zero else a.getD p Fate.zero
def mixes (c : Cfg) (place : Nat) (a b : List (List Fate)) : List (List Fate) := (List.range a.length).map fun i => if i < b.length then mix c place (a.getD i []) (b.getD i []) else a.getD i []
def askReq (q o : Req) : Req :=
  if q.kind < 1 ∨ 7 < q.kind then { o with kind := q.kind } else if q.kind = 6 ∨ q.kind = 7 then { q with key := o.key, limit := o.limit } else q
noncomputable def changed (c : Cfg) (place : Nat) (e o : Ev) : Ev :=
  if may c e = false then o
  else if e.kind = 1 then { e with strikes := o.strikes, place := o.place, req := askReq e.req o.req }
  else if e.kind = 2 then { e with session := o.session, req := o.req, place := o.place, strikes := mixes c place e.strikes o.strikes }
  else if e.kind = 3 ∨ e.kind = 4 then
    (if seen c place e.place.toNat = false ∧ (o.kind = 5 ∨ o.kind = 3 ∨ o.kind = 4) ∧ may c o = true ∧ (o.kind = 5 ∨ seen c place o.place.toNat = false) then { e with kind := o.kind, place := o.place, strikes := mixes c place e.strikes o.strikes } else { e with strikes := mixes c place e.strikes o.strikes })
  else { e with strikes := mixes c place e.strikes o.strikes }

theorem unseen_none {c : Cfg} {place : Nat} {e : Ev} (h : unseen c place e = true) : purge1 c place e = none := by
  unfold unseen at h
  unfold purge1
  by_cases hm : may c e = false
  · rw [if_pos hm]
  · have hm' : may c e = true := by simpa using hm
    rw [hm'] at h
    simp only [Bool.not_true, Bool.false_or, Bool.and_eq_true, decide_eq_true_eq, Bool.not_eq_true'] at h
    rw [if_neg hm, if_pos h.1, if_neg (by rw [h.2]; simp)]

theorem round_mix (c : Cfg) (place : Nat) (a b : List Fate) : round c place (mix c place a b) = round c place a := by
  unfold round
  apply List.map_congr_left
  intro p hp
  rw [List.mem_range] at hp
  have hl : (mix c place a b).length = a.length := by simp [mix]
  rw [hl]
  by_cases h : seen c place p = true ∧ p < a.length
  · rw [if_pos h, if_pos h]
    have : (mix c place a b).getD p Fate.zero = if (c.labels.length ≤ p ∨ seen c place p = false) ∧ p < b.length then b.getD p Fate.zero else a.getD p Fate.zero := by
      simp [mix, List.getD_eq_getElem?_getD, h.2]
    rw [this, if_neg]
    rintro ⟨h1 | h1, _⟩
    · omega
    · rw [h.1] at h1; cases h1
  · rw [if_neg h, if_neg h]
theorem strikes_mixes (c : Cfg) (place : Nat) (a b : List (List Fate)) : strikes c place (mixes c place a b) = strikes c place a := by
  unfold strikes mixes
  rw [List.map_map]
  apply List.ext_getElem
  · simp
  · intro i h1 h2
    simp only [List.length_map, List.length_range] at h1 h2
    simp only [List.getElem_map, List.getElem_range, Function.comp]
    split
    · rw [round_mix]; simp [List.getD_eq_getElem?_getD, h1]
    · simp [List.getD_eq_getElem?_getD, h1]
theorem req_ask (q o : Req) : req (askReq q o) = req q := by
  unfold askReq
  by_cases h1 : q.kind < 1 ∨ 7 < q.kind
  · rw [if_pos h1]; unfold req; simp only; rw [if_pos (by omega), if_pos (by omega)]
  · rw [if_neg h1]
    by_cases h2 : q.kind = 6 ∨ q.kind = 7
    · rw [if_pos h2]; unfold req; simp only; rw [if_neg (by omega), if_pos (by omega), if_neg (by omega), if_pos (by omega)]
    · rw [if_neg h2]

theorem purge1_changed (c : Cfg) (place : Nat) (e o : Ev) (h' : may c e = true) : purge1 c place (changed c place e o) = purge1 c place e := by
  have h : ¬ may c e = false := by rw [h']; simp
  have hc := may_mayB h'
  have hk := may_kinds h'
  rw [changed, if_neg h]
  by_cases k1 : e.kind = 1
  · rw [if_pos k1]
    have hm : may c { e with strikes := o.strikes, place := o.place, req := askReq e.req o.req } = true := by
      rw [may_of hc]; unfold may at h'; rw [hc] at h'; simpa [k1] using h'
    rw [purge1, if_neg (by rw [hm]; simp), purge1, if_neg h, if_pos k1, if_pos k1]
    simp only [req_ask]
  · rw [if_neg k1]
    by_cases k2 : e.kind = 2
    · rw [if_pos k2]
      have hm : may c { e with session := o.session, req := o.req, place := o.place, strikes := mixes c place e.strikes o.strikes } = true := by
        rw [may_of hc]; simp [k2]
      rw [purge1, if_neg (by rw [hm]; simp), purge1, if_neg h, if_neg k1, if_neg k1, if_neg (by simp only; omega), if_neg (by omega)]
      simp only [strikes_mixes]
    · rw [if_neg k2]
      have hself : may c { e with strikes := mixes c place e.strikes o.strikes } = true := by
        rw [may_of hc]; unfold may at h'; rw [hc] at h'; simpa using h'
      by_cases k3 : e.kind = 3 ∨ e.kind = 4
      · rw [if_pos k3]
        by_cases hx : seen c place e.place.toNat = false ∧ (o.kind = 5 ∨ o.kind = 3 ∨ o.kind = 4) ∧ may c o = true ∧ (o.kind = 5 ∨ seen c place o.place.toNat = false)
        · rw [if_pos hx]
          obtain ⟨hs, hko, hmo, hso⟩ := hx
          have hm : may c { e with kind := o.kind, place := o.place, strikes := mixes c place e.strikes o.strikes } = true := by
            rw [may_of hc]
            unfold may at hmo
            rw [hc] at hmo
            have n1 : ¬ o.kind = 1 := by omega
            rw [if_neg n1]
            simpa [n1] using hmo
          rw [purge1, if_neg (by rw [hm]; simp), purge1, if_neg h, if_neg k1, if_pos k3, if_neg (by simp only; omega)]
          simp only [hs, strikes_mixes]
          by_cases k5 : o.kind = 5
          · rw [if_neg (by omega)]
            simp [k5]
          · rw [if_pos (by omega)]
            have : seen c place o.place.toNat = false := by rcases hso with h | h; · exact absurd h k5
                                                            · exact h
            simp [this]
        · rw [if_neg hx, purge1, if_neg (by rw [hself]; simp), purge1, if_neg h, if_neg k1, if_pos k3, if_neg k1, if_pos k3]
          simp only [strikes_mixes]
      · rw [if_neg k3, purge1, if_neg (by rw [hself]; simp), purge1, if_neg h, if_neg k1, if_neg k3, if_neg k1, if_neg k3]
        simp only [strikes_mixes]

/-- What one place of the list becomes. -/
noncomputable def turn1 (c : Cfg) (place : Nat) (others : List Ev) (i : Nat) (e : Ev) : List Ev :=
  (match others[i]? with | some o => if unseen c place o = true then [o] else [] | none => []) ++
  (if unseen c place e = true then [] else match others[i]? with | some o => [changed c place e o] | none => [e])
noncomputable def turned (c : Cfg) (place : Nat) (events others : List Ev) : Nat → List Ev
  | 0 => []
  | k + 1 => turned c place events others k ++ (match events[k]? with | some e => turn1 c place others k e | none => [])
theorem turn1_purge (c : Cfg) (place : Nat) (others : List Ev) (i : Nat) (e : Ev) : (turn1 c place others i e).filterMap (purge1 c place) = [e].filterMap (purge1 c place) := by
  have hself : unseen c place e = true → [e].filterMap (purge1 c place) = [] := fun h => by simp [unseen_none h]
  have hmay : ¬ unseen c place e = true → may c e = true := fun h => by
    cases hm : may c e with
    | true => rfl
    | false => exact absurd (by unfold unseen; simp [hm]) h
  unfold turn1
  rw [List.filterMap_append]
  cases ho : others[i]? with
  | none =>
    simp only [List.filterMap_nil]
    show (if unseen c place e = true then [] else [e]).filterMap (purge1 c place) = _
    split
    · rw [hself ‹_›]; rfl
    · rfl
  | some o =>
    have h1 : (if unseen c place o = true then [o] else []).filterMap (purge1 c place) = [] := by
      split
      · simp [unseen_none ‹_›]
      · rfl
    simp only [h1, List.nil_append]
    split
    · rw [hself ‹_›]; rfl
    · rename_i hu
      rw [List.filterMap_cons, List.filterMap_cons, purge1_changed c place e o (hmay hu)]
theorem turned_purge (c : Cfg) (place : Nat) (events others : List Ev) : ∀ k, k ≤ events.length → (turned c place events others k).filterMap (purge1 c place) = (events.take k).filterMap (purge1 c place)
  | 0, _ => by simp [turned]
  | k + 1, hk => by
    have hk' : k < events.length := by omega
    rw [turned, List.getElem?_eq_getElem hk', List.filterMap_append, turned_purge c place events others k (by omega)]
    simp only [turn1_purge]
    rw [List.take_succ_eq_append_getElem hk', List.filterMap_append]
theorem purge_turned (c : Cfg) (place : Int) (events others : List Ev) : purge c place (turned c place.toNat events others events.length) = purge c place events := by
  unfold purge
  split
  · rw [turned_purge c _ events others _ (Nat.le_refl _), List.take_length]
  · rfl
end Go.Proofs.Ytchlolgfahgdeaa.Ev
