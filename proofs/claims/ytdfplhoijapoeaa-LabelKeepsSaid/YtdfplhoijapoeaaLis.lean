/- Sorting of few labels: insertionSortOrdered by contract. Conditions: the row reads so. -/
import Derived.Test.YtdfplhoijapoeaaLpl
import Derived.RegionTactic
import Derived.ChangeAlike
import Derived.BigRegion
import Derived.Deep.QuietTactic
import Derived.BigQuiet
set_option linter.unusedVariables false
set_option linter.unusedSimpArgs false
namespace Go.Proofs.Ytdfplhoijapoeaa.Lis
open Go.RowKit Go.Proofs.Ytdfplhoijapoeaa.Lib1 Go.Proofs.Ytdfplhoijapoeaa.Lat Go.Proofs.Ytdfplhoijapoeaa.Lbl Go.Proofs.Ytdfplhoijapoeaa.Lbw Go.Proofs.Ytdfplhoijapoeaa.Lck Go.Proofs.Ytdfplhoijapoeaa.Lmay Go.Proofs.Ytdfplhoijapoeaa.Lpl

theorem isNaN_any (x : Int) (w : World) : Calls Try.prog 99 #[.int .u64 x] w fun e w' => e = .returned (.bool false) ∧ w' = w := by
  have hne : (x != x) = false := by simp
  go_enter Try.func99, Try.ntmps99
  go_wp2
  go_ret
  exact ⟨rfl, rfl⟩
theorem less_any (x y : Int) (w : World) : Calls Try.prog 88 #[.int .u64 x, .int .u64 y] w fun e w' => e = .returned (.bool (decide (x < y))) ∧ w' = w := by
  go_enter Try.func88, Try.ntmps88
  go_wp2_with (go_at_call 99; refine (isNaN_any _ _).mono ?_; rintro e w' ⟨rfl, rfl⟩)
  all_goals go_ret
  all_goals exact ⟨rfl, rfl⟩

/-- The first cells are these numbers. -/
def SA (arr : Array Value) (cs : List Nat) : Prop := ∀ q, q < cs.length → arr[q]? = some (.int .u64 ((cs.getD q 0 : Nat) : Int))
def swp (cs : List Nat) (j : Nat) : List Nat := (cs.set (j + 1) (cs.getD j 0)).set j (cs.getD (j + 1) 0)
theorem swp_len (cs : List Nat) (j : Nat) : (swp cs j).length = cs.length := by simp [swp]
theorem swp_get (cs : List Nat) (j : Nat) (h : j + 1 < cs.length) (q : Nat) : (swp cs j).getD q 0 = if q = j then cs.getD (j + 1) 0 else if q = j + 1 then cs.getD j 0 else cs.getD q 0 := by
  unfold swp
  simp only [List.getD_eq_getElem?_getD, List.getElem?_set, List.length_set]
  by_cases h1 : q = j
  · subst h1; simp; rw [if_pos (by omega)]; rfl
  · rw [if_neg (Ne.symm h1), if_neg h1]
    by_cases h2 : q = j + 1
    · subst h2; simp [h]
    · rw [if_neg (Ne.symm h2), if_neg h2]
theorem swp_perm (cs : List Nat) : ∀ (j : Nat), j + 1 < cs.length → (swp cs j).Perm cs := by
  induction cs with
  | nil => intro j h; simp at h
  | cons a cs ih =>
    intro j h
    cases j with
    | zero =>
      cases cs with
      | nil => simp at h
      | cons b cs => simp [swp]; exact List.Perm.swap a b cs
    | succ j =>
      have := ih j (by simpa using h)
      have e : swp (a :: cs) (j + 1) = a :: swp cs j := by simp [swp]
      rw [e]
      exact this.cons a
theorem SA.swp {arr : Array Value} {cs : List Nat} (h : SA arr cs) {j : Nat} (hj : j + 1 < cs.length) : SA ((arr.setIfInBounds (j + 1) (.int .u64 ((cs.getD j 0 : Nat) : Int))).setIfInBounds j (.int .u64 ((cs.getD (j + 1) 0 : Nat) : Int))) (Lis.swp cs j) := by
  intro q hq
  rw [swp_len] at hq
  rw [swp_get cs j hj]
  have hs : cs.length ≤ arr.size := by
    rcases Nat.lt_or_ge arr.size cs.length with h1 | h1
    · have := h arr.size h1
      simp at this
    · exact h1
  by_cases h1 : q = j
  · subst h1
    rw [Array.getElem?_setIfInBounds_self_of_lt (by simp; omega), if_pos rfl]
  · rw [Array.getElem?_setIfInBounds_ne (Ne.symm h1), if_neg h1]
    by_cases h2 : q = j + 1
    · subst h2
      rw [Array.getElem?_setIfInBounds_self_of_lt (by omega), if_pos rfl]
    · rw [Array.getElem?_setIfInBounds_ne (Ne.symm h2), if_neg h2]
      exact h q hq
/-- Sorted up to i. -/
def Srt (cs : List Nat) (i : Nat) : Prop := ∀ p q, p < q → q < i → cs.getD p 0 ≤ cs.getD q 0
/-- Sorted up to i, but for the one at j, which is not above those behind it. -/
def Mid (cs : List Nat) (i j : Nat) : Prop := (∀ p q, p < q → q ≤ i → p ≠ j → q ≠ j → cs.getD p 0 ≤ cs.getD q 0) ∧ ∀ q, j < q → q ≤ i → cs.getD j 0 ≤ cs.getD q 0
theorem Mid.start {cs : List Nat} {i : Nat} (h : Srt cs i) : Mid cs i i := ⟨fun p q hpq hq _ h2 => h p q hpq (by omega), fun q h1 h2 => by omega⟩
theorem Mid.step {cs : List Nat} {i j : Nat} (h : Mid cs i (j + 1)) (hj : j + 1 < cs.length) (hi : j + 1 ≤ i) (hlt : cs.getD (j + 1) 0 < cs.getD j 0) : Mid (swp cs j) i j := by
  refine ⟨fun p q hpq hq h1 h2 => ?_, fun q h1 h2 => ?_⟩
  · rw [swp_get cs j hj, swp_get cs j hj, if_neg h1, if_neg h2]
    by_cases e1 : p = j + 1
    · subst e1
      rw [if_pos rfl, if_neg (by omega)]
      exact h.1 j q (by omega) hq (by omega) (by omega)
    · rw [if_neg e1]
      by_cases e2 : q = j + 1
      · subst e2
        rw [if_pos rfl]
        exact h.1 p j (by omega) (by omega) e1 (by omega)
      · rw [if_neg e2]
        exact h.1 p q hpq hq e1 e2
  · rw [swp_get cs j hj, swp_get cs j hj, if_pos rfl, if_neg (by omega)]
    by_cases e2 : q = j + 1
    · subst e2; rw [if_pos rfl]; omega
    · rw [if_neg e2]; exact h.2 q (by omega) h2
theorem Mid.stop0 {cs : List Nat} {i : Nat} (h : Mid cs i 0) : Srt cs (i + 1) := fun p q hpq hq => by
  by_cases e : p = 0
  · subst e; exact h.2 q hpq (by omega)
  · exact h.1 p q hpq (by omega) e (by omega)
theorem Mid.stop {cs : List Nat} {i j : Nat} (h : Mid cs i (j + 1)) (hge : ¬ cs.getD (j + 1) 0 < cs.getD j 0) (hi : j + 1 ≤ i) : Srt cs (i + 1) := fun p q hpq hq => by
  by_cases e1 : p = j + 1
  · subst e1; exact h.2 q hpq (by omega)
  · by_cases e2 : q = j + 1
    · subst e2
      by_cases e3 : p = j
      · subst e3; omega
      · have := h.1 p j (by omega) (by omega) e1 (by omega); omega
    · exact h.1 p q hpq (by omega) e1 e2

def InsRel (g : Nat) (T : TypeId) (ls : List Nat) (w : World) (i : Value) (wr : World) : Prop :=
  ∃ (k : Nat) (arr : Array Value) (cs : List Nat), 1 ≤ k ∧ i = .int .i64 k ∧ (k ≤ ls.length ∨ k = 1) ∧ wr.heap[g]? = some (.cells arr T (0, 0)) ∧ SA arr cs ∧ cs.length = ls.length ∧ cs.Perm ls ∧ Srt cs k ∧ Chg (fun q => q = g) w wr
def InnRel (g : Nat) (T : TypeId) (ls : List Nat) (k : Nat) (w : World) (j : Value) (wr : World) : Prop :=
  ∃ (m : Nat) (arr : Array Value) (cs : List Nat), m ≤ k ∧ j = .int .i64 m ∧ wr.heap[g]? = some (.cells arr T (0, 0)) ∧ SA arr cs ∧ cs.length = ls.length ∧ cs.Perm ls ∧ Mid cs k m ∧ Chg (fun q => q = g) w wr
set_option maxRecDepth 100000 in
set_option maxHeartbeats 3200000 in
theorem ins_any {w : World} {g T c : Nat} {arr : Array Value} (ls : List Nat) (hb : w.heap[g]? = some (.cells arr T (0, 0))) (ha : SA arr ls) (hn : ls.length ≤ 4611686018427387904) :
    Calls Try.prog 82 #[.slice (some ⟨g, 0, none⟩) ls.length c, .int .i64 0, .int .i64 ls.length] w fun e w' => e = .returned (.tuple #[]) ∧
      ∃ (arr' : Array Value) (cs : List Nat), w'.heap[g]? = some (.cells arr' T (0, 0)) ∧ SA arr' cs ∧ cs.length = ls.length ∧ cs.Perm ls ∧ Srt cs ls.length ∧ Chg (fun q => q = g) w w' := by
  have HB := Lib.hid hb
  have HA := Lib.hid ha
  clear hb ha
  go_enter Try.func82, Try.ntmps82
  go_wp2
  go_loopw [6, 7] (fun i u7 wr => InsRel g T ls w i wr) (fun i _ _ => ls.length - (intOf i).toNat)
  case atStart => exact ⟨1, arr, ls, Nat.le_refl _, rfl, .inr rfl, HB.out, HA.out, rfl, List.Perm.refl _, fun p q h1 h2 => by omega, Chg.refl _ _⟩
  case round =>
    obtain ⟨wo, rfl⟩ : ∃ wo : World, wo = wr := ⟨_, rfl⟩
    obtain ⟨k, arr1, cs1, hk1, rfl, hk2, hb, ha, hl, hp, hs, hc⟩ := hrel
    have HB1 := Lib.hid hb
    have HA1 := Lib.hid ha
    have HL1 := Lib.hid hl
    have HP1 := Lib.hid hp
    have HS1 := Lib.hid hs
    have HC1 := Lib.hid hc
    clear hb ha hl hp hs hc
    by_cases hlt : k < ls.length
    · go_wp2
      go_loopw [7] (fun j wr => InnRel g T ls k w j wr) (fun j _ => (intOf j).toNat)
      case atStart => exact ⟨k, arr1, cs1, Nat.le_refl _, rfl, HB1.out, HA1.out, HL1.out, HP1.out, Mid.start HS1.out, HC1.out⟩
      case round =>
        obtain ⟨wi, rfl⟩ : ∃ wi : World, wi = wr := ⟨_, rfl⟩
        obtain ⟨m, arr2, cs2, hm, rfl, hb, ha, hl, hp, hs, hc⟩ := hrel
        have HL2 := Lib.hid hl
        have HP2 := Lib.hid hp
        have HS2 := Lib.hid hs
        have HC2 := Lib.hid hc
        have HB2 := Lib.hid hb
        have HA2 := Lib.hid ha
        rcases m with _ | j
        · have HSr : Hid (Srt cs2 (k + 1)) := hs.stop0
          have e0 : decide ((0 : Int) < 0) = false := by decide
          clear hb ha hl hp hs hc
          simp only [Int.natCast_zero]
          go_wp2_with fail
          go_quiet (fail)
          go_wp2
          go_roundw
          case rel => exact ⟨k + 1, arr2, cs2, by omega, by go_num, .inl (by omega), HB2.out, HA2.out, HL2.out, HP2.out, HSr.out, HC2.out.drewN _⟩
          case measure => simp [intOf]; omega
        · have hjl : j + 1 < cs2.length := by omega
          have q0 := cell_at hb j (ha j (by omega))
          have q1 := cell_at hb (j + 1) (ha (j + 1) hjl)
          have q2 := free_at hb
          have HJL := Lib.hid hjl
          have HGe : Hid (¬ cs2.getD (j + 1) 0 < cs2.getD j 0 → Srt cs2 (k + 1)) := fun h => hs.stop h hm
          have HLt : Hid (cs2.getD (j + 1) 0 < cs2.getD j 0 → Mid (swp cs2 j) k j) := fun h => hs.step hjl hm h
          have HSw := Lib.hid (ha.swp hjl)
          clear hb ha hl hp hs hc hjl
          generalize hx : cs2.getD j 0 = x at *
          generalize hy : cs2.getD (j + 1) 0 = y at *
          clear hx hy
          have i1 : (j : Int) + 1 < (ls.length : Int) := by omega
          have i2 : (j : Int) < (ls.length : Int) := by omega
          have i0 : (0 : Int) ≤ (j : Int) := by omega
          have e0 : decide ((0 : Int) < (j : Int) + 1) = true := by rw [decide_eq_true_eq]; omega
          by_cases hxy : y < x
          · have hd : decide ((y : Int) < (x : Int)) = true := by simpa using hxy
            have hd2 : decide (y < x) = true := by simpa using hxy
            have HM := Lib.hid (HLt.out hxy)
            clear hxy
            rw [show ((j + 1 : Nat) : Int) = (j : Int) + 1 from rfl]
            go_wp2_with fail
            go_quiet ((go_at_call 88; exact Calls.quiet_of_same (less_any _ _ _)))
            go_wp2_with fail
            go_region
            go_wp2
            go_roundw
            case rel => exact ⟨j, _, swp cs2 j, by omega, rfl, heap_set (heap_set (w := wi) HB2.out (j + 1) _) j _, HSw.out, by rw [swp_len]; exact HL2.out, (swp_perm cs2 j HJL.out).trans HP2.out, HM.out, ((HC2.out.drewN _).set (.inr rfl)).set (.inr rfl)⟩
            case measure => simp [intOf]
          · have hd : decide ((y : Int) < (x : Int)) = false := by simpa using hxy
            have hd2 : decide (y < x) = false := by simpa using hxy
            have HSr := Lib.hid (HGe.out hxy)
            clear hxy
            rw [show ((j + 1 : Nat) : Int) = (j : Int) + 1 from rfl]
            go_wp2_with fail
            go_quiet ((go_at_call 88; exact Calls.quiet_of_same (less_any _ _ _)))
            go_wp2
            go_roundw
            case rel => exact ⟨k + 1, arr2, cs2, by omega, by go_num, .inl (by omega), HB2.out, HA2.out, HL2.out, HP2.out, HSr.out, HC2.out.drewN _⟩
            case measure => simp [intOf]; omega
    · have HSr : Hid (Srt cs1 ls.length) := fun p q h1 h2 => HS1.out p q h1 (by omega)
      go_wp2
      go_end0
      exact ⟨rfl, arr1, cs1, HB1.out, HA1.out, HL1.out, HP1.out, HSr.out, HC1.out⟩
end Go.Proofs.Ytdfplhoijapoeaa.Lis
