/- Purge at whatever place, by the reference and by the program: by contracts. Conditions: what comes in reads so. -/
import Derived.Test.YtchlolgfahgdeaaEpr
import Derived.Test.YtchlolgfahgdeaaEpu
set_option linter.unusedVariables false
set_option linter.unusedSimpArgs false
namespace Go.Proofs.Ytchlolgfahgdeaa.Epo
open Go.RowKit Go.Proofs.Ytchlolgfahgdeaa.Lib1 Go.Proofs.Ytchlolgfahgdeaa.Rel Go.Proofs.Ytchlolgfahgdeaa.Own Go.Proofs.Ytchlolgfahgdeaa.Ev Go.Proofs.Ytchlolgfahgdeaa.Ek Go.Proofs.Ytchlolgfahgdeaa.Ec Go.Proofs.Ytchlolgfahgdeaa.Em Go.Proofs.Ytchlolgfahgdeaa.En Go.Proofs.Ytchlolgfahgdeaa.Lat Go.Proofs.Ytchlolgfahgdeaa.Lbl Go.Proofs.Ytchlolgfahgdeaa.Lbw Go.Proofs.Ytchlolgfahgdeaa.Lck Go.Proofs.Ytchlolgfahgdeaa.Lmay

theorem purge_out {c : Cfg} {place : Int} {s : List Ev} (h : ¬ (mayB c = true ∧ 0 ≤ place ∧ place < (c.labels.length : Int))) : Ev.purge c place s = [] := by unfold Ev.purge; rw [if_neg h]
theorem purge_at {c : Cfg} {a : Nat} {s : List Ev} (h : mayB c = true) (ha : a < c.labels.length) : Ev.purge c (a : Int) s = s.filterMap (purge1 c a) := by
  unfold Ev.purge; rw [if_pos ⟨h, by omega, by omega⟩]; rfl
section
variable {ok : Nat → Prop} {w : World} {A1 A2 A3 : Option Addr} {n1 n2 n3 c1 c2 c3 : Nat} {c : Cfg}
set_option maxRecDepth 100000 in
set_option maxHeartbeats 1600000 in
theorem rpurge_no (h : CfgAt ok w A1 A2 A3 n1 n2 n3 c1 c2 c3 c) (hok : ∀ k, ok k → k < w.heap.size) (hcf : cfgFits c) (place : Int) (V : Value) (hn : ¬ (mayB c = true ∧ 0 ≤ place ∧ place < (n1 : Int))) :
    Calls Try.prog 21 #[.agg #[.slice A1 n1 c1, .slice A2 n2 c2, .slice A3 n3 c3], .int .i64 place, V] w fun e w' => e = .returned (.slice none 0 0) ∧ Chg (fun _ => False) w w' := by
  have HMC : Hid (∀ w', Chg (fun _ => False) w w' → Calls Try.prog 25 #[.agg #[.slice A1 n1 c1, .slice A2 n2 c2, .slice A3 n3 c3]] w' fun e w1 => e = .returned (.bool (mayB c)) ∧ Chg (fun _ => False) w' w1) :=
    fun w' hc => mayConfig_any (cfg_up h hok hc) (fun k hk => Nat.lt_of_lt_of_le (hok k hk) hc.size) hcf
  have B1 : Hid ((w.alloc (.cells #[.slice A1 n1 c1, .slice A2 n2 c2, .slice A3 n3 c3] 27)).heap[w.heap.size]? = some (.cells #[.slice A1 n1 c1, .slice A2 n2 c2, .slice A3 n3 c3] 27 (0, 0))) := heap_new w _
  have HN := Lib.hid hn
  clear h hok hcf hn
  cases hm : mayB c with
  | false =>
    rw [hm] at HMC
    clear HN hm
    go_enter Try.func21, Try.ntmps21
    go_wp2_with fail
    refine (HMC.out _ ((Chg.refl _ w).alloc _)).mono ?_
    rintro e w2 ⟨rfl, hc2⟩
    have HC : Hid (Chg (fun _ => False) w w2) := ((Chg.refl _ w).alloc _).trans hc2 (fun _ _ h => h)
    clear hc2
    go_wp2
    go_ret
    exact ⟨rfl, HC.out⟩
  | true =>
    rw [hm] at HMC
    have HN2 : Hid (¬ (0 ≤ place ∧ place < (n1 : Int))) := fun h => HN.out ⟨hm, h⟩
    clear HN hm
    by_cases h0 : place < 0
    · have i0 : decide (place < 0) = true := by simpa using h0
      clear h0
      go_enter Try.func21, Try.ntmps21
      go_wp2_with fail
      refine (HMC.out _ ((Chg.refl _ w).alloc _)).mono ?_
      rintro e w2 ⟨rfl, hc2⟩
      have HC : Hid (Chg (fun _ => False) w w2) := ((Chg.refl _ w).alloc _).trans hc2 (fun _ _ h => h)
      clear hc2
      go_wp2
      go_ret
      exact ⟨rfl, HC.out⟩
    · have i0 : decide (place < 0) = false := by simpa using h0
      have i1 : decide ((n1 : Int) ≤ place) = true := by have := HN2.out; simp; omega
      clear h0
      go_enter Try.func21, Try.ntmps21
      go_wp2_with fail
      refine (HMC.out _ ((Chg.refl _ w).alloc _)).mono ?_
      rintro e w2 ⟨rfl, hc2⟩
      have HC : Hid (Chg (fun _ => False) w w2) := ((Chg.refl _ w).alloc _).trans hc2 (fun _ _ h => h)
      have k0 := cell_at (hc2.at_ B1.out (fun h => h)) 0 rfl
      clear hc2
      go_wp2
      go_ret
      exact ⟨rfl, HC.out⟩
set_option maxRecDepth 100000 in
set_option maxHeartbeats 1600000 in
theorem ppurge_no (h : CfgAt ok w A1 A2 A3 n1 n2 n3 c1 c2 c3 c) (hok : ∀ k, ok k → k < w.heap.size) (hcf : cfgFits c) (place : Int) (V : Value) (hn : ¬ (mayB c = true ∧ 0 ≤ place ∧ place < (n1 : Int))) :
    Calls Try.prog 19 #[.agg #[.slice A1 n1 c1, .slice A2 n2 c2, .slice A3 n3 c3], .int .i64 place, V] w fun e w' => e = .returned (.slice none 0 0) ∧ Chg (fun _ => False) w w' := by
  have HMC : Hid (∀ w', Chg (fun _ => False) w w' → Calls Try.prog 35 #[.agg #[.slice A1 n1 c1, .slice A2 n2 c2, .slice A3 n3 c3]] w' fun e w1 => e = .returned (.bool (mayB c)) ∧ Chg (fun _ => False) w' w1) :=
    fun w' hc => may_any (cfg_up h hok hc) (fun k hk => Nat.lt_of_lt_of_le (hok k hk) hc.size)
  have B1 : Hid ((w.alloc (.cells #[.slice A1 n1 c1, .slice A2 n2 c2, .slice A3 n3 c3] 27)).heap[w.heap.size]? = some (.cells #[.slice A1 n1 c1, .slice A2 n2 c2, .slice A3 n3 c3] 27 (0, 0))) := heap_new w _
  have HN := Lib.hid hn
  clear h hok hcf hn
  cases hm : mayB c with
  | false =>
    rw [hm] at HMC
    clear HN hm
    go_enter Try.func19, Try.ntmps19
    go_wp2_with fail
    refine (HMC.out _ ((Chg.refl _ w).alloc _)).mono ?_
    rintro e w2 ⟨rfl, hc2⟩
    have HC : Hid (Chg (fun _ => False) w w2) := ((Chg.refl _ w).alloc _).trans hc2 (fun _ _ h => h)
    clear hc2
    go_wp2
    go_ret
    exact ⟨rfl, HC.out⟩
  | true =>
    rw [hm] at HMC
    have HN2 : Hid ((decide (0 ≤ place) && decide (place < (n1 : Int))) = false) := by
      show _ = _
      rw [← Bool.not_eq_true, Bool.and_eq_true, decide_eq_true_eq, decide_eq_true_eq]
      exact fun h => HN.out ⟨hm, h⟩
    clear HN hm
    go_enter Try.func19, Try.ntmps19
    go_wp2_with fail
    refine (HMC.out _ ((Chg.refl _ w).alloc _)).mono ?_
    rintro e w2 ⟨rfl, hc2⟩
    have HC : Hid (Chg (fun _ => False) w w2) := ((Chg.refl _ w).alloc _).trans hc2 (fun _ _ h => h)
    have k0 := cell_at (hc2.at_ B1.out (fun h => h)) 0 rfl
    clear hc2
    go_wp2_with fail
    refine (pwithin_any _ _ _).mono ?_
    rintro e w2' ⟨rfl, rfl⟩
    rw [HN2.out]
    go_wp2
    go_ret
    exact ⟨rfl, HC.out⟩
theorem rpurge_any (h : CfgAt ok w A1 A2 A3 n1 n2 n3 c1 c2 c3 c) (hok : ∀ k, ok k → k < w.heap.size) (hcf : cfgFits c) (place : Int) (s : List Ev) (A : Option Addr) (n cc : Nat) (hr : evsK.rel ok w s [.slice A n cc]) (hf : evsK.fits s) :
    Calls Try.prog 21 #[.agg #[.slice A1 n1 c1, .slice A2 n2 c2, .slice A3 n3 c3], .int .i64 place, .slice A n cc] w fun e w' => ∃ v, e = .returned v ∧ OwnL evK 37 w.heap.size w' v (Ev.purge c place s) ∧ Chg (fun _ => False) w w' := by
  have hl := h.l1
  by_cases hn : mayB c = true ∧ 0 ≤ place ∧ place < (n1 : Int)
  · obtain ⟨a, rfl⟩ : ∃ a : Nat, place = (a : Int) := ⟨place.toNat, by omega⟩
    rw [purge_at hn.1 (by omega)]
    exact Epr.rpurge_in h hok hcf hn.1 a (by omega) s A n cc hr hf
  · rw [purge_out (by rw [hl]; exact hn)]
    exact (rpurge_no h hok hcf place _ hn).mono fun e w' ⟨he, hc⟩ => ⟨_, he, OwnL.nil _ _ _ _, hc⟩
theorem ppurge_any (h : CfgAt ok w A1 A2 A3 n1 n2 n3 c1 c2 c3 c) (hok : ∀ k, ok k → k < w.heap.size) (hcf : cfgFits c) (place : Int) (s : List Ev) (A : Option Addr) (n cc : Nat) (hr : evsK.rel ok w s [.slice A n cc]) (hf : evsK.fits s) :
    Calls Try.prog 19 #[.agg #[.slice A1 n1 c1, .slice A2 n2 c2, .slice A3 n3 c3], .int .i64 place, .slice A n cc] w fun e w' => ∃ v, e = .returned v ∧ OwnL evK 37 w.heap.size w' v (Ev.purge c place s) ∧ Chg (fun _ => False) w w' := by
  have hl := h.l1
  by_cases hn : mayB c = true ∧ 0 ≤ place ∧ place < (n1 : Int)
  · obtain ⟨a, rfl⟩ : ∃ a : Nat, place = (a : Int) := ⟨place.toNat, by omega⟩
    rw [purge_at hn.1 (by omega)]
    exact Epu.ppurge_in h hok hcf hn.1 a (by omega) s A n cc hr hf
  · rw [purge_out (by rw [hl]; exact hn)]
    exact (ppurge_no h hok hcf place _ hn).mono fun e w' ⟨he, hc⟩ => ⟨_, he, OwnL.nil _ _ _ _, hc⟩
end
end Go.Proofs.Ytchlolgfahgdeaa.Epo
