/- Quantile as a function; told: two gauges that tell the same. Conditions: gauges as GV tells them. -/
import Derived.Test.YtecppcgleidhkaaGo
import Derived.Test.YtecppcgleidhkaaGk
set_option linter.unusedVariables false
set_option linter.unusedSimpArgs false
set_option exponentiation.threshold 3000
namespace Go.Proofs.Ytecppcgleidhkaa.Gm
open Go.RowKit Go.Proofs.Ytecppcgleidhkaa.Lib1 Go.Proofs.Ytecppcgleidhkaa.Rel Go.Proofs.Ytecppcgleidhkaa.Own Go.Proofs.Ytecppcgleidhkaa.Fl Go.Proofs.Ytecppcgleidhkaa.Gp Go.Proofs.Ytecppcgleidhkaa.Gw

/-- Does Quantile answer? -/
def qok (xs : List Nat) (p : Nat) : Bool := partOk p && !xs.isEmpty
noncomputable def qval (xs : List Nat) (p : Nat) : Nat := if qok xs p = true then Classical.epsilon (fun x => IsQ xs (wantOf p xs.length) x) else 0
def qcode (xs : List Nat) (p : Nat) : Int := if qok xs p = true then 0 else 2
theorem qval_is {xs : List Nat} {p x : Nat} (h : qok xs p = true) (hq : IsQ xs (wantOf p xs.length) x) : qval xs p = x := by
  unfold qval
  rw [if_pos h]
  exact (Classical.epsilon_spec (p := fun x => IsQ xs (wantOf p xs.length) x) ⟨x, hq⟩).unique hq
theorem qok_ne {xs : List Nat} {p : Nat} (h : qok xs p = true) : partOk p = true ∧ xs ≠ [] := by
  unfold qok at h
  simp only [Bool.and_eq_true] at h
  refine ⟨h.1, fun e => ?_⟩
  rw [e] at h; simp at h
theorem quantile_fun {E : Nat → Prop} {w : World} {b : Nat} {g : G} (h : GV E w b g) (hg : g.Good) (p : Nat) (hn : g.gaps.length ≤ 17592186043904) :
    Calls Try.prog 13 #[.pointer (some ⟨b, 0, none⟩), .float .f64 p] w fun e w' => e = .returned (.tuple #[.float .f64 (qval g.gaps p), .int .i64 (qcode g.gaps p)]) ∧ Chg (fun _ => False) w w' := by
  cases hk : qok g.gaps p
  · have hno : partOk p = false ∨ g.gaps = [] := by
      unfold qok at hk
      simp only [Bool.and_eq_false_iff] at hk
      rcases hk with h | h
      · exact .inl h
      · refine .inr ?_
        simpa using h
    refine (quantile_none h hg p hno).mono ?_
    rintro e w' ⟨rfl, rfl⟩
    have e1 : qval g.gaps p = 0 := by unfold qval; rw [hk]; rfl
    have e2 : qcode g.gaps p = 2 := by unfold qcode; rw [hk]; rfl
    rw [e1, e2]
    exact ⟨rfl, Chg.refl _ _⟩
  · obtain ⟨h1, h2⟩ := qok_ne hk
    refine (quantile_walk h hg p h1 h2 hn).mono ?_
    rintro e w' ⟨⟨x, rfl, hq⟩, hc⟩
    have e2 : qcode g.gaps p = 0 := by unfold qcode; rw [hk]; rfl
    rw [qval_is hk hq, e2]
    exact ⟨rfl, hc⟩
theorem int_fin {z : Int} (h : z.natAbs ≤ 2 ^ 62) : rg (floatOfInt .f64 z) < INF := by
  have e : floatOfInt .f64 z = Ieee.double.write (.number (decide (z < 0)) z.natAbs 0) := rfl
  rw [e, (write_num _ _ _).1]
  refine Nat.lt_of_le_of_lt ?_ B62_val.2
  refine rnd_up (E := 1074) (s := 0) (by omega) ?_
  rw [B62_val.1, Nat.pow_zero, Nat.mul_one]
  exact Nat.mul_le_mul_right _ h
theorem order_self {x : Nat} (h : rg x < INF) : Ieee.double.order x x = some .eq := by
  rw [order_fin h h, Int.compare_eq_eq.2 rfl]
theorem turn_eq {g : G} (hg : g.Good) : (FloatKind.f64.format.order (floatOfInt .f64 (turn g.slots).1) (floatOfInt .f64 (turn g.slots).1) == some .eq) = true ∧ (FloatKind.f64.format.order (floatOfInt .f64 (turn g.slots).2) (floatOfInt .f64 (turn g.slots).2) == some .eq) = true := by
  have hb := turn_bd g.slots
  have hs := hg.small
  refine ⟨?_, ?_⟩
  · rw [order_fin_eq, order_self (int_fin (by omega))]; rfl
  · rw [order_fin_eq, order_self (int_fin (by omega))]; rfl
theorem same_self (a : Nat) (w : World) : Calls Try.prog 16 #[.float .f64 a, .float .f64 a] w fun e w' => e = .returned (.bool true) ∧ w' = w := by
  have h := same_walk a a w
  rw [decide_eq_true rfl] at h
  exact h
set_option maxRecDepth 100000 in
set_option maxHeartbeats 4000000 in
theorem told_walk {E E' : Nat → Prop} {w : World} {b b' : Nat} {g g' : G} (h : GV E w b g) (hg : g.Good) (h' : GV E' w b' g') (hg' : g'.Good) (p : Nat) (t : Bool) (hk : g'.keep = g.keep) (hx : g'.gaps = g.gaps) (ht : t = true → turn g'.slots = turn g.slots) (hn : g.gaps.length ≤ 17592186043904) :
    Calls Try.prog 25 #[.pointer (some ⟨b, 0, none⟩), .pointer (some ⟨b', 0, none⟩), .float .f64 p, .bool t] w fun e w' => e = .returned (.bool true) ∧ Chg (fun _ => False) w w' := by
  obtain ⟨m, hm⟩ : ∃ m, m = mean g.gaps := ⟨_, rfl⟩
  obtain ⟨s, hs⟩ : ∃ s, s = spreadOf g := ⟨_, rfl⟩
  obtain ⟨v, hv⟩ : ∃ v, v = smooth g.keep g.gaps := ⟨_, rfl⟩
  obtain ⟨q, hq⟩ : ∃ q, q = qval g.gaps p := ⟨_, rfl⟩
  obtain ⟨qc, hqc⟩ : ∃ q, q = qcode g.gaps p := ⟨_, rfl⟩
  obtain ⟨k, hkk⟩ : ∃ k, k = !g.gaps.isEmpty := ⟨_, rfl⟩
  have hs' : spreadOf g' = s := by rw [hs]; unfold spreadOf; rw [hx]
  have HT := Lib.hid (turn_eq hg)
  have HT' := Lib.hid (turn_eq hg')
  have HTT := Lib.hid ht
  have KM : Hid (∀ W, Chg (fun _ => False) w W → (Calls Try.prog 14 #[.pointer (some ⟨b, 0, none⟩)] W fun e w' => e = .returned (.tuple #[.float .f64 m, .bool k]) ∧ w' = W) ∧ (Calls Try.prog 14 #[.pointer (some ⟨b', 0, none⟩)] W fun e w' => e = .returned (.tuple #[.float .f64 m, .bool k]) ∧ w' = W)) := fun W hW => by
    have h1 := mean_walk (h.chg hW (fun _ _ h => h)) hg
    have h2 := mean_walk (h'.chg hW (fun _ _ h => h)) hg'
    rw [hx] at h2
    rw [← hm, ← hkk] at h1 h2
    exact ⟨h1, h2⟩
  have KS : Hid (∀ W, Chg (fun _ => False) w W → (Calls Try.prog 15 #[.pointer (some ⟨b, 0, none⟩)] W fun e w' => e = .returned (.tuple #[.float .f64 s, .bool k]) ∧ Chg (fun _ => False) W w') ∧ (Calls Try.prog 15 #[.pointer (some ⟨b', 0, none⟩)] W fun e w' => e = .returned (.tuple #[.float .f64 s, .bool k]) ∧ Chg (fun _ => False) W w')) := fun W hW => by
    have h1 := spread_walk (h.chg hW (fun _ _ h => h)) hg
    have h2 := spread_walk (h'.chg hW (fun _ _ h => h)) hg'
    rw [hs', hx] at h2
    rw [← hs] at h1
    rw [← hkk] at h1 h2
    exact ⟨h1, h2⟩
  have KV : Hid (∀ W, Chg (fun _ => False) w W → (Calls Try.prog 28 #[.pointer (some ⟨b, 0, none⟩)] W fun e w' => e = .returned (.tuple #[.float .f64 v, .bool k]) ∧ w' = W) ∧ (Calls Try.prog 28 #[.pointer (some ⟨b', 0, none⟩)] W fun e w' => e = .returned (.tuple #[.float .f64 v, .bool k]) ∧ w' = W)) := fun W hW => by
    have h1 := smooth_walk (h.chg hW (fun _ _ h => h)) hg
    have h2 := smooth_walk (h'.chg hW (fun _ _ h => h)) hg'
    rw [hx, hk] at h2
    rw [← hv, ← hkk] at h1 h2
    exact ⟨h1, h2⟩
  have KQ : Hid (∀ W, Chg (fun _ => False) w W → (Calls Try.prog 13 #[.pointer (some ⟨b, 0, none⟩), .float .f64 p] W fun e w' => e = .returned (.tuple #[.float .f64 q, .int .i64 qc]) ∧ Chg (fun _ => False) W w') ∧ (Calls Try.prog 13 #[.pointer (some ⟨b', 0, none⟩), .float .f64 p] W fun e w' => e = .returned (.tuple #[.float .f64 q, .int .i64 qc]) ∧ Chg (fun _ => False) W w')) := fun W hW => by
    have h1 := quantile_fun (h.chg hW (fun _ _ h => h)) hg p hn
    have h2 := quantile_fun (h'.chg hW (fun _ _ h => h)) hg' p (by rw [hx]; exact hn)
    rw [hx] at h2
    rw [← hq, ← hqc] at h1 h2
    exact ⟨h1, h2⟩
  obtain ⟨re, hre⟩ : ∃ r, r = floatOfInt .f64 (turn g.slots).1 := ⟨_, rfl⟩
  obtain ⟨im, him⟩ : ∃ r, r = floatOfInt .f64 (turn g.slots).2 := ⟨_, rfl⟩
  obtain ⟨re', hre'⟩ : ∃ r, r = floatOfInt .f64 (turn g'.slots).1 := ⟨_, rfl⟩
  obtain ⟨im', him'⟩ : ∃ r, r = floatOfInt .f64 (turn g'.slots).2 := ⟨_, rfl⟩
  have KT : Hid (∀ W, Chg (fun _ => False) w W → (Calls Try.prog 37 #[.pointer (some ⟨b, 0, none⟩)] W fun e w' => e = .returned (.complex .f64 re im) ∧ Chg (fun _ => False) W w') ∧ (Calls Try.prog 37 #[.pointer (some ⟨b', 0, none⟩)] W fun e w' => e = .returned (.complex .f64 re' im') ∧ Chg (fun _ => False) W w')) := fun W hW => by
    have h1 := turn_walk (h.chg hW (fun _ _ h => h)) hg
    have h2 := turn_walk (h'.chg hW (fun _ _ h => h)) hg'
    rw [← hre, ← him] at h1
    rw [← hre', ← him'] at h2
    exact ⟨h1, h2⟩
  rw [← hre, ← him] at HT
  have HRI : Hid (t = true → re' = re ∧ im' = im) := fun h => by rw [hre, him, hre', him', HTT.out h]; exact ⟨rfl, rfl⟩
  clear hre him hre' him' hm hs hv hq hqc hkk hs' hx hk ht h h' hg hg' hn
  have main : ∀ (t : Bool) (re' im' : Nat), (t = true → re' = re ∧ im' = im) → (∀ W, Chg (fun _ => False) w W → (Calls Try.prog 37 #[.pointer (some ⟨b, 0, none⟩)] W fun e w' => e = .returned (.complex .f64 re im) ∧ Chg (fun _ => False) W w') ∧ (Calls Try.prog 37 #[.pointer (some ⟨b', 0, none⟩)] W fun e w' => e = .returned (.complex .f64 re' im') ∧ Chg (fun _ => False) W w')) →
      Calls Try.prog 25 #[.pointer (some ⟨b, 0, none⟩), .pointer (some ⟨b', 0, none⟩), .float .f64 p, .bool t] w fun e w' => e = .returned (.bool true) ∧ Chg (fun _ => False) w w' := by
    clear HRI KT HTT HT'
    intro t re' im' hri hkt
    have KT : Hid _ := hkt
    clear hkt
    obtain ⟨t1, t2⟩ := HT.out
    have HC : Hid (Chg (fun _ => False) w w) := Chg.refl _ _
    cases t
    · clear hri t1 t2 HT
      go_enter Try.func25, Try.ntmps25
      go_wp2_with (first
        | (go_at_call 14; first | (with_reducible refine (KM.out _ HC.out).1.mono ?_; rintro e w' ⟨rfl, hw'⟩; subst hw') | (with_reducible refine (KM.out _ HC.out).2.mono ?_; rintro e w' ⟨rfl, hw'⟩; subst hw'))
        | (go_at_call 28; first | (with_reducible refine (KV.out _ HC.out).1.mono ?_; rintro e w' ⟨rfl, hw'⟩; subst hw') | (with_reducible refine (KV.out _ HC.out).2.mono ?_; rintro e w' ⟨rfl, hw'⟩; subst hw'))
        | (go_at_call 15; first | (with_reducible refine (KS.out _ HC.out).1.mono ?_; rintro e w' ⟨rfl, hc'⟩; replace HC := Lib.hid (HC.out.trans hc' (fun _ _ h => h)); clear hc') | (with_reducible refine (KS.out _ HC.out).2.mono ?_; rintro e w' ⟨rfl, hc'⟩; replace HC := Lib.hid (HC.out.trans hc' (fun _ _ h => h)); clear hc'))
        | (go_at_call 13; first | (with_reducible refine (KQ.out _ HC.out).1.mono ?_; rintro e w' ⟨rfl, hc'⟩; replace HC := Lib.hid (HC.out.trans hc' (fun _ _ h => h)); clear hc') | (with_reducible refine (KQ.out _ HC.out).2.mono ?_; rintro e w' ⟨rfl, hc'⟩; replace HC := Lib.hid (HC.out.trans hc' (fun _ _ h => h)); clear hc'))
        | (go_at_call 37; first | (with_reducible refine (KT.out _ HC.out).1.mono ?_; rintro e w' ⟨rfl, hc'⟩; replace HC := Lib.hid (HC.out.trans hc' (fun _ _ h => h)); clear hc') | (with_reducible refine (KT.out _ HC.out).2.mono ?_; rintro e w' ⟨rfl, hc'⟩; replace HC := Lib.hid (HC.out.trans hc' (fun _ _ h => h)); clear hc'))
        | (go_at_call 16; (with_reducible refine (same_self _ _).mono ?_); rintro e w' ⟨rfl, hw'⟩; subst hw'))
      go_ret
      exact ⟨rfl, HC.out⟩
    · obtain ⟨rfl, rfl⟩ := hri rfl
      clear HT hri
      go_enter Try.func25, Try.ntmps25
      go_wp2_with (first
        | (go_at_call 14; first | (with_reducible refine (KM.out _ HC.out).1.mono ?_; rintro e w' ⟨rfl, hw'⟩; subst hw') | (with_reducible refine (KM.out _ HC.out).2.mono ?_; rintro e w' ⟨rfl, hw'⟩; subst hw'))
        | (go_at_call 28; first | (with_reducible refine (KV.out _ HC.out).1.mono ?_; rintro e w' ⟨rfl, hw'⟩; subst hw') | (with_reducible refine (KV.out _ HC.out).2.mono ?_; rintro e w' ⟨rfl, hw'⟩; subst hw'))
        | (go_at_call 15; first | (with_reducible refine (KS.out _ HC.out).1.mono ?_; rintro e w' ⟨rfl, hc'⟩; replace HC := Lib.hid (HC.out.trans hc' (fun _ _ h => h)); clear hc') | (with_reducible refine (KS.out _ HC.out).2.mono ?_; rintro e w' ⟨rfl, hc'⟩; replace HC := Lib.hid (HC.out.trans hc' (fun _ _ h => h)); clear hc'))
        | (go_at_call 13; first | (with_reducible refine (KQ.out _ HC.out).1.mono ?_; rintro e w' ⟨rfl, hc'⟩; replace HC := Lib.hid (HC.out.trans hc' (fun _ _ h => h)); clear hc') | (with_reducible refine (KQ.out _ HC.out).2.mono ?_; rintro e w' ⟨rfl, hc'⟩; replace HC := Lib.hid (HC.out.trans hc' (fun _ _ h => h)); clear hc'))
        | (go_at_call 37; first | (with_reducible refine (KT.out _ HC.out).1.mono ?_; rintro e w' ⟨rfl, hc'⟩; replace HC := Lib.hid (HC.out.trans hc' (fun _ _ h => h)); clear hc') | (with_reducible refine (KT.out _ HC.out).2.mono ?_; rintro e w' ⟨rfl, hc'⟩; replace HC := Lib.hid (HC.out.trans hc' (fun _ _ h => h)); clear hc'))
        | (go_at_call 16; (with_reducible refine (same_self _ _).mono ?_); rintro e w' ⟨rfl, hw'⟩; subst hw'))
      go_ret
      exact ⟨rfl, HC.out⟩
  exact main t re' im' HRI.out KT.out
end Go.Proofs.Ytecppcgleidhkaa.Gm
