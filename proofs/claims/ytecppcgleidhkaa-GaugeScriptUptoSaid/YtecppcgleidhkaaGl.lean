/- look: a gauge tells what the document's tells. Conditions: both have heard the same. -/
import Derived.Test.YtecppcgleidhkaaGu
import Derived.Deep.RegionHeld3
set_option linter.unusedVariables false
set_option linter.unusedSimpArgs false
set_option exponentiation.threshold 3000
namespace Go.Proofs.Ytecppcgleidhkaa.Gx
open Go.RowKit Go.Proofs.Ytecppcgleidhkaa.Lib1 Go.Proofs.Ytecppcgleidhkaa.Rel Go.Proofs.Ytecppcgleidhkaa.Own Go.Proofs.Ytecppcgleidhkaa.Fl Go.Proofs.Ytecppcgleidhkaa.Gp Go.Proofs.Ytecppcgleidhkaa.Gw Go.Proofs.Ytecppcgleidhkaa.Gm Go.Proofs.Ytecppcgleidhkaa.Gk Go.Proofs.Ytecppcgleidhkaa.Gb

set_option maxRecDepth 100000 in
set_option maxHeartbeats 4000000 in
theorem look_walk {E : Nat → Prop} {w : World} {b : Nat} {g : G} {A B : Option Addr} {n c m d : Nat} (h : GV E w b g) (hg : g.Good) (hr : RW (fun q => q < w.heap.size) w A n c B m d g) (hri : Rise g) (hn : n ≤ 17592186043904) (x : Int) (hx : (Lit.int .i64 x).wf = true) (p : Nat) :
    Calls Try.prog 20 #[.pointer (some ⟨b, 0, none⟩), .agg #[.bool true, .float .f64 g.keep, .slice A n c, .slice B m d], .int .i64 x, .float .f64 p] w fun e w' => e = .returned (.bool true) ∧ Chg (fun _ => False) w w' := by
  obtain ⟨mm, hmm⟩ : ∃ m, m = mean g.gaps := ⟨_, rfl⟩
  obtain ⟨s, hs⟩ : ∃ s, s = spreadOf g := ⟨_, rfl⟩
  obtain ⟨v, hv⟩ : ∃ v, v = smooth g.keep g.gaps := ⟨_, rfl⟩
  obtain ⟨q, hq⟩ : ∃ q, q = qval g.gaps p := ⟨_, rfl⟩
  obtain ⟨qc, hqc⟩ : ∃ q, q = qcode g.gaps p := ⟨_, rfl⟩
  obtain ⟨k, hkk⟩ : ∃ k, k = !g.gaps.isEmpty := ⟨_, rfl⟩
  obtain ⟨tr, htr⟩ : ∃ r, r = (turn g.slots).1 := ⟨_, rfl⟩
  obtain ⟨ti, hti⟩ : ∃ r, r = (turn g.slots).2 := ⟨_, rfl⟩
  obtain ⟨cn, hcn⟩ : ∃ r : Nat, r = g.codes.count x := ⟨_, rfl⟩
  obtain ⟨kp, hkp⟩ : ∃ r, r = g.keep := ⟨_, rfl⟩
  have hsl := hr.n.1
  have hcl := hr.n.2
  have hlen : g.gaps.length ≤ 17592186043904 := by unfold G.gaps; rw [Gp.gaps_len]; omega
  have hm : m ≤ 17592186043904 := by rw [← hcl, hg.len, hsl]; exact hn
  have hcb : cn ≤ 17592186043904 := by rw [hcn]; exact Nat.le_trans List.count_le_length (by rw [hcl]; exact hm)
  have KM : Hid (∀ W, Chg (fun _ => False) w W → (Calls Try.prog 14 #[.pointer (some ⟨b, 0, none⟩)] W fun e w' => e = .returned (.tuple #[.float .f64 mm, .bool k]) ∧ w' = W)) := fun W hW => by
    have h1 := mean_walk (h.chg hW (fun _ _ h => h)) hg
    rw [← hmm, ← hkk] at h1
    exact h1
  have KS : Hid (∀ W, Chg (fun _ => False) w W → (Calls Try.prog 15 #[.pointer (some ⟨b, 0, none⟩)] W fun e w' => e = .returned (.tuple #[.float .f64 s, .bool k]) ∧ Chg (fun _ => False) W w')) := fun W hW => by
    have h1 := spread_walk (h.chg hW (fun _ _ h => h)) hg
    rw [← hs, ← hkk] at h1
    exact h1
  have KV : Hid (∀ W, Chg (fun _ => False) w W → (Calls Try.prog 28 #[.pointer (some ⟨b, 0, none⟩)] W fun e w' => e = .returned (.tuple #[.float .f64 v, .bool k]) ∧ w' = W)) := fun W hW => by
    have h1 := smooth_walk (h.chg hW (fun _ _ h => h)) hg
    rw [← hv, ← hkk] at h1
    exact h1
  have KQ : Hid (∀ W, Chg (fun _ => False) w W → (Calls Try.prog 13 #[.pointer (some ⟨b, 0, none⟩), .float .f64 p] W fun e w' => e = .returned (.tuple #[.float .f64 q, .int .i64 qc]) ∧ Chg (fun _ => False) W w')) := fun W hW => by
    have h1 := quantile_fun (h.chg hW (fun _ _ h => h)) hg p hlen
    rw [← hq, ← hqc] at h1
    exact h1
  have KC : Hid (∀ W, Chg (fun _ => False) w W → (Calls Try.prog 24 #[.pointer (some ⟨b, 0, none⟩), .int .i64 x] W fun e w' => e = .returned (.int .i64 (cn : Int)) ∧ w' = W)) := fun W hW => by
    have h1 := count_walk (h.chg hW (fun _ _ h => h)) hg hx
    rw [← hcn] at h1
    exact h1
  have KT : Hid (∀ W, Chg (fun _ => False) w W → (Calls Try.prog 37 #[.pointer (some ⟨b, 0, none⟩)] W fun e w' => e = .returned (.complex .f64 (floatOfInt .f64 tr) (floatOfInt .f64 ti)) ∧ Chg (fun _ => False) W w')) := fun W hW => by
    have h1 := turn_walk (h.chg hW (fun _ _ h => h)) hg
    rw [← htr, ← hti] at h1
    exact h1
  have DM : Hid (∀ W, Chg (fun _ => False) w W → (Calls Try.prog 33 #[.agg #[.bool true, .float .f64 kp, .slice A n c, .slice B m d]] W fun e w' => e = .returned (.tuple #[.float .f64 mm, .float .f64 s, .bool k]) ∧ Chg (fun _ => False) W w')) := fun W hW => by
    have h1 := rmean_walk (hr.up hW) hg hn hri true kp
    rw [← hmm, ← hs, ← hkk] at h1
    exact h1
  have DV : Hid (∀ W, Chg (fun _ => False) w W → (Calls Try.prog 34 #[.agg #[.bool true, .float .f64 kp, .slice A n c, .slice B m d]] W fun e w' => e = .returned (.tuple #[.float .f64 v, .bool k]) ∧ Chg (fun _ => False) W w')) := fun W hW => by
    have h1 := rsmooth_walk (hr.up hW) hg hn hri true
    rw [← hv, ← hkk, ← hkp] at h1
    exact h1
  have DQ : Hid (∀ W, Chg (fun _ => False) w W → (Calls Try.prog 35 #[.agg #[.bool true, .float .f64 kp, .slice A n c, .slice B m d], .float .f64 p] W fun e w' => e = .returned (.tuple #[.float .f64 q, .int .i64 qc]) ∧ Chg (fun _ => False) W w')) := fun W hW => by
    have h1 := rquantile_walk (hr.up hW) hg hn hri kp p
    rw [← hq, ← hqc] at h1
    exact h1
  have DT : Hid (∀ W, Chg (fun _ => False) w W → (Calls Try.prog 36 #[.agg #[.bool true, .float .f64 kp, .slice A n c, .slice B m d]] W fun e w' => e = .returned (.tuple #[.int .i64 tr, .int .i64 ti]) ∧ Chg (fun _ => False) W w')) := fun W hW => by
    have h1 := rturn_walk (hr.up hW) hn true kp hg.ok
    rw [← htr, ← hti] at h1
    exact h1
  have DC : Hid (∀ W, Chg (fun _ => False) w W → (Calls Try.prog 27 #[.agg #[.bool true, .float .f64 kp, .slice A n c, .slice B m d], .int .i64 x] W fun e w' => e = .returned (.int .i64 (cn : Int)) ∧ Chg (fun _ => False) W w')) := fun W hW => by
    have h1 := rcount_walk (hr.up hW) hm true kp x
    rw [← hcn] at h1
    exact h1
  rw [← hkp]
  clear hmm hs hv hq hqc hkk htr hti hcn hkp hsl hcl hlen h hg hr hri hx
  obtain ⟨w1, hw1⟩ : ∃ w1, w1 = w.alloc (.cells #[.bool true, .float .f64 kp, .slice A n c, .slice B m d] 44) := ⟨_, rfl⟩
  have HB1 : Hid (w1.heap[w.heap.size]? = some (.cells #[.bool true, .float .f64 kp, .slice A n c, .slice B m d] 44 (0, 0))) := by rw [hw1]; exact heap_new _ _
  have HS1 : Hid (w.heap.size < w1.heap.size) := by rw [hw1]; show _ < _; simp
  have HC : Hid (Chg (fun _ => False) w w1) := by rw [hw1]; exact (Chg.refl _ _).alloc _
  have HD : Hid (Chg (fun _ => False) w1 w1) := Chg.refl _ _
  have KB : Hid (∀ W, Chg (fun _ => False) w1 W → (W.cell? ⟨w.heap.size, 0, none⟩ = some (.bool true) ∧ W.cell? ⟨w.heap.size, 1, none⟩ = some (.float .f64 kp) ∧ W.cell? ⟨w.heap.size, 2, none⟩ = some (.slice A n c) ∧ W.cell? ⟨w.heap.size, 3, none⟩ = some (.slice B m d))) := fun W hW => by
    have hb := hW.at_ HB1.out (fun h => h)
    exact ⟨cell_at hb 0 rfl, cell_at hb 1 rfl, cell_at hb 2 rfl, cell_at hb 3 rfl⟩
  obtain ⟨p0, p1, p2, p3⟩ := KB.out w1 HD.out
  go_enter Try.func20, Try.ntmps20
  go_upto_region 1 with (fail)
  rw [← hw1]
  generalize w.heap.size = R at *
  clear hw1
  go_upto_region 12 with (first
    | (go_at_call 14; with_reducible refine (KM.out _ HC.out).mono ?_; rintro e w' ⟨rfl, hw'⟩; subst hw')
    | (go_at_call 28; with_reducible refine (KV.out _ HC.out).mono ?_; rintro e w' ⟨rfl, hw'⟩; subst hw')
    | (go_at_call 15; with_reducible refine (KS.out _ HC.out).mono ?_; rintro e w' ⟨rfl, hc'⟩; replace HC := Lib.hid (HC.out.trans hc' (fun _ _ h => h)); replace HD := Lib.hid (HD.out.trans hc' (fun _ _ h => h)); clear p0 p1 p2 p3; obtain ⟨p0, p1, p2, p3⟩ := KB.out _ HD.out; clear hc')
    | (go_at_call 13; with_reducible refine (KQ.out _ HC.out).mono ?_; rintro e w' ⟨rfl, hc'⟩; replace HC := Lib.hid (HC.out.trans hc' (fun _ _ h => h)); replace HD := Lib.hid (HD.out.trans hc' (fun _ _ h => h)); clear p0 p1 p2 p3; obtain ⟨p0, p1, p2, p3⟩ := KB.out _ HD.out; clear hc')
    | (go_at_call 37; with_reducible refine (KT.out _ HC.out).mono ?_; rintro e w' ⟨rfl, hc'⟩; replace HC := Lib.hid (HC.out.trans hc' (fun _ _ h => h)); replace HD := Lib.hid (HD.out.trans hc' (fun _ _ h => h)); clear p0 p1 p2 p3; obtain ⟨p0, p1, p2, p3⟩ := KB.out _ HD.out; clear hc')
    | (go_at_call 33; with_reducible refine (DM.out _ HC.out).mono ?_; rintro e w' ⟨rfl, hc'⟩; replace HC := Lib.hid (HC.out.trans hc' (fun _ _ h => h)); replace HD := Lib.hid (HD.out.trans hc' (fun _ _ h => h)); clear p0 p1 p2 p3; obtain ⟨p0, p1, p2, p3⟩ := KB.out _ HD.out; clear hc')
    | (go_at_call 34; with_reducible refine (DV.out _ HC.out).mono ?_; rintro e w' ⟨rfl, hc'⟩; replace HC := Lib.hid (HC.out.trans hc' (fun _ _ h => h)); replace HD := Lib.hid (HD.out.trans hc' (fun _ _ h => h)); clear p0 p1 p2 p3; obtain ⟨p0, p1, p2, p3⟩ := KB.out _ HD.out; clear hc')
    | (go_at_call 35; with_reducible refine (DQ.out _ HC.out).mono ?_; rintro e w' ⟨rfl, hc'⟩; replace HC := Lib.hid (HC.out.trans hc' (fun _ _ h => h)); replace HD := Lib.hid (HD.out.trans hc' (fun _ _ h => h)); clear p0 p1 p2 p3; obtain ⟨p0, p1, p2, p3⟩ := KB.out _ HD.out; clear hc')
    | (go_at_call 36; with_reducible refine (DT.out _ HC.out).mono ?_; rintro e w' ⟨rfl, hc'⟩; replace HC := Lib.hid (HC.out.trans hc' (fun _ _ h => h)); replace HD := Lib.hid (HD.out.trans hc' (fun _ _ h => h)); clear p0 p1 p2 p3; obtain ⟨p0, p1, p2, p3⟩ := KB.out _ HD.out; clear hc')
    | (go_at_call 16; (with_reducible refine (same_self _ _).mono ?_); rintro e w' ⟨rfl, hw'⟩; subst hw'))
  replace HC := Lib.hid HC.out.drew
  clear HD KB HB1 HS1 KM KS KV KQ KT DM DV DQ DT
  go_region_with (first
    | (go_at_call 16; go_loud (refine (same_self _ _).mono ?_; rintro e w' ⟨rfl, hw'⟩; subst hw'))
    | (go_at_call 24; go_loud (refine (KC.out _ HC.out).mono ?_; rintro e w' ⟨rfl, hw'⟩; subst hw'))
    | (go_at_call 27; go_loud (refine (DC.out _ HC.out).mono ?_; rintro e w' ⟨rfl, hc'⟩; replace HC := Lib.hid (HC.out.trans hc' (fun _ _ h => h)); clear hc')))
  all_goals go_wp2
  all_goals go_ret
  all_goals exact ⟨rfl, HC.out⟩
end Go.Proofs.Ytecppcgleidhkaa.Gx
