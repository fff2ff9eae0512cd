/- What a gauge and the document's tell, side by side; none at all tells the same; look by that. Conditions: both have heard the same. -/
import Derived.Test.YtecppcgleidhkaaGc
import Derived.Deep.RegionHeld3
set_option linter.unusedVariables false
set_option linter.unusedSimpArgs false
set_option exponentiation.threshold 3000
namespace Go.Proofs.Ytecppcgleidhkaa.Gs
open Go.RowKit Go.Proofs.Ytecppcgleidhkaa.Lib1 Go.Proofs.Ytecppcgleidhkaa.Rel Go.Proofs.Ytecppcgleidhkaa.Own Go.Proofs.Ytecppcgleidhkaa.Fl Go.Proofs.Ytecppcgleidhkaa.Gp Go.Proofs.Ytecppcgleidhkaa.Gw Go.Proofs.Ytecppcgleidhkaa.Gm Go.Proofs.Ytecppcgleidhkaa.Gk Go.Proofs.Ytecppcgleidhkaa.Gb Go.Proofs.Ytecppcgleidhkaa.Gx

theorem mean_nil (w : World) : Calls Try.prog 14 #[.pointer none] w fun e w' => e = .returned (.tuple #[.float .f64 0, .bool false]) ∧ w' = w := by
  go_enter Try.func14, Try.ntmps14
  go_wp2_with (go_at_call 29; refine (samples_nil _).mono ?_; rintro e w' ⟨rfl, rfl⟩)
  go_ret2
  exact ⟨rfl, rfl⟩
theorem spread_nil (w : World) : Calls Try.prog 15 #[.pointer none] w fun e w' => e = .returned (.tuple #[.float .f64 0, .bool false]) ∧ w' = w := by
  go_enter Try.func15, Try.ntmps15
  go_wp2_with (go_at_call 29; refine (samples_nil _).mono ?_; rintro e w' ⟨rfl, rfl⟩)
  go_ret2
  exact ⟨rfl, rfl⟩
theorem smooth_nil (w : World) : Calls Try.prog 28 #[.pointer none] w fun e w' => e = .returned (.tuple #[.float .f64 0, .bool false]) ∧ w' = w := by
  go_enter Try.func28, Try.ntmps28
  go_wp2_with (go_at_call 29; refine (samples_nil _).mono ?_; rintro e w' ⟨rfl, rfl⟩)
  go_ret2
  exact ⟨rfl, rfl⟩
theorem quantile_nil (p : Nat) (w : World) : Calls Try.prog 13 #[.pointer none, .float .f64 p] w fun e w' => e = .returned (.tuple #[.float .f64 0, .int .i64 1]) ∧ w' = w := by
  go_enter Try.func13, Try.ntmps13
  go_wp2
  go_ret2
  exact ⟨rfl, rfl⟩
theorem count_nil (c : Int) (w : World) : Calls Try.prog 24 #[.pointer none, .int .i64 c] w fun e w' => e = .returned (.int .i64 0) ∧ w' = w := by
  go_enter Try.func24, Try.ntmps24
  go_wp2
  go_ret
  exact ⟨rfl, rfl⟩
theorem turn_nil (w : World) : Calls Try.prog 37 #[.pointer none] w fun e w' => e = .returned (.complex .f64 0 0) ∧ w' = w := by
  go_enter Try.func37, Try.ntmps37
  go_wp2
  go_ret
  exact ⟨rfl, rfl⟩
/-- What both tell. -/
structure Told where
  mm : Nat
  s : Nat
  v : Nat
  k : Bool
  q : Nat → Nat
  qc : Nat → Int
  tr : Int
  ti : Int
  cn : Int → Nat
/-- A gauge and the document's, in whatever world grows out of w, tell it. -/
structure Tells (w : World) (gv : Value) (t : Bool) (kp : Nat) (A : Option Addr) (n c : Nat) (B : Option Addr) (m d : Nat) (T : Told) : Prop where
  KM : ∀ W, Chg (fun _ => False) w W → (Calls Try.prog 14 #[gv] W fun e w' => e = .returned (.tuple #[.float .f64 T.mm, .bool T.k]) ∧ w' = W)
  KS : ∀ W, Chg (fun _ => False) w W → (Calls Try.prog 15 #[gv] W fun e w' => e = .returned (.tuple #[.float .f64 T.s, .bool T.k]) ∧ Chg (fun _ => False) W w')
  KV : ∀ W, Chg (fun _ => False) w W → (Calls Try.prog 28 #[gv] W fun e w' => e = .returned (.tuple #[.float .f64 T.v, .bool T.k]) ∧ w' = W)
  KQ : ∀ (p : Nat) W, Chg (fun _ => False) w W → (Calls Try.prog 13 #[gv, .float .f64 p] W fun e w' => e = .returned (.tuple #[.float .f64 (T.q p), .int .i64 (T.qc p)]) ∧ Chg (fun _ => False) W w')
  KC : ∀ (x : Int), (Lit.int .i64 x).wf = true → ∀ W, Chg (fun _ => False) w W → (Calls Try.prog 24 #[gv, .int .i64 x] W fun e w' => e = .returned (.int .i64 (T.cn x : Int)) ∧ w' = W)
  KT : ∀ W, Chg (fun _ => False) w W → (Calls Try.prog 37 #[gv] W fun e w' => e = .returned (.complex .f64 (floatOfInt .f64 T.tr) (floatOfInt .f64 T.ti)) ∧ Chg (fun _ => False) W w')
  DM : ∀ W, Chg (fun _ => False) w W → (Calls Try.prog 33 #[.agg #[.bool t, .float .f64 kp, .slice A n c, .slice B m d]] W fun e w' => e = .returned (.tuple #[.float .f64 T.mm, .float .f64 T.s, .bool T.k]) ∧ Chg (fun _ => False) W w')
  DV : ∀ W, Chg (fun _ => False) w W → (Calls Try.prog 34 #[.agg #[.bool t, .float .f64 kp, .slice A n c, .slice B m d]] W fun e w' => e = .returned (.tuple #[.float .f64 T.v, .bool T.k]) ∧ Chg (fun _ => False) W w')
  DQ : ∀ (p : Nat) W, Chg (fun _ => False) w W → (Calls Try.prog 35 #[.agg #[.bool t, .float .f64 kp, .slice A n c, .slice B m d], .float .f64 p] W fun e w' => e = .returned (.tuple #[.float .f64 (T.q p), .int .i64 (T.qc p)]) ∧ Chg (fun _ => False) W w')
  DT : ∀ W, Chg (fun _ => False) w W → (Calls Try.prog 36 #[.agg #[.bool t, .float .f64 kp, .slice A n c, .slice B m d]] W fun e w' => e = .returned (.tuple #[.int .i64 T.tr, .int .i64 T.ti]) ∧ Chg (fun _ => False) W w')
  DC : ∀ (x : Int) W, Chg (fun _ => False) w W → (Calls Try.prog 27 #[.agg #[.bool t, .float .f64 kp, .slice A n c, .slice B m d], .int .i64 x] W fun e w' => e = .returned (.int .i64 (T.cn x : Int)) ∧ Chg (fun _ => False) W w')
  bd : ∀ x, T.cn x ≤ 17592186043904
noncomputable def toldOf (g : G) : Told := ⟨mean g.gaps, spreadOf g, smooth g.keep g.gaps, !g.gaps.isEmpty, fun p => qval g.gaps p, fun p => qcode g.gaps p, (turn g.slots).1, (turn g.slots).2, fun x => g.codes.count x⟩
def toldNone : Told := ⟨0, 0, 0, false, fun _ => 0, fun _ => 1, 0, 0, fun _ => 0⟩
theorem Tells.up {w w1 : World} {gv : Value} {t : Bool} {kp : Nat} {A B : Option Addr} {n c m d : Nat} {T : Told} (h : Tells w gv t kp A n c B m d T) (hc : Chg (fun _ => False) w w1) : Tells w1 gv t kp A n c B m d T where
  KM := fun W hW => h.KM W (hc.trans hW (fun _ _ h => h))
  KS := fun W hW => h.KS W (hc.trans hW (fun _ _ h => h))
  KV := fun W hW => h.KV W (hc.trans hW (fun _ _ h => h))
  KQ := fun p W hW => h.KQ p W (hc.trans hW (fun _ _ h => h))
  KC := fun x hx W hW => h.KC x hx W (hc.trans hW (fun _ _ h => h))
  KT := fun W hW => h.KT W (hc.trans hW (fun _ _ h => h))
  DM := fun W hW => h.DM W (hc.trans hW (fun _ _ h => h))
  DV := fun W hW => h.DV W (hc.trans hW (fun _ _ h => h))
  DQ := fun p W hW => h.DQ p W (hc.trans hW (fun _ _ h => h))
  DT := fun W hW => h.DT W (hc.trans hW (fun _ _ h => h))
  DC := fun x W hW => h.DC x W (hc.trans hW (fun _ _ h => h))
  bd := h.bd
theorem tells_some {E : Nat → Prop} {w : World} {b : Nat} {g : G} {A B : Option Addr} {n c m d : Nat} (h : GV E w b g) (hg : g.Good) (hr : RW (fun q => q < w.heap.size) w A n c B m d g) (hri : Rise g) (hn : n ≤ 17592186043904) : Tells w (.pointer (some ⟨b, 0, none⟩)) true g.keep A n c B m d (toldOf g) := by
  have hsl := hr.n.1
  have hcl := hr.n.2
  have hlen : g.gaps.length ≤ 17592186043904 := by unfold G.gaps; rw [Gp.gaps_len]; omega
  have hm : m ≤ 17592186043904 := by rw [← hcl, hg.len, hsl]; exact hn
  exact ⟨fun W hW => mean_walk (h.chg hW (fun _ _ h => h)) hg, fun W hW => spread_walk (h.chg hW (fun _ _ h => h)) hg, fun W hW => smooth_walk (h.chg hW (fun _ _ h => h)) hg, fun p W hW => quantile_fun (h.chg hW (fun _ _ h => h)) hg p hlen,
    fun x hx W hW => count_walk (h.chg hW (fun _ _ h => h)) hg hx, fun W hW => turn_walk (h.chg hW (fun _ _ h => h)) hg, fun W hW => rmean_walk (hr.up hW) hg hn hri true g.keep, fun W hW => rsmooth_walk (hr.up hW) hg hn hri true,
    fun p W hW => rquantile_walk (hr.up hW) hg hn hri g.keep p, fun W hW => rturn_walk (hr.up hW) hn true g.keep hg.ok, fun x W hW => rcount_walk (hr.up hW) hm true g.keep x, fun x => Nat.le_trans List.count_le_length (by rw [hcl]; exact hm)⟩
theorem rw_nil (ok : Nat → Prop) (w : World) : RW ok w none 0 0 none 0 0 (g0 0) := ⟨rd_nil ok w, rd_nil ok w⟩
theorem rise_nil : Rise (g0 0) := fun i a b h _ => by cases h
theorem fz : floatOfInt .f64 0 = 0 := by decide
theorem tells_none (w : World) : Tells w (.pointer none) false 0 none 0 0 none 0 0 toldNone := by
  have hg : (g0 0).Good := good0 (by decide)
  exact ⟨fun W hW => mean_nil W, fun W hW => (spread_nil W).mono fun e w' h => ⟨h.1, h.2 ▸ Chg.refl _ _⟩, fun W hW => smooth_nil W, fun p W hW => (quantile_nil p W).mono fun e w' h => ⟨h.1, h.2 ▸ Chg.refl _ _⟩,
    fun x hx W hW => count_nil x W, fun W hW => (turn_nil W).mono fun e w' h => ⟨by rw [h.1]; show _ = Ending.returned (.complex .f64 (floatOfInt .f64 0) (floatOfInt .f64 0)); rw [fz], h.2 ▸ Chg.refl _ _⟩, fun W hW => rmean_walk (rw_nil _ W) hg (by decide) rise_nil false 0, fun W hW => rsmooth_walk (rw_nil _ W) hg (by decide) rise_nil false,
    fun p W hW => rquantile_nil p 0 W none none 0 0 0 0, fun W hW => rturn_walk (rw_nil _ W) (by decide) false 0 hg.ok, fun x W hW => rcount_walk (rw_nil _ W) (by decide) false 0 x, fun x => Nat.zero_le _⟩
set_option maxRecDepth 100000 in
set_option maxHeartbeats 4000000 in
theorem look_any {w : World} {gv : Value} {t : Bool} {kp : Nat} {A B : Option Addr} {n c m d : Nat} {T : Told} (h : Tells w gv t kp A n c B m d T) (x : Int) (hx : (Lit.int .i64 x).wf = true) (p : Nat) :
    Calls Try.prog 20 #[gv, .agg #[.bool t, .float .f64 kp, .slice A n c, .slice B m d], .int .i64 x, .float .f64 p] w fun e w' => e = .returned (.bool true) ∧ Chg (fun _ => False) w w' := by
  have KM := Lib.hid h.KM
  have KS := Lib.hid h.KS
  have KV := Lib.hid h.KV
  have KQ := Lib.hid (h.KQ p)
  have KC := Lib.hid (h.KC x hx)
  have KT := Lib.hid h.KT
  have DM := Lib.hid h.DM
  have DV := Lib.hid h.DV
  have DQ := Lib.hid (h.DQ p)
  have DT := Lib.hid h.DT
  have DC := Lib.hid (h.DC x)
  have hcb := h.bd x
  clear h hx
  obtain ⟨mm, s, v, k, qf, qcf, tr, ti, cnf⟩ := T
  simp only at KM KS KV KQ KC KT DM DV DQ DT DC hcb
  generalize qf p = q at *
  generalize qcf p = qc at *
  generalize cnf x = cn at *
  obtain ⟨w1, hw1⟩ : ∃ w1, w1 = w.alloc (.cells #[.bool t, .float .f64 kp, .slice A n c, .slice B m d] 44) := ⟨_, rfl⟩
  have HB1 : Hid (w1.heap[w.heap.size]? = some (.cells #[.bool t, .float .f64 kp, .slice A n c, .slice B m d] 44 (0, 0))) := by rw [hw1]; exact heap_new _ _
  have HS1 : Hid (w.heap.size < w1.heap.size) := by rw [hw1]; show _ < _; simp
  have HC : Hid (Chg (fun _ => False) w w1) := by rw [hw1]; exact (Chg.refl _ _).alloc _
  have HD : Hid (Chg (fun _ => False) w1 w1) := Chg.refl _ _
  have KB : Hid (∀ W, Chg (fun _ => False) w1 W → (W.cell? ⟨w.heap.size, 0, none⟩ = some (.bool t) ∧ W.cell? ⟨w.heap.size, 1, none⟩ = some (.float .f64 kp) ∧ W.cell? ⟨w.heap.size, 2, none⟩ = some (.slice A n c) ∧ W.cell? ⟨w.heap.size, 3, none⟩ = some (.slice B m d))) := fun W hW => by
    have hb := hW.at_ HB1.out (fun h => h)
    exact ⟨cell_at hb 0 rfl, cell_at hb 1 rfl, cell_at hb 2 rfl, cell_at hb 3 rfl⟩
  obtain ⟨p0, p1, p2, p3⟩ := KB.out w1 HD.out
  go_enter Try.func20, Try.ntmps20
  go_upto_region 1 with (fail)
  rw [← hw1]
  generalize w.heap.size = R at *
  clear hw1
  go_upto_region 12 with (first
    | (go_at_call 14; with_reducible refine (KM.out _ HC.out).mono ?_; rintro e w' ⟨rfl, hw'⟩; subst hw')
    | (go_at_call 28; with_reducible refine (KV.out _ HC.out).mono ?_; rintro e w' ⟨rfl, hw'⟩; subst hw')
    | (go_at_call 15; with_reducible refine (KS.out _ HC.out).mono ?_; rintro e w' ⟨rfl, hc'⟩; replace HC := Lib.hid (HC.out.trans hc' (fun _ _ h => h)); replace HD := Lib.hid (HD.out.trans hc' (fun _ _ h => h)); clear p0 p1 p2 p3; obtain ⟨p0, p1, p2, p3⟩ := KB.out _ HD.out; clear hc')
    | (go_at_call 13; with_reducible refine (KQ.out _ HC.out).mono ?_; rintro e w' ⟨rfl, hc'⟩; replace HC := Lib.hid (HC.out.trans hc' (fun _ _ h => h)); replace HD := Lib.hid (HD.out.trans hc' (fun _ _ h => h)); clear p0 p1 p2 p3; obtain ⟨p0, p1, p2, p3⟩ := KB.out _ HD.out; clear hc')
    | (go_at_call 37; with_reducible refine (KT.out _ HC.out).mono ?_; rintro e w' ⟨rfl, hc'⟩; replace HC := Lib.hid (HC.out.trans hc' (fun _ _ h => h)); replace HD := Lib.hid (HD.out.trans hc' (fun _ _ h => h)); clear p0 p1 p2 p3; obtain ⟨p0, p1, p2, p3⟩ := KB.out _ HD.out; clear hc')
    | (go_at_call 33; with_reducible refine (DM.out _ HC.out).mono ?_; rintro e w' ⟨rfl, hc'⟩; replace HC := Lib.hid (HC.out.trans hc' (fun _ _ h => h)); replace HD := Lib.hid (HD.out.trans hc' (fun _ _ h => h)); clear p0 p1 p2 p3; obtain ⟨p0, p1, p2, p3⟩ := KB.out _ HD.out; clear hc')
    | (go_at_call 34; with_reducible refine (DV.out _ HC.out).mono ?_; rintro e w' ⟨rfl, hc'⟩; replace HC := Lib.hid (HC.out.trans hc' (fun _ _ h => h)); replace HD := Lib.hid (HD.out.trans hc' (fun _ _ h => h)); clear p0 p1 p2 p3; obtain ⟨p0, p1, p2, p3⟩ := KB.out _ HD.out; clear hc')
    | (go_at_call 35; with_reducible refine (DQ.out _ HC.out).mono ?_; rintro e w' ⟨rfl, hc'⟩; replace HC := Lib.hid (HC.out.trans hc' (fun _ _ h => h)); replace HD := Lib.hid (HD.out.trans hc' (fun _ _ h => h)); clear p0 p1 p2 p3; obtain ⟨p0, p1, p2, p3⟩ := KB.out _ HD.out; clear hc')
    | (go_at_call 36; with_reducible refine (DT.out _ HC.out).mono ?_; rintro e w' ⟨rfl, hc'⟩; replace HC := Lib.hid (HC.out.trans hc' (fun _ _ h => h)); replace HD := Lib.hid (HD.out.trans hc' (fun _ _ h => h)); clear p0 p1 p2 p3; obtain ⟨p0, p1, p2, p3⟩ := KB.out _ HD.out; clear hc')
    | (go_at_call 16; (with_reducible refine (same_self _ _).mono ?_); rintro e w' ⟨rfl, hw'⟩; subst hw'))
  replace HC := Lib.hid HC.out.drew
  clear HD KB HB1 HS1 KM KS KV KQ KT DM DV DQ DT
  go_region_with (first
    | (go_at_call 16; go_loud (refine (same_self _ _).mono ?_; rintro e w' ⟨rfl, hw'⟩; subst hw'))
    | (go_at_call 24; go_loud (refine (KC.out _ HC.out).mono ?_; rintro e w' ⟨rfl, hw'⟩; subst hw'))
    | (go_at_call 27; go_loud (refine (DC.out _ HC.out).mono ?_; rintro e w' ⟨rfl, hc'⟩; replace HC := Lib.hid (HC.out.trans hc' (fun _ _ h => h)); clear hc')))
  all_goals go_wp2
  all_goals go_ret
  all_goals exact ⟨rfl, HC.out⟩
end Go.Proofs.Ytecppcgleidhkaa.Gs
