/- One call of a script but Hear: the document's gauge stays, both answer alike. Conditions: both tell the same. -/
import Derived.Test.YtecppcgleidhkaaGca
import Derived.Deep.RegionHeld3
set_option linter.unusedVariables false
set_option linter.unusedSimpArgs false
set_option exponentiation.threshold 3000
namespace Go.Proofs.Ytecppcgleidhkaa.Gs
open Go.RowKit Go.Proofs.Ytecppcgleidhkaa.Lib1 Go.Proofs.Ytecppcgleidhkaa.Rel Go.Proofs.Ytecppcgleidhkaa.Own Go.Proofs.Ytecppcgleidhkaa.Fl Go.Proofs.Ytecppcgleidhkaa.Gp Go.Proofs.Ytecppcgleidhkaa.Gw Go.Proofs.Ytecppcgleidhkaa.Gm Go.Proofs.Ytecppcgleidhkaa.Gk Go.Proofs.Ytecppcgleidhkaa.Gb Go.Proofs.Ytecppcgleidhkaa.Gx

set_option maxRecDepth 100000 in
set_option maxHeartbeats 4000000 in
theorem called_6 {w : World} {gv : Value} {t : Bool} {kp : Nat} {A B : Option Addr} {n c m d : Nat} {T : Told} (h : Tells w gv t kp A n c B m d T) (who : Int) (kp2 : Nat) (sl cd : Int) (hcd : (Lit.int .i64 cd).wf = true) :
    Calls Try.prog 19 #[gv, .agg #[.bool t, .float .f64 kp, .slice A n c, .slice B m d], .agg #[.int .i64 6, .int .i64 who, .float .f64 kp2, .int .i64 sl, .int .i64 cd]] w fun e w' => e = .returned (.tuple #[.agg #[.bool t, .float .f64 kp, .slice A n c, .slice B m d], .bool true]) ∧ Chg (fun _ => False) w w' := by
  have DM := Lib.hid h.DM
  have KQ := Lib.hid (h.KQ kp2)
  have DQ := Lib.hid (h.DQ kp2)
  clear h hcd
  obtain ⟨mm, s, v, k, qf, qcf, tr, ti, cnf⟩ := T
  simp only at DM KQ DQ
  generalize qf kp2 = q at *
  generalize qcf kp2 = qc at *
  obtain ⟨R, hR⟩ : ∃ R, R = w.heap.size := ⟨_, rfl⟩
  go_enter Try.func19, Try.ntmps19
  go_upto_region 1 with (fail)
  rw [← hR]
  generalize hw1 : ((w.alloc _).alloc _).alloc _ = w1
  have HC1 : Hid (Chg (fun _ => False) w w1) := by rw [← hw1]; exact (((Chg.refl _ _).alloc _).alloc _).alloc _
  have HB0 : Hid (w1.heap[R]? = some (.cells #[.bool t, .float .f64 kp, .slice A n c, .slice B m d] 44 (0, 0))) := by rw [← hw1, hR]; exact heap_old _ (heap_old _ (heap_new _ _))
  have HB1 : Hid (w1.heap[R + 1]? = some (.cells #[.int .i64 6, .int .i64 who, .float .f64 kp2, .int .i64 sl, .int .i64 cd] 47 (0, 0))) := by rw [← hw1]; exact heap_old _ (heap_new' _ _ (by rw [hR]; simp))
  have HB2 : Hid (w1.heap[R + 2]? = some (.cells #[.bool false, .float .f64 0, .slice none 0 0, .slice none 0 0] 44 (0, 0))) := by rw [← hw1]; exact heap_new' _ _ (by rw [hR]; simp)
  have hRw : w.heap.size ≤ R + 2 := by omega
  clear hw1 hR
  have HX : Hid (∀ W, Chg (fun _ => False) w1 W → _) := Lib.hid (fun W hW => boxes (hW.at_ HB0.out (fun h => h)) (hW.at_ HB1.out (fun h => h)) (hW.at_ HB2.out (fun h => h)))
  have HW : Hid (∀ W, Chg (fun _ => False) w1 W → Chg (fun _ => False) w W) := Lib.hid (fun W hW => HC1.out.trans hW (fun _ _ h => h))
  have HC : Hid (Chg (fun _ => False) w1 w1) := Chg.refl _ _
  obtain ⟨⟨l0, l1, l2⟩, ⟨a0, a1, a2, a3⟩, ⟨o0, o1, o2, o3, o4⟩, ⟨r0, r1, r2, r3⟩, fz2⟩ := HX.out _ HC.out
  clear HB0 HB1 HB2 HC1
  go_upto_region 2 with (go_at_call 33; go_loud (refine (DM.out _ (HW.out _ HC.out)).mono ?_; rintro e w' ⟨rfl, hc'⟩; replace HC := Lib.hid (HC.out.trans hc' (fun _ _ h => h)); clear l0 l1 l2 a0 a1 a2 a3 o0 o1 o2 o3 o4 r0 r1 r2 r3 fz2; obtain ⟨⟨l0, l1, l2⟩, ⟨a0, a1, a2, a3⟩, ⟨o0, o1, o2, o3, o4⟩, ⟨r0, r1, r2, r3⟩, fz2⟩ := HX.out _ HC.out; clear hc'))
  go_upto_region 22 with (first
    | (go_at_call 13; go_loud (refine (KQ.out _ (HW.out _ HC.out)).mono ?_; rintro e w' ⟨rfl, hc'⟩; replace HC := Lib.hid (HC.out.trans hc' (fun _ _ h => h)); clear l0 l1 l2 a0 a1 a2 a3 o0 o1 o2 o3 o4 r0 r1 r2 r3 fz2; obtain ⟨⟨l0, l1, l2⟩, ⟨a0, a1, a2, a3⟩, ⟨o0, o1, o2, o3, o4⟩, ⟨r0, r1, r2, r3⟩, fz2⟩ := HX.out _ HC.out; clear hc'))
    | (go_at_call 35; go_loud (refine (DQ.out _ (HW.out _ HC.out)).mono ?_; rintro e w' ⟨rfl, hc'⟩; replace HC := Lib.hid (HC.out.trans hc' (fun _ _ h => h)); clear l0 l1 l2 a0 a1 a2 a3 o0 o1 o2 o3 o4 r0 r1 r2 r3 fz2; obtain ⟨⟨l0, l1, l2⟩, ⟨a0, a1, a2, a3⟩, ⟨o0, o1, o2, o3, o4⟩, ⟨r0, r1, r2, r3⟩, fz2⟩ := HX.out _ HC.out; clear hc'))
    | (go_at_call 16; go_loud (refine (same_self _ _).mono ?_; rintro e w' ⟨rfl, hw'⟩; subst hw')))
  have HCp := HC
  replace HC := Lib.hid HC.out.drew
  go_region_with (first
    | (go_at_call 13; go_loud (refine (KQ.out _ (HW.out _ HC.out)).mono ?_; rintro e w' ⟨rfl, hc'⟩; replace HC := Lib.hid (HC.out.trans hc' (fun _ _ h => h)); clear l0 l1 l2 a0 a1 a2 a3 o0 o1 o2 o3 o4 r0 r1 r2 r3 fz2; obtain ⟨⟨l0, l1, l2⟩, ⟨a0, a1, a2, a3⟩, ⟨o0, o1, o2, o3, o4⟩, ⟨r0, r1, r2, r3⟩, fz2⟩ := HX.out _ HC.out; clear hc'))
    | (go_at_call 35; go_loud (refine (DQ.out _ (HW.out _ HC.out)).mono ?_; rintro e w' ⟨rfl, hc'⟩; replace HC := Lib.hid (HC.out.trans hc' (fun _ _ h => h)); clear l0 l1 l2 a0 a1 a2 a3 o0 o1 o2 o3 o4 r0 r1 r2 r3 fz2; obtain ⟨⟨l0, l1, l2⟩, ⟨a0, a1, a2, a3⟩, ⟨o0, o1, o2, o3, o4⟩, ⟨r0, r1, r2, r3⟩, fz2⟩ := HX.out _ HC.out; clear hc'))
    | (go_at_call 16; go_loud (refine (same_self _ _).mono ?_; rintro e w' ⟨rfl, hw'⟩; subst hw')))
  all_goals go_wp2
  all_goals refine bodyPost_ret (v := .tuple #[.agg #[.bool t, .float .f64 kp, .slice A n c, .slice B m d], .bool true]) (by simp [results, Try.results19, go_sem, r0, r1, r2, r3, fz2]) rfl ?_
  all_goals refine ⟨rfl, ?_⟩
  all_goals repeat (first | with_reducible exact HW.out _ HC.out | with_reducible exact HW.out _ HCp.out | with_reducible refine Chg.set ?_ (.inl ?_) | with_reducible apply Chg.drew)
  all_goals omega
end Go.Proofs.Ytecppcgleidhkaa.Gs
