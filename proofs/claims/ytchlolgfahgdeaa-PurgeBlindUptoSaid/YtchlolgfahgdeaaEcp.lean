/- The program's copy of an event by contract. Conditions: the event reads so. -/
import Derived.Test.YtchlolgfahgdeaaEc
set_option linter.unusedVariables false
set_option linter.unusedSimpArgs false
namespace Go.Proofs.Ytchlolgfahgdeaa.Ec
open Go.RowKit Go.Proofs.Ytchlolgfahgdeaa.Lib1 Go.Proofs.Ytchlolgfahgdeaa.Rel Go.Proofs.Ytchlolgfahgdeaa.Own Go.Proofs.Ytchlolgfahgdeaa.Ev Go.Proofs.Ytchlolgfahgdeaa.Ek Go.Proofs.Ytchlolgfahgdeaa.Lat
section
variable (w : World) (ok : Nat → Prop)
def CqRel (w0 w : World) (s : List (List Fate)) (v i : Value) (wr : World) : Prop := ∃ k : Nat, k ≤ s.length ∧ i = .int .i64 k ∧ OwnL fatesK 73 w0.heap.size wr v (s.take k) ∧ Chg (fun _ => False) w wr
set_option maxRecDepth 100000 in
set_option maxHeartbeats 6400000 in
theorem copied_any (x : Ev) (V S : Value) (hV : bytesK.rel ok w x.req.value [V]) (hS : strikesK.rel ok w x.strikes [S]) (hok : ∀ k, ok k → k < w.heap.size) (hf : evK.fits x) :
    Calls Try.prog 47 #[evV x V S] w fun e w' => ∃ V' S', e = .returned (evV x V' S') ∧ OwnL u8K 5 w.heap.size w' V' x.req.value ∧ OwnL fatesK 73 w.heap.size w' S' x.strikes ∧ Chg (fun _ => False) w w' := by
  obtain ⟨AV, cV, eV, -⟩ := slice_form hV
  obtain ⟨AS, cS, eS, -⟩ := slice_form hS
  simp only [List.cons.injEq, and_true] at eV eS
  subst eV eS
  have HV := Lib.hid hV
  have HOK := Lib.hid hok
  have HR : Hid (∀ w', Chg (fun _ => False) w w' → strikesK.rel ok w' x.strikes [.slice AS x.strikes.length cS]) := fun w' hc => strikesK.move (fun k hk => hc.block k (hok k hk) (fun h => h)) hS
  have hvl : x.req.value.length * 1 ≤ 140737488351232 := hf.1.2.2.1
  have hsl : x.strikes.length * 24 ≤ 140737488351232 := hf.2.1
  have HF := Lib.hid hf.2
  clear hV hS hok hf
  obtain ⟨kd, ss, ⟨rk, lf, nb, rp, ky, tt, vl, lm⟩, pl, st⟩ := x
  simp only [evV, evCs] at *
  go_enter Try.func47, Try.ntmps47
  go_wp2_with (at_builtin; refine ap_all rfl (.const (.slice none 0 0)) (.tmp 8) 32 rfl u8K _ 5 1 (.int .u8 0) Try.underlying32 info_u8 rfl (by decide) (by decide) (.slice none 0 0) [] rfl (OwnL.nil _ _ _ _) AV cV vl 1 rfl (bytesK.move (ok := ok) (fun k hk => Chg.block (S := fun _ => False) (((Chg.refl _ w).alloc _).alloc _) k (HOK.out k hk) (fun h => h)) HV.out) u8_ok ?aL (Nat.le_refl _) ?_; (case aL => simp only [List.length_nil]; omega); intro v1 w1 o1 ch1; have c1 := ch1.mono (T := fun _ => False) (fun k _ h => by cases h); obtain ⟨A1, k1, e1⟩ := o1.form; subst e1; simp only [List.nil_append] at o1; have HC1 := Lib.hid ((((Chg.refl _ w).alloc _).alloc _).trans c1 (fun _ _ h => h)); have b1 := c1.at_ (k := w.heap.size) (heap_old _ (heap_new _ _)) (fun h => h); have b2 := c1.at_ (k := w.heap.size + 1) (heap_new' _ _ (World.size_alloc ..).symm) (fun h => h); obtain ⟨p0, p1, p2, p3, p4, p5, p6, p7, p8, p9, p10, p11⟩ := cells12 b1; have f1 := free_at b1 8; have z1 := lt_of _ b1; have z2 := lt_of _ b2; have HB1 := Lib.hid (heap_set b1 8 (.slice A1 vl.length k1)); have HB2 := Lib.hid ((heap_set_ne 8 (.slice A1 vl.length k1) (show w.heap.size + 1 ≠ w.heap.size by omega)).trans b2); have HO1 := Lib.hid o1; clear c1 b1 b2 o1 ch1)
  obtain ⟨w2, hw2⟩ : ∃ w2, w2 = w1.setCell ⟨w.heap.size, 8, none⟩ (.slice A1 vl.length k1) := ⟨_, rfl⟩
  have HW2 := Lib.hid hw2
  have HC2 : Hid (Chg (fun _ => False) w w2) := by show Chg _ _ _; rw [hw2]; exact HC1.out.set (.inl (Nat.le_refl _))
  rw [← hw2] at HB1 HB2
  have hs2 : w2.heap.size = w1.heap.size := by rw [hw2]; simp [World.setCell]
  clear hw2
  go_loopw [3, 15] (fun v i wr => CqRel w1 w2 st v i wr) (fun _ i _ => st.length - (intOf i).toNat)
  case atStart => exact ⟨0, Nat.zero_le _, rfl, OwnL.nil _ _ _ _, by rw [← HW2.out]; exact Chg.refl _ _⟩
  case round =>
    obtain ⟨k, hk, rfl, ho, hc⟩ := hrel
    have HO := Lib.hid ho
    obtain ⟨Av, cv, ev⟩ := ho.form
    rw [take_len hk] at ev
    have hc0 := hc.size
    have HC := Lib.hid hc
    clear ho hc p0 p1 p2 p3 p4 p5 p6 p7 p8 p9 p10 p11 f1
    subst ev
    by_cases hlt : k < st.length
    · have hx : st[k]? = some st[k] := List.getElem?_eq_getElem hlt
      have HX := Lib.hid hx
      obtain ⟨g, off, cs, rfl, hg, hrel, hra⟩ := elem_of _ ok (HR.out _ (HC2.out.trans HC.out (fun _ _ h => h))) hx
      have HFx := Lib.hid (fits_at HF.out hx)
      generalize st[k] = f at *
      obtain ⟨Af, cf, rfl, -⟩ := slice_form hrel
      have q0 := range_one (o := off + k * 1) hra
      simp only [Nat.mul_one] at q0
      have HRl := Lib.hid hrel
      clear hra hx hg hrel
      have i1 : (k : Int) < (st.length : Int) := by omega
      go_wp2_with (first
        | (at_builtin; refine ap_all rfl (.const (.slice none 0 0)) (.tmp 20) 73 rfl fateK _ 76 24 (.agg #[.int .i64 0, .int .i64 0, .int .u8 0]) Try.underlying73 info_fate rfl (by decide) (by decide) (.slice none 0 0) [] rfl (OwnL.nil _ _ _ _) Af cf f 24 rfl HRl.out fates_ok ?aL (Nat.le_refl _) ?_; (case aL => have := HFx.out.1; simp only [List.length_nil]; omega); intro v5 w5 o5 g5; obtain ⟨A5, c5, e5⟩ := o5.form; subst e5; have h5 := g5.mono (T := fun _ => False) (fun k _ h => by cases h); have s5 := h5.size)
        | (at_builtin; refine ap_push rfl (.tmp 19) (.tmp 22) 35 rfl fatesK w1.heap.size 73 24 (.slice none 0 0) Try.underlying35 info_fates rfl (by decide) (by decide) (.slice Av k cv) (st.take k) rfl (HO.out.up h5) f _ rfl ?bR ?bL ?bB ?_; (case bR => exact fresh_in o5 (fun j hj => (HO.out.low j hj).2) (by omega)); (case bL => rw [take_len hk]; omega); (case bB => omega); intro v3 w3 o3 g3; obtain ⟨A3, c3, e3⟩ := o3.form; subst e3))
      go_roundw
      case rel => exact ⟨k + 1, hlt, by go_num, by rw [take_snoc HX.out]; have o4 := o3; rw [List.length_append, take_len hk] at o4; exact o4, (HC.out.trans h5 (fun _ _ h => h)).trans g3 (fun j hj he => by have := (HO.out.low j he).1; omega)⟩
      case measure => simp [intOf]; omega
    · have hkk : k = st.length := by omega
      have ho := HO.out
      rw [hkk, List.take_length] at ho
      subst hkk
      have HO2 := Lib.hid ho
      have b1 := HC.out.at_ HB1.out (fun h => h)
      have b2 := HC.out.at_ HB2.out (fun h => h)
      simp only [List.setIfInBounds_toArray, List.set_cons_succ, List.set_cons_zero] at b1
      obtain ⟨p0, p1, p2, p3, p4, p5, p6, p7, p8, p9, p10, p11⟩ := cells12 b1
      obtain ⟨r0, r1, r2, r3, r4, r5, r6, r7, r8, r9, r10, r11⟩ := cells12 b2
      have f1 := free_at b1 11
      have f2 := free_at b2
      have z3 := lt_of _ b1
      have z4 := lt_of _ b2
      clear b1 b2 ho
      go_wp2
      refine bodyPost_ret (v := .agg #[.int .i64 kd, .int .i64 ss, .int .i64 rk, .int .i64 lf, .int .i64 nb, .int .i64 rp, .string ky, .string tt, .slice A1 vl.length k1, .int .i64 lm, .int .i64 pl, .slice Av st.length cv]) (by simp [results, Try.results47, go_sem, p0, p1, p2, p3, p4, p5, p6, p7, p8, p9, p10, p11, r0, r1, r2, r3, r4, r5, r6, r7, r8, r9, r10, r11, f2]) rfl ?_
      have key : ∀ wf, Chg (fun k => w.heap.size ≤ k ∧ k < w.heap.size + 2) wr wf → OwnL u8K 5 w.heap.size wf (.slice A1 vl.length k1) vl ∧ OwnL fatesK 73 w.heap.size wf (.slice Av st.length cv) st ∧ Chg (fun _ => False) w wf := by
        intro wf hc
        have hb := HO1.out
        simp only [World.size_alloc] at hb
        have q0 : Chg (fun k => w.heap.size ≤ k ∧ k < w.heap.size + 2) w1 w2 := by rw [HW2.out]; exact (Chg.refl _ w1).set (.inr (by omega))
        have q1 := (q0.trans (HC.out.mono (T := fun k => w.heap.size ≤ k ∧ k < w.heap.size + 2) (fun _ _ h => h.elim)) (fun _ _ h => h)).trans hc (fun _ _ h => h)
        have q2 := HC2.out.trans HC.out (fun _ _ h => h)
        refine ⟨(hb.chg q1 (fun k h1 _ h2 => by omega)).base_le (by omega), (HO2.out.chg hc (fun k h1 _ h2 => by omega)).base_le (by omega), q2.trans hc (fun k hk h => by omega)⟩
      refine ⟨_, _, rfl, key _ ?_⟩
      repeat (refine Chg.set ?_ (.inr (by omega)))
      exact Chg.refl _ _
theorem copied_ev (x : Ev) (cs : List Value) (hr : evK.rel ok w x cs) (hok : ∀ k, ok k → k < w.heap.size) (hf : evK.fits x) :
    Calls Try.prog 47 #[.agg cs.toArray] w fun e w' => ∃ ys, e = .returned (.agg ys.toArray) ∧ evK.rel (fun k => w.heap.size ≤ k ∧ k < w'.heap.size) w' x ys ∧ Chg (fun _ => False) w w' := by
  obtain ⟨V, S, rfl, hV, hS⟩ := hr
  refine (copied_any w ok x V S hV hS hok hf).mono ?_
  rintro e w' ⟨V', S', rfl, o1, o2, hc⟩
  exact ⟨_, rfl, ⟨V', S', rfl, o1.reads, o2.reads⟩, hc⟩
end
end Go.Proofs.Ytchlolgfahgdeaa.Ec
