/- Copies of bytes, strikes, events, by contracts. Conditions: what is copied reads so. -/
import Derived.Test.YtchlolgfahgdeaaEk
set_option linter.unusedVariables false
set_option linter.unusedSimpArgs false
namespace Go.Proofs.Ytchlolgfahgdeaa.Ec
open Go.RowKit Go.Proofs.Ytchlolgfahgdeaa.Lib1 Go.Proofs.Ytchlolgfahgdeaa.Rel Go.Proofs.Ytchlolgfahgdeaa.Own Go.Proofs.Ytchlolgfahgdeaa.Ev Go.Proofs.Ytchlolgfahgdeaa.Ek Go.Proofs.Ytchlolgfahgdeaa.Lat

theorem info_u8 : (Try.prog.info? 5).map (fun i => (i.zero, i.size, i.bytes)) = some (some (.int .u8 0), 1, 1) := by kernel_rfl
theorem info_fate : (Try.prog.info? 76).map (fun i => (i.zero, i.size, i.bytes)) = some (some (.agg #[.int .i64 0, .int .i64 0, .int .u8 0]), 3, 24) := by kernel_rfl
theorem info_fates : (Try.prog.info? 73).map (fun i => (i.zero, i.size, i.bytes)) = some (some (.slice none 0 0), 1, 24) := by kernel_rfl
theorem info_ev : (Try.prog.info? 37).map (fun i => (i.zero, i.size, i.bytes)) = some (some (.agg #[.int .i64 0, .int .i64 0, .int .i64 0, .int .i64 0, .int .i64 0, .int .i64 0, .string ⟨#[]⟩, .string ⟨#[]⟩, .slice none 0 0, .int .i64 0, .int .i64 0, .slice none 0 0]), 12, 144) := by kernel_rfl

/-- A new list leads nowhere that an older one is. -/
theorem fresh_in {α : Type} {d : Kd α} {e base b : Nat} {W w1 : World} {v v1 : Value} {xs : List α} (h : OwnL d e W.heap.size w1 v1 xs) (hv : ∀ k, v.ownBlock = some k → k < W.heap.size) (hb : base ≤ W.heap.size) : (Kd.slice b d).rel (In base w1 v) w1 xs [v1] :=
  (Kd.slice b d).mono (fun k hk => ⟨Nat.le_trans hb hk.1, hk.2, fun he => by have := hv k he; omega⟩) h.reads
theorem take_snoc {α : Type} {l : List α} {k : Nat} {x : α} (h : l[k]? = some x) : l.take (k + 1) = l.take k ++ [x] := by
  obtain ⟨hk, rfl⟩ := List.getElem?_eq_some_iff.1 h
  exact List.take_succ_eq_append_getElem hk
theorem take_len {α : Type} {l : List α} {k : Nat} (h : k ≤ l.length) : (l.take k).length = k := by simp; omega
theorem fits_at {α : Type} {b : Nat} {d : Kd α} {l : List α} {k : Nat} {x : α} (h : (Kd.slice b d).fits l) (hx : l[k]? = some x) : d.fits x := h.2 x (List.mem_of_getElem? hx)

section
variable (w : World) (ok : Nat → Prop)
theorem own_any (x : List UInt8) (A : Option Addr) (n c : Nat) (hr : bytesK.rel ok w x [.slice A n c]) (hf : bytesK.fits x) :
    Calls Try.prog 37 #[.slice A n c] w fun e w' => ∃ v, e = .returned v ∧ OwnL u8K 5 w.heap.size w' v x ∧ Chg (fun _ => False) w w' := by
  have hl : x.length * 1 ≤ 140737488351232 := hf.1
  obtain ⟨A0, c0, e0, -⟩ := slice_form hr
  simp only [List.cons.injEq, Value.slice.injEq, and_true] at e0
  obtain ⟨rfl, rfl, rfl⟩ := e0
  go_enter Try.func37, Try.ntmps37
  go_wp2_with (at_builtin; refine ap_all rfl (.const (.slice none 0 0)) (.tmp 3) 32 rfl u8K w.heap.size 5 1 (.int .u8 0) Try.underlying32 info_u8 rfl (by decide) (by decide) (.slice none 0 0) [] rfl (OwnL.nil _ _ _ _) A c x 1 rfl hr u8_ok ?aL (Nat.le_refl _) ?_; (case aL => simp only [List.length_nil]; omega); intro v2 w2 o2 g2)
  go_wp2
  go_ret
  exact ⟨v2, rfl, o2, g2.mono (fun k _ h => by cases h)⟩

def CpRel (w : World) (s : List (List Fate)) (v i : Value) (wr : World) : Prop := ∃ k : Nat, k ≤ s.length ∧ i = .int .i64 k ∧ OwnL fatesK 73 w.heap.size wr v (s.take k) ∧ Chg (fun _ => False) w wr

theorem elem_of {α : Type} {b : Nat} {d : Kd α} {s : List α} {A : Option Addr} {c k : Nat} {x : α} (hr : (Kd.slice b d).rel ok w s [.slice A s.length c]) (hx : s[k]? = some x) :
    ∃ g off cs, A = some ⟨g, off, none⟩ ∧ ok g ∧ d.rel ok w x cs ∧ w.rangeAt g (off + k * d.sz) cs := by
  have hk := (List.getElem?_eq_some_iff.1 hx).1
  obtain ⟨_, g, off, e, hg, h⟩ := range_of hr (by omega)
  obtain ⟨cs, h1, h2⟩ := h k x hx
  exact ⟨g, off, cs, e, hg, h1, h2⟩
theorem range_one {w : World} {g o : Nat} {v : Value} (h : w.rangeAt g o [v]) : w.cell? ⟨g, o, none⟩ = some v := h 0 v rfl

set_option maxRecDepth 100000 in
set_option maxHeartbeats 800000 in
theorem copyStrikes_any (s : List (List Fate)) (A : Option Addr) (n c : Nat) (hr : strikesK.rel ok w s [.slice A n c]) (hok : ∀ k, ok k → k < w.heap.size) (hf : strikesK.fits s) :
    Calls Try.prog 38 #[.slice A n c] w fun e w' => ∃ v, e = .returned v ∧ OwnL fatesK 73 w.heap.size w' v s ∧ Chg (fun _ => False) w w' := by
  have hl : s.length * 24 ≤ 140737488351232 := hf.1
  obtain ⟨A0, c0, e0, -⟩ := slice_form hr
  simp only [List.cons.injEq, Value.slice.injEq, and_true] at e0
  obtain ⟨rfl, rfl, rfl⟩ := e0
  have HR : Hid (∀ w', Chg (fun _ => False) w w' → strikesK.rel ok w' s [.slice A s.length c]) := fun w' hc => strikesK.move (fun k hk => hc.block k (hok k hk) (fun h => h)) hr
  have HF := Lib.hid hf
  clear hr hok hf
  go_enter Try.func38, Try.ntmps38
  go_wp2
  go_loopw [3, 4] (fun v i wr => CpRel w s v i wr) (fun _ i _ => s.length - (intOf i).toNat)
  case atStart => exact ⟨0, Nat.zero_le _, rfl, OwnL.nil _ _ _ _, Chg.refl _ _⟩
  case round =>
    obtain ⟨k, hk, rfl, ho, hc⟩ := hrel
    have HO := Lib.hid ho
    obtain ⟨Av, cv, ev⟩ := ho.form
    rw [take_len hk] at ev
    obtain ⟨nv, HNv⟩ : ∃ nv, Hid (nv = k) := ⟨k, rfl⟩
    have hc0 := hc.size
    have HC := Lib.hid hc
    clear ho hc
    subst ev
    by_cases hlt : k < s.length
    · have hx : s[k]? = some s[k] := List.getElem?_eq_getElem hlt
      have HX := Lib.hid hx
      obtain ⟨g, off, cs, rfl, hg, hrel, hra⟩ := elem_of _ ok (HR.out _ HC.out) hx
      have HFx := Lib.hid (fits_at HF.out hx)
      generalize s[k] = f at *
      obtain ⟨Af, cf, rfl, -⟩ := slice_form hrel
      have q0 := range_one hra
      simp only [show (fatesK).sz = 1 from rfl, Nat.mul_one] at q0
      have HRl := Lib.hid hrel
      clear hra hx hg hrel
      have i1 : (k : Int) < (s.length : Int) := by omega
      go_wp2_with (first
        | (at_builtin; refine ap_all rfl (.const (.slice none 0 0)) (.tmp 15) 73 rfl fateK _ 76 24 (.agg #[.int .i64 0, .int .i64 0, .int .u8 0]) Try.underlying73 info_fate rfl (by decide) (by decide) (.slice none 0 0) [] rfl (OwnL.nil _ _ _ _) Af cf f 24 rfl HRl.out fates_ok ?aL (Nat.le_refl _) ?_; (case aL => have := HFx.out.1; simp only [List.length_nil]; omega); intro v2 w2 o2 g2; obtain ⟨A2, c2, e2⟩ := o2.form; subst e2; have h2 := g2.mono (T := fun _ => False) (fun k _ h => by cases h); have s2 := h2.size)
        | (at_builtin; refine ap_push rfl (.tmp 11) (.tmp 17) 35 rfl fatesK w.heap.size 73 24 (.slice none 0 0) Try.underlying35 info_fates rfl (by decide) (by decide) (.slice Av k cv) (s.take k) rfl (HO.out.up h2) f _ rfl ?bR ?bL ?bB ?_; (case bR => exact fresh_in o2 (fun j hj => (HO.out.low j hj).2) hc0); (case bL => rw [take_len hk]; omega); (case bB => omega); intro v3 w3 o3 g3; obtain ⟨A3, c3, e3⟩ := o3.form; subst e3))
      go_roundw
      case rel => exact ⟨k + 1, hlt, by go_num, by rw [take_snoc HX.out]; have o4 := o3; rw [List.length_append, take_len hk] at o4; exact o4, (HC.out.trans h2 (fun _ _ h => h)).trans g3 (fun j hj he => by have := (HO.out.low j he).1; omega)⟩
      case measure => simp [intOf]; omega
    · go_wp2
      go_ret
      have hkk : k = s.length := by omega
      have ho := HO.out
      rw [hkk, List.take_length] at ho
      exact ⟨_, rfl, by rw [hkk]; exact ho, HC.out⟩

theorem cells12 {w : World} {b T : Nat} {fr : Nat × Nat} {a0 a1 a2 a3 a4 a5 a6 a7 a8 a9 a10 a11 : Value} (h : w.heap[b]? = some (.cells #[a0, a1, a2, a3, a4, a5, a6, a7, a8, a9, a10, a11] T fr)) :
    w.cell? ⟨b, 0, none⟩ = some a0 ∧ w.cell? ⟨b, 1, none⟩ = some a1 ∧ w.cell? ⟨b, 2, none⟩ = some a2 ∧ w.cell? ⟨b, 3, none⟩ = some a3 ∧ w.cell? ⟨b, 4, none⟩ = some a4 ∧ w.cell? ⟨b, 5, none⟩ = some a5 ∧
    w.cell? ⟨b, 6, none⟩ = some a6 ∧ w.cell? ⟨b, 7, none⟩ = some a7 ∧ w.cell? ⟨b, 8, none⟩ = some a8 ∧ w.cell? ⟨b, 9, none⟩ = some a9 ∧ w.cell? ⟨b, 10, none⟩ = some a10 ∧ w.cell? ⟨b, 11, none⟩ = some a11 :=
  ⟨cell_at h 0 rfl, cell_at h 1 rfl, cell_at h 2 rfl, cell_at h 3 rfl, cell_at h 4 rfl, cell_at h 5 rfl, cell_at h 6 rfl, cell_at h 7 rfl, cell_at h 8 rfl, cell_at h 9 rfl, cell_at h 10 rfl, cell_at h 11 rfl⟩

/-- An event's value as Go hands it on. -/
abbrev evV (x : Ev) (V S : Value) : Value := .agg (evCs x V S).toArray

set_option maxRecDepth 100000 in
set_option maxHeartbeats 1600000 in
theorem copy_any (x : Ev) (V S : Value) (hV : bytesK.rel ok w x.req.value [V]) (hS : strikesK.rel ok w x.strikes [S]) (hok : ∀ k, ok k → k < w.heap.size) (hf : evK.fits x) :
    Calls Try.prog 16 #[evV x V S] w fun e w' => ∃ V' S', e = .returned (evV x V' S') ∧ OwnL u8K 5 w.heap.size w' V' x.req.value ∧ OwnL fatesK 73 w.heap.size w' S' x.strikes ∧ Chg (fun _ => False) w w' := by
  obtain ⟨AV, cV, eV, -⟩ := slice_form hV
  obtain ⟨AS, cS, eS, -⟩ := slice_form hS
  simp only [List.cons.injEq, and_true] at eV eS
  subst eV eS
  have HV : Hid (∀ w', Chg (fun _ => False) w w' → Calls Try.prog 37 #[.slice AV x.req.value.length cV] w' fun e w1 => ∃ v, e = .returned v ∧ OwnL u8K 5 w'.heap.size w1 v x.req.value ∧ Chg (fun _ => False) w' w1) :=
    fun w' hc => own_any w' ok x.req.value AV _ cV (bytesK.move (fun k hk => hc.block k (hok k hk) (fun h => h)) hV) hf.1.2.2
  have HS : Hid (∀ w', Chg (fun _ => False) w w' → Calls Try.prog 38 #[.slice AS x.strikes.length cS] w' fun e w1 => ∃ v, e = .returned v ∧ OwnL fatesK 73 w'.heap.size w1 v x.strikes ∧ Chg (fun _ => False) w' w1) :=
    fun w' hc => copyStrikes_any w' ok x.strikes AS _ cS (strikesK.move (fun k hk => hc.block k (hok k hk) (fun h => h)) hS) (fun k hk => Nat.lt_of_lt_of_le (hok k hk) hc.size) hf.2
  clear hV hS hok hf
  unfold evV evCs
  go_enter Try.func16, Try.ntmps16
  go_wp2_with fail
  refine (HV.out _ (((Chg.refl _ w).alloc _).alloc _)).mono ?_
  rintro e w1 ⟨v1, rfl, o1, c1⟩
  obtain ⟨A1, k1, e1⟩ := o1.form
  subst e1
  have HC1 := Lib.hid ((((Chg.refl _ w).alloc _).alloc _).trans c1 (fun _ _ h => h))
  have b1 := c1.at_ (k := w.heap.size) (heap_old _ (heap_new _ _)) (fun h => h)
  have b2 := c1.at_ (k := w.heap.size + 1) (heap_new' _ _ (World.size_alloc ..).symm) (fun h => h)
  obtain ⟨p0, p1, p2, p3, p4, p5, p6, p7, p8, p9, p10, p11⟩ := cells12 b1
  have f1 := free_at b1 8
  have z1 := lt_of _ b1
  have z2 := lt_of _ b2
  have HB1 := Lib.hid b1
  have HB2 := Lib.hid b2
  have HO1 := Lib.hid o1
  clear c1 b1 b2 o1
  go_wp2_with fail
  refine (HS.out _ (HC1.out.set (.inl (Nat.le_refl _)))).mono ?_
  rintro e w2 ⟨v2, rfl, o2, c2⟩
  obtain ⟨A2, k2, e2⟩ := o2.form
  subst e2
  have HC2 := Lib.hid c2
  have b1 := c2.at_ (heap_set HB1.out 8 _) (fun h => h)
  have b2 := c2.at_ (k := w.heap.size + 1) ((heap_set_ne _ _ (by omega)).trans HB2.out) (fun h => h)
  clear p0 p1 p2 p3 p4 p5 p6 p7 p8 p9 p10 p11 f1
  simp only [List.setIfInBounds_toArray, List.set_cons_succ, List.set_cons_zero] at b1
  obtain ⟨p0, p1, p2, p3, p4, p5, p6, p7, p8, p9, p10, p11⟩ := cells12 b1
  obtain ⟨r0, r1, r2, r3, r4, r5, r6, r7, r8, r9, r10, r11⟩ := cells12 b2
  have f1 := free_at b1 11
  have f2 := free_at b2
  have z3 := lt_of _ b1
  have z4 := lt_of _ b2
  have HO2 := Lib.hid o2
  clear c2 b1 b2 o2
  go_wp2
  refine bodyPost_ret (v := .agg #[.int .i64 x.kind, .int .i64 x.session, .int .i64 x.req.kind, .int .i64 x.req.life, .int .i64 x.req.number, .int .i64 x.req.place, .string x.req.key, .string x.req.to, .slice A1 x.req.value.length k1, .int .i64 x.req.limit, .int .i64 x.place, .slice A2 x.strikes.length k2]) (by simp [results, Try.results16, go_sem, p0, p1, p2, p3, p4, p5, p6, p7, p8, p9, p10, p11, r0, r1, r2, r3, r4, r5, r6, r7, r8, r9, r10, r11, f2]) rfl ?_
  have key : ∀ wf, Chg (fun k => w.heap.size ≤ k ∧ k < w.heap.size + 2) w2 wf → OwnL u8K 5 w.heap.size wf (.slice A1 x.req.value.length k1) x.req.value ∧ OwnL fatesK 73 w.heap.size wf (.slice A2 x.strikes.length k2) x.strikes ∧ Chg (fun _ => False) w wf := by
    intro wf hc
    have hb := HO1.out
    simp only [World.size_alloc] at hb
    have q1 : Chg (fun k => w.heap.size ≤ k ∧ k < w.heap.size + 2) w1 wf := (((Chg.refl (fun k => w.heap.size ≤ k ∧ k < w.heap.size + 2) w1).set (.inr (by omega))).trans (HC2.out.mono (T := fun k => w.heap.size ≤ k ∧ k < w.heap.size + 2) (fun _ _ h => h.elim)) (fun _ _ h => h)).trans hc (fun _ _ h => h)
    have q2 := (HC1.out.set (.inl (Nat.le_refl _))).trans HC2.out (fun _ _ h => h)
    refine ⟨(hb.chg q1 (fun k h1 _ h2 => by omega)).base_le (by omega), (HO2.out.chg hc (fun k h1 _ h2 => ?_)).base_le ?_, q2.trans hc (fun k hk h => by omega)⟩
    · have := HC1.out.size; simp [World.setCell] at h1; omega
    · have := HC1.out.size; simp [World.setCell]; omega
  refine ⟨_, _, rfl, key _ ?_⟩
  repeat (refine Chg.set ?_ (.inr (by omega)))
  exact Chg.refl _ _

theorem copy_ev (x : Ev) (cs : List Value) (hr : evK.rel ok w x cs) (hok : ∀ k, ok k → k < w.heap.size) (hf : evK.fits x) :
    Calls Try.prog 16 #[.agg cs.toArray] w fun e w' => ∃ ys, e = .returned (.agg ys.toArray) ∧ evK.rel (fun k => w.heap.size ≤ k ∧ k < w'.heap.size) w' x ys ∧ Chg (fun _ => False) w w' := by
  obtain ⟨V, S, rfl, hV, hS⟩ := hr
  refine (copy_any w ok x V S hV hS hok hf).mono ?_
  rintro e w' ⟨V', S', rfl, o1, o2, hc⟩
  exact ⟨_, rfl, ⟨V', S', rfl, o1.reads, o2.reads⟩, hc⟩
theorem ev_form {ok : Nat → Prop} {w : World} {x : Ev} {cs : List Value} (h : evK.rel ok w x cs) : ∃ AV nV cV AS nS cS, cs = evCs x (.slice AV nV cV) (.slice AS nS cS) := by
  obtain ⟨V, S, rfl, hV, hS⟩ := h
  obtain ⟨AV, cV, eV, -⟩ := slice_form hV
  obtain ⟨AS, cS, eS, -⟩ := slice_form hS
  simp only [List.cons.injEq, and_true] at eV eS
  subst eV eS
  exact ⟨_, _, _, _, _, _, rfl⟩

def EvsRel (w : World) (s : List Ev) (v i : Value) (wr : World) : Prop := ∃ k : Nat, k ≤ s.length ∧ i = .int .i64 k ∧ OwnL evK 37 w.heap.size wr v (s.take k) ∧ Chg (fun _ => False) w wr

theorem range12 {w : World} {g o : Nat} {a0 a1 a2 a3 a4 a5 a6 a7 a8 a9 a10 a11 : Value} (h : w.rangeAt g o [a0, a1, a2, a3, a4, a5, a6, a7, a8, a9, a10, a11]) :
    w.cell? ⟨g, o, none⟩ = some a0 ∧ w.cell? ⟨g, o + 1, none⟩ = some a1 ∧ w.cell? ⟨g, o + 2, none⟩ = some a2 ∧ w.cell? ⟨g, o + 3, none⟩ = some a3 ∧ w.cell? ⟨g, o + 4, none⟩ = some a4 ∧ w.cell? ⟨g, o + 5, none⟩ = some a5 ∧
    w.cell? ⟨g, o + 6, none⟩ = some a6 ∧ w.cell? ⟨g, o + 7, none⟩ = some a7 ∧ w.cell? ⟨g, o + 8, none⟩ = some a8 ∧ w.cell? ⟨g, o + 9, none⟩ = some a9 ∧ w.cell? ⟨g, o + 10, none⟩ = some a10 ∧ w.cell? ⟨g, o + 11, none⟩ = some a11 :=
  ⟨h 0 _ rfl, h 1 _ rfl, h 2 _ rfl, h 3 _ rfl, h 4 _ rfl, h 5 _ rfl, h 6 _ rfl, h 7 _ rfl, h 8 _ rfl, h 9 _ rfl, h 10 _ rfl, h 11 _ rfl⟩

set_option maxRecDepth 100000 in
set_option maxHeartbeats 1600000 in
theorem copies_any (s : List Ev) (A : Option Addr) (n c : Nat) (hr : evsK.rel ok w s [.slice A n c]) (hok : ∀ k, ok k → k < w.heap.size) (hf : evsK.fits s) :
    Calls Try.prog 20 #[.slice A n c] w fun e w' => ∃ v, e = .returned v ∧ OwnL evK 37 w.heap.size w' v s ∧ Chg (fun _ => False) w w' := by
  have hl : s.length * 144 ≤ 140737488351232 := hf.1
  obtain ⟨A0, c0, e0, -⟩ := slice_form hr
  simp only [List.cons.injEq, Value.slice.injEq, and_true] at e0
  obtain ⟨rfl, rfl, rfl⟩ := e0
  have HR : Hid (∀ w', Chg (fun _ => False) w w' → evsK.rel ok w' s [.slice A s.length c]) := fun w' hc => evsK.move (fun k hk => hc.block k (hok k hk) (fun h => h)) hr
  have HF := Lib.hid hf
  have HOK := Lib.hid hok
  clear hr hok hf
  go_enter Try.func20, Try.ntmps20
  go_wp2
  go_loopw [3, 4] (fun v i wr => EvsRel w s v i wr) (fun _ i _ => s.length - (intOf i).toNat)
  case atStart => exact ⟨0, Nat.zero_le _, rfl, OwnL.nil _ _ _ _, Chg.refl _ _⟩
  case round =>
    obtain ⟨k, hk, rfl, ho, hc⟩ := hrel
    have HO := Lib.hid ho
    obtain ⟨Av, cv, ev⟩ := ho.form
    rw [take_len hk] at ev
    have hc0 := hc.size
    have HC := Lib.hid hc
    clear ho hc
    subst ev
    by_cases hlt : k < s.length
    · have hx : s[k]? = some s[k] := List.getElem?_eq_getElem hlt
      have HX := Lib.hid hx
      obtain ⟨g, off, cs, rfl, hg, hrel, hra⟩ := elem_of _ ok (HR.out _ HC.out) hx
      have HFx := Lib.hid (fits_at HF.out hx)
      generalize s[k] = f at *
      have HK := Lib.hid (copy_ev _ ok f cs hrel (fun j hj => Nat.lt_of_lt_of_le (HOK.out j hj) hc0) HFx.out)
      obtain ⟨AV, nV, cV, AS, nS, cS, ecs⟩ := ev_form hrel
      subst ecs
      obtain ⟨p0, p1, p2, p3, p4, p5, p6, p7, p8, p9, p10, p11⟩ := range12 (o := off + k * 12) hra
      clear hra hx hg hrel
      have i1 : (k : Int) < (s.length : Int) := by omega
      go_wp2_with fail
      refine HK.out.mono ?_
      rintro e w2 ⟨ys, rfl, hy, c2⟩
      have HY := Lib.hid hy
      obtain ⟨AV', nV', cV', AS', nS', cS', ecs⟩ := ev_form hy
      subst ecs
      have s2 := c2.size
      have HC2 := Lib.hid c2
      clear hy c2
      go_wp2_with (at_builtin; refine ap_push rfl (.tmp 11) (.tmp 17) 28 rfl evK w.heap.size 37 144 _ Try.underlying28 info_ev rfl (by decide) (by decide) (.slice Av k cv) (s.take k) rfl (HO.out.up HC2.out) f _ rfl ?bR ?bL ?bB ?_; (case bR => exact evK.mono (fun j hj => ⟨by omega, hj.2, fun he => by have := (HO.out.low j he).2; omega⟩) HY.out); (case bL => rw [take_len hk]; omega); (case bB => omega); intro v3 w3 o3 g3; obtain ⟨A3, c3, e3⟩ := o3.form; subst e3)
      go_roundw
      case rel => exact ⟨k + 1, hlt, by go_num, by rw [take_snoc HX.out]; have o4 := o3; rw [List.length_append, take_len hk] at o4; exact o4, (HC.out.trans HC2.out (fun _ _ h => h)).trans g3 (fun j hj he => by have := (HO.out.low j he).1; omega)⟩
      case measure => simp [intOf]; omega
    · go_wp2
      go_ret
      have hkk : k = s.length := by omega
      have ho := HO.out
      rw [hkk, List.take_length] at ho
      exact ⟨_, rfl, by rw [hkk]; exact ho, HC.out⟩
end
end Go.Proofs.Ytchlolgfahgdeaa.Ec
