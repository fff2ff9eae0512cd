/- The walks of the laws Blind. Conditions: what comes in reads so. -/
import Derived.Test.YtchlolgfahgdeaaEun
import Derived.Test.YtchlolgfahgdeaaEch
import Derived.Test.YtchlolgfahgdeaaRgt
import Derived.Deep.Cut
set_option linter.unusedVariables false
set_option linter.unusedSimpArgs false
namespace Go.Proofs.Ytchlolgfahgdeaa.Ebl
open Go.RowKit Go.Proofs.Ytchlolgfahgdeaa.Lib1 Go.Proofs.Ytchlolgfahgdeaa.Rel Go.Proofs.Ytchlolgfahgdeaa.Own Go.Proofs.Ytchlolgfahgdeaa.Ev Go.Proofs.Ytchlolgfahgdeaa.Ek Go.Proofs.Ytchlolgfahgdeaa.Ec Go.Proofs.Ytchlolgfahgdeaa.Em Go.Proofs.Ytchlolgfahgdeaa.En Go.Proofs.Ytchlolgfahgdeaa.Lat Go.Proofs.Ytchlolgfahgdeaa.Lbl Go.Proofs.Ytchlolgfahgdeaa.Lbw Go.Proofs.Ytchlolgfahgdeaa.Lck Go.Proofs.Ytchlolgfahgdeaa.Lmay Go.Proofs.Ytchlolgfahgdeaa.Rgn Go.Proofs.Ytchlolgfahgdeaa.Rgs Go.Proofs.Ytchlolgfahgdeaa.Eaw Go.Proofs.Ytchlolgfahgdeaa.Esq Go.Proofs.Ytchlolgfahgdeaa.Epo Go.Proofs.Ytchlolgfahgdeaa.Ess Go.Proofs.Ytchlolgfahgdeaa.Ead Go.Proofs.Ytchlolgfahgdeaa.Eak Go.Proofs.Ytchlolgfahgdeaa.Ela Go.Proofs.Ytchlolgfahgdeaa.Ewc Go.Proofs.Ytchlolgfahgdeaa.Eun Go.Proofs.Ytchlolgfahgdeaa.Ech Go.Proofs.Ytchlolgfahgdeaa.Rgt

def nEvF (lo : Nat) (x : Ev) : Note := ⟨fun v w => ∃ cs, v = .agg cs.toArray ∧ evK.rel (fun k => lo ≤ k ∧ k < w.heap.size) w x cs, fun v w w' hc h => by
  obtain ⟨cs, e, hr⟩ := h
  exact ⟨cs, e, evK.mono (fun k hk => ⟨hk.1, Nat.lt_of_lt_of_le hk.2 hc.size⟩) (evK.move (fun k hk => hc.block k hk.2 (fun h => h)) hr)⟩⟩
def nEvsF (lo : Nat) (l : List Ev) : Note := ⟨fun v w => evsK.rel (fun k => lo ≤ k ∧ k < w.heap.size) w l [v], fun v w w' hc h => evsK.mono (fun k hk => ⟨hk.1, Nat.lt_of_lt_of_le hk.2 hc.size⟩) (evsK.move (fun k hk => hc.block k hk.2 (fun h => h)) h)⟩
theorem seg_rel {lo : Nat} {w : World} {z : Ev} {cz : List Value} (hz : evK.rel (fun k => lo ≤ k ∧ k < w.heap.size) w z cz) (hlo : lo ≤ w.heap.size) : evsK.rel (fun k => lo ≤ k ∧ k < (w.alloc (.cells cz.toArray 37)).heap.size) (w.alloc (.cells cz.toArray 37)) [z] [.slice (some ⟨w.heap.size, 0, none⟩) 1 1] := by
  refine ⟨some ⟨w.heap.size, 0, none⟩, 1, cz, rfl, ⟨by rw [evK.len hz]; rfl, Nat.le_refl _, (fun h => by cases h), fun _ => ⟨w.heap.size, 0, rfl, ⟨hlo, by simp⟩, fun j u hu => ?_⟩⟩, fun i x hx => ?_⟩
  · rw [Nat.zero_add]; exact cell_at (heap_new w _) j (by simpa using hu)
  · match i, hx with
    | 0, hx =>
      obtain rfl : z = x := by simpa using hx
      have hl : cz.length = 12 := evK.len hz
      rw [Nat.zero_mul, List.drop_zero, List.take_of_length_le (by rw [hl]; exact Nat.le_refl _)]
      exact evK.mono (fun k hk => ⟨hk.1, by have := hk.2; simp; omega⟩) (evK.move (fun k hk => Below.heap_alloc w _ k hk.2) hz)
    | (i + 1), hx => simp at hx
theorem own_evs {base : Nat} {w : World} {v : Value} {l : List Ev} (h : OwnL evK 37 base w v l) : (nEvs l).f v w := evsK.mono (fun k hk => hk.2) (h.reads (bytes := 144))
section
variable {w : World} {c : Cfg}
theorem d_unseen {V1 V2 : Value} {x : Ev} (b : Bool) (hcf : cfgFits c) (pn : Nat) (hpl : pn < c.labels.length) (h1 : CfgW c V1 w) (h2 : (nEv x).f V2 w) (hb : Ev.unseen c pn x = b) : Calls Try.prog 28 #[V1, .int .i64 (pn : Int), V2] w fun e w' => ∃ v, e = .returned v ∧ Chg (fun _ => False) w w' ∧ v = .bool b := by
  subst hb
  obtain ⟨A1, A2, A3, n1, n2, n3, c1, c2, c3, rfl, hC⟩ := h1
  obtain ⟨cs, rfl, hr⟩ := h2
  exact (unseen_any hC (fun k hk => hk) hcf pn (by rw [← hC.l1]; exact hpl) x hr (fun k hk => hk)).mono fun e w' ⟨he, hc⟩ => ⟨_, he, hc, rfl⟩
theorem d_changed {V1 V2 V3 : Value} {x y : Ev} (lo : Nat) (hlo : lo ≤ w.heap.size) (hcf : cfgFits c) (pn : Nat) (hpl : pn < c.labels.length) (hmc : mayB c = true) (h1 : CfgW c V1 w) (h2 : (nEv x).f V2 w) (h3 : (nEv y).f V3 w) (hx : evK.fits x) (hy : evK.fits y) : Calls Try.prog 29 #[V1, .int .i64 (pn : Int), V2, V3] w fun e w' => ∃ v, e = .returned v ∧ Chg (fun _ => False) w w' ∧ (nEvF lo (Ev.changed c pn x y)).f v w' := by
  obtain ⟨A1, A2, A3, n1, n2, n3, c1, c2, c3, rfl, hC⟩ := h1
  obtain ⟨cs, rfl, V, S, rfl, hV, hS⟩ := h2
  obtain ⟨cs', rfl, V', S', rfl, hV', hS'⟩ := h3
  exact (changed_any hC (fun k hk => hk) hcf pn (by rw [← hC.l1]; exact hpl) hmc x y V S V' S' hV hS hV' hS' (fun k hk => hk) hx hy).mono fun e w' ⟨ys, he, hr, hc⟩ => ⟨_, he, hc, ys, rfl, evK.mono (fun k hk => ⟨Nat.le_trans hlo hk.1, hk.2⟩) hr⟩
end
theorem turn1_len (c : Cfg) (p : Nat) (t : List Ev) (i : Nat) (e : Ev) : (Ev.turn1 c p t i e).length ≤ 2 := by
  unfold Ev.turn1
  rw [List.length_append]
  cases t[i]? with
  | none =>
    have : (if Ev.unseen c p e = true then [] else [e] : List Ev).length ≤ 1 := by split <;> simp
    simp only [List.length_nil]; omega
  | some o =>
    have h1 : (if Ev.unseen c p o = true then [o] else [] : List Ev).length ≤ 1 := by split <;> simp
    have h2 : (if Ev.unseen c p e = true then [] else [Ev.changed c p e o] : List Ev).length ≤ 1 := by split <;> simp
    simp only; omega
theorem turned_len (c : Cfg) (p : Nat) (s t : List Ev) : ∀ k, (Ev.turned c p s t k).length ≤ 2 * k
  | 0 => by simp [Ev.turned]
  | k + 1 => by
    rw [Ev.turned, List.length_append]
    have h := turned_len c p s t k
    cases s[k]? with
    | none => simp only [List.length_nil]; omega
    | some e => have := turn1_len c p t k e; simp only; omega
theorem mixes_fits {c : Cfg} {p : Nat} {a b : List (List Fate)} (h : strikesK.fits a) : strikesK.fits (Ev.mixes c p a b) := by
  refine ⟨by simpa [Ev.mixes] using h.1, fun x hx => ?_⟩
  unfold Ev.mixes at hx
  obtain ⟨i, hi, rfl⟩ := List.mem_map.1 hx
  rw [List.mem_range] at hi
  have hr : fatesK.fits (a.getD i []) := h.2 _ (by simp [List.getD_eq_getElem?_getD, hi])
  split
  · exact ⟨by simpa [Ev.mix] using hr.1, fun _ _ => trivial⟩
  · exact hr
theorem changed_fits {c : Cfg} {p : Nat} {e o : Ev} (h1 : evK.fits e) (h2 : evK.fits o) : evK.fits (Ev.changed c p e o) := by
  unfold Ev.changed
  split
  · exact h2
  · split
    · refine ⟨?_, h2.2⟩
      show reqFits (Ev.askReq e.req o.req)
      unfold Ev.askReq
      split
      · exact ⟨h2.1.1, h2.1.2.1, h2.1.2.2⟩
      · split
        · exact ⟨h2.1.1, h1.1.2.1, h1.1.2.2⟩
        · exact h1.1
    · split
      · exact ⟨h2.1, mixes_fits h1.2⟩
      · split
        · split
          · exact ⟨h1.1, mixes_fits h1.2⟩
          · exact ⟨h1.1, mixes_fits h1.2⟩
        · exact ⟨h1.1, mixes_fits h1.2⟩
theorem turned_fits {c : Cfg} {p : Nat} {s t : List Ev} (h1 : evsK.fits s) (h2 : evsK.fits t) (hn : s.length ≤ 1048576) : ∀ k, k ≤ s.length → evsK.fits (Ev.turned c p s t k) := by
  intro k hk
  refine ⟨by have := turned_len c p s t k; omega, ?_⟩
  clear hn
  induction k with
  | zero => intro x hx; simp [Ev.turned] at hx
  | succ k ih =>
    intro x hx
    rw [Ev.turned, List.mem_append] at hx
    rcases hx with hx | hx
    · exact ih (by omega) x hx
    · rw [List.getElem?_eq_getElem (by omega)] at hx
      have hs := h1.2 s[k] (List.getElem_mem (by omega))
      simp only [Ev.turn1, List.mem_append] at hx
      cases ho : t[k]? with
      | none =>
        rw [ho] at hx
        rcases hx with hx | hx
        · simp at hx
        · simp only at hx; split at hx
          · simp at hx
          · simp at hx; rw [hx]; exact hs
      | some o =>
        rw [ho] at hx
        have ht := h2.2 o (List.mem_of_getElem? ho)
        rcases hx with hx | hx
        · simp only at hx; split at hx
          · simp at hx; rw [hx]; exact ht
          · simp at hx
        · simp only at hx; split at hx
          · simp at hx
          · simp at hx; rw [hx]; exact changed_fits hs ht
theorem turned_next (c : Cfg) (p : Nat) (s t : List Ev) {k : Nat} {x : Ev} (h : s[k]? = some x) : Ev.turned c p s t (k + 1) = Ev.turned c p s t k ++ Ev.turn1 c p t k x := by rw [Ev.turned, h]
theorem purge_turned' (c : Cfg) (pn : Nat) (s t : List Ev) : Ev.purge c (pn : Int) (Ev.turned c pn s t s.length) = Ev.purge c (pn : Int) s := by
  have := purge_turned c (pn : Int) s t
  rwa [show ((pn : Int)).toNat = pn by omega] at this
set_option maxRecDepth 100000 in
set_option maxHeartbeats 40000000 in
theorem blind_walk {ok : Nat → Prop} {w : World} {A1 A2 A3 : Option Addr} {n1 n2 n3 c1 c2 c3 : Nat} {c : Cfg} (h : CfgAt ok w A1 A2 A3 n1 n2 n3 c1 c2 c3 c) (hok : ∀ k, ok k → k < w.heap.size) (hcf : cfgFits c) (place : Int) {oks : Nat → Prop} (s : List Ev) (A : Option Addr) (n cc : Nat) (hrs : evsK.rel oks w s [.slice A n cc]) (hoks : ∀ k, oks k → k < w.heap.size) (hfs : evsK.fits s) {okt : Nat → Prop} (t : List Ev) (B : Option Addr) (m cd : Nat) (hrt : evsK.rel okt w t [.slice B m cd]) (hokt : ∀ k, okt k → k < w.heap.size) (hft : evsK.fits t) (hn : s.length ≤ 1048576) :
    Calls Try.prog 11 #[.agg #[.slice A1 n1 c1, .slice A2 n2 c2, .slice A3 n3 c3], .int .i64 place, .slice A n cc, .slice B m cd] w fun e w' => e = .returned (.bool true) ∧ Below w.heap.size w w' := by
  have hl : s.length * 144 ≤ 140737488351232 := hfs.1
  have hlt2 : t.length * 144 ≤ 140737488351232 := hft.1
  obtain ⟨A0, c0, e0, -⟩ := slice_form hrs
  simp only [List.cons.injEq, Value.slice.injEq, and_true] at e0
  obtain ⟨rfl, rfl, rfl⟩ := e0
  obtain ⟨B0, d0, e0, -⟩ := slice_form hrt
  simp only [List.cons.injEq, Value.slice.injEq, and_true] at e0
  obtain ⟨rfl, rfl, rfl⟩ := e0
  have hC0 : CfgW c (.agg #[.slice A1 n1 c1, .slice A2 n2 c2, .slice A3 n3 c3]) w := CfgW_of h hok
  have hEs : (nEvs s).f (.slice A s.length cc) w := nEvs_of hrs hoks
  have hEt : (nEvs t).f (.slice B t.length cd) w := nEvs_of hrt hokt
  have HC : Hid (∀ w', Chg (fun _ => False) w w' → CfgW c (.agg #[.slice A1 n1 c1, .slice A2 n2 c2, .slice A3 n3 c3]) w') := fun w' hc => hC0.up hc
  have HEs : Hid (∀ w', Chg (fun _ => False) w w' → (nEvs s).f (.slice A s.length cc) w') := fun w' hc => nEvs_up hEs hc
  have HEt : Hid (∀ w', Chg (fun _ => False) w w' → (nEvs t).f (.slice B t.length cd) w') := fun w' hc => nEvs_up hEt hc
  have HBX : Hid (∀ w', Chg (fun _ => False) (w.alloc (.cells #[.slice A1 n1 c1, .slice A2 n2 c2, .slice A3 n3 c3] 27)) w' → w'.heap[w.heap.size]? = some (.cells #[.slice A1 n1 c1, .slice A2 n2 c2, .slice A3 n3 c3] 27 (0, 0))) := fun w' hc => hc.at_ (heap_new w _) (fun h => h)
  have HFs := Lib.hid hfs
  have HFt := Lib.hid hft
  have HL1 : Hid (c.labels.length = n1) := h.l1
  obtain ⟨B9, HB⟩ : ∃ B9, Hid (B9 = (w.alloc (.cells #[.slice A1 n1 c1, .slice A2 n2 c2, .slice A3 n3 c3] 27)).heap.size) := ⟨_, rfl⟩
  have HB1 : Hid (B9 ≤ (w.alloc (.cells #[.slice A1 n1 c1, .slice A2 n2 c2, .slice A3 n3 c3] 27)).heap.size) := by have h0 : B9 = _ := HB.out; show _ ≤ _; rw [h0]; exact Nat.le_refl _
  have HB2 : Hid ((w.alloc (.cells #[.slice A1 n1 c1, .slice A2 n2 c2, .slice A3 n3 c3] 27)).heap.size ≤ B9) := by have h0 : B9 = _ := HB.out; show _ ≤ _; rw [h0]; exact Nat.le_refl _
  clear HB
  clear h hok hrs hoks hrt hokt hC0 hEs hEt hfs hft
  go_enter Try.func11, Try.ntmps11
  go_wp2_with fail
  refine (awake_any _).mono ?_
  rintro e w2 ⟨rfl, hc2⟩
  have H2 : Hid (Chg (fun _ => False) (w.alloc (.cells #[.slice A1 n1 c1, .slice A2 n2 c2, .slice A3 n3 c3] 27)) w2) := hc2
  have k0 := cell_at (HBX.out _ hc2) 0 rfl
  have k1 := cell_at (HBX.out _ hc2) 1 rfl
  have k2 := cell_at (HBX.out _ hc2) 2 rfl
  have HMC : Hid (Calls Try.prog 25 #[.agg #[.slice A1 n1 c1, .slice A2 n2 c2, .slice A3 n3 c3]] w2 fun e w' => ∃ v, e = .returned v ∧ Chg (fun _ => False) w2 w' ∧ v = .bool (mayB c)) := d_mayConfig hcf (HC.out _ (((Chg.refl _ w).alloc _).trans hc2 (fun _ _ h => h)))
  clear hc2
  go_upto_region 3 with fail
  generalize hmb : mayB c = mb at *
  have HMB := Lib.hid hmb
  clear hmb
  cases mb with
  | false =>
    go_wp2_with fail
    refine HMC.out.mono ?_
    rintro e w4 ⟨_, rfl, hc4, rfl⟩
    have H4 : Hid (Chg (fun _ => False) (w.alloc (.cells #[.slice A1 n1 c1, .slice A2 n2 c2, .slice A3 n3 c3] 27)) w4) := H2.out.trans hc4 (fun _ _ h => h)
    have j0 := cell_at (HBX.out _ H4.out) 0 rfl
    clear hc4 k0 k1 k2
    go_wp2
    go_ret
    exact ⟨rfl, (((Chg.refl _ w).alloc _).trans H4.out (fun _ _ h => h)).below⟩
  | true =>
    by_cases t1 : place < 0
    · have i1 : decide (place < 0) = true := by simpa using t1
      clear t1
      go_wp2_with fail
      refine HMC.out.mono ?_
      rintro e w4 ⟨_, rfl, hc4, rfl⟩
      have H4 : Hid (Chg (fun _ => False) (w.alloc (.cells #[.slice A1 n1 c1, .slice A2 n2 c2, .slice A3 n3 c3] 27)) w4) := H2.out.trans hc4 (fun _ _ h => h)
      have j0 := cell_at (HBX.out _ H4.out) 0 rfl
      clear hc4 k0 k1 k2
      go_wp2
      go_ret
      exact ⟨rfl, (((Chg.refl _ w).alloc _).trans H4.out (fun _ _ h => h)).below⟩
    have i1 : decide (place < 0) = false := by simpa using t1
    by_cases t3 : (n1 : Int) ≤ place
    · have i3 : decide ((n1 : Int) ≤ place) = true := by simpa using t3
      clear t1 t3
      go_wp2_with fail
      refine HMC.out.mono ?_
      rintro e w4 ⟨_, rfl, hc4, rfl⟩
      have H4 : Hid (Chg (fun _ => False) (w.alloc (.cells #[.slice A1 n1 c1, .slice A2 n2 c2, .slice A3 n3 c3] 27)) w4) := H2.out.trans hc4 (fun _ _ h => h)
      have j0 := cell_at (HBX.out _ H4.out) 0 rfl
      clear hc4 k0 k1 k2
      go_wp2
      go_ret
      exact ⟨rfl, (((Chg.refl _ w).alloc _).trans H4.out (fun _ _ h => h)).below⟩
    have i3 : decide ((n1 : Int) ≤ place) = false := by simpa using t3
    obtain ⟨pn, rfl⟩ := Int.eq_ofNat_of_zero_le (by omega : 0 ≤ place)
    have hpl : pn < c.labels.length := by have := HL1.out; omega
    have HPL := Lib.hid hpl
    have i4 : decide (n1 ≤ pn) = false := by simp; omega
    clear t1 t3 hpl
    go_wp2_with fail
    refine HMC.out.mono ?_
    rintro e w4 ⟨_, rfl, hc4, rfl⟩
    have H4 : Hid (Chg (fun _ => False) (w.alloc (.cells #[.slice A1 n1 c1, .slice A2 n2 c2, .slice A3 n3 c3] 27)) w4) := H2.out.trans hc4 (fun _ _ h => h)
    have j0 := cell_at (HBX.out _ H4.out) 0 rfl
    clear hc4 k0 k1 k2
    have HBo : Hid (B9 ≤ w4.heap.size) := Lib.hid (Nat.le_trans HB1.out H4.out.size)
    go_wp2
    clear i1 i3 i4 j0
    go_loopw [9, 10] (fun v i wr => ∃ k : Nat, k ≤ s.length ∧ i = .int .i64 k ∧ OwnL evK 37 B9 wr v (Ev.turned c pn s t k) ∧ Chg (fun _ => False) (w.alloc (.cells #[.slice A1 n1 c1, .slice A2 n2 c2, .slice A3 n3 c3] 27)) wr) (fun _ i _ => s.length - (intOf i).toNat)
    case atStart => exact ⟨0, Nat.zero_le _, rfl, OwnL.nil _ _ _ _, H4.out⟩
    case round =>
      obtain ⟨wo, rfl⟩ : ∃ wo : World, wo = wr := ⟨_, rfl⟩
      obtain ⟨k, hk, rfl, ho, hc⟩ := hrel
      have H1 : Hid (Chg (fun _ => False) (w.alloc (.cells #[.slice A1 n1 c1, .slice A2 n2 c2, .slice A3 n3 c3] 27)) wo) := hc
      have hBo : B9 ≤ wo.heap.size := Nat.le_trans HB1.out hc.size
      have hyl := turned_len c pn s t k
      by_cases hlt : k < s.length
      · generalize hys : Ev.turned c pn s t k = ys at *
        have HYs := Lib.hid hys
        have HO := Lib.hid ho
        obtain ⟨Av, cv, ev⟩ := ho.form
        clear hys ho hc
        subst ev
        have hx : s[k]? = some s[k] := List.getElem?_eq_getElem hlt
        have HX := Lib.hid hx
        obtain ⟨g, off, cs, rfl, hg, hrel, hra⟩ := elem_of (b := 144) _ _ (HEs.out (w.alloc (.cells #[.slice A1 n1 c1, .slice A2 n2 c2, .slice A3 n3 c3] 27)) ((Chg.refl _ w).alloc _)) hx
        have HFx := Lib.hid (fits_at HFs.out hx)
        generalize s[k] = x at *
        have HEV0 : Hid ((nEv x).f (.agg cs.toArray) (w.alloc (.cells #[.slice A1 n1 c1, .slice A2 n2 c2, .slice A3 n3 c3] 27))) := ⟨cs, rfl, hrel⟩
        obtain ⟨AV, cV, AS, cS, ecs, -, -⟩ := ev_parts hrel
        subst ecs
        have HEV : Hid (∀ w', Chg (fun _ => False) (w.alloc (.cells #[.slice A1 n1 c1, .slice A2 n2 c2, .slice A3 n3 c3] 27)) w' → (nEv x).f (.agg #[.int .i64 x.kind, .int .i64 x.session, .int .i64 x.req.kind, .int .i64 x.req.life, .int .i64 x.req.number, .int .i64 x.req.place, .string x.req.key, .string x.req.to, .slice AV x.req.value.length cV, .int .i64 x.req.limit, .int .i64 x.place, .slice AS x.strikes.length cS]) w') := fun w' hc => (nEv x).st _ _ _ hc HEV0.out
        have HRA : Hid (∀ w', Chg (fun _ => False) (w.alloc (.cells #[.slice A1 n1 c1, .slice A2 n2 c2, .slice A3 n3 c3] 27)) w' → w'.rangeAt g (off + k * 12) (evCs x (.slice AV x.req.value.length cV) (.slice AS x.strikes.length cS))) := fun w' hc => range_up hra hg hc
        clear hra hx hg hrel HEV0
        have i1 : (k : Int) < (s.length : Int) := by omega
        have i5 : (0 : Int) ≤ (k : Int) := by omega
        by_cases hkt : k < t.length
        · have hy : t[k]? = some t[k] := List.getElem?_eq_getElem hkt
          have HY := Lib.hid hy
          obtain ⟨h, oft, csy, rfl, hgy, hrely, hray⟩ := elem_of (b := 144) _ _ (HEt.out (w.alloc (.cells #[.slice A1 n1 c1, .slice A2 n2 c2, .slice A3 n3 c3] 27)) ((Chg.refl _ w).alloc _)) hy
          have HFy := Lib.hid (fits_at HFt.out hy)
          generalize t[k] = y at *
          have HEV1 : Hid ((nEv y).f (.agg csy.toArray) (w.alloc (.cells #[.slice A1 n1 c1, .slice A2 n2 c2, .slice A3 n3 c3] 27))) := ⟨csy, rfl, hrely⟩
          obtain ⟨AVy, cVy, ASy, cSy, ecsy, -, -⟩ := ev_parts hrely
          subst ecsy
          have HEVY : Hid (∀ w', Chg (fun _ => False) (w.alloc (.cells #[.slice A1 n1 c1, .slice A2 n2 c2, .slice A3 n3 c3] 27)) w' → (nEv y).f (.agg #[.int .i64 y.kind, .int .i64 y.session, .int .i64 y.req.kind, .int .i64 y.req.life, .int .i64 y.req.number, .int .i64 y.req.place, .string y.req.key, .string y.req.to, .slice AVy y.req.value.length cVy, .int .i64 y.req.limit, .int .i64 y.place, .slice ASy y.strikes.length cSy]) w') := fun w' hc => (nEv y).st _ _ _ hc HEV1.out
          have HRAY : Hid (∀ w', Chg (fun _ => False) (w.alloc (.cells #[.slice A1 n1 c1, .slice A2 n2 c2, .slice A3 n3 c3] 27)) w' → w'.rangeAt h (oft + k * 12) (evCs y (.slice AVy y.req.value.length cVy) (.slice ASy y.strikes.length cSy))) := fun w' hc => range_up hray hgy hc
          clear hray hy hgy hrely HEV1
          have i6 : (k : Int) < (t.length : Int) := by omega
          by_cases huy : Ev.unseen c pn y = true
          · have huy' : Ev.unseen c pn y = true := huy
            have HUY := Lib.hid huy'
            clear huy huy'
            go_upto_region 9 with fail
            refine wp_region_soft (notes [Note.eq (.int .i64 (k : Int)), Note.eq (.slice (some ⟨h, oft, none⟩) t.length cd), Note.eq (.int .i64 (t.length : Int)), Note.eq (.bool true), Note.eq (.bool true), Note.eq (.agg #[.slice A1 n1 c1, .slice A2 n2 c2, .slice A3 n3 c3]), Note.eq (.int .i64 (pn : Int)), Note.eq (.slice (some ⟨h, oft, none⟩) t.length cd), Note.eq (.int .i64 (k : Int)), Note.eq (.pointer (some ⟨h, oft + k * 12, none⟩)), Note.eq (.agg #[.int .i64 y.kind, .int .i64 y.session, .int .i64 y.req.kind, .int .i64 y.req.life, .int .i64 y.req.number, .int .i64 y.req.place, .string y.req.key, .string y.req.to, .slice AVy y.req.value.length cVy, .int .i64 y.req.limit, .int .i64 y.place, .slice ASy y.strikes.length cSy]), Note.eq (.bool true), Note.eq (.bool true)]) (by kernel_rfl) (by kernel_rfl) (by kernel_rfl) (notes_st _) ?_
            refine soft_one (some 33) rfl (Note.eq (.int .i64 (k : Int))).f (by kernel_rfl) (by kernel_rfl) (fun w1 hc hk => ?_) (fun x9_0 w1 hc hv => ?_)
            · exact soft_move (.tmp 10) rfl (.int .i64 (k : Int)) (by kernel_rfl) rfl
            obtain rfl : x9_0 = _ := hv
            clear hc w1
            refine soft_one (some 34) rfl (Note.eq (.slice (some ⟨h, oft, none⟩) t.length cd)).f (by kernel_rfl) (by kernel_rfl) (fun w1 hc hk => ?_) (fun x9_1 w1 hc hv => ?_)
            · exact soft_move (.tmp 3) rfl (.slice (some ⟨h, oft, none⟩) t.length cd) (by kernel_rfl) rfl
            obtain rfl : x9_1 = _ := hv
            clear hc w1
            refine soft_one (some 35) rfl (Note.eq (.int .i64 (t.length : Int))).f (by kernel_rfl) (by kernel_rfl) (fun w1 hc hk => ?_) (fun x9_2 w1 hc hv => ?_)
            · refine soft_at (w1 := w1) (u := .int .i64 (t.length : Int)) (fun ρ => (∀ v, ρ (.const v) = v) ∧ ρ (.tmp 34) = .slice (some ⟨h, oft, none⟩) t.length cd) ⟨fun v => rfl, by kernel_rfl⟩ (fun ρ hρ => ?_) (Chg.refl _ _) rfl; (obtain ⟨g0, g1⟩ := hρ; go_simp)
            obtain rfl : x9_2 = _ := hv
            clear hc w1
            refine soft_one (some 36) rfl (Note.eq (.bool true)).f (by kernel_rfl) (by kernel_rfl) (fun w1 hc hk => ?_) (fun x9_3 w1 hc hv => ?_)
            · refine soft_at (w1 := w1) (u := .bool true) (fun ρ => (∀ v, ρ (.const v) = v) ∧ ρ (.tmp 33) = .int .i64 (k : Int) ∧ ρ (.tmp 35) = .int .i64 (t.length : Int)) ⟨fun v => rfl, by kernel_rfl, by kernel_rfl⟩ (fun ρ hρ => ?_) (Chg.refl _ _) rfl; (obtain ⟨g0, g1, g2⟩ := hρ; go_simp)
            obtain rfl : x9_3 = _ := hv
            clear hc w1
            refine soft_one (some 37) rfl (Note.eq (.bool true)).f (by kernel_rfl) (by kernel_rfl) (fun w1 hc hk => ?_) (fun x9_4 w1 hc hv => ?_)
            · exact soft_move (.tmp 36) rfl (.bool true) (by kernel_rfl) rfl
            obtain rfl : x9_4 = _ := hv
            clear hc w1
            refine soft_one (some 38) rfl (Note.eq (.agg #[.slice A1 n1 c1, .slice A2 n2 c2, .slice A3 n3 c3])).f (by kernel_rfl) (by kernel_rfl) (fun w1 hc hk => ?_) (fun x9_5 w1 hc hv => ?_)
            · have k0 := cell_at (HBX.out _ (H1.out.trans hc (fun _ _ h => h))) 0 rfl; have k1 := cell_at (HBX.out _ (H1.out.trans hc (fun _ _ h => h))) 1 rfl; have k2 := cell_at (HBX.out _ (H1.out.trans hc (fun _ _ h => h))) 2 rfl; refine soft_at (w1 := w1) (u := .agg #[.slice A1 n1 c1, .slice A2 n2 c2, .slice A3 n3 c3]) (fun ρ => ρ (.tmp 4) = .pointer (some ⟨w.heap.size, 0, none⟩)) (by kernel_rfl) (fun ρ hρ => ?_) (Chg.refl _ _) rfl; go_simp
            obtain rfl : x9_5 = _ := hv
            clear hc w1
            refine soft_one (some 39) rfl (Note.eq (.int .i64 (pn : Int))).f (by kernel_rfl) (by kernel_rfl) (fun w1 hc hk => ?_) (fun x9_6 w1 hc hv => ?_)
            · exact soft_move (.tmp 1) rfl (.int .i64 (pn : Int)) (by kernel_rfl) rfl
            obtain rfl : x9_6 = _ := hv
            clear hc w1
            refine soft_one (some 40) rfl (Note.eq (.slice (some ⟨h, oft, none⟩) t.length cd)).f (by kernel_rfl) (by kernel_rfl) (fun w1 hc hk => ?_) (fun x9_7 w1 hc hv => ?_)
            · exact soft_move (.tmp 3) rfl (.slice (some ⟨h, oft, none⟩) t.length cd) (by kernel_rfl) rfl
            obtain rfl : x9_7 = _ := hv
            clear hc w1
            refine soft_one (some 41) rfl (Note.eq (.int .i64 (k : Int))).f (by kernel_rfl) (by kernel_rfl) (fun w1 hc hk => ?_) (fun x9_8 w1 hc hv => ?_)
            · exact soft_move (.tmp 10) rfl (.int .i64 (k : Int)) (by kernel_rfl) rfl
            obtain rfl : x9_8 = _ := hv
            clear hc w1
            refine soft_one (some 42) rfl (Note.eq (.pointer (some ⟨h, oft + k * 12, none⟩))).f (by kernel_rfl) (by kernel_rfl) (fun w1 hc hk => ?_) (fun x9_9 w1 hc hv => ?_)
            · refine soft_at (w1 := w1) (u := .pointer (some ⟨h, oft + k * 12, none⟩)) (fun ρ => (∀ v, ρ (.const v) = v) ∧ ρ (.tmp 40) = .slice (some ⟨h, oft, none⟩) t.length cd ∧ ρ (.tmp 41) = .int .i64 (k : Int)) ⟨fun v => rfl, by kernel_rfl, by kernel_rfl⟩ (fun ρ hρ => ?_) (Chg.refl _ _) rfl; (obtain ⟨g0, g1, g2⟩ := hρ; go_simp)
            obtain rfl : x9_9 = _ := hv
            clear hc w1
            refine soft_one (some 43) rfl (Note.eq (.agg #[.int .i64 y.kind, .int .i64 y.session, .int .i64 y.req.kind, .int .i64 y.req.life, .int .i64 y.req.number, .int .i64 y.req.place, .string y.req.key, .string y.req.to, .slice AVy y.req.value.length cVy, .int .i64 y.req.limit, .int .i64 y.place, .slice ASy y.strikes.length cSy])).f (by kernel_rfl) (by kernel_rfl) (fun w1 hc hk => ?_) (fun x9_10 w1 hc hv => ?_)
            · obtain ⟨p0, p1, p2, p3, p4, p5, p6, p7, p8, p9, p10, p11⟩ := range12 (HRAY.out _ (H1.out.trans hc (fun _ _ h => h))); refine soft_at (w1 := w1) (u := .agg #[.int .i64 y.kind, .int .i64 y.session, .int .i64 y.req.kind, .int .i64 y.req.life, .int .i64 y.req.number, .int .i64 y.req.place, .string y.req.key, .string y.req.to, .slice AVy y.req.value.length cVy, .int .i64 y.req.limit, .int .i64 y.place, .slice ASy y.strikes.length cSy]) (fun ρ => ρ (.tmp 42) = .pointer (some ⟨h, oft + k * 12, none⟩)) (by kernel_rfl) (fun ρ hρ => ?_) (Chg.refl _ _) rfl; go_simp
            obtain rfl : x9_10 = _ := hv
            clear hc w1
            refine soft_one (some 44) rfl (Note.eq (.bool true)).f (by kernel_rfl) (by kernel_rfl) (fun w1 hc hk => ?_) (fun x9_11 w1 hc hv => ?_)
            · exact soft_call (args := #[.agg #[.slice A1 n1 c1, .slice A2 n2 c2, .slice A3 n3 c3], .int .i64 (pn : Int), .agg #[.int .i64 y.kind, .int .i64 y.session, .int .i64 y.req.kind, .int .i64 y.req.life, .int .i64 y.req.number, .int .i64 y.req.place, .string y.req.key, .string y.req.to, .slice AVy y.req.value.length cVy, .int .i64 y.req.limit, .int .i64 y.place, .slice ASy y.strikes.length cSy]]) Try.func28 (by kernel_rfl) (by kernel_rfl) rfl (by kernel_rfl) (d_unseen true hcf pn HPL.out (HC.out _ (((Chg.refl _ w).alloc _).trans (H1.out.trans hc (fun _ _ h => h)) (fun _ _ h => h))) (HEVY.out _ (H1.out.trans hc (fun _ _ h => h))) HUY.out)
            obtain rfl : x9_11 = _ := hv
            clear hc w1
            refine soft_one (some 45) rfl (Note.eq (.bool true)).f (by kernel_rfl) (by kernel_rfl) (fun w1 hc hk => ?_) (fun x9_12 w1 hc hv => ?_)
            · refine soft_at (w1 := w1) (u := .bool true) (fun ρ => (∀ v, ρ (.const v) = v) ∧ ρ (.tmp 37) = .bool true ∧ ρ (.tmp 44) = .bool true) ⟨fun v => rfl, by kernel_rfl, by kernel_rfl⟩ (fun ρ hρ => ?_) (Chg.refl _ _) rfl; (obtain ⟨g0, g1, g2⟩ := hρ; go_simp)
            obtain rfl : x9_12 = _ := hv
            clear hc w1
            intro w3 hc3 hn3
            have H3 : Hid (Chg (fun _ => False) (w.alloc (.cells #[.slice A1 n1 c1, .slice A2 n2 c2, .slice A3 n3 c3] 27)) w3) := H1.out.trans hc3 (fun _ _ h => h)
            have HO3 := Lib.hid (HO.out.up hc3)
            have hB3 : B9 ≤ w3.heap.size := Nat.le_trans hBo hc3.size
            clear hc3 hn3
            simp only [Act.put, List.setIfInBounds_toArray, List.set_cons_succ, List.set_cons_zero]
            obtain ⟨p0, p1, p2, p3, p4, p5, p6, p7, p8, p9, p10, p11⟩ := range12 (HRAY.out _ H3.out)
            obtain ⟨cx, ex, hx6⟩ := HEVY.out _ H3.out
            have HCP : Hid (Calls Try.prog 16 #[.agg #[.int .i64 y.kind, .int .i64 y.session, .int .i64 y.req.kind, .int .i64 y.req.life, .int .i64 y.req.number, .int .i64 y.req.place, .string y.req.key, .string y.req.to, .slice AVy y.req.value.length cVy, .int .i64 y.req.limit, .int .i64 y.place, .slice ASy y.strikes.length cSy]] w3 fun e w' => ∃ ys, e = .returned (.agg ys.toArray) ∧ evK.rel (fun k => w3.heap.size ≤ k ∧ k < w'.heap.size) w' y ys ∧ Chg (fun _ => False) w3 w') := Lib.hid (by rw [ex]; exact copy_ev w3 _ y cx hx6 (fun k hk => hk) HFy.out)
            clear ex hx6
            go_wp2_with fail
            refine HCP.out.mono ?_
            rintro e w4' ⟨cz, rfl, hz, hc4⟩
            obtain ⟨AVz, nVz, cVz, ASz, nSz, cSz, ecz⟩ := ev_form hz
            subst ecz
            have H4' : Hid (Chg (fun _ => False) (w.alloc (.cells #[.slice A1 n1 c1, .slice A2 n2 c2, .slice A3 n3 c3] 27)) w4') := H3.out.trans hc4 (fun _ _ h => h)
            have HO4 := Lib.hid (HO3.out.up hc4)
            have hs4 := hc4.size
            have HZ4 := Lib.hid hz
            have hlow3 : Hid (∀ j, (.slice Av ys.length cv : Value).ownBlock = some j → j < w3.heap.size) := Lib.hid (fun j hj => (HO3.out.low j hj).2)
            clear hc4 hz p0 p1 p2 p3 p4 p5 p6 p7 p8 p9 p10 p11
            go_upto_region 11 with (at_builtin; refine ap_push rfl (.tmp 46) (.tmp 52) 28 rfl evK B9 37 144 _ Try.underlying28 info_ev rfl (by decide) (by decide) (.slice Av ys.length cv) (ys) rfl HO4.out (y) _ rfl ?bR ?bL ?bB ?_; (case bR => exact evK.mono (fun j hj => ⟨by omega, hj.2, fun he => by have := hlow3.out j he; omega⟩) HZ4.out); (case bL => omega); (case bB => omega); intro vb w5 ob gb; obtain ⟨Ab, cb, eb⟩ := ob.form; rw [show (ys ++ [y]).length = ys.length + 1 by simp] at eb; subst eb; have hl5 : (ys ++ [y]).length ≤ ys.length + 1 := (by simp); have H5 : Hid (Chg (fun _ => False) (w.alloc (.cells #[.slice A1 n1 c1, .slice A2 n2 c2, .slice A3 n3 c3] 27)) w5) := Lib.hid (H4'.out.trans gb (fun j hj he => by have := (HO4.out.low j he).1; have := HB2.out; omega)); have HO5 := Lib.hid ob; clear ob gb)
            by_cases hux : Ev.unseen c pn x = true
            · have hux' : Ev.unseen c pn x = true := hux
              have HUX := Lib.hid hux'
              clear hux hux'
              go_upto_region 11 with fail
              refine wp_region_soft (notes [Note.eq (.agg #[.slice A1 n1 c1, .slice A2 n2 c2, .slice A3 n3 c3]), Note.eq (.int .i64 (pn : Int)), Note.eq (.slice (some ⟨g, off, none⟩) s.length cc), Note.eq (.int .i64 (k : Int)), Note.eq (.pointer (some ⟨g, off + k * 12, none⟩)), Note.eq (.agg #[.int .i64 x.kind, .int .i64 x.session, .int .i64 x.req.kind, .int .i64 x.req.life, .int .i64 x.req.number, .int .i64 x.req.place, .string x.req.key, .string x.req.to, .slice AV x.req.value.length cV, .int .i64 x.req.limit, .int .i64 x.place, .slice AS x.strikes.length cS]), Note.eq (.bool true)]) (by kernel_rfl) (by kernel_rfl) (by kernel_rfl) (notes_st _) ?_
              refine soft_one (some 54) rfl (Note.eq (.agg #[.slice A1 n1 c1, .slice A2 n2 c2, .slice A3 n3 c3])).f (by kernel_rfl) (by kernel_rfl) (fun w1 hc hk => ?_) (fun z11_0 w1 hc hv => ?_)
              · have k0 := cell_at (HBX.out _ (H5.out.trans hc (fun _ _ h => h))) 0 rfl; have k1 := cell_at (HBX.out _ (H5.out.trans hc (fun _ _ h => h))) 1 rfl; have k2 := cell_at (HBX.out _ (H5.out.trans hc (fun _ _ h => h))) 2 rfl; refine soft_at (w1 := w1) (u := .agg #[.slice A1 n1 c1, .slice A2 n2 c2, .slice A3 n3 c3]) (fun ρ => ρ (.tmp 4) = .pointer (some ⟨w.heap.size, 0, none⟩)) (by kernel_rfl) (fun ρ hρ => ?_) (Chg.refl _ _) rfl; go_simp
              obtain rfl : z11_0 = _ := hv
              clear hc w1
              refine soft_one (some 55) rfl (Note.eq (.int .i64 (pn : Int))).f (by kernel_rfl) (by kernel_rfl) (fun w1 hc hk => ?_) (fun z11_1 w1 hc hv => ?_)
              · exact soft_move (.tmp 1) rfl (.int .i64 (pn : Int)) (by kernel_rfl) rfl
              obtain rfl : z11_1 = _ := hv
              clear hc w1
              refine soft_one (some 56) rfl (Note.eq (.slice (some ⟨g, off, none⟩) s.length cc)).f (by kernel_rfl) (by kernel_rfl) (fun w1 hc hk => ?_) (fun z11_2 w1 hc hv => ?_)
              · exact soft_move (.tmp 2) rfl (.slice (some ⟨g, off, none⟩) s.length cc) (by kernel_rfl) rfl
              obtain rfl : z11_2 = _ := hv
              clear hc w1
              refine soft_one (some 57) rfl (Note.eq (.int .i64 (k : Int))).f (by kernel_rfl) (by kernel_rfl) (fun w1 hc hk => ?_) (fun z11_3 w1 hc hv => ?_)
              · exact soft_move (.tmp 10) rfl (.int .i64 (k : Int)) (by kernel_rfl) rfl
              obtain rfl : z11_3 = _ := hv
              clear hc w1
              refine soft_one (some 58) rfl (Note.eq (.pointer (some ⟨g, off + k * 12, none⟩))).f (by kernel_rfl) (by kernel_rfl) (fun w1 hc hk => ?_) (fun z11_4 w1 hc hv => ?_)
              · refine soft_at (w1 := w1) (u := .pointer (some ⟨g, off + k * 12, none⟩)) (fun ρ => (∀ v, ρ (.const v) = v) ∧ ρ (.tmp 56) = .slice (some ⟨g, off, none⟩) s.length cc ∧ ρ (.tmp 57) = .int .i64 (k : Int)) ⟨fun v => rfl, by kernel_rfl, by kernel_rfl⟩ (fun ρ hρ => ?_) (Chg.refl _ _) rfl; (obtain ⟨g0, g1, g2⟩ := hρ; go_simp)
              obtain rfl : z11_4 = _ := hv
              clear hc w1
              refine soft_one (some 59) rfl (Note.eq (.agg #[.int .i64 x.kind, .int .i64 x.session, .int .i64 x.req.kind, .int .i64 x.req.life, .int .i64 x.req.number, .int .i64 x.req.place, .string x.req.key, .string x.req.to, .slice AV x.req.value.length cV, .int .i64 x.req.limit, .int .i64 x.place, .slice AS x.strikes.length cS])).f (by kernel_rfl) (by kernel_rfl) (fun w1 hc hk => ?_) (fun z11_5 w1 hc hv => ?_)
              · obtain ⟨p0, p1, p2, p3, p4, p5, p6, p7, p8, p9, p10, p11⟩ := range12 (HRA.out _ (H5.out.trans hc (fun _ _ h => h))); refine soft_at (w1 := w1) (u := .agg #[.int .i64 x.kind, .int .i64 x.session, .int .i64 x.req.kind, .int .i64 x.req.life, .int .i64 x.req.number, .int .i64 x.req.place, .string x.req.key, .string x.req.to, .slice AV x.req.value.length cV, .int .i64 x.req.limit, .int .i64 x.place, .slice AS x.strikes.length cS]) (fun ρ => ρ (.tmp 58) = .pointer (some ⟨g, off + k * 12, none⟩)) (by kernel_rfl) (fun ρ hρ => ?_) (Chg.refl _ _) rfl; go_simp
              obtain rfl : z11_5 = _ := hv
              clear hc w1
              refine soft_one (some 60) rfl (Note.eq (.bool true)).f (by kernel_rfl) (by kernel_rfl) (fun w1 hc hk => ?_) (fun z11_6 w1 hc hv => ?_)
              · exact soft_call (args := #[.agg #[.slice A1 n1 c1, .slice A2 n2 c2, .slice A3 n3 c3], .int .i64 (pn : Int), .agg #[.int .i64 x.kind, .int .i64 x.session, .int .i64 x.req.kind, .int .i64 x.req.life, .int .i64 x.req.number, .int .i64 x.req.place, .string x.req.key, .string x.req.to, .slice AV x.req.value.length cV, .int .i64 x.req.limit, .int .i64 x.place, .slice AS x.strikes.length cS]]) Try.func28 (by kernel_rfl) (by kernel_rfl) rfl (by kernel_rfl) (d_unseen true hcf pn HPL.out (HC.out _ (((Chg.refl _ w).alloc _).trans (H5.out.trans hc (fun _ _ h => h)) (fun _ _ h => h))) (HEV.out _ (H5.out.trans hc (fun _ _ h => h))) HUX.out)
              obtain rfl : z11_6 = _ := hv
              clear hc w1
              intro w6 hc6 hn6
              have H6 : Hid (Chg (fun _ => False) (w.alloc (.cells #[.slice A1 n1 c1, .slice A2 n2 c2, .slice A3 n3 c3] 27)) w6) := H5.out.trans hc6 (fun _ _ h => h)
              have HO6 := Lib.hid (HO5.out.up hc6)
              have hB6 : B9 ≤ w6.heap.size := Nat.le_trans HB1.out H6.out.size
              clear hc6 hn6
              simp only [Act.put, List.setIfInBounds_toArray, List.set_cons_succ, List.set_cons_zero]
              go_wp2
              go_roundw
              case rel => exact ⟨k + 1, by omega, by go_num, by rw [turned_next c pn s t HX.out, HYs.out]; rw [show Ev.turn1 c pn t k x = [y] by unfold Ev.turn1; rw [HY.out]; simp only [HUY.out, HUX.out]; simp]; exact HO6.out, H6.out⟩
              case measure => simp [intOf]; omega
            · have hux' : Ev.unseen c pn x = false := by simpa using hux
              have HUX := Lib.hid hux'
              clear hux hux'
              go_upto_region 11 with fail
              refine wp_region_soft (notes [Note.eq (.agg #[.slice A1 n1 c1, .slice A2 n2 c2, .slice A3 n3 c3]), Note.eq (.int .i64 (pn : Int)), Note.eq (.slice (some ⟨g, off, none⟩) s.length cc), Note.eq (.int .i64 (k : Int)), Note.eq (.pointer (some ⟨g, off + k * 12, none⟩)), Note.eq (.agg #[.int .i64 x.kind, .int .i64 x.session, .int .i64 x.req.kind, .int .i64 x.req.life, .int .i64 x.req.number, .int .i64 x.req.place, .string x.req.key, .string x.req.to, .slice AV x.req.value.length cV, .int .i64 x.req.limit, .int .i64 x.place, .slice AS x.strikes.length cS]), Note.eq (.bool false)]) (by kernel_rfl) (by kernel_rfl) (by kernel_rfl) (notes_st _) ?_
              refine soft_one (some 54) rfl (Note.eq (.agg #[.slice A1 n1 c1, .slice A2 n2 c2, .slice A3 n3 c3])).f (by kernel_rfl) (by kernel_rfl) (fun w1 hc hk => ?_) (fun z11_0 w1 hc hv => ?_)
              · have k0 := cell_at (HBX.out _ (H5.out.trans hc (fun _ _ h => h))) 0 rfl; have k1 := cell_at (HBX.out _ (H5.out.trans hc (fun _ _ h => h))) 1 rfl; have k2 := cell_at (HBX.out _ (H5.out.trans hc (fun _ _ h => h))) 2 rfl; refine soft_at (w1 := w1) (u := .agg #[.slice A1 n1 c1, .slice A2 n2 c2, .slice A3 n3 c3]) (fun ρ => ρ (.tmp 4) = .pointer (some ⟨w.heap.size, 0, none⟩)) (by kernel_rfl) (fun ρ hρ => ?_) (Chg.refl _ _) rfl; go_simp
              obtain rfl : z11_0 = _ := hv
              clear hc w1
              refine soft_one (some 55) rfl (Note.eq (.int .i64 (pn : Int))).f (by kernel_rfl) (by kernel_rfl) (fun w1 hc hk => ?_) (fun z11_1 w1 hc hv => ?_)
              · exact soft_move (.tmp 1) rfl (.int .i64 (pn : Int)) (by kernel_rfl) rfl
              obtain rfl : z11_1 = _ := hv
              clear hc w1
              refine soft_one (some 56) rfl (Note.eq (.slice (some ⟨g, off, none⟩) s.length cc)).f (by kernel_rfl) (by kernel_rfl) (fun w1 hc hk => ?_) (fun z11_2 w1 hc hv => ?_)
              · exact soft_move (.tmp 2) rfl (.slice (some ⟨g, off, none⟩) s.length cc) (by kernel_rfl) rfl
              obtain rfl : z11_2 = _ := hv
              clear hc w1
              refine soft_one (some 57) rfl (Note.eq (.int .i64 (k : Int))).f (by kernel_rfl) (by kernel_rfl) (fun w1 hc hk => ?_) (fun z11_3 w1 hc hv => ?_)
              · exact soft_move (.tmp 10) rfl (.int .i64 (k : Int)) (by kernel_rfl) rfl
              obtain rfl : z11_3 = _ := hv
              clear hc w1
              refine soft_one (some 58) rfl (Note.eq (.pointer (some ⟨g, off + k * 12, none⟩))).f (by kernel_rfl) (by kernel_rfl) (fun w1 hc hk => ?_) (fun z11_4 w1 hc hv => ?_)
              · refine soft_at (w1 := w1) (u := .pointer (some ⟨g, off + k * 12, none⟩)) (fun ρ => (∀ v, ρ (.const v) = v) ∧ ρ (.tmp 56) = .slice (some ⟨g, off, none⟩) s.length cc ∧ ρ (.tmp 57) = .int .i64 (k : Int)) ⟨fun v => rfl, by kernel_rfl, by kernel_rfl⟩ (fun ρ hρ => ?_) (Chg.refl _ _) rfl; (obtain ⟨g0, g1, g2⟩ := hρ; go_simp)
              obtain rfl : z11_4 = _ := hv
              clear hc w1
              refine soft_one (some 59) rfl (Note.eq (.agg #[.int .i64 x.kind, .int .i64 x.session, .int .i64 x.req.kind, .int .i64 x.req.life, .int .i64 x.req.number, .int .i64 x.req.place, .string x.req.key, .string x.req.to, .slice AV x.req.value.length cV, .int .i64 x.req.limit, .int .i64 x.place, .slice AS x.strikes.length cS])).f (by kernel_rfl) (by kernel_rfl) (fun w1 hc hk => ?_) (fun z11_5 w1 hc hv => ?_)
              · obtain ⟨p0, p1, p2, p3, p4, p5, p6, p7, p8, p9, p10, p11⟩ := range12 (HRA.out _ (H5.out.trans hc (fun _ _ h => h))); refine soft_at (w1 := w1) (u := .agg #[.int .i64 x.kind, .int .i64 x.session, .int .i64 x.req.kind, .int .i64 x.req.life, .int .i64 x.req.number, .int .i64 x.req.place, .string x.req.key, .string x.req.to, .slice AV x.req.value.length cV, .int .i64 x.req.limit, .int .i64 x.place, .slice AS x.strikes.length cS]) (fun ρ => ρ (.tmp 58) = .pointer (some ⟨g, off + k * 12, none⟩)) (by kernel_rfl) (fun ρ hρ => ?_) (Chg.refl _ _) rfl; go_simp
              obtain rfl : z11_5 = _ := hv
              clear hc w1
              refine soft_one (some 60) rfl (Note.eq (.bool false)).f (by kernel_rfl) (by kernel_rfl) (fun w1 hc hk => ?_) (fun z11_6 w1 hc hv => ?_)
              · exact soft_call (args := #[.agg #[.slice A1 n1 c1, .slice A2 n2 c2, .slice A3 n3 c3], .int .i64 (pn : Int), .agg #[.int .i64 x.kind, .int .i64 x.session, .int .i64 x.req.kind, .int .i64 x.req.life, .int .i64 x.req.number, .int .i64 x.req.place, .string x.req.key, .string x.req.to, .slice AV x.req.value.length cV, .int .i64 x.req.limit, .int .i64 x.place, .slice AS x.strikes.length cS]]) Try.func28 (by kernel_rfl) (by kernel_rfl) rfl (by kernel_rfl) (d_unseen false hcf pn HPL.out (HC.out _ (((Chg.refl _ w).alloc _).trans (H5.out.trans hc (fun _ _ h => h)) (fun _ _ h => h))) (HEV.out _ (H5.out.trans hc (fun _ _ h => h))) HUX.out)
              obtain rfl : z11_6 = _ := hv
              clear hc w1
              intro w6 hc6 hn6
              have H6 : Hid (Chg (fun _ => False) (w.alloc (.cells #[.slice A1 n1 c1, .slice A2 n2 c2, .slice A3 n3 c3] 27)) w6) := H5.out.trans hc6 (fun _ _ h => h)
              have HO6 := Lib.hid (HO5.out.up hc6)
              have hB6 : B9 ≤ w6.heap.size := Nat.le_trans HB1.out H6.out.size
              clear hc6 hn6
              simp only [Act.put, List.setIfInBounds_toArray, List.set_cons_succ, List.set_cons_zero]
              go_upto_region 13 with fail
              refine wp_region_soft_tail 13 (notes [Note.eq (.slice Ab (ys.length + 1) cb), Note.eq (.agg #[.slice A1 n1 c1, .slice A2 n2 c2, .slice A3 n3 c3]), Note.eq (.int .i64 (pn : Int)), Note.eq (.slice (some ⟨g, off, none⟩) s.length cc), Note.eq (.int .i64 (k : Int)), Note.eq (.pointer (some ⟨g, off + k * 12, none⟩)), Note.eq (.agg #[.int .i64 x.kind, .int .i64 x.session, .int .i64 x.req.kind, .int .i64 x.req.life, .int .i64 x.req.number, .int .i64 x.req.place, .string x.req.key, .string x.req.to, .slice AV x.req.value.length cV, .int .i64 x.req.limit, .int .i64 x.place, .slice AS x.strikes.length cS]), Note.eq (.slice (some ⟨h, oft, none⟩) t.length cd), Note.eq (.int .i64 (k : Int)), Note.eq (.pointer (some ⟨h, oft + k * 12, none⟩)), Note.eq (.agg #[.int .i64 y.kind, .int .i64 y.session, .int .i64 y.req.kind, .int .i64 y.req.life, .int .i64 y.req.number, .int .i64 y.req.place, .string y.req.key, .string y.req.to, .slice AVy y.req.value.length cVy, .int .i64 y.req.limit, .int .i64 y.place, .slice ASy y.strikes.length cSy]), nEvF w6.heap.size (Ev.changed c pn x y), nEvsF w6.heap.size [Ev.changed c pn x y]]) (by kernel_rfl) (by kernel_rfl) (by kernel_rfl) (notes_st _) ?_
              refine soft_one (some 65) rfl (Note.eq (.slice Ab (ys.length + 1) cb)).f (by kernel_rfl) (by kernel_rfl) (fun w1 hc hk => ?_) (fun q13_0 w1 hc hv => ?_)
              · exact soft_move (.tmp 9) rfl (.slice Ab (ys.length + 1) cb) (by kernel_rfl) rfl
              obtain rfl : q13_0 = _ := hv
              clear hc w1
              refine soft_one (some 66) rfl (Note.eq (.agg #[.slice A1 n1 c1, .slice A2 n2 c2, .slice A3 n3 c3])).f (by kernel_rfl) (by kernel_rfl) (fun w1 hc hk => ?_) (fun q13_1 w1 hc hv => ?_)
              · have k0 := cell_at (HBX.out _ (H6.out.trans hc (fun _ _ h => h))) 0 rfl; have k1 := cell_at (HBX.out _ (H6.out.trans hc (fun _ _ h => h))) 1 rfl; have k2 := cell_at (HBX.out _ (H6.out.trans hc (fun _ _ h => h))) 2 rfl; refine soft_at (w1 := w1) (u := .agg #[.slice A1 n1 c1, .slice A2 n2 c2, .slice A3 n3 c3]) (fun ρ => ρ (.tmp 4) = .pointer (some ⟨w.heap.size, 0, none⟩)) (by kernel_rfl) (fun ρ hρ => ?_) (Chg.refl _ _) rfl; go_simp
              obtain rfl : q13_1 = _ := hv
              clear hc w1
              refine soft_one (some 67) rfl (Note.eq (.int .i64 (pn : Int))).f (by kernel_rfl) (by kernel_rfl) (fun w1 hc hk => ?_) (fun q13_2 w1 hc hv => ?_)
              · exact soft_move (.tmp 1) rfl (.int .i64 (pn : Int)) (by kernel_rfl) rfl
              obtain rfl : q13_2 = _ := hv
              clear hc w1
              refine soft_one (some 68) rfl (Note.eq (.slice (some ⟨g, off, none⟩) s.length cc)).f (by kernel_rfl) (by kernel_rfl) (fun w1 hc hk => ?_) (fun q13_3 w1 hc hv => ?_)
              · exact soft_move (.tmp 2) rfl (.slice (some ⟨g, off, none⟩) s.length cc) (by kernel_rfl) rfl
              obtain rfl : q13_3 = _ := hv
              clear hc w1
              refine soft_one (some 69) rfl (Note.eq (.int .i64 (k : Int))).f (by kernel_rfl) (by kernel_rfl) (fun w1 hc hk => ?_) (fun q13_4 w1 hc hv => ?_)
              · exact soft_move (.tmp 10) rfl (.int .i64 (k : Int)) (by kernel_rfl) rfl
              obtain rfl : q13_4 = _ := hv
              clear hc w1
              refine soft_one (some 70) rfl (Note.eq (.pointer (some ⟨g, off + k * 12, none⟩))).f (by kernel_rfl) (by kernel_rfl) (fun w1 hc hk => ?_) (fun q13_5 w1 hc hv => ?_)
              · refine soft_at (w1 := w1) (u := .pointer (some ⟨g, off + k * 12, none⟩)) (fun ρ => (∀ v, ρ (.const v) = v) ∧ ρ (.tmp 68) = .slice (some ⟨g, off, none⟩) s.length cc ∧ ρ (.tmp 69) = .int .i64 (k : Int)) ⟨fun v => rfl, by kernel_rfl, by kernel_rfl⟩ (fun ρ hρ => ?_) (Chg.refl _ _) rfl; (obtain ⟨g0, g1, g2⟩ := hρ; go_simp)
              obtain rfl : q13_5 = _ := hv
              clear hc w1
              refine soft_one (some 71) rfl (Note.eq (.agg #[.int .i64 x.kind, .int .i64 x.session, .int .i64 x.req.kind, .int .i64 x.req.life, .int .i64 x.req.number, .int .i64 x.req.place, .string x.req.key, .string x.req.to, .slice AV x.req.value.length cV, .int .i64 x.req.limit, .int .i64 x.place, .slice AS x.strikes.length cS])).f (by kernel_rfl) (by kernel_rfl) (fun w1 hc hk => ?_) (fun q13_6 w1 hc hv => ?_)
              · obtain ⟨p0, p1, p2, p3, p4, p5, p6, p7, p8, p9, p10, p11⟩ := range12 (HRA.out _ (H6.out.trans hc (fun _ _ h => h))); refine soft_at (w1 := w1) (u := .agg #[.int .i64 x.kind, .int .i64 x.session, .int .i64 x.req.kind, .int .i64 x.req.life, .int .i64 x.req.number, .int .i64 x.req.place, .string x.req.key, .string x.req.to, .slice AV x.req.value.length cV, .int .i64 x.req.limit, .int .i64 x.place, .slice AS x.strikes.length cS]) (fun ρ => ρ (.tmp 70) = .pointer (some ⟨g, off + k * 12, none⟩)) (by kernel_rfl) (fun ρ hρ => ?_) (Chg.refl _ _) rfl; go_simp
              obtain rfl : q13_6 = _ := hv
              clear hc w1
              refine soft_one (some 72) rfl (Note.eq (.slice (some ⟨h, oft, none⟩) t.length cd)).f (by kernel_rfl) (by kernel_rfl) (fun w1 hc hk => ?_) (fun q13_7 w1 hc hv => ?_)
              · exact soft_move (.tmp 3) rfl (.slice (some ⟨h, oft, none⟩) t.length cd) (by kernel_rfl) rfl
              obtain rfl : q13_7 = _ := hv
              clear hc w1
              refine soft_one (some 73) rfl (Note.eq (.int .i64 (k : Int))).f (by kernel_rfl) (by kernel_rfl) (fun w1 hc hk => ?_) (fun q13_8 w1 hc hv => ?_)
              · exact soft_move (.tmp 10) rfl (.int .i64 (k : Int)) (by kernel_rfl) rfl
              obtain rfl : q13_8 = _ := hv
              clear hc w1
              refine soft_one (some 74) rfl (Note.eq (.pointer (some ⟨h, oft + k * 12, none⟩))).f (by kernel_rfl) (by kernel_rfl) (fun w1 hc hk => ?_) (fun q13_9 w1 hc hv => ?_)
              · refine soft_at (w1 := w1) (u := .pointer (some ⟨h, oft + k * 12, none⟩)) (fun ρ => (∀ v, ρ (.const v) = v) ∧ ρ (.tmp 72) = .slice (some ⟨h, oft, none⟩) t.length cd ∧ ρ (.tmp 73) = .int .i64 (k : Int)) ⟨fun v => rfl, by kernel_rfl, by kernel_rfl⟩ (fun ρ hρ => ?_) (Chg.refl _ _) rfl; (obtain ⟨g0, g1, g2⟩ := hρ; go_simp)
              obtain rfl : q13_9 = _ := hv
              clear hc w1
              refine soft_one (some 75) rfl (Note.eq (.agg #[.int .i64 y.kind, .int .i64 y.session, .int .i64 y.req.kind, .int .i64 y.req.life, .int .i64 y.req.number, .int .i64 y.req.place, .string y.req.key, .string y.req.to, .slice AVy y.req.value.length cVy, .int .i64 y.req.limit, .int .i64 y.place, .slice ASy y.strikes.length cSy])).f (by kernel_rfl) (by kernel_rfl) (fun w1 hc hk => ?_) (fun q13_10 w1 hc hv => ?_)
              · obtain ⟨p0, p1, p2, p3, p4, p5, p6, p7, p8, p9, p10, p11⟩ := range12 (HRAY.out _ (H6.out.trans hc (fun _ _ h => h))); refine soft_at (w1 := w1) (u := .agg #[.int .i64 y.kind, .int .i64 y.session, .int .i64 y.req.kind, .int .i64 y.req.life, .int .i64 y.req.number, .int .i64 y.req.place, .string y.req.key, .string y.req.to, .slice AVy y.req.value.length cVy, .int .i64 y.req.limit, .int .i64 y.place, .slice ASy y.strikes.length cSy]) (fun ρ => ρ (.tmp 74) = .pointer (some ⟨h, oft + k * 12, none⟩)) (by kernel_rfl) (fun ρ hρ => ?_) (Chg.refl _ _) rfl; go_simp
              obtain rfl : q13_10 = _ := hv
              clear hc w1
              refine soft_one (some 76) rfl (nEvF w6.heap.size (Ev.changed c pn x y)).f (by kernel_rfl) (by kernel_rfl) (fun w1 hc hk => ?_) (fun q13_11 w1 hc hv => ?_)
              · exact soft_call (args := #[.agg #[.slice A1 n1 c1, .slice A2 n2 c2, .slice A3 n3 c3], .int .i64 (pn : Int), .agg #[.int .i64 x.kind, .int .i64 x.session, .int .i64 x.req.kind, .int .i64 x.req.life, .int .i64 x.req.number, .int .i64 x.req.place, .string x.req.key, .string x.req.to, .slice AV x.req.value.length cV, .int .i64 x.req.limit, .int .i64 x.place, .slice AS x.strikes.length cS], .agg #[.int .i64 y.kind, .int .i64 y.session, .int .i64 y.req.kind, .int .i64 y.req.life, .int .i64 y.req.number, .int .i64 y.req.place, .string y.req.key, .string y.req.to, .slice AVy y.req.value.length cVy, .int .i64 y.req.limit, .int .i64 y.place, .slice ASy y.strikes.length cSy]]) Try.func29 (by kernel_rfl) (by kernel_rfl) rfl (by kernel_rfl) (d_changed w6.heap.size hc.size hcf pn HPL.out HMB.out (HC.out _ (((Chg.refl _ w).alloc _).trans (H6.out.trans hc (fun _ _ h => h)) (fun _ _ h => h))) (HEV.out _ (H6.out.trans hc (fun _ _ h => h))) (HEVY.out _ (H6.out.trans hc (fun _ _ h => h))) HFx.out HFy.out)
              clear hv
              clear hc w1
              refine soft_one (some 77) rfl (nEvsF w6.heap.size [Ev.changed c pn x y]).f (by kernel_rfl) (by kernel_rfl) (fun w1 hc hk => ?_) (fun q13_12 w1 hc hv => ?_)
              · obtain ⟨cz, ez, hz⟩ := known_at hk 11 (nEvF w6.heap.size (Ev.changed c pn x y)).f q13_11 (by kernel_rfl) (by kernel_rfl) (by kernel_rfl); obtain ⟨AVz, nVz, cVz, ASz, nSz, cSz, ecz⟩ := ev_form hz; subst ecz; refine soft_at (w1 := w1.alloc (.cells (evCs (Ev.changed c pn x y) (.slice AVz nVz cVz) (.slice ASz nSz cSz)).toArray 37)) (u := .slice (some ⟨w1.heap.size, 0, none⟩) 1 1) (fun ρ => ρ (.tmp 76) = .agg (evCs (Ev.changed c pn x y) (.slice AVz nVz cVz) (.slice ASz nSz cSz)).toArray) (Eq.trans (by kernel_rfl) ez) (fun ρ hρ => ?_) ((Chg.refl _ _).alloc _) (seg_rel hz hc.size); clear hk ez hz; go_simp
              clear hv
              clear hc w1
              intro w7 hc7 hn7
              have hz := note_at hn7 12 (nEvsF w6.heap.size [Ev.changed c pn x y]).f q13_12 (by kernel_rfl) (by kernel_rfl) (by decide)
              have H7 : Hid (Chg (fun _ => False) (w.alloc (.cells #[.slice A1 n1 c1, .slice A2 n2 c2, .slice A3 n3 c3] 27)) w7) := H6.out.trans hc7 (fun _ _ h => h)
              have HO7 := Lib.hid (HO6.out.up hc7)
              have hs7 := hc7.size
              obtain ⟨AZ, cZ, ez, -⟩ := slice_form (bytes := 144) hz
              simp only [List.cons.injEq, and_true, List.length_singleton] at ez
              subst ez
              have HZ := Lib.hid hz
              have hlow6 : Hid (∀ j, (.slice Ab (ys.length + 1) cb : Value).ownBlock = some j → j < w6.heap.size) := Lib.hid (fun j hj => (HO6.out.low j hj).2)
              clear hc7 hn7 hz
              simp only [List.drop_succ_cons, List.drop_zero]
              simp only [Act.put, List.setIfInBounds_toArray, List.set_cons_succ, List.set_cons_zero]
              go_wp2_with (at_builtin; refine ap_all rfl (.tmp 65) (.tmp 77) 28 rfl evK B9 37 144 _ Try.underlying28 info_ev rfl (by decide) (by decide) (.slice Ab (ys.length + 1) cb) (ys ++ [y]) rfl HO7.out _ _ [Ev.changed c pn x y] 144 rfl HZ.out ?aO ?aL ?aB ?_; (case aO => exact fun y cs hy => evK.mono (fun k hk => ⟨by omega, hk.2, fun he => by have := hlow6.out k he; omega⟩) hy); (case aL => simp only [List.length_singleton]; omega); (case aB => omega); intro va wa oa ga; obtain ⟨Aa, ca, ea⟩ := oa.form; subst ea)
              go_roundw
              case rel => exact ⟨k + 1, by omega, by go_num, by rw [turned_next c pn s t HX.out, HYs.out]; rw [show Ev.turn1 c pn t k x = [y] ++ [Ev.changed c pn x y] by unfold Ev.turn1; rw [HY.out]; simp only [HUY.out, HUX.out]; simp]; rw [← List.append_assoc]; (have o4 := oa; simp only [List.length_append, List.length_singleton] at o4; exact o4), H7.out.trans ga (fun j hj he => by have := (HO7.out.low j he).1; have := HB2.out; omega)⟩
              case measure => simp [intOf]; omega
          · have huy' : Ev.unseen c pn y = false := by simpa using huy
            have HUY := Lib.hid huy'
            clear huy huy'
            go_upto_region 9 with fail
            refine wp_region_soft (notes [Note.eq (.int .i64 (k : Int)), Note.eq (.slice (some ⟨h, oft, none⟩) t.length cd), Note.eq (.int .i64 (t.length : Int)), Note.eq (.bool true), Note.eq (.bool true), Note.eq (.agg #[.slice A1 n1 c1, .slice A2 n2 c2, .slice A3 n3 c3]), Note.eq (.int .i64 (pn : Int)), Note.eq (.slice (some ⟨h, oft, none⟩) t.length cd), Note.eq (.int .i64 (k : Int)), Note.eq (.pointer (some ⟨h, oft + k * 12, none⟩)), Note.eq (.agg #[.int .i64 y.kind, .int .i64 y.session, .int .i64 y.req.kind, .int .i64 y.req.life, .int .i64 y.req.number, .int .i64 y.req.place, .string y.req.key, .string y.req.to, .slice AVy y.req.value.length cVy, .int .i64 y.req.limit, .int .i64 y.place, .slice ASy y.strikes.length cSy]), Note.eq (.bool false), Note.eq (.bool false)]) (by kernel_rfl) (by kernel_rfl) (by kernel_rfl) (notes_st _) ?_
            refine soft_one (some 33) rfl (Note.eq (.int .i64 (k : Int))).f (by kernel_rfl) (by kernel_rfl) (fun w1 hc hk => ?_) (fun x9_0 w1 hc hv => ?_)
            · exact soft_move (.tmp 10) rfl (.int .i64 (k : Int)) (by kernel_rfl) rfl
            obtain rfl : x9_0 = _ := hv
            clear hc w1
            refine soft_one (some 34) rfl (Note.eq (.slice (some ⟨h, oft, none⟩) t.length cd)).f (by kernel_rfl) (by kernel_rfl) (fun w1 hc hk => ?_) (fun x9_1 w1 hc hv => ?_)
            · exact soft_move (.tmp 3) rfl (.slice (some ⟨h, oft, none⟩) t.length cd) (by kernel_rfl) rfl
            obtain rfl : x9_1 = _ := hv
            clear hc w1
            refine soft_one (some 35) rfl (Note.eq (.int .i64 (t.length : Int))).f (by kernel_rfl) (by kernel_rfl) (fun w1 hc hk => ?_) (fun x9_2 w1 hc hv => ?_)
            · refine soft_at (w1 := w1) (u := .int .i64 (t.length : Int)) (fun ρ => (∀ v, ρ (.const v) = v) ∧ ρ (.tmp 34) = .slice (some ⟨h, oft, none⟩) t.length cd) ⟨fun v => rfl, by kernel_rfl⟩ (fun ρ hρ => ?_) (Chg.refl _ _) rfl; (obtain ⟨g0, g1⟩ := hρ; go_simp)
            obtain rfl : x9_2 = _ := hv
            clear hc w1
            refine soft_one (some 36) rfl (Note.eq (.bool true)).f (by kernel_rfl) (by kernel_rfl) (fun w1 hc hk => ?_) (fun x9_3 w1 hc hv => ?_)
            · refine soft_at (w1 := w1) (u := .bool true) (fun ρ => (∀ v, ρ (.const v) = v) ∧ ρ (.tmp 33) = .int .i64 (k : Int) ∧ ρ (.tmp 35) = .int .i64 (t.length : Int)) ⟨fun v => rfl, by kernel_rfl, by kernel_rfl⟩ (fun ρ hρ => ?_) (Chg.refl _ _) rfl; (obtain ⟨g0, g1, g2⟩ := hρ; go_simp)
            obtain rfl : x9_3 = _ := hv
            clear hc w1
            refine soft_one (some 37) rfl (Note.eq (.bool true)).f (by kernel_rfl) (by kernel_rfl) (fun w1 hc hk => ?_) (fun x9_4 w1 hc hv => ?_)
            · exact soft_move (.tmp 36) rfl (.bool true) (by kernel_rfl) rfl
            obtain rfl : x9_4 = _ := hv
            clear hc w1
            refine soft_one (some 38) rfl (Note.eq (.agg #[.slice A1 n1 c1, .slice A2 n2 c2, .slice A3 n3 c3])).f (by kernel_rfl) (by kernel_rfl) (fun w1 hc hk => ?_) (fun x9_5 w1 hc hv => ?_)
            · have k0 := cell_at (HBX.out _ (H1.out.trans hc (fun _ _ h => h))) 0 rfl; have k1 := cell_at (HBX.out _ (H1.out.trans hc (fun _ _ h => h))) 1 rfl; have k2 := cell_at (HBX.out _ (H1.out.trans hc (fun _ _ h => h))) 2 rfl; refine soft_at (w1 := w1) (u := .agg #[.slice A1 n1 c1, .slice A2 n2 c2, .slice A3 n3 c3]) (fun ρ => ρ (.tmp 4) = .pointer (some ⟨w.heap.size, 0, none⟩)) (by kernel_rfl) (fun ρ hρ => ?_) (Chg.refl _ _) rfl; go_simp
            obtain rfl : x9_5 = _ := hv
            clear hc w1
            refine soft_one (some 39) rfl (Note.eq (.int .i64 (pn : Int))).f (by kernel_rfl) (by kernel_rfl) (fun w1 hc hk => ?_) (fun x9_6 w1 hc hv => ?_)
            · exact soft_move (.tmp 1) rfl (.int .i64 (pn : Int)) (by kernel_rfl) rfl
            obtain rfl : x9_6 = _ := hv
            clear hc w1
            refine soft_one (some 40) rfl (Note.eq (.slice (some ⟨h, oft, none⟩) t.length cd)).f (by kernel_rfl) (by kernel_rfl) (fun w1 hc hk => ?_) (fun x9_7 w1 hc hv => ?_)
            · exact soft_move (.tmp 3) rfl (.slice (some ⟨h, oft, none⟩) t.length cd) (by kernel_rfl) rfl
            obtain rfl : x9_7 = _ := hv
            clear hc w1
            refine soft_one (some 41) rfl (Note.eq (.int .i64 (k : Int))).f (by kernel_rfl) (by kernel_rfl) (fun w1 hc hk => ?_) (fun x9_8 w1 hc hv => ?_)
            · exact soft_move (.tmp 10) rfl (.int .i64 (k : Int)) (by kernel_rfl) rfl
            obtain rfl : x9_8 = _ := hv
            clear hc w1
            refine soft_one (some 42) rfl (Note.eq (.pointer (some ⟨h, oft + k * 12, none⟩))).f (by kernel_rfl) (by kernel_rfl) (fun w1 hc hk => ?_) (fun x9_9 w1 hc hv => ?_)
            · refine soft_at (w1 := w1) (u := .pointer (some ⟨h, oft + k * 12, none⟩)) (fun ρ => (∀ v, ρ (.const v) = v) ∧ ρ (.tmp 40) = .slice (some ⟨h, oft, none⟩) t.length cd ∧ ρ (.tmp 41) = .int .i64 (k : Int)) ⟨fun v => rfl, by kernel_rfl, by kernel_rfl⟩ (fun ρ hρ => ?_) (Chg.refl _ _) rfl; (obtain ⟨g0, g1, g2⟩ := hρ; go_simp)
            obtain rfl : x9_9 = _ := hv
            clear hc w1
            refine soft_one (some 43) rfl (Note.eq (.agg #[.int .i64 y.kind, .int .i64 y.session, .int .i64 y.req.kind, .int .i64 y.req.life, .int .i64 y.req.number, .int .i64 y.req.place, .string y.req.key, .string y.req.to, .slice AVy y.req.value.length cVy, .int .i64 y.req.limit, .int .i64 y.place, .slice ASy y.strikes.length cSy])).f (by kernel_rfl) (by kernel_rfl) (fun w1 hc hk => ?_) (fun x9_10 w1 hc hv => ?_)
            · obtain ⟨p0, p1, p2, p3, p4, p5, p6, p7, p8, p9, p10, p11⟩ := range12 (HRAY.out _ (H1.out.trans hc (fun _ _ h => h))); refine soft_at (w1 := w1) (u := .agg #[.int .i64 y.kind, .int .i64 y.session, .int .i64 y.req.kind, .int .i64 y.req.life, .int .i64 y.req.number, .int .i64 y.req.place, .string y.req.key, .string y.req.to, .slice AVy y.req.value.length cVy, .int .i64 y.req.limit, .int .i64 y.place, .slice ASy y.strikes.length cSy]) (fun ρ => ρ (.tmp 42) = .pointer (some ⟨h, oft + k * 12, none⟩)) (by kernel_rfl) (fun ρ hρ => ?_) (Chg.refl _ _) rfl; go_simp
            obtain rfl : x9_10 = _ := hv
            clear hc w1
            refine soft_one (some 44) rfl (Note.eq (.bool false)).f (by kernel_rfl) (by kernel_rfl) (fun w1 hc hk => ?_) (fun x9_11 w1 hc hv => ?_)
            · exact soft_call (args := #[.agg #[.slice A1 n1 c1, .slice A2 n2 c2, .slice A3 n3 c3], .int .i64 (pn : Int), .agg #[.int .i64 y.kind, .int .i64 y.session, .int .i64 y.req.kind, .int .i64 y.req.life, .int .i64 y.req.number, .int .i64 y.req.place, .string y.req.key, .string y.req.to, .slice AVy y.req.value.length cVy, .int .i64 y.req.limit, .int .i64 y.place, .slice ASy y.strikes.length cSy]]) Try.func28 (by kernel_rfl) (by kernel_rfl) rfl (by kernel_rfl) (d_unseen false hcf pn HPL.out (HC.out _ (((Chg.refl _ w).alloc _).trans (H1.out.trans hc (fun _ _ h => h)) (fun _ _ h => h))) (HEVY.out _ (H1.out.trans hc (fun _ _ h => h))) HUY.out)
            obtain rfl : x9_11 = _ := hv
            clear hc w1
            refine soft_one (some 45) rfl (Note.eq (.bool false)).f (by kernel_rfl) (by kernel_rfl) (fun w1 hc hk => ?_) (fun x9_12 w1 hc hv => ?_)
            · refine soft_at (w1 := w1) (u := .bool false) (fun ρ => (∀ v, ρ (.const v) = v) ∧ ρ (.tmp 37) = .bool true ∧ ρ (.tmp 44) = .bool false) ⟨fun v => rfl, by kernel_rfl, by kernel_rfl⟩ (fun ρ hρ => ?_) (Chg.refl _ _) rfl; (obtain ⟨g0, g1, g2⟩ := hρ; go_simp)
            obtain rfl : x9_12 = _ := hv
            clear hc w1
            intro w3 hc3 hn3
            have H3 : Hid (Chg (fun _ => False) (w.alloc (.cells #[.slice A1 n1 c1, .slice A2 n2 c2, .slice A3 n3 c3] 27)) w3) := H1.out.trans hc3 (fun _ _ h => h)
            have HO3 := Lib.hid (HO.out.up hc3)
            have hB3 : B9 ≤ w3.heap.size := Nat.le_trans hBo hc3.size
            clear hc3 hn3
            simp only [Act.put, List.setIfInBounds_toArray, List.set_cons_succ, List.set_cons_zero]
            by_cases hux : Ev.unseen c pn x = true
            · have hux' : Ev.unseen c pn x = true := hux
              have HUX := Lib.hid hux'
              clear hux hux'
              go_upto_region 11 with fail
              refine wp_region_soft (notes [Note.eq (.agg #[.slice A1 n1 c1, .slice A2 n2 c2, .slice A3 n3 c3]), Note.eq (.int .i64 (pn : Int)), Note.eq (.slice (some ⟨g, off, none⟩) s.length cc), Note.eq (.int .i64 (k : Int)), Note.eq (.pointer (some ⟨g, off + k * 12, none⟩)), Note.eq (.agg #[.int .i64 x.kind, .int .i64 x.session, .int .i64 x.req.kind, .int .i64 x.req.life, .int .i64 x.req.number, .int .i64 x.req.place, .string x.req.key, .string x.req.to, .slice AV x.req.value.length cV, .int .i64 x.req.limit, .int .i64 x.place, .slice AS x.strikes.length cS]), Note.eq (.bool true)]) (by kernel_rfl) (by kernel_rfl) (by kernel_rfl) (notes_st _) ?_
              refine soft_one (some 54) rfl (Note.eq (.agg #[.slice A1 n1 c1, .slice A2 n2 c2, .slice A3 n3 c3])).f (by kernel_rfl) (by kernel_rfl) (fun w1 hc hk => ?_) (fun z11_0 w1 hc hv => ?_)
              · have k0 := cell_at (HBX.out _ (H3.out.trans hc (fun _ _ h => h))) 0 rfl; have k1 := cell_at (HBX.out _ (H3.out.trans hc (fun _ _ h => h))) 1 rfl; have k2 := cell_at (HBX.out _ (H3.out.trans hc (fun _ _ h => h))) 2 rfl; refine soft_at (w1 := w1) (u := .agg #[.slice A1 n1 c1, .slice A2 n2 c2, .slice A3 n3 c3]) (fun ρ => ρ (.tmp 4) = .pointer (some ⟨w.heap.size, 0, none⟩)) (by kernel_rfl) (fun ρ hρ => ?_) (Chg.refl _ _) rfl; go_simp
              obtain rfl : z11_0 = _ := hv
              clear hc w1
              refine soft_one (some 55) rfl (Note.eq (.int .i64 (pn : Int))).f (by kernel_rfl) (by kernel_rfl) (fun w1 hc hk => ?_) (fun z11_1 w1 hc hv => ?_)
              · exact soft_move (.tmp 1) rfl (.int .i64 (pn : Int)) (by kernel_rfl) rfl
              obtain rfl : z11_1 = _ := hv
              clear hc w1
              refine soft_one (some 56) rfl (Note.eq (.slice (some ⟨g, off, none⟩) s.length cc)).f (by kernel_rfl) (by kernel_rfl) (fun w1 hc hk => ?_) (fun z11_2 w1 hc hv => ?_)
              · exact soft_move (.tmp 2) rfl (.slice (some ⟨g, off, none⟩) s.length cc) (by kernel_rfl) rfl
              obtain rfl : z11_2 = _ := hv
              clear hc w1
              refine soft_one (some 57) rfl (Note.eq (.int .i64 (k : Int))).f (by kernel_rfl) (by kernel_rfl) (fun w1 hc hk => ?_) (fun z11_3 w1 hc hv => ?_)
              · exact soft_move (.tmp 10) rfl (.int .i64 (k : Int)) (by kernel_rfl) rfl
              obtain rfl : z11_3 = _ := hv
              clear hc w1
              refine soft_one (some 58) rfl (Note.eq (.pointer (some ⟨g, off + k * 12, none⟩))).f (by kernel_rfl) (by kernel_rfl) (fun w1 hc hk => ?_) (fun z11_4 w1 hc hv => ?_)
              · refine soft_at (w1 := w1) (u := .pointer (some ⟨g, off + k * 12, none⟩)) (fun ρ => (∀ v, ρ (.const v) = v) ∧ ρ (.tmp 56) = .slice (some ⟨g, off, none⟩) s.length cc ∧ ρ (.tmp 57) = .int .i64 (k : Int)) ⟨fun v => rfl, by kernel_rfl, by kernel_rfl⟩ (fun ρ hρ => ?_) (Chg.refl _ _) rfl; (obtain ⟨g0, g1, g2⟩ := hρ; go_simp)
              obtain rfl : z11_4 = _ := hv
              clear hc w1
              refine soft_one (some 59) rfl (Note.eq (.agg #[.int .i64 x.kind, .int .i64 x.session, .int .i64 x.req.kind, .int .i64 x.req.life, .int .i64 x.req.number, .int .i64 x.req.place, .string x.req.key, .string x.req.to, .slice AV x.req.value.length cV, .int .i64 x.req.limit, .int .i64 x.place, .slice AS x.strikes.length cS])).f (by kernel_rfl) (by kernel_rfl) (fun w1 hc hk => ?_) (fun z11_5 w1 hc hv => ?_)
              · obtain ⟨p0, p1, p2, p3, p4, p5, p6, p7, p8, p9, p10, p11⟩ := range12 (HRA.out _ (H3.out.trans hc (fun _ _ h => h))); refine soft_at (w1 := w1) (u := .agg #[.int .i64 x.kind, .int .i64 x.session, .int .i64 x.req.kind, .int .i64 x.req.life, .int .i64 x.req.number, .int .i64 x.req.place, .string x.req.key, .string x.req.to, .slice AV x.req.value.length cV, .int .i64 x.req.limit, .int .i64 x.place, .slice AS x.strikes.length cS]) (fun ρ => ρ (.tmp 58) = .pointer (some ⟨g, off + k * 12, none⟩)) (by kernel_rfl) (fun ρ hρ => ?_) (Chg.refl _ _) rfl; go_simp
              obtain rfl : z11_5 = _ := hv
              clear hc w1
              refine soft_one (some 60) rfl (Note.eq (.bool true)).f (by kernel_rfl) (by kernel_rfl) (fun w1 hc hk => ?_) (fun z11_6 w1 hc hv => ?_)
              · exact soft_call (args := #[.agg #[.slice A1 n1 c1, .slice A2 n2 c2, .slice A3 n3 c3], .int .i64 (pn : Int), .agg #[.int .i64 x.kind, .int .i64 x.session, .int .i64 x.req.kind, .int .i64 x.req.life, .int .i64 x.req.number, .int .i64 x.req.place, .string x.req.key, .string x.req.to, .slice AV x.req.value.length cV, .int .i64 x.req.limit, .int .i64 x.place, .slice AS x.strikes.length cS]]) Try.func28 (by kernel_rfl) (by kernel_rfl) rfl (by kernel_rfl) (d_unseen true hcf pn HPL.out (HC.out _ (((Chg.refl _ w).alloc _).trans (H3.out.trans hc (fun _ _ h => h)) (fun _ _ h => h))) (HEV.out _ (H3.out.trans hc (fun _ _ h => h))) HUX.out)
              obtain rfl : z11_6 = _ := hv
              clear hc w1
              intro w6 hc6 hn6
              have H6 : Hid (Chg (fun _ => False) (w.alloc (.cells #[.slice A1 n1 c1, .slice A2 n2 c2, .slice A3 n3 c3] 27)) w6) := H3.out.trans hc6 (fun _ _ h => h)
              have HO6 := Lib.hid (HO3.out.up hc6)
              have hB6 : B9 ≤ w6.heap.size := Nat.le_trans HB1.out H6.out.size
              clear hc6 hn6
              simp only [Act.put, List.setIfInBounds_toArray, List.set_cons_succ, List.set_cons_zero]
              go_wp2
              go_roundw
              case rel => exact ⟨k + 1, by omega, by go_num, by rw [turned_next c pn s t HX.out, HYs.out]; rw [show Ev.turn1 c pn t k x = [] by unfold Ev.turn1; rw [HY.out]; simp only [HUY.out, HUX.out]; simp]; rw [List.append_nil]; exact HO6.out, H6.out⟩
              case measure => simp [intOf]; omega
            · have hux' : Ev.unseen c pn x = false := by simpa using hux
              have HUX := Lib.hid hux'
              clear hux hux'
              go_upto_region 11 with fail
              refine wp_region_soft (notes [Note.eq (.agg #[.slice A1 n1 c1, .slice A2 n2 c2, .slice A3 n3 c3]), Note.eq (.int .i64 (pn : Int)), Note.eq (.slice (some ⟨g, off, none⟩) s.length cc), Note.eq (.int .i64 (k : Int)), Note.eq (.pointer (some ⟨g, off + k * 12, none⟩)), Note.eq (.agg #[.int .i64 x.kind, .int .i64 x.session, .int .i64 x.req.kind, .int .i64 x.req.life, .int .i64 x.req.number, .int .i64 x.req.place, .string x.req.key, .string x.req.to, .slice AV x.req.value.length cV, .int .i64 x.req.limit, .int .i64 x.place, .slice AS x.strikes.length cS]), Note.eq (.bool false)]) (by kernel_rfl) (by kernel_rfl) (by kernel_rfl) (notes_st _) ?_
              refine soft_one (some 54) rfl (Note.eq (.agg #[.slice A1 n1 c1, .slice A2 n2 c2, .slice A3 n3 c3])).f (by kernel_rfl) (by kernel_rfl) (fun w1 hc hk => ?_) (fun z11_0 w1 hc hv => ?_)
              · have k0 := cell_at (HBX.out _ (H3.out.trans hc (fun _ _ h => h))) 0 rfl; have k1 := cell_at (HBX.out _ (H3.out.trans hc (fun _ _ h => h))) 1 rfl; have k2 := cell_at (HBX.out _ (H3.out.trans hc (fun _ _ h => h))) 2 rfl; refine soft_at (w1 := w1) (u := .agg #[.slice A1 n1 c1, .slice A2 n2 c2, .slice A3 n3 c3]) (fun ρ => ρ (.tmp 4) = .pointer (some ⟨w.heap.size, 0, none⟩)) (by kernel_rfl) (fun ρ hρ => ?_) (Chg.refl _ _) rfl; go_simp
              obtain rfl : z11_0 = _ := hv
              clear hc w1
              refine soft_one (some 55) rfl (Note.eq (.int .i64 (pn : Int))).f (by kernel_rfl) (by kernel_rfl) (fun w1 hc hk => ?_) (fun z11_1 w1 hc hv => ?_)
              · exact soft_move (.tmp 1) rfl (.int .i64 (pn : Int)) (by kernel_rfl) rfl
              obtain rfl : z11_1 = _ := hv
              clear hc w1
              refine soft_one (some 56) rfl (Note.eq (.slice (some ⟨g, off, none⟩) s.length cc)).f (by kernel_rfl) (by kernel_rfl) (fun w1 hc hk => ?_) (fun z11_2 w1 hc hv => ?_)
              · exact soft_move (.tmp 2) rfl (.slice (some ⟨g, off, none⟩) s.length cc) (by kernel_rfl) rfl
              obtain rfl : z11_2 = _ := hv
              clear hc w1
              refine soft_one (some 57) rfl (Note.eq (.int .i64 (k : Int))).f (by kernel_rfl) (by kernel_rfl) (fun w1 hc hk => ?_) (fun z11_3 w1 hc hv => ?_)
              · exact soft_move (.tmp 10) rfl (.int .i64 (k : Int)) (by kernel_rfl) rfl
              obtain rfl : z11_3 = _ := hv
              clear hc w1
              refine soft_one (some 58) rfl (Note.eq (.pointer (some ⟨g, off + k * 12, none⟩))).f (by kernel_rfl) (by kernel_rfl) (fun w1 hc hk => ?_) (fun z11_4 w1 hc hv => ?_)
              · refine soft_at (w1 := w1) (u := .pointer (some ⟨g, off + k * 12, none⟩)) (fun ρ => (∀ v, ρ (.const v) = v) ∧ ρ (.tmp 56) = .slice (some ⟨g, off, none⟩) s.length cc ∧ ρ (.tmp 57) = .int .i64 (k : Int)) ⟨fun v => rfl, by kernel_rfl, by kernel_rfl⟩ (fun ρ hρ => ?_) (Chg.refl _ _) rfl; (obtain ⟨g0, g1, g2⟩ := hρ; go_simp)
              obtain rfl : z11_4 = _ := hv
              clear hc w1
              refine soft_one (some 59) rfl (Note.eq (.agg #[.int .i64 x.kind, .int .i64 x.session, .int .i64 x.req.kind, .int .i64 x.req.life, .int .i64 x.req.number, .int .i64 x.req.place, .string x.req.key, .string x.req.to, .slice AV x.req.value.length cV, .int .i64 x.req.limit, .int .i64 x.place, .slice AS x.strikes.length cS])).f (by kernel_rfl) (by kernel_rfl) (fun w1 hc hk => ?_) (fun z11_5 w1 hc hv => ?_)
              · obtain ⟨p0, p1, p2, p3, p4, p5, p6, p7, p8, p9, p10, p11⟩ := range12 (HRA.out _ (H3.out.trans hc (fun _ _ h => h))); refine soft_at (w1 := w1) (u := .agg #[.int .i64 x.kind, .int .i64 x.session, .int .i64 x.req.kind, .int .i64 x.req.life, .int .i64 x.req.number, .int .i64 x.req.place, .string x.req.key, .string x.req.to, .slice AV x.req.value.length cV, .int .i64 x.req.limit, .int .i64 x.place, .slice AS x.strikes.length cS]) (fun ρ => ρ (.tmp 58) = .pointer (some ⟨g, off + k * 12, none⟩)) (by kernel_rfl) (fun ρ hρ => ?_) (Chg.refl _ _) rfl; go_simp
              obtain rfl : z11_5 = _ := hv
              clear hc w1
              refine soft_one (some 60) rfl (Note.eq (.bool false)).f (by kernel_rfl) (by kernel_rfl) (fun w1 hc hk => ?_) (fun z11_6 w1 hc hv => ?_)
              · exact soft_call (args := #[.agg #[.slice A1 n1 c1, .slice A2 n2 c2, .slice A3 n3 c3], .int .i64 (pn : Int), .agg #[.int .i64 x.kind, .int .i64 x.session, .int .i64 x.req.kind, .int .i64 x.req.life, .int .i64 x.req.number, .int .i64 x.req.place, .string x.req.key, .string x.req.to, .slice AV x.req.value.length cV, .int .i64 x.req.limit, .int .i64 x.place, .slice AS x.strikes.length cS]]) Try.func28 (by kernel_rfl) (by kernel_rfl) rfl (by kernel_rfl) (d_unseen false hcf pn HPL.out (HC.out _ (((Chg.refl _ w).alloc _).trans (H3.out.trans hc (fun _ _ h => h)) (fun _ _ h => h))) (HEV.out _ (H3.out.trans hc (fun _ _ h => h))) HUX.out)
              obtain rfl : z11_6 = _ := hv
              clear hc w1
              intro w6 hc6 hn6
              have H6 : Hid (Chg (fun _ => False) (w.alloc (.cells #[.slice A1 n1 c1, .slice A2 n2 c2, .slice A3 n3 c3] 27)) w6) := H3.out.trans hc6 (fun _ _ h => h)
              have HO6 := Lib.hid (HO3.out.up hc6)
              have hB6 : B9 ≤ w6.heap.size := Nat.le_trans HB1.out H6.out.size
              clear hc6 hn6
              simp only [Act.put, List.setIfInBounds_toArray, List.set_cons_succ, List.set_cons_zero]
              go_upto_region 13 with fail
              refine wp_region_soft_tail 13 (notes [Note.eq (.slice Av ys.length cv), Note.eq (.agg #[.slice A1 n1 c1, .slice A2 n2 c2, .slice A3 n3 c3]), Note.eq (.int .i64 (pn : Int)), Note.eq (.slice (some ⟨g, off, none⟩) s.length cc), Note.eq (.int .i64 (k : Int)), Note.eq (.pointer (some ⟨g, off + k * 12, none⟩)), Note.eq (.agg #[.int .i64 x.kind, .int .i64 x.session, .int .i64 x.req.kind, .int .i64 x.req.life, .int .i64 x.req.number, .int .i64 x.req.place, .string x.req.key, .string x.req.to, .slice AV x.req.value.length cV, .int .i64 x.req.limit, .int .i64 x.place, .slice AS x.strikes.length cS]), Note.eq (.slice (some ⟨h, oft, none⟩) t.length cd), Note.eq (.int .i64 (k : Int)), Note.eq (.pointer (some ⟨h, oft + k * 12, none⟩)), Note.eq (.agg #[.int .i64 y.kind, .int .i64 y.session, .int .i64 y.req.kind, .int .i64 y.req.life, .int .i64 y.req.number, .int .i64 y.req.place, .string y.req.key, .string y.req.to, .slice AVy y.req.value.length cVy, .int .i64 y.req.limit, .int .i64 y.place, .slice ASy y.strikes.length cSy]), nEvF w6.heap.size (Ev.changed c pn x y), nEvsF w6.heap.size [Ev.changed c pn x y]]) (by kernel_rfl) (by kernel_rfl) (by kernel_rfl) (notes_st _) ?_
              refine soft_one (some 65) rfl (Note.eq (.slice Av ys.length cv)).f (by kernel_rfl) (by kernel_rfl) (fun w1 hc hk => ?_) (fun q13_0 w1 hc hv => ?_)
              · exact soft_move (.tmp 9) rfl (.slice Av ys.length cv) (by kernel_rfl) rfl
              obtain rfl : q13_0 = _ := hv
              clear hc w1
              refine soft_one (some 66) rfl (Note.eq (.agg #[.slice A1 n1 c1, .slice A2 n2 c2, .slice A3 n3 c3])).f (by kernel_rfl) (by kernel_rfl) (fun w1 hc hk => ?_) (fun q13_1 w1 hc hv => ?_)
              · have k0 := cell_at (HBX.out _ (H6.out.trans hc (fun _ _ h => h))) 0 rfl; have k1 := cell_at (HBX.out _ (H6.out.trans hc (fun _ _ h => h))) 1 rfl; have k2 := cell_at (HBX.out _ (H6.out.trans hc (fun _ _ h => h))) 2 rfl; refine soft_at (w1 := w1) (u := .agg #[.slice A1 n1 c1, .slice A2 n2 c2, .slice A3 n3 c3]) (fun ρ => ρ (.tmp 4) = .pointer (some ⟨w.heap.size, 0, none⟩)) (by kernel_rfl) (fun ρ hρ => ?_) (Chg.refl _ _) rfl; go_simp
              obtain rfl : q13_1 = _ := hv
              clear hc w1
              refine soft_one (some 67) rfl (Note.eq (.int .i64 (pn : Int))).f (by kernel_rfl) (by kernel_rfl) (fun w1 hc hk => ?_) (fun q13_2 w1 hc hv => ?_)
              · exact soft_move (.tmp 1) rfl (.int .i64 (pn : Int)) (by kernel_rfl) rfl
              obtain rfl : q13_2 = _ := hv
              clear hc w1
              refine soft_one (some 68) rfl (Note.eq (.slice (some ⟨g, off, none⟩) s.length cc)).f (by kernel_rfl) (by kernel_rfl) (fun w1 hc hk => ?_) (fun q13_3 w1 hc hv => ?_)
              · exact soft_move (.tmp 2) rfl (.slice (some ⟨g, off, none⟩) s.length cc) (by kernel_rfl) rfl
              obtain rfl : q13_3 = _ := hv
              clear hc w1
              refine soft_one (some 69) rfl (Note.eq (.int .i64 (k : Int))).f (by kernel_rfl) (by kernel_rfl) (fun w1 hc hk => ?_) (fun q13_4 w1 hc hv => ?_)
              · exact soft_move (.tmp 10) rfl (.int .i64 (k : Int)) (by kernel_rfl) rfl
              obtain rfl : q13_4 = _ := hv
              clear hc w1
              refine soft_one (some 70) rfl (Note.eq (.pointer (some ⟨g, off + k * 12, none⟩))).f (by kernel_rfl) (by kernel_rfl) (fun w1 hc hk => ?_) (fun q13_5 w1 hc hv => ?_)
              · refine soft_at (w1 := w1) (u := .pointer (some ⟨g, off + k * 12, none⟩)) (fun ρ => (∀ v, ρ (.const v) = v) ∧ ρ (.tmp 68) = .slice (some ⟨g, off, none⟩) s.length cc ∧ ρ (.tmp 69) = .int .i64 (k : Int)) ⟨fun v => rfl, by kernel_rfl, by kernel_rfl⟩ (fun ρ hρ => ?_) (Chg.refl _ _) rfl; (obtain ⟨g0, g1, g2⟩ := hρ; go_simp)
              obtain rfl : q13_5 = _ := hv
              clear hc w1
              refine soft_one (some 71) rfl (Note.eq (.agg #[.int .i64 x.kind, .int .i64 x.session, .int .i64 x.req.kind, .int .i64 x.req.life, .int .i64 x.req.number, .int .i64 x.req.place, .string x.req.key, .string x.req.to, .slice AV x.req.value.length cV, .int .i64 x.req.limit, .int .i64 x.place, .slice AS x.strikes.length cS])).f (by kernel_rfl) (by kernel_rfl) (fun w1 hc hk => ?_) (fun q13_6 w1 hc hv => ?_)
              · obtain ⟨p0, p1, p2, p3, p4, p5, p6, p7, p8, p9, p10, p11⟩ := range12 (HRA.out _ (H6.out.trans hc (fun _ _ h => h))); refine soft_at (w1 := w1) (u := .agg #[.int .i64 x.kind, .int .i64 x.session, .int .i64 x.req.kind, .int .i64 x.req.life, .int .i64 x.req.number, .int .i64 x.req.place, .string x.req.key, .string x.req.to, .slice AV x.req.value.length cV, .int .i64 x.req.limit, .int .i64 x.place, .slice AS x.strikes.length cS]) (fun ρ => ρ (.tmp 70) = .pointer (some ⟨g, off + k * 12, none⟩)) (by kernel_rfl) (fun ρ hρ => ?_) (Chg.refl _ _) rfl; go_simp
              obtain rfl : q13_6 = _ := hv
              clear hc w1
              refine soft_one (some 72) rfl (Note.eq (.slice (some ⟨h, oft, none⟩) t.length cd)).f (by kernel_rfl) (by kernel_rfl) (fun w1 hc hk => ?_) (fun q13_7 w1 hc hv => ?_)
              · exact soft_move (.tmp 3) rfl (.slice (some ⟨h, oft, none⟩) t.length cd) (by kernel_rfl) rfl
              obtain rfl : q13_7 = _ := hv
              clear hc w1
              refine soft_one (some 73) rfl (Note.eq (.int .i64 (k : Int))).f (by kernel_rfl) (by kernel_rfl) (fun w1 hc hk => ?_) (fun q13_8 w1 hc hv => ?_)
              · exact soft_move (.tmp 10) rfl (.int .i64 (k : Int)) (by kernel_rfl) rfl
              obtain rfl : q13_8 = _ := hv
              clear hc w1
              refine soft_one (some 74) rfl (Note.eq (.pointer (some ⟨h, oft + k * 12, none⟩))).f (by kernel_rfl) (by kernel_rfl) (fun w1 hc hk => ?_) (fun q13_9 w1 hc hv => ?_)
              · refine soft_at (w1 := w1) (u := .pointer (some ⟨h, oft + k * 12, none⟩)) (fun ρ => (∀ v, ρ (.const v) = v) ∧ ρ (.tmp 72) = .slice (some ⟨h, oft, none⟩) t.length cd ∧ ρ (.tmp 73) = .int .i64 (k : Int)) ⟨fun v => rfl, by kernel_rfl, by kernel_rfl⟩ (fun ρ hρ => ?_) (Chg.refl _ _) rfl; (obtain ⟨g0, g1, g2⟩ := hρ; go_simp)
              obtain rfl : q13_9 = _ := hv
              clear hc w1
              refine soft_one (some 75) rfl (Note.eq (.agg #[.int .i64 y.kind, .int .i64 y.session, .int .i64 y.req.kind, .int .i64 y.req.life, .int .i64 y.req.number, .int .i64 y.req.place, .string y.req.key, .string y.req.to, .slice AVy y.req.value.length cVy, .int .i64 y.req.limit, .int .i64 y.place, .slice ASy y.strikes.length cSy])).f (by kernel_rfl) (by kernel_rfl) (fun w1 hc hk => ?_) (fun q13_10 w1 hc hv => ?_)
              · obtain ⟨p0, p1, p2, p3, p4, p5, p6, p7, p8, p9, p10, p11⟩ := range12 (HRAY.out _ (H6.out.trans hc (fun _ _ h => h))); refine soft_at (w1 := w1) (u := .agg #[.int .i64 y.kind, .int .i64 y.session, .int .i64 y.req.kind, .int .i64 y.req.life, .int .i64 y.req.number, .int .i64 y.req.place, .string y.req.key, .string y.req.to, .slice AVy y.req.value.length cVy, .int .i64 y.req.limit, .int .i64 y.place, .slice ASy y.strikes.length cSy]) (fun ρ => ρ (.tmp 74) = .pointer (some ⟨h, oft + k * 12, none⟩)) (by kernel_rfl) (fun ρ hρ => ?_) (Chg.refl _ _) rfl; go_simp
              obtain rfl : q13_10 = _ := hv
              clear hc w1
              refine soft_one (some 76) rfl (nEvF w6.heap.size (Ev.changed c pn x y)).f (by kernel_rfl) (by kernel_rfl) (fun w1 hc hk => ?_) (fun q13_11 w1 hc hv => ?_)
              · exact soft_call (args := #[.agg #[.slice A1 n1 c1, .slice A2 n2 c2, .slice A3 n3 c3], .int .i64 (pn : Int), .agg #[.int .i64 x.kind, .int .i64 x.session, .int .i64 x.req.kind, .int .i64 x.req.life, .int .i64 x.req.number, .int .i64 x.req.place, .string x.req.key, .string x.req.to, .slice AV x.req.value.length cV, .int .i64 x.req.limit, .int .i64 x.place, .slice AS x.strikes.length cS], .agg #[.int .i64 y.kind, .int .i64 y.session, .int .i64 y.req.kind, .int .i64 y.req.life, .int .i64 y.req.number, .int .i64 y.req.place, .string y.req.key, .string y.req.to, .slice AVy y.req.value.length cVy, .int .i64 y.req.limit, .int .i64 y.place, .slice ASy y.strikes.length cSy]]) Try.func29 (by kernel_rfl) (by kernel_rfl) rfl (by kernel_rfl) (d_changed w6.heap.size hc.size hcf pn HPL.out HMB.out (HC.out _ (((Chg.refl _ w).alloc _).trans (H6.out.trans hc (fun _ _ h => h)) (fun _ _ h => h))) (HEV.out _ (H6.out.trans hc (fun _ _ h => h))) (HEVY.out _ (H6.out.trans hc (fun _ _ h => h))) HFx.out HFy.out)
              clear hv
              clear hc w1
              refine soft_one (some 77) rfl (nEvsF w6.heap.size [Ev.changed c pn x y]).f (by kernel_rfl) (by kernel_rfl) (fun w1 hc hk => ?_) (fun q13_12 w1 hc hv => ?_)
              · obtain ⟨cz, ez, hz⟩ := known_at hk 11 (nEvF w6.heap.size (Ev.changed c pn x y)).f q13_11 (by kernel_rfl) (by kernel_rfl) (by kernel_rfl); obtain ⟨AVz, nVz, cVz, ASz, nSz, cSz, ecz⟩ := ev_form hz; subst ecz; refine soft_at (w1 := w1.alloc (.cells (evCs (Ev.changed c pn x y) (.slice AVz nVz cVz) (.slice ASz nSz cSz)).toArray 37)) (u := .slice (some ⟨w1.heap.size, 0, none⟩) 1 1) (fun ρ => ρ (.tmp 76) = .agg (evCs (Ev.changed c pn x y) (.slice AVz nVz cVz) (.slice ASz nSz cSz)).toArray) (Eq.trans (by kernel_rfl) ez) (fun ρ hρ => ?_) ((Chg.refl _ _).alloc _) (seg_rel hz hc.size); clear hk ez hz; go_simp
              clear hv
              clear hc w1
              intro w7 hc7 hn7
              have hz := note_at hn7 12 (nEvsF w6.heap.size [Ev.changed c pn x y]).f q13_12 (by kernel_rfl) (by kernel_rfl) (by decide)
              have H7 : Hid (Chg (fun _ => False) (w.alloc (.cells #[.slice A1 n1 c1, .slice A2 n2 c2, .slice A3 n3 c3] 27)) w7) := H6.out.trans hc7 (fun _ _ h => h)
              have HO7 := Lib.hid (HO6.out.up hc7)
              have hs7 := hc7.size
              obtain ⟨AZ, cZ, ez, -⟩ := slice_form (bytes := 144) hz
              simp only [List.cons.injEq, and_true, List.length_singleton] at ez
              subst ez
              have HZ := Lib.hid hz
              have hlow6 : Hid (∀ j, (.slice Av ys.length cv : Value).ownBlock = some j → j < w6.heap.size) := Lib.hid (fun j hj => (HO6.out.low j hj).2)
              clear hc7 hn7 hz
              simp only [List.drop_succ_cons, List.drop_zero]
              simp only [Act.put, List.setIfInBounds_toArray, List.set_cons_succ, List.set_cons_zero]
              go_wp2_with (at_builtin; refine ap_all rfl (.tmp 65) (.tmp 77) 28 rfl evK B9 37 144 _ Try.underlying28 info_ev rfl (by decide) (by decide) (.slice Av ys.length cv) (ys) rfl HO7.out _ _ [Ev.changed c pn x y] 144 rfl HZ.out ?aO ?aL ?aB ?_; (case aO => exact fun y cs hy => evK.mono (fun k hk => ⟨by omega, hk.2, fun he => by have := hlow6.out k he; omega⟩) hy); (case aL => simp only [List.length_singleton]; omega); (case aB => omega); intro va wa oa ga; obtain ⟨Aa, ca, ea⟩ := oa.form; subst ea)
              go_roundw
              case rel => exact ⟨k + 1, by omega, by go_num, by rw [turned_next c pn s t HX.out, HYs.out]; rw [show Ev.turn1 c pn t k x = [Ev.changed c pn x y] by unfold Ev.turn1; rw [HY.out]; simp only [HUY.out, HUX.out]; simp]; (have o4 := oa; simp only [List.length_append, List.length_singleton] at o4; exact o4), H7.out.trans ga (fun j hj he => by have := (HO7.out.low j he).1; have := HB2.out; omega)⟩
              case measure => simp [intOf]; omega
        · have hy : t[k]? = none := List.getElem?_eq_none (by omega)
          have HY := Lib.hid hy
          clear hy
          have i6 : ¬ (k : Int) < (t.length : Int) := by omega
          go_upto_region 9 with fail
          refine wp_region_soft (notes [Note.eq (.int .i64 (k : Int)), Note.eq (.slice B t.length cd), Note.eq (.int .i64 (t.length : Int)), Note.eq (.bool false), Note.eq (.bool false), Note.eq (undef), Note.eq (undef), Note.eq (undef), Note.eq (undef), Note.eq (undef), Note.eq (undef), Note.eq (undef), Note.eq (.bool false)]) (by kernel_rfl) (by kernel_rfl) (by kernel_rfl) (notes_st _) ?_
          refine soft_one (some 33) rfl (Note.eq (.int .i64 (k : Int))).f (by kernel_rfl) (by kernel_rfl) (fun w1 hc hk => ?_) (fun x9_0 w1 hc hv => ?_)
          · exact soft_move (.tmp 10) rfl (.int .i64 (k : Int)) (by kernel_rfl) rfl
          obtain rfl : x9_0 = _ := hv
          clear hc w1
          refine soft_one (some 34) rfl (Note.eq (.slice B t.length cd)).f (by kernel_rfl) (by kernel_rfl) (fun w1 hc hk => ?_) (fun x9_1 w1 hc hv => ?_)
          · exact soft_move (.tmp 3) rfl (.slice B t.length cd) (by kernel_rfl) rfl
          obtain rfl : x9_1 = _ := hv
          clear hc w1
          refine soft_one (some 35) rfl (Note.eq (.int .i64 (t.length : Int))).f (by kernel_rfl) (by kernel_rfl) (fun w1 hc hk => ?_) (fun x9_2 w1 hc hv => ?_)
          · refine soft_at (w1 := w1) (u := .int .i64 (t.length : Int)) (fun ρ => (∀ v, ρ (.const v) = v) ∧ ρ (.tmp 34) = .slice B t.length cd) ⟨fun v => rfl, by kernel_rfl⟩ (fun ρ hρ => ?_) (Chg.refl _ _) rfl; (obtain ⟨g0, g1⟩ := hρ; go_simp)
          obtain rfl : x9_2 = _ := hv
          clear hc w1
          refine soft_one (some 36) rfl (Note.eq (.bool false)).f (by kernel_rfl) (by kernel_rfl) (fun w1 hc hk => ?_) (fun x9_3 w1 hc hv => ?_)
          · refine soft_at (w1 := w1) (u := .bool false) (fun ρ => (∀ v, ρ (.const v) = v) ∧ ρ (.tmp 33) = .int .i64 (k : Int) ∧ ρ (.tmp 35) = .int .i64 (t.length : Int)) ⟨fun v => rfl, by kernel_rfl, by kernel_rfl⟩ (fun ρ hρ => ?_) (Chg.refl _ _) rfl; (obtain ⟨g0, g1, g2⟩ := hρ; go_simp)
          obtain rfl : x9_3 = _ := hv
          clear hc w1
          refine soft_one (some 37) rfl (Note.eq (.bool false)).f (by kernel_rfl) (by kernel_rfl) (fun w1 hc hk => ?_) (fun x9_4 w1 hc hv => ?_)
          · exact soft_move (.tmp 36) rfl (.bool false) (by kernel_rfl) rfl
          obtain rfl : x9_4 = _ := hv
          clear hc w1
          refine soft_skip (some 38) rfl (by kernel_rfl) (by kernel_rfl) ?_
          refine soft_skip (some 39) rfl (by kernel_rfl) (by kernel_rfl) ?_
          refine soft_skip (some 40) rfl (by kernel_rfl) (by kernel_rfl) ?_
          refine soft_skip (some 41) rfl (by kernel_rfl) (by kernel_rfl) ?_
          refine soft_skip (some 42) rfl (by kernel_rfl) (by kernel_rfl) ?_
          refine soft_skip (some 43) rfl (by kernel_rfl) (by kernel_rfl) ?_
          refine soft_skip (some 44) rfl (by kernel_rfl) (by kernel_rfl) ?_
          refine soft_one (some 45) rfl (Note.eq (.bool false)).f (by kernel_rfl) (by kernel_rfl) (fun w1 hc hk => ?_) (fun x9_12 w1 hc hv => ?_)
          · refine soft_at (w1 := w1) (u := .bool false) (fun ρ => (∀ v, ρ (.const v) = v) ∧ ρ (.tmp 37) = .bool false ∧ ρ (.tmp 44) = undef) ⟨fun v => rfl, by kernel_rfl, by kernel_rfl⟩ (fun ρ hρ => ?_) (Chg.refl _ _) rfl; (obtain ⟨g0, g1, g2⟩ := hρ; go_simp)
          obtain rfl : x9_12 = _ := hv
          clear hc w1
          intro w3 hc3 hn3
          have H3 : Hid (Chg (fun _ => False) (w.alloc (.cells #[.slice A1 n1 c1, .slice A2 n2 c2, .slice A3 n3 c3] 27)) w3) := H1.out.trans hc3 (fun _ _ h => h)
          have HO3 := Lib.hid (HO.out.up hc3)
          have hB3 : B9 ≤ w3.heap.size := Nat.le_trans hBo hc3.size
          clear hc3 hn3
          simp only [Act.put, List.setIfInBounds_toArray, List.set_cons_succ, List.set_cons_zero]
          by_cases hux : Ev.unseen c pn x = true
          · have hux' : Ev.unseen c pn x = true := hux
            have HUX := Lib.hid hux'
            clear hux hux'
            go_upto_region 11 with fail
            refine wp_region_soft (notes [Note.eq (.agg #[.slice A1 n1 c1, .slice A2 n2 c2, .slice A3 n3 c3]), Note.eq (.int .i64 (pn : Int)), Note.eq (.slice (some ⟨g, off, none⟩) s.length cc), Note.eq (.int .i64 (k : Int)), Note.eq (.pointer (some ⟨g, off + k * 12, none⟩)), Note.eq (.agg #[.int .i64 x.kind, .int .i64 x.session, .int .i64 x.req.kind, .int .i64 x.req.life, .int .i64 x.req.number, .int .i64 x.req.place, .string x.req.key, .string x.req.to, .slice AV x.req.value.length cV, .int .i64 x.req.limit, .int .i64 x.place, .slice AS x.strikes.length cS]), Note.eq (.bool true)]) (by kernel_rfl) (by kernel_rfl) (by kernel_rfl) (notes_st _) ?_
            refine soft_one (some 54) rfl (Note.eq (.agg #[.slice A1 n1 c1, .slice A2 n2 c2, .slice A3 n3 c3])).f (by kernel_rfl) (by kernel_rfl) (fun w1 hc hk => ?_) (fun z11_0 w1 hc hv => ?_)
            · have k0 := cell_at (HBX.out _ (H3.out.trans hc (fun _ _ h => h))) 0 rfl; have k1 := cell_at (HBX.out _ (H3.out.trans hc (fun _ _ h => h))) 1 rfl; have k2 := cell_at (HBX.out _ (H3.out.trans hc (fun _ _ h => h))) 2 rfl; refine soft_at (w1 := w1) (u := .agg #[.slice A1 n1 c1, .slice A2 n2 c2, .slice A3 n3 c3]) (fun ρ => ρ (.tmp 4) = .pointer (some ⟨w.heap.size, 0, none⟩)) (by kernel_rfl) (fun ρ hρ => ?_) (Chg.refl _ _) rfl; go_simp
            obtain rfl : z11_0 = _ := hv
            clear hc w1
            refine soft_one (some 55) rfl (Note.eq (.int .i64 (pn : Int))).f (by kernel_rfl) (by kernel_rfl) (fun w1 hc hk => ?_) (fun z11_1 w1 hc hv => ?_)
            · exact soft_move (.tmp 1) rfl (.int .i64 (pn : Int)) (by kernel_rfl) rfl
            obtain rfl : z11_1 = _ := hv
            clear hc w1
            refine soft_one (some 56) rfl (Note.eq (.slice (some ⟨g, off, none⟩) s.length cc)).f (by kernel_rfl) (by kernel_rfl) (fun w1 hc hk => ?_) (fun z11_2 w1 hc hv => ?_)
            · exact soft_move (.tmp 2) rfl (.slice (some ⟨g, off, none⟩) s.length cc) (by kernel_rfl) rfl
            obtain rfl : z11_2 = _ := hv
            clear hc w1
            refine soft_one (some 57) rfl (Note.eq (.int .i64 (k : Int))).f (by kernel_rfl) (by kernel_rfl) (fun w1 hc hk => ?_) (fun z11_3 w1 hc hv => ?_)
            · exact soft_move (.tmp 10) rfl (.int .i64 (k : Int)) (by kernel_rfl) rfl
            obtain rfl : z11_3 = _ := hv
            clear hc w1
            refine soft_one (some 58) rfl (Note.eq (.pointer (some ⟨g, off + k * 12, none⟩))).f (by kernel_rfl) (by kernel_rfl) (fun w1 hc hk => ?_) (fun z11_4 w1 hc hv => ?_)
            · refine soft_at (w1 := w1) (u := .pointer (some ⟨g, off + k * 12, none⟩)) (fun ρ => (∀ v, ρ (.const v) = v) ∧ ρ (.tmp 56) = .slice (some ⟨g, off, none⟩) s.length cc ∧ ρ (.tmp 57) = .int .i64 (k : Int)) ⟨fun v => rfl, by kernel_rfl, by kernel_rfl⟩ (fun ρ hρ => ?_) (Chg.refl _ _) rfl; (obtain ⟨g0, g1, g2⟩ := hρ; go_simp)
            obtain rfl : z11_4 = _ := hv
            clear hc w1
            refine soft_one (some 59) rfl (Note.eq (.agg #[.int .i64 x.kind, .int .i64 x.session, .int .i64 x.req.kind, .int .i64 x.req.life, .int .i64 x.req.number, .int .i64 x.req.place, .string x.req.key, .string x.req.to, .slice AV x.req.value.length cV, .int .i64 x.req.limit, .int .i64 x.place, .slice AS x.strikes.length cS])).f (by kernel_rfl) (by kernel_rfl) (fun w1 hc hk => ?_) (fun z11_5 w1 hc hv => ?_)
            · obtain ⟨p0, p1, p2, p3, p4, p5, p6, p7, p8, p9, p10, p11⟩ := range12 (HRA.out _ (H3.out.trans hc (fun _ _ h => h))); refine soft_at (w1 := w1) (u := .agg #[.int .i64 x.kind, .int .i64 x.session, .int .i64 x.req.kind, .int .i64 x.req.life, .int .i64 x.req.number, .int .i64 x.req.place, .string x.req.key, .string x.req.to, .slice AV x.req.value.length cV, .int .i64 x.req.limit, .int .i64 x.place, .slice AS x.strikes.length cS]) (fun ρ => ρ (.tmp 58) = .pointer (some ⟨g, off + k * 12, none⟩)) (by kernel_rfl) (fun ρ hρ => ?_) (Chg.refl _ _) rfl; go_simp
            obtain rfl : z11_5 = _ := hv
            clear hc w1
            refine soft_one (some 60) rfl (Note.eq (.bool true)).f (by kernel_rfl) (by kernel_rfl) (fun w1 hc hk => ?_) (fun z11_6 w1 hc hv => ?_)
            · exact soft_call (args := #[.agg #[.slice A1 n1 c1, .slice A2 n2 c2, .slice A3 n3 c3], .int .i64 (pn : Int), .agg #[.int .i64 x.kind, .int .i64 x.session, .int .i64 x.req.kind, .int .i64 x.req.life, .int .i64 x.req.number, .int .i64 x.req.place, .string x.req.key, .string x.req.to, .slice AV x.req.value.length cV, .int .i64 x.req.limit, .int .i64 x.place, .slice AS x.strikes.length cS]]) Try.func28 (by kernel_rfl) (by kernel_rfl) rfl (by kernel_rfl) (d_unseen true hcf pn HPL.out (HC.out _ (((Chg.refl _ w).alloc _).trans (H3.out.trans hc (fun _ _ h => h)) (fun _ _ h => h))) (HEV.out _ (H3.out.trans hc (fun _ _ h => h))) HUX.out)
            obtain rfl : z11_6 = _ := hv
            clear hc w1
            intro w6 hc6 hn6
            have H6 : Hid (Chg (fun _ => False) (w.alloc (.cells #[.slice A1 n1 c1, .slice A2 n2 c2, .slice A3 n3 c3] 27)) w6) := H3.out.trans hc6 (fun _ _ h => h)
            have HO6 := Lib.hid (HO3.out.up hc6)
            have hB6 : B9 ≤ w6.heap.size := Nat.le_trans HB1.out H6.out.size
            clear hc6 hn6
            simp only [Act.put, List.setIfInBounds_toArray, List.set_cons_succ, List.set_cons_zero]
            go_wp2
            go_roundw
            case rel => exact ⟨k + 1, by omega, by go_num, by rw [turned_next c pn s t HX.out, HYs.out]; rw [show Ev.turn1 c pn t k x = [] by unfold Ev.turn1; rw [HY.out]; simp only [HUX.out]; simp]; rw [List.append_nil]; exact HO6.out, H6.out⟩
            case measure => simp [intOf]; omega
          · have hux' : Ev.unseen c pn x = false := by simpa using hux
            have HUX := Lib.hid hux'
            clear hux hux'
            go_upto_region 11 with fail
            refine wp_region_soft (notes [Note.eq (.agg #[.slice A1 n1 c1, .slice A2 n2 c2, .slice A3 n3 c3]), Note.eq (.int .i64 (pn : Int)), Note.eq (.slice (some ⟨g, off, none⟩) s.length cc), Note.eq (.int .i64 (k : Int)), Note.eq (.pointer (some ⟨g, off + k * 12, none⟩)), Note.eq (.agg #[.int .i64 x.kind, .int .i64 x.session, .int .i64 x.req.kind, .int .i64 x.req.life, .int .i64 x.req.number, .int .i64 x.req.place, .string x.req.key, .string x.req.to, .slice AV x.req.value.length cV, .int .i64 x.req.limit, .int .i64 x.place, .slice AS x.strikes.length cS]), Note.eq (.bool false)]) (by kernel_rfl) (by kernel_rfl) (by kernel_rfl) (notes_st _) ?_
            refine soft_one (some 54) rfl (Note.eq (.agg #[.slice A1 n1 c1, .slice A2 n2 c2, .slice A3 n3 c3])).f (by kernel_rfl) (by kernel_rfl) (fun w1 hc hk => ?_) (fun z11_0 w1 hc hv => ?_)
            · have k0 := cell_at (HBX.out _ (H3.out.trans hc (fun _ _ h => h))) 0 rfl; have k1 := cell_at (HBX.out _ (H3.out.trans hc (fun _ _ h => h))) 1 rfl; have k2 := cell_at (HBX.out _ (H3.out.trans hc (fun _ _ h => h))) 2 rfl; refine soft_at (w1 := w1) (u := .agg #[.slice A1 n1 c1, .slice A2 n2 c2, .slice A3 n3 c3]) (fun ρ => ρ (.tmp 4) = .pointer (some ⟨w.heap.size, 0, none⟩)) (by kernel_rfl) (fun ρ hρ => ?_) (Chg.refl _ _) rfl; go_simp
            obtain rfl : z11_0 = _ := hv
            clear hc w1
            refine soft_one (some 55) rfl (Note.eq (.int .i64 (pn : Int))).f (by kernel_rfl) (by kernel_rfl) (fun w1 hc hk => ?_) (fun z11_1 w1 hc hv => ?_)
            · exact soft_move (.tmp 1) rfl (.int .i64 (pn : Int)) (by kernel_rfl) rfl
            obtain rfl : z11_1 = _ := hv
            clear hc w1
            refine soft_one (some 56) rfl (Note.eq (.slice (some ⟨g, off, none⟩) s.length cc)).f (by kernel_rfl) (by kernel_rfl) (fun w1 hc hk => ?_) (fun z11_2 w1 hc hv => ?_)
            · exact soft_move (.tmp 2) rfl (.slice (some ⟨g, off, none⟩) s.length cc) (by kernel_rfl) rfl
            obtain rfl : z11_2 = _ := hv
            clear hc w1
            refine soft_one (some 57) rfl (Note.eq (.int .i64 (k : Int))).f (by kernel_rfl) (by kernel_rfl) (fun w1 hc hk => ?_) (fun z11_3 w1 hc hv => ?_)
            · exact soft_move (.tmp 10) rfl (.int .i64 (k : Int)) (by kernel_rfl) rfl
            obtain rfl : z11_3 = _ := hv
            clear hc w1
            refine soft_one (some 58) rfl (Note.eq (.pointer (some ⟨g, off + k * 12, none⟩))).f (by kernel_rfl) (by kernel_rfl) (fun w1 hc hk => ?_) (fun z11_4 w1 hc hv => ?_)
            · refine soft_at (w1 := w1) (u := .pointer (some ⟨g, off + k * 12, none⟩)) (fun ρ => (∀ v, ρ (.const v) = v) ∧ ρ (.tmp 56) = .slice (some ⟨g, off, none⟩) s.length cc ∧ ρ (.tmp 57) = .int .i64 (k : Int)) ⟨fun v => rfl, by kernel_rfl, by kernel_rfl⟩ (fun ρ hρ => ?_) (Chg.refl _ _) rfl; (obtain ⟨g0, g1, g2⟩ := hρ; go_simp)
            obtain rfl : z11_4 = _ := hv
            clear hc w1
            refine soft_one (some 59) rfl (Note.eq (.agg #[.int .i64 x.kind, .int .i64 x.session, .int .i64 x.req.kind, .int .i64 x.req.life, .int .i64 x.req.number, .int .i64 x.req.place, .string x.req.key, .string x.req.to, .slice AV x.req.value.length cV, .int .i64 x.req.limit, .int .i64 x.place, .slice AS x.strikes.length cS])).f (by kernel_rfl) (by kernel_rfl) (fun w1 hc hk => ?_) (fun z11_5 w1 hc hv => ?_)
            · obtain ⟨p0, p1, p2, p3, p4, p5, p6, p7, p8, p9, p10, p11⟩ := range12 (HRA.out _ (H3.out.trans hc (fun _ _ h => h))); refine soft_at (w1 := w1) (u := .agg #[.int .i64 x.kind, .int .i64 x.session, .int .i64 x.req.kind, .int .i64 x.req.life, .int .i64 x.req.number, .int .i64 x.req.place, .string x.req.key, .string x.req.to, .slice AV x.req.value.length cV, .int .i64 x.req.limit, .int .i64 x.place, .slice AS x.strikes.length cS]) (fun ρ => ρ (.tmp 58) = .pointer (some ⟨g, off + k * 12, none⟩)) (by kernel_rfl) (fun ρ hρ => ?_) (Chg.refl _ _) rfl; go_simp
            obtain rfl : z11_5 = _ := hv
            clear hc w1
            refine soft_one (some 60) rfl (Note.eq (.bool false)).f (by kernel_rfl) (by kernel_rfl) (fun w1 hc hk => ?_) (fun z11_6 w1 hc hv => ?_)
            · exact soft_call (args := #[.agg #[.slice A1 n1 c1, .slice A2 n2 c2, .slice A3 n3 c3], .int .i64 (pn : Int), .agg #[.int .i64 x.kind, .int .i64 x.session, .int .i64 x.req.kind, .int .i64 x.req.life, .int .i64 x.req.number, .int .i64 x.req.place, .string x.req.key, .string x.req.to, .slice AV x.req.value.length cV, .int .i64 x.req.limit, .int .i64 x.place, .slice AS x.strikes.length cS]]) Try.func28 (by kernel_rfl) (by kernel_rfl) rfl (by kernel_rfl) (d_unseen false hcf pn HPL.out (HC.out _ (((Chg.refl _ w).alloc _).trans (H3.out.trans hc (fun _ _ h => h)) (fun _ _ h => h))) (HEV.out _ (H3.out.trans hc (fun _ _ h => h))) HUX.out)
            obtain rfl : z11_6 = _ := hv
            clear hc w1
            intro w6 hc6 hn6
            have H6 : Hid (Chg (fun _ => False) (w.alloc (.cells #[.slice A1 n1 c1, .slice A2 n2 c2, .slice A3 n3 c3] 27)) w6) := H3.out.trans hc6 (fun _ _ h => h)
            have HO6 := Lib.hid (HO3.out.up hc6)
            have hB6 : B9 ≤ w6.heap.size := Nat.le_trans HB1.out H6.out.size
            clear hc6 hn6
            simp only [Act.put, List.setIfInBounds_toArray, List.set_cons_succ, List.set_cons_zero]
            have d12 := range12 (HRA.out _ H6.out)
            obtain ⟨p0, p1, p2, p3, p4, p5, p6, p7, p8, p9, p10, p11⟩ := d12
            obtain ⟨cx, ex, hx6⟩ := HEV.out _ H6.out
            have HCP : Hid (Calls Try.prog 16 #[.agg #[.int .i64 x.kind, .int .i64 x.session, .int .i64 x.req.kind, .int .i64 x.req.life, .int .i64 x.req.number, .int .i64 x.req.place, .string x.req.key, .string x.req.to, .slice AV x.req.value.length cV, .int .i64 x.req.limit, .int .i64 x.place, .slice AS x.strikes.length cS]] w6 fun e w' => ∃ ys, e = .returned (.agg ys.toArray) ∧ evK.rel (fun k => w6.heap.size ≤ k ∧ k < w'.heap.size) w' x ys ∧ Chg (fun _ => False) w6 w') := Lib.hid (by rw [ex]; exact copy_ev w6 _ x cx hx6 (fun k hk => hk) HFx.out)
            clear ex hx6
            go_wp2_with fail
            refine HCP.out.mono ?_
            rintro e w7 ⟨cz, rfl, hz, hc7⟩
            obtain ⟨AVz, nVz, cVz, ASz, nSz, cSz, ecz⟩ := ev_form hz
            subst ecz
            have H7 : Hid (Chg (fun _ => False) (w.alloc (.cells #[.slice A1 n1 c1, .slice A2 n2 c2, .slice A3 n3 c3] 27)) w7) := H6.out.trans hc7 (fun _ _ h => h)
            have HO7 := Lib.hid (HO6.out.up hc7)
            have hs7 := hc7.size
            have HZ := Lib.hid hz
            have hlow6 : Hid (∀ j, (.slice Av ys.length cv : Value).ownBlock = some j → j < w6.heap.size) := Lib.hid (fun j hj => (HO6.out.low j hj).2)
            clear hc7 hz p0 p1 p2 p3 p4 p5 p6 p7 p8 p9 p10 p11
            go_wp2_with (at_builtin; refine ap_push rfl (.tmp 79) (.tmp 85) 28 rfl evK B9 37 144 _ Try.underlying28 info_ev rfl (by decide) (by decide) (.slice Av ys.length cv) (ys) rfl HO7.out (x) _ rfl ?bR ?bL ?bB ?_; (case bR => exact evK.mono (fun j hj => ⟨by omega, hj.2, fun he => by have := hlow6.out j he; omega⟩) HZ.out); (case bL => omega); (case bB => omega); intro va wa oa ga; obtain ⟨Aa, ca, ea⟩ := oa.form; subst ea)
            go_roundw
            case rel => exact ⟨k + 1, by omega, by go_num, by rw [turned_next c pn s t HX.out, HYs.out]; rw [show Ev.turn1 c pn t k x = [x] by unfold Ev.turn1; rw [HY.out]; simp only [HUX.out]; simp]; exact (by have o4 := oa; simp only [List.length_append, List.length_singleton] at o4; exact o4), H7.out.trans ga (fun j hj he => by have := (HO7.out.low j he).1; have := HB2.out; omega)⟩
            case measure => simp [intOf]; omega
      · obtain rfl : k = s.length := by omega
        have HTF := Lib.hid (turned_fits (c := c) (p := pn) HFs.out HFt.out hn s.length (Nat.le_refl _))
        have HPT := Lib.hid (purge_turned' c pn s t)
        generalize Ev.turned c pn s t s.length = T at *
        obtain ⟨Av, cv, ev⟩ := ho.form
        subst ev
        have HV : Hid ((nEvs T).f (.slice Av T.length cv) wo) := own_evs ho
        clear ho hc
        go_upto_region 15 with fail
        refine wp_region_soft (notes [Note.eq (.agg #[.slice A1 n1 c1, .slice A2 n2 c2, .slice A3 n3 c3]), Note.eq (.int .i64 (pn : Int)), Note.eq (.slice Av T.length cv), nEvs (Ev.purge c (pn : Int) s), Note.eq (.agg #[.slice A1 n1 c1, .slice A2 n2 c2, .slice A3 n3 c3]), Note.eq (.int .i64 (pn : Int)), Note.eq (.slice A s.length cc), nEvs (s), nEvs (Ev.purge c (pn : Int) s), Note.eq (.bool true), Note.eq (.bool true)]) (by kernel_rfl) (by kernel_rfl) (by kernel_rfl) (notes_st _) ?_
        refine soft_one (some 87) rfl (Note.eq (.agg #[.slice A1 n1 c1, .slice A2 n2 c2, .slice A3 n3 c3])).f (by kernel_rfl) (by kernel_rfl) (fun w1 hc hk => ?_) (fun x15_0 w1 hc hv => ?_)
        · have k0 := cell_at (HBX.out _ (H1.out.trans hc (fun _ _ h => h))) 0 rfl; have k1 := cell_at (HBX.out _ (H1.out.trans hc (fun _ _ h => h))) 1 rfl; have k2 := cell_at (HBX.out _ (H1.out.trans hc (fun _ _ h => h))) 2 rfl; refine soft_at (w1 := w1) (u := .agg #[.slice A1 n1 c1, .slice A2 n2 c2, .slice A3 n3 c3]) (fun ρ => ρ (.tmp 4) = .pointer (some ⟨w.heap.size, 0, none⟩)) (by kernel_rfl) (fun ρ hρ => ?_) (Chg.refl _ _) rfl; go_simp
        obtain rfl : x15_0 = _ := hv
        clear hc w1
        refine soft_one (some 88) rfl (Note.eq (.int .i64 (pn : Int))).f (by kernel_rfl) (by kernel_rfl) (fun w1 hc hk => ?_) (fun x15_1 w1 hc hv => ?_)
        · exact soft_move (.tmp 1) rfl (.int .i64 (pn : Int)) (by kernel_rfl) rfl
        obtain rfl : x15_1 = _ := hv
        clear hc w1
        refine soft_one (some 89) rfl (Note.eq (.slice Av T.length cv)).f (by kernel_rfl) (by kernel_rfl) (fun w1 hc hk => ?_) (fun x15_2 w1 hc hv => ?_)
        · exact soft_move (.tmp 9) rfl (.slice Av T.length cv) (by kernel_rfl) rfl
        obtain rfl : x15_2 = _ := hv
        clear hc w1
        refine soft_one (some 90) rfl (nEvs (Ev.purge c (pn : Int) s)).f (by kernel_rfl) (by kernel_rfl) (fun w1 hc hk => ?_) (fun x15_3 w1 hc hv => ?_)
        · exact soft_call (args := #[.agg #[.slice A1 n1 c1, .slice A2 n2 c2, .slice A3 n3 c3], .int .i64 (pn : Int), .slice Av T.length cv]) Try.func19 (by kernel_rfl) (by kernel_rfl) rfl (by kernel_rfl) (by have := d_purge hcf (pn : Int) (HC.out _ (((Chg.refl _ w).alloc _).trans (H1.out.trans hc (fun _ _ h => h)) (fun _ _ h => h))) (nEvs_up HV.out hc) HTF.out; rwa [HPT.out] at this)
        clear hv
        clear hc w1
        refine soft_one (some 91) rfl (Note.eq (.agg #[.slice A1 n1 c1, .slice A2 n2 c2, .slice A3 n3 c3])).f (by kernel_rfl) (by kernel_rfl) (fun w1 hc hk => ?_) (fun x15_4 w1 hc hv => ?_)
        · have k0 := cell_at (HBX.out _ (H1.out.trans hc (fun _ _ h => h))) 0 rfl; have k1 := cell_at (HBX.out _ (H1.out.trans hc (fun _ _ h => h))) 1 rfl; have k2 := cell_at (HBX.out _ (H1.out.trans hc (fun _ _ h => h))) 2 rfl; refine soft_at (w1 := w1) (u := .agg #[.slice A1 n1 c1, .slice A2 n2 c2, .slice A3 n3 c3]) (fun ρ => ρ (.tmp 4) = .pointer (some ⟨w.heap.size, 0, none⟩)) (by kernel_rfl) (fun ρ hρ => ?_) (Chg.refl _ _) rfl; go_simp
        obtain rfl : x15_4 = _ := hv
        clear hc w1
        refine soft_one (some 92) rfl (Note.eq (.int .i64 (pn : Int))).f (by kernel_rfl) (by kernel_rfl) (fun w1 hc hk => ?_) (fun x15_5 w1 hc hv => ?_)
        · exact soft_move (.tmp 1) rfl (.int .i64 (pn : Int)) (by kernel_rfl) rfl
        obtain rfl : x15_5 = _ := hv
        clear hc w1
        refine soft_one (some 93) rfl (Note.eq (.slice A s.length cc)).f (by kernel_rfl) (by kernel_rfl) (fun w1 hc hk => ?_) (fun x15_6 w1 hc hv => ?_)
        · exact soft_move (.tmp 2) rfl (.slice A s.length cc) (by kernel_rfl) rfl
        obtain rfl : x15_6 = _ := hv
        clear hc w1
        refine soft_one (some 94) rfl (nEvs (s)).f (by kernel_rfl) (by kernel_rfl) (fun w1 hc hk => ?_) (fun x15_7 w1 hc hv => ?_)
        · exact soft_call (args := #[.slice A s.length cc]) Try.func20 (by kernel_rfl) (by kernel_rfl) rfl (by kernel_rfl) (d_copies (HEs.out _ (((Chg.refl _ w).alloc _).trans (H1.out.trans hc (fun _ _ h => h)) (fun _ _ h => h))) HFs.out)
        clear hv
        clear hc w1
        refine soft_one (some 95) rfl (nEvs (Ev.purge c (pn : Int) s)).f (by kernel_rfl) (by kernel_rfl) (fun w1 hc hk => ?_) (fun x15_8 w1 hc hv => ?_)
        · exact soft_call (args := #[.agg #[.slice A1 n1 c1, .slice A2 n2 c2, .slice A3 n3 c3], .int .i64 (pn : Int), x15_7]) Try.func19 (by kernel_rfl) (by kernel_rfl) rfl (by kernel_rfl) (d_purge hcf (pn : Int) (HC.out _ (((Chg.refl _ w).alloc _).trans (H1.out.trans hc (fun _ _ h => h)) (fun _ _ h => h))) (known_at hk 7 (nEvs (s)).f x15_7 (by kernel_rfl) (by kernel_rfl) (by kernel_rfl)) HFs.out)
        clear hv
        clear hc w1
        refine soft_one (some 96) rfl (Note.eq (.bool true)).f (by kernel_rfl) (by kernel_rfl) (fun w1 hc hk => ?_) (fun x15_9 w1 hc hv => ?_)
        · exact soft_call (args := #[x15_3, x15_8]) Try.func24 (by kernel_rfl) (by kernel_rfl) rfl (by kernel_rfl) (d_psame true (known_at hk 3 (nEvs (Ev.purge c (pn : Int) s)).f x15_3 (by kernel_rfl) (by kernel_rfl) (by kernel_rfl)) (known_at hk 8 (nEvs (Ev.purge c (pn : Int) s)).f x15_8 (by kernel_rfl) (by kernel_rfl) (by kernel_rfl)) (purge_fits HFs.out) (purge_fits HFs.out) (by simp))
        obtain rfl : x15_9 = _ := hv
        clear hc w1
        refine soft_one (some 8) rfl (Note.eq (.bool true)).f (by kernel_rfl) (by kernel_rfl) (fun w1 hc hk => ?_) (fun x15_10 w1 hc hv => ?_)
        · exact soft_assign (.tmp 96) rfl (.bool true) (by kernel_rfl) rfl
        obtain rfl : x15_10 = _ := hv
        clear hc w1
        refine soft_end (fun b => b.tmps.getD 8 undef = .bool true ∧ b.defers = []) ⟨by kernel_rfl, by kernel_rfl⟩ (fun b hb w6 hc6 => ?_)
        obtain ⟨hb0, hbd⟩ := hb
        have HC6 : Hid (Chg (fun _ => False) w w6) := ((Chg.refl _ w).alloc _).trans (H1.out.trans hc6 (fun _ _ h => h)) (fun _ _ h => h)
        clear hc6
        go_wp2
        exact bodyPost_ret (v := .bool true) (by simp [results, Try.results11, go_sem, show b.tmps[8]?.getD undef = .bool true by rw [← Array.getD_eq_getD_getElem?]; exact hb0]) hbd ⟨rfl, HC6.out.below⟩
end Go.Proofs.Ytchlolgfahgdeaa.Ebl
