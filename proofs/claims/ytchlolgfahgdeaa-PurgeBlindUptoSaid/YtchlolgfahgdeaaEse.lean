/- Events compared by the reference: SameEvent by contract. Conditions: what comes in reads so. -/
import Derived.Test.YtchlolgfahgdeaaEs1
import Derived.Test.YtchlolgfahgdeaaEr
import Derived.RegionTactic
import Derived.ChangeAlike
import Derived.Deep.Cut
set_option linter.unusedVariables false
set_option linter.unusedSimpArgs false
namespace Go.Proofs.Ytchlolgfahgdeaa.Ese
open Go.RowKit Go.Proofs.Ytchlolgfahgdeaa.Lib1 Go.Proofs.Ytchlolgfahgdeaa.Rel Go.Proofs.Ytchlolgfahgdeaa.Own Go.Proofs.Ytchlolgfahgdeaa.Ev Go.Proofs.Ytchlolgfahgdeaa.Ek Go.Proofs.Ytchlolgfahgdeaa.Ec Go.Proofs.Ytchlolgfahgdeaa.Efe Go.Proofs.Ytchlolgfahgdeaa.Esm Go.Proofs.Ytchlolgfahgdeaa.Epe Go.Proofs.Ytchlolgfahgdeaa.Em Go.Proofs.Ytchlolgfahgdeaa.En Go.Proofs.Ytchlolgfahgdeaa.Er Go.Proofs.Ytchlolgfahgdeaa.Lbw Go.Proofs.Ytchlolgfahgdeaa.Ebe Go.Proofs.Ytchlolgfahgdeaa.Eal Go.Proofs.Ytchlolgfahgdeaa.Es1

theorem ev_eq2 (x y : Ev) : x = y ↔ x.kind = y.kind ∧ x.session = y.session ∧ x.place = y.place ∧ x.req.kind = y.req.kind ∧ (x.req.life = y.req.life ∧ x.req.number = y.req.number) ∧ x.req.place = y.req.place ∧ x.req.key = y.req.key ∧ x.req.to = y.req.to ∧ x.req.value = y.req.value ∧ x.req.limit = y.req.limit ∧ x.strikes = y.strikes := by
  rw [ev_eq, req_eq]
  constructor
  · rintro ⟨a, b, c, ⟨d, e, f, g, h, i, j⟩, k⟩; exact ⟨a, b, c, d, e, f, g, h, i, j, k⟩
  · rintro ⟨a, b, c, d, e, f, g, h, i, j, k⟩; exact ⟨a, b, c, ⟨d, e, f, g, h, i, j⟩, k⟩
/-- Behind the first statement: the two boxes, the two requests. -/
def SeAt (w : World) (x y : Ev) (vx sx vy sy : Value) (v5 v6 : Value) (wx : World) : Prop :=
  ∃ b5 b6, v5 = .pointer (some ⟨b5, 0, none⟩) ∧ v6 = .pointer (some ⟨b6, 0, none⟩) ∧ wx.heap[w.heap.size]? = some (.cells (evCs x vx sx).toArray 37 (0, 0)) ∧ wx.heap[w.heap.size + 1]? = some (.cells (evCs y vy sy).toArray 37 (0, 0)) ∧
    wx.heap[b5]? = some (.cells (reqCs x.req vx).toArray 34 (0, 0)) ∧ wx.heap[b6]? = some (.cells (reqCs y.req vy).toArray 34 (0, 0)) ∧ Chg (fun _ => False) w wx
theorem four (w : World) (X Y Z T : Obj) : ((((w.alloc X).alloc Y).alloc Z).alloc T).drew.heap[w.heap.size]? = some X ∧ ((((w.alloc X).alloc Y).alloc Z).alloc T).drew.heap[w.heap.size + 1]? = some Y ∧
    ((((w.alloc X).alloc Y).alloc Z).alloc T).drew.heap[w.heap.size + 1 + 1]? = some Z ∧ ((((w.alloc X).alloc Y).alloc Z).alloc T).drew.heap[w.heap.size + 1 + 1 + 1]? = some T ∧ Chg (fun _ => False) w ((((w.alloc X).alloc Y).alloc Z).alloc T).drew := by
  refine ⟨?_, ?_, ?_, ?_, (((((Chg.refl _ w).alloc X).alloc Y).alloc Z).alloc T).drew⟩
  · exact heap_old _ (heap_old _ (heap_old _ (heap_new w _)))
  · exact heap_old _ (heap_old _ (heap_new' _ _ (by simp)))
  · exact heap_old _ (heap_new' _ _ (by simp))
  · exact heap_new' _ _ (by simp)
set_option maxRecDepth 100000 in
set_option maxHeartbeats 6400000 in
theorem samee_any {ok : Nat → Prop} {w : World} (x y : Ev) (A B C D : Option Addr) (c1 c2 c3 c4 : Nat) (hok : ∀ k, ok k → k < w.heap.size)
    (hx : bytesK.rel ok w x.req.value [.slice A x.req.value.length c1]) (hy : bytesK.rel ok w y.req.value [.slice B y.req.value.length c2]) (hs : strikesK.rel ok w x.strikes [.slice C x.strikes.length c3]) (ht : strikesK.rel ok w y.strikes [.slice D y.strikes.length c4])
    (hf : strikesK.fits x.strikes) (hg : strikesK.fits y.strikes) :
    Calls Try.prog 39 #[.agg (evCs x (.slice A x.req.value.length c1) (.slice C x.strikes.length c3)).toArray, .agg (evCs y (.slice B y.req.value.length c2) (.slice D y.strikes.length c4)).toArray] w fun e w' => e = .returned (.bool (decide (x = y))) ∧ Chg (fun _ => False) w w' := by
  have HV1 : Hid (∀ w', Chg (fun _ => False) w w' → (convert 32 9 (.slice A x.req.value.length c1)).run Try.prog w' = .ok (.string ⟨x.req.value.toArray⟩) w') :=
    fun w' hc => conv_bytes x.req.value A _ c1 (bytesK.move (fun k hk => hc.block k (hok k hk) (fun h => h)) hx)
  have HV2 : Hid (∀ w', Chg (fun _ => False) w w' → (convert 32 9 (.slice B y.req.value.length c2)).run Try.prog w' = .ok (.string ⟨y.req.value.toArray⟩) w') :=
    fun w' hc => conv_bytes y.req.value B _ c2 (bytesK.move (fun k hk => hc.block k (hok k hk) (fun h => h)) hy)
  have HS : Hid (∀ w', Chg (fun _ => False) w w' → Calls Try.prog 58 #[.slice C x.strikes.length c3, .slice D y.strikes.length c4] w' fun e w1 => e = .returned (.bool (decide (x.strikes = y.strikes))) ∧ Chg (fun _ => False) w' w1) :=
    fun w' hc => rsame_strikes x.strikes y.strikes C D _ _ c3 c4 (strikesK.move (fun k hk => hc.block k (hok k hk) (fun h => h)) hs) (strikesK.move (fun k hk => hc.block k (hok k hk) (fun h => h)) ht) (fun k hk => Nat.lt_of_lt_of_le (hok k hk) hc.size) hf hg
  have HE := Lib.hid (ev_eq2 x y)
  have htx := eql_txn
  clear hx hy hs ht hok hf hg
  simp only [evCs, reqCs] at *
  go_enter Try.func39, Try.ntmps39
  go_upto_region 2 with fail
  go_cut [5, 6] from 7 (fun v5 v6 wx => SeAt w x y (.slice A x.req.value.length c1) (.slice C x.strikes.length c3) (.slice B y.req.value.length c2) (.slice D y.strikes.length c4) v5 v6 wx)
  case first =>
    go_wp2
    go_region
    · go_wp2
      go_meet
      case rel => exact ⟨_, _, rfl, rfl, (four w _ _ _ _).1, (four w _ _ _ _).2.1, (four w _ _ _ _).2.2.1, (four w _ _ _ _).2.2.2.1, (four w _ _ _ _).2.2.2.2⟩
    · go_wp2
      go_meet
      case rel => exact ⟨_, _, rfl, rfl, (four w _ _ _ _).1, (four w _ _ _ _).2.1, (four w _ _ _ _).2.2.2.1, (four w _ _ _ _).2.2.1, (four w _ _ _ _).2.2.2.2⟩
  case rest =>
    obtain ⟨b5, b6, rfl, rfl, k1, k2, k3, k4, hc⟩ := hcut
    obtain ⟨p0, p1, p2, p3, p4, p5, p6, p7, p8, p9, p10, p11⟩ := cells12 k1
    obtain ⟨q0, q1, q2, q3, q4, q5, q6, q7, q8, q9, q10, q11⟩ := cells12 k2
    obtain ⟨r0, r1, r2, r3, r4, r5, r6, r7⟩ := cells8 k3
    obtain ⟨s0, s1, s2, s3, s4, s5, s6, s7⟩ := cells8 k4
    have hv1 := HV1.out _ hc
    have hv2 := HV2.out _ hc
    have HC := Lib.hid hc
    clear k1 k2 k3 k4 hc p2 p3 p4 p5 p6 p7 p8 p9 q2 q3 q4 q5 q6 q7 q8 q9
    by_cases h1 : x.kind = y.kind
    rotate_left
    · have HN : Hid (¬ x = y) := fun h => h1 (HE.out.1 h).1
      have e1 : (x.kind == y.kind) = false := Bool.eq_false_iff.2 (fun hb => h1 (by simpa using hb))
      clear h1
      go_wp2
      go_ret
      exact ⟨ret_bool (decide_eq_false HN.out).symm, HC.out⟩
    have e1 : (x.kind == y.kind) = true := by simpa using h1
    have H1 := Lib.hid h1
    clear h1
    by_cases h2 : x.session = y.session
    rotate_left
    · have HN : Hid (¬ x = y) := fun h => h2 (HE.out.1 h).2.1
      have e2 : (x.session == y.session) = false := Bool.eq_false_iff.2 (fun hb => h2 (by simpa using hb))
      clear h2
      go_wp2
      go_ret
      exact ⟨ret_bool (decide_eq_false HN.out).symm, HC.out⟩
    have e2 : (x.session == y.session) = true := by simpa using h2
    have H2 := Lib.hid h2
    clear h2
    by_cases h3 : x.place = y.place
    rotate_left
    · have HN : Hid (¬ x = y) := fun h => h3 (HE.out.1 h).2.2.1
      have e3 : (x.place == y.place) = false := Bool.eq_false_iff.2 (fun hb => h3 (by simpa using hb))
      clear h3
      go_wp2
      go_ret
      exact ⟨ret_bool (decide_eq_false HN.out).symm, HC.out⟩
    have e3 : (x.place == y.place) = true := by simpa using h3
    have H3 := Lib.hid h3
    clear h3
    by_cases h4 : x.req.kind = y.req.kind
    rotate_left
    · have HN : Hid (¬ x = y) := fun h => h4 (HE.out.1 h).2.2.2.1
      have e4 : (x.req.kind == y.req.kind) = false := Bool.eq_false_iff.2 (fun hb => h4 (by simpa using hb))
      clear h4
      go_wp2
      go_ret
      exact ⟨ret_bool (decide_eq_false HN.out).symm, HC.out⟩
    have e4 : (x.req.kind == y.req.kind) = true := by simpa using h4
    have H4 := Lib.hid h4
    clear h4
    by_cases h5 : x.req.life = y.req.life ∧ x.req.number = y.req.number
    rotate_left
    · have HN : Hid (¬ x = y) := fun h => h5 (HE.out.1 h).2.2.2.2.1
      have e5 : (x.req.life == y.req.life && x.req.number == y.req.number) = false := Bool.eq_false_iff.2 (fun hb => h5 (by simpa using hb))
      clear h5
      go_wp2
      go_ret
      exact ⟨ret_bool (decide_eq_false HN.out).symm, HC.out⟩
    have e5 : (x.req.life == y.req.life && x.req.number == y.req.number) = true := by simpa using h5
    have H5 := Lib.hid h5
    clear h5
    by_cases h6 : x.req.place = y.req.place
    rotate_left
    · have HN : Hid (¬ x = y) := fun h => h6 (HE.out.1 h).2.2.2.2.2.1
      have e6 : (x.req.place == y.req.place) = false := Bool.eq_false_iff.2 (fun hb => h6 (by simpa using hb))
      clear h6
      go_wp2
      go_ret
      exact ⟨ret_bool (decide_eq_false HN.out).symm, HC.out⟩
    have e6 : (x.req.place == y.req.place) = true := by simpa using h6
    have H6 := Lib.hid h6
    clear h6
    by_cases h7 : x.req.key = y.req.key
    rotate_left
    · have HN : Hid (¬ x = y) := fun h => h7 (HE.out.1 h).2.2.2.2.2.2.1
      have e7' : (x.req.key == y.req.key) = false := Bool.eq_false_iff.2 (fun hb => h7 ((str_beq _ _).1 hb))
      have e7 : (x.req.key.toList == y.req.key.toList) = false := by rw [← beq_toListBytes]; exact e7'
      clear e7'
      clear h7
      go_wp2
      go_ret
      exact ⟨ret_bool (decide_eq_false HN.out).symm, HC.out⟩
    have e7' : (x.req.key == y.req.key) = true := (str_beq _ _).2 h7
    have e7 : (x.req.key.toList == y.req.key.toList) = true := by rw [← beq_toListBytes]; exact e7'
    clear e7'
    have H7 := Lib.hid h7
    clear h7
    by_cases h8 : x.req.to = y.req.to
    rotate_left
    · have HN : Hid (¬ x = y) := fun h => h8 (HE.out.1 h).2.2.2.2.2.2.2.1
      have e8' : (x.req.to == y.req.to) = false := Bool.eq_false_iff.2 (fun hb => h8 ((str_beq _ _).1 hb))
      have e8 : (x.req.to.toList == y.req.to.toList) = false := by rw [← beq_toListBytes]; exact e8'
      clear e8'
      clear h8
      go_wp2
      go_ret
      exact ⟨ret_bool (decide_eq_false HN.out).symm, HC.out⟩
    have e8' : (x.req.to == y.req.to) = true := (str_beq _ _).2 h8
    have e8 : (x.req.to.toList == y.req.to.toList) = true := by rw [← beq_toListBytes]; exact e8'
    clear e8'
    have H8 := Lib.hid h8
    clear h8
    by_cases h9 : x.req.value = y.req.value
    rotate_left
    · have HN : Hid (¬ x = y) := fun h => h9 (HE.out.1 h).2.2.2.2.2.2.2.2.1
      have e9 : (x.req.value == y.req.value) = false := Bool.eq_false_iff.2 (fun hb => h9 (by simpa using hb))
      clear h9
      go_wp2
      go_ret
      exact ⟨ret_bool (decide_eq_false HN.out).symm, HC.out⟩
    have e9 : (x.req.value == y.req.value) = true := by simpa using h9
    have H9 := Lib.hid h9
    clear h9
    by_cases h10 : x.req.limit = y.req.limit
    rotate_left
    · have HN : Hid (¬ x = y) := fun h => h10 (HE.out.1 h).2.2.2.2.2.2.2.2.2.1
      have e10 : (x.req.limit == y.req.limit) = false := Bool.eq_false_iff.2 (fun hb => h10 (by simpa using hb))
      clear h10
      go_wp2
      go_ret
      exact ⟨ret_bool (decide_eq_false HN.out).symm, HC.out⟩
    have e10 : (x.req.limit == y.req.limit) = true := by simpa using h10
    have H10 := Lib.hid h10
    clear h10
    by_cases h11 : x.strikes = y.strikes
    rotate_left
    · have HN : Hid (¬ x = y) := fun h => h11 (HE.out.1 h).2.2.2.2.2.2.2.2.2.2
      have e11 : (decide (x.strikes = y.strikes)) = false := Bool.eq_false_iff.2 (fun hb => h11 (by simpa using hb))
      clear h11
      go_wp2_with fail
      refine (HS.out _ HC.out).mono ?_
      rintro e w3 ⟨rfl, hc3⟩
      have C3 : Hid (Chg (fun _ => False) w w3) := HC.out.trans hc3 (fun _ _ h => h)
      clear hc3
      go_wp2
      go_ret
      exact ⟨ret_bool (decide_eq_false HN.out).symm, C3.out⟩
    have e11 : (decide (x.strikes = y.strikes)) = true := by simpa using h11
    have H11 := Lib.hid h11
    clear h11
    have HQ : Hid (x = y) := HE.out.2 ⟨H1.out, H2.out, H3.out, H4.out, H5.out, H6.out, H7.out, H8.out, H9.out, H10.out, H11.out⟩
    go_wp2_with fail
    refine (HS.out _ HC.out).mono ?_
    rintro e w3 ⟨rfl, hc3⟩
    have C3 : Hid (Chg (fun _ => False) w w3) := HC.out.trans hc3 (fun _ _ h => h)
    clear hc3
    go_wp2
    go_ret
    exact ⟨ret_bool (decide_eq_true HQ.out).symm, C3.out⟩
end Go.Proofs.Ytchlolgfahgdeaa.Ese
