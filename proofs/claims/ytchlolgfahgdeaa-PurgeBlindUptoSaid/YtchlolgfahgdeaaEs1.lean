/- Events compared by the program: Same$1 by contract. Conditions: what comes in reads so. -/
import Derived.Test.YtchlolgfahgdeaaEal
set_option linter.unusedVariables false
set_option linter.unusedSimpArgs false
namespace Go.Proofs.Ytchlolgfahgdeaa.Es1
open Go.RowKit Go.Proofs.Ytchlolgfahgdeaa.Lib1 Go.Proofs.Ytchlolgfahgdeaa.Rel Go.Proofs.Ytchlolgfahgdeaa.Own Go.Proofs.Ytchlolgfahgdeaa.Ev Go.Proofs.Ytchlolgfahgdeaa.Ek Go.Proofs.Ytchlolgfahgdeaa.Ec Go.Proofs.Ytchlolgfahgdeaa.Efe Go.Proofs.Ytchlolgfahgdeaa.Epe Go.Proofs.Ytchlolgfahgdeaa.Em Go.Proofs.Ytchlolgfahgdeaa.En Go.Proofs.Ytchlolgfahgdeaa.Lbw Go.Proofs.Ytchlolgfahgdeaa.Ebe Go.Proofs.Ytchlolgfahgdeaa.Eal

theorem ev_eq (x y : Ev) : x = y ↔ x.kind = y.kind ∧ x.session = y.session ∧ x.place = y.place ∧ x.req = y.req ∧ x.strikes = y.strikes := by
  obtain ⟨a, b, c, d, e⟩ := x
  obtain ⟨a', b', c', d', e'⟩ := y
  simp only [Ev.mk.injEq]
  exact ⟨fun ⟨a, b, c, d, e⟩ => ⟨a, b, d, c, e⟩, fun ⟨a, b, c, d, e⟩ => ⟨a, b, d, c, e⟩⟩
set_option maxRecDepth 100000 in
set_option maxHeartbeats 3200000 in
theorem same1_any {ok : Nat → Prop} {w : World} (x y : Ev) (A B C D : Option Addr) (c1 c2 c3 c4 : Nat) (hok : ∀ k, ok k → k < w.heap.size)
    (hx : bytesK.rel ok w x.req.value [.slice A x.req.value.length c1]) (hy : bytesK.rel ok w y.req.value [.slice B y.req.value.length c2]) (hs : strikesK.rel ok w x.strikes [.slice C x.strikes.length c3]) (ht : strikesK.rel ok w y.strikes [.slice D y.strikes.length c4])
    (hf : strikesK.fits x.strikes) (hg : strikesK.fits y.strikes) :
    Calls Try.prog 49 #[.agg (evCs x (.slice A x.req.value.length c1) (.slice C x.strikes.length c3)).toArray, .agg (evCs y (.slice B y.req.value.length c2) (.slice D y.strikes.length c4)).toArray] w fun e w' => e = .returned (.bool (decide (x = y))) ∧ Chg (fun _ => False) w w' := by
  have HB : Hid (∀ w', Chg (fun _ => False) w w' → Calls Try.prog 50 #[.agg (reqCs x.req (.slice A x.req.value.length c1)).toArray, .agg (reqCs y.req (.slice B y.req.value.length c2)).toArray] w' fun e w1 => e = .returned (.bool (decide (x.req = y.req))) ∧ Chg (fun _ => False) w' w1) :=
    fun w' hc => alike_any x.req y.req A B _ _ c1 c2 (fun k hk => Nat.lt_of_lt_of_le (hok k hk) hc.size) (bytesK.move (fun k hk => hc.block k (hok k hk) (fun h => h)) hx) (bytesK.move (fun k hk => hc.block k (hok k hk) (fun h => h)) hy)
  have HS : Hid (∀ w', Chg (fun _ => False) w w' → Calls Try.prog 51 #[.slice C x.strikes.length c3, .slice D y.strikes.length c4, .func (.func 52) #[] #[]] w' fun e w1 => e = .returned (.bool (decide (x.strikes = y.strikes))) ∧ Chg (fun _ => False) w' w1) :=
    fun w' hc => equalf_strikes x.strikes y.strikes C D _ _ c3 c4 (strikesK.move (fun k hk => hc.block k (hok k hk) (fun h => h)) hs) (strikesK.move (fun k hk => hc.block k (hok k hk) (fun h => h)) ht) (fun k hk => Nat.lt_of_lt_of_le (hok k hk) hc.size) hf hg
  have HE := Lib.hid (ev_eq x y)
  clear hx hy hs ht hok hf hg
  obtain ⟨X, hX⟩ : ∃ X : Array Value, X = (evCs x (.slice A x.req.value.length c1) (.slice C x.strikes.length c3)).toArray := ⟨_, rfl⟩
  obtain ⟨Y, hY⟩ : ∃ Y : Array Value, Y = (evCs y (.slice B y.req.value.length c2) (.slice D y.strikes.length c4)).toArray := ⟨_, rfl⟩
  have C2 : Hid (Chg (fun _ => False) w ((w.alloc (.cells X 37)).alloc (.cells Y 37))) := ((Chg.refl _ w).alloc _).alloc _
  rw [hX, hY] at C2
  clear hX hY
  simp only [evCs, reqCs] at *
  go_enter Try.func49, Try.ntmps49
  by_cases h1 : x.kind = y.kind
  rotate_left
  · have HN : Hid (¬ x = y) := fun h => h1 (HE.out.1 h).1
    have e1 : (x.kind == y.kind) = false := Bool.eq_false_iff.2 (fun hb => h1 (by simpa using hb))
    clear h1
    go_wp2
    go_ret
    exact ⟨ret_bool (decide_eq_false HN.out).symm, C2.out⟩
  have e1 : (x.kind == y.kind) = true := by simpa using h1
  have H1 := Lib.hid h1
  clear h1
  by_cases h2 : x.session = y.session
  rotate_left
  · have HN : Hid (¬ x = y) := fun h => h2 (HE.out.1 h).2.1
    have e2 : (x.session == y.session) = false := Bool.eq_false_iff.2 (fun hb => h2 (by simpa using hb))
    clear h2
    go_wp2
    go_ret
    exact ⟨ret_bool (decide_eq_false HN.out).symm, C2.out⟩
  have e2 : (x.session == y.session) = true := by simpa using h2
  have H2 := Lib.hid h2
  clear h2
  by_cases h3 : x.place = y.place
  rotate_left
  · have HN : Hid (¬ x = y) := fun h => h3 (HE.out.1 h).2.2.1
    have e3 : (x.place == y.place) = false := Bool.eq_false_iff.2 (fun hb => h3 (by simpa using hb))
    clear h3
    go_wp2
    go_ret
    exact ⟨ret_bool (decide_eq_false HN.out).symm, C2.out⟩
  have e3 : (x.place == y.place) = true := by simpa using h3
  have H3 := Lib.hid h3
  clear h3
  by_cases h4 : x.req = y.req
  rotate_left
  · have HN : Hid (¬ x = y) := fun h => h4 (HE.out.1 h).2.2.2.1
    have e4 : (decide (x.req = y.req)) = false := Bool.eq_false_iff.2 (fun hb => h4 (by simpa using hb))
    clear h4
    go_wp2_with fail
    refine (HB.out _ C2.out).mono ?_
    rintro e w3 ⟨rfl, hc3⟩
    have C3 : Hid (Chg (fun _ => False) w w3) := C2.out.trans hc3 (fun _ _ h => h)
    clear hc3
    go_wp2
    go_ret
    exact ⟨ret_bool (decide_eq_false HN.out).symm, C3.out⟩
  have e4 : (decide (x.req = y.req)) = true := by simpa using h4
  have H4 := Lib.hid h4
  clear h4
  by_cases h5 : x.strikes = y.strikes
  rotate_left
  · have HN : Hid (¬ x = y) := fun h => h5 (HE.out.1 h).2.2.2.2
    have e5 : (decide (x.strikes = y.strikes)) = false := Bool.eq_false_iff.2 (fun hb => h5 (by simpa using hb))
    clear h5
    go_wp2_with fail
    refine (HB.out _ C2.out).mono ?_
    rintro e w3 ⟨rfl, hc3⟩
    have C3 : Hid (Chg (fun _ => False) w w3) := C2.out.trans hc3 (fun _ _ h => h)
    have z0 := hc3.at_ (heap_old _ (heap_new w _)) (fun h => h)
    have z1 := hc3.at_ (k := w.heap.size + 1) (by rw [show w.heap.size + 1 = (w.alloc (.cells #[.int .i64 x.kind, .int .i64 x.session, .int .i64 x.req.kind, .int .i64 x.req.life, .int .i64 x.req.number, .int .i64 x.req.place, .string x.req.key, .string x.req.to, .slice A x.req.value.length c1, .int .i64 x.req.limit, .int .i64 x.place, .slice C x.strikes.length c3] 37)).heap.size by simp]; exact heap_new _ _) (fun h => h)
    have k0 := cell_at z0 11 rfl
    have k1 := cell_at z1 11 rfl
    clear z0 z1 hc3
    go_wp2_with fail
    refine (HS.out _ C3.out).mono ?_
    rintro e w4 ⟨rfl, hc4⟩
    have C4 : Hid (Chg (fun _ => False) w w4) := C3.out.trans hc4 (fun _ _ h => h)
    clear hc4 k0 k1
    go_wp2
    go_ret
    exact ⟨ret_bool (decide_eq_false HN.out).symm, C4.out⟩
  have e5 : (decide (x.strikes = y.strikes)) = true := by simpa using h5
  have H5 := Lib.hid h5
  clear h5
  have HQ : Hid (x = y) := HE.out.2 ⟨H1.out, H2.out, H3.out, H4.out, H5.out⟩
  go_wp2_with fail
  refine (HB.out _ C2.out).mono ?_
  rintro e w3 ⟨rfl, hc3⟩
  have C3 : Hid (Chg (fun _ => False) w w3) := C2.out.trans hc3 (fun _ _ h => h)
  have z0 := hc3.at_ (heap_old _ (heap_new w _)) (fun h => h)
  have z1 := hc3.at_ (k := w.heap.size + 1) (by rw [show w.heap.size + 1 = (w.alloc (.cells #[.int .i64 x.kind, .int .i64 x.session, .int .i64 x.req.kind, .int .i64 x.req.life, .int .i64 x.req.number, .int .i64 x.req.place, .string x.req.key, .string x.req.to, .slice A x.req.value.length c1, .int .i64 x.req.limit, .int .i64 x.place, .slice C x.strikes.length c3] 37)).heap.size by simp]; exact heap_new _ _) (fun h => h)
  have k0 := cell_at z0 11 rfl
  have k1 := cell_at z1 11 rfl
  clear z0 z1 hc3
  go_wp2_with fail
  refine (HS.out _ C3.out).mono ?_
  rintro e w4 ⟨rfl, hc4⟩
  have C4 : Hid (Chg (fun _ => False) w w4) := C3.out.trans hc4 (fun _ _ h => h)
  clear hc4 k0 k1
  go_wp2
  go_ret
  exact ⟨ret_bool (decide_eq_true HQ.out).symm, C4.out⟩
end Go.Proofs.Ytchlolgfahgdeaa.Es1
