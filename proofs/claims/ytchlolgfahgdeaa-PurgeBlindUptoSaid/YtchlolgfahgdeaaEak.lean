/- awake answers true. Conditions: none. -/
import Derived.Test.YtchlolgfahgdeaaEad
import Derived.KernelRfl
set_option linter.unusedVariables false
set_option linter.unusedSimpArgs false
namespace Go.Proofs.Ytchlolgfahgdeaa.Eak
open Go.RowKit Go.Proofs.Ytchlolgfahgdeaa.Lib1 Go.Proofs.Ytchlolgfahgdeaa.Rel Go.Proofs.Ytchlolgfahgdeaa.Own Go.Proofs.Ytchlolgfahgdeaa.Ev Go.Proofs.Ytchlolgfahgdeaa.Ek Go.Proofs.Ytchlolgfahgdeaa.Ec Go.Proofs.Ytchlolgfahgdeaa.Em Go.Proofs.Ytchlolgfahgdeaa.En Go.Proofs.Ytchlolgfahgdeaa.Lat Go.Proofs.Ytchlolgfahgdeaa.Lbl Go.Proofs.Ytchlolgfahgdeaa.Lbw Go.Proofs.Ytchlolgfahgdeaa.Lck Go.Proofs.Ytchlolgfahgdeaa.Lmay Go.Proofs.Ytchlolgfahgdeaa.Rgn Go.Proofs.Ytchlolgfahgdeaa.Rgs Go.Proofs.Ytchlolgfahgdeaa.Eaw Go.Proofs.Ytchlolgfahgdeaa.Esq Go.Proofs.Ytchlolgfahgdeaa.Epo Go.Proofs.Ytchlolgfahgdeaa.Ess Go.Proofs.Ytchlolgfahgdeaa.Ead

abbrev tickB : Obj := .cells (bareCs tickE).toArray 37 (0, 0)
set_option maxRecDepth 100000 in
set_option maxHeartbeats 12800000 in
theorem awake_any (w : World) : Calls Try.prog 14 #[] w fun e w' => e = .returned (.bool true) ∧ Chg (fun _ => False) w w' := by
  have HB : Hid (∀ w', Chg (fun _ => False) (w.alloc tickB) w' → w'.heap[w.heap.size]? = some tickB) := fun w' hc => hc.at_ (heap_new w _) (fun h => h)
  go_enter Try.func14, Try.ntmps14
  go_wp2_with fail
  refine wp_region_soft (notes [nCfg, .eq (bareV (askE 0)), .eq (bareV (askE 2)), .eq (bareV (askE 1)), .eq (bareV tickE), .eq (bareV (askE 3)), .eq (bareV vacE), nEvs inL, nEvs outL, nEvs outL]) (by kernel_rfl) (by kernel_rfl) (by kernel_rfl) (notes_st _) ?_
  refine soft_one (some 5) rfl CfgV (by kernel_rfl) (by kernel_rfl) (fun w1 hc hk => ?_) (fun v0 w1 hc hv => ?_)
  · exact soft_call (args := #[]) Try.func33 (by kernel_rfl) (by kernel_rfl) rfl (by kernel_rfl) (c_square)
  clear hv
  clear hc w1
  refine soft_one (some 6) rfl (Note.eq (bareV (askE 0))).f (by kernel_rfl) (by kernel_rfl) (fun w1 hc hk => ?_) (fun v1 w1 hc hv => ?_)
  · exact soft_call (args := #[.int .i64 0]) Try.func34 (by kernel_rfl) (by kernel_rfl) rfl (by kernel_rfl) (c_ask 0)
  obtain rfl : v1 = _ := hv
  clear hc w1
  refine soft_one (some 7) rfl (Note.eq (bareV (askE 2))).f (by kernel_rfl) (by kernel_rfl) (fun w1 hc hk => ?_) (fun v2 w1 hc hv => ?_)
  · exact soft_call (args := #[.int .i64 2]) Try.func34 (by kernel_rfl) (by kernel_rfl) rfl (by kernel_rfl) (c_ask 2)
  obtain rfl : v2 = _ := hv
  clear hc w1
  refine soft_one (some 8) rfl (Note.eq (bareV (askE 1))).f (by kernel_rfl) (by kernel_rfl) (fun w1 hc hk => ?_) (fun v3 w1 hc hv => ?_)
  · exact soft_call (args := #[.int .i64 1]) Try.func34 (by kernel_rfl) (by kernel_rfl) rfl (by kernel_rfl) (c_ask 1)
  obtain rfl : v3 = _ := hv
  clear hc w1
  refine soft_one (some 9) rfl (Note.eq (bareV tickE)).f (by kernel_rfl) (by kernel_rfl) (fun w1 hc hk => ?_) (fun v4 w1 hc hv => ?_)
  · obtain ⟨p0, p1, p2, p3, p4, p5, p6, p7, p8, p9, p10, p11⟩ := cells12 (HB.out _ hc); refine soft_at (w1 := w1) (u := bareV tickE) (fun ρ => ρ (.tmp 1) = .pointer (some ⟨w.heap.size, 0, none⟩)) (by kernel_rfl) (fun ρ hρ => ?_) (Chg.refl _ _) rfl; go_simp; try rfl
  obtain rfl : v4 = _ := hv
  clear hc w1
  refine soft_one (some 10) rfl (Note.eq (bareV (askE 3))).f (by kernel_rfl) (by kernel_rfl) (fun w1 hc hk => ?_) (fun v5 w1 hc hv => ?_)
  · exact soft_call (args := #[.int .i64 3]) Try.func34 (by kernel_rfl) (by kernel_rfl) rfl (by kernel_rfl) (c_ask 3)
  obtain rfl : v5 = _ := hv
  clear hc w1
  refine soft_one (some 11) rfl (Note.eq (bareV vacE)).f (by kernel_rfl) (by kernel_rfl) (fun w1 hc hk => ?_) (fun v6 w1 hc hv => ?_)
  · refine soft_at (w1 := w1) (u := .agg #[.int .i64 3, .int .i64 0, .int .i64 0, .int .i64 0, .int .i64 0, .int .i64 0, .string ⟨#[]⟩, .string ⟨#[]⟩, .slice none 0 0, .int .i64 0, .int .i64 2, .slice none 0 0]) (fun ρ => ∀ v, ρ (.const v) = v) (fun v => rfl) (fun ρ hρ => ?_) (Chg.refl _ _) rfl; go_simp
  obtain rfl : v6 = _ := hv
  clear hc w1
  refine soft_one (some 12) rfl (nEvs inL).f (by kernel_rfl) (by kernel_rfl) (fun w1 hc hk => ?_) (fun v7 w1 hc hv => ?_)
  · refine soft_at (w1 := w1.alloc (.cells (inL.flatMap bareCs).toArray 37)) (u := .slice (some ⟨w1.heap.size, 0, none⟩) inL.length inL.length) (fun ρ => ρ (.tmp 6) = bareV (askE 0) ∧ ρ (.tmp 7) = bareV (askE 2) ∧ ρ (.tmp 8) = bareV (askE 1) ∧ ρ (.tmp 9) = bareV tickE ∧ ρ (.tmp 10) = bareV (askE 3) ∧ ρ (.tmp 11) = bareV vacE) ⟨by kernel_rfl, by kernel_rfl, by kernel_rfl, by kernel_rfl, by kernel_rfl, by kernel_rfl⟩ (fun ρ hρ => ?_) ((Chg.refl _ _).alloc _) (bare_evs (l := inL) (heap_new _ _) bare_inL); (obtain ⟨g6, g7, g8, g9, g10, g11⟩ := hρ; go_simp; try rfl)
  clear hv
  clear hc w1
  refine soft_one (some 13) rfl (nEvs outL).f (by kernel_rfl) (by kernel_rfl) (fun w1 hc hk => ?_) (fun v8 w1 hc hv => ?_)
  · exact soft_call (args := #[v0, .int .i64 1, v7]) Try.func19 (by kernel_rfl) (by kernel_rfl) rfl (by kernel_rfl) (by have := c_purge 1 (known_at hk 0 CfgV v0 (by kernel_rfl) (by kernel_rfl) (by kernel_rfl)) (known_at hk 7 (nEvs inL).f v7 (by kernel_rfl) (by kernel_rfl) (by kernel_rfl)) fits_inL; rwa [purge_outL] at this)
  clear hv
  clear hc w1
  refine soft_one (some 2) rfl (nEvs outL).f (by kernel_rfl) (by kernel_rfl) (fun w1 hc hk => ?_) (fun v9 w1 hc hv => ?_)
  · exact soft_assign (.tmp 13) rfl v8 (by kernel_rfl) (known_at hk 8 (nEvs outL).f v8 (by kernel_rfl) (by kernel_rfl) (by kernel_rfl))
  clear hv
  clear hc w1
  intro w2 hc2 hn2
  have hn9 : (nEvs outL).f v9 w2 := note_at hn2 9 (nEvs outL).f v9 (by kernel_rfl) (by kernel_rfl) (by decide)
  have HC2 : Hid (Chg (fun _ => False) (w.alloc tickB) w2) := hc2
  have HN9 : Hid ((nEvs outL).f v9 w2) := hn9
  clear hn2 hc2 hn9
  go_wp2_with fail
  refine c_square.mono ?_
  rintro e w3 ⟨v14, rfl, hc3, hC3⟩
  have HC3 : Hid (Chg (fun _ => False) (w.alloc tickB) w3) := HC2.out.trans hc3 (fun _ _ h => h)
  have HN9' : Hid ((nEvs outL).f v9 w3) := (nEvs outL).st _ _ _ hc3 HN9.out
  have HD3 : Hid (CfgV v14 w3) := hC3
  clear hc3 hC3
  go_wp2_with fail
  refine (c_ask 0).mono ?_
  rintro e w4 ⟨_, rfl, hc4, rfl⟩
  have HC4 : Hid (Chg (fun _ => False) (w.alloc tickB) w4) := HC3.out.trans hc4 (fun _ _ h => h)
  have HN9 : Hid ((nEvs outL).f v9 w4) := (nEvs outL).st _ _ _ hc4 HN9'.out
  have HD4 : Hid (CfgV v14 w4) := nCfg.st _ _ _ hc4 HD3.out
  clear hc4
  go_wp2_with fail
  refine (c_still (l := inS) (nCfg.st _ _ _ ((Chg.refl _ w4).alloc _) HD4.out) (bare_evs (l := inS) (heap_new _ _) bare_inS) fits_inS).mono ?_
  rintro e w5 ⟨v18, rfl, hc5, hn5⟩
  rw [still_outS] at hn5
  have HC5 : Hid (Chg (fun _ => False) (w.alloc tickB) w5) := (HC4.out.alloc _).trans hc5 (fun _ _ h => h)
  have HL5 : Hid ((nEvs outL).f v9 w5) := (nEvs outL).st _ _ _ (((Chg.refl _ w4).alloc _).trans hc5 (fun _ _ h => h)) HN9.out
  have HS5 : Hid ((nEvs outS).f v18 w5) := hn5
  clear hc5 hn5
  go_wp2_with fail
  refine wp_region_soft (notes [nEvs outL, .eq (bareV (askE 0)), .eq (bareV (askE 1)), .eq (bareV tickE), .eq (bareV idleE), nEvs outL, .eq (.bool true), .eq (.bool true), nEvs outS, .eq (bareV idleE), .eq (bareV (askE 0)), nEvs outS, .eq (.bool true), .eq (.bool true), .eq (.bool true), nCfg, .eq (bareV tickE), .eq (.bool true), .eq (.bool true), .eq (.bool true), nCfg, .eq (bareV (askE 4)), .eq (.bool false), .eq (.bool true), .eq (.bool true), .eq (.bool true), nEvs outL, nEvs outL, nEvs outL, .eq (.bool true), .eq (.bool true), .eq (.bool true), nEvs outL, nEvs outS, .eq (.bool false), .eq (.bool true), .eq (.bool true), .eq (.bool true)]) (by kernel_rfl) (by kernel_rfl) (by kernel_rfl) (notes_st _) ?_
  refine soft_one (some 19) rfl (nEvs outL).f (by kernel_rfl) (by kernel_rfl) (fun w1 hc hk => ?_) (fun x0 w1 hc hv => ?_)
  · exact soft_move (.tmp 2) rfl v9 (by kernel_rfl) ((nEvs outL).st _ _ _ hc HL5.out)
  clear hv
  clear hc w1
  refine soft_one (some 20) rfl (Note.eq (bareV (askE 0))).f (by kernel_rfl) (by kernel_rfl) (fun w1 hc hk => ?_) (fun x1 w1 hc hv => ?_)
  · exact soft_call (args := #[.int .i64 0]) Try.func34 (by kernel_rfl) (by kernel_rfl) rfl (by kernel_rfl) (c_ask 0)
  obtain rfl : x1 = _ := hv
  clear hc w1
  refine soft_one (some 21) rfl (Note.eq (bareV (askE 1))).f (by kernel_rfl) (by kernel_rfl) (fun w1 hc hk => ?_) (fun x2 w1 hc hv => ?_)
  · exact soft_call (args := #[.int .i64 1]) Try.func34 (by kernel_rfl) (by kernel_rfl) rfl (by kernel_rfl) (c_ask 1)
  obtain rfl : x2 = _ := hv
  clear hc w1
  refine soft_one (some 22) rfl (Note.eq (bareV tickE)).f (by kernel_rfl) (by kernel_rfl) (fun w1 hc hk => ?_) (fun x3 w1 hc hv => ?_)
  · obtain ⟨p0, p1, p2, p3, p4, p5, p6, p7, p8, p9, p10, p11⟩ := cells12 (HB.out _ (HC5.out.trans hc (fun _ _ h => h))); refine soft_at (w1 := w1) (u := bareV tickE) (fun ρ => ρ (.tmp 1) = .pointer (some ⟨w.heap.size, 0, none⟩)) (by kernel_rfl) (fun ρ hρ => ?_) (Chg.refl _ _) rfl; go_simp; try rfl
  obtain rfl : x3 = _ := hv
  clear hc w1
  refine soft_one (some 23) rfl (Note.eq (bareV idleE)).f (by kernel_rfl) (by kernel_rfl) (fun w1 hc hk => ?_) (fun x4 w1 hc hv => ?_)
  · refine soft_at (w1 := w1) (u := .agg #[.int .i64 5, .int .i64 0, .int .i64 0, .int .i64 0, .int .i64 0, .int .i64 0, .string ⟨#[]⟩, .string ⟨#[]⟩, .slice none 0 0, .int .i64 0, .int .i64 0, .slice none 0 0]) (fun ρ => ∀ v, ρ (.const v) = v) (fun v => rfl) (fun ρ hρ => ?_) (Chg.refl _ _) rfl; go_simp
  obtain rfl : x4 = _ := hv
  clear hc w1
  refine soft_one (some 24) rfl (nEvs outL).f (by kernel_rfl) (by kernel_rfl) (fun w1 hc hk => ?_) (fun x5 w1 hc hv => ?_)
  · refine soft_at (w1 := w1.alloc (.cells (outL.flatMap bareCs).toArray 37)) (u := .slice (some ⟨w1.heap.size, 0, none⟩) outL.length outL.length) (fun ρ => ρ (.tmp 20) = bareV (askE 0) ∧ ρ (.tmp 21) = bareV (askE 1) ∧ ρ (.tmp 22) = bareV tickE ∧ ρ (.tmp 23) = bareV idleE) ⟨by kernel_rfl, by kernel_rfl, by kernel_rfl, by kernel_rfl⟩ (fun ρ hρ => ?_) ((Chg.refl _ _).alloc _) (bare_evs (l := outL) (heap_new _ _) bare_outL); (obtain ⟨g20, g21, g22, g23⟩ := hρ; go_simp; try rfl)
  clear hv
  clear hc w1
  refine soft_one (some 25) rfl (Note.eq (.bool true)).f (by kernel_rfl) (by kernel_rfl) (fun w1 hc hk => ?_) (fun x6 w1 hc hv => ?_)
  · exact soft_call (args := #[x0, x5]) Try.func18 (by kernel_rfl) (by kernel_rfl) rfl (by kernel_rfl) (by have := c_rsame (known_at hk 0 (nEvs outL).f x0 (by kernel_rfl) (by kernel_rfl) (by kernel_rfl)) (known_at hk 5 (nEvs outL).f x5 (by kernel_rfl) (by kernel_rfl) (by kernel_rfl)) fits_outL fits_outL; rwa [show decide (outL = outL) = true from by simp] at this)
  obtain rfl : x6 = _ := hv
  clear hc w1
  refine soft_one (some 26) rfl (Note.eq (.bool true)).f (by kernel_rfl) (by kernel_rfl) (fun w1 hc hk => ?_) (fun x7 w1 hc hv => ?_)
  · exact soft_move (.tmp 25) rfl (.bool true) (by kernel_rfl) rfl
  obtain rfl : x7 = _ := hv
  clear hc w1
  refine soft_one (some 27) rfl (nEvs outS).f (by kernel_rfl) (by kernel_rfl) (fun w1 hc hk => ?_) (fun x8 w1 hc hv => ?_)
  · exact soft_move (.tmp 3) rfl v18 (by kernel_rfl) ((nEvs outS).st _ _ _ hc HS5.out)
  clear hv
  clear hc w1
  refine soft_one (some 28) rfl (Note.eq (bareV idleE)).f (by kernel_rfl) (by kernel_rfl) (fun w1 hc hk => ?_) (fun x9 w1 hc hv => ?_)
  · refine soft_at (w1 := w1) (u := .agg #[.int .i64 5, .int .i64 0, .int .i64 0, .int .i64 0, .int .i64 0, .int .i64 0, .string ⟨#[]⟩, .string ⟨#[]⟩, .slice none 0 0, .int .i64 0, .int .i64 0, .slice none 0 0]) (fun ρ => ∀ v, ρ (.const v) = v) (fun v => rfl) (fun ρ hρ => ?_) (Chg.refl _ _) rfl; go_simp
  obtain rfl : x9 = _ := hv
  clear hc w1
  refine soft_one (some 29) rfl (Note.eq (bareV (askE 0))).f (by kernel_rfl) (by kernel_rfl) (fun w1 hc hk => ?_) (fun x10 w1 hc hv => ?_)
  · exact soft_call (args := #[.int .i64 0]) Try.func34 (by kernel_rfl) (by kernel_rfl) rfl (by kernel_rfl) (c_ask 0)
  obtain rfl : x10 = _ := hv
  clear hc w1
  refine soft_one (some 30) rfl (nEvs outS).f (by kernel_rfl) (by kernel_rfl) (fun w1 hc hk => ?_) (fun x11 w1 hc hv => ?_)
  · refine soft_at (w1 := w1.alloc (.cells (outS.flatMap bareCs).toArray 37)) (u := .slice (some ⟨w1.heap.size, 0, none⟩) outS.length outS.length) (fun ρ => ρ (.tmp 28) = bareV idleE ∧ ρ (.tmp 29) = bareV (askE 0)) ⟨by kernel_rfl, by kernel_rfl⟩ (fun ρ hρ => ?_) ((Chg.refl _ _).alloc _) (bare_evs (l := outS) (heap_new _ _) bare_outS); (obtain ⟨g28, g29⟩ := hρ; go_simp; try rfl)
  clear hv
  clear hc w1
  refine soft_one (some 31) rfl (Note.eq (.bool true)).f (by kernel_rfl) (by kernel_rfl) (fun w1 hc hk => ?_) (fun x12 w1 hc hv => ?_)
  · exact soft_call (args := #[x8, x11]) Try.func18 (by kernel_rfl) (by kernel_rfl) rfl (by kernel_rfl) (by have := c_rsame (known_at hk 8 (nEvs outS).f x8 (by kernel_rfl) (by kernel_rfl) (by kernel_rfl)) (known_at hk 11 (nEvs outS).f x11 (by kernel_rfl) (by kernel_rfl) (by kernel_rfl)) fits_outS fits_outS; rwa [show decide (outS = outS) = true from by simp] at this)
  obtain rfl : x12 = _ := hv
  clear hc w1
  refine soft_one (some 32) rfl (Note.eq (.bool true)).f (by kernel_rfl) (by kernel_rfl) (fun w1 hc hk => ?_) (fun x13 w1 hc hv => ?_)
  · refine soft_at (w1 := w1) (u := .bool true) (fun ρ => ρ (.tmp 26) = .bool true ∧ ρ (.tmp 31) = .bool true) ⟨by kernel_rfl, by kernel_rfl⟩ (fun ρ hρ => ?_) (Chg.refl _ _) rfl; (obtain ⟨g1, g2⟩ := hρ; go_simp)
  obtain rfl : x13 = _ := hv
  clear hc w1
  refine soft_one (some 33) rfl (Note.eq (.bool true)).f (by kernel_rfl) (by kernel_rfl) (fun w1 hc hk => ?_) (fun x14 w1 hc hv => ?_)
  · exact soft_move (.tmp 32) rfl (.bool true) (by kernel_rfl) rfl
  obtain rfl : x14 = _ := hv
  clear hc w1
  refine soft_one (some 34) rfl CfgV (by kernel_rfl) (by kernel_rfl) (fun w1 hc hk => ?_) (fun x15 w1 hc hv => ?_)
  · exact soft_call (args := #[]) Try.func33 (by kernel_rfl) (by kernel_rfl) rfl (by kernel_rfl) (c_square)
  clear hv
  clear hc w1
  refine soft_one (some 35) rfl (Note.eq (bareV tickE)).f (by kernel_rfl) (by kernel_rfl) (fun w1 hc hk => ?_) (fun x16 w1 hc hv => ?_)
  · obtain ⟨p0, p1, p2, p3, p4, p5, p6, p7, p8, p9, p10, p11⟩ := cells12 (HB.out _ (HC5.out.trans hc (fun _ _ h => h))); refine soft_at (w1 := w1) (u := bareV tickE) (fun ρ => ρ (.tmp 1) = .pointer (some ⟨w.heap.size, 0, none⟩)) (by kernel_rfl) (fun ρ hρ => ?_) (Chg.refl _ _) rfl; go_simp; try rfl
  obtain rfl : x16 = _ := hv
  clear hc w1
  refine soft_one (some 36) rfl (Note.eq (.bool true)).f (by kernel_rfl) (by kernel_rfl) (fun w1 hc hk => ?_) (fun x17 w1 hc hv => ?_)
  · exact soft_call (args := #[x15, bareV tickE]) Try.func15 (by kernel_rfl) (by kernel_rfl) rfl (by kernel_rfl) (by have := c_may (x := tickE) (known_at hk 15 CfgV x15 (by kernel_rfl) (by kernel_rfl) (by kernel_rfl)); rwa [may_tick] at this)
  obtain rfl : x17 = _ := hv
  clear hc w1
  refine soft_one (some 37) rfl (Note.eq (.bool true)).f (by kernel_rfl) (by kernel_rfl) (fun w1 hc hk => ?_) (fun x18 w1 hc hv => ?_)
  · refine soft_at (w1 := w1) (u := .bool true) (fun ρ => ρ (.tmp 33) = .bool true ∧ ρ (.tmp 36) = .bool true) ⟨by kernel_rfl, by kernel_rfl⟩ (fun ρ hρ => ?_) (Chg.refl _ _) rfl; (obtain ⟨g1, g2⟩ := hρ; go_simp)
  obtain rfl : x18 = _ := hv
  clear hc w1
  refine soft_one (some 38) rfl (Note.eq (.bool true)).f (by kernel_rfl) (by kernel_rfl) (fun w1 hc hk => ?_) (fun x19 w1 hc hv => ?_)
  · exact soft_move (.tmp 37) rfl (.bool true) (by kernel_rfl) rfl
  obtain rfl : x19 = _ := hv
  clear hc w1
  refine soft_one (some 39) rfl CfgV (by kernel_rfl) (by kernel_rfl) (fun w1 hc hk => ?_) (fun x20 w1 hc hv => ?_)
  · exact soft_call (args := #[]) Try.func33 (by kernel_rfl) (by kernel_rfl) rfl (by kernel_rfl) (c_square)
  clear hv
  clear hc w1
  refine soft_one (some 40) rfl (Note.eq (bareV (askE 4))).f (by kernel_rfl) (by kernel_rfl) (fun w1 hc hk => ?_) (fun x21 w1 hc hv => ?_)
  · exact soft_call (args := #[.int .i64 4]) Try.func34 (by kernel_rfl) (by kernel_rfl) rfl (by kernel_rfl) (c_ask 4)
  obtain rfl : x21 = _ := hv
  clear hc w1
  refine soft_one (some 41) rfl (Note.eq (.bool false)).f (by kernel_rfl) (by kernel_rfl) (fun w1 hc hk => ?_) (fun x22 w1 hc hv => ?_)
  · exact soft_call (args := #[x20, bareV (askE 4)]) Try.func15 (by kernel_rfl) (by kernel_rfl) rfl (by kernel_rfl) (by have := c_may (x := askE 4) (known_at hk 20 CfgV x20 (by kernel_rfl) (by kernel_rfl) (by kernel_rfl)); rwa [may_ask4] at this)
  obtain rfl : x22 = _ := hv
  clear hc w1
  refine soft_one (some 42) rfl (Note.eq (.bool true)).f (by kernel_rfl) (by kernel_rfl) (fun w1 hc hk => ?_) (fun x23 w1 hc hv => ?_)
  · refine soft_at (w1 := w1) (u := .bool true) (fun ρ => ρ (.tmp 41) = .bool false) (by kernel_rfl) (fun ρ hρ => ?_) (Chg.refl _ _) rfl; go_simp
  obtain rfl : x23 = _ := hv
  clear hc w1
  refine soft_one (some 43) rfl (Note.eq (.bool true)).f (by kernel_rfl) (by kernel_rfl) (fun w1 hc hk => ?_) (fun x24 w1 hc hv => ?_)
  · refine soft_at (w1 := w1) (u := .bool true) (fun ρ => ρ (.tmp 38) = .bool true ∧ ρ (.tmp 42) = .bool true) ⟨by kernel_rfl, by kernel_rfl⟩ (fun ρ hρ => ?_) (Chg.refl _ _) rfl; (obtain ⟨g1, g2⟩ := hρ; go_simp)
  obtain rfl : x24 = _ := hv
  clear hc w1
  refine soft_one (some 44) rfl (Note.eq (.bool true)).f (by kernel_rfl) (by kernel_rfl) (fun w1 hc hk => ?_) (fun x25 w1 hc hv => ?_)
  · exact soft_move (.tmp 43) rfl (.bool true) (by kernel_rfl) rfl
  obtain rfl : x25 = _ := hv
  clear hc w1
  refine soft_one (some 45) rfl (nEvs outL).f (by kernel_rfl) (by kernel_rfl) (fun w1 hc hk => ?_) (fun x26 w1 hc hv => ?_)
  · exact soft_move (.tmp 2) rfl v9 (by kernel_rfl) ((nEvs outL).st _ _ _ hc HL5.out)
  clear hv
  clear hc w1
  refine soft_one (some 46) rfl (nEvs outL).f (by kernel_rfl) (by kernel_rfl) (fun w1 hc hk => ?_) (fun x27 w1 hc hv => ?_)
  · exact soft_move (.tmp 2) rfl v9 (by kernel_rfl) ((nEvs outL).st _ _ _ hc HL5.out)
  clear hv
  clear hc w1
  refine soft_one (some 47) rfl (nEvs outL).f (by kernel_rfl) (by kernel_rfl) (fun w1 hc hk => ?_) (fun x28 w1 hc hv => ?_)
  · exact soft_call (args := #[x27]) Try.func20 (by kernel_rfl) (by kernel_rfl) rfl (by kernel_rfl) (c_copies (known_at hk 27 (nEvs outL).f x27 (by kernel_rfl) (by kernel_rfl) (by kernel_rfl)) fits_outL)
  clear hv
  clear hc w1
  refine soft_one (some 48) rfl (Note.eq (.bool true)).f (by kernel_rfl) (by kernel_rfl) (fun w1 hc hk => ?_) (fun x29 w1 hc hv => ?_)
  · exact soft_call (args := #[x26, x28]) Try.func24 (by kernel_rfl) (by kernel_rfl) rfl (by kernel_rfl) (by have := c_psame (known_at hk 26 (nEvs outL).f x26 (by kernel_rfl) (by kernel_rfl) (by kernel_rfl)) (known_at hk 28 (nEvs outL).f x28 (by kernel_rfl) (by kernel_rfl) (by kernel_rfl)) fits_outL fits_outL; rwa [show decide (outL = outL) = true from by simp] at this)
  obtain rfl : x29 = _ := hv
  clear hc w1
  refine soft_one (some 49) rfl (Note.eq (.bool true)).f (by kernel_rfl) (by kernel_rfl) (fun w1 hc hk => ?_) (fun x30 w1 hc hv => ?_)
  · refine soft_at (w1 := w1) (u := .bool true) (fun ρ => ρ (.tmp 44) = .bool true ∧ ρ (.tmp 48) = .bool true) ⟨by kernel_rfl, by kernel_rfl⟩ (fun ρ hρ => ?_) (Chg.refl _ _) rfl; (obtain ⟨g1, g2⟩ := hρ; go_simp)
  obtain rfl : x30 = _ := hv
  clear hc w1
  refine soft_one (some 50) rfl (Note.eq (.bool true)).f (by kernel_rfl) (by kernel_rfl) (fun w1 hc hk => ?_) (fun x31 w1 hc hv => ?_)
  · exact soft_move (.tmp 49) rfl (.bool true) (by kernel_rfl) rfl
  obtain rfl : x31 = _ := hv
  clear hc w1
  refine soft_one (some 51) rfl (nEvs outL).f (by kernel_rfl) (by kernel_rfl) (fun w1 hc hk => ?_) (fun x32 w1 hc hv => ?_)
  · exact soft_move (.tmp 2) rfl v9 (by kernel_rfl) ((nEvs outL).st _ _ _ hc HL5.out)
  clear hv
  clear hc w1
  refine soft_one (some 52) rfl (nEvs outS).f (by kernel_rfl) (by kernel_rfl) (fun w1 hc hk => ?_) (fun x33 w1 hc hv => ?_)
  · exact soft_move (.tmp 3) rfl v18 (by kernel_rfl) ((nEvs outS).st _ _ _ hc HS5.out)
  clear hv
  clear hc w1
  refine soft_one (some 53) rfl (Note.eq (.bool false)).f (by kernel_rfl) (by kernel_rfl) (fun w1 hc hk => ?_) (fun x34 w1 hc hv => ?_)
  · exact soft_call (args := #[x32, x33]) Try.func24 (by kernel_rfl) (by kernel_rfl) rfl (by kernel_rfl) (by have := c_psame (known_at hk 32 (nEvs outL).f x32 (by kernel_rfl) (by kernel_rfl) (by kernel_rfl)) (known_at hk 33 (nEvs outS).f x33 (by kernel_rfl) (by kernel_rfl) (by kernel_rfl)) fits_outL fits_outS; rwa [show decide (outL = outS) = false from decide_eq_false outLS] at this)
  obtain rfl : x34 = _ := hv
  clear hc w1
  refine soft_one (some 54) rfl (Note.eq (.bool true)).f (by kernel_rfl) (by kernel_rfl) (fun w1 hc hk => ?_) (fun x35 w1 hc hv => ?_)
  · refine soft_at (w1 := w1) (u := .bool true) (fun ρ => ρ (.tmp 53) = .bool false) (by kernel_rfl) (fun ρ hρ => ?_) (Chg.refl _ _) rfl; go_simp
  obtain rfl : x35 = _ := hv
  clear hc w1
  refine soft_one (some 55) rfl (Note.eq (.bool true)).f (by kernel_rfl) (by kernel_rfl) (fun w1 hc hk => ?_) (fun x36 w1 hc hv => ?_)
  · refine soft_at (w1 := w1) (u := .bool true) (fun ρ => ρ (.tmp 50) = .bool true ∧ ρ (.tmp 54) = .bool true) ⟨by kernel_rfl, by kernel_rfl⟩ (fun ρ hρ => ?_) (Chg.refl _ _) rfl; (obtain ⟨g1, g2⟩ := hρ; go_simp)
  obtain rfl : x36 = _ := hv
  clear hc w1
  refine soft_one (some 0) rfl (Note.eq (.bool true)).f (by kernel_rfl) (by kernel_rfl) (fun w1 hc hk => ?_) (fun x37 w1 hc hv => ?_)
  · exact soft_assign (.tmp 55) rfl (.bool true) (by kernel_rfl) rfl
  obtain rfl : x37 = _ := hv
  clear hc w1
  refine soft_end (fun b => b.tmps.getD 0 undef = .bool true ∧ b.defers = []) ⟨by kernel_rfl, by kernel_rfl⟩ (fun b hb w6 hc6 => ?_)
  obtain ⟨hb0, hbd⟩ := hb
  have HC6 : Hid (Chg (fun _ => False) w w6) := (((Chg.refl _ w).alloc _).trans HC5.out (fun _ _ h => h)).trans hc6 (fun _ _ h => h)
  clear hc6
  go_wp2
  exact bodyPost_ret (v := .bool true) (by simp [results, Try.results14, go_sem, show b.tmps[0]?.getD undef = .bool true by rw [← Array.getD_eq_getD_getElem?]; exact hb0]) hbd ⟨rfl, HC6.out⟩
end Go.Proofs.Ytchlolgfahgdeaa.Eak
