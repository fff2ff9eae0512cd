/- The program's comparison of fates and strikes by contract (slices.Equal, slices.EqualFunc). Conditions: what comes in reads so. -/
import Derived.Test.YtchlolgfahgdeaaEsm
set_option linter.unusedVariables false
set_option linter.unusedSimpArgs false
namespace Go.Proofs.Ytchlolgfahgdeaa.Epe
open Go.RowKit Go.Proofs.Ytchlolgfahgdeaa.Lib1 Go.Proofs.Ytchlolgfahgdeaa.Rel Go.Proofs.Ytchlolgfahgdeaa.Own Go.Proofs.Ytchlolgfahgdeaa.Ev Go.Proofs.Ytchlolgfahgdeaa.Ek Go.Proofs.Ytchlolgfahgdeaa.Ec Go.Proofs.Ytchlolgfahgdeaa.Efe Go.Proofs.Ytchlolgfahgdeaa.Esm Go.Proofs.Ytchlolgfahgdeaa.Em Go.Proofs.Ytchlolgfahgdeaa.En Go.Proofs.Ytchlolgfahgdeaa.Lat Go.Proofs.Ytchlolgfahgdeaa.Lbl Go.Proofs.Ytchlolgfahgdeaa.Lbw Go.Proofs.Ytchlolgfahgdeaa.Lck Go.Proofs.Ytchlolgfahgdeaa.Lmay

section
variable {ok : Nat → Prop} {w : World}
set_option maxRecDepth 100000 in
set_option maxHeartbeats 3200000 in
theorem equal_fates (s t : List Fate) (A B : Option Addr) (n m c d : Nat) (hs : fatesK.rel ok w s [.slice A n c]) (ht : fatesK.rel ok w t [.slice B m d]) (hok : ∀ k, ok k → k < w.heap.size) (hf : fatesK.fits s) (hg : fatesK.fits t) :
    Calls Try.prog 52 #[.slice A n c, .slice B m d] w fun e w' => e = .returned (.bool (decide (s = t))) ∧ Chg (fun _ => False) w w' := by
  have hl : s.length * 24 ≤ 140737488351232 := hf.1
  have hl2 : t.length * 24 ≤ 140737488351232 := hg.1
  obtain ⟨A0, c0, e0, -⟩ := slice_form hs
  simp only [List.cons.injEq, Value.slice.injEq, and_true] at e0
  obtain ⟨rfl, rfl, rfl⟩ := e0
  obtain ⟨B0, d0, e0, -⟩ := slice_form ht
  simp only [List.cons.injEq, Value.slice.injEq, and_true] at e0
  obtain ⟨rfl, rfl, rfl⟩ := e0
  have HS : Hid (∀ w', Chg (fun _ => False) w w' → fatesK.rel ok w' s [.slice A s.length c]) := fun w' hc => fatesK.move (fun k hk => hc.block k (hok k hk) (fun h => h)) hs
  have HT : Hid (∀ w', Chg (fun _ => False) w w' → fatesK.rel ok w' t [.slice B t.length d]) := fun w' hc => fatesK.move (fun k hk => hc.block k (hok k hk) (fun h => h)) ht
  clear hs ht hok hf hg
  go_enter Try.func52, Try.ntmps52
  by_cases hst : s.length = t.length
  rotate_left
  · have b1 : ((s.length : Int) != (t.length : Int)) = true := by simp; omega
    have HNe : Hid (s ≠ t) := fun h => hst (by rw [h])
    clear hst
    go_wp2
    go_ret
    exact ⟨ret_bool (decide_eq_false HNe.out).symm, Chg.refl _ _⟩
  have HL := Lib.hid hst
  have b1 : ((s.length : Int) != (t.length : Int)) = false := by simp; omega
  go_wp2
  go_loopw [13] (fun i wr => ∃ k : Nat, k ≤ s.length ∧ i = .int .i64 k ∧ s.take k = t.take k ∧ Chg (fun _ => False) w wr) (fun i _ => s.length - (intOf i).toNat)
  case atStart => exact ⟨0, Nat.zero_le _, rfl, rfl, Chg.refl _ _⟩
  case round =>
    obtain ⟨w2, rfl⟩ : ∃ w2 : World, w2 = wr := ⟨_, rfl⟩
    obtain ⟨q, hq, rfl, hp, hc⟩ := hrel
    have HP := Lib.hid hp
    have HC := Lib.hid hc
    clear hp hc
    by_cases hqf : q < s.length
    · have hx : s[q]? = some s[q] := List.getElem?_eq_getElem hqf
      have hy : t[q]? = some (t[q]'(by omega)) := List.getElem?_eq_getElem (by omega)
      have HX2 := Lib.hid hx
      have HY2 := Lib.hid hy
      obtain ⟨gf, of, cs, rfl, hgf, hr, ra⟩ := elem_of _ _ (HS.out _ HC.out) hx
      obtain ⟨gf2, of2, cs2, rfl, hgf2, hr2, ra2⟩ := elem_of _ _ (HT.out _ HC.out) hy
      replace hr : cs = fateCs s[q] := hr
      replace hr2 : cs2 = fateCs (t[q]'(by omega)) := hr2
      subst hr hr2
      have v0 : w2.cell? ⟨gf, of + q * 3, none⟩ = _ := ra 0 _ rfl
      have v1 : w2.cell? ⟨gf, of + q * 3 + 1, none⟩ = _ := ra 1 _ rfl
      have v2 : w2.cell? ⟨gf, of + q * 3 + 2, none⟩ = _ := ra 2 _ rfl
      have u0 : w2.cell? ⟨gf2, of2 + q * 3, none⟩ = _ := ra2 0 _ rfl
      have u1 : w2.cell? ⟨gf2, of2 + q * 3 + 1, none⟩ = _ := ra2 1 _ rfl
      have u2 : w2.cell? ⟨gf2, of2 + q * 3 + 2, none⟩ = _ := ra2 2 _ rfl
      clear ra ra2 hx hy hgf hgf2
      generalize s[q] = x at *
      generalize t[q] = x2 at *
      have i5 : (q : Int) < (s.length : Int) := by omega
      have i6 : (q : Int) < (t.length : Int) := by have := HL.out; omega
      have hne := neq_fate
      clear hst
      by_cases hxy : x = x2
      · have hb2 : (!(x.done == x2.done && x.keep == x2.keep && (x.torn.toNat : Int) == (x2.torn.toNat : Int))) = false := by rw [fate_beq]; simp [hxy]
        have HE2 : Hid (x = x2) := hxy
        clear hxy
        go_wp2_with fail
        go_quiet (fail)
        go_wp2
        go_roundw
        case rel => exact ⟨q + 1, by omega, by go_num, by have h1 := HX2.out; have h2 := HY2.out; rw [← HE2.out] at h2; exact take_eq_snoc h1 h2 HP.out, HC.out.drewN _⟩
        case measure => simp [intOf]; omega
      · have hb2 : (!(x.done == x2.done && x.keep == x2.keep && (x.torn.toNat : Int) == (x2.torn.toNat : Int))) = true := by rw [fate_beq]; simp [hxy]
        have HNe : Hid (s ≠ t) := ne_at HX2.out HY2.out hxy
        clear hxy
        go_wp2_with fail
        go_quiet (fail)
        go_wp2
        go_ret
        exact ⟨ret_bool (decide_eq_false HNe.out).symm, HC.out.drewN _⟩
    · have HE : Hid (s = t) := eq_of_take HP.out (by omega) HL.out
      have hqt : ¬ (q < t.length) := by have := HL.out; omega
      clear hst
      go_wp2
      go_ret
      exact ⟨ret_bool (decide_eq_true HE.out).symm, HC.out⟩
set_option maxRecDepth 100000 in
set_option maxHeartbeats 3200000 in
theorem equalf_strikes (s t : List (List Fate)) (A B : Option Addr) (n m c d : Nat) (hs : strikesK.rel ok w s [.slice A n c]) (ht : strikesK.rel ok w t [.slice B m d]) (hok : ∀ k, ok k → k < w.heap.size) (hf : strikesK.fits s) (hg : strikesK.fits t) :
    Calls Try.prog 51 #[.slice A n c, .slice B m d, .func (.func 52) #[] #[]] w fun e w' => e = .returned (.bool (decide (s = t))) ∧ Chg (fun _ => False) w w' := by
  have hl : s.length * 24 ≤ 140737488351232 := hf.1
  have hl2 : t.length * 24 ≤ 140737488351232 := hg.1
  obtain ⟨A0, c0, e0, -⟩ := slice_form hs
  simp only [List.cons.injEq, Value.slice.injEq, and_true] at e0
  obtain ⟨rfl, rfl, rfl⟩ := e0
  obtain ⟨B0, d0, e0, -⟩ := slice_form ht
  simp only [List.cons.injEq, Value.slice.injEq, and_true] at e0
  obtain ⟨rfl, rfl, rfl⟩ := e0
  have HS : Hid (∀ w', Chg (fun _ => False) w w' → strikesK.rel ok w' s [.slice A s.length c]) := fun w' hc => strikesK.move (fun k hk => hc.block k (hok k hk) (fun h => h)) hs
  have HT : Hid (∀ w', Chg (fun _ => False) w w' → strikesK.rel ok w' t [.slice B t.length d]) := fun w' hc => strikesK.move (fun k hk => hc.block k (hok k hk) (fun h => h)) ht
  have HOK := Lib.hid hok
  have HF := Lib.hid hf
  have HG := Lib.hid hg
  clear hs ht hok hf hg
  go_enter Try.func51, Try.ntmps51
  by_cases hst : s.length = t.length
  rotate_left
  · have b1 : ((s.length : Int) != (t.length : Int)) = true := by simp; omega
    have HNe : Hid (s ≠ t) := fun h => hst (by rw [h])
    clear hst
    go_wp2
    go_ret
    exact ⟨ret_bool (decide_eq_false HNe.out).symm, Chg.refl _ _⟩
  have HL := Lib.hid hst
  have b1 : ((s.length : Int) != (t.length : Int)) = false := by simp; omega
  go_wp2
  go_loopw [17] (fun i wr => ∃ k : Nat, k ≤ s.length ∧ i = .int .i64 k ∧ s.take k = t.take k ∧ Chg (fun _ => False) w wr) (fun i _ => s.length - (intOf i).toNat)
  case atStart => exact ⟨0, Nat.zero_le _, rfl, rfl, Chg.refl _ _⟩
  case round =>
    obtain ⟨wo, rfl⟩ : ∃ wo : World, wo = wr := ⟨_, rfl⟩
    obtain ⟨k, hk, rfl, hp, hc⟩ := hrel
    have HP := Lib.hid hp
    have HC := Lib.hid hc
    clear hp hc
    by_cases hlt : k < s.length
    · have hx : s[k]? = some s[k] := List.getElem?_eq_getElem hlt
      have hy : t[k]? = some (t[k]'(by omega)) := List.getElem?_eq_getElem (by omega)
      have HX := Lib.hid hx
      have HY := Lib.hid hy
      obtain ⟨g, off, cs, rfl, hg, hrel, hra⟩ := elem_of _ ok (HS.out _ HC.out) hx
      obtain ⟨g2, off2, cs2, rfl, hg2, hrel2, hra2⟩ := elem_of _ ok (HT.out _ HC.out) hy
      have hfx := fits_at HF.out hx
      have hgy := fits_at HG.out hy
      generalize s[k] = f at *
      generalize t[k] = f2 at *
      obtain ⟨Af, cf, rfl, -⟩ := slice_form hrel
      obtain ⟨Bf, df, rfl, -⟩ := slice_form hrel2
      have q0 := range_one (o := off + k * 1) hra
      have q1 := range_one (o := off2 + k * 1) hra2
      simp only [Nat.mul_one] at q0 q1
      have HEq := Lib.hid (equal_fates f f2 Af Bf _ _ cf df hrel hrel2 (fun j hj => Nat.lt_of_lt_of_le (HOK.out j hj) HC.out.size) hfx hgy)
      clear hra hra2 hx hy hg hg2 hrel hrel2 hst hfx hgy
      have i1 : (k : Int) < (s.length : Int) := by omega
      have i2 : (k : Int) < (t.length : Int) := by have := HL.out; omega
      go_wp2_with fail
      refine HEq.out.mono ?_
      rintro e w3 ⟨rfl, hc3⟩
      have HC3 := Lib.hid hc3
      clear hc3
      by_cases hff : f = f2
      · have hb2 : decide (f = f2) = true := by simp [hff]
        have HE2 : Hid (f = f2) := hff
        clear hff
        go_wp2
        go_roundw
        case rel => exact ⟨k + 1, by omega, by go_num, by have h1 := HX.out; have h2 := HY.out; rw [← HE2.out] at h2; exact take_eq_snoc h1 h2 HP.out, HC.out.trans HC3.out (fun _ _ h => h)⟩
        case measure => simp [intOf]; omega
      · have hb2 : decide (f = f2) = false := by simp [hff]
        have HNe : Hid (s ≠ t) := ne_at HX.out HY.out hff
        clear hff
        go_wp2
        go_ret
        exact ⟨ret_bool (decide_eq_false HNe.out).symm, HC.out.trans HC3.out (fun _ _ h => h)⟩
    · have HE : Hid (s = t) := eq_of_take HP.out (by omega) HL.out
      have hqt : ¬ (k < t.length) := by have := HL.out; omega
      clear hst
      go_wp2
      go_ret
      exact ⟨ret_bool (decide_eq_true HE.out).symm, HC.out⟩
end
end Go.Proofs.Ytchlolgfahgdeaa.Epe
