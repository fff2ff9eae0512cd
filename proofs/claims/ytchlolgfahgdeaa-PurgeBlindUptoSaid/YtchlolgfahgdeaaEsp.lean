/- The program's strikes by contract. Conditions: what comes in reads so; the closure asks Down. -/
import Derived.Test.YtchlolgfahgdeaaEst
import Derived.Test.YtchlolgfahgdeaaEdn
set_option linter.unusedVariables false
set_option linter.unusedSimpArgs false
namespace Go.Proofs.Ytchlolgfahgdeaa.Esp
open Go.RowKit Go.Proofs.Ytchlolgfahgdeaa.Lib1 Go.Proofs.Ytchlolgfahgdeaa.Rel Go.Proofs.Ytchlolgfahgdeaa.Own Go.Proofs.Ytchlolgfahgdeaa.Ev Go.Proofs.Ytchlolgfahgdeaa.Ek Go.Proofs.Ytchlolgfahgdeaa.Ec Go.Proofs.Ytchlolgfahgdeaa.Em Go.Proofs.Ytchlolgfahgdeaa.En Go.Proofs.Ytchlolgfahgdeaa.Est Go.Proofs.Ytchlolgfahgdeaa.Edn Go.Proofs.Ytchlolgfahgdeaa.Lat Go.Proofs.Ytchlolgfahgdeaa.Lbl Go.Proofs.Ytchlolgfahgdeaa.Lbw Go.Proofs.Ytchlolgfahgdeaa.Lck Go.Proofs.Ytchlolgfahgdeaa.Lmay
section
variable {ok : Nat → Prop} {w : World} {n1 : Nat} {c : Cfg}
set_option maxRecDepth 100000 in
set_option maxHeartbeats 3200000 in
theorem pstrikes_any {D : List Int} {d : Nat} (hD : IsAt w d D) (hl1 : c.labels.length = n1) (h16 : n1 ≤ 16) (a : Nat) (hDm : ∀ p, p < n1 → decide ((p : Int) ∈ D) = Ev.seen c a p) (hok : ∀ k, ok k → k < w.heap.size) (s : List (List Fate)) (A : Option Addr) (n cc : Nat) (hr : strikesK.rel ok w s [.slice A n cc]) (hf : strikesK.fits s) :
    Calls Try.prog 44 #[.slice A n cc, .int .i64 n1, .func (.func 41) #[] #[.pointer (some ⟨d, 0, none⟩)]] w fun e w' => ∃ v, e = .returned v ∧ OwnL fatesK 73 w.heap.size w' v (Ev.strikes c a s) ∧ Chg (fun _ => False) w w' := by
  have hl : s.length * 24 ≤ 140737488351232 := hf.1
  obtain ⟨A0, c0, e0, -⟩ := slice_form hr
  simp only [List.cons.injEq, Value.slice.injEq, and_true] at e0
  obtain ⟨rfl, rfl, rfl⟩ := e0
  have HS : Hid (∀ W, Chg (fun _ => False) w W → ∀ b : Nat, b < n1 → Calls Try.prog 41 #[.int .i64 b, .pointer (some ⟨d, 0, none⟩)] W fun e w' => e = .returned (.bool (Ev.seen c a b)) ∧ W = w') :=
    fun W hc b hb => (is_any (hD.up hc) b).mono fun _ _ ⟨he, hw⟩ => ⟨he.trans (ret_bool (hDm b hb)), hw⟩
  have HR : Hid (∀ w', Chg (fun _ => False) w w' → strikesK.rel ok w' s [.slice A s.length cc]) := fun w' hc => strikesK.move (fun k hk => hc.block k (hok k hk) (fun h => h)) hr
  have HOK := Lib.hid hok
  have L1 := Lib.hid hl1
  clear hr hok hf hD hDm hl1
  have hmk := make_fates n1 (by omega)
  go_enter Try.func44, Try.ntmps44
  go_wp2
  go_loopw [7, 14] (fun v i wr => StRel w w (Ev.strikes c a s) v i wr) (fun _ i _ => s.length - (intOf i).toNat)
  case atStart => exact ⟨0, Nat.zero_le _, rfl, OwnL.nil _ _ _ _, Chg.refl _ _⟩
  case round =>
    obtain ⟨wo, rfl⟩ : ∃ wo : World, wo = wr := ⟨_, rfl⟩
    obtain ⟨k, hk, rfl, ho, hc⟩ := hrel
    have hsl : (Ev.strikes c a s).length = s.length := by simp [Ev.strikes]
    have HO := Lib.hid ho
    obtain ⟨Av, cv, ev⟩ := ho.form
    rw [take_len hk] at ev
    rw [hsl] at hk
    have HC := Lib.hid hc
    clear ho hc hsl
    subst ev
    by_cases hlt : k < s.length
    · have hx : s[k]? = some s[k] := List.getElem?_eq_getElem hlt
      have hsx : (Ev.strikes c a s)[k]? = some (Ev.round c a s[k]) := by unfold Ev.strikes; rw [List.getElem?_map, hx]; rfl
      have HX := Lib.hid hsx
      obtain ⟨g, off, cs, rfl, hg, hrel, hra⟩ := elem_of _ ok (HR.out _ HC.out) hx
      generalize s[k] = f at *
      obtain ⟨Af, cf, rfl, -⟩ := slice_form hrel
      have q0 := range_one (o := off + k * 1) hra
      simp only [Nat.mul_one] at q0
      have hgl := HOK.out g hg
      have HRl := Lib.hid hrel
      clear hra hx hg hrel hsx
      have i1 : (k : Int) < (s.length : Int) := by omega
      go_wp2
      go_loopw [22] (fun i wr2 => RdRel c a f wo.heap.size n1 wo i wr2) (fun i _ => n1 - (intOf i).toNat)
      case atStart => exact ⟨0, _, Nat.zero_le _, rfl, heap_new _ _, FArr.congr (FArr.made n1) (fun q _ => by unfold upto; rw [if_neg (by omega)]), (Chg.refl _ _).alloc _⟩
      case round =>
        obtain ⟨p, arr, hp, rfl, hb, hfa, hc2⟩ := hrel
        have HB := Lib.hid hb
        have HFa := Lib.hid hfa
        have HC2 := Lib.hid hc2
        have hgw : g < wo.heap.size := Nat.lt_of_lt_of_le hgl HC.out.size
        have z2 := lt_of _ hb
        clear hb hfa hc2 q0
        by_cases hpn : p < n1
        · have i2 : (p : Int) < (n1 : Int) := by omega
          have b4 := HB.out
          go_wp2_with fail
          refine (HS.out _ (HC.out.trans HC2.out (fun _ _ h => h)) p hpn).mono ?_
          rintro e w4 ⟨rfl, rfl⟩
          cases hs : Ev.seen c a p with
          | true =>
            have HSe := Lib.hid hs
            by_cases hpf : p < f.length
            · have i3 : (p : Int) < (f.length : Int) := by omega
              have hxf : f[p]? = some f[p] := List.getElem?_eq_getElem hpf
              have HGf : Hid (f.getD p Fate.zero = f[p]) := by show _ = _; rw [List.getD_eq_getElem?_getD, hxf]; rfl
              obtain ⟨gf, of, cs2, rfl, hgf, hr2, ra2⟩ := elem_of _ _ (fatesK.move (w1 := wr) (fun j hj => HC2.out.block j (Nat.lt_of_lt_of_le (HOK.out j hj) HC.out.size) (fun h => h)) HRl.out) hxf
              replace hr2 : cs2 = fateCs f[p] := hr2
              subst hr2
              have v0 : wr.cell? ⟨gf, of + p * 3, none⟩ = _ := ra2 0 _ rfl
              have v1 : wr.cell? ⟨gf, of + p * 3 + 1, none⟩ = _ := ra2 1 _ rfl
              have v2 : wr.cell? ⟨gf, of + p * 3 + 2, none⟩ = _ := ra2 2 _ rfl
              obtain ⟨x0, y0⟩ : ∃ v, wr.cell? ⟨wo.heap.size, p * 3, none⟩ = some v := ⟨_, cell_at b4 _ (HFa.out.f0 p hpn)⟩
              obtain ⟨x1, y1⟩ : ∃ v, wr.cell? ⟨wo.heap.size, p * 3 + 1, none⟩ = some v := ⟨_, cell_at b4 _ (HFa.out.f1 p hpn)⟩
              obtain ⟨x2, y2⟩ : ∃ v, wr.cell? ⟨wo.heap.size, p * 3 + 2, none⟩ = some v := ⟨_, cell_at b4 _ (HFa.out.f2 p hpn)⟩
              have y3 := free_at b4
              have HN := Lib.hid (upto_yes (c := c) (a := a) (f := f) (p := p) (by have := L1.out; omega) HSe.out hpf)
              rw [HGf.out] at HN
              clear hxf ra2 hgf b4 hs
              generalize f[p] = ff at *
              go_wp2
              go_roundw
              case rel => exact ⟨p + 1, _, hpn, by go_num, heap_set3 HB.out _ _ _ _, FArr.congr (HFa.out.set hpn ff) (fun q _ => HN.out q), ((HC2.out.set (.inl (Nat.le_refl _))).set (.inl (Nat.le_refl _))).set (.inl (Nat.le_refl _))⟩
              case measure => simp [intOf]; omega
            · have HN := Lib.hid (upto_no (c := c) (a := a) (f := f) (p := p) (by have := L1.out; omega) (fun h => hpf h.2))
              have d9 : decide ((p : Int) < (f.length : Int)) = false := by simp; omega
              have d8 : decide (p < f.length) = false := by simp; omega
              clear hs b4
              go_wp2
              go_roundw
              case rel => exact ⟨p + 1, _, hpn, by go_num, HB.out, FArr.congr HFa.out (fun q _ => HN.out q), HC2.out⟩
              case measure => simp [intOf]; omega
          | false =>
            have HN := Lib.hid (upto_no (c := c) (a := a) (f := f) (p := p) (by have := L1.out; omega) (by rw [hs]; simp))
            clear hs b4
            go_wp2
            go_roundw
            case rel => exact ⟨p + 1, _, hpn, by go_num, HB.out, FArr.congr HFa.out (fun q _ => HN.out q), HC2.out⟩
            case measure => simp [intOf]; omega
        · have hw0 := HC.out.size
          go_wp2_with (at_builtin; refine ap_push rfl (.tmp 42) (.tmp 44) 35 rfl fatesK w.heap.size 73 24 (.slice none 0 0) Try.underlying35 info_fates rfl (by decide) (by decide) (.slice Av k cv) ((Ev.strikes c a s).take k) rfl (HO.out.up HC2.out) (Ev.round c a f) _ rfl ?bR ?bL ?bB ?_; (case bR => exact fatesK.mono (fun j hj => by subst hj; exact ⟨by omega, z2, fun he => by have := (HO.out.low _ he).2; omega⟩) (FArr.rel HFa.out HB.out (by rw [round_len]; exact L1.out) (fun q hq => upto_end (by have := L1.out; omega) q (by have := L1.out; omega)))); (case bL => rw [take_len (by simp [Ev.strikes]; omega)]; omega); (case bB => omega); intro v3 w3 o3 g3; obtain ⟨A3, c3, e3⟩ := o3.form; subst e3)
          go_roundw
          case rel => exact ⟨k + 1, by simp [Ev.strikes]; omega, by go_num, by rw [take_snoc HX.out]; have o4 := o3; simp only [List.length_append, List.length_take, List.length_singleton] at o4; exact o4, (HC.out.trans HC2.out (fun _ _ h => h)).trans g3 (fun j hj he => by have := (HO.out.low j he).1; omega)⟩
          case measure => simp [intOf]; omega
    · go_wp2
      go_ret
      have hkk : k = s.length := by omega
      have ho := HO.out
      rw [show (Ev.strikes c a s).take k = Ev.strikes c a s by rw [List.take_of_length_le]; simp [Ev.strikes]; omega] at ho
      exact ⟨_, rfl, ho, HC.out⟩
end
end Go.Proofs.Ytchlolgfahgdeaa.Esp
