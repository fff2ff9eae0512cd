/- The reference's strikes by contract; a round of fates in a block. Conditions: what comes in reads so; a config that may be. -/
import Derived.Test.YtchlolgfahgdeaaEn
set_option linter.unusedVariables false
set_option linter.unusedSimpArgs false
namespace Go.Proofs.Ytchlolgfahgdeaa.Est
open Go.RowKit Go.Proofs.Ytchlolgfahgdeaa.Lib1 Go.Proofs.Ytchlolgfahgdeaa.Rel Go.Proofs.Ytchlolgfahgdeaa.Own Go.Proofs.Ytchlolgfahgdeaa.Ev Go.Proofs.Ytchlolgfahgdeaa.Ek Go.Proofs.Ytchlolgfahgdeaa.Ec Go.Proofs.Ytchlolgfahgdeaa.Em Go.Proofs.Ytchlolgfahgdeaa.En Go.Proofs.Ytchlolgfahgdeaa.Lat Go.Proofs.Ytchlolgfahgdeaa.Lbl Go.Proofs.Ytchlolgfahgdeaa.Lbw Go.Proofs.Ytchlolgfahgdeaa.Lck Go.Proofs.Ytchlolgfahgdeaa.Lmay

/-- n fates in a row of cells. -/
structure FArr (arr : Array Value) (n : Nat) (F : Nat → Fate) : Prop where
  size : arr.size = n * 3
  f0 : ∀ q, q < n → arr[q * 3]? = some (.int .i64 (F q).done)
  f1 : ∀ q, q < n → arr[q * 3 + 1]? = some (.int .i64 (F q).keep)
  f2 : ∀ q, q < n → arr[q * 3 + 2]? = some (.int .u8 ((F q).torn.toNat : Int))
theorem FArr.congr {arr : Array Value} {n : Nat} {F G : Nat → Fate} (h : FArr arr n F) (he : ∀ q, q < n → F q = G q) : FArr arr n G :=
  ⟨h.size, fun q hq => by rw [← he q hq]; exact h.f0 q hq, fun q hq => by rw [← he q hq]; exact h.f1 q hq, fun q hq => by rw [← he q hq]; exact h.f2 q hq⟩
theorem FArr.made (n : Nat) : FArr (madeCells #[.int .i64 0, .int .i64 0, .int .u8 0] (n * 3)) n (fun _ => Fate.zero) := by
  refine ⟨size_madeCells _ _, fun q hq => ?_, fun q hq => ?_, fun q hq => ?_⟩
  all_goals
    unfold madeCells
    rw [Array.getElem?_map, Array.getElem?_range, if_pos (by omega)]
    simp only [Option.map_some, List.size_toArray, List.length_cons, List.length_nil]
  · rw [show q * 3 % (0 + 1 + 1 + 1) = 0 by omega]; rfl
  · rw [show (q * 3 + 1) % (0 + 1 + 1 + 1) = 1 by omega]; rfl
  · rw [show (q * 3 + 2) % (0 + 1 + 1 + 1) = 2 by omega]; rfl
theorem FArr.set {arr : Array Value} {n : Nat} {F : Nat → Fate} (h : FArr arr n F) {p : Nat} (hp : p < n) (f : Fate) :
    FArr (((arr.setIfInBounds (p * 3) (.int .i64 f.done)).setIfInBounds (p * 3 + 1) (.int .i64 f.keep)).setIfInBounds (p * 3 + 2) (.int .u8 (f.torn.toNat : Int))) n (fun q => if q = p then f else F q) := by
  have hs := h.size
  refine ⟨by simpa using hs, fun q hq => ?_, fun q hq => ?_, fun q hq => ?_⟩
  all_goals
    by_cases hqp : q = p
    · subst hqp
      simp only [if_true]
      first
        | (rw [Array.getElem?_setIfInBounds_self_of_lt (by simp; omega)])
        | (rw [Array.getElem?_setIfInBounds_ne (by omega), Array.getElem?_setIfInBounds_self_of_lt (by simp; omega)])
        | (rw [Array.getElem?_setIfInBounds_ne (by omega), Array.getElem?_setIfInBounds_ne (by omega), Array.getElem?_setIfInBounds_self_of_lt (by omega)])
    · simp only [if_neg hqp]
      rw [Array.getElem?_setIfInBounds_ne (by omega), Array.getElem?_setIfInBounds_ne (by omega), Array.getElem?_setIfInBounds_ne (by omega)]
      first | exact h.f0 q hq | exact h.f1 q hq | exact h.f2 q hq
theorem FArr.rel {arr : Array Value} {n : Nat} {F : Nat → Fate} (h : FArr arr n F) {W : World} {g T : Nat} {fr : Nat × Nat} (hg : W.heap[g]? = some (.cells arr T fr)) {l : List Fate} (hl : l.length = n) (hF : ∀ q, q < n → F q = l.getD q Fate.zero) :
    fatesK.rel (fun k => k = g) W l [.slice (some ⟨g, 0, none⟩) n n] := by
  subst hl
  refine ⟨_, _, arr.toList, rfl, ⟨by rw [Array.length_toList, h.size]; rfl, Nat.le_refl _, (fun h => by cases h), fun _ => ⟨g, 0, rfl, rfl, fun j u hu => ?_⟩⟩, fun i x hx => ?_⟩
  · rw [Nat.zero_add]
    exact cell_at hg j (by simpa using hu)
  · have hi := (List.getElem?_eq_some_iff.1 hx).1
    have hxe : F i = x := by rw [hF i hi, List.getD_eq_getElem?_getD, hx]; rfl
    have g0 := h.f0 i hi
    have g1 := h.f1 i hi
    have g2 := h.f2 i hi
    rw [hxe] at g0 g1 g2
    show ((arr.toList).drop (i * 3)).take 3 = fateCs x
    apply List.ext_getElem?
    intro j
    rw [List.getElem?_take]
    split
    · rename_i hj
      rw [List.getElem?_drop]
      have e : j = 0 ∨ j = 1 ∨ j = 2 := by omega
      rcases e with rfl | rfl | rfl
      · simpa [fateCs] using g0
      · simpa [fateCs] using g1
      · simpa [fateCs] using g2
    · rename_i hj
      rw [List.getElem?_eq_none (by simp [fateCs]; omega)]
/-- The three stores. -/
theorem heap_set3 {w : World} {g T : Nat} {arr : Array Value} {fr : Nat × Nat} (h : w.heap[g]? = some (.cells arr T fr)) (i : Nat) (a b c : Value) :
    (((w.setCell ⟨g, i, none⟩ a).setCell ⟨g, i + 1, none⟩ b).setCell ⟨g, i + 2, none⟩ c).heap[g]? = some (.cells (((arr.setIfInBounds i a).setIfInBounds (i + 1) b).setIfInBounds (i + 2) c) T fr) :=
  heap_set (heap_set (heap_set h i a) (i + 1) b) (i + 2) c
theorem make_fates (n : Nat) (hn : n ≤ 65536) (W : World) : (Instr.makeSlice 73 (.int .i64 (n : Int)) (.int .i64 (n : Int))).run Try.prog W = .ok (.slice (some ⟨W.heap.size, 0, none⟩) n n) (W.alloc (.cells (madeCells #[.int .i64 0, .int .i64 0, .int .u8 0] (n * 3)) 76)) := by
  obtain ⟨i0, hi, hz0, hz1, hz2⟩ := info_parts info_fate
  have hb : (i0.bytes : Int) * (n : Int) ≤ 281474976710656 := by rw [hz2]; omega
  have hr := run_make (P := Try.prog) W 73 76 i0 _ Try.underlying73 hi hz0 .i64 .i64 n n (by omega) (by omega) hb (by omega)
  rw [hz1] at hr
  simp only [Int.toNat_natCast] at hr
  exact hr

/-- How far a round is filled. -/
def upto (c : Cfg) (a : Nat) (f : List Fate) (p q : Nat) : Fate := if q < p then (Ev.round c a f).getD q Fate.zero else Fate.zero
theorem upto_yes {c : Cfg} {a : Nat} {f : List Fate} {p : Nat} (hp : p < c.labels.length) (hs : Ev.seen c a p = true) (hf : p < f.length) (q : Nat) : (if q = p then f.getD p Fate.zero else upto c a f p q) = upto c a f (p + 1) q := by
  unfold upto
  by_cases hq : q = p
  · subst hq
    rw [if_pos rfl, if_pos (by omega), round_get c a f q hp, if_pos ⟨hs, hf⟩]
  · rw [if_neg hq]
    by_cases h : q < p
    · rw [if_pos h, if_pos (by omega)]
    · rw [if_neg h, if_neg (by omega)]
theorem upto_no {c : Cfg} {a : Nat} {f : List Fate} {p : Nat} (hp : p < c.labels.length) (hs : ¬ (Ev.seen c a p = true ∧ p < f.length)) (q : Nat) : upto c a f p q = upto c a f (p + 1) q := by
  unfold upto
  by_cases hq : q = p
  · subst hq
    rw [if_neg (by omega), if_pos (by omega), round_get c a f q hp, if_neg hs]
  · by_cases h : q < p
    · rw [if_pos h, if_pos (by omega)]
    · rw [if_neg h, if_neg (by omega)]
theorem upto_end {c : Cfg} {a : Nat} {f : List Fate} {p : Nat} (h : c.labels.length ≤ p ∨ f.length ≤ p) (q : Nat) (hq : q < c.labels.length) : upto c a f p q = (Ev.round c a f).getD q Fate.zero := by
  unfold upto
  by_cases hqp : q < p
  · rw [if_pos hqp]
  · rw [if_neg hqp, round_get c a f q hq, if_neg (by omega)]

section
variable {ok : Nat → Prop} {w : World} {A1 A2 A3 : Option Addr} {n1 n2 n3 c1 c2 c3 : Nat} {c : Cfg}
def StRel (w w1 : World) (s : List (List Fate)) (v i : Value) (wr : World) : Prop := ∃ k : Nat, k ≤ s.length ∧ i = .int .i64 k ∧ OwnL fatesK 73 w.heap.size wr v (s.take k) ∧ Chg (fun _ => False) w1 wr
def RdRel (c : Cfg) (a : Nat) (f : List Fate) (g n : Nat) (w1 : World) (i : Value) (wr : World) : Prop := ∃ (p : Nat) (arr : Array Value), p ≤ n ∧ i = .int .i64 p ∧ wr.heap[g]? = some (.cells arr 76 (0, 0)) ∧ FArr arr n (upto c a f p) ∧ Chg (fun _ => False) w1 wr

set_option maxRecDepth 100000 in
set_option maxHeartbeats 3200000 in
theorem rstrikes_any (h : CfgAt ok w A1 A2 A3 n1 n2 n3 c1 c2 c3 c) (hok : ∀ k, ok k → k < w.heap.size) (h16 : n1 ≤ 16) (a : Nat) (ha : a < n1) (s : List (List Fate)) (A : Option Addr) (n cc : Nat) (hr : strikesK.rel ok w s [.slice A n cc]) (hf : strikesK.fits s) :
    Calls Try.prog 46 #[.agg #[.slice A1 n1 c1, .slice A2 n2 c2, .slice A3 n3 c3], .int .i64 a, .slice A n cc] w fun e w' => ∃ v, e = .returned v ∧ OwnL fatesK 73 w.heap.size w' v (Ev.strikes c a s) ∧ Chg (fun _ => False) w w' := by
  have hl : s.length * 24 ≤ 140737488351232 := hf.1
  obtain ⟨A0, c0, e0, -⟩ := slice_form hr
  simp only [List.cons.injEq, Value.slice.injEq, and_true] at e0
  obtain ⟨rfl, rfl, rfl⟩ := e0
  have HS : Hid (∀ W, Chg (fun _ => False) w W → ∀ b, b < n1 → Calls Try.prog 26 #[.agg #[.slice A1 n1 c1, .slice A2 n2 c2, .slice A3 n3 c3], .int .i64 a, .int .i64 b] W fun e w' => e = .returned (.bool (Ev.seen c a b)) ∧ Chg (fun _ => False) W w') :=
    fun W hc b hb => seen_any (cfg_up h hok hc) (fun k hk => Nat.lt_of_lt_of_le (hok k hk) hc.size) a b ha hb
  have HR : Hid (∀ w', Chg (fun _ => False) w w' → strikesK.rel ok w' s [.slice A s.length cc]) := fun w' hc => strikesK.move (fun k hk => hc.block k (hok k hk) (fun h => h)) hr
  have HOK := Lib.hid hok
  have L1 := Lib.hid h.l1
  clear hr hok hf h
  have hmk := make_fates n1 (by omega)
  obtain ⟨w1, hw1⟩ : ∃ w1, w1 = w.alloc (.cells #[.slice A1 n1 c1, .slice A2 n2 c2, .slice A3 n3 c3] 27) := ⟨_, rfl⟩
  have HW1 := Lib.hid hw1
  have C1 : Hid (Chg (fun _ => False) w w1) := by show Chg _ _ _; rw [hw1]; exact (Chg.refl _ w).alloc _
  have B1 : Hid (w1.heap[w.heap.size]? = some (.cells #[.slice A1 n1 c1, .slice A2 n2 c2, .slice A3 n3 c3] 27 (0, 0))) := by show _ = _; rw [hw1]; exact heap_new w _
  have HZ : Hid (w1.heap.size = w.heap.size + 1) := by show _ = _; rw [hw1, World.size_alloc]
  clear hw1
  go_enter Try.func46, Try.ntmps46
  go_wp2
  go_loopw [7, 8] (fun v i wr => StRel w1 w1 (Ev.strikes c a s) v i wr) (fun _ i _ => s.length - (intOf i).toNat)
  case atStart => exact ⟨0, Nat.zero_le _, rfl, OwnL.nil _ _ _ _, by rw [← HW1.out]; exact Chg.refl _ _⟩
  case round =>
    obtain ⟨wo, rfl⟩ : ∃ wo : World, wo = wr := ⟨_, rfl⟩
    obtain ⟨k, hk, rfl, ho, hc⟩ := hrel
    have hsl : (Ev.strikes c a s).length = s.length := by simp [Ev.strikes]
    have HO := Lib.hid ho
    obtain ⟨Av, cv, ev⟩ := ho.form
    rw [take_len hk] at ev
    rw [hsl] at hk
    have HC := Lib.hid hc
    have b1 := hc.at_ B1.out (fun h => h)
    have z1 := lt_of _ b1
    have k0 := cell_at b1 0 rfl
    have k1 := cell_at b1 1 rfl
    have k2 := cell_at b1 2 rfl
    clear ho hc b1 hsl
    subst ev
    by_cases hlt : k < s.length
    · have hx : s[k]? = some s[k] := List.getElem?_eq_getElem hlt
      have hsx : (Ev.strikes c a s)[k]? = some (Ev.round c a s[k]) := by unfold Ev.strikes; rw [List.getElem?_map, hx]; rfl
      have HX := Lib.hid hsx
      obtain ⟨g, off, cs, rfl, hg, hrel, hra⟩ := elem_of _ ok (HR.out _ (C1.out.trans HC.out (fun _ _ h => h))) hx
      generalize s[k] = f at *
      obtain ⟨Af, cf, rfl, -⟩ := slice_form hrel
      have q0 := range_one (o := off + k * 1) hra
      simp only [Nat.mul_one] at q0
      have hgl := HOK.out g hg
      have HRl := Lib.hid hrel
      clear hra hx hg hrel hsx
      have i1 : (k : Int) < (s.length : Int) := by omega
      go_wp2
      go_loopw [10] (fun i wr2 => RdRel c a f wo.heap.size n1 wo i wr2) (fun i _ => n1 - (intOf i).toNat)
      case atStart => exact ⟨0, _, Nat.zero_le _, rfl, heap_new _ _, FArr.congr (FArr.made n1) (fun q _ => by unfold upto; rw [if_neg (by omega)]), (Chg.refl _ _).alloc _⟩
      case round =>
        obtain ⟨p, arr, hp, rfl, hb, hfa, hc2⟩ := hrel
        have HB := Lib.hid hb
        have HFa := Lib.hid hfa
        have HC2 := Lib.hid hc2
        have hgw : g < wo.heap.size := Nat.lt_of_lt_of_le hgl (C1.out.trans HC.out (fun _ _ h => h)).size
        have t0 := (World.cell?_of_block (hc2.block w.heap.size z1 (fun h => h)) (a := ⟨w.heap.size, 0, none⟩)).trans k0
        have t1 := (World.cell?_of_block (hc2.block w.heap.size z1 (fun h => h)) (a := ⟨w.heap.size, 1, none⟩)).trans k1
        have t2 := (World.cell?_of_block (hc2.block w.heap.size z1 (fun h => h)) (a := ⟨w.heap.size, 2, none⟩)).trans k2
        have t3 := (World.cell?_of_block (hc2.block g hgw (fun h => h)) (a := ⟨g, off + k, none⟩)).trans q0
        have z2 := lt_of _ hb
        clear hb hfa hc2 k0 k1 k2 q0
        by_cases hpn : p < n1
        · by_cases hpf : p < f.length
          · have i2 : (p : Int) < (n1 : Int) := by omega
            have i3 : (p : Int) < (f.length : Int) := by omega
            have hxf : f[p]? = some f[p] := List.getElem?_eq_getElem hpf
            have HGf : Hid (f.getD p Fate.zero = f[p]) := by show _ = _; rw [List.getD_eq_getElem?_getD, hxf]; rfl
            go_wp2_with fail
            refine (HS.out _ ((C1.out.trans HC.out (fun _ _ h => h)).trans HC2.out (fun _ _ h => h)) p hpn).mono ?_
            rintro e w4 ⟨rfl, hc4⟩
            have u3 := (World.cell?_of_block (hc4.block g (Nat.lt_of_lt_of_le hgw HC2.out.size) (fun h => h)) (a := ⟨g, off + k, none⟩)).trans t3
            have b4 := hc4.at_ HB.out (fun h => h)
            have HC4 := Lib.hid (HC2.out.trans hc4 (fun _ _ h => h))
            have HB4 := Lib.hid b4
            have z4 := lt_of _ b4
            clear hc4 t0 t1 t2 t3
            cases hs : Ev.seen c a p with
            | true =>
              have HSe := Lib.hid hs
              obtain ⟨gf, of, cs2, rfl, hgf, hr2, ra2⟩ := elem_of _ _ (fatesK.move (w1 := w4) (fun j hj => HC4.out.block j (Nat.lt_of_lt_of_le (HOK.out j hj) (C1.out.trans HC.out (fun _ _ h => h)).size) (fun h => h)) HRl.out) hxf
              replace hr2 : cs2 = fateCs f[p] := hr2
              subst hr2
              have v0 : w4.cell? ⟨gf, of + p * 3, none⟩ = _ := ra2 0 _ rfl
              have v1 : w4.cell? ⟨gf, of + p * 3 + 1, none⟩ = _ := ra2 1 _ rfl
              have v2 : w4.cell? ⟨gf, of + p * 3 + 2, none⟩ = _ := ra2 2 _ rfl
              obtain ⟨x0, y0⟩ : ∃ v, w4.cell? ⟨wo.heap.size, p * 3, none⟩ = some v := ⟨_, cell_at b4 _ (HFa.out.f0 p hpn)⟩
              obtain ⟨x1, y1⟩ : ∃ v, w4.cell? ⟨wo.heap.size, p * 3 + 1, none⟩ = some v := ⟨_, cell_at b4 _ (HFa.out.f1 p hpn)⟩
              obtain ⟨x2, y2⟩ : ∃ v, w4.cell? ⟨wo.heap.size, p * 3 + 2, none⟩ = some v := ⟨_, cell_at b4 _ (HFa.out.f2 p hpn)⟩
              have y3 := free_at b4
              have HN := Lib.hid (upto_yes (c := c) (a := a) (f := f) (p := p) (by have := L1.out; omega) HSe.out hpf)
              rw [HGf.out] at HN
              clear hxf ra2 hgf b4 hs
              generalize f[p] = ff at *
              go_wp2
              go_roundw
              case rel => exact ⟨p + 1, _, hpn, by go_num, heap_set3 HB4.out _ _ _ _, FArr.congr (HFa.out.set hpn ff) (fun q _ => HN.out q), ((HC4.out.set (.inl (Nat.le_refl _))).set (.inl (Nat.le_refl _))).set (.inl (Nat.le_refl _))⟩
              case measure => simp [intOf]; omega
            | false =>
              have HN := Lib.hid (upto_no (c := c) (a := a) (f := f) (p := p) (by have := L1.out; omega) (by rw [hs]; simp))
              clear hs hxf b4
              go_wp2
              go_roundw
              case rel => exact ⟨p + 1, _, hpn, by go_num, HB4.out, FArr.congr HFa.out (fun q _ => HN.out q), HC4.out⟩
              case measure => simp [intOf]; omega
          · have hw0 := HC.out.size
            go_wp2_with (at_builtin; refine ap_push rfl (.tmp 50) (.tmp 52) 35 rfl fatesK w1.heap.size 73 24 (.slice none 0 0) Try.underlying35 info_fates rfl (by decide) (by decide) (.slice Av k cv) ((Ev.strikes c a s).take k) rfl (HO.out.up HC2.out) (Ev.round c a f) _ rfl ?bR ?bL ?bB ?_; (case bR => exact fatesK.mono (fun j hj => by subst hj; exact ⟨by omega, z2, fun he => by have := (HO.out.low _ he).2; omega⟩) (FArr.rel HFa.out HB.out (by rw [round_len]; exact L1.out) (fun q hq => upto_end (by have := L1.out; omega) q (by have := L1.out; omega)))); (case bL => rw [take_len (by simp [Ev.strikes]; omega)]; omega); (case bB => omega); intro v3 w3 o3 g3; obtain ⟨A3, c3, e3⟩ := o3.form; subst e3)
            go_roundw
            case rel => exact ⟨k + 1, by simp [Ev.strikes]; omega, by go_num, by rw [take_snoc HX.out]; have o4 := o3; simp only [List.length_append, List.length_take, List.length_singleton] at o4; exact o4, (HC.out.trans HC2.out (fun _ _ h => h)).trans g3 (fun j hj he => by have := (HO.out.low j he).1; omega)⟩
            case measure => simp [intOf]; omega
        · have hw0 := HC.out.size
          go_wp2_with (at_builtin; refine ap_push rfl (.tmp 50) (.tmp 52) 35 rfl fatesK w1.heap.size 73 24 (.slice none 0 0) Try.underlying35 info_fates rfl (by decide) (by decide) (.slice Av k cv) ((Ev.strikes c a s).take k) rfl (HO.out.up HC2.out) (Ev.round c a f) _ rfl ?bR ?bL ?bB ?_; (case bR => exact fatesK.mono (fun j hj => by subst hj; exact ⟨by omega, z2, fun he => by have := (HO.out.low _ he).2; omega⟩) (FArr.rel HFa.out HB.out (by rw [round_len]; exact L1.out) (fun q hq => upto_end (by have := L1.out; omega) q (by have := L1.out; omega)))); (case bL => rw [take_len (by simp [Ev.strikes]; omega)]; omega); (case bB => omega); intro v3 w3 o3 g3; obtain ⟨A3, c3, e3⟩ := o3.form; subst e3)
          go_roundw
          case rel => exact ⟨k + 1, by simp [Ev.strikes]; omega, by go_num, by rw [take_snoc HX.out]; have o4 := o3; simp only [List.length_append, List.length_take, List.length_singleton] at o4; exact o4, (HC.out.trans HC2.out (fun _ _ h => h)).trans g3 (fun j hj he => by have := (HO.out.low j he).1; omega)⟩
          case measure => simp [intOf]; omega
    · go_wp2
      go_ret
      have hkk : k = s.length := by omega
      have ho := HO.out
      rw [show (Ev.strikes c a s).take k = Ev.strikes c a s by rw [List.take_of_length_le]; simp [Ev.strikes]; omega] at ho
      exact ⟨_, rfl, ho.base_le C1.out.size, C1.out.trans HC.out (fun _ _ h => h)⟩
end
end Go.Proofs.Ytchlolgfahgdeaa.Est
