/- The walk of LabelCloseLeast. Conditions: what comes in reads so, at most 2^20 labels. -/
import Derived.Test.YtdfplhoijapoeaaRx
import Derived.Test.YtdfplhoijapoeaaLpp
set_option linter.unusedVariables false
set_option linter.unusedSimpArgs false
namespace Go.Proofs.Ytdfplhoijapoeaa.Lry
open Go.RowKit Go.Proofs.Ytdfplhoijapoeaa.Lib1 Go.Proofs.Ytdfplhoijapoeaa.Rel Go.Proofs.Ytdfplhoijapoeaa.Lat Go.Proofs.Ytdfplhoijapoeaa.Lbl Go.Proofs.Ytdfplhoijapoeaa.Lbw Go.Proofs.Ytdfplhoijapoeaa.Lck Go.Proofs.Ytdfplhoijapoeaa.Lcb Go.Proofs.Ytdfplhoijapoeaa.Lpl Go.Proofs.Ytdfplhoijapoeaa.Law Go.Proofs.Ytdfplhoijapoeaa.Lwc Go.Proofs.Ytdfplhoijapoeaa.Lkc Go.Proofs.Ytdfplhoijapoeaa.Lis Go.Proofs.Ytdfplhoijapoeaa.Lcm Go.Proofs.Ytdfplhoijapoeaa.Lri Go.Proofs.Ytdfplhoijapoeaa.Lrc Go.Proofs.Ytdfplhoijapoeaa.Lsl Go.Proofs.Ytdfplhoijapoeaa.Lpp Go.Proofs.Ytdfplhoijapoeaa.Lrx

theorem gen_congr {ls ms : List Nat} (h : ∀ x, x ∈ ls ↔ x ∈ ms) {x : Nat} (hg : Gen ls x) : Gen ms x := fun C h1 h2 => hg C (fun y hy => h1 y ((h y).1 hy)) h2
theorem cd_congr {ls ms cs : List Nat} {z : Nat} (h : ∀ x, x ∈ ls ↔ x ∈ ms) (hc : Cd ls cs z) : Cd ms cs z := by
  have hnil : ls = [] ↔ ms = [] := by
    constructor
    · intro e; exact List.eq_nil_iff_forall_not_mem.2 (fun x hx => by have := (h x).2 hx; rw [e] at this; cases this)
    · intro e; exact List.eq_nil_iff_forall_not_mem.2 (fun x hx => by have := (h x).1 hx; rw [e] at this; cases this)
  rcases hc with ⟨h1, h2, h3⟩ | ⟨h1, h2, h3⟩
  · refine .inl ⟨h1, h2, ?_⟩
    rcases h3 with h3 | ⟨T, t1, t2, t3⟩
    · exact .inl (hnil.1 h3)
    · exact .inr ⟨T, t1, t2, fun x hx => gen_congr h (t3 x hx)⟩
  · exact .inr ⟨h1, fun e => h2 (hnil.2 e), h3.srt, h3.nodup, fun x => (h3.iff x).trans ⟨gen_congr h, gen_congr (fun y => (h y).symm)⟩, h3.few⟩
theorem cl_self {ls cs : List Nat} (h : IsCl ls cs) : IsCl cs cs :=
  ⟨h.srt, h.nodup, fun x => ⟨gen_base, fun hg => hg (· ∈ cs) (fun _ h => h) (fun a b ha hb => ⟨(h.iff _).2 (gen_or ((h.iff a).1 ha) ((h.iff b).1 hb)), (h.iff _).2 (gen_and ((h.iff a).1 ha) ((h.iff b).1 hb))⟩)⟩, h.few⟩
theorem cl_has {ls cs : List Nat} (h : IsCl ls cs) {x : Nat} (hx : x ∈ ls) : x ∈ cs := (h.iff x).2 (gen_base hx)
theorem cl_ne {ls cs : List Nat} (h : IsCl ls cs) (hn : ls ≠ []) : cs ≠ [] := by
  intro e
  obtain ⟨x, hx⟩ := List.exists_mem_of_ne_nil ls hn
  have := cl_has h hx
  rw [e] at this; cases this
theorem cl_chk {ls cs : List Nat} (h : IsCl ls cs) (hn : ls ≠ []) : chk cs = 0 := by
  refine chk_zero.2 ⟨?_, h.few, fun i hi => ?_, fun i j hi hj => ?_⟩
  · have := cl_ne h hn
    rcases Nat.eq_zero_or_pos cs.length with h0 | h0
    · exact absurd (List.eq_nil_of_length_eq_zero h0) this
    · exact h0
  · have h1 := h.srt i (i + 1) (by omega) hi
    have h2 : cs.getD i 0 ≠ cs.getD (i + 1) 0 := fun e => by
      rw [List.getD_eq_getElem?_getD, List.getD_eq_getElem?_getD, List.getElem?_eq_getElem (by omega), List.getElem?_eq_getElem hi] at e
      have := (List.getElem_inj h.nodup).1 (by simpa using e)
      omega
    omega
  · have h1 := (h.iff _).1 (mem_getD hi)
    have h2 := (h.iff _).1 (mem_getD hj)
    exact ⟨(h.iff _).2 (gen_or h1 h2), (h.iff _).2 (gen_and h1 h2)⟩
theorem gen_in {ls os : List Nat} (h : chk os = 0) (hs : ∀ x ∈ ls, x ∈ os) {x : Nat} (hg : Gen ls x) : x ∈ os := by
  obtain ⟨_, _, _, hcl⟩ := chk_zero.1 h
  refine hg (· ∈ os) hs (fun a b ha hb => ?_)
  obtain ⟨i, hi, rfl⟩ := List.getElem_of_mem ha
  obtain ⟨j, hj, rfl⟩ := List.getElem_of_mem hb
  have := hcl i j hi hj
  rw [List.getD_eq_getElem?_getD, List.getD_eq_getElem?_getD, List.getElem?_eq_getElem hi, List.getElem?_eq_getElem hj] at this
  exact this
theorem no_big {ls os : List Nat} (h : chk os = 0) (hs : ∀ x ∈ ls, x ∈ os) (hb : Big ls) : False := by
  obtain ⟨T, h1, h2, h3⟩ := hb
  have := Lcl.len_le T os h1 (fun x hx => gen_in h hs (h3 x hx))
  have := (chk_zero.1 h).2.1
  omega

/-- Whether the other one may still have all. -/
def Wh (os ls : List Nat) (b : Bool) (i : Nat) : Prop := b = true → chk os = 0 ∧ ∀ j, j < i → ls.getD j 0 ∈ os
/-- The doubled list while its first half is written over. -/
structure Tw (ls cs : List Nat) : Prop where
  len : cs.length = ls.length + ls.length
  sub : ∀ x ∈ cs, x ∈ ls
  two : ∀ j, j < ls.length → cs.getD (ls.length + j) 0 = ls.getD j 0
theorem Tw.set {ls cs : List Nat} (h : Tw ls cs) {i x : Nat} (hi : i < ls.length) (hx : x ∈ ls) : Tw ls (cs.set i x) :=
  ⟨by rw [List.length_set]; exact h.len, fun y hy => (List.mem_or_eq_of_mem_set hy).elim (h.sub y) (fun e => e ▸ hx), fun j hj => by
    rw [List.getD_eq_getElem?_getD, List.getElem?_set_ne (by omega), ← List.getD_eq_getElem?_getD]; exact h.two j hj⟩
theorem Tw.mem {ls cs : List Nat} (h : Tw ls cs) (x : Nat) : x ∈ ls ↔ x ∈ cs := by
  refine ⟨fun hx => ?_, h.sub x⟩
  obtain ⟨j, hj, rfl⟩ := List.getElem_of_mem hx
  have := h.two j hj
  rw [List.getD_eq_getElem?_getD (l := ls), List.getElem?_eq_getElem hj] at this
  simp only [Option.getD_some] at this
  rw [← this]
  exact mem_getD (by have := h.len; omega)
theorem Tw.start (ls : List Nat) : Tw ls (ls ++ ls) :=
  ⟨by simp, fun x hx => (List.mem_append.1 hx).elim id id, fun j hj => by
    rw [List.getD_eq_getElem?_getD, List.getElem?_append_right (by omega), Nat.add_sub_cancel_left, ← List.getD_eq_getElem?_getD]⟩
theorem sa_set {arr : Array Value} {cs : List Nat} (h : SA arr cs) (i x : Nat) : SA (arr.setIfInBounds i (.int .u64 (x : Int))) (cs.set i x) := fun q hq => by
  rw [List.length_set] at hq
  have hs : q < arr.size := (Array.getElem?_eq_some_iff.1 (h q hq)).1
  by_cases e : q = i
  · subst e
    rw [Array.getElem?_setIfInBounds_self_of_lt hs, List.getD_eq_getElem?_getD, List.getElem?_set_self hq]; rfl
  · rw [Array.getElem?_setIfInBounds_ne (Ne.symm e), List.getD_eq_getElem?_getD, List.getElem?_set_ne (Ne.symm e), ← List.getD_eq_getElem?_getD]; exact h q hq
/-- Where the doubled list lies. -/
def TwAt (ls : List Nat) (base : Nat) (A : Option Addr) (c : Nat) (wr : World) : Prop :=
  ls = [] ∨ ∃ g arr cs, A = some ⟨g, 0, none⟩ ∧ base ≤ g ∧ ls.length + ls.length ≤ c ∧ wr.heap[g]? = some (.cells arr 23 (0, 0)) ∧ SA arr cs ∧ Tw ls cs
theorem place_yes (ls : List Nat) (x : Nat) (A : Option Addr) (n c : Nat) (w : World) (ok : Nat → Prop) (h : Rd ok w A n c 1 (us ls)) (hn : n ≤ 9223372036854775807) (hx : x ∈ ls) :
    Calls Try.prog 41 #[.slice A n c, .int .u64 x] w fun e w' => (∃ p : Int, e = .returned (.tuple #[.int .i64 p, .bool true])) ∧ w = w' :=
  (place_any ls x A n c w ok h hn).mono (fun e w' h => ⟨⟨max 0 (place ls x), by rw [h.1, show decide (0 ≤ place ls x) = true from decide_eq_true (place_mem.2 hx)]⟩, h.2⟩)
theorem place_no (ls : List Nat) (x : Nat) (A : Option Addr) (n c : Nat) (w : World) (ok : Nat → Prop) (h : Rd ok w A n c 1 (us ls)) (hn : n ≤ 9223372036854775807) (hx : x ∉ ls) :
    Calls Try.prog 41 #[.slice A n c, .int .u64 x] w fun e w' => (∃ p : Int, e = .returned (.tuple #[.int .i64 p, .bool false])) ∧ w = w' :=
  (place_any ls x A n c w ok h hn).mono (fun e w' h => ⟨⟨max 0 (place ls x), by rw [h.1, show decide (0 ≤ place ls x) = false from decide_eq_false (fun h => hx (place_mem.1 h))]⟩, h.2⟩)

set_option maxRecDepth 100000 in
set_option maxHeartbeats 6400000 in
theorem least_walk {ok ok' : Nat → Prop} {w : World} (ls os : List Nat) (A : Option Addr) (n c : Nat) (h : labsK.rel ok w ls [.slice A n c]) (hok : ∀ k, ok k → k < w.heap.size) (hf : labsK.fits ls)
    (B : Option Addr) (m d : Nat) (h' : labsK.rel ok' w os [.slice B m d]) (hok' : ∀ k, ok' k → k < w.heap.size) (hf' : labsK.fits os) (hN : n ≤ 1048576) :
    Calls Try.prog 12 #[.slice A n c, .slice B m d] w fun e w' => e = .returned (.bool true) ∧ Below w.heap.size w w' := by
  obtain ⟨hr, hn, hl⟩ := labs_rd h hf
  obtain ⟨hr', hn', hl'⟩ := labs_rd h' hf'
  have HL : Hid (ls.length = n) := by have := hr.len; rw [us_len] at this; show _ = _; omega
  have HM : Hid (os.length = m) := by have := hr'.len; rw [us_len] at this; show _ = _; omega
  have HR : Hid (∀ w', Chg (fun _ => False) w w' → Rd (fun k => k < w.heap.size) w' A n c 1 (us ls)) := fun w' hc => (hr.mono hok).move (fun k hk => hc.block k hk (fun h => h))
  have HS : Hid (∀ w', Chg (fun _ => False) w w' → Rd (fun k => k < w.heap.size) w' B m d 1 (us os)) := fun w' hc => (hr'.mono hok').move (fun k hk => hc.block k hk (fun h => h))
  have HB := Lib.hid hl
  have HB' := Lib.hid hl'
  clear h hr hl hf hok h' hr' hl' hf' hok'
  go_enter Try.func12, Try.ntmps12
  go_wp2_with fail
  refine (awake_any _).mono ?_
  rintro e w1 ⟨rfl, hc⟩
  have C1 := Lib.hid hc
  clear hc
  have H1 := Lib.hid (close_cd ls A n c w1 ((HR.out _ C1.out).mono (fun k hk => Nat.lt_of_lt_of_le hk C1.out.size)) hn HB.out)
  go_wp2_with fail
  refine H1.out.mono ?_
  clear H1
  rintro e w2 ⟨A1, c1, cs, z, rfl, d1, r1, hc⟩
  have C2 : Hid (Chg (fun _ => False) w w2) := C1.out.trans hc (fun _ _ h => h)
  have D1 := Lib.hid d1
  have HP : Hid (∀ w', Chg (fun _ => False) w2 w' → Rd (fun k => k < w2.heap.size) w' A1 cs.length c1 1 (us cs)) := fun w' hc' => (r1.mono (fun k hk => hk.2)).move (fun k hk => hc'.block k hk (fun h => h))
  have HFEW : Hid (cs.length ≤ 16) := by
    rcases d1 with ⟨_, h2, _⟩ | ⟨_, _, h2⟩
    · rw [h2]; exact Nat.zero_le _
    · exact h2.few
  clear hc d1 r1 C1
  have HRR : Hid (∀ w', Chg (fun _ => False) w2 w' → Rd (fun _ => True) w' A n c 1 (us ls)) := fun w' hc' => (HR.out w' (C2.out.trans hc' (fun _ _ h => h))).any
  have HO := Lib.hid (us_one ls)
  go_wp2_with (first
    | (at_builtin; refine ap_src rfl (Operand.const (.slice none 0 0)) (.tmp 30) 28 rfl w2.heap.size 23 1 8 (.int .u64 0) Try.underlying28 infoL rfl (by decide) (by decide) (.slice none 0 0) 0 [] rfl (World.ownsRow_nil _ _ _ _) A n c (us ls) rfl (HRR.out _ (Chg.refl _ _)) HO.out (by omega) (Nat.le_refl _) ?_; intro v3 w3 o3 g3 r3; have C23 : Hid (Chg (fun _ => False) w2 w3) := (Chg.refl _ w2).of_grown g3 (fun k hk => by simp [Value.ownBlock] at hk); have S3 := C23.out.size; have O3 := Lib.hid o3; clear o3 g3 r3)
    | (at_builtin; refine ap_src rfl (.tmp 31) (.tmp 32) 28 rfl w2.heap.size 23 1 8 (.int .u64 0) Try.underlying28 infoL rfl (by decide) (by decide) v3 (0 + n) _ rfl O3.out A n c (us ls) rfl (HRR.out _ C23.out) HO.out (by omega) S3 ?_; intro v4 w4 o4 g4 r4; have C24 : Hid (Chg (fun _ => False) w2 w4) := C23.out.of_grown g4 (fun k hk => .inl (O3.out.lt k hk).1); have O4 := Lib.hid o4; clear o4 g4 r4)
    | go_in)
  obtain ⟨A4, c4, rfl, R4⟩ := Rd.of_own O4.out
  have TW : Hid (TwAt ls w2.heap.size A4 c4 w4) := by
    rcases O4.out.2 with ⟨hv, hz⟩ | ⟨g, c1, cur, hv, hb, hg, hn1, hcm, hs, ht⟩
    · exact .inl (List.eq_nil_of_length_eq_zero (by rw [HL.out]; omega))
    · simp only [Value.slice.injEq] at hv
      obtain ⟨hv1, _, hv2⟩ := hv
      refine .inr ⟨g, cur, ls ++ ls, hv1, hb, by rw [HL.out, hv2]; omega, hg, ?_, Tw.start ls⟩
      refine sa_of_own (w := w4) (g := g) ?_
      rw [show (ls ++ ls).length = 0 + n + n by rw [List.length_append, HL.out]; omega, ht]
      simp [us]
  have C4 := Lib.hid C24.out
  have HNIL : Hid (ls = [] → Rd (fun _ => True) w4 A4 (0 + n + n) c4 1 (us [])) := fun e => by
    have := R4.any
    rw [e] at this
    exact this
  have hwid : 0 + n + n = n + n := by omega
  clear O4 O3 C23 C24 S3 R4 HRR HO
  rw [hwid] at HNIL ⊢
  clear hwid
  go_loopw [8] (fun i wr => ∃ k : Nat, k ≤ n ∧ i = .int .i64 k ∧ TwAt ls w2.heap.size A4 c4 wr ∧ Chg (fun _ => False) w2 wr ∧ (ls = [] → Rd (fun _ => True) wr A4 (n + n) c4 1 (us []))) (fun i _ => n - (intOf i).toNat)
  case atStart => exact ⟨0, by omega, rfl, TW.out, C4.out, HNIL.out⟩
  case round =>
    clear TW C4 HNIL
    obtain ⟨k, hk, rfl, htw, hch, hnil⟩ := hrel
    obtain ⟨wa, rfl⟩ : ∃ wa : World, wa = wr := ⟨_, rfl⟩
    have HC := Lib.hid hch
    have HTW := Lib.hid htw
    have HNIL := Lib.hid hnil
    clear htw hch hnil
    by_cases hlt : k < n
    · rcases HTW.out with e | ⟨g, arr, cs2, e, hg, hcc, hb, hs, htt⟩
      · rw [e] at HL; have := HL.out; simp at this; omega
      · subst e
        obtain ⟨b, off, rfl, hbk, hcell⟩ := rd_us (HR.out wa (C2.out.trans HC.out (fun _ _ h => h))) (by omega)
        obtain ⟨r, hr⟩ : ∃ r : Nat, r = n - 1 - k := ⟨_, rfl⟩
        have f1 := hcell r (by omega)
        have e1 : IntKind.i64.wrap ((n : Int) - 1) = (n : Int) - 1 := by rw [IntKind.wrap_i64]; omega
        have e2 : (n : Int) - 1 - (k : Int) = (r : Int) := by omega
        have i2 : (r : Int) < (n : Int) := by omega
        have hsz := htt.len
        obtain ⟨u, hu0⟩ : ∃ u, arr[k]? = some u := ⟨_, hs k (by rw [hsz, HL.out]; omega)⟩
        have f2 := cell_at hb k hu0
        have f3 := free_at hb k
        obtain ⟨x, hx⟩ : ∃ x, x = ls.getD r 0 := ⟨_, rfl⟩
        rw [← hx] at f1
        have HT2 : Hid (Tw ls (cs2.set k x)) := htt.set (by rw [HL.out]; exact hlt) (by rw [hx]; exact mem_getD (by rw [HL.out]; omega))
        have HS2 := Lib.hid (sa_set hs k x)
        have HB2 := Lib.hid (heap_set hb k (.int .u64 (x : Int)))
        have HLN := Lib.hid HL.out
        have hlen0 := HL.out
        have hcc2 : n + n ≤ c4 := by omega
        have hkk : (k : Int) < ((n + n : Nat) : Int) := by omega
        have hgw : w2.heap.size ≤ g := hg
        clear hr hcell hbk hsz hu0 hx htt hs hb hlen0
        go_wp2
        go_roundw
        case rel => exact ⟨k + 1, hlt, by go_num, .inr ⟨g, _, _, rfl, hgw, by rw [HLN.out]; exact hcc2, HB2.out, HS2.out, HT2.out⟩, HC.out.set (.inl hgw), fun e => absurd (congrArg List.length e) (by rw [HLN.out]; simp; omega)⟩
        case measure => simp [intOf]; omega
    · have hkn : k = n := by omega
      subst hkn
      have HMS : Hid (∃ ms, (∀ x, x ∈ ls ↔ x ∈ ms) ∧ Rd (fun j => j < wa.heap.size) wa A4 (k + k) c4 1 (us ms)) := by
        rcases HTW.out with e | ⟨g, arr, cs2, e, hg, hcc, hb, hs, htt⟩
        · have h0 : k = 0 := by have := HL.out; rw [e] at this; simpa using this.symm
          have hq := HNIL.out e
          exact ⟨[], fun x => by rw [e], hq.len, hq.cap, hq.nil, fun hp => absurd hp (by omega)⟩
        · have hl2 := htt.len
          rw [HL.out] at hl2 hcc
          have := rd_of_sa (c := c4) hb hs (by omega)
          rw [hl2, ← e] at this
          exact ⟨cs2, htt.mem, this.mono (fun j hj => by subst hj; exact lt_of _ hb)⟩
      obtain ⟨ms, hms, hrm⟩ := HMS.out
      have HMM := Lib.hid hms
      have H5 := Lib.hid (close_cd ms A4 (k + k) c4 wa hrm (by omega) (fun x hx => HB.out x ((hms x).2 hx)))
      clear hms hrm HMS HTW HNIL
      go_wp2_with fail
      refine H5.out.mono ?_
      clear H5
      rintro e w5 ⟨A5, c5, cs5, z5, rfl, d5, r5, hc⟩
      obtain ⟨rfl, rfl⟩ := D1.out.unique (cd_congr (fun x => (HMM.out x).symm) d5)
      have C5 : Hid (Chg (fun _ => False) w2 w5) := HC.out.trans hc (fun _ _ h => h)
      have HP5 : Hid (∀ w', Chg (fun _ => False) w5 w' → Rd (fun k => k < w5.heap.size) w' A5 cs.length c5 1 (us cs)) := fun w' hc' => (r5.mono (fun k hk => hk.2)).move (fun k hk => hc'.block k hk (fun h => h))
      clear hc d5 r5 HC
      have hne : ((z : Int) != (z : Int)) = false := by simp
      have hfew := HFEW.out
      have H6 := Lib.hid (plain_any cs A1 cs.length c1 (HP.out w5 C5.out) (fun j hj => Nat.lt_of_lt_of_le hj C5.out.size) (by omega))
      go_wp2_with fail
      refine H6.out.mono ?_
      clear H6
      rintro e w6 ⟨v6, rfl, o6, hc⟩
      obtain ⟨A6, c6, rfl, r6⟩ := Rd.of_own o6
      have H7 := Lib.hid (same_eq cs A5 A6 cs.length cs.length c5 c6 w6 _ _ (HP5.out w6 hc) r6 (by omega) (by omega))
      have C6 : Hid (Chg (fun _ => False) w2 w6) := C5.out.trans hc (fun _ _ h => h)
      clear o6 hc r6 HP5 C5
      go_wp2_with fail
      refine H7.out.mono ?_
      clear H7
      rintro e w7 ⟨rfl, q7, hq7⟩
      have C7 : Hid (Chg (fun _ => False) w2 w7) := by rw [hq7]; exact C6.out.drewN _
      clear hq7 C6
      obtain ⟨co, hco⟩ : ∃ co, co = chk os := ⟨_, rfl⟩
      have HCO := Lib.hid hco
      have H8 := Lib.hid (check_any os B m d w7 _ (HS.out w7 (C2.out.trans C7.out (fun _ _ h => h))) HB'.out (by omega))
      rw [← hco] at H8
      clear hco
      go_wp2_with fail
      refine H8.out.mono ?_
      clear H8
      rintro e w8 ⟨rfl, q8, hq8⟩
      have C8 : Hid (Chg (fun _ => False) w2 w8) := by rw [hq8]; exact C7.out.drewN _
      clear hq8 C7
      go_wp2
      go_loopw [11, 12] (fun b i wr => ∃ (bb : Bool) (j : Nat), j ≤ k ∧ b = .bool bb ∧ i = .int .i64 j ∧ Wh os ls bb j ∧ wr = w8) (fun _ i _ => k - (intOf i).toNat)
      case atStart => exact ⟨co == 0, 0, by omega, rfl, rfl, fun hb => ⟨by rw [← HCO.out]; simpa using hb, fun j hj => absurd hj (by omega)⟩, rfl⟩
      case round =>
        obtain ⟨bb, j, hj, rfl, rfl, hwh, rfl⟩ := hrel
        have HWH := Lib.hid hwh
        clear hwh
        by_cases hjk : j < k
        · obtain ⟨b, off, rfl, hbk, hcell⟩ := rd_us (HR.out wr (C2.out.trans C8.out (fun _ _ h => h))) (by omega)
          have f1 := hcell j hjk
          obtain ⟨x, hx⟩ : ∃ x, x = ls.getD j 0 := ⟨_, rfl⟩
          rw [← hx] at f1
          have HX := Lib.hid hx
          clear hcell hbk hx
          by_cases hin : x ∈ os
          · have HIN := Lib.hid hin
            have H9 := Lib.hid (place_yes os x B m d wr _ (HS.out wr (C2.out.trans C8.out (fun _ _ h => h))) (by omega) hin)
            clear hin
            go_wp2_with fail
            refine H9.out.mono ?_
            rintro e w9 ⟨⟨p, rfl⟩, rfl⟩
            go_wp2
            go_roundw
            case rel => exact ⟨bb, j + 1, hjk, rfl, by go_num, fun hb => ⟨(HWH.out hb).1, fun i hi => by
              by_cases e : i = j
              · rw [e, ← HX.out]; exact HIN.out
              · exact (HWH.out hb).2 i (by omega)⟩, trivial⟩
            case measure => simp [intOf]; omega
          · have H9 := Lib.hid (place_no os x B m d wr _ (HS.out wr (C2.out.trans C8.out (fun _ _ h => h))) (by omega) hin)
            clear hin
            go_wp2_with fail
            refine H9.out.mono ?_
            rintro e w9 ⟨⟨p, rfl⟩, rfl⟩
            go_wp2
            go_roundw
            case rel => exact ⟨false, j + 1, hjk, rfl, by go_num, (fun hb => by cases hb), trivial⟩
            case measure => simp [intOf]; omega
        · have hjk2 : j = k := by omega
          subst hjk2
          have HIN : Hid (bb = true → chk os = 0 ∧ ∀ x ∈ ls, x ∈ os) := fun hb => ⟨(HWH.out hb).1, fun x hx => by
            obtain ⟨i, hi, rfl⟩ := List.getElem_of_mem hx
            have := (HWH.out hb).2 i (by rw [← HL.out]; exact hi)
            rwa [List.getD_eq_getElem?_getD, List.getElem?_eq_getElem hi] at this⟩
          clear HWH
          rcases D1.out with ⟨h1, h2, h3⟩ | ⟨h1, h2, h3⟩
          · subst h2
            obtain rfl : z = 10 := h1
            have HFIN : Hid ((!bb || decide (ls = [])) = true) := by
              show _ = _
              cases bb with
              | false => rfl
              | true =>
                rcases h3 with h3 | h3
                · simp [h3]
                · exact (no_big (HIN.out rfl).1 (HIN.out rfl).2 h3).elim
            have hC9 := Lib.hid (C2.out.trans C8.out (fun _ _ h => h))
            clear h3 D1
            by_cases hls : ls = []
            · have h0 : j = 0 := by have := HL.out; rw [hls] at this; simpa using this.symm
              subst h0
              have HLS := Lib.hid hls
              clear hls
              cases bb
              all_goals
                go_wp2
                go_ret
                exact ⟨rfl, hC9.out.below⟩
            · have hbb : bb = false := by
                have := HFIN.out
                simp [hls] at this
                exact this
              subst hbb
              clear hls
              go_wp2
              go_ret
              exact ⟨rfl, hC9.out.below⟩
          · obtain rfl : z = 0 := h1
            have HNE := Lib.hid h2
            have HCL := Lib.hid h3
            have HCK := Lib.hid (cl_chk h3 h2)
            have hz : ((0 : Int) != 0) = false := by decide
            have HB2 : Hid (∀ x ∈ cs, x < B64) := fun x hx => gen_64 HB.out ((h3.iff x).1 hx)
            have HSF : Hid (Cd cs cs 0) := .inr ⟨rfl, cl_ne h3 h2, cl_self h3⟩
            clear h2 h3 D1
            have H9 := Lib.hid (close_cd cs A1 cs.length c1 wr ((HP.out wr C8.out).mono (fun k hk => Nat.lt_of_lt_of_le hk C8.out.size)) (by omega) HB2.out)
            go_wp2_with fail
            refine H9.out.mono ?_
            clear H9
            rintro e w9 ⟨A9, c9, cs9, z9, rfl, d9, r9, hc⟩
            obtain ⟨rfl, rfl⟩ := HSF.out.unique d9
            have C9 : Hid (Chg (fun _ => False) w2 w9) := C8.out.trans hc (fun _ _ h => h)
            have HP9 : Hid (∀ w', Chg (fun _ => False) w9 w' → Rd (fun k => k < w9.heap.size) w' A9 cs.length c9 1 (us cs)) := fun w' hc' => (r9.mono (fun k hk => hk.2)).move (fun k hk => hc'.block k hk (fun h => h))
            clear hc d9 r9 C8
            have H10 := Lib.hid (check_any cs A1 cs.length c1 w9 _ (HP.out w9 C9.out) HB2.out (by omega))
            rw [HCK.out] at H10
            go_wp2_with fail
            refine H10.out.mono ?_
            clear H10
            rintro e w10 ⟨rfl, q10, hq10⟩
            have C910 : Hid (Chg (fun _ => False) w9 w10) := by rw [hq10]; exact (Chg.refl _ w9).drewN _
            have C10 : Hid (Chg (fun _ => False) w2 w10) := C9.out.trans C910.out (fun _ _ h => h)
            clear hq10 C9
            have H11 := Lib.hid (plain_any cs A1 cs.length c1 (HP.out w10 C10.out) (fun j hj => Nat.lt_of_lt_of_le hj C10.out.size) (by omega))
            go_wp2_with fail
            refine H11.out.mono ?_
            clear H11
            rintro e w11 ⟨v11, rfl, o11, hc⟩
            obtain ⟨A11, c11, rfl, r11⟩ := Rd.of_own o11
            have H12 := Lib.hid (same_eq cs A9 A11 cs.length cs.length c9 c11 w11 _ _ (HP9.out w11 (C910.out.trans hc (fun _ _ h => h))) r11 (by omega) (by omega))
            have C11 : Hid (Chg (fun _ => False) w2 w11) := C10.out.trans hc (fun _ _ h => h)
            clear o11 hc r11 HP9 C10 C910
            go_wp2_with fail
            refine H12.out.mono ?_
            clear H12
            rintro e w12 ⟨rfl, q12, hq12⟩
            have C12 : Hid (Chg (fun _ => False) w2 w12) := by rw [hq12]; exact C11.out.drewN _
            clear hq12 C11
            go_wp2
            go_loopw [17] (fun i wr => ∃ i' : Nat, i' ≤ j ∧ i = .int .i64 i' ∧ wr = w12) (fun i _ => j - (intOf i).toNat)
            case atStart => exact ⟨0, by omega, rfl, rfl⟩
            case round =>
              obtain ⟨i', hi', rfl, rfl⟩ := hrel
              by_cases hij : i' < j
              · obtain ⟨b, off, rfl, hbk, hcell⟩ := rd_us (HR.out wr (C2.out.trans C12.out (fun _ _ h => h))) (by omega)
                have f1 := hcell i' hij
                obtain ⟨x, hx⟩ : ∃ x, x = ls.getD i' 0 := ⟨_, rfl⟩
                rw [← hx] at f1
                have H13 := Lib.hid (place_yes cs x A1 cs.length c1 wr _ (HP.out wr C12.out) (by omega) (cl_has HCL.out (by rw [hx]; exact mem_getD (by rw [HL.out]; exact hij))))
                clear hcell hbk hx
                go_wp2_with fail
                refine H13.out.mono ?_
                rintro e w9 ⟨⟨p, rfl⟩, rfl⟩
                go_wp2
                go_roundw
                case rel => exact ⟨i' + 1, hij, by go_num, trivial⟩
                case measure => simp [intOf]; omega
              · obtain ⟨wz, rfl⟩ : ∃ wz : World, wz = wr := ⟨_, rfl⟩
                go_wp2
                go_loopw [20] (fun i wr => ∃ i' : Nat, i' ≤ cs.length ∧ i = .int .i64 i' ∧ wr = wz) (fun i _ => cs.length - (intOf i).toNat)
                case atStart => exact ⟨0, by omega, rfl, rfl⟩
                case round =>
                  obtain ⟨i2, hi2, rfl, rfl⟩ := hrel
                  by_cases hij2 : i2 < cs.length
                  · obtain ⟨b, off, eA, hbk, hcell⟩ := rd_us (HP.out wr C12.out) (by omega)
                    subst eA
                    have f1 := hcell i2 hij2
                    obtain ⟨x, hx⟩ : ∃ x, x = cs.getD i2 0 := ⟨_, rfl⟩
                    rw [← hx] at f1
                    have HXG : Hid (Gen ls x) := by rw [hx]; exact (HCL.out.iff _).1 (mem_getD hij2)
                    have HPA := Lib.hid (place_any os x B m d wr _ (HS.out wr (C2.out.trans C12.out (fun _ _ h => h))) (by omega))
                    have HPY : Hid (bb = true → decide (0 ≤ place os x) = true) := fun hb => decide_eq_true (place_mem.2 (gen_in (HIN.out hb).1 (HIN.out hb).2 HXG.out))
                    clear hcell hbk hx
                    obtain ⟨db, hdb⟩ : ∃ db, db = decide (0 ≤ place os x) := ⟨_, rfl⟩
                    obtain ⟨pb, hpb⟩ : ∃ pb, pb = max 0 (place os x) := ⟨_, rfl⟩
                    rw [← hdb, ← hpb] at HPA
                    rw [← hdb] at HPY
                    clear hdb hpb
                    go_wp2_with fail
                    refine HPA.out.mono ?_
                    rintro e w9 ⟨rfl, rfl⟩
                    cases bb with
                    | false =>
                      go_wp2
                      go_roundw
                      case rel => exact ⟨i2 + 1, hij2, by go_num, trivial⟩
                      case measure => simp [intOf]; omega
                    | true =>
                      obtain rfl : db = true := HPY.out rfl
                      go_wp2
                      go_roundw
                      case rel => exact ⟨i2 + 1, hij2, by go_num, trivial⟩
                      case measure => simp [intOf]; omega
                  · go_wp2
                    go_ret
                    exact ⟨rfl, (C2.out.trans C12.out (fun _ _ h => h)).below⟩
end Go.Proofs.Ytdfplhoijapoeaa.Lry
