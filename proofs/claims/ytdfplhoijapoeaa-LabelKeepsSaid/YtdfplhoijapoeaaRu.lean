/- The document's Below, between, unlike, by contract. Conditions: the row reads so, labels below 2^64. -/
import Derived.Test.YtdfplhoijapoeaaCv
set_option linter.unusedVariables false
set_option linter.unusedSimpArgs false
namespace Go.Proofs.Ytdfplhoijapoeaa.Lru
open Go.RowKit Go.Proofs.Ytdfplhoijapoeaa.Lib1 Go.Proofs.Ytdfplhoijapoeaa.Lat Go.Proofs.Ytdfplhoijapoeaa.Lbl Go.Proofs.Ytdfplhoijapoeaa.Lbw Go.Proofs.Ytdfplhoijapoeaa.Lck Go.Proofs.Ytdfplhoijapoeaa.Lcb Go.Proofs.Ytdfplhoijapoeaa.Lpl

theorem rbelow_any (a b : Nat) (w : World) (ha : a < B64) (hb : b < B64) :
    Calls Try.prog 59 #[.int .u64 a, .int .u64 b] w fun e w' => e = .returned (.bool (bel a b)) ∧ w = w' := by
  have h1 := u64_and_nat a b ha hb
  have h2 : ((((a &&& b : Nat) : Int)) == (a : Int)) = leq a b := by
    unfold leq; rw [Bool.eq_iff_iff]; simp only [beq_iff_eq]; omega
  by_cases h : a = b
  · subst h
    have hne : ((a : Int) != (a : Int)) = false := by simp
    go_enter Try.func59, Try.ntmps59
    go_wp2
    go_ret
    exact ⟨ret_bool (by simp [bel]), rfl⟩
  · have e1 : ((a : Int) == (b : Int)) = false := by rw [beq_eq_false_iff_ne]; omega
    have hne : ((a : Int) != (b : Int)) = true := by rw [bne, e1]; rfl
    have h3 : bel a b = leq a b := by simp [bel, h]
    have H3 := Lib.hid h3
    have H2 := Lib.hid h2
    clear h2 h3
    go_enter Try.func59, Try.ntmps59
    go_wp2
    go_ret
    exact ⟨ret_bool (by rw [H3.out, ← H2.out]), rfl⟩

section
variable (ls : List Nat) (A : Option Addr) (n c : Nat) (w : World) (ok : Nat → Prop) (a b : Nat)
set_option maxRecDepth 100000 in
set_option maxHeartbeats 1600000 in
theorem rbetween_any (h : Rd ok w A n c 1 (us ls)) (hn : n ≤ 9223372036854775807) (ha : a < B64) (hb : b < B64) (hl : ∀ x ∈ ls, x < B64) :
    Calls Try.prog 65 #[.slice A n c, .int .u64 a, .int .u64 b] w fun e w' => e = .returned (.bool (ls.any (btw a b))) ∧ w = w' := by
  have HL : Hid (ls.length = n) := by have := h.len; rw [us_len] at this; show _ = _; omega
  have HR := Lib.hid (fun hp => rd_us h hp)
  have H64 : Hid (∀ k, k < ls.length → ls.getD k 0 < B64) := fun k hk => hl _ (by rw [List.getD_eq_getElem?_getD, List.getElem?_eq_getElem hk]; simp)
  clear h hl
  go_enter Try.func65, Try.ntmps65
  go_wp2
  go_loop [7] (fun i => ∃ k : Nat, k ≤ n ∧ i = .int .i64 k ∧ ∀ j, j < k → btw a b (ls.getD j 0) = false) (fun i => n - (intOf i).toNat)
  case atStart => exact ⟨0, by omega, rfl, fun j hj => absurd hj (by omega)⟩
  case round =>
    obtain ⟨k, hk, rfl, hall⟩ := hrel
    have HA := Lib.hid hall
    clear hall
    by_cases hlt : k < n
    · obtain ⟨bb, off, rfl, _, hc⟩ := HR.out (by omega)
      have hck := hc k hlt
      clear hc
      obtain ⟨x, hx⟩ : ∃ x, x = ls.getD k 0 := ⟨_, rfl⟩
      rw [← hx] at hck
      have hx64 : x < B64 := by rw [hx]; exact H64.out k (by have := HL.out; omega)
      have HX := Lib.hid hx
      clear hx
      have HB1 := Lib.hid (rbelow_any a x w ha hx64)
      have HB2 := Lib.hid (rbelow_any x b w hx64 hb)
      have HE : Hid (btw a b x = (bel a x && bel x b)) := by show _ = _; rfl
      cases h1 : bel a x with
      | false =>
        rw [h1] at HB1 HE
        go_wp2_with fail
        refine HB1.out.mono ?_
        rintro e w1 ⟨rfl, rfl⟩
        go_wp2
        go_round
        case rel => exact ⟨k + 1, hlt, by go_num, fun j hj => by
          by_cases hj' : j < k
          · exact HA.out j hj'
          · rw [show j = k by omega, ← HX.out]; exact HE.out⟩
        case measure => simp [intOf]; omega
      | true =>
        rw [h1] at HB1 HE
        cases h2 : bel x b with
        | true =>
          rw [h2] at HB2 HE
          go_wp2_with fail
          refine HB1.out.mono ?_
          rintro e w1 ⟨rfl, rfl⟩
          go_wp2_with fail
          refine HB2.out.mono ?_
          rintro e w1 ⟨rfl, rfl⟩
          go_wp2
          go_ret
          refine ⟨ret_bool ?_, rfl⟩
          symm
          rw [List.any_eq_true]
          have hkl : k < ls.length := by have := HL.out; omega
          refine ⟨ls.getD k 0, ?_, by rw [← HX.out]; exact HE.out⟩
          rw [List.getD_eq_getElem?_getD, List.getElem?_eq_getElem hkl]; simp
        | false =>
          rw [h2] at HB2 HE
          go_wp2_with fail
          refine HB1.out.mono ?_
          rintro e w1 ⟨rfl, rfl⟩
          go_wp2_with fail
          refine HB2.out.mono ?_
          rintro e w1 ⟨rfl, rfl⟩
          go_wp2
          go_round
          case rel => exact ⟨k + 1, hlt, by go_num, fun j hj => by
            by_cases hj' : j < k
            · exact HA.out j hj'
            · rw [show j = k by omega, ← HX.out]; exact HE.out⟩
          case measure => simp [intOf]; omega
    · go_wp2
      go_ret
      refine ⟨ret_bool ?_, rfl⟩
      symm
      rw [Bool.eq_false_iff]
      intro hany
      rw [List.any_eq_true] at hany
      obtain ⟨x, hx, hb⟩ := hany
      obtain ⟨j, hj, rfl⟩ := List.getElem_of_mem hx
      have := HA.out j (by have := HL.out; omega)
      rw [List.getD_eq_getElem?_getD, List.getElem?_eq_getElem hj] at this
      simp only [Option.getD_some] at this
      rw [this] at hb; cases hb
end

theorem info_int : (Try.prog.info? 3).map (fun i => (i.zero, i.size, i.bytes)) = some (some (.int .i64 0), 1, 8) := by kernel_rfl
theorem make_int (n : Nat) (hn : n * 8 ≤ 140737488351232) (W : World) : (Instr.makeSlice 30 (.int .i64 (n : Int)) (.int .i64 (n : Int))).run Try.prog W = .ok (.slice (some ⟨W.heap.size, 0, none⟩) n n) (W.alloc (.cells (madeCells #[.int .i64 0] n) 3)) := by
  obtain ⟨i0, hi, hz0, hz1, hz2⟩ := info_parts info_int
  have hb : (i0.bytes : Int) * (n : Int) ≤ 281474976710656 := by rw [hz2]; omega
  have hr := run_make (P := Try.prog) W 30 3 i0 _ Try.underlying30 hi hz0 .i64 .i64 n n (by omega) (by omega) hb (by omega)
  rw [hz1] at hr
  simp only [Int.toNat_natCast, Nat.mul_one] at hr
  exact hr

/-- Where each one of the first k stands among ss. -/
structure AtArr (arr : Array Value) (ss ls : List Nat) (k : Nat) : Prop where
  size : arr.size = ls.length
  at_ : ∀ q, q < k → ∃ p : Nat, arr[q]? = some (.int .i64 (p : Int)) ∧ p < ss.length ∧ ss.getD p 0 = ls.getD q 0
theorem AtArr.old {arr : Array Value} {ss ls : List Nat} {k : Nat} (h : AtArr arr ss ls k) (hk : k < ls.length) {p : Nat} (hp : p < ss.length) (he : ss.getD p 0 = ls.getD k 0) : AtArr (arr.setIfInBounds k (.int .i64 (p : Int))) ss ls (k + 1) := by
  refine ⟨by simpa using h.size, fun q hq => ?_⟩
  by_cases e : q = k
  · subst e; exact ⟨p, by rw [Array.getElem?_setIfInBounds_self_of_lt (by rw [h.size]; exact hk)], hp, he⟩
  · rw [Array.getElem?_setIfInBounds_ne (Ne.symm e)]; exact h.at_ q (by omega)
theorem AtArr.more {arr : Array Value} {ss ls : List Nat} {k : Nat} (h : AtArr arr ss ls k) (ts : List Nat) : AtArr arr (ss ++ ts) ls k :=
  ⟨h.size, fun q hq => by
    obtain ⟨p, h1, h2, h3⟩ := h.at_ q hq
    exact ⟨p, h1, by rw [List.length_append]; omega, by rw [List.getD_eq_getElem?_getD, List.getElem?_append_left h2, ← List.getD_eq_getElem?_getD]; exact h3⟩⟩
theorem AtArr.junk {arr : Array Value} {ss ls : List Nat} {k : Nat} (h : AtArr arr ss ls k) (v : Value) : AtArr (arr.setIfInBounds k v) ss ls k :=
  ⟨by simpa using h.size, fun q hq => by rw [Array.getElem?_setIfInBounds_ne (by omega)]; exact h.at_ q hq⟩
theorem snoc_at (ss : List Nat) (x : Nat) : (ss ++ [x]).getD ss.length 0 = x := by simp [List.getD_eq_getElem?_getD]

def UnRel (ls : List Nat) (n : Nat) (g : Nat) (w : World) (v i : Value) (wr : World) : Prop :=
  ∃ (k : Nat) (arr : Array Value) (ss : List Nat), k ≤ n ∧ i = .int .i64 k ∧ wr.ownsRow w.heap.size 22 1 v ss.length (us ss) ∧ v.ownBlock ≠ some g ∧ wr.heap[g]? = some (.cells arr 3 (0, 0)) ∧ AtArr arr ss ls k ∧ (∀ x ∈ ss, x ∈ ls) ∧ ss.length ≤ k ∧ Chg (fun _ => False) w wr
set_option maxRecDepth 100000 in
set_option maxHeartbeats 3200000 in
theorem unlike_any (ls : List Nat) (A : Option Addr) (n c : Nat) (w : World) (ok : Nat → Prop) (h : Rd ok w A n c 1 (us ls)) (hok : ∀ k, ok k → k < w.heap.size) (hf : n * 8 ≤ 140737488351232) :
    Calls Try.prog 58 #[.slice A n c] w fun e w' => ∃ v i, e = .returned (.tuple #[v, .slice (some ⟨w.heap.size, 0, none⟩) n n]) ∧ i = .int .i64 n ∧ UnRel ls n w.heap.size w v i w' := by
  have HL : Hid (ls.length = n) := by have := h.len; rw [us_len] at this; show _ = _; omega
  have HRd : Hid (∀ w', Chg (fun _ => False) w w' → Rd ok w' A n c 1 (us ls)) := fun w' hc => h.move (fun k hk => hc.block k (hok k hk) (fun he => he))
  have hmk := make_int n hf
  have HOK := Lib.hid hok
  clear h hok
  obtain ⟨w1, hw1⟩ : ∃ w1, w1 = w.alloc (.cells (madeCells #[.int .i64 0] n) 3) := ⟨_, rfl⟩
  have HW1 := Lib.hid hw1
  have hb1 : w1.heap[w.heap.size]? = some (.cells (madeCells #[.int .i64 0] n) 3 (0, 0)) := by rw [hw1]; exact heap_new w _
  have C1 : Hid (Chg (fun _ => False) w w1) := by show Chg _ _ _; rw [hw1]; exact (Chg.refl _ w).alloc _
  have HB1 := Lib.hid hb1
  have U0 : Hid (AtArr (madeCells #[.int .i64 0] n) [] ls 0) := ⟨by rw [size_madeCells, HL.out], fun q hq => absurd hq (by omega)⟩
  clear hw1 hb1
  go_enter Try.func58, Try.ntmps58
  go_wp2
  go_loopw [4, 6] (fun v i wr => UnRel ls n w.heap.size w v i wr) (fun _ i _ => n - (intOf i).toNat)
  case atStart => exact ⟨0, _, [], Nat.zero_le _, rfl, World.ownsRow_nil _ _ _ _, by simp [Value.ownBlock], by rw [← HW1.out]; exact HB1.out, U0.out, by simp, by simp, by rw [← HW1.out]; exact C1.out⟩
  case round =>
    obtain ⟨wo, rfl⟩ : ∃ wo : World, wo = wr := ⟨_, rfl⟩
    obtain ⟨k, arr, ss, hk, rfl, ho, hne, hb, ha, hm, hsk, hc⟩ := hrel
    obtain ⟨A1, c1, rfl, hr1⟩ := Rd.of_own ho
    have HO := Lib.hid ho
    have HN := Lib.hid hne
    have HB := Lib.hid hb
    have HA := Lib.hid ha
    have HM := Lib.hid hm
    have HC := Lib.hid hc
    have hsz := hc.size
    by_cases hlt : k < n
    · obtain ⟨g, off, rfl, hg, hcell⟩ := rd_us (HRd.out _ hc) (by omega)
      have q0 := hcell k hlt
      obtain ⟨u, hu0⟩ : ∃ u, arr[k]? = some u := ⟨arr[k]'(by rw [ha.size, HL.out]; exact hlt), Array.getElem?_eq_getElem _⟩
      have o0 := cell_at hb k hu0
      have o1 := free_at hb k
      obtain ⟨x, hx⟩ : ∃ x, x = ls.getD k 0 := ⟨_, rfl⟩
      rw [← hx] at q0
      have HX := Lib.hid hx
      have HP := Lib.hid (rplace_any ss x A1 ss.length c1 wo (fun k => Value.ownBlock (.slice A1 ss.length c1) = some k) hr1 (by omega))
      have hgw := HOK.out g hg
      have i1 : (k : Int) < (n : Int) := by omega
      have HXM : Hid (x ∈ ls) := by
        rw [hx, List.getD_eq_getElem?_getD, List.getElem?_eq_getElem (by rw [HL.out]; exact hlt)]
        show _ ∈ _
        simp
      clear hcell hg hx hu0 hr1 ho hne hb ha hm hc
      by_cases hin : x ∈ ss
      · obtain ⟨p, hp⟩ : ∃ p : Nat, p = ss.idxOf x := ⟨_, rfl⟩
        have hpl : place ss x = (p : Int) := by rw [hp]; unfold place; rw [if_pos hin]
        have hpp : p < ss.length := by rw [hp]; exact List.idxOf_lt_length_iff.2 hin
        have hpe : ss.getD p 0 = x := by rw [hp, List.getD_eq_getElem?_getD, List.getElem?_eq_getElem (by rw [← hp]; exact hpp)]; simp
        rw [hpl] at HP
        have HPE := Lib.hid hpe
        have hp0 : ¬ (p : Int) < 0 := by omega
        clear hp hpl hpe hin
        go_wp2_with fail
        refine HP.out.mono ?_
        rintro e w1' ⟨rfl, rfl⟩
        go_wp2
        go_roundw
        case rel => exact ⟨k + 1, _, ss, hlt, by go_num, own_move HO.out (fun j hj => heap_set_ne _ _ (fun e => HN.out (by rw [hj, e]))), HN.out, heap_set HB.out _ _, HA.out.old (by rw [HL.out]; exact hlt) hpp (by rw [HPE.out, HX.out]), HM.out, by omega, HC.out.set (.inl (Nat.le_refl _))⟩
        case measure => simp [intOf]; omega
      · have hpl : place ss x = -1 := by unfold place; rw [if_neg hin]
        rw [hpl] at HP
        clear hpl hin
        obtain ⟨W2, hW2⟩ : ∃ W2, W2 = (wo.setCell ⟨w.heap.size, k, none⟩ (.int .i64 (-1))).setCell ⟨w.heap.size, k, none⟩ (.int .i64 (ss.length : Nat)) := ⟨_, rfl⟩
        have HO2 : Hid (W2.ownsRow w.heap.size 22 1 (.slice A1 ss.length c1) ss.length (us ss)) := by
          rw [hW2]
          exact own_move (own_move HO.out (fun j hj => heap_set_ne _ _ (fun e => HN.out (by rw [hj, e])))) (fun j hj => heap_set_ne _ _ (fun e => HN.out (by rw [hj, e])))
        have HB2 : Hid (W2.heap[w.heap.size]? = some (.cells ((arr.setIfInBounds k (.int .i64 (-1))).setIfInBounds k (.int .i64 (ss.length : Nat))) 3 (0, 0))) := by
          show _ = _
          rw [hW2]
          exact heap_set (heap_set HB.out _ _) _ _
        have HC2 : Hid (Chg (fun _ => False) w W2) := by rw [hW2]; exact (HC.out.set (.inl (Nat.le_refl _))).set (.inl (Nat.le_refl _))
        have hs2 : w.heap.size ≤ W2.heap.size := HC2.out.size
        have HQ2 : Hid (W2.cell? ⟨g, off + k, none⟩ = some (.int .u64 (x : Int))) := by
          show _ = _
          rw [hW2]
          exact ((World.cell?_of_block (a := ⟨g, off + k, none⟩) (heap_set_ne _ _ (by show g ≠ _; omega))).trans (World.cell?_of_block (a := ⟨g, off + k, none⟩) (heap_set_ne _ _ (by show g ≠ _; omega)))).trans q0
        go_wp2_with fail
        refine HP.out.mono ?_
        rintro e w1' ⟨rfl, rfl⟩
        go_upto_region 9 with fail
        rw [← hW2]
        clear hW2 HB HO HC o0 o1 q0 hsz
        have q2 := HQ2.out
        go_wp2_with (at_builtin; refine ap_one rfl (.tmp 35) (.tmp 40) 37 rfl w.heap.size 22 1 8 (.int .u64 0) Try.underlying37 info_u64 rfl (by decide) (by decide) (.slice A1 ss.length c1) ss.length _ rfl HO2.out #[.int .u64 (x : Int)] rfl rfl (by simp [Value.oneCell']) (by omega) hs2 ?_; intro v2 w2 o2 g2 r2)
        have hwl := lt_of _ HB2.out
        go_roundw
        case rel => exact ⟨k + 1, _, ss ++ [x], hlt, by go_num, by simpa [us] using o2, (by
          rcases r2 with r2 | ⟨b, r2, hb2⟩
          · rw [r2]; exact HN.out
          · rw [r2]; intro e; have := Option.some.inj e; omega), grow_keep g2 HB2.out (fun e => HN.out e.symm), (HA.out.junk _).more [x] |>.old (by rw [HL.out]; exact hlt) (by simp) (by rw [snoc_at, HX.out]), (by
          intro y hy
          rcases List.mem_append.1 hy with hy | hy
          · exact HM.out y hy
          · rw [List.mem_singleton.1 hy]; exact HXM.out), by simp; omega, HC2.out.of_grown g2 (fun j hj => .inl (HO2.out.lt j hj).1)⟩
        case measure => simp [intOf]; omega
    · clear ho hne hb ha hm hc
      have hkn : k = n := by omega
      subst hkn
      go_wp2
      go_ret2
      exact ⟨_, _, rfl, rfl, k, arr, ss, Nat.le_refl _, rfl, HO.out, HN.out, HB.out, HA.out, HM.out, hsk, HC.out⟩
end Go.Proofs.Ytdfplhoijapoeaa.Lru
