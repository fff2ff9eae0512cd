/- What Hear does to a gauge. Conditions: a gauge as GV tells it; a response with whole numbers. -/
import Derived.Test.YtecppcgleidhkaaGh
import Derived.StillTailTactics
import Derived.Deep.CutRange
set_option linter.unusedVariables false
set_option linter.unusedSimpArgs false
namespace Go.Proofs.Ytecppcgleidhkaa.Gw
open Go.RowKit Go.Maps Go.Proofs.Ytecppcgleidhkaa.Lib1 Go.Proofs.Ytecppcgleidhkaa.Fl Go.Proofs.Ytecppcgleidhkaa.Gp

theorem Counts.put {D : DT} {codes : List Int} (h : Counts D codes) (c : Int) : Counts (D.put (ek c) (.lit (.int .i64 ((codes.count c : Nat) + 1)))) (codes ++ [c]) := by
  refine ⟨h.1.put _ _, fun c' => ?_⟩
  by_cases e : c' = c
  · subst e
    rw [atKey_put_same h.1 (show WideAt.IsKeyLit (ek c') from trivial)]
    simp [List.count_append]
  · rw [atKey_put_other (fun h' => e (by simpa [ek] using h')), h.2 c']
    simp [List.count_append, List.count_cons, e, Ne.symm e]
/-- A response with a slot and a code. -/
def resp (s c : Int) : Array Value := #[.int .i64 s, .int .i64 0, .int .i64 c, .int .i64 0, .int .i64 0, .bool false, .slice none 0 0, .slice none 0 0, .bool false, .int .i64 0]
theorem hear_nil (s c : Int) (w : World) :
    Calls Try.prog 22 #[.pointer none, .agg (resp s c)] w fun e w' => e = .returned (.int .i64 1) ∧ Chg (fun _ => False) w w' := by
  unfold resp
  go_enter Try.func22, Try.ntmps22
  go_wp2
  go_ret
  exact ⟨rfl, (Chg.refl _ _).alloc _⟩
theorem takes_not {g : G} {s : Int} (h : s < 0 ∨ 4611686018427387904 < s ∨ s < g.last) : takes g s = false := by
  unfold takes
  rcases h with h | h | h
  · rw [decide_eq_false (by omega)]; rfl
  · rw [decide_eq_false (show ¬ s ≤ 4611686018427387904 by omega)]; simp
  · rw [decide_eq_false (show ¬ (g.last : Int) ≤ s by omega)]; simp
theorem takes_yes {g : G} {s : Int} (h1 : 0 ≤ s) (h2 : s ≤ 4611686018427387904) (h3 : g.last ≤ s) : takes g s = true := by
  unfold takes
  rw [decide_eq_true h1, decide_eq_true h2, decide_eq_true h3]; rfl

/-- The map counts one more. -/
theorem grown_chg {w w' : World} {b : Nat} (h : w.grownBy w' (some b)) : Chg (fun k => k = b) w w' :=
  ⟨h.os, h.tape, h.output, h.size, fun k hk hn => h.block k hk (fun e => hn (by cases e; rfl))⟩
theorem tail_turn (t : Int × Int) (n : Nat) : (n % 2 = 0 → tstep t n = (t.1 + (1 - (n : Int) % 4 / 2 * 2), t.2)) ∧ (n % 2 = 1 → tstep t n = (t.1, t.2 + (1 - (n : Int) % 4 / 2 * 2))) := by
  have h4 : n % 4 = 0 ∨ n % 4 = 1 ∨ n % 4 = 2 ∨ n % 4 = 3 := by omega
  unfold tstep
  rcases h4 with h | h | h | h <;> constructor <;> intro h2 <;> first | omega | skip
  all_goals simp only [h]
  all_goals simp
  all_goals omega
theorem hear_end {E : Nat → Prop} {w w5 wc wf : World} {b mb n i : Nat} {c re im v : Int} {g : G} {gs gs' : Value} {D : DT} {G' : List Nat} (HG : GW E w b g mb gs D)
    (HM : w5.ownsMap Try.prog KE RI mb (g.slots.length + 1) (D.put (ek c) (.lit (.int .i64 (((g.codes.count c : Nat) : Int) + 1))))) (HC : Chg (fun k => k = mb) w w5)
    (z1 : wc.heap[b]? = some (.cells (box10 g.keep (!g.slots.isEmpty) g.last (.map (some mb)) gs' (mean G') (squares G') (smooth g.keep G') re im) 83 (0, 0)))
    (z2 : wc.ownsRow 0 23 1 gs' G'.length (fs G')) (z3 : gs'.ownBlock = gs.ownBlock ∨ ∃ cc, gs'.ownBlock = some cc ∧ w5.heap.size ≤ cc) (z4 : Chg (fun j => j = b ∨ gs.ownBlock = some j) w5 wc) (hG : G' = (g.hear n c).gaps)
    (hi : (i = 8 ∧ turn (g.slots ++ [n]) = (v, im)) ∨ (i = 9 ∧ turn (g.slots ++ [n]) = (re, v))) (BM : b ≠ mb) (RM : ∀ k, gs.ownBlock = some k → k ≠ mb) (RB : gs.ownBlock ≠ some b)
    (hw : wf.heap = (((wc.setCell ⟨b, 1, none⟩ (.bool true)).setCell ⟨b, 2, none⟩ (.int .i64 n)).setCell ⟨b, i, none⟩ (.int .i64 v)).heap) (ho : wf.os = wc.os) (ht : wf.tape = wc.tape) (hp : wf.output = wc.output) :
    (∃ E', GV E' wf b (g.hear n c) ∧ (∀ k, E' k → E k ∨ w.heap.size ≤ k)) ∧ Chg E w wf := by
  have c0 : Chg (fun j => j = b) wc (((wc.setCell ⟨b, 1, none⟩ (.bool true)).setCell ⟨b, 2, none⟩ (.int .i64 n)).setCell ⟨b, i, none⟩ (.int .i64 v)) :=
    (((Chg.refl (fun j => j = b) wc).set (b := b) (i := 1) (u := .bool true) (.inr rfl)).set (b := b) (i := 2) (u := .int .i64 n) (.inr rfl)).set (b := b) (i := i) (u := .int .i64 v) (.inr rfl)
  have c1 : Chg (fun j => j = b) wc wf := ⟨ho.trans rfl, ht.trans rfl, hp.trans rfl, by rw [hw]; exact c0.size, fun j hj hn => by rw [hw]; exact c0.block j hj hn⟩
  have hb5 : b < w5.heap.size := Nat.lt_of_lt_of_le (HG.low b HG.inb) HC.size
  have hsz := HC.size
  have hsz2 := z4.size
  have hsz3 := c1.size
  have hgb : gs'.ownBlock ≠ some b := by
    rcases z3 with e | ⟨cc, e, hcc⟩
    · rw [e]; exact RB
    · rw [e]; intro e'; cases e'; omega
  have hh := heap_set (heap_set (heap_set z1 1 (.bool true)) 2 (.int .i64 n)) i (.int .i64 v)
  have hbox : wf.heap[b]? = some (.cells (box (g.hear n c) (.map (some mb)) gs') 83 (0, 0)) := by
    rw [hw, hh]
    congr 2
    unfold box
    rw [hear_last, ← hG]
    have e1 : (g.hear n c).slots = g.slots ++ [n] := rfl
    have e2 : (g.hear n c).keep = g.keep := rfl
    rw [e1, e2]
    have e3 : (!(g.slots ++ [n]).isEmpty) = true := by simp
    rw [e3]
    rcases hi with ⟨rfl, ht⟩ | ⟨rfl, ht⟩ <;> rw [ht] <;> rfl
  have hmap : wf.ownsMap Try.prog KE RI mb (g.slots.length + 1) (D.put (ek c) (.lit (.int .i64 (((g.codes.count c : Nat) : Int) + 1)))) := by
    refine map_move HM ((c1.block mb (Nat.lt_of_lt_of_le HM.lt hsz2) (fun e => BM e.symm)).trans (z4.block mb HM.lt (fun e => ?_)))
    rcases e with e | e
    · exact BM e.symm
    · exact RM mb e rfl
  refine ⟨⟨fun k => E k ∨ (w.heap.size ≤ k ∧ k < wf.heap.size), ⟨mb, gs', _, hbox, ?_, HG.counts.put c, ?_, .inl HG.inb, .inl HG.inm, fun k hk => ?_, fun k hk => ?_⟩, fun k hk => hk.imp id (fun h => h.1)⟩, ?_⟩
  · rw [show (g.hear n c).slots.length = g.slots.length + 1 by simp [G.hear]]; exact hmap
  · rw [← hG]; exact own_chg c1 z2 (fun k hk e => hgb (by rw [hk, e]))
  · rcases z3 with e | ⟨cc, e, hcc⟩
    · exact .inl (HG.inr k (by rw [← e]; exact hk))
    · rw [e] at hk; cases hk
      exact .inr ⟨by omega, Nat.lt_of_lt_of_le (z2.lt k e).2 hsz3⟩
  · rcases hk with hk | hk
    · have := HG.low k hk; omega
    · exact hk.2
  · have k1 : Chg E w w5 := HC.mono (fun k _ e => by rw [e]; exact HG.inm)
    have k2 : Chg E w wc := k1.trans z4 (fun k _ e => by
      rcases e with e | e
      · rw [e]; exact HG.inb
      · exact HG.inr k e)
    exact k2.trans c1 (fun k _ e => by rw [e]; exact HG.inb)
section
variable {E : Nat → Prop} {w : World} {b : Nat} {g : G}
set_option maxRecDepth 100000 in
set_option maxHeartbeats 4000000 in
theorem hear_walk (h : GV E w b g) (hg : g.Good) (s c : Int) (hc : (Lit.int .i64 c).wf = true) (hn : g.slots.length + 1 < 2 ^ 44) (hsw : -9223372036854775808 ≤ s ∧ s ≤ 9223372036854775807) :
    Calls Try.prog 22 #[.pointer (some ⟨b, 0, none⟩), .agg (resp s c)] w fun e w' =>
      if takes g s = true then e = .returned (.int .i64 0) ∧ (∃ E', GV E' w' b (g.hear s.toNat c) ∧ (∀ k, E' k → E k ∨ w.heap.size ≤ k)) ∧ Chg E w w'
      else e = .returned (.int .i64 2) ∧ Chg (fun _ => False) w w' := by
  obtain ⟨mb, gs, D, h⟩ := h
  obtain ⟨-, -, q2, -, -, -, -, -, -, -⟩ := box_cells h
  unfold resp
  by_cases h1 : s < 0
  · rw [takes_not (.inl h1)]
    simp only [Bool.false_eq_true, if_false]
    go_enter Try.func22, Try.ntmps22
    go_upto_region 3 with (fail)
    go_quiet (fail)
    go_wp2
    go_ret
    exact ⟨rfl, ((Chg.refl _ _).alloc _).drewN _⟩
  by_cases h2 : 4611686018427387904 < s
  · rw [takes_not (.inr (.inl h2))]
    simp only [Bool.false_eq_true, if_false]
    go_enter Try.func22, Try.ntmps22
    go_upto_region 3 with (fail)
    go_quiet (fail)
    go_wp2
    go_ret
    exact ⟨rfl, ((Chg.refl _ _).alloc _).drewN _⟩
  by_cases h3 : s < g.last
  · rw [takes_not (.inr (.inr h3))]
    simp only [Bool.false_eq_true, if_false]
    go_enter Try.func22, Try.ntmps22
    go_upto_region 3 with (fail)
    generalize hw1 : w.alloc _ = w1
    have kr0 : w1.cell? ⟨w.heap.size, 0, none⟩ = some (.int .i64 s) := by rw [← hw1]; exact cell_at (heap_new _ _) 0 rfl
    have kq2 : w1.cell? ⟨b, 2, none⟩ = some (.int .i64 (g.last : Int)) := by rw [← hw1]; exact cell_at (heap_old _ h.box) 2 rfl
    have HW1 : Hid (Chg (fun _ => False) w w1) := by rw [← hw1]; exact (Chg.refl _ _).alloc _
    clear hw1 h
    go_quiet (fail)
    go_wp2
    go_ret
    exact ⟨rfl, HW1.out.drewN _⟩
  rw [takes_yes (by omega) (by omega) (by omega)]
  simp only [if_true]
  obtain ⟨n, rfl⟩ : ∃ n : Nat, s = n := ⟨s.toNat, by omega⟩
  rw [Int.toNat_natCast]
  have hlen : ∃ A cc, gs = .slice A g.gaps.length cc := h.form
  have HG := Lib.hid h
  have hkey := key_of hc
  have hlast : (g.last : Int) ≤ n := by omega
  have HB := Lib.hid (heap_old (.cells #[.int .i64 (n : Int), .int .i64 0, .int .i64 c, .int .i64 0, .int .i64 0, .bool false, .slice none 0 0, .slice none 0 0, .bool false, .int .i64 0] 65 (0, 0)) h.box)
  have HM := Lib.hid (h.map.alloc (.cells #[.int .i64 (n : Int), .int .i64 0, .int .i64 c, .int .i64 0, .int .i64 0, .bool false, .slice none 0 0, .slice none 0 0, .bool false, .int .i64 0] 65 (0, 0)))
  clear h
  go_enter Try.func22, Try.ntmps22
  go_upto_region 3 with (fail)
  obtain ⟨R, hR⟩ : ∃ R, R = w.heap.size := ⟨_, rfl⟩
  have HR : Hid (b < R ∧ mb < R ∧ ∀ k, E k → k < R) := by rw [hR]; exact ⟨HG.out.low _ HG.out.inb, HG.out.low _ HG.out.inm, HG.out.low⟩
  have HRS : Hid (R = w.heap.size) := hR
  rw [← hR]
  generalize hw1 : w.alloc _ = w1
  rw [hw1] at HB HM
  have HRB : Hid (w1.heap[R]? = some (.cells #[.int .i64 (n : Int), .int .i64 0, .int .i64 c, .int .i64 0, .int .i64 0, .bool false, .slice none 0 0, .slice none 0 0, .bool false, .int .i64 0] 65 (0, 0))) := by rw [← hw1, hR]; exact heap_new _ _
  have kr0 : w1.cell? ⟨R, 0, none⟩ = some (.int .i64 n) := cell_at HRB.out 0 rfl
  have kr2 : w1.cell? ⟨R, 2, none⟩ = some (.int .i64 c) := cell_at HRB.out 2 rfl
  have kq2 : w1.cell? ⟨b, 2, none⟩ = some (.int .i64 (g.last : Int)) := cell_at HB.out 2 rfl
  have kq3 : w1.cell? ⟨b, 3, none⟩ = some (.map (some mb)) := cell_at HB.out 3 rfl
  have HC1 : Hid (Chg (fun _ => False) w w1) := by rw [← hw1]; exact (Chg.refl _ _).alloc _
  obtain ⟨cc, hrun, hat, -⟩ : ∃ cc, (∀ k, (Instr.lookup 80 (.map (some mb)) (.int .i64 c) false).run Try.prog (w1.drewN k) = .ok (.int .i64 cc) (w1.drewN k)) ∧ D.atKey (ek c) (.lit (.int .i64 0)) = .lit (.int .i64 cc) ∧ True := by
    obtain ⟨cc, h1, h2, -⟩ := HM.out.lookup_int (int_keyed uE) Try.underlying80 uI (zeroI _) hkey
    refine ⟨cc, fun k => ?_, h2, trivial⟩
    obtain ⟨c2, h3, h4, -⟩ := World.ownsMap.lookup_int (w := w1.drewN k) (show (w1.drewN k).ownsMap Try.prog KE RI mb g.slots.length D from HM.out) (int_keyed uE) Try.underlying80 uI (zeroI _) hkey
    rw [h2] at h4
    simp only [DataW.lit.injEq, Lit.int.injEq, true_and] at h4
    rw [h4]; exact h3
  rw [HG.out.counts.2 c] at hat
  simp only [DataW.lit.injEq, Lit.int.injEq, true_and] at hat
  subst hat
  have HNL : Hid (g.codes.count c < 2 ^ 44) := by
    have := List.count_le_length (a := c) (l := g.codes)
    rw [hg.len] at this
    show _ < _
    omega
  clear hw1 hR
  have hmn : ∀ w, (binOp .eql 80 (.map (some mb)) (.map none)).run Try.prog w = .ok (.bool false) w := fun w => by simp only [binOp]; simp [run_equal_map_nil w _ _ _ (some mb) Try.underlying80]
  go_quiet (fail)
  go_upto_region 7 with (fail)
  have HRB2 : Hid ((w1.drewN nq).heap[R]? = some (.cells #[.int .i64 (n : Int), .int .i64 0, .int .i64 c, .int .i64 0, .int .i64 0, .bool false, .slice none 0 0, .slice none 0 0, .bool false, .int .i64 0] 65 (0, 0))) := HRB.out
  have HB2 : Hid ((w1.drewN nq).heap[b]? = _) := HB.out
  have HM2 : Hid ((w1.drewN nq).ownsMap Try.prog KE RI mb g.slots.length D) := HM.out
  have HC2 : Hid (Chg (fun _ => False) w (w1.drewN nq)) := HC1.out.drewN _
  have HRUN : Hid (∀ k, (Instr.lookup 80 (.map (some mb)) (.int .i64 c) false).run Try.prog ((w1.drewN nq).drewN k) = .ok (.int .i64 (g.codes.count c : Nat)) ((w1.drewN nq).drewN k)) := fun k => by rw [World.drewN_drewN]; exact hrun _
  clear kr0 kr2 kq2 kq3 hrun HRB HB HM HC1 q2
  generalize w1.drewN nq = w2 at *
  have kr0 : w2.cell? ⟨R, 0, none⟩ = some (.int .i64 n) := cell_at HRB2.out 0 rfl
  have kr2 : w2.cell? ⟨R, 2, none⟩ = some (.int .i64 c) := cell_at HRB2.out 2 rfl
  have kq2 : w2.cell? ⟨b, 2, none⟩ = some (.int .i64 (g.last : Int)) := cell_at HB2.out 2 rfl
  have kq3 : w2.cell? ⟨b, 3, none⟩ = some (.map (some mb)) := cell_at HB2.out 3 rfl
  have hrun1 := HRUN.out 1
  rw [show w2.drewN 1 = w2.drew from rfl] at hrun1
  go_still_tail 8, (by kernel_rfl)
  change wpList _ _ _ _ _ w2.drew
  have hwrap : IntKind.i64.wrap (((g.codes.count c : Nat) : Int) + 1) = ((g.codes.count c : Nat) : Int) + 1 := by
    have := HNL.out
    rw [IntKind.wrap_i64]; omega
  have hwf : (Lit.int .i64 (((g.codes.count c : Nat) : Int) + 1)).wf = true := by
    have := HNL.out
    simp [Lit.wf, IntKind.min, IntKind.max, IntKind.bits, IntKind.signed]; omega
  rw [hwrap]
  have HWF := Lib.hid hwf
  clear hwrap hwf
  have HRB3 : Hid (w2.drew.heap[R]? = _) := HRB2.out
  have HB3 : Hid (w2.drew.heap[b]? = _) := HB2.out
  have HM3 : Hid (w2.drew.ownsMap Try.prog KE RI mb g.slots.length D) := HM2.out
  have HC3 : Hid (Chg (fun _ => False) w w2.drew) := HC2.out.drew
  clear kr0 kr2 kq2 kq3 hrun1 HRUN HRB2 HB2 HM2 HC2
  generalize w2.drew = w3 at *
  have HBM : Hid (b ≠ mb) := fun e => by
    obtain ⟨es, ck, hmm, -⟩ := HM3.out
    have := HB3.out
    rw [e, hmm] at this
    cases this
  have HRM : Hid (∀ k, gs.ownBlock = some k → k ≠ mb) := fun k hk e => by
    subst e
    obtain ⟨es, ck, hmm, -⟩ := HG.out.map
    rcases HG.out.row.2 with ⟨e', _⟩ | ⟨g', cap', cur, e', _, hgg, _⟩
    · rw [e'] at hk; cases hk
    · rw [e'] at hk; cases hk; rw [hgg] at hmm; cases hmm
  have HRB : Hid (gs.ownBlock ≠ some b) := fun e => by
    have hbb := HG.out.box
    rcases HG.out.row.2 with ⟨e', _⟩ | ⟨g', cap', cur, e', _, hgg, _⟩
    · rw [e'] at e; cases e
    · rw [e'] at e; cases e; rw [hgg] at hbb
      injection hbb with hbb
      injection hbb with _ ht
      exact absurd ht (by decide)
  have HSL : Hid (g.slots.length < maxLen) := by show _ < _; unfold maxLen; omega
  go_upto_if 47 with (at_mapUpdate; go_loud (refine wpList_mapUpdate_own _ rfl _ _ _ 80 rfl 26 3 (int_keyed uE) Try.underlying80 _ mb g.slots.length D rfl HM3.out HSL.out _ _ _ rfl rfl hkey _ [] (plainElem_int uI HWF.out) ?_; intro w4 hown4 hgrow4; have HB4 := Lib.hid (grow_keep hgrow4 HB3.out (fun e => HBM.out (by cases e; rfl))); have HRB4 := Lib.hid (grow_keep hgrow4 HRB3.out (fun e => by have := HR.out.2.1; cases e; omega)); have HM4 := Lib.hid hown4; have HC4 : Hid (Chg (fun k => k = mb) w w4) := ((HC3.out.mono (T := fun k => k = mb) (fun _ _ h => h.elim)).trans (grown_chg hgrow4) (fun _ _ h => h)); clear hown4 hgrow4; have kq1 : w4.cell? ⟨b, 1, none⟩ = some (.bool (!g.slots.isEmpty)) := cell_at HB4.out 1 rfl))
  obtain ⟨w5, hw5⟩ : ∃ w5, w5 = w4 := ⟨_, rfl⟩
  subst hw5
  obtain ⟨G', hG'⟩ : ∃ G', G' = (g.hear n c).gaps := ⟨_, rfl⟩
  have HG' := Lib.hid hG'
  clear hG'
  go_cut [4, 47] from 48 to 57 (fun s t wx => s = .int .i64 0 ∧ t = .bool (!g.slots.isEmpty) ∧ ∃ gs', wx.heap[b]? = some (.cells (box10 g.keep (!g.slots.isEmpty) g.last (.map (some mb)) gs' (mean G') (squares G') (smooth g.keep G') (turn g.slots).1 (turn g.slots).2) 83 (0, 0)) ∧ wx.ownsRow 0 23 1 gs' G'.length (fs G') ∧ (gs'.ownBlock = gs.ownBlock ∨ ∃ cc, gs'.ownBlock = some cc ∧ w5.heap.size ≤ cc) ∧ Chg (fun j => j = b ∨ gs.ownBlock = some j) w5 wx)
  case first =>
    by_cases h0 : g.slots = []
    · have e0 : g.slots.isEmpty = true := by rw [h0]; rfl
      have eG : g.gaps = G' := by rw [HG'.out, hear_gaps0 g n c h0]; unfold G.gaps; rw [h0]; rfl
      rw [e0, Bool.not_true]
      have HE0 := Lib.hid e0
      have HEG := Lib.hid eG
      clear e0 eG h0 kq1 hlen hlast
      go_wp2
      go_meet
      case rel =>
        refine ⟨rfl, by rw [HE0.out]; rfl, gs, ?_, ?_, .inl rfl, Chg.refl _ _⟩
        · rw [← HEG.out]; exact HB4.out
        · rw [← HEG.out]; exact own_chg HC4.out HG.out.row HRM.out
    · have e0 : g.slots.isEmpty = false := by
        cases hh : g.slots with
        | nil => exact absurd hh h0
        | cons x l => rfl
      have eG := hear_gaps g n c h0
      rw [← HG'.out] at eG
      have HS : Hid (∀ (W : World) (z : Int), z = ((n - g.last : Nat) : Int) → Chg (fun _ => False) w5 W → Calls Try.prog 38 #[.pointer (some ⟨b, 0, none⟩), .float .f64 (floatOfInt .f64 z)] W fun e w' => e = .returned (.tuple #[]) ∧ ∃ gs',
          w'.heap[b]? = some (.cells (box10 g.keep (!g.slots.isEmpty) g.last (.map (some mb)) gs' (mean G') (squares G') (smooth g.keep G') (turn g.slots).1 (turn g.slots).2) 83 (0, 0)) ∧ w'.ownsRow 0 23 1 gs' G'.length (fs G') ∧
          (gs'.ownBlock = gs.ownBlock ∨ ∃ c, gs'.ownBlock = some c ∧ W.heap.size ≤ c) ∧ Chg (fun j => j = b ∨ gs.ownBlock = some j) W w') := by
        intro W z hz hc
        subst hz
        rw [f_of_nat, eG]
        refine sample_walk (hc.at_ HB4.out (fun h => h)) ?_ hg.keep hg.gaps_le (F_le (by omega)) ?_ ?_
        · exact own_chg (HC4.out.trans hc (fun _ _ h => h.elim)) HG.out.row HRM.out
        · rw [show g.gaps.length = g.slots.length - 1 from gaps_len _]; omega
        · exact HRB.out
      rw [e0, Bool.not_false]
      have kq2 : w5.cell? ⟨b, 2, none⟩ = some (.int .i64 (g.last : Int)) := cell_at HB4.out 2 rfl
      have kr0 : w5.cell? ⟨R, 0, none⟩ = some (.int .i64 n) := cell_at HRB4.out 0 rfl
      have HE0 := Lib.hid e0
      have HLS : Hid (g.last ≤ n) := by show _ ≤ _; omega
      clear e0 eG h0 kq1 hlen hlast
      go_upto_region 9 with (fail)
      go_still_tail 9, (by kernel_rfl)
      change wpList _ _ _ _ _ w5.drew
      go_wp2_with (go_at_call 38; go_loud (refine (HS.out _ _ ?hz ((Chg.refl _ _).drew)).mono ?_; (case hz => have := HLS.out; omega); rintro e w6 ⟨rfl, gs', z1, z2, z3, z4⟩; have HZ1 := Lib.hid z1; have HZ2 := Lib.hid z2; have HZ3 := Lib.hid z3; have HZ4 := Lib.hid z4; clear z1 z2 z3 z4))
      go_meet
      case rel => exact ⟨rfl, by rw [HE0.out]; rfl, gs', HZ1.out, HZ2.out, HZ3.out, HZ4.out.os, HZ4.out.tape, HZ4.out.output, HZ4.out.size, HZ4.out.block⟩
  case rest =>
    obtain ⟨rfl, rfl, gs', z1, z2, z3, z4⟩ := hcut
    have HZ1 := Lib.hid z1
    have HZ2 := Lib.hid z2
    have HZ3 := Lib.hid z3
    have HZ4 := Lib.hid z4
    have HRBW : Hid (wc.heap[R]? = some (.cells #[.int .i64 (n : Int), .int .i64 0, .int .i64 c, .int .i64 0, .int .i64 0, .bool false, .slice none 0 0, .slice none 0 0, .bool false, .int .i64 0] 65 (0, 0))) := z4.at_ HRB4.out (fun h => by
      have h1 := HR.out.1
      rcases h with h | h
      · omega
      · have := HR.out.2.2 R (HG.out.inr R h); omega)
    have kr0 : wc.cell? ⟨R, 0, none⟩ = some (.int .i64 n) := cell_at HRBW.out 0 rfl
    have kq1 : wc.cell? ⟨b, 1, none⟩ = some (.bool (!g.slots.isEmpty)) := cell_at z1 1 rfl
    have kq2 : wc.cell? ⟨b, 2, none⟩ = some (.int .i64 (g.last : Int)) := cell_at z1 2 rfl
    have kq8 : wc.cell? ⟨b, 8, none⟩ = some (.int .i64 (turn g.slots).1) := cell_at z1 8 rfl
    have kq9 : wc.cell? ⟨b, 9, none⟩ = some (.int .i64 (turn g.slots).2) := cell_at z1 9 rfl
    have kff := free_at z1
    have HT := Lib.hid (turn_bd g.slots)
    clear z1 z2 z3 z4 hlen hlast hkey
    obtain ⟨re, hre⟩ : ∃ re, re = (turn g.slots).1 := ⟨_, rfl⟩
    obtain ⟨im, him⟩ : ∃ im, im = (turn g.slots).2 := ⟨_, rfl⟩
    rw [← hre] at kq8
    rw [← him] at kq9
    have hreb : -(2 ^ 44 : Int) ≤ re ∧ re ≤ 2 ^ 44 := by have := HT.out; omega
    have himb : -(2 ^ 44 : Int) ≤ im ∧ im ≤ 2 ^ 44 := by have := HT.out; omega
    have HRE := Lib.hid hre
    have HIM := Lib.hid him
    clear hre him
    go_upto_region 10 with (fail)
    go_region
    rcases Nat.mod_two_eq_zero_or_one n with hp | hp
    · have hm2 : (n : Int) % 2 = 0 := by omega
      go_upto_region 12 with (fail)
      go_region
      go_wp2
      go_ret
      refine ⟨rfl, hear_end (i := 8) (v := re + (1 - (n : Int) % 4 / 2 * 2)) HG.out HM4.out HC4.out HZ1.out HZ2.out HZ3.out HZ4.out HG'.out ?_ HBM.out HRM.out HRB.out ?_ ?_ ?_ ?_⟩
      · rw [turn_snoc, (tail_turn _ n).1 hp, ← HRE.out, ← HIM.out]
        exact .inl ⟨rfl, rfl⟩
      all_goals rfl
    · have hm2 : (n : Int) % 2 = 1 := by omega
      go_upto_region 12 with (fail)
      go_region
      go_wp2
      go_ret
      refine ⟨rfl, hear_end (i := 9) (v := im + (1 - (n : Int) % 4 / 2 * 2)) HG.out HM4.out HC4.out HZ1.out HZ2.out HZ3.out HZ4.out HG'.out ?_ HBM.out HRM.out HRB.out ?_ ?_ ?_ ?_⟩
      · rw [turn_snoc, (tail_turn _ n).2 hp, ← HRE.out, ← HIM.out]
        exact .inr ⟨rfl, rfl⟩
      all_goals rfl
end
end Go.Proofs.Ytecppcgleidhkaa.Gw
