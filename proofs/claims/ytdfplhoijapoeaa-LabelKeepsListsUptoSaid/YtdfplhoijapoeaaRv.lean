/- The document's Covers, by contract. Conditions: the row reads so, labels below 2^64, at most 2^20. -/
import Derived.Test.YtdfplhoijapoeaaRu
import Derived.StillTailTactics
set_option linter.unusedVariables false
set_option linter.unusedSimpArgs false
namespace Go.Proofs.Ytdfplhoijapoeaa.Lrv
open Go.RowKit Go.Proofs.Ytdfplhoijapoeaa.Lib1 Go.Proofs.Ytdfplhoijapoeaa.Lat Go.Proofs.Ytdfplhoijapoeaa.Lbl Go.Proofs.Ytdfplhoijapoeaa.Lbw Go.Proofs.Ytdfplhoijapoeaa.Lck Go.Proofs.Ytdfplhoijapoeaa.Lcb Go.Proofs.Ytdfplhoijapoeaa.Lcv Go.Proofs.Ytdfplhoijapoeaa.Lpl Go.Proofs.Ytdfplhoijapoeaa.Lru

theorem info_bool : (Try.prog.info? 4).map (fun i => (i.zero, i.size, i.bytes)) = some (some (.bool false), 1, 1) := by kernel_rfl
theorem info_bools : (Try.prog.info? 72).map (fun i => (i.zero, i.size, i.bytes)) = some (some (.slice none 0 0), 1, 24) := by kernel_rfl
theorem make_bools (n : Nat) (hn : n ≤ 1048576) (W : World) : (Instr.makeSlice 72 (.int .i64 (n : Int)) (.int .i64 (n : Int))).run Try.prog W = .ok (.slice (some ⟨W.heap.size, 0, none⟩) n n) (W.alloc (.cells (madeCells #[.bool false] n) 4)) := by
  obtain ⟨i0, hi, hz0, hz1, hz2⟩ := info_parts info_bool
  have hb : (i0.bytes : Int) * (n : Int) ≤ 281474976710656 := by rw [hz2]; omega
  have hr := run_make (P := Try.prog) W 72 4 i0 _ Try.underlying72 hi hz0 .i64 .i64 n n (by omega) (by omega) hb (by omega)
  rw [hz1] at hr
  simp only [Int.toNat_natCast, Nat.mul_one] at hr
  exact hr
theorem make_rows (n : Nat) (hn : n ≤ 1048576) (W : World) : (Instr.makeSlice 96 (.int .i64 (n : Int)) (.int .i64 (n : Int))).run Try.prog W = .ok (.slice (some ⟨W.heap.size, 0, none⟩) n n) (W.alloc (.cells (madeCells #[.slice none 0 0] n) 72)) := by
  obtain ⟨i0, hi, hz0, hz1, hz2⟩ := info_parts info_bools
  have hb : (i0.bytes : Int) * (n : Int) ≤ 281474976710656 := by rw [hz2]; omega
  have hr := run_make (P := Try.prog) W 96 72 i0 _ Try.underlying96 hi hz0 .i64 .i64 n n (by omega) (by omega) hb (by omega)
  rw [hz1] at hr
  simp only [Int.toNat_natCast, Nat.mul_one] at hr
  exact hr

/-- A row of the table is filled so far. -/
def RowB (ss : List Nat) (p q : Nat) (row : Array Value) : Prop := row.size = ss.length ∧ ∀ j, j < q → row[j]? = some (.bool (rt ss (ss.getD p 0) (ss.getD j 0)))
theorem RowB.set {ss : List Nat} {p q : Nat} {row : Array Value} (h : RowB ss p q row) (hq : q < ss.length) : RowB ss p (q + 1) (row.setIfInBounds q (.bool (rt ss (ss.getD p 0) (ss.getD q 0)))) := by
  refine ⟨by simpa using h.1, fun j hj => ?_⟩
  by_cases e : j = q
  · subst e; rw [Array.getElem?_setIfInBounds_self_of_lt (by rw [h.1]; exact hq)]
  · rw [Array.getElem?_setIfInBounds_ne (Ne.symm e)]; exact h.2 j (by omega)
/-- The table's first k rows. -/
def Tab (ss : List Nat) (G M k : Nat) (arr : Array Value) (W : World) : Prop :=
  arr.size = ss.length ∧ ∀ p, p < k → ∃ g row, arr[p]? = some (.slice (some ⟨g, 0, none⟩) ss.length ss.length) ∧ G < g ∧ g < M ∧ W.heap[g]? = some (.cells row 4 (0, 0)) ∧ RowB ss p ss.length row
theorem Tab.keep {ss : List Nat} {G M M' k : Nat} {arr : Array Value} {W W' : World} (h : Tab ss G M k arr W) (hM : M ≤ M') (hk : ∀ g o, G < g → g < M → W.heap[g]? = some o → W'.heap[g]? = some o) : Tab ss G M' k arr W' :=
  ⟨h.1, fun p hp => by
    obtain ⟨g, row, h1, h2, h3, h4, h5⟩ := h.2 p hp
    exact ⟨g, row, h1, h2, Nat.lt_of_lt_of_le h3 hM, hk g _ h2 h3 h4, h5⟩⟩
theorem Tab.set {ss : List Nat} {G M k : Nat} {arr : Array Value} {W : World} (h : Tab ss G M k arr W) (v : Value) : Tab ss G M k (arr.setIfInBounds k v) W :=
  ⟨by simpa using h.1, fun p hp => by
    obtain ⟨g, row, h1, h2⟩ := h.2 p hp
    exact ⟨g, row, by rw [Array.getElem?_setIfInBounds_ne (by omega)]; exact h1, h2⟩⟩
theorem Tab.more {ss : List Nat} {G M k g : Nat} {arr : Array Value} {W : World} {row : Array Value} (h : Tab ss G M k arr W) (ha : arr[k]? = some (.slice (some ⟨g, 0, none⟩) ss.length ss.length)) (hg : G < g) (hM : g < M) (hb : W.heap[g]? = some (.cells row 4 (0, 0))) (hr : RowB ss k ss.length row) : Tab ss G M (k + 1) arr W :=
  ⟨h.1, fun p hp => by
    by_cases e : p = k
    · subst e; exact ⟨g, row, ha, hg, hM, hb, hr⟩
    · exact h.2 p (by omega)⟩
theorem flip {P : Program} {f : FuncId} {args : Array Value} {w : World} {v : Value} (h : Calls P f args w fun e w' => e = .returned v ∧ w = w') : Calls P f args w fun e w' => e = .returned v ∧ w' = w := h.mono fun _ _ h => ⟨h.1, h.2.symm⟩

set_option maxRecDepth 100000 in
set_option maxHeartbeats 6400000 in
theorem rcovers_any (ls : List Nat) (A : Option Addr) (n c : Nat) (w : World) (ok : Nat → Prop) (h : Rd ok w A n c 1 (us ls)) (hok : ∀ k, ok k → k < w.heap.size) (hn : n ≤ 1048576) (hl : ∀ x ∈ ls, x < B64) :
    Calls Try.prog 35 #[.slice A n c] w fun e w' => ∃ v, e = .returned v ∧ w'.ownsRow w.heap.size 62 2 v (covs ls ls ls.length).length (flat2 (covs ls ls ls.length)) ∧ Chg (fun _ => False) w w' := by
  have HL : Hid (ls.length = n) := by have := h.len; rw [us_len] at this; show _ = _; omega
  have HUN := Lib.hid (unlike_any ls A n c w ok h hok (by omega))
  have HLL := Lib.hid hl
  clear h hok hl
  go_enter Try.func35, Try.ntmps35
  go_wp2_with fail
  refine HUN.out.mono ?_
  rintro e w1 ⟨v, i, rfl, rfl, k, arr0, ss, hk, hkn, ho, hne, hb0, ha0, hm, hsk, hc1⟩
  obtain rfl : k = n := by
    have := hkn
    simp only [Value.int.injEq, true_and] at this
    omega
  obtain ⟨A1, c1, rfl, hr1⟩ := Rd.of_own ho
  have HR1 : Hid (∀ W, Chg (fun _ => False) w1 W → Rd (fun j => Value.ownBlock (.slice A1 ss.length c1) = some j) W A1 ss.length c1 1 (us ss)) := fun W hc => hr1.move (fun j hj => hc.block j (ho.lt j hj).2 (fun h => h))
  have HB0 := Lib.hid hb0
  have HA0 := Lib.hid ha0
  have HM := Lib.hid hm
  have HC1 := Lib.hid hc1
  have hms : ss.length ≤ 1048576 := by omega
  have HS64 : Hid (∀ j, j < ss.length → ss.getD j 0 < B64) := fun j hj => HLL.out _ (HM.out _ (by rw [List.getD_eq_getElem?_getD, List.getElem?_eq_getElem hj]; simp))
  have HSL : Hid (∀ x ∈ ss, x < B64) := fun x hx => HLL.out x (HM.out x hx)
  have hG0 := lt_of _ hb0
  have hmr := make_rows ss.length hms
  clear hkn ho hne hb0 ha0 hm hc1 hr1 HUN
  obtain ⟨G, hG⟩ : ∃ G, G = w1.heap.size := ⟨_, rfl⟩
  obtain ⟨W2, hW2⟩ : ∃ W2, W2 = w1.alloc (.cells (madeCells #[.slice none 0 0] ss.length) 72) := ⟨_, rfl⟩
  have HB2 : Hid (W2.heap[G]? = some (.cells (madeCells #[.slice none 0 0] ss.length) 72 (0, 0))) := by show _ = _; rw [hW2, hG]; exact heap_new w1 _
  have HC2 : Hid (Chg (fun _ => False) w1 W2) := by rw [hW2]; exact (Chg.refl _ w1).alloc _
  have HT2 : Hid (Tab ss G W2.heap.size 0 (madeCells #[.slice none 0 0] ss.length) W2) := ⟨by rw [size_madeCells], fun p hp => absurd hp (by omega)⟩
  go_wp2
  have HG1 : Hid (w1.heap.size = G) := hG.symm
  rw [← hW2, ← hG]
  clear hW2 hG
  clear hmr
  have hmb := make_bools ss.length hms
  go_loopw [6] (fun i wr => ∃ (p : Nat) (arr : Array Value), p ≤ ss.length ∧ i = .int .i64 p ∧ wr.heap[G]? = some (.cells arr 72 (0, 0)) ∧ Tab ss G wr.heap.size p arr wr ∧ Chg (fun _ => False) w1 wr) (fun i _ => ss.length - (intOf i).toNat)
  case atStart => exact ⟨0, _, Nat.zero_le _, rfl, HB2.out, HT2.out, HC2.out⟩
  case round =>
    clear HB2 HC2 HT2
    obtain ⟨wo, rfl⟩ : ∃ wo : World, wo = wr := ⟨_, rfl⟩
    obtain ⟨p, arr, hp, rfl, hb, ht, hc⟩ := hrel
    have HT := Lib.hid ht
    have HC := Lib.hid hc
    have HB := Lib.hid hb
    have hGl := lt_of _ hb
    by_cases hlt : p < ss.length
    · obtain ⟨u, hu0⟩ : ∃ u, arr[p]? = some u := ⟨arr[p]'(by rw [ht.1]; exact hlt), Array.getElem?_eq_getElem _⟩
      obtain ⟨W3, hW3⟩ : ∃ W3, W3 = (wo.setCell ⟨G, p, none⟩ (.slice (some ⟨wo.heap.size, 0, none⟩) ss.length ss.length)).alloc (.cells (madeCells #[.bool false] ss.length) 4) := ⟨_, rfl⟩
      have o0 : (wo.alloc (.cells (madeCells #[.bool false] ss.length) 4)).cell? ⟨G, p, none⟩ = some u := cell_at (heap_old _ hb) p hu0
      have o1 : (wo.alloc (.cells (madeCells #[.bool false] ss.length) 4)).frozen? ⟨G, p, none⟩ = false := free_at (heap_old _ hb) p
      obtain ⟨g, hg⟩ : ∃ g, g = wo.heap.size := ⟨_, rfl⟩
      have HGg : Hid (G < g) := by show _ < _; omega
      have HB3 : Hid (W3.heap[G]? = some (.cells (arr.setIfInBounds p (.slice (some ⟨g, 0, none⟩) ss.length ss.length)) 72 (0, 0))) := by
        show _ = _; rw [hW3, hg]; exact heap_old _ (heap_set hb p _)
      have HG3 : Hid (W3.heap[g]? = some (.cells (madeCells #[.bool false] ss.length) 4 (0, 0))) := by
        show _ = _; rw [hW3]; exact heap_new' _ _ (by rw [hg]; simp [World.setCell])
      have HT3 : Hid (Tab ss G g p (arr.setIfInBounds p (.slice (some ⟨g, 0, none⟩) ss.length ss.length)) W3) := by
        show Tab _ _ _ _ _ _
        refine (ht.set _).keep (by omega) (fun g' o hg' _ ho' => ?_)
        rw [hW3]
        exact heap_old _ ((heap_set_ne _ _ (by omega)).trans ho')
      have HC3 : Hid (Chg (fun _ => False) w1 W3) := by
        rw [hW3]; exact (hc.setCell (p := ⟨G, p, none⟩) (.inl (by show w1.heap.size ≤ G; have := HG1.out; omega)) _).alloc _
      have HR0 : Hid (RowB ss p 0 (madeCells #[.bool false] ss.length)) := ⟨by rw [size_madeCells], fun j hj => absurd hj (by omega)⟩
      have HAP : Hid ((arr.setIfInBounds p (.slice (some ⟨g, 0, none⟩) ss.length ss.length))[p]? = some (.slice (some ⟨g, 0, none⟩) ss.length ss.length)) := by
        show _ = _; rw [Array.getElem?_setIfInBounds_self_of_lt (by rw [ht.1]; exact hlt)]
      clear hb ht hc hu0
      go_wp2
      rw [← hW3]
      try rw [← hg]
      clear hW3 hg o0 o1 HT HC HB hGl hmb
      go_loopw [7] (fun j wr => ∃ (q : Nat) (row : Array Value), q ≤ ss.length ∧ j = .int .i64 q ∧ wr.heap[g]? = some (.cells row 4 (0, 0)) ∧ RowB ss p q row ∧ Chg (fun x => x = g) W3 wr) (fun j _ => ss.length - (intOf j).toNat)
      case atStart => exact ⟨0, _, Nat.zero_le _, rfl, HG3.out, HR0.out, Chg.refl _ _⟩
      case round =>
        obtain ⟨wi, rfl⟩ : ∃ wi : World, wi = wr := ⟨_, rfl⟩
        obtain ⟨q, row, hq, rfl, hb, hr, hc⟩ := hrel
        by_cases hql : q < ss.length
        · have HH := Lib.hid hc
          have HBI := Lib.hid hb
          have HRI := Lib.hid hr
          have HC4 : Hid (Chg (fun _ => False) w1 wi) := HC3.out.trans hc (fun k hk e => by have := HG1.out; have := HGg.out; omega)
          have f1 := cell_at (hc.at_ HB3.out (by have := HGg.out; omega)) p HAP.out
          obtain ⟨u, hu⟩ : ∃ u, row[q]? = some u := ⟨row[q]'(by rw [hr.1]; exact hql), Array.getElem?_eq_getElem _⟩
          have f2 := cell_at hb q hu
          have f3 := free_at hb q
          obtain ⟨b, off, eA, hbb, hcl⟩ := rd_us (HR1.out wi HC4.out) (by omega)
          cases eA
          have f4 := hcl p hlt
          have f5 := hcl q hql
          obtain ⟨x, hx⟩ : ∃ x, x = ss.getD p 0 := ⟨_, rfl⟩
          obtain ⟨y, hy⟩ : ∃ y, y = ss.getD q 0 := ⟨_, rfl⟩
          rw [← hx] at f4
          rw [← hy] at f5
          have hx64 : x < B64 := by rw [hx]; exact HS64.out p hlt
          have hy64 : y < B64 := by rw [hy]; exact HS64.out q hql
          have HX := Lib.hid hx
          have HY := Lib.hid hy
          have HRS : Hid (∀ v, rt ss x y = v → RowB ss p (q + 1) (row.setIfInBounds q (.bool v))) := fun v hv => by
            have := hr.set hql
            rw [← hx, ← hy, hv] at this
            exact this
          clear hc hb hr hu hcl hbb hx hy
          have HBT := Lib.hid (fun W (hc : Chg (fun _ => False) w1 W) => flip (rbetween_any ss (some ⟨b, off, none⟩) ss.length c1 W _ x y (HR1.out W hc) (by omega) hx64 hy64 HSL.out))
          have HBL := Lib.hid (fun W => flip (rbelow_any x y W hx64 hy64))
          have HE : Hid (rt ss x y = (bel x y && !(ss.any (btw x y)))) := by show _ = _; rfl
          cases hb1 : bel x y with
          | false =>
            rw [hb1] at HBL HE
            go_wp2_with fail
            go_still_tail 28, (by kernel_rfl)
            refine wpStill_step (fun K hK => ?_)
            go_simp
            refine ⟨_, HBL.out _, ?_⟩
            revert hK
            generalize hgg : Act.mk _ _ = fr
            intro hK
            refine hK fr ?_
            clear hK K
            repeat (refine wpStill_step (fun K hK => ?_); subst hgg; go_simp; revert hK; generalize hgg : Act.mk _ _ = fr; intro hK; refine hK fr ?_; clear hK K)
            refine wpStill_nil ?_
            subst hgg
            change wpList _ _ _ _ _ wi.drew
            have g2 : wi.drew.cell? ⟨g, q, none⟩ = some u := f2
            have g3 : wi.drew.frozen? ⟨g, q, none⟩ = false := f3
            have g4 : Hid (Chg (fun x => x = g) W3 wi.drew) := HH.out.drew
            have g5 : Hid (wi.drew.heap[g]? = some (.cells row 4 (0, 0))) := HBI.out
            clear f1 f2 f3 f4 f5 HH HBI HC4 HBT HBL
            generalize wi.drew = wd at g2 g3 g4 g5 ⊢
            go_wp2
            go_roundw
            case rel => exact ⟨q + 1, _, hql, by go_num, heap_set g5.out q _, HRS.out _ (by simpa using HE.out), g4.out.set (.inr rfl)⟩
            case measure => simp [intOf]; omega
          | true =>
            rw [hb1] at HBL HE
            cases hb2 : ss.any (btw x y) with
            | true =>
              rw [hb2] at HBT HE
              go_wp2_with fail
              go_still_tail 28, (by kernel_rfl)
              refine wpStill_step (fun K hK => ?_)
              go_simp
              refine ⟨_, HBL.out _, ?_⟩
              revert hK
              generalize hgg : Act.mk _ _ = fr
              intro hK
              refine hK fr ?_
              clear hK K
              repeat (refine wpStill_step (fun K hK => ?_); subst hgg; go_simp; revert hK; generalize hgg : Act.mk _ _ = fr; intro hK; refine hK fr ?_; clear hK K)
              refine wpStill_step (fun K hK => ?_)
              subst hgg
              go_simp
              refine ⟨_, HBT.out _ HC4.out.drew, ?_⟩
              revert hK
              generalize hgg : Act.mk _ _ = fr
              intro hK
              refine hK fr ?_
              clear hK K
              repeat (refine wpStill_step (fun K hK => ?_); subst hgg; go_simp; revert hK; generalize hgg : Act.mk _ _ = fr; intro hK; refine hK fr ?_; clear hK K)
              refine wpStill_nil ?_
              subst hgg
              change wpList _ _ _ _ _ wi.drew
              have g2 : wi.drew.cell? ⟨g, q, none⟩ = some u := f2
              have g3 : wi.drew.frozen? ⟨g, q, none⟩ = false := f3
              have g4 : Hid (Chg (fun x => x = g) W3 wi.drew) := HH.out.drew
              have g5 : Hid (wi.drew.heap[g]? = some (.cells row 4 (0, 0))) := HBI.out
              clear f1 f2 f3 f4 f5 HH HBI HC4 HBT HBL
              generalize wi.drew = wd at g2 g3 g4 g5 ⊢
              go_wp2
              go_roundw
              case rel => exact ⟨q + 1, _, hql, by go_num, heap_set g5.out q _, HRS.out _ (by simpa using HE.out), g4.out.set (.inr rfl)⟩
              case measure => simp [intOf]; omega
            | false =>
              rw [hb2] at HBT HE
              go_wp2_with fail
              go_still_tail 28, (by kernel_rfl)
              refine wpStill_step (fun K hK => ?_)
              go_simp
              refine ⟨_, HBL.out _, ?_⟩
              revert hK
              generalize hgg : Act.mk _ _ = fr
              intro hK
              refine hK fr ?_
              clear hK K
              repeat (refine wpStill_step (fun K hK => ?_); subst hgg; go_simp; revert hK; generalize hgg : Act.mk _ _ = fr; intro hK; refine hK fr ?_; clear hK K)
              refine wpStill_step (fun K hK => ?_)
              subst hgg
              go_simp
              refine ⟨_, HBT.out _ HC4.out.drew, ?_⟩
              revert hK
              generalize hgg : Act.mk _ _ = fr
              intro hK
              refine hK fr ?_
              clear hK K
              repeat (refine wpStill_step (fun K hK => ?_); subst hgg; go_simp; revert hK; generalize hgg : Act.mk _ _ = fr; intro hK; refine hK fr ?_; clear hK K)
              refine wpStill_nil ?_
              subst hgg
              change wpList _ _ _ _ _ wi.drew
              have g2 : wi.drew.cell? ⟨g, q, none⟩ = some u := f2
              have g3 : wi.drew.frozen? ⟨g, q, none⟩ = false := f3
              have g4 : Hid (Chg (fun x => x = g) W3 wi.drew) := HH.out.drew
              have g5 : Hid (wi.drew.heap[g]? = some (.cells row 4 (0, 0))) := HBI.out
              clear f1 f2 f3 f4 f5 HH HBI HC4 HBT HBL
              generalize wi.drew = wd at g2 g3 g4 g5 ⊢
              go_wp2
              go_roundw
              case rel => exact ⟨q + 1, _, hql, by go_num, heap_set g5.out q _, HRS.out _ (by simpa using HE.out), g4.out.set (.inr rfl)⟩
              case measure => simp [intOf]; omega
        · have : q = ss.length := by omega
          subst this
          have HC4 : Hid (Chg (fun _ => False) w1 wi) := HC3.out.trans hc (fun k hk e => by have := HG1.out; have := HGg.out; omega)
          have hgl := lt_of _ hb
          have HT4 : Hid (Tab ss G wi.heap.size (p + 1) (arr.setIfInBounds p (.slice (some ⟨g, 0, none⟩) ss.length ss.length)) wi) :=
            (HT3.out.keep (by omega) (fun g' o _ h2 ho' => hc.at_ ho' (by omega))).more HAP.out HGg.out hgl hb hr
          have HB4 : Hid (wi.heap[G]? = some (.cells (arr.setIfInBounds p (.slice (some ⟨g, 0, none⟩) ss.length ss.length)) 72 (0, 0))) := hc.at_ HB3.out (by have := HGg.out; omega)
          clear hb hr hc
          go_wp2
          go_roundw
          case rel => exact ⟨p + 1, _, hlt, by go_num, HB4.out, HT4.out, HC4.out⟩
          case measure => simp [intOf]; omega
    · have : p = ss.length := by omega
      subst this
      have HMEM : Hid (∀ x, x ∈ ss ↔ x ∈ ls) := fun x => ⟨HM.out x, fun hx => by
        obtain ⟨j, hj, rfl⟩ := List.getElem_of_mem hx
        obtain ⟨p, -, h2, h3⟩ := HA0.out.at_ j (by have := HL.out; omega)
        rw [List.getD_eq_getElem?_getD, List.getD_eq_getElem?_getD, List.getElem?_eq_getElem h2, List.getElem?_eq_getElem hj] at h3
        simp only [Option.getD_some] at h3
        rw [← h3]; exact List.getElem_mem h2⟩
      have HAT : Hid (∀ W, Chg (fun _ => False) wo W → ∀ i, i < k → ∃ pi, pi < ss.length ∧ ss.getD pi 0 = ls.getD i 0 ∧ W.cell? ⟨w.heap.size, i, none⟩ = some (.int .i64 (pi : Nat))) := fun W hW i hi => by
        obtain ⟨pi, h1, h2, h3⟩ := HA0.out.at_ i hi
        exact ⟨pi, h2, h3, cell_at (hW.at_ (HC.out.at_ HB0.out (fun h => h)) (fun h => h)) i h1⟩
      have HROW : Hid (∀ W, Chg (fun _ => False) wo W → ∀ pi, pi < ss.length → ∃ g, W.cell? ⟨G, pi, none⟩ = some (.slice (some ⟨g, 0, none⟩) ss.length ss.length) ∧ ∀ pj, pj < ss.length → W.cell? ⟨g, pj, none⟩ = some (.bool (rt ss (ss.getD pi 0) (ss.getD pj 0)))) := fun W hW pi hpi => by
        obtain ⟨g, row, h1, h2, h3, h4, h5⟩ := HT.out.2 pi hpi
        exact ⟨g, cell_at (hW.at_ HB.out (fun h => h)) pi h1, fun pj hpj => cell_at (hW.at_ h4 (fun h => h)) pj (h5.2 pj hpj)⟩
      have HCw : Hid (Chg (fun _ => False) w wo) := HC1.out.trans HC.out (fun _ _ h => h)
      have hsl1 := hk
      have hLn := HL.out
      clear hb ht hc hGl hmb HT HC HB HC1 HR1 HB0 HA0 HM HG1
      go_wp2
      go_loopw [8, 9] (fun v i wr => ∃ (p : Nat), p ≤ ls.length ∧ i = .int .i64 p ∧ wr.ownsRow wo.heap.size 62 2 v (covs ss ls p).length (flat2 (covs ss ls p)) ∧ Chg (fun _ => False) wo wr)
        (fun _ i _ => ls.length - (intOf i).toNat)
      case atStart => exact ⟨0, by omega, rfl, World.ownsRow_nil _ _ _ _, Chg.refl _ _⟩
      case round =>
        obtain ⟨p, hp, rfl, hrow, hch⟩ := hrel
        obtain ⟨wa, hwa⟩ : ∃ wa, wa = wr := ⟨_, rfl⟩
        subst hwa
        obtain ⟨A2, c2, rfl, -⟩ := Rd.of_own hrow
        have HO1 := Lib.hid hrow
        have HH1 := Lib.hid hch
        clear hrow hch
        by_cases hpl : p < k
        · go_wp2
          go_loopw [8, 10] (fun v i wr => ∃ (q : Nat), q ≤ ls.length ∧ i = .int .i64 q ∧ wr.ownsRow wo.heap.size 62 2 v (covs ss ls p ++ rowC ss ls p q).length (flat2 (covs ss ls p ++ rowC ss ls p q)) ∧ Chg (fun _ => False) wo wr)
            (fun _ i _ => ls.length - (intOf i).toNat)
          case atStart => exact ⟨0, by omega, rfl, by simpa [rowC] using HO1.out, HH1.out⟩
          case round =>
            clear HO1 HH1
            obtain ⟨q, hq, rfl, hrow, hch⟩ := hrel
            obtain ⟨wb, hwb⟩ : ∃ wb, wb = wr := ⟨_, rfl⟩
            subst hwb
            obtain ⟨L, hL⟩ : ∃ L, L = covs ss ls p ++ rowC ss ls p q := ⟨_, rfl⟩
            rw [← hL] at hrow
            have HLL2 := Lib.hid hL
            clear hL
            obtain ⟨A3, c3, rfl, -⟩ := Rd.of_own hrow
            have HO1 := Lib.hid hrow
            have HH1 := Lib.hid hch
            clear hrow hch
            by_cases hql : q < k
            · obtain ⟨pi, hpi, hei, f1⟩ := HAT.out wb HH1.out p hpl
              obtain ⟨pj, hpj, hej, f2⟩ := HAT.out wb HH1.out q hql
              obtain ⟨g, f3, hrw⟩ := HROW.out wb HH1.out pi hpi
              have f4 := hrw pj hpj
              rw [hei, hej] at f4
              clear hrw hei hej
              have hLn2 : L.length ≤ 1099512676352 := by
                rw [HLL2.out, List.length_append]
                have h1 := covs_len ss ls p
                have h2 := rowC_len ss ls p q
                have h3 : p * ls.length ≤ 1048576 * 1048576 := Nat.mul_le_mul (by omega) (by omega)
                omega
              have hbs2 := HH1.out.size
              cases hrt : rt ss (ls.getD p 0) (ls.getD q 0) with
              | true =>
                rw [hrt] at f4
                have HRT := Lib.hid hrt
                clear hrt
                go_wp2_with fail
                go_quiet (fail)
                have HO2 : Hid ((wb.drewN nq).ownsRow wo.heap.size 62 2 (.slice A3 L.length c3) L.length (flat2 L)) := own_chg (S := fun _ => False) ((Chg.refl _ wb).drewN nq) HO1.out (fun _ _ h => h)
                have HH2 : Hid (Chg (fun _ => False) wo (wb.drewN nq)) := HH1.out.drewN _
                clear f1 f2 f3 f4 hbs2 HO1 HH1
                generalize wb.drewN nq = wd at HO2 HH2 ⊢
                have hbs2 := HH2.out.size
                go_wp2_with (at_builtin; refine ap_one rfl (.tmp 90) (.tmp 94) 53 rfl wo.heap.size 62 2 16 (.agg #[.int .i64 0, .int .i64 0]) Try.underlying53 infoP rfl (by decide) (by decide) (.slice A3 L.length c3) L.length _ rfl HO2.out #[.int .i64 (p : Int), .int .i64 (q : Int)] rfl rfl (by simp [Value.oneCell']) (by omega) hbs2 ?_; intro v1 w1' o1' g1 r1)
                go_roundw
                case rel => exact ⟨q + 1, by omega, by go_num, by rw [rowC_yes HRT.out, ← List.append_assoc, ← HLL2.out, List.length_append, flat2_app]; exact o1', HH2.out.of_grown g1 (fun j hj => .inl (HO2.out.lt j hj).1)⟩
                case measure => simp [intOf]; omega
              | false =>
                rw [hrt] at f4
                have HRT := Lib.hid hrt
                clear hrt
                go_wp2_with fail
                go_quiet (fail)
                go_wp2
                go_roundw
                case rel => exact ⟨q + 1, by omega, by go_num, by rw [rowC_no HRT.out, ← HLL2.out]; exact own_chg (S := fun _ => False) ((Chg.refl _ wb).drewN _) HO1.out (fun _ _ h => h), HH1.out.drewN _⟩
                case measure => simp [intOf]; omega
            · have : q = ls.length := by omega
              subst this
              go_wp2
              go_roundw
              case rel => exact ⟨p + 1, by omega, by go_num, by rw [covs_succ, ← HLL2.out]; exact HO1.out, HH1.out⟩
              case measure => simp [intOf]; omega
        · have : p = ls.length := by omega
          subst this
          go_wp2
          go_ret
          have hcv : covs ss ls ls.length = covs ls ls ls.length := covs_same HMEM.out _
          rw [hcv] at HO1
          refine ⟨.slice A2 (covs ls ls ls.length).length c2, by simp only [← hcv]; rfl, own_base_le HO1.out (fun k hk => ?_), HCw.out.trans HH1.out (fun _ _ h => h)⟩
          exact Nat.le_trans HCw.out.size (HO1.out.lt k hk).1
end Go.Proofs.Ytdfplhoijapoeaa.Lrv
