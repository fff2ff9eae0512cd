/- QueueKinds returns true, whatever the things. Conditions: the things read. -/
import Derived.Test.YtmlomceemcbnaaaQks
import Derived.Test.YtmlomceemcbnaaaQfix
import Derived.Test.YtmlomceemcbnaaaRel
import Derived.RegionTactic
import Derived.Lib.Builder
set_option linter.unusedVariables false
set_option linter.unusedSimpArgs false
namespace Go.Proofs.Ytmlomceemcbnaaa.Qkw
open Go.RowKit Go.Proofs.Ytmlomceemcbnaaa.Lib1 Go.Proofs.Ytmlomceemcbnaaa.Q Go.Proofs.Ytmlomceemcbnaaa.Q2 Go.Proofs.Ytmlomceemcbnaaa.Qks Go.Proofs.Ytmlomceemcbnaaa.Rel

abbrev pairK : Kd (Int × Bool × Unit) := Kd.pair (Kd.int .i64) (Kd.pair Kd.bool Kd.unit)
structure Things (W : World) (A : Option Addr) (n : Nat) (f : Nat → Int × Bool) : Prop where
  at_ : ∀ i, i < n → ∃ g off, A = some ⟨g, off, none⟩ ∧ g < W.heap.size ∧ W.cell? ⟨g, off + i * 2, none⟩ = some (.int .i64 (f i).1) ∧ W.cell? ⟨g, off + i * 2 + 1, none⟩ = some (.bool (f i).2)

theorem things_of {W : World} {A : Option Addr} {n c : Nat} {y : List (Int × Bool × Unit)} (h : (Kd.slice 16 pairK).rel (fun k => k < W.heap.size) W y [.slice A n c]) : ∃ f, Things W A n f := by
  obtain ⟨A', c', cells, e, hr, he⟩ := h
  simp only [List.cons.injEq, Value.slice.injEq, and_true] at e
  obtain ⟨rfl, rfl, rfl⟩ := e
  refine ⟨fun i => ((y[i]?.getD (0, false, ())).1, (y[i]?.getD (0, false, ())).2.1), ⟨fun i hi => ?_⟩⟩
  obtain ⟨g, off, rfl, hg, hc⟩ := hr.at_ (by omega)
  have hx : y[i]? = some y[i] := List.getElem?_eq_getElem hi
  obtain ⟨c1, c2, e1, e2, c3, c4, e3, e4, e5⟩ := he i _ hx
  replace e2 : c1 = [.int .i64 y[i].1] := e2
  replace e4 : c3 = [.bool y[i].2.1] := e4
  replace e5 : c4 = [] := e5
  subst e5 e4 e2
  subst e3
  have d0 : (cells.drop (i * 2)).take 2 = [.int .i64 y[i].1, .bool y[i].2.1] := e1
  have g0 : cells[i * 2]? = some (.int .i64 y[i].1) := by
    have := congrArg (·[0]?) d0
    simpa [List.getElem?_take, List.getElem?_drop] using this
  have g1 : cells[i * 2 + 1]? = some (.bool y[i].2.1) := by
    have := congrArg (·[1]?) d0
    simpa [List.getElem?_take, List.getElem?_drop] using this
  have r0 := hc _ _ g0
  have r1 := hc _ _ g1
  refine ⟨g, off, rfl, hg, ?_, ?_⟩
  · simpa [hx] using r0
  · rw [Nat.add_assoc]; simpa [hx] using r1

theorem opens_pair : Opens Try.prog 41 pairK := by
  apply opens_struct Try.underlying41 (by kernel_rfl)
  apply opensF_cons (a := Kd.int .i64) (b := Kd.pair Kd.bool Kd.unit)
  · rfl
  · kernel_rfl
  · exact opens_int Try.underlying3
  apply opensF_cons (a := Kd.bool) (b := Kd.unit)
  · rfl
  · kernel_rfl
  · exact opens_bool Try.underlying4
  exact opensF_nil _
theorem opens_things : Opens Try.prog 36 (Kd.slice 16 pairK) :=
  opens_slice (e := 41) Try.underlying36 (by kernel_rfl) (by decide) (by kernel_rfl) opens_pair

/-- A pointer beside itself. -/
theorem neq_same {P : Program} (w : World) {tp te : TypeId} {j : TypeInfo} (a : Addr) (hp : P.underlying tp = some (.pointer te)) (hte : P.info? te = some j) : (binOp .neq tp (.pointer (some a)) (.pointer (some a))).run P w = .ok (.bool false) w := Lib.run_neq_ptr_same w a hp hte
theorem infoPtr : (Try.prog.info? Qptr.ET).map (fun i => (i.zero, i.size, i.bytes)) = some (some (.pointer none), 1, 8) := by kernel_rfl
theorem infoLst : (Try.prog.info? Qlst.ET).map (fun i => (i.zero, i.size, i.bytes)) = some (some (.slice none 0 0), 1, 24) := by kernel_rfl

def K1 (W : World) (n : Nat) (f : Nat → Int × Bool) (b1 b2 b3 : Nat) (v1 v2 i : Value) (wr : World) : Prop :=
  ∃ k : Nat, k ≤ n ∧ i = .int .i64 k ∧ ∃ l1 l2 l3 pp gg, pp.length = k ∧ gg.length = k ∧ KS W wr b1 l1 ((List.range k).map f) b2 l2 pp b3 l3 gg v1 pp v2 gg
def K2 (W : World) (n : Nat) (f : Nat → Int × Bool) (b1 b2 b3 : Nat) (v1 v2 : Value) (pp gg : List Nat) (i : Value) (wr : World) : Prop :=
  ∃ k : Nat, k ≤ n ∧ i = .int .i64 k ∧ ∃ l1 l2 l3, KS W wr b1 l1 (((List.range n).map f).drop k) b2 l2 (pp.drop k) b3 l3 (gg.drop k) v1 pp v2 gg

theorem range_snoc (f : Nat → Int × Bool) (k : Nat) : (List.range (k + 1)).map f = (List.range k).map f ++ [f k] := by simp [List.range_succ]
theorem drop_range (f : Nat → Int × Bool) {k n : Nat} (h : k < n) : ((List.range n).map f).drop k = f k :: ((List.range n).map f).drop (k + 1) := by
  rw [List.drop_eq_getElem_cons (by simpa using h)]; simp
theorem drop_at {l : List Nat} {k : Nat} (h : k < l.length) : l.drop k = l[k] :: l.drop (k + 1) := List.drop_eq_getElem_cons h

set_option maxRecDepth 100000 in
theorem kinds_high (A : Option Addr) (n c : Nat) (w : World) (h : 1000 < n) (hm : n ≤ maxLen) : Calls Try.prog 5 #[.slice A n c] w fun e w' => e = .returned (.bool true) ∧ Below w.heap.size w w' := by
  unfold maxLen at hm
  have h1 : decide ((1000 : Int) < (n : Int)) = true := by simp; omega
  go_enter Try.func5, Try.ntmps5
  go_wp2
  go_ret
  exact ⟨rfl, Below.refl _ _⟩

set_option maxRecDepth 100000 in
set_option maxHeartbeats 4000000 in
theorem kinds_ok (A : Option Addr) (n c : Nat) (w : World) (f : Nat → Int × Bool) (hs : Things w A n f) (hn : n ≤ 1000) : Calls Try.prog 5 #[.slice A n c] w fun e w' => e = .returned (.bool true) ∧ Below w.heap.size w w' := by
  have HS := Lib.hid hs
  clear hs
  have h1 : decide ((1000 : Int) < (n : Int)) = false := by simp; omega
  go_enter Try.func5, Try.ntmps5
  go_wp2_with fail
  refine (Qpr.new_ok 1000 _ (by decide) (by decide)).mono ?_
  rintro e w1 ⟨rfl, hw1⟩
  have HW1 := Lib.hid hw1
  clear hw1
  go_wp2_with fail
  refine (Qptr.new_ok 1000 _ (by decide) (by decide)).mono ?_
  rintro e w2 ⟨rfl, hw2⟩
  have HW2 := Lib.hid hw2
  clear hw2
  go_wp2_with fail
  refine (Qlst.new_ok 1000 _ (by decide) (by decide)).mono ?_
  rintro e w3 ⟨rfl, hw3⟩
  have HW3 := Lib.hid hw3
  clear hw3
  have hw1 := HW1.out
  have hw2 := HW2.out
  have hw3 := HW3.out
  have s1 : w1.heap.size = w.heap.size + 1 := by rw [hw1]; simp
  have s2 : w2.heap.size = w.heap.size + 2 := by rw [hw2]; simp [s1]
  have c1 : Chg (fun _ => False) w w1 := by rw [hw1]; exact (Chg.refl _ _).alloc _
  have c2 : Chg (fun _ => False) w1 w2 := by rw [hw2]; exact (Chg.refl _ _).alloc _
  have c3 : Chg (fun _ => False) w2 w3 := by rw [hw3]; exact (Chg.refl _ _).alloc _
  have q1 : IsQ2 Qpr.QT Qpr.ET w1 w.heap.size none 1000 [] := by rw [hw1]; exact IsQ2.new w (by omega) (by omega)
  have q2 : IsQ Qptr.QT Qptr.ET w2 w1.heap.size none 1000 [] := by rw [hw2]; exact IsQ.new w1 (by omega) (by omega)
  have q3 : IsQ Qlst.QT Qlst.ET w3 w2.heap.size none 1000 [] := by rw [hw3]; exact IsQ.new w2 (by omega) (by omega)
  rw [s2] at q3 ⊢
  rw [s1] at q2 ⊢
  have h0 : KS w w3 w.heap.size none [] (w.heap.size + 1) none [] (w.heap.size + 2) none [] (.slice none 0 0) [] (.slice none 0 0) [] := by
    refine ⟨(q1.kept c2 (fun h => h) (fun _ _ h => h)).kept c3 (fun h => h) (fun _ _ h => h), q2.kept c3 (fun h => h) (fun _ _ h => h), q3, World.ownsRow_nil _ _ _ _, World.ownsRow_nil _ _ _ _, fun i k hk => ?_, fun i j k hi hj => ?_, (c1.trans c2 (fun _ _ h => h)).trans c3 (fun _ _ h => h)⟩
    · have s3 : w3.heap.size = w.heap.size + 3 := by rw [hw3]; simp [s2]
      match i, hk with
      | 0, hk => rcases hk with rfl | hk
                 · omega
                 · cases hk
      | 1, hk => rcases hk with rfl | hk
                 · omega
                 · cases hk
      | 2, hk => rcases hk with rfl | hk
                 · omega
                 · cases hk
      | 3, hk => cases hk
      | 4, hk => cases hk
      | (m + 5), hk => exact hk.elim
    · have key : ∀ i, own5 w.heap.size none (w.heap.size + 1) none (w.heap.size + 2) none (.slice none 0 0) (.slice none 0 0) i k → k = w.heap.size + i := by
        intro i hk
        match i, hk with
        | 0, hk => rcases hk with rfl | hk
                   · rfl
                   · cases hk
        | 1, hk => rcases hk with rfl | hk
                   · rfl
                   · cases hk
        | 2, hk => rcases hk with rfl | hk
                   · rfl
                   · cases hk
        | 3, hk => cases hk
        | 4, hk => cases hk
        | (m + 5), hk => exact hk.elim
      have := key i hi
      have := key j hj
      omega
  clear hw1 hw2 hw3 HW1 HW2 HW3 s1 s2 c1 c2 c3 q1 q2 q3
  go_wp2_with fail
  refine (Qfix.fixed_any _).mono ?_
  rintro e w4 ⟨rfl, c4⟩
  have HK := Lib.hid (h0.quiet c4)
  obtain ⟨b1, hb1⟩ : ∃ b, b = w.heap.size := ⟨_, rfl⟩
  obtain ⟨b2, hb2⟩ : ∃ b, b = w.heap.size + 1 := ⟨_, rfl⟩
  obtain ⟨b3, hb3⟩ : ∃ b, b = w.heap.size + 2 := ⟨_, rfl⟩
  have HK' : Hid (KS w w4 b1 none [] b2 none [] b3 none [] (.slice none 0 0) [] (.slice none 0 0) []) := by rw [hb1, hb2, hb3]; exact HK
  clear HK h0 c4
  simp only [← hb3]
  simp only [← hb2]
  simp only [← hb1]
  clear hb1 hb2 hb3
  go_wp2
  go_loopw [9, 10, 56] (fun v1 v2 i wr => K1 w n f b1 b2 b3 v1 v2 i wr) (fun _ _ i _ => n - (intOf i).toNat)
  case atStart => exact ⟨0, Nat.zero_le _, rfl, none, none, none, [], [], rfl, rfl, HK'.out⟩
  case round =>
    obtain ⟨k, hk, rfl, l1, l2, l3, pp, gg, hp, hg, hh⟩ := hrel
    by_cases hlt : k < n
    · obtain ⟨g, off, rfl, hgl, t0, t1⟩ := HS.out.at_ k hlt
      replace t0 := (World.cell?_of_block (hh.chg.block g hgl (fun h => h)) (a := ⟨g, off + k * 2, none⟩)).trans t0
      replace t1 := (World.cell?_of_block (hh.chg.block g hgl (fun h => h)) (a := ⟨g, off + k * 2 + 1, none⟩)).trans t1
      have HH := Lib.hid hh
      obtain ⟨y, hy⟩ : ∃ y, y = f k := ⟨_, rfl⟩
      rw [← hy] at t0 t1
      have HY := Lib.hid hy
      clear hh hy
      obtain ⟨A1, k1, e1, -⟩ := Rd.of_own HH.out.r1
      obtain ⟨A2, k2, e2, -⟩ := Rd.of_own HH.out.r2
      rw [hp] at e1
      rw [hg] at e2
      subst e1 e2
      have HP := Lib.hid hp
      have HG := Lib.hid hg
      clear hp hg
      go_wp2
      obtain ⟨w5, hw5⟩ : ∃ w5, w5 = wr.alloc (.cells #[.int .i64 y.1, .bool y.2] 41) := ⟨_, rfl⟩
      have c5 : Chg (fun _ => False) wr w5 := by rw [hw5]; exact (Chg.refl _ _).alloc _
      have b5 : w5.heap[wr.heap.size]? = some (.cells #[.int .i64 y.1, .bool y.2] 41 (0, 0)) := by rw [hw5]; exact heap_new _ _
      have r0 := cell_at b5 0 rfl
      have r1 := cell_at b5 1 rfl
      have hl5 := lt_of _ b5
      have H5 := Lib.hid (HH.out.quiet c5)
      have B5 := Lib.hid b5
      rw [← hw5]
      clear hw5 c5 b5
      go_region
      all_goals
        first
          | (obtain ⟨w6, hw6⟩ : ∃ w6, w6 = ((w5.alloc (.cells #[.int .i64 y.1, .bool y.2] 41)).alloc (.cells #[.int .i64 y.1] 3)).drew := ⟨_, rfl⟩
             rw [← hw6]
             generalize w5.heap.size + 1 = gq
             generalize w5.heap.size = gp)
          | (obtain ⟨w6, hw6⟩ : ∃ w6, w6 = ((w5.alloc (.cells #[.int .i64 y.1] 3)).alloc (.cells #[.int .i64 y.1, .bool y.2] 41)).drew := ⟨_, rfl⟩
             rw [← hw6]
             generalize w5.heap.size + 1 = gp
             generalize w5.heap.size = gq)
        have c6 : Chg (fun _ => False) w5 w6 := by rw [hw6]; exact (((Chg.refl _ _).alloc _).alloc _).drew
        have H6 := Lib.hid (H5.out.quiet c6)
        have b6 := c6.at_ B5.out (fun h => h)
        have B6 := Lib.hid b6
        have r1k : w6.ownsRow w.heap.size Qptr.ET 1 (.slice A1 k k1) k (pp.map ptr) := by have := H6.out.r1; rwa [HP.out] at this
        have R1 := Lib.hid r1k
        have sz6 := H6.out.chg.size
        have hl6 := lt_of _ b6
        clear hw6 c6 b6 r1k r0 r1
        go_wp2_with (first
          | (at_builtin; refine ap_one rfl (.tmp 69) (.tmp 71) 50 rfl w.heap.size Qptr.ET 1 8 (.pointer none) Try.underlying50 infoPtr rfl (by decide) (by decide) (.slice A1 k k1) k (pp.map ptr) rfl R1.out #[.pointer (some ⟨gp, 0, none⟩)] rfl rfl (by simp [Value.oneCell']) (by omega) (by omega) ?_; intro v7 w7 o7 g7 r7; obtain ⟨A7, c7, e7, -⟩ := Rd.of_own o7; subst e7; have H7 := Lib.hid (H6.out.set4 (pp' := pp ++ [gp]) (by rw [List.length_append, HP.out, List.map_append]; exact o7) r7 g7); have B7 := Lib.hid ((g7.block _ hl6 (fun e => by have := (HH.out.low 3 wr.heap.size e.symm).2; omega)).trans B6.out); have sz7 := H7.out.chg.size; have R2 : Hid (w7.ownsRow w.heap.size Qlst.ET 1 (.slice A2 k k2) k (gg.map lst)) := Lib.hid (by have := H7.out.r2; rwa [HG.out] at this); clear o7 g7 r7)
          | (at_builtin; refine ap_one rfl (.tmp 73) (.tmp 75) 51 rfl w.heap.size Qlst.ET 1 24 (.slice none 0 0) Try.underlying51 infoLst rfl (by decide) (by decide) (.slice A2 k k2) k (gg.map lst) rfl R2.out #[.slice (some ⟨gq, 0, none⟩) 1 1] rfl rfl (by simp [Value.oneCell']) (by omega) (by omega) ?_; intro v8 w8 o8 g8 r8; obtain ⟨A8, c8, e8, -⟩ := Rd.of_own o8; subst e8; have H8 := Lib.hid (H7.out.set5 (gg' := gg ++ [gq]) (by rw [List.length_append, HG.out, List.map_append]; exact o8) r8 g8); have b8 := (g8.block _ (lt_of _ B7.out) (fun e => by have := (HH.out.low 4 wr.heap.size e.symm).2; omega)).trans B7.out; have B8 := Lib.hid b8; have r0 := cell_at b8 0 rfl; have r1 := cell_at b8 1 rfl; clear o8 g8 r8 b8))
        with_reducible refine (H8.out.push1 y (by simp; omega)).mono ?_
        rintro e w9 ⟨rfl, l1', h9⟩
        have H9 := Lib.hid h9
        clear h9
        go_wp2_with fail
        with_reducible refine (H9.out.push2 gp (by rw [HP.out]; omega)).mono ?_
        rintro e w10 ⟨rfl, l2', h10⟩
        have H10 := Lib.hid h10
        clear h10
        go_wp2_with fail
        with_reducible refine (H10.out.push3 gq (by rw [HG.out]; omega)).mono ?_
        rintro e w11 ⟨rfl, l3', h11⟩
        have H11 := Lib.hid h11
        clear h11
        go_wp2_with fail
        go_roundw
        case rel =>
          refine ⟨k + 1, hlt, rfl, l1', l2', l3', pp ++ [gp], gg ++ [gq], by rw [List.length_append, HP.out]; rfl, by rw [List.length_append, HG.out]; rfl, ?_⟩
          rw [range_snoc, ← HY.out]
          exact H11.out
        case measure => simp [intOf]; omega
    · obtain rfl : k = n := by omega
      have HH := Lib.hid hh
      obtain ⟨A1, k1, e1, hrd1⟩ := Rd.of_own hh.r1
      obtain ⟨A2, k2, e2, hrd2⟩ := Rd.of_own hh.r2
      rw [hp] at e1 hrd1
      rw [hg] at e2 hrd2
      subst e1 e2
      have HP := Lib.hid hp
      have HG := Lib.hid hg
      have HR1 := Lib.hid hrd1
      have HR2 := Lib.hid hrd2
      clear hp hg hh hrd1 hrd2
      obtain ⟨wo, rfl⟩ : ∃ wo : World, wo = wr := ⟨_, rfl⟩
      go_wp2
      go_loopw [96] (fun i wr => K2 w k f b1 b2 b3 (.slice A1 k k1) (.slice A2 k k2) pp gg i wr) (fun i _ => k - (intOf i).toNat)
      case atStart => exact ⟨0, Nat.zero_le _, rfl, l1, l2, l3, HH.out⟩
      case round =>
        obtain ⟨j, hj, rfl, m1, m2, m3, hh⟩ := hrel
        by_cases hlt : j < k
        · obtain ⟨g, off, rfl, hgl, t0, t1⟩ := HS.out.at_ j hlt
          replace t0 := (World.cell?_of_block (hh.chg.block g hgl (fun h => h)) (a := ⟨g, off + j * 2, none⟩)).trans t0
          replace t1 := (World.cell?_of_block (hh.chg.block g hgl (fun h => h)) (a := ⟨g, off + j * 2 + 1, none⟩)).trans t1
          obtain ⟨y, hy⟩ : ∃ y, y = f j := ⟨_, rfl⟩
          rw [← hy] at t0 t1
          obtain ⟨pj, hpj⟩ : ∃ pj, pp[j]? = some pj := ⟨_, List.getElem?_eq_getElem (by rw [HP.out]; exact hlt)⟩
          obtain ⟨gj, hgj⟩ : ∃ gj, gg[j]? = some gj := ⟨_, List.getElem?_eq_getElem (by rw [HG.out]; exact hlt)⟩
          have d1 : ((List.range k).map f).drop j = y :: ((List.range k).map f).drop (j + 1) := by rw [drop_range f hlt, hy]
          have d2 : pp.drop j = pj :: pp.drop (j + 1) := by
            obtain ⟨hl, rfl⟩ := List.getElem?_eq_some_iff.1 hpj
            exact drop_at hl
          have d3 : gg.drop j = gj :: gg.drop (j + 1) := by
            obtain ⟨hl, rfl⟩ := List.getElem?_eq_some_iff.1 hgj
            exact drop_at hl
          rw [d1, d2, d3] at hh
          have HY := Lib.hid hy
          have HPJ := Lib.hid hpj
          have HGJ := Lib.hid hgj
          have HH2 := Lib.hid hh
          clear hh hy hpj hgj d1 d2 d3
          go_wp2_with fail
          obtain ⟨w5, hw5⟩ : ∃ w5, w5 = wr.alloc (.cells #[.int .i64 y.1, .bool y.2] 41) := ⟨_, rfl⟩
          have c5 : Chg (fun _ => False) wr w5 := by rw [hw5]; exact (Chg.refl _ _).alloc _
          have b5 : w5.heap[wr.heap.size]? = some (.cells #[.int .i64 y.1, .bool y.2] 41 (0, 0)) := by rw [hw5]; exact heap_new _ _
          have H5 := Lib.hid (HH2.out.quiet c5)
          have B5 := Lib.hid b5
          rw [← hw5]
          clear hw5 c5 b5
          have hfree : ∀ i, ¬ own5 b1 m1 b2 m2 b3 m3 (.slice A1 k k1) (.slice A2 k k2) i wr.heap.size := fun i hi => by have := (HH2.out.low i _ hi).2; omega
          have HFR := Lib.hid hfree
          have hl5 := lt_of _ B5.out
          clear hfree
          with_reducible refine (H5.out.pop1).mono ?_
          rintro e w6 ⟨rfl, m1', h6, f6⟩
          obtain ⟨f6, e6⟩ := f6 _ hl5 HFR.out
          have b6 := e6.trans B5.out
          obtain ⟨w7, hw7⟩ : ∃ w7, w7 = w6.alloc (.cells #[.int .i64 y.1, .bool y.2] 41) := ⟨_, rfl⟩
          have c7 : Chg (fun _ => False) w6 w7 := by rw [hw7]; exact (Chg.refl _ _).alloc _
          have b7 : w7.heap[w6.heap.size]? = some (.cells #[.int .i64 y.1, .bool y.2] 41 (0, 0)) := by rw [hw7]; exact heap_new _ _
          have b7' := c7.at_ b6 (fun h => h)
          have H7 := Lib.hid (h6.quiet c7)
          have F6 := Lib.hid f6
          have G6 : Hid (∀ i, ¬ own5 b1 m1' b2 m2 b3 m3 (.slice A1 k k1) (.slice A2 k k2) i w6.heap.size) := Lib.hid (fun i hi => by have := (h6.low i _ hi).2; omega)
          have B7 := Lib.hid b7
          have B7' := Lib.hid b7'
          have HW7 := Lib.hid hw7
          have hl7 := lt_of _ b7
          have hl7' := lt_of _ b7'
          clear h6 hw7 c7 b7 b6 b7' f6 e6
          go_wp2_with fail
          rw [← HW7.out]
          with_reducible refine (H7.out.pop2).mono ?_
          rintro e w8 ⟨rfl, m2', h8, f8⟩
          have e8 := f8 _ hl7 G6.out
          have e8' := f8 _ hl7' F6.out
          have G8 := Lib.hid e8.1
          have G8' := Lib.hid e8'.1
          have B8 := Lib.hid (e8.2.trans B7.out)
          have B8' := Lib.hid (e8'.2.trans B7'.out)
          have H8 := Lib.hid h8
          clear h8 f8 e8 e8'
          go_wp2_with fail
          with_reducible refine (H8.out.pop3).mono ?_
          rintro e w9 ⟨rfl, m3', h9, f9⟩
          have b9 := (f9 _ (lt_of _ B8.out) G8.out).2.trans B8.out
          have b9' := (f9 _ (lt_of _ B8'.out) G8'.out).2.trans B8'.out
          have x0 := cell_at b9 0 rfl
          have x1 := cell_at b9 1 rfl
          have z0 := cell_at b9' 0 rfl
          have z1 := cell_at b9' 1 rfl
          obtain ⟨A1', k1', e1', r1'⟩ := Rd.of_own h9.r1
          obtain ⟨A2', k2', e2', r2'⟩ := Rd.of_own h9.r2
          rw [HP.out] at e1' r1'
          rw [HG.out] at e2' r2'
          simp only [Value.slice.injEq, true_and] at e1' e2'
          obtain ⟨rfl, rfl⟩ := e1'
          obtain ⟨rfl, rfl⟩ := e2'
          obtain ⟨ga, oa, rfl, -, ca⟩ := r1'.at_ (by omega)
          obtain ⟨gb, ob, rfl, -, cb⟩ := r2'.at_ (by omega)
          have ya := ca j (ptr pj) (by simp [HPJ.out])
          have yb := cb j (lst gj) (by simp [HGJ.out])
          unfold ptr at ya
          unfold lst at yb
          have H9 := Lib.hid h9
          clear h9 f9 b9 b9' r1' r2' ca cb
          have n1 : ∀ W : World, (binOp .neq 45 (.pointer (some ⟨pj, 0, none⟩)) (.pointer (some ⟨pj, 0, none⟩))).run Try.prog W = .ok (.bool false) W := fun W => neq_same W _ Try.underlying45 rfl
          have n2 : ∀ W : World, (binOp .neq 61 (.pointer (some ⟨gj, 0, none⟩)) (.pointer (some ⟨gj, 0, none⟩))).run Try.prog W = .ok (.bool false) W := fun W => neq_same W _ Try.underlying61 rfl
          go_wp2_with fail
          go_quiet (fail)
          go_wp2
          go_roundw
          case rel => exact ⟨j + 1, hlt, by go_num, m1', m2', m3', H9.out.quiet ((Chg.refl _ _).drewN _)⟩
          case measure => simp [intOf]; omega
        · obtain rfl : j = k := by omega
          have HQ := hh.q2
          rw [List.drop_eq_nil_of_le (by rw [HP.out]; exact Nat.le_refl _)] at HQ
          have HPN := Lib.hid (Qptr.pop_none wr HQ)
          have HCH := Lib.hid hh.chg
          clear hh HQ
          go_wp2_with fail
          with_reducible refine HPN.out.mono ?_
          rintro e w' ⟨rfl, rfl⟩
          go_wp2
          go_ret
          exact ⟨rfl, HCH.out.below⟩

theorem kinds_walk {A : Option Addr} {n c : Nat} {y : List (Int × Bool × Unit)} (w : World) (hr : (Kd.slice 16 pairK).rel (fun k => k < w.heap.size) w y [.slice A n c]) (hf : (Kd.slice 16 pairK).fits y) :
    Calls Try.prog 5 #[.slice A n c] w fun e w' => e = .returned (.bool true) ∧ Below w.heap.size w w' := by
  obtain ⟨f, hs⟩ := things_of hr
  have hy := hf.1
  obtain ⟨A', c', cells, e, hrr, he⟩ := hr
  simp only [List.cons.injEq, Value.slice.injEq, and_true] at e
  obtain ⟨rfl, rfl, rfl⟩ := e
  by_cases h : y.length ≤ 1000
  · exact kinds_ok _ _ _ w f hs h
  · exact kinds_high _ _ _ w (by omega) (by unfold maxLen; omega)

end Go.Proofs.Ytmlomceemcbnaaa.Qkw
