/- The document's gauge: New, Hear. Conditions: its lists read so. -/
import Derived.Test.YtecppcgleidhkaaGi
set_option linter.unusedVariables false
set_option linter.unusedSimpArgs false
set_option exponentiation.threshold 3000
namespace Go.Proofs.Ytecppcgleidhkaa.Gx
open Go.RowKit Go.Proofs.Ytecppcgleidhkaa.Lib1 Go.Proofs.Ytecppcgleidhkaa.Rel Go.Proofs.Ytecppcgleidhkaa.Own Go.Proofs.Ytecppcgleidhkaa.Fl Go.Proofs.Ytecppcgleidhkaa.Gp Go.Proofs.Ytecppcgleidhkaa.Gw Go.Proofs.Ytecppcgleidhkaa.Gm Go.Proofs.Ytecppcgleidhkaa.Gk Go.Proofs.Ytecppcgleidhkaa.Gb

theorem infoI : ((Try.prog).info? 3).map (fun i => (i.zero, i.size, i.bytes)) = some (some (.int .i64 0), 1, 8) := by kernel_rfl
theorem ns_one (l : List Nat) : ∀ u ∈ ns l, u.oneCell' = true := by
  intro u hu
  obtain ⟨x, _, rfl⟩ := List.mem_map.1 hu
  rfl
theorem zs_one (l : List Int) : ∀ u ∈ zs l, u.oneCell' = true := by
  intro u hu
  obtain ⟨x, _, rfl⟩ := List.mem_map.1 hu
  rfl
theorem rnew_walk (x : Nat) (w : World) :
    Calls Try.prog 18 #[.float .f64 x] w fun e w' =>
      (if keeps x = true then e = .returned (.tuple #[.agg #[.bool true, .float .f64 x, .slice none 0 0, .slice none 0 0], .int .i64 0]) else e = .returned (.tuple #[.agg #[.bool false, .float .f64 0, .slice none 0 0, .slice none 0 0], .int .i64 2])) ∧ Chg (fun _ => False) w w' := by
  cases h1 : (Ieee.double.order x 0 == some .gt)
  · have hk : keeps x = false := by unfold keeps; rw [h1]; rfl
    rw [← order_fin_eq] at h1
    simp only [hk, Bool.false_eq_true, if_false]
    clear hk
    go_enter Try.func18, Try.ntmps18
    go_wp2
    refine bodyPost_ret (v := .tuple #[.agg #[.bool false, .float .f64 0, .slice none 0 0, .slice none 0 0], .int .i64 2]) (by simp [results, Try.results18, go_sem]) rfl ?_
    exact ⟨rfl, by repeat (first | with_reducible exact Chg.refl _ _ | with_reducible apply Chg.alloc | with_reducible apply Chg.drew)⟩
  · cases h2 : (Ieee.double.order x 4607182418800017408 == some .lt)
    · have hk : keeps x = false := by unfold keeps; rw [h1, h2]; rfl
      rw [← order_fin_eq] at h1 h2
      simp only [hk, Bool.false_eq_true, if_false]
      clear hk
      go_enter Try.func18, Try.ntmps18
      go_wp2
      refine bodyPost_ret (v := .tuple #[.agg #[.bool false, .float .f64 0, .slice none 0 0, .slice none 0 0], .int .i64 2]) (by simp [results, Try.results18, go_sem]) rfl ?_
      exact ⟨rfl, by repeat (first | with_reducible exact Chg.refl _ _ | with_reducible apply Chg.alloc | with_reducible apply Chg.drew)⟩
    · have hk : keeps x = true := by unfold keeps; rw [h1, h2]; rfl
      rw [← order_fin_eq] at h1 h2
      simp only [hk, if_true]
      clear hk
      go_enter Try.func18, Try.ntmps18
      go_wp2
      refine bodyPost_ret (v := .tuple #[.agg #[.bool true, .float .f64 x, .slice none 0 0, .slice none 0 0], .int .i64 0]) (by simp [results, Try.results18, go_sem]) rfl ?_
      exact ⟨rfl, by repeat (first | with_reducible exact Chg.refl _ _ | with_reducible apply Chg.alloc | with_reducible apply Chg.drew)⟩
section
variable {w : World} {A B : Option Addr} {n c m d : Nat} {g : G}
theorem rhear_nil (k : Nat) (s x : Int) (w : World) (A B : Option Addr) (n c m d : Nat) :
    Calls Try.prog 26 #[.agg #[.bool false, .float .f64 k, .slice A n c, .slice B m d], .agg (resp s x)] w fun e w' => e = .returned (.tuple #[.agg #[.bool false, .float .f64 k, .slice A n c, .slice B m d], .int .i64 1]) ∧ Chg (fun _ => False) w w' := by
  unfold resp
  go_enter Try.func26, Try.ntmps26
  go_wp2
  refine bodyPost_ret (v := .tuple #[.agg #[.bool false, .float .f64 k, .slice A n c, .slice B m d], .int .i64 1]) (by simp [results, Try.results26, go_sem]) rfl ?_
  exact ⟨rfl, by repeat (first | with_reducible exact Chg.refl _ _ | with_reducible apply Chg.alloc | with_reducible apply Chg.drew | with_reducible refine Chg.set ?_ (.inl (by simp)))⟩
/-- The three boxes of Hear. -/
structure St (w W : World) (R : Nat) (c0 c1 c2 : Array Value) : Prop where
  chg : Chg (fun _ => False) w W
  b0 : W.heap[R]? = some (.cells c0 44 (0, 0))
  b1 : W.heap[R + 1]? = some (.cells c1 65 (0, 0))
  b2 : W.heap[R + 2]? = some (.cells c2 44 (0, 0))
  size : R + 3 ≤ W.heap.size
theorem St.alloc {w W : World} {R : Nat} {c0 c1 c2 : Array Value} (h : St w W R c0 c1 c2) (o : Obj) : St w (W.alloc o) R c0 c1 c2 :=
  ⟨h.chg.alloc _, heap_old _ h.b0, heap_old _ h.b1, heap_old _ h.b2, by simp only [World.size_alloc]; exact Nat.le_succ_of_le h.size⟩
theorem St.grown {w W W' : World} {R : Nat} {c0 c1 c2 : Array Value} {row : Option Nat} (h : St w W R c0 c1 c2) (g : W.grownBy W' row) (hr : ∀ q, row = some q → R + 3 ≤ q) (hw : w.heap.size = R := by assumption) : St w W' R c0 c1 c2 := by
  have ne : ∀ k, k < R + 3 → some k ≠ row := fun k hk e => by have := hr k e.symm; omega
  exact ⟨h.chg.of_grown g (fun k hk => .inl (by have := hr k hk; omega)), grow_keep g h.b0 (ne _ (by omega)), grow_keep g h.b1 (ne _ (by omega)), grow_keep g h.b2 (ne _ (by omega)), Nat.le_trans h.size g.size⟩
theorem St.set0 {w W : World} {R : Nat} {c0 c1 c2 : Array Value} (h : St w W R c0 c1 c2) (i : Nat) (v : Value) (hw : w.heap.size = R := by assumption) : St w (W.setCell ⟨R, i, none⟩ v) R (c0.setIfInBounds i v) c1 c2 :=
  ⟨h.chg.set (.inl (by omega)), heap_set h.b0 i v, (heap_set_ne _ _ (by omega)).trans h.b1, (heap_set_ne _ _ (by omega)).trans h.b2, by have := h.size; simpa [World.setCell] using this⟩
theorem own_over {w w' : World} {o : Obj} {lo n : Nat} {t : Nat} {v : Value} {xs : List Value} {row : Option Nat} (h : w.ownsRow lo t 1 v n xs) (g : (w.alloc o).grownBy w' row) (hr : row = some w.heap.size := by rfl) : w'.ownsRow lo t 1 v n xs :=
  own_move h (fun q hq => by
    have h1 := (h.lt q hq).2
    exact (g.block q (by simp only [World.size_alloc]; omega) (fun e => by rw [hr] at e; injection e with e; omega)).trans (Below.heap_alloc _ _ _ h1))
theorem hear_fin {w w8 wf : World} {A B A2 A4 : Option Addr} {n c m d c2 c4 k S R : Nat} {x : Int} {g : G} (h : RW (fun q => q < w.heap.size) w A n c B m d g)
    (o : w8.ownsRow (R + 3) 3 1 (.slice A2 (n + 1) c2) (n + 1) (ns g.slots ++ [.int .i64 (S : Int)])) (p : w8.ownsRow (R + 3) 3 1 (.slice A4 (m + 1) c4) (m + 1) (zs g.codes ++ [.int .i64 x])) (h8 : Chg (fun _ => False) w w8) (hc : Chg (fun q => q = R + 2) w8 wf) (hR : w.heap.size ≤ R + 2 := by omega) :
    (∃ A' c' B' d', Ending.returned (.tuple #[.agg #[.bool true, .float .f64 k, .slice A2 (n + 1) c2, .slice A4 (m + 1) c4], .int .i64 0]) = .returned (.tuple #[.agg #[.bool true, .float .f64 k, .slice A' (n + 1) c', .slice B' (m + 1) d'], .int .i64 0]) ∧ RW (fun q => w.heap.size ≤ q ∧ q < wf.heap.size) wf A' (n + 1) c' B' (m + 1) d' (g.hear S x)) ∧ Chg (fun _ => False) w wf := by
  have mv : ∀ {v : Value} {l : Nat} {xs : List Value}, w8.ownsRow (R + 3) 3 1 v l xs → ∃ A c, v = .slice A l c ∧ Rd (fun q => w.heap.size ≤ q ∧ q < wf.heap.size) wf A l c 1 xs := fun {v l xs} ho => by
    obtain ⟨A, c, e, hr⟩ := Rd.of_own (own_move (w1 := wf) ho (fun q hq => hc.block q (ho.lt q hq).2 (fun e => by have := (ho.lt q hq).1; omega)))
    exact ⟨A, c, e, hr.mono (fun q hq => ⟨by have := (ho.lt q hq).1; omega, Nat.lt_of_lt_of_le (ho.lt q hq).2 hc.size⟩)⟩
  obtain ⟨A', c', e1, r1⟩ := mv o
  obtain ⟨B', d', e2, r2⟩ := mv p
  cases e1; cases e2
  refine ⟨⟨A2, c2, A4, c4, rfl, ⟨?_, ?_⟩⟩, h8.trans hc (fun q hq e => by omega)⟩
  · have : ns (g.hear S x).slots = ns g.slots ++ [.int .i64 (S : Int)] := by simp [ns, G.hear]
    rw [this]; exact r1
  · have : zs (g.hear S x).codes = zs g.codes ++ [.int .i64 x] := by simp [zs, G.hear]
    rw [this]; exact r2
set_option maxRecDepth 100000 in
set_option maxHeartbeats 1600000 in
theorem rhear_walk (h : RW (fun k => k < w.heap.size) w A n c B m d g) (hn : n ≤ 1073741824) (hm : m ≤ 1073741824) (k : Nat) (s x : Int) (hsw : -9223372036854775808 ≤ s ∧ s ≤ 9223372036854775807) (hok : ∀ y ∈ g.slots, y ≤ 2 ^ 62) :
    Calls Try.prog 26 #[.agg #[.bool true, .float .f64 k, .slice A n c, .slice B m d], .agg (resp s x)] w fun e w' =>
      (if takes g s = true then ∃ A' c' B' d', e = .returned (.tuple #[.agg #[.bool true, .float .f64 k, .slice A' (n + 1) c', .slice B' (m + 1) d'], .int .i64 0]) ∧ RW (fun k => w.heap.size ≤ k ∧ k < w'.heap.size) w' A' (n + 1) c' B' (m + 1) d' (g.hear s.toNat x)
       else e = .returned (.tuple #[.agg #[.bool true, .float .f64 k, .slice A n c, .slice B m d], .int .i64 2])) ∧ Chg (fun _ => False) w w' := by
  have HCN := Lib.hid h.n
  unfold resp
  by_cases h1 : s < 0
  · rw [takes_not (.inl h1)]
    simp only [Bool.false_eq_true, if_false]
    clear h hok
    go_enter Try.func26, Try.ntmps26
    go_wp2
    refine bodyPost_ret (v := .tuple #[.agg #[.bool true, .float .f64 k, .slice A n c, .slice B m d], .int .i64 2]) (by simp [results, Try.results26, go_sem]) rfl ?_
    exact ⟨rfl, by repeat (first | with_reducible exact Chg.refl _ _ | with_reducible apply Chg.alloc | with_reducible apply Chg.drew | with_reducible apply Chg.drewN | with_reducible refine Chg.set ?_ (.inl (by simp)))⟩
  by_cases h2 : 4611686018427387904 < s
  · rw [takes_not (.inr (.inl h2))]
    simp only [Bool.false_eq_true, if_false]
    clear h hok
    go_enter Try.func26, Try.ntmps26
    go_wp2
    refine bodyPost_ret (v := .tuple #[.agg #[.bool true, .float .f64 k, .slice A n c, .slice B m d], .int .i64 2]) (by simp [results, Try.results26, go_sem]) rfl ?_
    exact ⟨rfl, by repeat (first | with_reducible exact Chg.refl _ _ | with_reducible apply Chg.alloc | with_reducible apply Chg.drew | with_reducible apply Chg.drewN | with_reducible refine Chg.set ?_ (.inl (by simp)))⟩
  obtain ⟨S, rfl⟩ : ∃ S : Nat, s = S := ⟨s.toNat, by omega⟩
  rw [Int.toNat_natCast]
  -- the last slot, where there is one
  have hlast : (n = 0 ∧ takes g S = true) ∨ (0 < n ∧ ∃ b off, A = some ⟨b, off, none⟩ ∧ b < w.heap.size ∧ w.cell? ⟨b, off + (n - 1), none⟩ = some (.int .i64 (g.last : Int)) ∧ takes g S = decide ((g.last : Int) ≤ S)) := by
    rcases Nat.eq_zero_or_pos n with e | e
    · refine .inl ⟨e, takes_yes (by omega) (by omega) ?_⟩
      have : g.slots = [] := List.eq_nil_of_length_eq_zero (by rw [HCN.out.1]; exact e)
      unfold G.last; rw [this]; simp
    · obtain ⟨b, off, rfl, hb, hc⟩ := h.sl.at_ e
      have hl := HCN.out.1
      obtain ⟨y, hy⟩ : ∃ y, g.slots[n - 1]? = some y := ⟨_, List.getElem?_eq_getElem (by omega)⟩
      have hgl : g.last = y := by unfold G.last; rw [List.getLast?_eq_getElem?, hl, hy]; rfl
      refine .inr ⟨e, b, off, rfl, hb, by rw [hgl]; exact hc (n - 1) _ (ns_get hy), ?_⟩
      by_cases hle : (g.last : Int) ≤ S
      · rw [takes_yes (by omega) (by omega) hle, decide_eq_true hle]
      · rw [takes_not (.inr (.inr (by omega))), decide_eq_false hle]
  have HH := Lib.hid h
  have hll : g.last ≤ 2 ^ 62 := by
    unfold G.last
    cases e : g.slots.getLast? with
    | none => simp
    | some a => exact hok a (List.mem_of_getLast? e)
  clear h hok
  obtain ⟨R, hR⟩ : ∃ R, R = w.heap.size := ⟨_, rfl⟩
  have HR := Lib.hid hR
  rcases hlast with ⟨hn0, ht⟩ | ⟨hn0, b, off, rfl, hb, hcell, ht⟩
  · subst hn0
    rw [ht]
    simp only [if_true]
    clear ht
    go_enter Try.func26, Try.ntmps26
    go_upto_region 6 with (fail)
    rw [← hR]
    generalize hw1 : ((w.alloc _).alloc _).alloc _ = w1
    have HC1 : Hid (Chg (fun _ => False) w w1) := by rw [← hw1]; exact (((Chg.refl _ _).alloc _).alloc _).alloc _
    have HS1 : Hid (w1.heap.size = R + 3) := by rw [← hw1, hR]; show _ = _; simp
    have HB0 : Hid (w1.heap[R]? = some (.cells #[.bool true, .float .f64 k, .slice A 0 c, .slice B m d] 44 (0, 0))) := by rw [← hw1, hR]; exact heap_old _ (heap_old _ (heap_new _ _))
    have HB1 : Hid (w1.heap[R + 1]? = some (.cells #[.int .i64 (S : Int), .int .i64 0, .int .i64 x, .int .i64 0, .int .i64 0, .bool false, .slice none 0 0, .slice none 0 0, .bool false, .int .i64 0] 65 (0, 0))) := by rw [← hw1]; exact heap_old _ (heap_new' _ _ (by rw [hR]; simp))
    have HB2 : Hid (w1.heap[R + 2]? = some (.cells #[.bool false, .float .f64 0, .slice none 0 0, .slice none 0 0] 44 (0, 0))) := by rw [← hw1]; exact heap_new' _ _ (by rw [hR]; simp)
    have y2 : w1.cell? ⟨R, 2, none⟩ = some (.slice A 0 c) := cell_at HB0.out 2 rfl
    have z0 : w1.cell? ⟨R + 1, 0, none⟩ = some (.int .i64 (S : Int)) := cell_at HB1.out 0 rfl
    clear hw1 hR
    go_quiet (fail)
    obtain ⟨w2, hw2⟩ : ∃ w2, w2 = w1.drewN nq := ⟨_, rfl⟩
    have ST2 : Hid (St w w2 R #[.bool true, .float .f64 k, .slice A 0 c, .slice B m d] #[.int .i64 (S : Int), .int .i64 0, .int .i64 x, .int .i64 0, .int .i64 0, .bool false, .slice none 0 0, .slice none 0 0, .bool false, .int .i64 0] #[.bool false, .float .f64 0, .slice none 0 0, .slice none 0 0]) := by rw [hw2]; exact ⟨HC1.out.drewN _, HB0.out, HB1.out, HB2.out, by have := HS1.out; exact Nat.le_of_eq this.symm⟩
    rw [← hw2]
    clear hw2 HC1 HS1 HB0 HB1 HB2 y2 z0
    have y2 : w2.cell? ⟨R, 2, none⟩ = some (.slice A 0 c) := cell_at ST2.out.b0 2 rfl
    have HRS : Hid (∀ W, Chg (fun _ => False) w W → Rd (fun _ => True) W A 0 c 1 (ns g.slots)) := fun W hW => ((HH.out.sl).move (fun q hq => hW.block q hq (fun h => h))).any
    have HRC : Hid (∀ W, Chg (fun _ => False) w W → Rd (fun _ => True) W B m d 1 (zs g.codes)) := fun W hW => ((HH.out.cd).move (fun q hq => hW.block q hq (fun h => h))).any
    have ks := ST2.out.size
    have kl0 : R < w2.heap.size := by omega
    go_upto_region 10 with (first
      | (at_builtin; refine ap_src rfl (.tmp 39) (.tmp 41) 42 rfl (R + 3) 3 1 8 (.int .i64 0) Try.underlying42 infoI rfl (by decide) (by decide) (.slice (some ⟨w2.heap.size, 0, none⟩) 0 0) 0 [] rfl (own_lit0 w2 _ rfl ks) A 0 c (ns g.slots) rfl (HRS.out _ (ST2.out.chg.alloc _)) (ns_one _) (by omega) (by simp only [World.size_alloc]; omega) ?_
         intro v1 w3 o1 g1 r1; simp only [Nat.zero_add, List.nil_append] at o1; obtain ⟨A1, c1, e1, -⟩ := Rd.of_own o1; subst e1; have O1 := Lib.hid o1; have ST3 := Lib.hid ((ST2.out.alloc _).grown g1 (fun q hq => by cases hq; exact ks) HR.out.symm); have z0 : w3.cell? ⟨R + 1, 0, none⟩ = some (.int .i64 (S : Int)) := cell_at ST3.out.b1 0 rfl; have ks3 := ST3.out.size; have kl3 : R < w3.heap.size := (by omega); have kl3' : R + 1 < w3.heap.size := (by omega); have y22 : w3.cell? ⟨R, 2, none⟩ = some (.slice A 0 c) := cell_at ST3.out.b0 2 rfl; clear o1 g1 r1 y2)
      | (at_builtin; refine ap_one rfl (.tmp 43) (.tmp 46) 42 rfl (R + 3) 3 1 8 (.int .i64 0) Try.underlying42 infoI rfl (by decide) (by decide) (.slice A1 0 c1) 0 _ rfl O1.out #[.int .i64 (S : Int)] rfl rfl (by simp [Value.oneCell']) (by omega) (by omega) ?_
         intro v2 w4 o2 g2 r2; obtain ⟨A2, c2, e2, -⟩ := Rd.of_own o2; subst e2; have O2 := Lib.hid o2; have ST4 := Lib.hid (ST3.out.grown g2 (fun q hq => (O1.out.lt q hq).1) HR.out.symm); have ks4 := ST4.out.size; have kl4 : R < w4.heap.size := (by omega); have y24 : w4.cell? ⟨R, 2, none⟩ = some (.slice A 0 c) := cell_at ST4.out.b0 2 rfl; have f24 : ∀ i, w4.frozen? ⟨R, i, none⟩ = false := fun i => free_at ST4.out.b0 i; clear o2 g2 r2 y22 z0))
    obtain ⟨w5, hw5⟩ : ∃ w5, w5 = w4.setCell ⟨R, 2, none⟩ (.slice A2 (0 + 1) c2) := ⟨_, rfl⟩
    have ST5 : Hid (St w w5 R #[.bool true, .float .f64 k, .slice A2 (0 + 1) c2, .slice B m d] #[.int .i64 (S : Int), .int .i64 0, .int .i64 x, .int .i64 0, .int .i64 0, .bool false, .slice none 0 0, .slice none 0 0, .bool false, .int .i64 0] #[.bool false, .float .f64 0, .slice none 0 0, .slice none 0 0]) := by rw [hw5]; exact ST4.out.set0 2 (.slice A2 (0 + 1) c2) HR.out.symm
    have O5 : Hid (w5.ownsRow (R + 3) 3 1 (.slice A2 (0 + 1) c2) (0 + 1) (ns g.slots ++ [.int .i64 (S : Int)])) := by rw [hw5]; exact own_move O2.out (fun q hq => heap_set_ne _ _ (by have := (O2.out.lt q hq).1; omega))
    try simp only [Nat.zero_add] at hw5
    rw [← hw5]
    clear hw5 y24 f24 kl4 ks4 O2 ST4
    have y35 : w5.cell? ⟨R, 3, none⟩ = some (.slice B m d) := cell_at ST5.out.b0 3 rfl
    have ks5 := ST5.out.size
    have kl5 : R < w5.heap.size := by omega
    go_upto_region 12 with (first
      | (at_builtin; refine ap_src rfl (.tmp 49) (.tmp 51) 42 rfl (R + 3) 3 1 8 (.int .i64 0) Try.underlying42 infoI rfl (by decide) (by decide) (.slice (some ⟨w5.heap.size, 0, none⟩) 0 0) 0 [] rfl (own_lit0 w5 _ rfl ks5) B m d (zs g.codes) rfl (HRC.out _ (ST5.out.chg.alloc _)) (zs_one _) (by omega) (by simp only [World.size_alloc]; omega) ?_
         intro v3 w6 o3 g3 r3; simp only [Nat.zero_add, List.nil_append] at o3; obtain ⟨A3, c3, e3, -⟩ := Rd.of_own o3; subst e3; have P6 := Lib.hid o3; have ST6 := Lib.hid ((ST5.out.alloc _).grown g3 (fun q hq => by cases hq; exact ks5) HR.out.symm); have O6 := Lib.hid (own_over O5.out g3); have HW3 := Lib.hid (show ∀ q, (Value.slice A3 m c3).ownBlock = some q → w5.heap.size ≤ q from fun q hq => r3.elim (fun e => by rw [e] at hq; cases hq; exact Nat.le_refl _) (fun e => by rw [e] at hq; cases hq; simp)); have O5L := Lib.hid (show ∀ q, (Value.slice A2 (0 + 1) c2).ownBlock = some q → q < w5.heap.size from fun q hq => (O5.out.lt q hq).2); have z2 : w6.cell? ⟨R + 1, 2, none⟩ = some (.int .i64 x) := cell_at ST6.out.b1 2 rfl; have ks6 := ST6.out.size; have kl6 : R < w6.heap.size := (by omega); have kl6' : R + 1 < w6.heap.size := (by omega); clear o3 g3 r3 y35)
      | (at_builtin; refine ap_one rfl (.tmp 53) (.tmp 56) 42 rfl (R + 3) 3 1 8 (.int .i64 0) Try.underlying42 infoI rfl (by decide) (by decide) (.slice A3 m c3) m _ rfl P6.out #[.int .i64 x] rfl rfl (by simp [Value.oneCell']) (by omega) (by omega) ?_
         intro v4 w7 o4 g4 r4; obtain ⟨A4, c4, e4, -⟩ := Rd.of_own o4; subst e4; have P7 := Lib.hid o4; have ST7 := Lib.hid (ST6.out.grown g4 (fun q hq => (P6.out.lt q hq).1) HR.out.symm); have O7 := Lib.hid (own_move O6.out (fun q hq => g4.block q (O6.out.lt q hq).2 (fun e => by have h1 := HW3.out q e.symm; have h2 := O5L.out q hq; omega))); have ks7 := ST7.out.size; have kl7 : R < w7.heap.size := (by omega); have y37 : w7.cell? ⟨R, 3, none⟩ = some (.slice B m d) := cell_at ST7.out.b0 3 rfl; have f37 : ∀ i, w7.frozen? ⟨R, i, none⟩ = false := fun i => free_at ST7.out.b0 i; clear o4 g4 r4 z2))
    obtain ⟨w8, hw8⟩ : ∃ w8, w8 = w7.setCell ⟨R, 3, none⟩ (.slice A4 (m + 1) c4) := ⟨_, rfl⟩
    have ST8 : Hid (St w w8 R #[.bool true, .float .f64 k, .slice A2 (0 + 1) c2, .slice A4 (m + 1) c4] #[.int .i64 (S : Int), .int .i64 0, .int .i64 x, .int .i64 0, .int .i64 0, .bool false, .slice none 0 0, .slice none 0 0, .bool false, .int .i64 0] #[.bool false, .float .f64 0, .slice none 0 0, .slice none 0 0]) := by rw [hw8]; exact ST7.out.set0 3 (.slice A4 (m + 1) c4) HR.out.symm
    have O8 := Lib.hid (own_move (w1 := w8) O7.out (fun q hq => by rw [hw8]; exact heap_set_ne _ _ (by have := (O7.out.lt q hq).1; omega)))
    have P8 := Lib.hid (own_move (w1 := w8) P7.out (fun q hq => by rw [hw8]; exact heap_set_ne _ _ (by have := (P7.out.lt q hq).1; omega)))
    rw [← hw8]
    clear hw8 y37 f37 kl7 ks7
    obtain ⟨p0, p1, p2, p3⟩ : w8.cell? ⟨R, 0, none⟩ = some (.bool true) ∧ w8.cell? ⟨R, 1, none⟩ = some (.float .f64 k) ∧ w8.cell? ⟨R, 2, none⟩ = some (.slice A2 (0 + 1) c2) ∧ w8.cell? ⟨R, 3, none⟩ = some (.slice A4 (m + 1) c4) := ⟨cell_at ST8.out.b0 0 rfl, cell_at ST8.out.b0 1 rfl, cell_at ST8.out.b0 2 rfl, cell_at ST8.out.b0 3 rfl⟩
    obtain ⟨r0, r1, r2, r3⟩ : w8.cell? ⟨R + 2, 0, none⟩ = some (.bool false) ∧ w8.cell? ⟨R + 2, 1, none⟩ = some (.float .f64 0) ∧ w8.cell? ⟨R + 2, 2, none⟩ = some (.slice none 0 0) ∧ w8.cell? ⟨R + 2, 3, none⟩ = some (.slice none 0 0) := ⟨cell_at ST8.out.b2 0 rfl, cell_at ST8.out.b2 1 rfl, cell_at ST8.out.b2 2 rfl, cell_at ST8.out.b2 3 rfl⟩
    have f2 : ∀ i, w8.frozen? ⟨R + 2, i, none⟩ = false := fun i => free_at ST8.out.b2 i
    go_wp2
    refine bodyPost_ret (v := .tuple #[.agg #[.bool true, .float .f64 k, .slice A2 (0 + 1) c2, .slice A4 (m + 1) c4], .int .i64 0]) (by simp [results, Try.results26, go_sem, p0, p1, p2, p3, r0, r1, r2, r3, f2]) rfl ?_
    have fin := fun wf hc => hear_fin (wf := wf) (k := k) (S := S) (x := x) HH.out O8.out P8.out ST8.out.chg hc (by have := HR.out; omega)
    refine fin _ ?_
    repeat (first | with_reducible exact Chg.refl _ _ | with_reducible apply Chg.alloc | with_reducible apply Chg.drew | with_reducible refine Chg.set (S := fun q => q = R + 2) ?_ (.inr (by rfl)))
  · obtain ⟨n', rfl⟩ : ∃ n', n = n' + 1 := ⟨n - 1, by omega⟩
    rw [Nat.add_sub_cancel] at hcell
    by_cases hle : (g.last : Int) ≤ S
    · rw [decide_eq_true hle] at ht
      rw [ht]
      simp only [if_true]
      clear ht
      go_enter Try.func26, Try.ntmps26
      go_upto_region 6 with (fail)
      rw [← hR]
      generalize hw1 : ((w.alloc _).alloc _).alloc _ = w1
      have HC1 : Hid (Chg (fun _ => False) w w1) := by rw [← hw1]; exact (((Chg.refl _ _).alloc _).alloc _).alloc _
      have HS1 : Hid (w1.heap.size = R + 3) := by rw [← hw1, hR]; show _ = _; simp
      have HB0 : Hid (w1.heap[R]? = some (.cells #[.bool true, .float .f64 k, .slice (some ⟨b, off, none⟩) (n' + 1) c, .slice B m d] 44 (0, 0))) := by rw [← hw1, hR]; exact heap_old _ (heap_old _ (heap_new _ _))
      have HB1 : Hid (w1.heap[R + 1]? = some (.cells #[.int .i64 (S : Int), .int .i64 0, .int .i64 x, .int .i64 0, .int .i64 0, .bool false, .slice none 0 0, .slice none 0 0, .bool false, .int .i64 0] 65 (0, 0))) := by rw [← hw1]; exact heap_old _ (heap_new' _ _ (by rw [hR]; simp))
      have HB2 : Hid (w1.heap[R + 2]? = some (.cells #[.bool false, .float .f64 0, .slice none 0 0, .slice none 0 0] 44 (0, 0))) := by rw [← hw1]; exact heap_new' _ _ (by rw [hR]; simp)
      have y2 : w1.cell? ⟨R, 2, none⟩ = some (.slice (some ⟨b, off, none⟩) (n' + 1) c) := cell_at HB0.out 2 rfl
      have z0 : w1.cell? ⟨R + 1, 0, none⟩ = some (.int .i64 (S : Int)) := cell_at HB1.out 0 rfl
      clear hw1 hR
      have hc2 : w1.cell? ⟨b, off + n', none⟩ = some (.int .i64 (g.last : Int)) := (World.cell?_of_block (a := ⟨b, off + n', none⟩) (HC1.out.block b hb (fun h => h))).trans hcell
      go_quiet (fail)
      obtain ⟨w2, hw2⟩ : ∃ w2, w2 = w1.drewN nq := ⟨_, rfl⟩
      have ST2 : Hid (St w w2 R #[.bool true, .float .f64 k, .slice (some ⟨b, off, none⟩) (n' + 1) c, .slice B m d] #[.int .i64 (S : Int), .int .i64 0, .int .i64 x, .int .i64 0, .int .i64 0, .bool false, .slice none 0 0, .slice none 0 0, .bool false, .int .i64 0] #[.bool false, .float .f64 0, .slice none 0 0, .slice none 0 0]) := by rw [hw2]; exact ⟨HC1.out.drewN _, HB0.out, HB1.out, HB2.out, by have := HS1.out; exact Nat.le_of_eq this.symm⟩
      rw [← hw2]
      clear hw2 HC1 HS1 HB0 HB1 HB2 y2 z0 hc2
      have y2 : w2.cell? ⟨R, 2, none⟩ = some (.slice (some ⟨b, off, none⟩) (n' + 1) c) := cell_at ST2.out.b0 2 rfl
      have HRS : Hid (∀ W, Chg (fun _ => False) w W → Rd (fun _ => True) W (some ⟨b, off, none⟩) (n' + 1) c 1 (ns g.slots)) := fun W hW => ((HH.out.sl).move (fun q hq => hW.block q hq (fun h => h))).any
      have HRC : Hid (∀ W, Chg (fun _ => False) w W → Rd (fun _ => True) W B m d 1 (zs g.codes)) := fun W hW => ((HH.out.cd).move (fun q hq => hW.block q hq (fun h => h))).any
      have ks := ST2.out.size
      have kl0 : R < w2.heap.size := by omega
      go_upto_region 10 with (first
        | (at_builtin; refine ap_src rfl (.tmp 39) (.tmp 41) 42 rfl (R + 3) 3 1 8 (.int .i64 0) Try.underlying42 infoI rfl (by decide) (by decide) (.slice (some ⟨w2.heap.size, 0, none⟩) 0 0) 0 [] rfl (own_lit0 w2 _ rfl ks) (some ⟨b, off, none⟩) (n' + 1) c (ns g.slots) rfl (HRS.out _ (ST2.out.chg.alloc _)) (ns_one _) (by omega) (by simp only [World.size_alloc]; omega) ?_
           intro v1 w3 o1 g1 r1; simp only [Nat.zero_add, List.nil_append] at o1; obtain ⟨A1, c1, e1, -⟩ := Rd.of_own o1; subst e1; have O1 := Lib.hid o1; have ST3 := Lib.hid ((ST2.out.alloc _).grown g1 (fun q hq => by cases hq; exact ks) HR.out.symm); have z0 : w3.cell? ⟨R + 1, 0, none⟩ = some (.int .i64 (S : Int)) := cell_at ST3.out.b1 0 rfl; have ks3 := ST3.out.size; have kl3 : R < w3.heap.size := (by omega); have kl3' : R + 1 < w3.heap.size := (by omega); have y22 : w3.cell? ⟨R, 2, none⟩ = some (.slice (some ⟨b, off, none⟩) (n' + 1) c) := cell_at ST3.out.b0 2 rfl; clear o1 g1 r1 y2)
        | (at_builtin; refine ap_one rfl (.tmp 43) (.tmp 46) 42 rfl (R + 3) 3 1 8 (.int .i64 0) Try.underlying42 infoI rfl (by decide) (by decide) (.slice A1 (n' + 1) c1) (n' + 1) _ rfl O1.out #[.int .i64 (S : Int)] rfl rfl (by simp [Value.oneCell']) (by omega) (by omega) ?_
           intro v2 w4 o2 g2 r2; obtain ⟨A2, c2, e2, -⟩ := Rd.of_own o2; subst e2; have O2 := Lib.hid o2; have ST4 := Lib.hid (ST3.out.grown g2 (fun q hq => (O1.out.lt q hq).1) HR.out.symm); have ks4 := ST4.out.size; have kl4 : R < w4.heap.size := (by omega); have y24 : w4.cell? ⟨R, 2, none⟩ = some (.slice (some ⟨b, off, none⟩) (n' + 1) c) := cell_at ST4.out.b0 2 rfl; have f24 : ∀ i, w4.frozen? ⟨R, i, none⟩ = false := fun i => free_at ST4.out.b0 i; clear o2 g2 r2 y22 z0))
      obtain ⟨w5, hw5⟩ : ∃ w5, w5 = w4.setCell ⟨R, 2, none⟩ (.slice A2 (n' + 1 + 1) c2) := ⟨_, rfl⟩
      have ST5 : Hid (St w w5 R #[.bool true, .float .f64 k, .slice A2 (n' + 1 + 1) c2, .slice B m d] #[.int .i64 (S : Int), .int .i64 0, .int .i64 x, .int .i64 0, .int .i64 0, .bool false, .slice none 0 0, .slice none 0 0, .bool false, .int .i64 0] #[.bool false, .float .f64 0, .slice none 0 0, .slice none 0 0]) := by rw [hw5]; exact ST4.out.set0 2 (.slice A2 (n' + 1 + 1) c2) HR.out.symm
      have O5 : Hid (w5.ownsRow (R + 3) 3 1 (.slice A2 (n' + 1 + 1) c2) (n' + 1 + 1) (ns g.slots ++ [.int .i64 (S : Int)])) := by rw [hw5]; exact own_move O2.out (fun q hq => heap_set_ne _ _ (by have := (O2.out.lt q hq).1; omega))
      
      rw [← hw5]
      clear hw5 y24 f24 kl4 ks4 O2 ST4
      have y35 : w5.cell? ⟨R, 3, none⟩ = some (.slice B m d) := cell_at ST5.out.b0 3 rfl
      have ks5 := ST5.out.size
      have kl5 : R < w5.heap.size := by omega
      go_upto_region 12 with (first
        | (at_builtin; refine ap_src rfl (.tmp 49) (.tmp 51) 42 rfl (R + 3) 3 1 8 (.int .i64 0) Try.underlying42 infoI rfl (by decide) (by decide) (.slice (some ⟨w5.heap.size, 0, none⟩) 0 0) 0 [] rfl (own_lit0 w5 _ rfl ks5) B m d (zs g.codes) rfl (HRC.out _ (ST5.out.chg.alloc _)) (zs_one _) (by omega) (by simp only [World.size_alloc]; omega) ?_
           intro v3 w6 o3 g3 r3; simp only [Nat.zero_add, List.nil_append] at o3; obtain ⟨A3, c3, e3, -⟩ := Rd.of_own o3; subst e3; have P6 := Lib.hid o3; have ST6 := Lib.hid ((ST5.out.alloc _).grown g3 (fun q hq => by cases hq; exact ks5) HR.out.symm); have O6 := Lib.hid (own_over O5.out g3); have HW3 := Lib.hid (show ∀ q, (Value.slice A3 m c3).ownBlock = some q → w5.heap.size ≤ q from fun q hq => r3.elim (fun e => by rw [e] at hq; cases hq; exact Nat.le_refl _) (fun e => by rw [e] at hq; cases hq; simp)); have O5L := Lib.hid (show ∀ q, (Value.slice A2 (n' + 1 + 1) c2).ownBlock = some q → q < w5.heap.size from fun q hq => (O5.out.lt q hq).2); have z2 : w6.cell? ⟨R + 1, 2, none⟩ = some (.int .i64 x) := cell_at ST6.out.b1 2 rfl; have ks6 := ST6.out.size; have kl6 : R < w6.heap.size := (by omega); have kl6' : R + 1 < w6.heap.size := (by omega); clear o3 g3 r3 y35)
        | (at_builtin; refine ap_one rfl (.tmp 53) (.tmp 56) 42 rfl (R + 3) 3 1 8 (.int .i64 0) Try.underlying42 infoI rfl (by decide) (by decide) (.slice A3 m c3) m _ rfl P6.out #[.int .i64 x] rfl rfl (by simp [Value.oneCell']) (by omega) (by omega) ?_
           intro v4 w7 o4 g4 r4; obtain ⟨A4, c4, e4, -⟩ := Rd.of_own o4; subst e4; have P7 := Lib.hid o4; have ST7 := Lib.hid (ST6.out.grown g4 (fun q hq => (P6.out.lt q hq).1) HR.out.symm); have O7 := Lib.hid (own_move O6.out (fun q hq => g4.block q (O6.out.lt q hq).2 (fun e => by have h1 := HW3.out q e.symm; have h2 := O5L.out q hq; omega))); have ks7 := ST7.out.size; have kl7 : R < w7.heap.size := (by omega); have y37 : w7.cell? ⟨R, 3, none⟩ = some (.slice B m d) := cell_at ST7.out.b0 3 rfl; have f37 : ∀ i, w7.frozen? ⟨R, i, none⟩ = false := fun i => free_at ST7.out.b0 i; clear o4 g4 r4 z2))
      obtain ⟨w8, hw8⟩ : ∃ w8, w8 = w7.setCell ⟨R, 3, none⟩ (.slice A4 (m + 1) c4) := ⟨_, rfl⟩
      have ST8 : Hid (St w w8 R #[.bool true, .float .f64 k, .slice A2 (n' + 1 + 1) c2, .slice A4 (m + 1) c4] #[.int .i64 (S : Int), .int .i64 0, .int .i64 x, .int .i64 0, .int .i64 0, .bool false, .slice none 0 0, .slice none 0 0, .bool false, .int .i64 0] #[.bool false, .float .f64 0, .slice none 0 0, .slice none 0 0]) := by rw [hw8]; exact ST7.out.set0 3 (.slice A4 (m + 1) c4) HR.out.symm
      have O8 := Lib.hid (own_move (w1 := w8) O7.out (fun q hq => by rw [hw8]; exact heap_set_ne _ _ (by have := (O7.out.lt q hq).1; omega)))
      have P8 := Lib.hid (own_move (w1 := w8) P7.out (fun q hq => by rw [hw8]; exact heap_set_ne _ _ (by have := (P7.out.lt q hq).1; omega)))
      rw [← hw8]
      clear hw8 y37 f37 kl7 ks7
      obtain ⟨p0, p1, p2, p3⟩ : w8.cell? ⟨R, 0, none⟩ = some (.bool true) ∧ w8.cell? ⟨R, 1, none⟩ = some (.float .f64 k) ∧ w8.cell? ⟨R, 2, none⟩ = some (.slice A2 (n' + 1 + 1) c2) ∧ w8.cell? ⟨R, 3, none⟩ = some (.slice A4 (m + 1) c4) := ⟨cell_at ST8.out.b0 0 rfl, cell_at ST8.out.b0 1 rfl, cell_at ST8.out.b0 2 rfl, cell_at ST8.out.b0 3 rfl⟩
      obtain ⟨r0, r1, r2, r3⟩ : w8.cell? ⟨R + 2, 0, none⟩ = some (.bool false) ∧ w8.cell? ⟨R + 2, 1, none⟩ = some (.float .f64 0) ∧ w8.cell? ⟨R + 2, 2, none⟩ = some (.slice none 0 0) ∧ w8.cell? ⟨R + 2, 3, none⟩ = some (.slice none 0 0) := ⟨cell_at ST8.out.b2 0 rfl, cell_at ST8.out.b2 1 rfl, cell_at ST8.out.b2 2 rfl, cell_at ST8.out.b2 3 rfl⟩
      have f2 : ∀ i, w8.frozen? ⟨R + 2, i, none⟩ = false := fun i => free_at ST8.out.b2 i
      go_wp2
      refine bodyPost_ret (v := .tuple #[.agg #[.bool true, .float .f64 k, .slice A2 (n' + 1 + 1) c2, .slice A4 (m + 1) c4], .int .i64 0]) (by simp [results, Try.results26, go_sem, p0, p1, p2, p3, r0, r1, r2, r3, f2]) rfl ?_
      have fin := fun wf hc => hear_fin (wf := wf) (k := k) (S := S) (x := x) HH.out O8.out P8.out ST8.out.chg hc (by have := HR.out; omega)
      refine fin _ ?_
      repeat (first | with_reducible exact Chg.refl _ _ | with_reducible apply Chg.alloc | with_reducible apply Chg.drew | with_reducible refine Chg.set (S := fun q => q = R + 2) ?_ (.inr (by rfl)))
    · rw [decide_eq_false hle] at ht
      rw [ht]
      simp only [Bool.false_eq_true, if_false]
      clear ht
      go_enter Try.func26, Try.ntmps26
      go_upto_region 6 with (fail)
      rw [← hR]
      generalize hw1 : ((w.alloc _).alloc _).alloc _ = w1
      have HC1 : Hid (Chg (fun _ => False) w w1) := by rw [← hw1]; exact (((Chg.refl _ _).alloc _).alloc _).alloc _
      have HS1 : Hid (w1.heap.size = R + 3) := by rw [← hw1, hR]; show _ = _; simp
      have HB0 : Hid (w1.heap[R]? = some (.cells #[.bool true, .float .f64 k, .slice (some ⟨b, off, none⟩) (n' + 1) c, .slice B m d] 44 (0, 0))) := by rw [← hw1, hR]; exact heap_old _ (heap_old _ (heap_new _ _))
      have HB1 : Hid (w1.heap[R + 1]? = some (.cells #[.int .i64 (S : Int), .int .i64 0, .int .i64 x, .int .i64 0, .int .i64 0, .bool false, .slice none 0 0, .slice none 0 0, .bool false, .int .i64 0] 65 (0, 0))) := by rw [← hw1]; exact heap_old _ (heap_new' _ _ (by rw [hR]; simp))
      have HB2 : Hid (w1.heap[R + 2]? = some (.cells #[.bool false, .float .f64 0, .slice none 0 0, .slice none 0 0] 44 (0, 0))) := by rw [← hw1]; exact heap_new' _ _ (by rw [hR]; simp)
      have y2 : w1.cell? ⟨R, 2, none⟩ = some (.slice (some ⟨b, off, none⟩) (n' + 1) c) := cell_at HB0.out 2 rfl
      have z0 : w1.cell? ⟨R + 1, 0, none⟩ = some (.int .i64 (S : Int)) := cell_at HB1.out 0 rfl
      clear hw1 hR
      have hc2 : w1.cell? ⟨b, off + n', none⟩ = some (.int .i64 (g.last : Int)) := (World.cell?_of_block (a := ⟨b, off + n', none⟩) (HC1.out.block b hb (fun h => h))).trans hcell
      go_quiet (fail)
      have f2 : ∀ i, (w1.drewN nq).frozen? ⟨R + 2, i, none⟩ = false := fun i => free_at HB2.out i
      obtain ⟨p0, p1, p2, p3⟩ : w1.cell? ⟨R, 0, none⟩ = some (.bool true) ∧ w1.cell? ⟨R, 1, none⟩ = some (.float .f64 k) ∧ w1.cell? ⟨R, 2, none⟩ = some (.slice (some ⟨b, off, none⟩) (n' + 1) c) ∧ w1.cell? ⟨R, 3, none⟩ = some (.slice B m d) := ⟨cell_at HB0.out 0 rfl, cell_at HB0.out 1 rfl, cell_at HB0.out 2 rfl, cell_at HB0.out 3 rfl⟩
      obtain ⟨r0, r1, r2, r3⟩ : w1.cell? ⟨R + 2, 0, none⟩ = some (.bool false) ∧ w1.cell? ⟨R + 2, 1, none⟩ = some (.float .f64 0) ∧ w1.cell? ⟨R + 2, 2, none⟩ = some (.slice none 0 0) ∧ w1.cell? ⟨R + 2, 3, none⟩ = some (.slice none 0 0) := ⟨cell_at HB2.out 0 rfl, cell_at HB2.out 1 rfl, cell_at HB2.out 2 rfl, cell_at HB2.out 3 rfl⟩
      go_wp2
      refine bodyPost_ret (v := .tuple #[.agg #[.bool true, .float .f64 k, .slice (some ⟨b, off, none⟩) (n' + 1) c, .slice B m d], .int .i64 2]) (by simp [results, Try.results26, go_sem, p0, p1, p2, p3, r0, r1, r2, r3, f2]) rfl ?_
      exact ⟨rfl, by repeat (first | with_reducible exact HC1.out | with_reducible apply Chg.alloc | with_reducible apply Chg.drew | with_reducible apply Chg.drewN | with_reducible refine Chg.set ?_ (.inl (by have := HR.out; omega)))⟩
end
end Go.Proofs.Ytecppcgleidhkaa.Gx
