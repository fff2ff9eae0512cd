/- The reference's queue (texts), method by method. Conditions: its list is a row of one's own, or nil. -/
import Derived.Test.YtmlomceemcbnaaaProg
import Derived.Test.YtmlomceemcbnaaaLib
import Derived.KernelRfl
import Derived.Lib.Hide
set_option linter.unusedVariables false
set_option linter.unusedSimpArgs false
namespace Go.Proofs.Ytmlomceemcbnaaa.Qref
open Go.RowKit Go.Proofs.Ytmlomceemcbnaaa.Lib1

theorem info_str : (Try.prog.info? 9).map (fun i => (i.zero, i.size, i.bytes)) = some (some (.string ⟨#[]⟩), 1, 16) := by kernel_rfl

theorem new_ok (most : Int) (w : World) (h0 : 0 ≤ most) (h1 : most ≤ 65536) :
    Calls Try.prog 12 #[.int .i64 most] w fun e w' => e = .returned (.tuple #[.agg #[.int .i64 most, .slice none 0 0], .int .i64 0]) ∧ Chg (fun _ => False) w w' := by
  go_enter Try.func12, Try.ntmps12
  go_wp2
  refine bodyPost_ret (v := .tuple #[.agg #[.int .i64 most, .slice none 0 0], .int .i64 0]) (by simp [results, Try.results12, go_sem]) rfl ⟨rfl, ?_⟩
  exact (Chg.refl _ w).alloc _
theorem new_high (most : Int) (w : World) (h0 : 0 ≤ most) (h1 : 65536 < most) :
    Calls Try.prog 12 #[.int .i64 most] w fun e w' => e = .returned (.tuple #[.agg #[.int .i64 0, .slice none 0 0], .int .i64 3]) ∧ Chg (fun _ => False) w w' := by
  go_enter Try.func12, Try.ntmps12
  go_wp2
  refine bodyPost_ret (v := .tuple #[.agg #[.int .i64 0, .slice none 0 0], .int .i64 3]) (by simp [results, Try.results12, go_sem]) rfl ⟨rfl, ?_⟩
  exact (Chg.refl _ w).alloc _
theorem new_low (most : Int) (w : World) (h0 : most < 0) :
    Calls Try.prog 12 #[.int .i64 most] w fun e w' => e = .returned (.tuple #[.agg #[.int .i64 0, .slice none 0 0], .int .i64 2]) ∧ Chg (fun _ => False) w w' := by
  go_enter Try.func12, Try.ntmps12
  go_wp2
  refine bodyPost_ret (v := .tuple #[.agg #[.int .i64 0, .slice none 0 0], .int .i64 2]) (by simp [results, Try.results12, go_sem]) rfl ⟨rfl, ?_⟩
  exact (Chg.refl _ w).alloc _

theorem push_boxes {w w1 w2 : World} {o1 o2 o3 : Obj} {v1 : Value} (g1 : (((w.alloc o1).alloc o2).alloc o3).grownBy w1 (Value.slice (some { block := w.heap.size + 1 + 1, off := 0 }) 0 0).ownBlock) (g2 : w1.grownBy w2 v1.ownBlock)
    (r1 : v1.ownBlock = (Value.slice (some { block := w.heap.size + 1 + 1, off := 0 }) 0 0).ownBlock ∨ v1.ownBlock = some (((w.alloc o1).alloc o2).alloc o3).heap.size) :
    w2.heap[w.heap.size]? = some o1 ∧ w2.heap[w.heap.size + 1]? = some o2 ∧ Chg (fun _ => False) w w2 := by
  have n1 : ∀ k, k < w.heap.size + 1 + 1 → some k ≠ v1.ownBlock := by
    intro k hk e
    rw [← e] at r1
    simp only [Value.ownBlock, World.size_alloc, Option.some.injEq] at r1
    omega
  have e1 : (w.alloc o1).heap.size = w.heap.size + 1 := World.size_alloc ..
  refine ⟨grow_keep g2 (grow_keep g1 (heap_old _ (heap_old _ (heap_new w o1))) (by simp [Value.ownBlock]; omega)) (n1 _ (by omega)), grow_keep g2 (grow_keep g1 (heap_old _ (heap_new' (w.alloc o1) o2 e1.symm)) (by simp [Value.ownBlock])) (n1 _ (by omega)), ?_⟩
  refine ((((Chg.refl _ w).alloc o1).alloc o2).alloc o3 |>.of_grown g1 (fun k hk => ?_)).of_grown g2 (fun k hk => ?_)
  · simp only [Value.ownBlock, Option.some.injEq] at hk; omega
  · rw [hk] at r1
    simp only [Value.ownBlock, World.size_alloc, Option.some.injEq] at r1
    omega

theorem push_room (sz : Int) (v : Value) (n : Nat) (ss : List Value) (x : ByteArray) (w : World) (base : Nat) (HO : w.ownsRow base 9 1 v n ss) (hne : ((n : Int) == sz) = false) (h1 : ∀ u ∈ ss, u.oneCell' = true) (hn : n ≤ 65536) :
    Calls Try.prog 15 #[.agg #[.int .i64 sz, v], .string x] w fun e w' => ∃ v', e = .returned (.tuple #[.agg #[.int .i64 sz, v'], .int .i64 0]) ∧ w'.ownsRow w.heap.size 9 1 v' (n + 1) (ss ++ [.string x]) ∧ Chg (fun _ => False) w w' := by
  obtain ⟨A, c, rfl, hr⟩ := Rd.of_own HO
  go_enter Try.func15, Try.ntmps15
  have hw := (HO.lt)
  have hb0 : ∀ k, (Value.slice A n c).ownBlock = some k → k < w.heap.size := fun k hk => (HO.lt k hk).2
  clear HO hw
  go_wp2_with (first
    | (at_builtin; (refine ap_src rfl (.tmp 13) (.tmp 15) 23 rfl (w.heap.size + 1 + 1) 9 1 16 (.string ⟨#[]⟩) Try.underlying23 info_str rfl (by decide) (by decide) (.slice (some ⟨w.heap.size + 1 + 1, 0, none⟩) 0 0) 0 [] rfl ?aO A n c ss rfl ?aR h1 ?aL ?aB ?_; (case aO => exact own_lit0 _ _ (by simp only [World.size_alloc]) (by omega)); (case aR => exact (hr.move (fun k hk => ((((Chg.refl (fun _ => False) w).alloc _).alloc _).alloc _).block k (hb0 k hk) (fun h => h))).any); (case aL => omega); (case aB => simp only [World.size_alloc]; omega)); intro v1 w1 o1 g1 r1; simp only [Nat.zero_add, List.nil_append] at o1)
    | (at_builtin; refine ap_one rfl (.tmp 16) (.tmp 18) 23 rfl (w.heap.size + 1 + 1) 9 1 16 (.string ⟨#[]⟩) Try.underlying23 info_str rfl (by decide) (by decide) v1 n ss rfl o1 #[.string x] rfl rfl (by simp [Value.oneCell']) (by omega) (by have := g1.size; simp only [World.size_alloc] at this; omega) ?_; intro v2 w2 o2 g2 r2; obtain ⟨A2, c2, rfl, -⟩ := Rd.of_own o2; obtain ⟨hb1, hb2, hC⟩ := push_boxes g1 g2 r1; have k0 := cell_at hb1 0 rfl; have k1 := cell_at hb1 1 rfl; have k2 := free_at hb1 1; have k3 := cell_at hb2 0 rfl; have k4 := cell_at hb2 1 rfl; have k5 := free_at hb2 0; have k6 := free_at hb2 1))
  refine bodyPost_ret (v := .tuple #[.agg #[.int .i64 sz, .slice A2 (n + 1) c2], .int .i64 0]) (by simp [results, Try.results15, go_sem, k0, k1, k2, k3, k4, k5, k6]) rfl ⟨_, rfl, ?_, ?_⟩
  · refine own_base_le (base := w.heap.size + 1 + 1) (own_chg (S := fun k => k < w.heap.size + 1 + 1) ((((Chg.refl _ w2).set (.inr (by omega))).set (.inr (by omega))).set (.inr (by omega))) o2 (fun k hk => by have := (o2.lt k hk).1; omega)) (fun k hk => ?_)
    have := (o2.lt k hk).1
    omega
  · exact ((hC.set (.inl (by omega))).set (.inl (by omega))).set (.inl (by omega))

theorem push_full (sz : Int) (v : Value) (n : Nat) (ss : List Value) (x : ByteArray) (w : World) (base : Nat) (HO : w.ownsRow base 9 1 v n ss) (hne : ((n : Int) == sz) = true) :
    Calls Try.prog 15 #[.agg #[.int .i64 sz, v], .string x] w fun e w' => e = .returned (.tuple #[.agg #[.int .i64 sz, v], .int .i64 50]) ∧ Chg (fun _ => False) w w' := by
  obtain ⟨A, c, rfl, hr⟩ := Rd.of_own HO
  clear HO
  go_enter Try.func15, Try.ntmps15
  go_wp2
  refine bodyPost_ret (v := .tuple #[.agg #[.int .i64 sz, .slice A n c], .int .i64 50]) (by simp [results, Try.results15, go_sem]) rfl ⟨rfl, ?_⟩
  exact ((Chg.refl _ w).alloc _).alloc _

theorem first_none (sz : Int) (v : Value) (w : World) (base : Nat) (HO : w.ownsRow base 9 1 v 0 []) :
    Calls Try.prog 49 #[.agg #[.int .i64 sz, v]] w fun e w' => e = .returned (.tuple #[.string ⟨#[]⟩, .bool false]) ∧ Chg (fun _ => False) w w' := by
  obtain ⟨A, c, rfl, hr⟩ := Rd.of_own HO
  clear HO
  go_enter Try.func49, Try.ntmps49
  go_wp2
  go_ret2
  exact ⟨rfl, (Chg.refl _ w).alloc _⟩
theorem first_some (sz : Int) (v : Value) (n : Nat) (s : ByteArray) (ss : List Value) (w : World) (base : Nat) (HO : w.ownsRow base 9 1 v n (.string s :: ss)) :
    Calls Try.prog 49 #[.agg #[.int .i64 sz, v]] w fun e w' => e = .returned (.tuple #[.string s, .bool true]) ∧ Chg (fun _ => False) w w' := by
  obtain ⟨A, c, rfl, hr⟩ := Rd.of_own HO
  have hn : 0 < n := by have := hr.len; simp at this; omega
  obtain ⟨g, off, rfl, hk, hc⟩ := hr.at_ hn
  have hg := (HO.lt g hk).2
  have c0 : w.cell? ⟨g, off, none⟩ = some (.string s) := hc 0 _ rfl
  have e0 : ((n : Int) == 0) = false := by rw [beq_eq_false_iff_ne]; omega
  have i0 : (0 : Int) < (n : Int) := by omega
  clear HO hr hc hk
  go_enter Try.func49, Try.ntmps49
  go_wp2
  go_ret2
  exact ⟨rfl, (Chg.refl _ w).alloc _⟩

theorem clear_any (sz : Int) (v : Value) (n : Nat) (ss : List Value) (w : World) (base : Nat) (HO : w.ownsRow base 9 1 v n ss) :
    Calls Try.prog 52 #[.agg #[.int .i64 sz, v]] w fun e w' => e = .returned (.agg #[.int .i64 sz, .slice none 0 0]) ∧ Chg (fun _ => False) w w' := by
  obtain ⟨A, c, rfl, hr⟩ := Rd.of_own HO
  clear HO
  go_enter Try.func52, Try.ntmps52
  go_wp2
  refine bodyPost_ret (v := .agg #[.int .i64 sz, .slice none 0 0]) (by simp [results, Try.results52, go_sem]) rfl ⟨rfl, ?_⟩
  exact ((Chg.refl _ w).alloc _).alloc _

theorem pop_none (sz : Int) (v : Value) (w : World) (base : Nat) (HO : w.ownsRow base 9 1 v 0 []) :
    Calls Try.prog 47 #[.agg #[.int .i64 sz, v]] w fun e w' => e = .returned (.tuple #[.string ⟨#[]⟩, .bool false, .agg #[.int .i64 sz, v]]) ∧ Chg (fun _ => False) w w' := by
  obtain ⟨A, c, rfl, -⟩ := Rd.of_own HO
  have HF : Hid (∀ (W : World), Chg (fun _ => False) w W → Calls Try.prog 49 #[.agg #[.int .i64 sz, .slice A 0 c]] W fun e w' => e = .returned (.tuple #[.string ⟨#[]⟩, .bool false]) ∧ Chg (fun _ => False) W w') :=
    fun W hW => first_none sz _ W base (own_chg hW HO (fun _ _ h => h))
  clear HO
  go_enter Try.func47, Try.ntmps47
  go_wp2_with fail
  refine (HF.out _ (((Chg.refl _ w).alloc _).alloc _)).mono ?_
  rintro e w1 ⟨rfl, h1⟩
  have hA : Chg (fun _ => False) w w1 := (((Chg.refl _ w).alloc _).alloc _).trans h1 (fun _ _ h => h.elim)
  have hb1 := h1.at_ (heap_old (w := w.alloc (.cells #[.int .i64 sz, .slice A 0 c] 25)) (.cells #[.int .i64 0, .slice none 0 0] 25) (heap_new w _)) (fun h => h)
  have hb2 := h1.at_ (heap_new' (w.alloc (.cells #[.int .i64 sz, .slice A 0 c] 25)) (.cells #[.int .i64 0, .slice none 0 0] 25) (k := w.heap.size + 1) (World.size_alloc ..).symm) (fun h => h)
  have k0 := cell_at hb1 0 rfl; have k1 := cell_at hb1 1 rfl; have k3 := cell_at hb2 0 rfl; have k4 := cell_at hb2 1 rfl; have k5 := free_at hb2 0; have k6 := free_at hb2 1
  clear h1 hb1 hb2
  go_wp2
  go_region
  go_wp2
  refine bodyPost_ret (v := .tuple #[.string ⟨#[]⟩, .bool false, .agg #[.int .i64 sz, .slice A 0 c]]) (by simp [results, Try.results47, go_sem, k0, k1, k3, k4, k5, k6]) rfl ⟨rfl, ?_⟩
  exact ((hA.set (.inl (by omega))).set (.inl (by omega))).drew


theorem pop_some (sz : Int) (v : Value) (n : Nat) (s : ByteArray) (ss : List Value) (w : World) (base : Nat) (HO : w.ownsRow base 9 1 v n (.string s :: ss)) (h1 : ∀ u ∈ ss, u.oneCell' = true) (hn : n ≤ 65536) :
    Calls Try.prog 47 #[.agg #[.int .i64 sz, v]] w fun e w' => ∃ v', e = .returned (.tuple #[.string s, .bool true, .agg #[.int .i64 sz, v']]) ∧ w'.ownsRow w.heap.size 9 1 v' (n - 1) ss ∧ Chg (fun _ => False) w w' := by
  obtain ⟨A, c, rfl, hr⟩ := Rd.of_own HO
  have hn0 : 1 ≤ n := by have := hr.len; simp at this; omega
  obtain ⟨i0, hi, hz0, hz1, hz2⟩ := info_parts info_str
  obtain ⟨A', hcut, hA'⟩ := cut_from (P := Try.prog) 23 9 .i64 1 Try.underlying23 hi hz1 A n c 1 hn0
  have hR := hA' _ w _ hr
  simp only [Nat.mul_one, List.drop_succ_cons, List.drop_zero] at hR
  have hb0 : ∀ k, (Value.slice A n c).ownBlock = some k → k < w.heap.size := fun k hk => (HO.lt k hk).2
  have HF : Hid (∀ (W : World), Chg (fun _ => False) w W → Calls Try.prog 49 #[.agg #[.int .i64 sz, .slice A n c]] W fun e w' => e = .returned (.tuple #[.string s, .bool true]) ∧ Chg (fun _ => False) W w') :=
    fun W hW => first_some sz _ n s ss W base (own_chg hW HO (fun _ _ h => h))
  have hcut' : ∀ W : World, (Instr.slice 23 (.slice A n c) (some (.int .i64 1)) none none).run Try.prog W = .ok (.slice A' (n - 1) (c - 1)) W := hcut
  clear HO hr hA' hcut hi hz0 hz1 hz2
  go_enter Try.func47, Try.ntmps47
  go_wp2_with fail
  refine (HF.out _ (((Chg.refl _ w).alloc _).alloc _)).mono ?_
  rintro e w1 ⟨rfl, h1'⟩
  have hA : Chg (fun _ => False) w w1 := (((Chg.refl _ w).alloc _).alloc _).trans h1' (fun _ _ h => h.elim)
  have hb1 := h1'.at_ (heap_old (w := w.alloc (.cells #[.int .i64 sz, .slice A n c] 25)) (.cells #[.int .i64 0, .slice none 0 0] 25) (heap_new w _)) (fun h => h)
  have hb2 := h1'.at_ (heap_new' (w.alloc (.cells #[.int .i64 sz, .slice A n c] 25)) (.cells #[.int .i64 0, .slice none 0 0] 25) (k := w.heap.size + 1) (World.size_alloc ..).symm) (fun h => h)
  have z1 := lt_of _ hb1
  have z2 := lt_of _ hb2
  have k0 : ∀ o, (w1.alloc o).cell? ⟨w.heap.size, 1, none⟩ = some (.slice A n c) := fun o => cell_at (heap_old o hb1) 1 rfl
  clear h1'
  go_wp2_with (at_builtin; refine ap_src rfl (.tmp 13) (.tmp 16) 23 rfl (w.heap.size + 1 + 1) 9 1 16 (.string ⟨#[]⟩) Try.underlying23 info_str rfl (by decide) (by decide) (.slice (some ⟨w1.heap.size, 0, none⟩) 0 0) 0 [] rfl ?aO A' (n - 1) (c - 1) ss rfl ?aR h1 ?aL ?aB ?_; (case aO => exact own_lit0 _ _ rfl (by omega)); (case aR => exact (hR.move (fun k hk => (hA.alloc _).block k (hb0 k hk) (fun h => h))).any); (case aL => omega); (case aB => simp only [World.size_alloc]; omega); intro v2 w2 o2 g2 r2; simp only [Nat.zero_add, List.nil_append] at o2; obtain ⟨A2, c2, rfl, -⟩ := Rd.of_own o2; have hb3 := grow_keep g2 (heap_old _ hb1) (by simp [Value.ownBlock]; omega); have hb4 := grow_keep g2 (heap_old _ hb2) (by simp [Value.ownBlock]; omega); have m0 := cell_at hb3 0 rfl; have m1 := cell_at hb3 1 rfl; have m2 := free_at hb3 1; have m3 := cell_at hb4 0 rfl; have m4 := cell_at hb4 1 rfl; have m5 := free_at hb4 0; have m6 := free_at hb4 1)
  go_region
  go_wp2
  have hC : Chg (fun _ => False) w w2 := (hA.alloc _).of_grown g2 (fun k hk => by simp only [Value.ownBlock, Option.some.injEq] at hk; omega)
  refine bodyPost_ret (v := .tuple #[.string s, .bool true, .agg #[.int .i64 sz, .slice A2 (n - 1) c2]]) (by simp [results, Try.results47, go_sem, m0, m1, m2, m3, m4, m5, m6]) rfl ⟨_, rfl, ?_, ?_⟩
  · refine own_base_le (base := w.heap.size + 1 + 1) (own_chg (S := fun k => k < w.heap.size + 1 + 1) ((((Chg.refl _ w2).set (.inr (by omega))).set (.inr (by omega))).set (.inr (by omega))) o2 (fun k hk => by have := (o2.lt k hk).1; omega)) (fun k hk => ?_)
    have := (o2.lt k hk).1
    omega
  · exact (((hC.set (.inl (by omega))).set (.inl (by omega))).set (.inl (by omega))).drew

end Go.Proofs.Ytmlomceemcbnaaa.Qref
