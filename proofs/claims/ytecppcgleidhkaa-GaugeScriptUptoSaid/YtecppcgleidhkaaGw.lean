/- A gauge in its blocks; what New, Count, Mean, Spread, Smooth, Turn answer. Conditions: a gauge as GW tells it. -/
import Derived.Test.YtecppcgleidhkaaLib
import Derived.Test.YtecppcgleidhkaaGp
import Derived.Test.YtecppcgleidhkaaFs
import Derived.Maps.OwnOps
import Derived.Maps.Own
import Derived.Maps.OwnSet
import Derived.Carry
import Derived.OwnWalk
import Derived.WalkLawsBesides
import Derived.BigQuiet
import Derived.Deep.RegionWith
import Derived.Deep.Cut
import Derived.Deep.CutBlock
import Derived.RegionTactic
import Derived.Laws.FloatArith
import Derived.ProofKit
import Derived.Lib.Hide
set_option linter.unusedVariables false
set_option linter.unusedSimpArgs false
namespace Go.Proofs.Ytecppcgleidhkaa.Gw
open Go.RowKit Go.Maps Go.Proofs.Ytecppcgleidhkaa.Lib1 Go.Proofs.Ytecppcgleidhkaa.Fl Go.Proofs.Ytecppcgleidhkaa.Gp

abbrev DT := DataW Unit
abbrev KE : TypeId := 26
noncomputable abbrev RI : Value → Option (DT × List MemPlace) := plainElem Try.prog 3
def ek (c : Int) : Lit := .int .i64 c
theorem uE : (Try.prog).underlying 26 = some (.int .i64) := Try.underlying26
theorem uI : (Try.prog).underlying 3 = some (.int .i64) := Try.underlying3
theorem zeroI (W : World) : (zeroValue 3).run Try.prog W = .ok (.int .i64 0) W := by kernel_rfl
theorem key_of {c : Int} (hc : (Lit.int .i64 c).wf = true) : keyOf Try.prog 26 (.int .i64 c) = some (ek c) := keyOf_int_mk uE hc
def fs (xs : List Nat) : List Value := xs.map fun x => Value.float .f64 x
theorem fs_len (xs : List Nat) : (fs xs).length = xs.length := by simp [fs]
theorem fs_get {xs : List Nat} {k x : Nat} (h : xs[k]? = some x) : (fs xs)[k]? = some (.float .f64 x) := by simp [fs, h]

/-- The box's cells. -/
def box (g : G) (mv gs : Value) : Array Value :=
  #[.float .f64 g.keep, .bool (!g.slots.isEmpty), .int .i64 (g.last : Int), mv, gs, .float .f64 (mean g.gaps), .float .f64 (squares g.gaps), .float .f64 (smooth g.keep g.gaps), .int .i64 (turn g.slots).1, .int .i64 (turn g.slots).2]
/-- How often a code was heard, in the map. -/
def Counts (D : DT) (codes : List Int) : Prop := Maps.IsMap D ∧ ∀ c : Int, D.atKey (ek c) (.lit (.int .i64 0)) = .lit (.int .i64 (codes.count c : Nat))
/-- A gauge in the blocks E: its box b, its map, its gaps. -/
structure GW (E : Nat → Prop) (w : World) (b : Nat) (g : G) (mb : Nat) (gs : Value) (D : DT) : Prop where
  box : w.heap[b]? = some (.cells (box g (.map (some mb)) gs) 83 (0, 0))
  map : w.ownsMap Try.prog KE RI mb g.slots.length D
  counts : Counts D g.codes
  row : w.ownsRow 0 23 1 gs g.gaps.length (fs g.gaps)
  inb : E b
  inm : E mb
  inr : ∀ k, gs.ownBlock = some k → E k
  low : ∀ k, E k → k < w.heap.size
def GV (E : Nat → Prop) (w : World) (b : Nat) (g : G) : Prop := ∃ mb gs D, GW E w b g mb gs D

section
variable {E : Nat → Prop} {w w1 : World} {b mb : Nat} {g : G} {gs : Value} {D : DT}
theorem map_move {n : Nat} (h : w.ownsMap Try.prog KE RI mb n D) (hm : w1.heap[mb]? = w.heap[mb]?) : w1.ownsMap Try.prog KE RI mb n D := by
  obtain ⟨es, clock, hb, F, hs, hD⟩ := h
  exact ⟨es, clock, hm.trans hb, F, hs, hD⟩
theorem GW.move (h : GW E w b g mb gs D) (hs : w.heap.size ≤ w1.heap.size) (hm : ∀ k, E k → w1.heap[k]? = w.heap[k]?) : GW E w1 b g mb gs D :=
  ⟨(hm _ h.inb).trans h.box, map_move h.map (hm _ h.inm), h.counts, own_move h.row (fun k hk => hm k (h.inr k hk)), h.inb, h.inm, h.inr, fun k hk => Nat.lt_of_lt_of_le (h.low k hk) hs⟩
theorem GW.chg {S : Nat → Prop} (h : GW E w b g mb gs D) (c : Chg S w w1) (hS : ∀ k, E k → ¬ S k) : GW E w1 b g mb gs D :=
  h.move c.size (fun k hk => c.block k (h.low k hk) (hS k hk))
theorem GW.up (h : GW E w b g mb gs D) (c : Chg (fun _ => False) w w1) : GW E w1 b g mb gs D := h.chg c (fun _ _ h => h)
theorem GV.chg {S : Nat → Prop} (h : GV E w b g) (c : Chg S w w1) (hS : ∀ k, E k → ¬ S k) : GV E w1 b g := by
  obtain ⟨mb, gs, D, h⟩ := h
  exact ⟨mb, gs, D, h.chg c hS⟩
theorem GV.low (h : GV E w b g) : ∀ k, E k → k < w.heap.size := by
  obtain ⟨mb, gs, D, h⟩ := h
  exact h.low
theorem GV.mono {E' : Nat → Prop} (h : GV E w b g) (hE : ∀ k, E k → E' k) (hl : ∀ k, E' k → k < w.heap.size) : GV E' w b g := by
  obtain ⟨mb, gs, D, h⟩ := h
  exact ⟨mb, gs, D, h.box, h.map, h.counts, h.row, hE _ h.inb, hE _ h.inm, fun k hk => hE k (h.inr k hk), hl⟩
theorem GW.form (h : GW E w b g mb gs D) : ∃ A c, gs = .slice A g.gaps.length c := by
  obtain ⟨A, c, e, -⟩ := Rd.of_own h.row
  exact ⟨A, c, e⟩
end

theorem made (x : Nat) (w : World) : GV (fun k => w.heap.size ≤ k ∧ k < ((w.alloc (.map #[] 0)).alloc (.cells (box ⟨x, [], []⟩ (.map (some w.heap.size)) (.slice none 0 0)) 83 (0, 0))).heap.size) ((w.alloc (.map #[] 0)).alloc (.cells (box ⟨x, [], []⟩ (.map (some w.heap.size)) (.slice none 0 0)) 83 (0, 0))) (w.heap.size + 1) ⟨x, [], []⟩ := by
  refine ⟨w.heap.size, .slice none 0 0, .map [], ⟨heap_new' _ _ (by simp), (World.ownsMap_made w _ _ _).alloc _, ⟨isMap_empty, fun c => rfl⟩, World.ownsRow_nil _ _ _ _, ⟨by omega, by simp⟩, ⟨by omega, by simp; omega⟩, (fun k hk => by cases hk), fun k hk => hk.2⟩⟩

/-! ### New -/
theorem order_fin_eq (x y : Nat) : FloatKind.f64.format.order x y = Ieee.double.order x y := rfl
/-- Is keep one that New takes? -/
def keeps (x : Nat) : Bool := (Ieee.double.order x 0 == some .gt) && (Ieee.double.order x 4607182418800017408 == some .lt)
theorem new_walk (x : Nat) (w : World) :
    Calls Try.prog 17 #[.float .f64 x] w fun e w' =>
      if keeps x then ∃ b, e = .returned (.tuple #[.pointer (some ⟨b, 0, none⟩), .int .i64 0]) ∧ GV (fun k => w.heap.size ≤ k ∧ k < w'.heap.size) w' b ⟨x, [], []⟩ ∧ Chg (fun _ => False) w w'
      else e = .returned (.tuple #[.pointer none, .int .i64 2]) ∧ Chg (fun _ => False) w w' := by
  have hmm := @run_makeMap Try.prog
  by_cases h1 : Ieee.double.order x 0 == some .gt
  · by_cases h2 : Ieee.double.order x 4607182418800017408 == some .lt
    · have hk : keeps x = true := by unfold keeps; rw [h1, h2]; rfl
      rw [← order_fin_eq] at h1 h2
      simp only [hk, if_true]
      go_enter Try.func17, Try.ntmps17
      go_wp2
      go_ret2
      exact ⟨_, rfl, made x w, ((Chg.refl _ w).alloc _).alloc _⟩
    · have h2' : (Ieee.double.order x 4607182418800017408 == some .lt) = false := by simpa using h2
      have hk : keeps x = false := by unfold keeps; rw [h2']; simp
      rw [← order_fin_eq] at h1 h2'
      clear h2
      simp only [hk, Bool.false_eq_true, if_false]
      go_enter Try.func17, Try.ntmps17
      go_wp2
      go_ret2
      exact ⟨rfl, Chg.refl _ w⟩
  · have h1' : (Ieee.double.order x 0 == some .gt) = false := by simpa using h1
    have hk : keeps x = false := by unfold keeps; rw [h1']; rfl
    rw [← order_fin_eq] at h1'
    clear h1
    simp only [hk, Bool.false_eq_true, if_false]
    go_enter Try.func17, Try.ntmps17
    go_wp2
    go_ret2
    exact ⟨rfl, Chg.refl _ w⟩

/-! ### what a gauge tells -/
section
variable {E : Nat → Prop} {w : World} {b mb : Nat} {g : G} {gs : Value} {D : DT}
theorem box_cells (h : GW E w b g mb gs D) : w.cell? ⟨b, 0, none⟩ = some (.float .f64 g.keep) ∧ w.cell? ⟨b, 1, none⟩ = some (.bool (!g.slots.isEmpty)) ∧ w.cell? ⟨b, 2, none⟩ = some (.int .i64 (g.last : Int)) ∧ w.cell? ⟨b, 3, none⟩ = some (.map (some mb)) ∧ w.cell? ⟨b, 4, none⟩ = some gs ∧
    w.cell? ⟨b, 5, none⟩ = some (.float .f64 (mean g.gaps)) ∧ w.cell? ⟨b, 6, none⟩ = some (.float .f64 (squares g.gaps)) ∧ w.cell? ⟨b, 7, none⟩ = some (.float .f64 (smooth g.keep g.gaps)) ∧ w.cell? ⟨b, 8, none⟩ = some (.int .i64 (turn g.slots).1) ∧ w.cell? ⟨b, 9, none⟩ = some (.int .i64 (turn g.slots).2) :=
  ⟨cell_at h.box 0 rfl, cell_at h.box 1 rfl, cell_at h.box 2 rfl, cell_at h.box 3 rfl, cell_at h.box 4 rfl, cell_at h.box 5 rfl, cell_at h.box 6 rfl, cell_at h.box 7 rfl, cell_at h.box 8 rfl, cell_at h.box 9 rfl⟩
theorem samples_walk (h : GV E w b g) (hg : g.Good) : Calls Try.prog 29 #[.pointer (some ⟨b, 0, none⟩)] w fun e w' => e = .returned (.int .i64 (g.gaps.length : Int)) ∧ w' = w := by
  obtain ⟨mb, gs, D, h⟩ := h
  obtain ⟨A, c, rfl⟩ := h.form
  obtain ⟨-, -, -, -, q4, -⟩ := box_cells h
  clear h
  go_enter Try.func29, Try.ntmps29
  go_wp2
  go_ret
  exact ⟨rfl, rfl⟩
theorem samples_nil (w : World) : Calls Try.prog 29 #[.pointer none] w fun e w' => e = .returned (.int .i64 0) ∧ w' = w := by
  go_enter Try.func29, Try.ntmps29
  go_wp2
  go_ret
  exact ⟨rfl, rfl⟩
/-- The mean, or 0 and false. -/
theorem mean_walk (h : GV E w b g) (hg : g.Good) : Calls Try.prog 14 #[.pointer (some ⟨b, 0, none⟩)] w fun e w' => e = .returned (.tuple #[.float .f64 (mean g.gaps), .bool (!g.gaps.isEmpty)]) ∧ w' = w := by
  have HS := Lib.hid (samples_walk h hg)
  obtain ⟨mb, gs, D, h⟩ := h
  obtain ⟨-, -, -, -, -, q5, -⟩ := box_cells h
  clear h
  by_cases h0 : g.gaps.length = 0
  · have he := List.eq_nil_of_length_eq_zero h0
    have h1 : mean g.gaps = 0 := by rw [he]; rfl
    have h2 : g.gaps.isEmpty = true := by rw [he]; rfl
    rw [h0] at HS
    rw [h1, h2]
    clear h0 he h1 h2 q5
    go_enter Try.func14, Try.ntmps14
    go_wp2_with (go_at_call 29; refine HS.out.mono ?_; rintro e w' ⟨rfl, rfl⟩)
    go_ret2
    exact ⟨rfl, rfl⟩
  · have h2 : g.gaps.isEmpty = false := by
      cases e : g.gaps with
      | nil => rw [e] at h0; exact absurd rfl h0
      | cons x l => rfl
    rw [h2]
    obtain ⟨m, hm⟩ : ∃ m, m = mean g.gaps := ⟨_, rfl⟩
    obtain ⟨n, hn⟩ : ∃ n, n = g.gaps.length := ⟨_, rfl⟩
    rw [← hn] at h0 HS
    rw [← hm] at q5 ⊢
    clear h2 hm hn
    go_enter Try.func14, Try.ntmps14
    go_wp2_with (go_at_call 29; refine HS.out.mono ?_; rintro e w' ⟨rfl, rfl⟩)
    go_ret2
    exact ⟨rfl, rfl⟩
theorem smooth_walk (h : GV E w b g) (hg : g.Good) : Calls Try.prog 28 #[.pointer (some ⟨b, 0, none⟩)] w fun e w' => e = .returned (.tuple #[.float .f64 (smooth g.keep g.gaps), .bool (!g.gaps.isEmpty)]) ∧ w' = w := by
  have HS := Lib.hid (samples_walk h hg)
  obtain ⟨mb, gs, D, h⟩ := h
  obtain ⟨-, -, -, -, -, -, -, q7, -⟩ := box_cells h
  clear h
  by_cases h0 : g.gaps.length = 0
  · have he := List.eq_nil_of_length_eq_zero h0
    have h1 : smooth g.keep g.gaps = 0 := by rw [he]; rfl
    have h2 : g.gaps.isEmpty = true := by rw [he]; rfl
    rw [h0] at HS
    rw [h1, h2]
    clear h0 he h1 h2 q7
    go_enter Try.func28, Try.ntmps28
    go_wp2_with (go_at_call 29; refine HS.out.mono ?_; rintro e w' ⟨rfl, rfl⟩)
    go_ret2
    exact ⟨rfl, rfl⟩
  · have h2 : g.gaps.isEmpty = false := by
      cases e : g.gaps with
      | nil => rw [e] at h0; exact absurd rfl h0
      | cons x l => rfl
    rw [h2]
    obtain ⟨m, hm⟩ : ∃ m, m = smooth g.keep g.gaps := ⟨_, rfl⟩
    obtain ⟨n, hn⟩ : ∃ n, n = g.gaps.length := ⟨_, rfl⟩
    rw [← hn] at h0 HS
    rw [← hm] at q7 ⊢
    clear h2 hm hn
    go_enter Try.func28, Try.ntmps28
    go_wp2_with (go_at_call 29; refine HS.out.mono ?_; rintro e w' ⟨rfl, rfl⟩)
    go_ret2
    exact ⟨rfl, rfl⟩
/-- The spread, or 0 and false. -/
def spreadOf (g : G) : Nat := if g.gaps.isEmpty then 0 else spread g.gaps
theorem f_of_nat (n : Nat) : floatOfInt .f64 (n : Int) = F n := by
  unfold floatOfInt F
  show Ieee.double.write (.number (decide ((n : Int) < 0)) (n : Int).natAbs 0) = _
  rw [show decide ((n : Int) < 0) = false by simp, Int.natAbs_natCast]
theorem spread_walk (h : GV E w b g) (hg : g.Good) : Calls Try.prog 15 #[.pointer (some ⟨b, 0, none⟩)] w fun e w' => e = .returned (.tuple #[.float .f64 (spreadOf g), .bool (!g.gaps.isEmpty)]) ∧ Chg (fun _ => False) w w' := by
  have HS := Lib.hid (samples_walk h hg)
  have HS2 : Hid (∀ k, Calls Try.prog 29 #[.pointer (some ⟨b, 0, none⟩)] (w.drewN k) fun e w' => e = .returned (.int .i64 (g.gaps.length : Int)) ∧ w' = w.drewN k) := Lib.hid fun k => samples_walk (h.chg ((Chg.refl (fun _ => False) w).drewN k) (fun _ _ h => h)) hg
  have hms := hg.ms
  have hgl := hg.gaps_len
  obtain ⟨mb, gs, D, h⟩ := h
  obtain ⟨-, -, -, -, -, -, q6, -⟩ := box_cells h
  clear h
  unfold spreadOf
  by_cases h0 : g.gaps.length = 0
  · have he := List.eq_nil_of_length_eq_zero h0
    have h2 : g.gaps.isEmpty = true := by rw [he]; rfl
    rw [h0] at HS
    rw [h2]
    clear h0 he h2 q6 HS2
    go_enter Try.func15, Try.ntmps15
    go_wp2_with (go_at_call 29; refine HS.out.mono ?_; rintro e w' ⟨rfl, rfl⟩)
    go_ret2
    exact ⟨rfl, Chg.refl _ _⟩
  · have hne : g.gaps ≠ [] := fun e => h0 (by rw [e]; rfl)
    have h2 : g.gaps.isEmpty = false := by
      cases e : g.gaps with
      | nil => exact absurd e hne
      | cons x l => rfl
    have hsp := (spread_some hms hne hgl).1
    rw [h2]
    simp only [Bool.false_eq_true, if_false]
    obtain ⟨n, hn⟩ : ∃ n, n = g.gaps.length := ⟨_, rfl⟩
    obtain ⟨m, hm⟩ : ∃ m, m = squares g.gaps := ⟨_, rfl⟩
    obtain ⟨s, hs⟩ : ∃ s, s = spread g.gaps := ⟨_, rfl⟩
    rw [← hn] at h0 HS HS2
    rw [← hm] at q6
    rw [← hs, ← hm, ← hn, ← f_of_nat] at hsp
    rw [← hs]
    have hop : ∀ t w, (binOp .quo t (.float .f64 m) (.float .f64 (floatOfInt .f64 (n : Int)))).run Try.prog w = .ok (.float .f64 s) w := fun t w => run_float_arith w .quo t .f64 _ _ _ hsp
    clear h2 hm hn hs hne hms hgl hsp
    go_enter Try.func15, Try.ntmps15
    go_upto_region 3 with (go_at_call 29; refine HS.out.mono ?_; rintro e w' ⟨rfl, rfl⟩)
    go_quiet ((go_at_call 29; exact Calls.quiet_of_same (HS2.out _)))
    go_wp2
    go_ret2
    exact ⟨rfl, (Chg.refl _ _).drewN _⟩
/-- How often a code was heard. -/
theorem count_walk (h : GV E w b g) (hg : g.Good) {c : Int} (hc : (Lit.int .i64 c).wf = true) : Calls Try.prog 24 #[.pointer (some ⟨b, 0, none⟩), .int .i64 c] w fun e w' => e = .returned (.int .i64 (g.codes.count c : Nat)) ∧ w' = w := by
  obtain ⟨mb, gs, D, h⟩ := h
  obtain ⟨-, -, -, q3, -⟩ := box_cells h
  obtain ⟨cc, hrun, hat, -⟩ := h.map.lookup_int (int_keyed uE) Try.underlying80 uI (zeroI _) (key_of hc)
  rw [h.counts.2 c] at hat
  simp only [DataW.lit.injEq, Lit.int.injEq, true_and] at hat
  rw [← hat] at hrun
  clear h hat
  go_enter Try.func24, Try.ntmps24
  go_wp2
  go_ret
  exact ⟨rfl, rfl⟩
theorem turn_walk (h : GV E w b g) (hg : g.Good) : Calls Try.prog 37 #[.pointer (some ⟨b, 0, none⟩)] w fun e w' => e = .returned (.complex .f64 (floatOfInt .f64 (turn g.slots).1) (floatOfInt .f64 (turn g.slots).2)) ∧ Chg (fun _ => False) w w' := by
  obtain ⟨mb, gs, D, h⟩ := h
  obtain ⟨-, -, -, -, -, -, -, -, q8, q9⟩ := box_cells h
  clear h
  go_enter Try.func37, Try.ntmps37
  go_upto_region 3 with (fail)
  go_region
  all_goals go_wp2
  all_goals go_ret
  all_goals exact ⟨rfl, by repeat (first | exact Chg.refl _ _ | apply Chg.drew | apply Chg.drewN)⟩
end
end Go.Proofs.Ytecppcgleidhkaa.Gw
