/- What sample does to a gauge. Conditions: a gauge's box and row as told. -/
import Derived.Test.YtecppcgleidhkaaGw
import Derived.BigRegion
set_option linter.unusedVariables false
set_option linter.unusedSimpArgs false
namespace Go.Proofs.Ytecppcgleidhkaa.Gw
open Go.RowKit Go.Maps Go.Proofs.Ytecppcgleidhkaa.Lib1 Go.Proofs.Ytecppcgleidhkaa.Fl Go.Proofs.Ytecppcgleidhkaa.Gp

theorem infoF : ((Try.prog).info? 23).map (fun i => (i.zero, i.size, i.bytes)) = some (some (.float .f64 0), 1, 8) := by kernel_rfl
/-- The box's cells, each by name. -/
def box10 (k : Nat) (h : Bool) (l : Int) (mv gs : Value) (m s v : Nat) (re im : Int) : Array Value :=
  #[.float .f64 k, .bool h, .int .i64 l, mv, gs, .float .f64 m, .float .f64 s, .float .f64 v, .int .i64 re, .int .i64 im]
theorem sample_end {w w1 wf : World} {b k : Nat} {hd : Bool} {l : Int} {mv gs v1 : Value} {m s sm m' s' v' : Nat} {re im : Int} {N : Nat} {cells : List Value}
    (hb : w.heap[b]? = some (.cells (box10 k hd l mv gs m s sm re im) 83 (0, 0))) (hgb : gs.ownBlock ≠ some b)
    (ow1 : w1.ownsRow 0 23 1 v1 N cells) (g1 : w.grownBy w1 gs.ownBlock) (r1 : v1.ownBlock = gs.ownBlock ∨ ∃ c, v1.ownBlock = some c ∧ w.heap.size ≤ c)
    (hw : wf.heap = ((((w1.setCell ⟨b, 4, none⟩ v1).setCell ⟨b, 5, none⟩ (.float .f64 m')).setCell ⟨b, 6, none⟩ (.float .f64 s')).setCell ⟨b, 7, none⟩ (.float .f64 v')).heap) (ho : wf.os = w1.os) (ht : wf.tape = w1.tape) (hp : wf.output = w1.output) :
    wf.heap[b]? = some (.cells (box10 k hd l mv v1 m' s' v' re im) 83 (0, 0)) ∧ wf.ownsRow 0 23 1 v1 N cells ∧ (v1.ownBlock = gs.ownBlock ∨ ∃ c, v1.ownBlock = some c ∧ w.heap.size ≤ c) ∧ Chg (fun j => j = b ∨ gs.ownBlock = some j) w wf := by
  have hb1 := grow_keep g1 hb (fun he => hgb he.symm)
  have hlt := lt_of w hb
  have hne : v1.ownBlock ≠ some b := by
    rcases r1 with r | ⟨c, r, hc⟩
    · rw [r]; exact hgb
    · rw [r]; intro e; cases e; omega
  have c1 : Chg (fun j => j = b) w1 ((((w1.setCell ⟨b, 4, none⟩ v1).setCell ⟨b, 5, none⟩ (.float .f64 m')).setCell ⟨b, 6, none⟩ (.float .f64 s')).setCell ⟨b, 7, none⟩ (.float .f64 v')) :=
    ((((Chg.refl (fun j => j = b) w1).set (b := b) (i := 4) (u := v1) (.inr rfl)).set (b := b) (i := 5) (u := .float .f64 m') (.inr rfl)).set (b := b) (i := 6) (u := .float .f64 s') (.inr rfl)).set (b := b) (i := 7) (u := .float .f64 v') (.inr rfl)
  have c2 : Chg (fun j => j = b) w1 wf := ⟨ho.trans rfl, ht.trans rfl, hp.trans rfl, by rw [hw]; exact c1.size, fun j hj hn => by rw [hw]; exact c1.block j hj hn⟩
  have hh := heap_set (heap_set (heap_set (heap_set hb1 4 v1) 5 (.float .f64 m')) 6 (.float .f64 s')) 7 (.float .f64 v')
  refine ⟨by rw [hw]; exact hh, own_chg c2 ow1 (fun j hj e => hne (by rw [hj, e])), r1, ?_⟩
  exact (Chg.refl (fun j => j = b ∨ gs.ownBlock = some j) w).of_grown g1 (fun j hj => .inr (.inr hj)) |>.trans c2 (fun j _ e => .inl e)
theorem sample_walk {w : World} {b : Nat} {k : Nat} {hd : Bool} {l : Int} {mv gs : Value} {re im : Int} {xs : List Nat} {x : Nat}
    (hb : w.heap[b]? = some (.cells (box10 k hd l mv gs (mean xs) (squares xs) (smooth k xs) re im) 83 (0, 0)))
    (hrow : w.ownsRow 0 23 1 gs xs.length (fs xs)) (hk : k < ONE) (hxs : ∀ y ∈ xs, y ≤ B62) (hx : x ≤ B62) (hn : xs.length + 1 < 2 ^ 44) (hgb : gs.ownBlock ≠ some b) :
    Calls Try.prog 38 #[.pointer (some ⟨b, 0, none⟩), .float .f64 x] w fun e w' => e = .returned (.tuple #[]) ∧ ∃ gs',
      w'.heap[b]? = some (.cells (box10 k hd l mv gs' (mean (xs ++ [x])) (squares (xs ++ [x])) (smooth k (xs ++ [x])) re im) 83 (0, 0)) ∧ w'.ownsRow 0 23 1 gs' (xs ++ [x]).length (fs (xs ++ [x])) ∧
      (gs'.ownBlock = gs.ownBlock ∨ ∃ c, gs'.ownBlock = some c ∧ w.heap.size ≤ c) ∧ Chg (fun j => j = b ∨ gs.ownBlock = some j) w w' := by
  have hms := ms_all hxs (by omega)
  obtain ⟨⟨d, e, m', r, p, s', e1, e2, e3, e4, e5, e6, em, es⟩, -⟩ := ms_step hms hx (by omega)
  obtain ⟨A, c, egs, -⟩ := Rd.of_own hrow
  obtain ⟨n, hnn⟩ : ∃ n, n = xs.length := ⟨_, rfl⟩
  obtain ⟨N, hN⟩ : ∃ N, N = xs.length + 1 := ⟨_, rfl⟩
  rw [← hnn] at egs hrow
  have HN1 : N = 1 → smooth k (xs ++ [x]) = x := fun h1 => by
    have : xs = [] := List.eq_nil_of_length_eq_zero (by omega)
    rw [this]; rfl
  have HN2 : N ≠ 1 → ∃ p l q v', Ieee.double.mul k (smooth k xs) = some p ∧ Ieee.double.sub ONE k = some l ∧ Ieee.double.mul l x = some q ∧ Ieee.double.add p q = some v' ∧ smooth k (xs ++ [x]) = v' := fun h1 => smooth_run hk hxs (fun h0 => by rw [h0] at hN; simp at hN; omega) hx
  rw [← hN] at e2
  rw [show F N = floatOfInt .f64 (N : Int) from (f_of_nat N).symm] at e2
  have o1 : ∀ t w, (binOp .sub t (.float .f64 x) (.float .f64 (mean xs))).run Try.prog w = .ok (.float .f64 d) w := fun t w => run_float_arith w .sub t .f64 _ _ _ e1
  have o2 : ∀ t w, (binOp .quo t (.float .f64 d) (.float .f64 (floatOfInt .f64 (N : Int)))).run Try.prog w = .ok (.float .f64 e) w := fun t w => run_float_arith w .quo t .f64 _ _ _ e2
  have o3 : ∀ t w, (binOp .add t (.float .f64 (mean xs)) (.float .f64 e)).run Try.prog w = .ok (.float .f64 m') w := fun t w => run_float_arith w .add t .f64 _ _ _ e3
  have o4 : ∀ t w, (binOp .sub t (.float .f64 x) (.float .f64 m')).run Try.prog w = .ok (.float .f64 r) w := fun t w => run_float_arith w .sub t .f64 _ _ _ e4
  have o5 : ∀ t w, (binOp .mul t (.float .f64 d) (.float .f64 r)).run Try.prog w = .ok (.float .f64 p) w := fun t w => run_float_arith w .mul t .f64 _ _ _ e5
  have o6 : ∀ t w, (binOp .add t (.float .f64 (squares xs)) (.float .f64 p)).run Try.prog w = .ok (.float .f64 s') w := fun t w => run_float_arith w .add t .f64 _ _ _ e6
  rw [em, es]
  rw [show (xs ++ [x]).length = N by simp [hN], show fs (xs ++ [x]) = fs xs ++ [.float .f64 x] by simp [fs]]
  generalize hv2 : smooth k (xs ++ [x]) = sm2 at *
  generalize mean xs = m at *
  generalize squares xs = s at *
  generalize smooth k xs = sm at *
  have HB := Lib.hid hb
  have HR := Lib.hid hrow
  have HNE : Hid (gs.ownBlock ≠ some b) := hgb
  have HNN : Hid (N = n + 1 ∧ n + 1 < 2 ^ 44 ∧ n = xs.length) := ⟨by omega, by omega, hnn⟩
  subst egs
  have q4 := cell_at hb 4 rfl
  clear hb hrow hms e1 e2 e3 e4 e5 e6 em es hv2 hxs hN hnn hn hx
  obtain ⟨fxs, hfx⟩ : ∃ f, f = fs xs := ⟨_, rfl⟩
  rw [← hfx] at HR ⊢
  clear hfx
  unfold box10 at q4
  go_enter Try.func38, Try.ntmps38
  go_upto_region 4 with (at_builtin; go_loud (refine ap_one rfl (.tmp 10) (.tmp 12) 75 rfl 0 23 1 8 (.float .f64 0) Try.underlying75 infoF rfl (by decide) (by decide) (.slice A n c) n _ rfl HR.out #[.float .f64 x] rfl rfl (by simp [Value.oneCell']) ?bL (Nat.zero_le _) ?_; (case bL => have := HNN.out; omega); intro v1 w1 ow1 g1 r1; obtain ⟨A1, c1, ev1, -⟩ := Rd.of_own ow1; subst ev1; rw [show n + 1 = N by have := HNN.out; omega] at ow1; rw [show n + 1 = N by have := HNN.out; omega] at r1 ⊢; have hb1 := grow_keep g1 HB.out (fun he => HNE.out he.symm); have qq0 : w1.cell? ⟨b, 0, none⟩ = some (.float .f64 k) := cell_at hb1 0 rfl; have qq4 : w1.cell? ⟨b, 4, none⟩ = some (.slice A n c) := cell_at hb1 4 rfl; have qq5 : w1.cell? ⟨b, 5, none⟩ = some (.float .f64 m) := cell_at hb1 5 rfl; have qq6 : w1.cell? ⟨b, 6, none⟩ = some (.float .f64 s) := cell_at hb1 6 rfl; have qq7 : w1.cell? ⟨b, 7, none⟩ = some (.float .f64 sm) := cell_at hb1 7 rfl; have ff := free_at hb1; have OW := Lib.hid ow1; have G1 := Lib.hid g1; have R1 := Lib.hid r1; have HB1 := Lib.hid hb1; clear ow1 g1 r1 hb1))
  go_region
  by_cases h1 : N = 1
  · have HV := Lib.hid (HN1 h1)
    clear HN1 HN2
    go_wp2
    refine bodyPost_ret (results_none rfl _ _ _) rfl ?_
    subst h1
    have fin := fun wf hw ho ht hp => sample_end (wf := wf) (m' := m') (s' := s') (v' := x) HB.out HNE.out OW.out G1.out R1.out hw ho ht hp
    refine ⟨rfl, .slice A1 1 c1, ?_⟩
    rw [HV.out]
    refine fin _ ?_ ?_ ?_ ?_ <;> rfl
  · have h1' : ¬ (N : Int) = 1 := by omega
    obtain ⟨p2, l2, q2, v2, e1, e2, e3, e4, e5⟩ := HN2 h1
    have o7 : ∀ t w, (binOp .mul t (.float .f64 k) (.float .f64 sm)).run Try.prog w = .ok (.float .f64 p2) w := fun t w => run_float_arith w .mul t .f64 _ _ _ e1
    have o8 : ∀ t w, (binOp .sub t (.float .f64 4607182418800017408) (.float .f64 k)).run Try.prog w = .ok (.float .f64 l2) w := fun t w => run_float_arith w .sub t .f64 _ _ _ e2
    have o9 : ∀ t w, (binOp .mul t (.float .f64 l2) (.float .f64 x)).run Try.prog w = .ok (.float .f64 q2) w := fun t w => run_float_arith w .mul t .f64 _ _ _ e3
    have oa : ∀ t w, (binOp .add t (.float .f64 p2) (.float .f64 q2)).run Try.prog w = .ok (.float .f64 v2) w := fun t w => run_float_arith w .add t .f64 _ _ _ e4
    have HV := Lib.hid e5
    clear HN1 HN2 e1 e2 e3 e4 e5 o1 o2 o3 o4 o5 o6
    go_upto_region 7 with (fail)
    go_region
    go_wp2
    go_end0
    have fin := fun wf hw ho ht hp => sample_end (wf := wf) (m' := m') (s' := s') (v' := v2) HB.out HNE.out OW.out G1.out R1.out hw ho ht hp
    refine ⟨rfl, .slice A1 N c1, ?_⟩
    rw [HV.out]
    refine fin _ ?_ ?_ ?_ ?_ <;> rfl
end Go.Proofs.Ytecppcgleidhkaa.Gw
