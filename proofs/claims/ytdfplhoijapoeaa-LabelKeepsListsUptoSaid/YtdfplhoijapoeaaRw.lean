/- samePairs of two alike rows; the walk of LabelCovers. Conditions: what comes in reads so, at most 2^20 labels. -/
import Derived.Test.YtdfplhoijapoeaaRv
import Derived.Test.YtdfplhoijapoeaaLwc
import Derived.ChangeKeysEq
import Derived.Laws.StructEq
set_option linter.unusedVariables false
set_option linter.unusedSimpArgs false
namespace Go.Proofs.Ytdfplhoijapoeaa.Lrw
open Go.RowKit Go.Proofs.Ytdfplhoijapoeaa.Lib1 Go.Proofs.Ytdfplhoijapoeaa.Rel Go.Proofs.Ytdfplhoijapoeaa.Lat Go.Proofs.Ytdfplhoijapoeaa.Lbl Go.Proofs.Ytdfplhoijapoeaa.Lbw Go.Proofs.Ytdfplhoijapoeaa.Lck Go.Proofs.Ytdfplhoijapoeaa.Lcb Go.Proofs.Ytdfplhoijapoeaa.Lcv Go.Proofs.Ytdfplhoijapoeaa.Lpl Go.Proofs.Ytdfplhoijapoeaa.Law Go.Proofs.Ytdfplhoijapoeaa.Lwc Go.Proofs.Ytdfplhoijapoeaa.Lcw Go.Proofs.Ytdfplhoijapoeaa.Lrv

theorem flat2_len (ps : List (Nat × Nat)) : (flat2 ps).length = ps.length * 2 := by
  induction ps with
  | nil => rfl
  | cons a ps ih => simp only [flat2, List.flatMap_cons, List.length_append, List.length_cons, List.length_nil] at ih ⊢; omega
theorem flat2_get (ps : List (Nat × Nat)) (k : Nat) (h : k < ps.length) : (flat2 ps)[k * 2]? = some (.int .i64 ((ps.getD k (0, 0)).1 : Nat)) ∧ (flat2 ps)[k * 2 + 1]? = some (.int .i64 ((ps.getD k (0, 0)).2 : Nat)) := by
  induction ps generalizing k with
  | nil => simp at h
  | cons a ps ih =>
    cases k with
    | zero => simp [flat2, List.getD_eq_getElem?_getD]
    | succ k =>
      have := ih k (by simpa using h)
      simp only [flat2, List.flatMap_cons, List.getD_eq_getElem?_getD, List.getElem?_cons_succ] at this ⊢
      rw [List.getElem?_append_right (by simp; omega), List.getElem?_append_right (by simp; omega)]
      simp only [List.length_cons, List.length_nil]
      rw [show (k + 1) * 2 - (0 + 1 + 1) = k * 2 by omega, show (k + 1) * 2 + 1 - (0 + 1 + 1) = k * 2 + 1 by omega]
      exact this
theorem rd_flat2 {ok : Nat → Prop} {w : World} {A : Option Addr} {n c : Nat} {ps : List (Nat × Nat)} (h : Rd ok w A n c 2 (flat2 ps)) (hp : 0 < n) :
    ∃ b off, A = some ⟨b, off, none⟩ ∧ ok b ∧ ∀ k, k < n → w.cell? ⟨b, off + k * 2, none⟩ = some (.int .i64 ((ps.getD k (0, 0)).1 : Nat)) ∧ w.cell? ⟨b, off + k * 2 + 1, none⟩ = some (.int .i64 ((ps.getD k (0, 0)).2 : Nat)) := by
  obtain ⟨b, off, e, ho, hc⟩ := h.at_ hp
  have hl := h.len
  rw [flat2_len] at hl
  refine ⟨b, off, e, ho, fun k hk => ?_⟩
  obtain ⟨h1, h2⟩ := flat2_get ps k (by omega)
  refine ⟨hc _ _ h1, ?_⟩
  rw [Nat.add_assoc]
  exact hc _ _ h2

theorem neq2 (x y : Int) (w : World) : (binOp .neq 62 (.agg #[.int .i64 x, .int .i64 y]) (.agg #[.int .i64 x, .int .i64 y])).run Try.prog w = .ok (.bool false) w := by
  obtain ⟨i0, hi, -, -, -⟩ := info_parts Lru.info_int
  have hne : (x == x) = true := by simp
  have hne2 : (y == y) = true := by simp
  have u3 := Try.underlying3
  have a3 := Try.isAgg3
  have z3 := Try.sizeOf3
  have hc : Try.prog.cellsOf 3 = 1 := by kernel_rfl
  rw [run_neq_struct, show (10000 : Nat) = 9999 + 1 from rfl, run_equalIn_array w 9999 _ _ Try.underlying62 hi, hc, show List.range 2 = [0, 1] from rfl]
  simp only [Op.eqItems]
  go_simp
set_option maxRecDepth 100000 in
set_option maxHeartbeats 1600000 in
theorem same_pairs (ps : List (Nat × Nat)) (A B : Option Addr) (n c d : Nat) (w : World) (ok ok' : Nat → Prop) (ha : Rd ok w A n c 2 (flat2 ps)) (hb : Rd ok' w B n d 2 (flat2 ps)) (hn : n ≤ 9223372036854775807) :
    Calls Try.prog 33 #[.slice A n c, .slice B n d] w fun e w' => e = .returned (.bool true) ∧ ∃ q, w' = w.drewN q := by
  have HRA := Lib.hid (fun hp => rd_flat2 ha hp)
  have HRB := Lib.hid (fun hp => rd_flat2 hb hp)
  clear ha hb
  go_enter Try.func33, Try.ntmps33
  go_wp2
  go_loopw [5] (fun i wr => ∃ (k q : Nat), k ≤ n ∧ i = .int .i64 k ∧ wr = w.drewN q) (fun i _ => n - (intOf i).toNat)
  case atStart => exact ⟨0, 0, by omega, rfl, rfl⟩
  case round =>
    obtain ⟨k, q, hk, rfl, rfl⟩ := hrel
    by_cases hlt : k < n
    · obtain ⟨b1, off1, rfl, _, hc1⟩ := HRA.out (by omega)
      obtain ⟨b2, off2, rfl, _, hc2⟩ := HRB.out (by omega)
      obtain ⟨k1, k2⟩ := hc1 k hlt
      obtain ⟨k3, k4⟩ := hc2 k hlt
      clear hc1 hc2
      obtain ⟨x, hx⟩ : ∃ x, x = (ps.getD k (0, 0)).1 := ⟨_, rfl⟩
      obtain ⟨y, hy⟩ : ∃ y, y = (ps.getD k (0, 0)).2 := ⟨_, rfl⟩
      rw [← hx] at k1 k3
      rw [← hy] at k2 k4
      clear hx hy
      have i5 : (k : Int) < (n : Int) := by omega
      have hne := neq2 (x : Int) (y : Int)
      go_wp2_with fail
      go_quiet (fail)
      go_wp2
      go_roundw
      case rel => exact ⟨k + 1, _, hlt, by go_num, rfl⟩
      case measure => simp [intOf]; omega
    · go_wp2
      go_ret
      exact ⟨rfl, q, rfl⟩

set_option maxRecDepth 100000 in
set_option maxHeartbeats 1600000 in
theorem covers_walk {ok : Nat → Prop} {w : World} (ls : List Nat) (A : Option Addr) (n c : Nat) (h : labsK.rel ok w ls [.slice A n c]) (hok : ∀ k, ok k → k < w.heap.size) (hf : labsK.fits ls) (hN : n ≤ 1048576) :
    Calls Try.prog 9 #[.slice A n c] w fun e w' => e = .returned (.bool true) ∧ Below w.heap.size w w' := by
  obtain ⟨hr, hn, hl⟩ := labs_rd h hf
  have HR : Hid (∀ w', Chg (fun _ => False) w w' → Rd ok w' A n c 1 (us ls)) := fun w' hc => hr.move (fun k hk => hc.block k (hok k hk) (fun h => h))
  have HK : Hid (∀ w', Chg (fun _ => False) w w' → ∀ k, ok k → k < w'.heap.size) := fun w' hc k hk => Nat.lt_of_lt_of_le (hok k hk) hc.size
  have HB := Lib.hid hl
  have H1 := Lib.hid (covers_all ls A n c w (hr.mono hok) hN hl)
  clear h hr hl hf hok
  go_enter Try.func9, Try.ntmps9
  go_wp2_with fail
  refine H1.out.mono ?_
  clear H1
  rintro e w1 ⟨v, rfl, ho, hc⟩
  obtain ⟨A1, c1, rfl, hr1⟩ := Rd.of_own ho
  have C1 := Lib.hid hc
  obtain ⟨N, hN2⟩ : ∃ N, N = (covs ls ls ls.length).length := ⟨_, rfl⟩
  rw [← hN2] at hr1 ho ⊢
  have HP : Hid (∀ w', Chg (fun _ => False) w1 w' → Rd (fun k => k < w1.heap.size) w' A1 N c1 2 (flat2 (covs ls ls ls.length))) := fun w' hc' => (hr1.mono (fun k hk => (ho.lt k hk).2)).move (fun k hk => hc'.block k hk (fun h => h))
  have HNN := Lib.hid hN2
  clear ho hc hr1 hN2
  have H2 := Lib.hid (plain_any ls A n c (HR.out _ C1.out) (HK.out _ C1.out) hn)
  go_wp2_with fail
  refine H2.out.mono ?_
  clear H2
  rintro e w2 ⟨v, rfl, ho, hc⟩
  obtain ⟨A2, c2, rfl, hr2⟩ := Rd.of_own ho
  have H3 := Lib.hid (rcovers_any ls A2 n c2 w2 _ hr2 (fun k hk => (ho.lt k hk).2) hN HB.out)
  have C12 := Lib.hid hc
  have C2 : Hid (Chg (fun _ => False) w w2) := C1.out.trans hc (fun _ _ h => h)
  clear ho hc hr2
  go_wp2_with fail
  refine H3.out.mono ?_
  clear H3
  rintro e w3 ⟨v, rfl, ho, hc⟩
  obtain ⟨A3, c3, rfl, hr3⟩ := Rd.of_own ho
  rw [← HNN.out] at hr3 ho ⊢
  have C3 : Hid (Chg (fun _ => False) w w3) := C2.out.trans hc (fun _ _ h => h)
  have hNb : N ≤ 9223372036854775807 := by
    have h1 := covs_len ls ls ls.length
    have h2 := hr3.len
    have h3 : ls.length ≤ 1048576 := by
      have := (HR.out w (Chg.refl _ _)).len
      rw [us_len] at this; omega
    have h4 : ls.length * ls.length ≤ 1048576 * 1048576 := Nat.mul_le_mul h3 h3
    rw [HNN.out]; omega
  have H4 := Lib.hid (same_pairs (covs ls ls ls.length) A1 A3 N c1 c3 w3 _ _ (HP.out w3 (C12.out.trans hc (fun _ _ h => h))) hr3 hNb)
  clear ho hc hr3 HP C12 C2 C1
  go_wp2_with fail
  refine H4.out.mono ?_
  clear H4
  rintro e w4 ⟨rfl, q, hq⟩
  have C4 : Hid (Chg (fun _ => False) w w4) := by rw [hq]; exact C3.out.drewN _
  clear hq C3
  go_wp2_with fail
  refine (awake_any _).mono ?_
  rintro e w5 ⟨rfl, hc⟩
  have C5 : Hid (Chg (fun _ => False) w w5) := C4.out.trans hc (fun _ _ h => h)
  clear hc C4
  go_wp2
  go_ret
  exact ⟨rfl, C5.out.below⟩
end Go.Proofs.Ytdfplhoijapoeaa.Lrw
