/- A request with what counts: the program's and the reference's, by contracts. Conditions: its value reads so. -/
import Derived.Test.YtchlolgfahgdeaaEn
import Derived.BigRegion
set_option linter.unusedVariables false
set_option linter.unusedSimpArgs false
namespace Go.Proofs.Ytchlolgfahgdeaa.Er
open Go.RowKit Go.Proofs.Ytchlolgfahgdeaa.Lib1 Go.Proofs.Ytchlolgfahgdeaa.Rel Go.Proofs.Ytchlolgfahgdeaa.Own Go.Proofs.Ytchlolgfahgdeaa.Ev Go.Proofs.Ytchlolgfahgdeaa.Ek Go.Proofs.Ytchlolgfahgdeaa.Ec Go.Proofs.Ytchlolgfahgdeaa.Em Go.Proofs.Ytchlolgfahgdeaa.En Go.Proofs.Ytchlolgfahgdeaa.Lat Go.Proofs.Ytchlolgfahgdeaa.Lbw

theorem req_kind {q : Req} (h : q.kind ≤ 1 ∨ 7 < q.kind) : Ev.req q = { Req.zero with kind := q.kind } := by unfold Ev.req; rw [if_pos h]
theorem req_txn {q : Req} (h1 : ¬ q.kind ≤ 1) (h2 : ¬ 7 < q.kind) (h3 : 6 ≤ q.kind) : Ev.req q = { Req.zero with kind := q.kind, life := q.life, number := q.number } := by unfold Ev.req; rw [if_neg (by omega), if_pos h3]
theorem req_key {q : Req} (h1 : ¬ q.kind ≤ 1) (h2 : ¬ 7 < q.kind) (h3 : ¬ 6 ≤ q.kind) (h4 : q.kind ≠ 3) (h5 : q.kind ≠ 4) : Ev.req q = { q with to := ⟨#[]⟩, value := [], limit := 0 } := by unfold Ev.req; rw [if_neg (by omega), if_neg h3]; simp [h4, h5]
theorem req_scan {q : Req} (h4 : q.kind = 3) : Ev.req q = { q with value := [] } := by unfold Ev.req; rw [if_neg (by omega), if_neg (by omega)]; simp [h4]
theorem req_put {q : Req} (h4 : q.kind = 4) : Ev.req q = { q with to := ⟨#[]⟩, limit := 0 } := by unfold Ev.req; rw [if_neg (by omega), if_neg (by omega)]; simp [h4]

section
variable {ok : Nat → Prop} {w : World}
/-- What a request with what counts is, in memory. -/
def ReqOut (w : World) (q : Req) (e : Ending) (w' : World) : Prop := ∃ V', e = .returned (.agg (reqCs (Ev.req q) V').toArray) ∧ OwnL u8K 5 w.heap.size w' V' (Ev.req q).value ∧ Chg (fun _ => False) w w'
theorem cells8 {w : World} {b T : Nat} {fr : Nat × Nat} {a0 a1 a2 a3 a4 a5 a6 a7 : Value} (h : w.heap[b]? = some (.cells #[a0, a1, a2, a3, a4, a5, a6, a7] T fr)) :
    w.cell? ⟨b, 0, none⟩ = some a0 ∧ w.cell? ⟨b, 1, none⟩ = some a1 ∧ w.cell? ⟨b, 2, none⟩ = some a2 ∧ w.cell? ⟨b, 3, none⟩ = some a3 ∧ w.cell? ⟨b, 4, none⟩ = some a4 ∧ w.cell? ⟨b, 5, none⟩ = some a5 ∧ w.cell? ⟨b, 6, none⟩ = some a6 ∧ w.cell? ⟨b, 7, none⟩ = some a7 :=
  ⟨cell_at h 0 rfl, cell_at h 1 rfl, cell_at h 2 rfl, cell_at h 3 rfl, cell_at h 4 rfl, cell_at h 5 rfl, cell_at h 6 rfl, cell_at h 7 rfl⟩






set_option maxRecDepth 100000 in
set_option maxHeartbeats 3200000 in
theorem rreq_low (q : Req) (AV : Option Addr) (nV cV : Nat) (h : q.kind ≤ 1) :
    Calls Try.prog 45 #[.agg (reqCs q (.slice AV nV cV)).toArray] w (ReqOut w q) := by
  have HR := Lib.hid (req_kind (q := q) (.inl h))
  obtain ⟨rk, lf, nb, rp, ky, tt, vl, lm⟩ := q
  simp only [reqCs] at *
  have d0 : decide (2 ≤ rk) = false := by simp; omega
  have d1 : decide (rk ≤ 7) = true := by simp; omega
  have d2 : decide (rk ≤ 5) = true := by simp; omega
  have d3 : decide (rk ≤ 1) = true := by simp; omega
  have d4 : decide (7 < rk) = false := by simp; omega
  have d5 : decide (6 ≤ rk) = false := by simp; omega
  have e3 : (rk == 3) = false := by rw [beq_eq_false_iff_ne]; omega
  have e4 : (rk == 4) = false := by rw [beq_eq_false_iff_ne]; omega
  go_enter Try.func45, Try.ntmps45
  go_wp2
  refine bodyPost_ret (v := .agg #[.int .i64 rk, .int .i64 0, .int .i64 0, .int .i64 0, .string ⟨#[]⟩, .string ⟨#[]⟩, .slice none 0 0, .int .i64 0]) (by simp [results, Try.results45, go_sem]) rfl ⟨_, (by first | (rw [HR.out]; rfl) | rw [HR.out]), by rw [HR.out]; exact OwnL.nil _ _ _ _, ?_⟩
  repeat (first | refine Chg.set ?_ (.inl (by omega)) | refine Chg.drew ?_ | refine Chg.drewN ?_ _ | refine Chg.alloc ?_ _)
  exact Chg.refl _ _

set_option maxRecDepth 100000 in
set_option maxHeartbeats 3200000 in
theorem rreq_high (q : Req) (AV : Option Addr) (nV cV : Nat) (h : 7 < q.kind) :
    Calls Try.prog 45 #[.agg (reqCs q (.slice AV nV cV)).toArray] w (ReqOut w q) := by
  have HR := Lib.hid (req_kind (q := q) (.inr h))
  obtain ⟨rk, lf, nb, rp, ky, tt, vl, lm⟩ := q
  simp only [reqCs] at *
  have d0 : decide (2 ≤ rk) = true := by simp; omega
  have d1 : decide (rk ≤ 7) = false := by simp; omega
  have d2 : decide (rk ≤ 5) = false := by simp; omega
  have d3 : decide (rk ≤ 1) = false := by simp; omega
  have d4 : decide (7 < rk) = true := by simp; omega
  have d5 : decide (6 ≤ rk) = true := by simp; omega
  have e3 : (rk == 3) = false := by rw [beq_eq_false_iff_ne]; omega
  have e4 : (rk == 4) = false := by rw [beq_eq_false_iff_ne]; omega
  go_enter Try.func45, Try.ntmps45
  go_wp2
  refine bodyPost_ret (v := .agg #[.int .i64 rk, .int .i64 0, .int .i64 0, .int .i64 0, .string ⟨#[]⟩, .string ⟨#[]⟩, .slice none 0 0, .int .i64 0]) (by simp [results, Try.results45, go_sem]) rfl ⟨_, (by first | (rw [HR.out]; rfl) | rw [HR.out]), by rw [HR.out]; exact OwnL.nil _ _ _ _, ?_⟩
  repeat (first | refine Chg.set ?_ (.inl (by omega)) | refine Chg.drew ?_ | refine Chg.drewN ?_ _ | refine Chg.alloc ?_ _)
  exact Chg.refl _ _

set_option maxRecDepth 100000 in
set_option maxHeartbeats 3200000 in
theorem rreq_txn (q : Req) (AV : Option Addr) (nV cV : Nat) (h1 : 6 ≤ q.kind) (h2 : q.kind ≤ 7) :
    Calls Try.prog 45 #[.agg (reqCs q (.slice AV nV cV)).toArray] w (ReqOut w q) := by
  have HR := Lib.hid (req_txn (q := q) (by omega) (by omega) h1)
  obtain ⟨rk, lf, nb, rp, ky, tt, vl, lm⟩ := q
  simp only [reqCs] at *
  have d0 : decide (2 ≤ rk) = true := by simp; omega
  have d1 : decide (rk ≤ 7) = true := by simp; omega
  have d2 : decide (rk ≤ 5) = false := by simp; omega
  have d3 : decide (rk ≤ 1) = false := by simp; omega
  have d4 : decide (7 < rk) = false := by simp; omega
  have d5 : decide (6 ≤ rk) = true := by simp; omega
  have e3 : (rk == 3) = false := by rw [beq_eq_false_iff_ne]; omega
  have e4 : (rk == 4) = false := by rw [beq_eq_false_iff_ne]; omega
  go_enter Try.func45, Try.ntmps45
  go_wp2
  refine bodyPost_ret (v := .agg #[.int .i64 rk, .int .i64 lf, .int .i64 nb, .int .i64 0, .string ⟨#[]⟩, .string ⟨#[]⟩, .slice none 0 0, .int .i64 0]) (by simp [results, Try.results45, go_sem]) rfl ⟨_, (by first | (rw [HR.out]; rfl) | rw [HR.out]), by rw [HR.out]; exact OwnL.nil _ _ _ _, ?_⟩
  repeat (first | refine Chg.set ?_ (.inl (by omega)) | refine Chg.drew ?_ | refine Chg.drewN ?_ _ | refine Chg.alloc ?_ _)
  exact Chg.refl _ _

set_option maxRecDepth 100000 in
set_option maxHeartbeats 3200000 in
theorem rreq_key (q : Req) (AV : Option Addr) (nV cV : Nat) (h1 : 2 ≤ q.kind) (h2 : q.kind ≤ 5) (h3 : q.kind ≠ 3) (h4 : q.kind ≠ 4) :
    Calls Try.prog 45 #[.agg (reqCs q (.slice AV nV cV)).toArray] w (ReqOut w q) := by
  have HR := Lib.hid (req_key (q := q) (by omega) (by omega) (by omega) h3 h4)
  obtain ⟨rk, lf, nb, rp, ky, tt, vl, lm⟩ := q
  simp only [reqCs] at *
  have d0 : decide (2 ≤ rk) = true := by simp; omega
  have d1 : decide (rk ≤ 7) = true := by simp; omega
  have d2 : decide (rk ≤ 5) = true := by simp; omega
  have d3 : decide (rk ≤ 1) = false := by simp; omega
  have d4 : decide (7 < rk) = false := by simp; omega
  have d5 : decide (6 ≤ rk) = false := by simp; omega
  have e3 : (rk == 3) = false := by rw [beq_eq_false_iff_ne]; omega
  have e4 : (rk == 4) = false := by rw [beq_eq_false_iff_ne]; omega
  go_enter Try.func45, Try.ntmps45
  go_wp2
  go_region
  all_goals go_wp2
  all_goals
    refine bodyPost_ret (v := .agg #[.int .i64 rk, .int .i64 lf, .int .i64 nb, .int .i64 rp, .string ky, .string ⟨#[]⟩, .slice none 0 0, .int .i64 0]) (by simp [results, Try.results45, go_sem]) rfl ⟨_, (by first | (rw [HR.out]; rfl) | rw [HR.out]), by rw [HR.out]; exact OwnL.nil _ _ _ _, ?_⟩
    repeat (first | refine Chg.set ?_ (.inl (by omega)) | refine Chg.drew ?_ | refine Chg.drewN ?_ _ | refine Chg.alloc ?_ _)
    exact Chg.refl _ _

set_option maxRecDepth 100000 in
set_option maxHeartbeats 3200000 in
theorem rreq_scan (q : Req) (AV : Option Addr) (nV cV : Nat) (h1 : q.kind = 3) :
    Calls Try.prog 45 #[.agg (reqCs q (.slice AV nV cV)).toArray] w (ReqOut w q) := by
  have HR := Lib.hid (req_scan (q := q) h1)
  obtain ⟨rk, lf, nb, rp, ky, tt, vl, lm⟩ := q
  simp only [reqCs] at *
  subst h1
  go_enter Try.func45, Try.ntmps45
  go_wp2
  go_region
  all_goals go_wp2
  all_goals go_region
  all_goals go_wp2
  all_goals
    refine bodyPost_ret (v := .agg #[.int .i64 3, .int .i64 lf, .int .i64 nb, .int .i64 rp, .string ky, .string tt, .slice none 0 0, .int .i64 lm]) (by simp [results, Try.results45, go_sem]) rfl ⟨_, (by first | (rw [HR.out]; rfl) | rw [HR.out]), by rw [HR.out]; exact OwnL.nil _ _ _ _, ?_⟩
    repeat (first | refine Chg.set ?_ (.inl (by omega)) | refine Chg.drew ?_ | refine Chg.drewN ?_ _ | refine Chg.alloc ?_ _)
    exact Chg.refl _ _

set_option maxRecDepth 100000 in
set_option maxHeartbeats 3200000 in
theorem rreq_put (q : Req) (AV : Option Addr) (nV cV : Nat) (h1 : q.kind = 4) (hv : bytesK.rel ok w q.value [.slice AV nV cV]) (hok : ∀ k, ok k → k < w.heap.size) (hf : bytesK.fits q.value) :
    Calls Try.prog 45 #[.agg (reqCs q (.slice AV nV cV)).toArray] w (ReqOut w q) := by
  obtain ⟨A0, c0, e0, -⟩ := slice_form hv
  simp only [List.cons.injEq, Value.slice.injEq, and_true] at e0
  obtain ⟨rfl, rfl, rfl⟩ := e0
  have HR := Lib.hid (req_put (q := q) h1)
  have HF := Lib.hid hf
  have HV := Lib.hid hv
  have HOK := Lib.hid hok
  clear hf hv hok
  obtain ⟨rk, lf, nb, rp, ky, tt, vl, lm⟩ := q
  simp only [reqCs] at *
  subst h1
  have HC : Hid (∀ w', Chg (fun _ => False) w w' → Calls Try.prog 37 #[.slice AV vl.length cV] w' fun e w1 => ∃ v, e = .returned v ∧ OwnL u8K 5 w'.heap.size w1 v vl ∧ Chg (fun _ => False) w' w1) :=
    fun w' hc => own_any w' ok vl AV _ cV (bytesK.move (fun k hk => hc.block k (HOK.out k hk) (fun h => h)) HV.out) HF.out
  go_enter Try.func45, Try.ntmps45
  go_wp2
  go_region
  all_goals go_wp2_with fail
  all_goals
    refine (HC.out _ ((((Chg.refl _ w).alloc _).alloc _).alloc _).drew).mono ?_
    rintro e w1 ⟨v1, rfl, o1, c1⟩
    obtain ⟨A1, k1, e1⟩ := o1.form
    subst e1
    have c2 := undrew c1
    have b1 := c2.at_ (k := w.heap.size + 1) (heap_old _ (heap_new' _ _ (World.size_alloc ..).symm)) (fun h => h)
    have b2 := c2.at_ (k := w.heap.size + 1 + 1) (heap_new' _ _ (by simp only [World.size_alloc])) (fun h => h)
    obtain ⟨p0, p1, p2, p3, p4, p5, p6, p7⟩ := cells8 b1
    obtain ⟨r0, r1, r2, r3, r4, r5, r6, r7⟩ := cells8 b2
    have f1 := free_at b1
    have f2 := free_at b2 6
    have z1 := lt_of _ b1
    have z2 := lt_of _ b2
    go_wp2
    refine bodyPost_ret (v := .agg #[.int .i64 4, .int .i64 lf, .int .i64 nb, .int .i64 rp, .string ky, .string ⟨#[]⟩, .slice A1 vl.length k1, .int .i64 0]) (by simp [results, Try.results45, go_sem, p0, p1, p2, p3, p4, p5, p6, p7, r0, r1, r2, r3, r4, r5, r6, r7, f1, f2]) rfl ⟨_, (by first | (rw [HR.out]; rfl) | rw [HR.out]), ?_, ?_⟩
    · rw [HR.out]
      refine OwnL.base_le (OwnL.chg (S := fun q => w.heap.size ≤ q ∧ q < w.heap.size + 1 + 1 + 1) o1 ?_ (fun q h1 _ h2 => ?_)) ?_
      · repeat (refine Chg.set ?_ (.inr (by omega)))
        exact Chg.refl _ _
      · simp only [World.drew, World.size_alloc] at h1; omega
      · simp only [World.drew, World.size_alloc]; omega
    · refine Chg.trans (T := fun q => w.heap.size ≤ q) (w1 := w1) ?_ ?_ (fun q hq h => by omega)
      · refine Chg.trans (T := fun _ => False) ?_ c2 (fun _ _ h => h)
        exact (((Chg.refl _ w).alloc _).alloc _).alloc _
      · repeat (refine Chg.set ?_ (.inr (by omega)))
        exact Chg.refl _ _

theorem rreq_any (q : Req) (V : Value) (hv : bytesK.rel ok w q.value [V]) (hok : ∀ k, ok k → k < w.heap.size) (hf : bytesK.fits q.value) :
    Calls Try.prog 45 #[.agg (reqCs q V).toArray] w (ReqOut w q) := by
  obtain ⟨AV, cV, eV, -⟩ := slice_form hv
  simp only [List.cons.injEq, and_true] at eV
  subst eV
  by_cases h1 : q.kind ≤ 1
  · exact rreq_low q AV _ cV h1
  by_cases h2 : 7 < q.kind
  · exact rreq_high q AV _ cV h2
  by_cases h3 : 6 ≤ q.kind
  · exact rreq_txn q AV _ cV h3 (by omega)
  by_cases h4 : q.kind = 3
  · exact rreq_scan q AV _ cV h4
  by_cases h5 : q.kind = 4
  · exact rreq_put q AV _ cV h5 hv hok hf
  exact rreq_key q AV _ cV (by omega) (by omega) h4 h5

set_option maxRecDepth 100000 in
set_option maxHeartbeats 3200000 in
theorem preq_low (q : Req) (AV : Option Addr) (nV cV : Nat) (h : q.kind ≤ 1) :
    Calls Try.prog 43 #[.agg (reqCs q (.slice AV nV cV)).toArray] w (ReqOut w q) := by
  have HR := Lib.hid (req_kind (q := q) (.inl h))
  obtain ⟨rk, lf, nb, rp, ky, tt, vl, lm⟩ := q
  simp only [reqCs] at *
  have d0 : decide (2 ≤ rk) = false := by simp; omega
  have d1 : decide (rk ≤ 7) = true := by simp; omega
  have d2 : decide (rk ≤ 5) = true := by simp; omega
  have d3 : decide (rk ≤ 1) = true := by simp; omega
  have d4 : decide (7 < rk) = false := by simp; omega
  have d5 : decide (6 ≤ rk) = false := by simp; omega
  have e3 : (rk == 3) = false := by rw [beq_eq_false_iff_ne]; omega
  have e4 : (rk == 4) = false := by rw [beq_eq_false_iff_ne]; omega
  go_enter Try.func43, Try.ntmps43
  go_wp2
  refine bodyPost_ret (v := .agg #[.int .i64 rk, .int .i64 0, .int .i64 0, .int .i64 0, .string ⟨#[]⟩, .string ⟨#[]⟩, .slice none 0 0, .int .i64 0]) (by simp [results, Try.results43, go_sem]) rfl ⟨_, (by first | (rw [HR.out]; rfl) | rw [HR.out]), by rw [HR.out]; exact OwnL.nil _ _ _ _, ?_⟩
  repeat (first | refine Chg.set ?_ (.inl (by omega)) | refine Chg.drew ?_ | refine Chg.drewN ?_ _ | refine Chg.alloc ?_ _)
  exact Chg.refl _ _

set_option maxRecDepth 100000 in
set_option maxHeartbeats 3200000 in
theorem preq_high (q : Req) (AV : Option Addr) (nV cV : Nat) (h : 7 < q.kind) :
    Calls Try.prog 43 #[.agg (reqCs q (.slice AV nV cV)).toArray] w (ReqOut w q) := by
  have HR := Lib.hid (req_kind (q := q) (.inr h))
  obtain ⟨rk, lf, nb, rp, ky, tt, vl, lm⟩ := q
  simp only [reqCs] at *
  have d0 : decide (2 ≤ rk) = true := by simp; omega
  have d1 : decide (rk ≤ 7) = false := by simp; omega
  have d2 : decide (rk ≤ 5) = false := by simp; omega
  have d3 : decide (rk ≤ 1) = false := by simp; omega
  have d4 : decide (7 < rk) = true := by simp; omega
  have d5 : decide (6 ≤ rk) = true := by simp; omega
  have e3 : (rk == 3) = false := by rw [beq_eq_false_iff_ne]; omega
  have e4 : (rk == 4) = false := by rw [beq_eq_false_iff_ne]; omega
  go_enter Try.func43, Try.ntmps43
  go_wp2
  refine bodyPost_ret (v := .agg #[.int .i64 rk, .int .i64 0, .int .i64 0, .int .i64 0, .string ⟨#[]⟩, .string ⟨#[]⟩, .slice none 0 0, .int .i64 0]) (by simp [results, Try.results43, go_sem]) rfl ⟨_, (by first | (rw [HR.out]; rfl) | rw [HR.out]), by rw [HR.out]; exact OwnL.nil _ _ _ _, ?_⟩
  repeat (first | refine Chg.set ?_ (.inl (by omega)) | refine Chg.drew ?_ | refine Chg.drewN ?_ _ | refine Chg.alloc ?_ _)
  exact Chg.refl _ _

set_option maxRecDepth 100000 in
set_option maxHeartbeats 3200000 in
theorem preq_txn (q : Req) (AV : Option Addr) (nV cV : Nat) (h1 : 6 ≤ q.kind) (h2 : q.kind ≤ 7) :
    Calls Try.prog 43 #[.agg (reqCs q (.slice AV nV cV)).toArray] w (ReqOut w q) := by
  have HR := Lib.hid (req_txn (q := q) (by omega) (by omega) h1)
  obtain ⟨rk, lf, nb, rp, ky, tt, vl, lm⟩ := q
  simp only [reqCs] at *
  have d0 : decide (2 ≤ rk) = true := by simp; omega
  have d1 : decide (rk ≤ 7) = true := by simp; omega
  have d2 : decide (rk ≤ 5) = false := by simp; omega
  have d3 : decide (rk ≤ 1) = false := by simp; omega
  have d4 : decide (7 < rk) = false := by simp; omega
  have d5 : decide (6 ≤ rk) = true := by simp; omega
  have e3 : (rk == 3) = false := by rw [beq_eq_false_iff_ne]; omega
  have e4 : (rk == 4) = false := by rw [beq_eq_false_iff_ne]; omega
  go_enter Try.func43, Try.ntmps43
  go_wp2
  refine bodyPost_ret (v := .agg #[.int .i64 rk, .int .i64 lf, .int .i64 nb, .int .i64 0, .string ⟨#[]⟩, .string ⟨#[]⟩, .slice none 0 0, .int .i64 0]) (by simp [results, Try.results43, go_sem]) rfl ⟨_, (by first | (rw [HR.out]; rfl) | rw [HR.out]), by rw [HR.out]; exact OwnL.nil _ _ _ _, ?_⟩
  repeat (first | refine Chg.set ?_ (.inl (by omega)) | refine Chg.drew ?_ | refine Chg.drewN ?_ _ | refine Chg.alloc ?_ _)
  exact Chg.refl _ _

set_option maxRecDepth 100000 in
set_option maxHeartbeats 3200000 in
theorem preq_key (q : Req) (AV : Option Addr) (nV cV : Nat) (h1 : 2 ≤ q.kind) (h2 : q.kind ≤ 5) (h3 : q.kind ≠ 3) (h4 : q.kind ≠ 4) :
    Calls Try.prog 43 #[.agg (reqCs q (.slice AV nV cV)).toArray] w (ReqOut w q) := by
  have HR := Lib.hid (req_key (q := q) (by omega) (by omega) (by omega) h3 h4)
  obtain ⟨rk, lf, nb, rp, ky, tt, vl, lm⟩ := q
  simp only [reqCs] at *
  have d0 : decide (2 ≤ rk) = true := by simp; omega
  have d1 : decide (rk ≤ 7) = true := by simp; omega
  have d2 : decide (rk ≤ 5) = true := by simp; omega
  have d3 : decide (rk ≤ 1) = false := by simp; omega
  have d4 : decide (7 < rk) = false := by simp; omega
  have d5 : decide (6 ≤ rk) = false := by simp; omega
  have e3 : (rk == 3) = false := by rw [beq_eq_false_iff_ne]; omega
  have e4 : (rk == 4) = false := by rw [beq_eq_false_iff_ne]; omega
  go_enter Try.func43, Try.ntmps43
  go_wp2
  go_region
  all_goals go_wp2
  all_goals
    refine bodyPost_ret (v := .agg #[.int .i64 rk, .int .i64 lf, .int .i64 nb, .int .i64 rp, .string ky, .string ⟨#[]⟩, .slice none 0 0, .int .i64 0]) (by simp [results, Try.results43, go_sem]) rfl ⟨_, (by first | (rw [HR.out]; rfl) | rw [HR.out]), by rw [HR.out]; exact OwnL.nil _ _ _ _, ?_⟩
    repeat (first | refine Chg.set ?_ (.inl (by omega)) | refine Chg.drew ?_ | refine Chg.drewN ?_ _ | refine Chg.alloc ?_ _)
    exact Chg.refl _ _

set_option maxRecDepth 100000 in
set_option maxHeartbeats 3200000 in
theorem preq_scan (q : Req) (AV : Option Addr) (nV cV : Nat) (h1 : q.kind = 3) :
    Calls Try.prog 43 #[.agg (reqCs q (.slice AV nV cV)).toArray] w (ReqOut w q) := by
  have HR := Lib.hid (req_scan (q := q) h1)
  obtain ⟨rk, lf, nb, rp, ky, tt, vl, lm⟩ := q
  simp only [reqCs] at *
  subst h1
  go_enter Try.func43, Try.ntmps43
  go_wp2
  go_region
  all_goals go_wp2
  all_goals go_region
  all_goals go_wp2
  all_goals
    refine bodyPost_ret (v := .agg #[.int .i64 3, .int .i64 lf, .int .i64 nb, .int .i64 rp, .string ky, .string tt, .slice none 0 0, .int .i64 lm]) (by simp [results, Try.results43, go_sem]) rfl ⟨_, (by first | (rw [HR.out]; rfl) | rw [HR.out]), by rw [HR.out]; exact OwnL.nil _ _ _ _, ?_⟩
    repeat (first | refine Chg.set ?_ (.inl (by omega)) | refine Chg.drew ?_ | refine Chg.drewN ?_ _ | refine Chg.alloc ?_ _)
    exact Chg.refl _ _

set_option maxRecDepth 100000 in
set_option maxHeartbeats 3200000 in
theorem preq_put (q : Req) (AV : Option Addr) (nV cV : Nat) (h1 : q.kind = 4) (hv : bytesK.rel ok w q.value [.slice AV nV cV]) (hok : ∀ k, ok k → k < w.heap.size) (hf : bytesK.fits q.value) :
    Calls Try.prog 43 #[.agg (reqCs q (.slice AV nV cV)).toArray] w (ReqOut w q) := by
  obtain ⟨A0, c0, e0, -⟩ := slice_form hv
  simp only [List.cons.injEq, Value.slice.injEq, and_true] at e0
  obtain ⟨rfl, rfl, rfl⟩ := e0
  have HR := Lib.hid (req_put (q := q) h1)
  have HF := Lib.hid hf
  have HV := Lib.hid hv
  have HOK := Lib.hid hok
  clear hf hv hok
  obtain ⟨rk, lf, nb, rp, ky, tt, vl, lm⟩ := q
  simp only [reqCs] at *
  subst h1
  go_enter Try.func43, Try.ntmps43
  go_wp2
  go_region
  all_goals go_wp2_with (at_builtin; refine ap_all rfl (.const (.slice none 0 0)) (.tmp 42) 32 rfl u8K _ 5 1 (.int .u8 0) Try.underlying32 info_u8 rfl (by decide) (by decide) (.slice none 0 0) [] rfl (OwnL.nil _ _ _ _) AV cV vl 1 rfl (bytesK.move (ok := ok) (fun k hk => Chg.block (S := fun _ => False) (((((Chg.refl _ w).alloc _).alloc _).alloc _).drew) k (HOK.out k hk) (fun h => h)) HV.out) u8_ok ?aL (Nat.le_refl _) ?_; (case aL => have := HF.out.1; simp only [List.length_nil]; omega); intro v1 w1 o1 ch1; have c1 := ch1.mono (T := fun _ => False) (fun k _ h => by cases h); obtain ⟨A1, k1, e1⟩ := o1.form; subst e1; have c2 := undrew c1; simp only [List.nil_append] at o1; have b1 := c2.at_ (k := w.heap.size + 1) (heap_old _ (heap_new' _ _ (World.size_alloc ..).symm)) (fun h => h); have b2 := c2.at_ (k := w.heap.size + 1 + 1) (heap_new' _ _ (by simp only [World.size_alloc])) (fun h => h); obtain ⟨p0, p1, p2, p3, p4, p5, p6, p7⟩ := cells8 b1; obtain ⟨r0, r1, r2, r3, r4, r5, r6, r7⟩ := cells8 b2; have f1 := free_at b1; have f2 := free_at b2 6; have z1 := lt_of _ b1; have z2 := lt_of _ b2)
  all_goals
    refine bodyPost_ret (v := .agg #[.int .i64 4, .int .i64 lf, .int .i64 nb, .int .i64 rp, .string ky, .string ⟨#[]⟩, .slice A1 vl.length k1, .int .i64 0]) (by simp [results, Try.results43, go_sem, p0, p1, p2, p3, p4, p5, p6, p7, r0, r1, r2, r3, r4, r5, r6, r7, f1, f2]) rfl ⟨_, (by first | (rw [HR.out]; rfl) | rw [HR.out]), ?_, ?_⟩
    · rw [HR.out]
      refine OwnL.base_le (OwnL.chg (S := fun q => w.heap.size ≤ q ∧ q < w.heap.size + 1 + 1 + 1) o1 ?_ (fun q h1 _ h2 => ?_)) ?_
      · repeat (refine Chg.set ?_ (.inr (by omega)))
        exact Chg.refl _ _
      · simp only [World.drew, World.size_alloc] at h1; omega
      · simp only [World.drew, World.size_alloc]; omega
    · refine Chg.trans (T := fun q => w.heap.size ≤ q) (w1 := w1) ?_ ?_ (fun q hq h => by omega)
      · refine Chg.trans (T := fun _ => False) ?_ c2 (fun _ _ h => h)
        exact (((Chg.refl _ w).alloc _).alloc _).alloc _
      · repeat (refine Chg.set ?_ (.inr (by omega)))
        exact Chg.refl _ _

theorem preq_any (q : Req) (V : Value) (hv : bytesK.rel ok w q.value [V]) (hok : ∀ k, ok k → k < w.heap.size) (hf : bytesK.fits q.value) :
    Calls Try.prog 43 #[.agg (reqCs q V).toArray] w (ReqOut w q) := by
  obtain ⟨AV, cV, eV, -⟩ := slice_form hv
  simp only [List.cons.injEq, and_true] at eV
  subst eV
  by_cases h1 : q.kind ≤ 1
  · exact preq_low q AV _ cV h1
  by_cases h2 : 7 < q.kind
  · exact preq_high q AV _ cV h2
  by_cases h3 : 6 ≤ q.kind
  · exact preq_txn q AV _ cV h3 (by omega)
  by_cases h4 : q.kind = 3
  · exact preq_scan q AV _ cV h4
  by_cases h5 : q.kind = 4
  · exact preq_put q AV _ cV h5 hv hok hf
  exact preq_key q AV _ cV (by omega) (by omega) h4 h5
end
end Go.Proofs.Ytchlolgfahgdeaa.Er
