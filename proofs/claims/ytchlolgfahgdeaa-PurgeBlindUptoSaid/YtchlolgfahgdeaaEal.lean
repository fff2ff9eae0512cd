/- Requests compared: alike by contract. Conditions: the values read so. -/
import Derived.Test.YtchlolgfahgdeaaEbe
set_option linter.unusedVariables false
set_option linter.unusedSimpArgs false
namespace Go.Proofs.Ytchlolgfahgdeaa.Eal
open Go.RowKit Go.Proofs.Ytchlolgfahgdeaa.Lib1 Go.Proofs.Ytchlolgfahgdeaa.Rel Go.Proofs.Ytchlolgfahgdeaa.Own Go.Proofs.Ytchlolgfahgdeaa.Ev Go.Proofs.Ytchlolgfahgdeaa.Ek Go.Proofs.Ytchlolgfahgdeaa.Ec Go.Proofs.Ytchlolgfahgdeaa.Efe Go.Proofs.Ytchlolgfahgdeaa.Em Go.Proofs.Ytchlolgfahgdeaa.En Go.Proofs.Ytchlolgfahgdeaa.Lbw Go.Proofs.Ytchlolgfahgdeaa.Ebe

theorem eql_txn (a b a' b' : Int) (W : World) : (binOp .eql 31 (.agg #[.int .i64 a, .int .i64 b]) (.agg #[.int .i64 a', .int .i64 b'])).run Try.prog W = .ok (.bool (a == a' && b == b')) W := by
  rw [run_eql_struct, run_equalIn_agg W _ _ _ _ (by kernel_rfl) (by kernel_rfl)]
  go_simp
  by_cases h1 : a = a' <;> by_cases h2 : b = b' <;> simp [h1, h2]
theorem str_beq (a b : ByteArray) : (a == b) = true ↔ a = b := by
  obtain ⟨⟨x⟩⟩ := a
  obtain ⟨⟨y⟩⟩ := b
  show ((⟨x⟩ : Array UInt8) == ⟨y⟩) = true ↔ _
  simp
theorem req_eq (q r : Req) : q = r ↔ q.kind = r.kind ∧ (q.life = r.life ∧ q.number = r.number) ∧ q.place = r.place ∧ q.key = r.key ∧ q.to = r.to ∧ q.value = r.value ∧ q.limit = r.limit := by
  obtain ⟨a, b, c, d, e, f, g, h⟩ := q
  obtain ⟨a', b', c', d', e', f', g', h'⟩ := r
  simp [and_assoc]
set_option maxRecDepth 100000 in
set_option maxHeartbeats 3200000 in
theorem alike_any {ok : Nat → Prop} {w : World} (q r : Req) (A B : Option Addr) (n m c d : Nat) (hok : ∀ k, ok k → k < w.heap.size) (hu : bytesK.rel ok w q.value [.slice A n c]) (hv : bytesK.rel ok w r.value [.slice B m d]) :
    Calls Try.prog 50 #[.agg (reqCs q (.slice A n c)).toArray, .agg (reqCs r (.slice B m d)).toArray] w fun e w' => e = .returned (.bool (decide (q = r))) ∧ Chg (fun _ => False) w w' := by
  have HB : Hid (∀ w', Chg (fun _ => False) w w' → Calls Try.prog 63 #[.slice A n c, .slice B m d] w' fun e w1 => e = .returned (.bool (decide (q.value = r.value))) ∧ w' = w1) :=
    fun w' hc => bytes_equal q.value r.value A B n m c d (bytesK.move (fun k hk => hc.block k (hok k hk) (fun h => h)) hu) (bytesK.move (fun k hk => hc.block k (hok k hk) (fun h => h)) hv)
  have HE := Lib.hid (req_eq q r)
  have ht := eql_txn
  clear hu hv hok
  simp only [reqCs]
  go_enter Try.func50, Try.ntmps50
  by_cases h1 : q.kind = r.kind
  rotate_left
  · have HN : Hid (¬ q = r) := fun h => h1 (HE.out.1 h).1
    have e1 : (q.kind == r.kind) = false := Bool.eq_false_iff.2 (fun hb => h1 (by simpa using hb))
    clear h1
    go_wp2
    go_ret
    exact ⟨ret_bool (decide_eq_false HN.out).symm, ((Chg.refl _ w).alloc _).alloc _⟩
  have e1 : (q.kind == r.kind) = true := by simpa using h1
  have H1 := Lib.hid h1
  clear h1
  by_cases h2 : q.life = r.life ∧ q.number = r.number
  rotate_left
  · have HN : Hid (¬ q = r) := fun h => h2 (HE.out.1 h).2.1
    have e2 : (q.life == r.life && q.number == r.number) = false := Bool.eq_false_iff.2 (fun hb => h2 (by simpa using hb))
    clear h2
    go_wp2
    go_ret
    exact ⟨ret_bool (decide_eq_false HN.out).symm, ((Chg.refl _ w).alloc _).alloc _⟩
  have e2 : (q.life == r.life && q.number == r.number) = true := by simpa using h2
  have H2 := Lib.hid h2
  clear h2
  by_cases h3 : q.place = r.place
  rotate_left
  · have HN : Hid (¬ q = r) := fun h => h3 (HE.out.1 h).2.2.1
    have e3 : (q.place == r.place) = false := Bool.eq_false_iff.2 (fun hb => h3 (by simpa using hb))
    clear h3
    go_wp2
    go_ret
    exact ⟨ret_bool (decide_eq_false HN.out).symm, ((Chg.refl _ w).alloc _).alloc _⟩
  have e3 : (q.place == r.place) = true := by simpa using h3
  have H3 := Lib.hid h3
  clear h3
  by_cases h4 : q.key = r.key
  rotate_left
  · have HN : Hid (¬ q = r) := fun h => h4 (HE.out.1 h).2.2.2.1
    have e4' : (q.key == r.key) = false := Bool.eq_false_iff.2 (fun hb => h4 ((str_beq _ _).1 hb))
    have e4 : (q.key.toList == r.key.toList) = false := by rw [← beq_toListBytes]; exact e4'
    clear e4'
    clear h4
    go_wp2
    go_ret
    exact ⟨ret_bool (decide_eq_false HN.out).symm, ((Chg.refl _ w).alloc _).alloc _⟩
  have e4' : (q.key == r.key) = true := (str_beq _ _).2 h4
  have e4 : (q.key.toList == r.key.toList) = true := by rw [← beq_toListBytes]; exact e4'
  clear e4'
  have H4 := Lib.hid h4
  clear h4
  by_cases h5 : q.to = r.to
  rotate_left
  · have HN : Hid (¬ q = r) := fun h => h5 (HE.out.1 h).2.2.2.2.1
    have e5' : (q.to == r.to) = false := Bool.eq_false_iff.2 (fun hb => h5 ((str_beq _ _).1 hb))
    have e5 : (q.to.toList == r.to.toList) = false := by rw [← beq_toListBytes]; exact e5'
    clear e5'
    clear h5
    go_wp2
    go_ret
    exact ⟨ret_bool (decide_eq_false HN.out).symm, ((Chg.refl _ w).alloc _).alloc _⟩
  have e5' : (q.to == r.to) = true := (str_beq _ _).2 h5
  have e5 : (q.to.toList == r.to.toList) = true := by rw [← beq_toListBytes]; exact e5'
  clear e5'
  have H5 := Lib.hid h5
  clear h5
  by_cases h6 : q.value = r.value
  rotate_left
  · have HN : Hid (¬ q = r) := fun h => h6 (HE.out.1 h).2.2.2.2.2.1
    have e6 : (decide (q.value = r.value)) = false := Bool.eq_false_iff.2 (fun hb => h6 (by simpa using hb))
    clear h6
    go_wp2_with fail
    refine (HB.out _ (((Chg.refl _ w).alloc _).alloc _)).mono ?_
    rintro e w3 ⟨rfl, rfl⟩
    go_wp2
    go_ret
    exact ⟨ret_bool (decide_eq_false HN.out).symm, ((Chg.refl _ w).alloc _).alloc _⟩
  have e6 : (decide (q.value = r.value)) = true := by simpa using h6
  have H6 := Lib.hid h6
  clear h6
  by_cases h7 : q.limit = r.limit
  rotate_left
  · have HN : Hid (¬ q = r) := fun h => h7 (HE.out.1 h).2.2.2.2.2.2
    have e7 : (q.limit == r.limit) = false := Bool.eq_false_iff.2 (fun hb => h7 (by simpa using hb))
    clear h7
    go_wp2_with fail
    refine (HB.out _ (((Chg.refl _ w).alloc _).alloc _)).mono ?_
    rintro e w3 ⟨rfl, rfl⟩
    go_wp2
    go_ret
    exact ⟨ret_bool (decide_eq_false HN.out).symm, ((Chg.refl _ w).alloc _).alloc _⟩
  have e7 : (q.limit == r.limit) = true := by simpa using h7
  have H7 := Lib.hid h7
  clear h7
  have HQ : Hid (q = r) := HE.out.2 ⟨H1.out, H2.out, H3.out, H4.out, H5.out, H6.out, H7.out⟩
  go_wp2_with fail
  refine (HB.out _ (((Chg.refl _ w).alloc _).alloc _)).mono ?_
  rintro e w3 ⟨rfl, rfl⟩
  go_wp2
  go_ret
  exact ⟨ret_bool (decide_eq_true HQ.out).symm, ((Chg.refl _ w).alloc _).alloc _⟩
end Go.Proofs.Ytchlolgfahgdeaa.Eal
