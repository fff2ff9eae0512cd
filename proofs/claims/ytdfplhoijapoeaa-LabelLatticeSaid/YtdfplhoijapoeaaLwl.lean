/- The walk of LabelLattice. Conditions: labels below 2^64. -/
import Derived.Test.YtdfplhoijapoeaaLaw
set_option linter.unusedVariables false
set_option linter.unusedSimpArgs false
namespace Go.Proofs.Ytdfplhoijapoeaa.Lwl
open Go.RowKit Go.Proofs.Ytdfplhoijapoeaa.Lib1 Go.Proofs.Ytdfplhoijapoeaa.Lbl Go.Proofs.Ytdfplhoijapoeaa.Lbw Go.Proofs.Ytdfplhoijapoeaa.Lcb Go.Proofs.Ytdfplhoijapoeaa.Law

theorem leq_is {x y : Nat} {v : Bool} (h : leq x y = v) (hx : x < 18446744073709551616) (hy : y < 18446744073709551616) (W : World) :
    Calls Try.prog 17 #[.int .u64 (x : Int), .int .u64 (y : Int)] W fun e w' => e = .returned (.bool v) ∧ W = w' := by
  have := leq_any x y W hx hy
  rwa [h] at this
theorem l_refl (a : Nat) : leq a a = true := leq_iff.2 fun i h => h
theorem l_trans {a b c : Nat} (h : leq a b = true) (k : leq b c = true) : leq a c = true := leq_iff.2 fun i hi => leq_iff.1 k i (leq_iff.1 h i hi)
theorem l_anti {a b : Nat} (h : leq a b = true) (k : leq b a = true) : a = b := Nat.eq_of_testBit_eq fun i => by
  have h1 := leq_iff.1 h i
  have h2 := leq_iff.1 k i
  cases ha : a.testBit i <;> cases hb : b.testBit i <;> simp_all
theorem l_aj (a b : Nat) : leq a (a ||| b) = true := leq_iff.2 fun i h => by simp [h]
theorem l_bj (a b : Nat) : leq b (a ||| b) = true := leq_iff.2 fun i h => by simp [h]
theorem l_ma (a b : Nat) : leq (a &&& b) a = true := leq_iff.2 fun i h => by simp at h; exact h.1
theorem l_mb (a b : Nat) : leq (a &&& b) b = true := leq_iff.2 fun i h => by simp at h; exact h.2
theorem l_jc {a b c : Nat} (h : leq a c = true) (k : leq b c = true) : leq (a ||| b) c = true := leq_iff.2 fun i hi => by
  simp at hi
  exact hi.elim (leq_iff.1 h i) (leq_iff.1 k i)
theorem l_cm {a b c : Nat} (h : leq c a = true) (k : leq c b = true) : leq c (a &&& b) = true := leq_iff.2 fun i hi => by
  simp; exact ⟨leq_iff.1 h i hi, leq_iff.1 k i hi⟩
theorem l_j {a b : Nat} {v : Bool} (h : leq a b = v) : (((a ||| b : Nat) : Int) == (b : Int)) = v := by
  rw [← h, Bool.eq_iff_iff, beq_iff_eq]
  constructor
  · intro e
    have e' : a ||| b = b := by omega
    rw [← e']; exact l_aj a b
  · intro k
    have : a ||| b = b := Nat.eq_of_testBit_eq fun i => by
      have := leq_iff.1 k i
      cases ha : a.testBit i <;> cases hb : b.testBit i <;> simp_all
    rw [this]
theorem l_m {a b : Nat} {v : Bool} (h : leq a b = v) : (((a &&& b : Nat) : Int) == (a : Int)) = v := by
  rw [← h, Bool.eq_iff_iff, beq_iff_eq]
  constructor
  · intro e
    have e' : a &&& b = a := by omega
    rw [← e']; exact l_mb a b
  · intro k
    have : a &&& b = a := Nat.eq_of_testBit_eq fun i => by
      have := leq_iff.1 k i
      cases ha : a.testBit i <;> cases hb : b.testBit i <;> simp_all
    rw [this]
set_option maxRecDepth 100000 in
set_option maxHeartbeats 16000000 in
theorem lattice_walk (a b c : Nat) (ha : a < 18446744073709551616) (hb : b < 18446744073709551616) (hc : c < 18446744073709551616) (w : World) :
    Calls Try.prog 7 #[.int .u64 (a : Int), .int .u64 (b : Int), .int .u64 (c : Int)] w fun e w' => e = .returned (.bool true) ∧ Below w.heap.size w w' := by
  obtain ⟨j, hj⟩ : ∃ j, j = a ||| b := ⟨_, rfl⟩
  obtain ⟨m, hm⟩ : ∃ m, m = a &&& b := ⟨_, rfl⟩
  have hj64 : j < 18446744073709551616 := by rw [hj]; exact Nat.or_lt_two_pow (n := 64) ha hb
  have hm64 : m < 18446744073709551616 := by rw [hm]; exact Nat.lt_of_le_of_lt Nat.and_le_left ha
  have HJ : Hid (∀ W, Calls Try.prog 19 #[.int .u64 (a : Int), .int .u64 (b : Int)] W fun e w' => e = .returned (.int .u64 (j : Int)) ∧ W = w') := fun W => by rw [hj]; exact join_any a b W ha hb
  have HM : Hid (∀ W, Calls Try.prog 21 #[.int .u64 (a : Int), .int .u64 (b : Int)] W fun e w' => e = .returned (.int .u64 (m : Int)) ∧ W = w') := fun W => by rw [hm]; exact meet_any a b W ha hb
  have Qaj : Hid (leq a j = true) := by show _ = _; rw [hj]; exact l_aj a b
  have Qbj : Hid (leq b j = true) := by show _ = _; rw [hj]; exact l_bj a b
  have Qma : Hid (leq m a = true) := by show _ = _; rw [hm]; exact l_ma a b
  have Qmb : Hid (leq m b = true) := by show _ = _; rw [hm]; exact l_mb a b
  have Qjc : Hid (leq a c = true → leq b c = true → leq j c = true) := fun h k => by rw [hj]; exact l_jc h k
  have Qcm : Hid (leq c a = true → leq c b = true → leq c m = true) := fun h k => by rw [hm]; exact l_cm h k
  have Qj : Hid (∀ v, leq a b = v → ((j : Int) == (b : Int)) = v) := fun v h => by rw [hj]; exact l_j h
  have Qm : Hid (∀ v, leq a b = v → ((m : Int) == (a : Int)) = v) := fun v h => by rw [hm]; exact l_m h
  have Qaa := Lib.hid (l_refl a)
  clear hj hm
  go_enter Try.func7, Try.ntmps7
  go_wp2_with fail
  refine (awake_any _).mono ?_
  rintro e w1 ⟨rfl, hcg⟩
  have HC := Lib.hid hcg.below
  clear hcg
  go_wp2_with fail
  refine (HJ.out _).mono ?_
  rintro e w' ⟨rfl, rfl⟩
  go_wp2_with fail
  refine (HM.out _).mono ?_
  rintro e w' ⟨rfl, rfl⟩

  go_wp2_with fail
  refine (leq_is Qaa.out ha ha _).mono ?_
  rintro e w' ⟨rfl, rfl⟩
  cases hab : leq a b with
  | false =>
    have Qab := Lib.hid hab
    clear hab
    go_wp2_with fail
    refine (leq_is Qab.out ha hb _).mono ?_
    rintro e w' ⟨rfl, rfl⟩
    go_wp2_with fail
    refine (leq_is Qab.out ha hb _).mono ?_
    rintro e w' ⟨rfl, rfl⟩
    go_wp2_with fail
    refine (leq_is Qaj.out ha hj64 _).mono ?_
    rintro e w' ⟨rfl, rfl⟩
    go_wp2_with fail
    refine (leq_is Qbj.out hb hj64 _).mono ?_
    rintro e w' ⟨rfl, rfl⟩
    go_wp2_with fail
    refine (leq_is Qma.out hm64 ha _).mono ?_
    rintro e w' ⟨rfl, rfl⟩
    go_wp2_with fail
    refine (leq_is Qmb.out hm64 hb _).mono ?_
    rintro e w' ⟨rfl, rfl⟩
    cases hac : leq a c with
    | false =>
      have Qac := Lib.hid hac
      clear hac
      go_wp2_with fail
      refine (leq_is Qac.out ha hc _).mono ?_
      rintro e w' ⟨rfl, rfl⟩
      cases hca : leq c a with
      | false =>
        have Qca := Lib.hid hca
        clear hca
        go_wp2_with fail
        refine (leq_is Qca.out hc ha _).mono ?_
        rintro e w' ⟨rfl, rfl⟩
        have e1 := Qj.out _ Qab.out
        have e2 := Qm.out _ Qab.out
        go_wp2_with fail
        refine (leq_is Qab.out ha hb _).mono ?_
        rintro e w' ⟨rfl, rfl⟩
        go_wp2_with fail
        refine (leq_is Qab.out ha hb _).mono ?_
        rintro e w' ⟨rfl, rfl⟩
        go_wp2
        go_ret
        exact ⟨rfl, HC.out⟩
      | true =>
        have Qca := Lib.hid hca
        clear hca
        go_wp2_with fail
        refine (leq_is Qca.out hc ha _).mono ?_
        rintro e w' ⟨rfl, rfl⟩
        cases hcb : leq c b with
        | false =>
          have Qcb := Lib.hid hcb
          clear hcb
          go_wp2_with fail
          refine (leq_is Qcb.out hc hb _).mono ?_
          rintro e w' ⟨rfl, rfl⟩
          have e1 := Qj.out _ Qab.out
          have e2 := Qm.out _ Qab.out
          go_wp2_with fail
          refine (leq_is Qab.out ha hb _).mono ?_
          rintro e w' ⟨rfl, rfl⟩
          go_wp2_with fail
          refine (leq_is Qab.out ha hb _).mono ?_
          rintro e w' ⟨rfl, rfl⟩
          go_wp2
          go_ret
          exact ⟨rfl, HC.out⟩
        | true =>
          have Qcb := Lib.hid hcb
          clear hcb
          go_wp2_with fail
          refine (leq_is Qcb.out hc hb _).mono ?_
          rintro e w' ⟨rfl, rfl⟩
          go_wp2_with fail
          refine (leq_is (Qcm.out Qca.out Qcb.out) hc hm64 _).mono ?_
          rintro e w' ⟨rfl, rfl⟩
          have e1 := Qj.out _ Qab.out
          have e2 := Qm.out _ Qab.out
          go_wp2_with fail
          refine (leq_is Qab.out ha hb _).mono ?_
          rintro e w' ⟨rfl, rfl⟩
          go_wp2_with fail
          refine (leq_is Qab.out ha hb _).mono ?_
          rintro e w' ⟨rfl, rfl⟩
          go_wp2
          go_ret
          exact ⟨rfl, HC.out⟩
    | true =>
      have Qac := Lib.hid hac
      clear hac
      go_wp2_with fail
      refine (leq_is Qac.out ha hc _).mono ?_
      rintro e w' ⟨rfl, rfl⟩
      cases hbc : leq b c with
      | false =>
        have Qbc := Lib.hid hbc
        clear hbc
        go_wp2_with fail
        refine (leq_is Qbc.out hb hc _).mono ?_
        rintro e w' ⟨rfl, rfl⟩
        cases hca : leq c a with
        | false =>
          have Qca := Lib.hid hca
          clear hca
          go_wp2_with fail
          refine (leq_is Qca.out hc ha _).mono ?_
          rintro e w' ⟨rfl, rfl⟩
          have e1 := Qj.out _ Qab.out
          have e2 := Qm.out _ Qab.out
          go_wp2_with fail
          refine (leq_is Qab.out ha hb _).mono ?_
          rintro e w' ⟨rfl, rfl⟩
          go_wp2_with fail
          refine (leq_is Qab.out ha hb _).mono ?_
          rintro e w' ⟨rfl, rfl⟩
          go_wp2
          go_ret
          exact ⟨rfl, HC.out⟩
        | true =>
          have Qca := Lib.hid hca
          clear hca
          go_wp2_with fail
          refine (leq_is Qca.out hc ha _).mono ?_
          rintro e w' ⟨rfl, rfl⟩
          cases hcb : leq c b with
          | false =>
            have Qcb := Lib.hid hcb
            clear hcb
            go_wp2_with fail
            refine (leq_is Qcb.out hc hb _).mono ?_
            rintro e w' ⟨rfl, rfl⟩
            have e1 := Qj.out _ Qab.out
            have e2 := Qm.out _ Qab.out
            go_wp2_with fail
            refine (leq_is Qab.out ha hb _).mono ?_
            rintro e w' ⟨rfl, rfl⟩
            go_wp2_with fail
            refine (leq_is Qab.out ha hb _).mono ?_
            rintro e w' ⟨rfl, rfl⟩
            go_wp2
            go_ret
            exact ⟨rfl, HC.out⟩
          | true =>
            have Qcb := Lib.hid hcb
            clear hcb
            go_wp2_with fail
            refine (leq_is Qcb.out hc hb _).mono ?_
            rintro e w' ⟨rfl, rfl⟩
            go_wp2_with fail
            refine (leq_is (Qcm.out Qca.out Qcb.out) hc hm64 _).mono ?_
            rintro e w' ⟨rfl, rfl⟩
            have e1 := Qj.out _ Qab.out
            have e2 := Qm.out _ Qab.out
            go_wp2_with fail
            refine (leq_is Qab.out ha hb _).mono ?_
            rintro e w' ⟨rfl, rfl⟩
            go_wp2_with fail
            refine (leq_is Qab.out ha hb _).mono ?_
            rintro e w' ⟨rfl, rfl⟩
            go_wp2
            go_ret
            exact ⟨rfl, HC.out⟩
      | true =>
        have Qbc := Lib.hid hbc
        clear hbc
        go_wp2_with fail
        refine (leq_is Qbc.out hb hc _).mono ?_
        rintro e w' ⟨rfl, rfl⟩
        go_wp2_with fail
        refine (leq_is (Qjc.out Qac.out Qbc.out) hj64 hc _).mono ?_
        rintro e w' ⟨rfl, rfl⟩
        cases hca : leq c a with
        | false =>
          have Qca := Lib.hid hca
          clear hca
          go_wp2_with fail
          refine (leq_is Qca.out hc ha _).mono ?_
          rintro e w' ⟨rfl, rfl⟩
          have e1 := Qj.out _ Qab.out
          have e2 := Qm.out _ Qab.out
          go_wp2_with fail
          refine (leq_is Qab.out ha hb _).mono ?_
          rintro e w' ⟨rfl, rfl⟩
          go_wp2_with fail
          refine (leq_is Qab.out ha hb _).mono ?_
          rintro e w' ⟨rfl, rfl⟩
          go_wp2
          go_ret
          exact ⟨rfl, HC.out⟩
        | true =>
          have Qca := Lib.hid hca
          clear hca
          go_wp2_with fail
          refine (leq_is Qca.out hc ha _).mono ?_
          rintro e w' ⟨rfl, rfl⟩
          cases hcb : leq c b with
          | false =>
            have Qcb := Lib.hid hcb
            clear hcb
            go_wp2_with fail
            refine (leq_is Qcb.out hc hb _).mono ?_
            rintro e w' ⟨rfl, rfl⟩
            have e1 := Qj.out _ Qab.out
            have e2 := Qm.out _ Qab.out
            go_wp2_with fail
            refine (leq_is Qab.out ha hb _).mono ?_
            rintro e w' ⟨rfl, rfl⟩
            go_wp2_with fail
            refine (leq_is Qab.out ha hb _).mono ?_
            rintro e w' ⟨rfl, rfl⟩
            go_wp2
            go_ret
            exact ⟨rfl, HC.out⟩
          | true =>
            have Qcb := Lib.hid hcb
            clear hcb
            go_wp2_with fail
            refine (leq_is Qcb.out hc hb _).mono ?_
            rintro e w' ⟨rfl, rfl⟩
            go_wp2_with fail
            refine (leq_is (Qcm.out Qca.out Qcb.out) hc hm64 _).mono ?_
            rintro e w' ⟨rfl, rfl⟩
            have e1 := Qj.out _ Qab.out
            have e2 := Qm.out _ Qab.out
            go_wp2_with fail
            refine (leq_is Qab.out ha hb _).mono ?_
            rintro e w' ⟨rfl, rfl⟩
            go_wp2_with fail
            refine (leq_is Qab.out ha hb _).mono ?_
            rintro e w' ⟨rfl, rfl⟩
            go_wp2
            go_ret
            exact ⟨rfl, HC.out⟩
  | true =>
    have Qab := Lib.hid hab
    clear hab
    go_wp2_with fail
    refine (leq_is Qab.out ha hb _).mono ?_
    rintro e w' ⟨rfl, rfl⟩
    cases hba : leq b a with
    | false =>
      have Qba := Lib.hid hba
      clear hba
      go_wp2_with fail
      refine (leq_is Qba.out hb ha _).mono ?_
      rintro e w' ⟨rfl, rfl⟩
      go_wp2_with fail
      refine (leq_is Qab.out ha hb _).mono ?_
      rintro e w' ⟨rfl, rfl⟩
      cases hbc : leq b c with
      | false =>
        have Qbc := Lib.hid hbc
        clear hbc
        go_wp2_with fail
        refine (leq_is Qbc.out hb hc _).mono ?_
        rintro e w' ⟨rfl, rfl⟩
        go_wp2_with fail
        refine (leq_is Qaj.out ha hj64 _).mono ?_
        rintro e w' ⟨rfl, rfl⟩
        go_wp2_with fail
        refine (leq_is Qbj.out hb hj64 _).mono ?_
        rintro e w' ⟨rfl, rfl⟩
        go_wp2_with fail
        refine (leq_is Qma.out hm64 ha _).mono ?_
        rintro e w' ⟨rfl, rfl⟩
        go_wp2_with fail
        refine (leq_is Qmb.out hm64 hb _).mono ?_
        rintro e w' ⟨rfl, rfl⟩
        cases hac : leq a c with
        | false =>
          have Qac := Lib.hid hac
          clear hac
          go_wp2_with fail
          refine (leq_is Qac.out ha hc _).mono ?_
          rintro e w' ⟨rfl, rfl⟩
          cases hca : leq c a with
          | false =>
            have Qca := Lib.hid hca
            clear hca
            go_wp2_with fail
            refine (leq_is Qca.out hc ha _).mono ?_
            rintro e w' ⟨rfl, rfl⟩
            have e1 := Qj.out _ Qab.out
            have e2 := Qm.out _ Qab.out
            go_wp2_with fail
            refine (leq_is Qab.out ha hb _).mono ?_
            rintro e w' ⟨rfl, rfl⟩
            go_wp2_with fail
            refine (leq_is Qab.out ha hb _).mono ?_
            rintro e w' ⟨rfl, rfl⟩
            go_wp2
            go_ret
            exact ⟨rfl, HC.out⟩
          | true =>
            have Qca := Lib.hid hca
            clear hca
            go_wp2_with fail
            refine (leq_is Qca.out hc ha _).mono ?_
            rintro e w' ⟨rfl, rfl⟩
            have Qcb := Lib.hid (l_trans Qca.out Qab.out)
            go_wp2_with fail
            refine (leq_is Qcb.out hc hb _).mono ?_
            rintro e w' ⟨rfl, rfl⟩
            go_wp2_with fail
            refine (leq_is (Qcm.out Qca.out Qcb.out) hc hm64 _).mono ?_
            rintro e w' ⟨rfl, rfl⟩
            have e1 := Qj.out _ Qab.out
            have e2 := Qm.out _ Qab.out
            go_wp2_with fail
            refine (leq_is Qab.out ha hb _).mono ?_
            rintro e w' ⟨rfl, rfl⟩
            go_wp2_with fail
            refine (leq_is Qab.out ha hb _).mono ?_
            rintro e w' ⟨rfl, rfl⟩
            go_wp2
            go_ret
            exact ⟨rfl, HC.out⟩
        | true =>
          have Qac := Lib.hid hac
          clear hac
          go_wp2_with fail
          refine (leq_is Qac.out ha hc _).mono ?_
          rintro e w' ⟨rfl, rfl⟩
          go_wp2_with fail
          refine (leq_is Qbc.out hb hc _).mono ?_
          rintro e w' ⟨rfl, rfl⟩
          cases hca : leq c a with
          | false =>
            have Qca := Lib.hid hca
            clear hca
            go_wp2_with fail
            refine (leq_is Qca.out hc ha _).mono ?_
            rintro e w' ⟨rfl, rfl⟩
            have e1 := Qj.out _ Qab.out
            have e2 := Qm.out _ Qab.out
            go_wp2_with fail
            refine (leq_is Qab.out ha hb _).mono ?_
            rintro e w' ⟨rfl, rfl⟩
            go_wp2_with fail
            refine (leq_is Qab.out ha hb _).mono ?_
            rintro e w' ⟨rfl, rfl⟩
            go_wp2
            go_ret
            exact ⟨rfl, HC.out⟩
          | true =>
            have Qca := Lib.hid hca
            clear hca
            go_wp2_with fail
            refine (leq_is Qca.out hc ha _).mono ?_
            rintro e w' ⟨rfl, rfl⟩
            have Qcb := Lib.hid (l_trans Qca.out Qab.out)
            go_wp2_with fail
            refine (leq_is Qcb.out hc hb _).mono ?_
            rintro e w' ⟨rfl, rfl⟩
            go_wp2_with fail
            refine (leq_is (Qcm.out Qca.out Qcb.out) hc hm64 _).mono ?_
            rintro e w' ⟨rfl, rfl⟩
            have e1 := Qj.out _ Qab.out
            have e2 := Qm.out _ Qab.out
            go_wp2_with fail
            refine (leq_is Qab.out ha hb _).mono ?_
            rintro e w' ⟨rfl, rfl⟩
            go_wp2_with fail
            refine (leq_is Qab.out ha hb _).mono ?_
            rintro e w' ⟨rfl, rfl⟩
            go_wp2
            go_ret
            exact ⟨rfl, HC.out⟩
      | true =>
        have Qbc := Lib.hid hbc
        clear hbc
        go_wp2_with fail
        refine (leq_is Qbc.out hb hc _).mono ?_
        rintro e w' ⟨rfl, rfl⟩
        have Qac := Lib.hid (l_trans Qab.out Qbc.out)
        go_wp2_with fail
        refine (leq_is Qac.out ha hc _).mono ?_
        rintro e w' ⟨rfl, rfl⟩
        go_wp2_with fail
        refine (leq_is Qaj.out ha hj64 _).mono ?_
        rintro e w' ⟨rfl, rfl⟩
        go_wp2_with fail
        refine (leq_is Qbj.out hb hj64 _).mono ?_
        rintro e w' ⟨rfl, rfl⟩
        go_wp2_with fail
        refine (leq_is Qma.out hm64 ha _).mono ?_
        rintro e w' ⟨rfl, rfl⟩
        go_wp2_with fail
        refine (leq_is Qmb.out hm64 hb _).mono ?_
        rintro e w' ⟨rfl, rfl⟩
        go_wp2_with fail
        refine (leq_is Qac.out ha hc _).mono ?_
        rintro e w' ⟨rfl, rfl⟩
        go_wp2_with fail
        refine (leq_is Qbc.out hb hc _).mono ?_
        rintro e w' ⟨rfl, rfl⟩
        go_wp2_with fail
        refine (leq_is (Qjc.out Qac.out Qbc.out) hj64 hc _).mono ?_
        rintro e w' ⟨rfl, rfl⟩
        cases hca : leq c a with
        | false =>
          have Qca := Lib.hid hca
          clear hca
          go_wp2_with fail
          refine (leq_is Qca.out hc ha _).mono ?_
          rintro e w' ⟨rfl, rfl⟩
          have e1 := Qj.out _ Qab.out
          have e2 := Qm.out _ Qab.out
          go_wp2_with fail
          refine (leq_is Qab.out ha hb _).mono ?_
          rintro e w' ⟨rfl, rfl⟩
          go_wp2_with fail
          refine (leq_is Qab.out ha hb _).mono ?_
          rintro e w' ⟨rfl, rfl⟩
          go_wp2
          go_ret
          exact ⟨rfl, HC.out⟩
        | true =>
          have Qca := Lib.hid hca
          clear hca
          go_wp2_with fail
          refine (leq_is Qca.out hc ha _).mono ?_
          rintro e w' ⟨rfl, rfl⟩
          have Qcb := Lib.hid (l_trans Qca.out Qab.out)
          go_wp2_with fail
          refine (leq_is Qcb.out hc hb _).mono ?_
          rintro e w' ⟨rfl, rfl⟩
          go_wp2_with fail
          refine (leq_is (Qcm.out Qca.out Qcb.out) hc hm64 _).mono ?_
          rintro e w' ⟨rfl, rfl⟩
          have e1 := Qj.out _ Qab.out
          have e2 := Qm.out _ Qab.out
          go_wp2_with fail
          refine (leq_is Qab.out ha hb _).mono ?_
          rintro e w' ⟨rfl, rfl⟩
          go_wp2_with fail
          refine (leq_is Qab.out ha hb _).mono ?_
          rintro e w' ⟨rfl, rfl⟩
          go_wp2
          go_ret
          exact ⟨rfl, HC.out⟩
    | true =>
      have Qba := Lib.hid hba
      clear hba
      go_wp2_with fail
      refine (leq_is Qba.out hb ha _).mono ?_
      rintro e w' ⟨rfl, rfl⟩
      have hne : ((a : Int) != (b : Int)) = false := by rw [l_anti Qab.out Qba.out]; simp
      go_wp2_with fail
      refine (leq_is Qab.out ha hb _).mono ?_
      rintro e w' ⟨rfl, rfl⟩
      cases hbc : leq b c with
      | false =>
        have Qbc := Lib.hid hbc
        clear hbc
        go_wp2_with fail
        refine (leq_is Qbc.out hb hc _).mono ?_
        rintro e w' ⟨rfl, rfl⟩
        go_wp2_with fail
        refine (leq_is Qaj.out ha hj64 _).mono ?_
        rintro e w' ⟨rfl, rfl⟩
        go_wp2_with fail
        refine (leq_is Qbj.out hb hj64 _).mono ?_
        rintro e w' ⟨rfl, rfl⟩
        go_wp2_with fail
        refine (leq_is Qma.out hm64 ha _).mono ?_
        rintro e w' ⟨rfl, rfl⟩
        go_wp2_with fail
        refine (leq_is Qmb.out hm64 hb _).mono ?_
        rintro e w' ⟨rfl, rfl⟩
        cases hac : leq a c with
        | false =>
          have Qac := Lib.hid hac
          clear hac
          go_wp2_with fail
          refine (leq_is Qac.out ha hc _).mono ?_
          rintro e w' ⟨rfl, rfl⟩
          cases hca : leq c a with
          | false =>
            have Qca := Lib.hid hca
            clear hca
            go_wp2_with fail
            refine (leq_is Qca.out hc ha _).mono ?_
            rintro e w' ⟨rfl, rfl⟩
            have e1 := Qj.out _ Qab.out
            have e2 := Qm.out _ Qab.out
            go_wp2_with fail
            refine (leq_is Qab.out ha hb _).mono ?_
            rintro e w' ⟨rfl, rfl⟩
            go_wp2_with fail
            refine (leq_is Qab.out ha hb _).mono ?_
            rintro e w' ⟨rfl, rfl⟩
            go_wp2
            go_ret
            exact ⟨rfl, HC.out⟩
          | true =>
            have Qca := Lib.hid hca
            clear hca
            go_wp2_with fail
            refine (leq_is Qca.out hc ha _).mono ?_
            rintro e w' ⟨rfl, rfl⟩
            have Qcb := Lib.hid (l_trans Qca.out Qab.out)
            go_wp2_with fail
            refine (leq_is Qcb.out hc hb _).mono ?_
            rintro e w' ⟨rfl, rfl⟩
            go_wp2_with fail
            refine (leq_is (Qcm.out Qca.out Qcb.out) hc hm64 _).mono ?_
            rintro e w' ⟨rfl, rfl⟩
            have e1 := Qj.out _ Qab.out
            have e2 := Qm.out _ Qab.out
            go_wp2_with fail
            refine (leq_is Qab.out ha hb _).mono ?_
            rintro e w' ⟨rfl, rfl⟩
            go_wp2_with fail
            refine (leq_is Qab.out ha hb _).mono ?_
            rintro e w' ⟨rfl, rfl⟩
            go_wp2
            go_ret
            exact ⟨rfl, HC.out⟩
        | true =>
          have Qac := Lib.hid hac
          clear hac
          go_wp2_with fail
          refine (leq_is Qac.out ha hc _).mono ?_
          rintro e w' ⟨rfl, rfl⟩
          go_wp2_with fail
          refine (leq_is Qbc.out hb hc _).mono ?_
          rintro e w' ⟨rfl, rfl⟩
          cases hca : leq c a with
          | false =>
            have Qca := Lib.hid hca
            clear hca
            go_wp2_with fail
            refine (leq_is Qca.out hc ha _).mono ?_
            rintro e w' ⟨rfl, rfl⟩
            have e1 := Qj.out _ Qab.out
            have e2 := Qm.out _ Qab.out
            go_wp2_with fail
            refine (leq_is Qab.out ha hb _).mono ?_
            rintro e w' ⟨rfl, rfl⟩
            go_wp2_with fail
            refine (leq_is Qab.out ha hb _).mono ?_
            rintro e w' ⟨rfl, rfl⟩
            go_wp2
            go_ret
            exact ⟨rfl, HC.out⟩
          | true =>
            have Qca := Lib.hid hca
            clear hca
            go_wp2_with fail
            refine (leq_is Qca.out hc ha _).mono ?_
            rintro e w' ⟨rfl, rfl⟩
            have Qcb := Lib.hid (l_trans Qca.out Qab.out)
            go_wp2_with fail
            refine (leq_is Qcb.out hc hb _).mono ?_
            rintro e w' ⟨rfl, rfl⟩
            go_wp2_with fail
            refine (leq_is (Qcm.out Qca.out Qcb.out) hc hm64 _).mono ?_
            rintro e w' ⟨rfl, rfl⟩
            have e1 := Qj.out _ Qab.out
            have e2 := Qm.out _ Qab.out
            go_wp2_with fail
            refine (leq_is Qab.out ha hb _).mono ?_
            rintro e w' ⟨rfl, rfl⟩
            go_wp2_with fail
            refine (leq_is Qab.out ha hb _).mono ?_
            rintro e w' ⟨rfl, rfl⟩
            go_wp2
            go_ret
            exact ⟨rfl, HC.out⟩
      | true =>
        have Qbc := Lib.hid hbc
        clear hbc
        go_wp2_with fail
        refine (leq_is Qbc.out hb hc _).mono ?_
        rintro e w' ⟨rfl, rfl⟩
        have Qac := Lib.hid (l_trans Qab.out Qbc.out)
        go_wp2_with fail
        refine (leq_is Qac.out ha hc _).mono ?_
        rintro e w' ⟨rfl, rfl⟩
        go_wp2_with fail
        refine (leq_is Qaj.out ha hj64 _).mono ?_
        rintro e w' ⟨rfl, rfl⟩
        go_wp2_with fail
        refine (leq_is Qbj.out hb hj64 _).mono ?_
        rintro e w' ⟨rfl, rfl⟩
        go_wp2_with fail
        refine (leq_is Qma.out hm64 ha _).mono ?_
        rintro e w' ⟨rfl, rfl⟩
        go_wp2_with fail
        refine (leq_is Qmb.out hm64 hb _).mono ?_
        rintro e w' ⟨rfl, rfl⟩
        go_wp2_with fail
        refine (leq_is Qac.out ha hc _).mono ?_
        rintro e w' ⟨rfl, rfl⟩
        go_wp2_with fail
        refine (leq_is Qbc.out hb hc _).mono ?_
        rintro e w' ⟨rfl, rfl⟩
        go_wp2_with fail
        refine (leq_is (Qjc.out Qac.out Qbc.out) hj64 hc _).mono ?_
        rintro e w' ⟨rfl, rfl⟩
        cases hca : leq c a with
        | false =>
          have Qca := Lib.hid hca
          clear hca
          go_wp2_with fail
          refine (leq_is Qca.out hc ha _).mono ?_
          rintro e w' ⟨rfl, rfl⟩
          have e1 := Qj.out _ Qab.out
          have e2 := Qm.out _ Qab.out
          go_wp2_with fail
          refine (leq_is Qab.out ha hb _).mono ?_
          rintro e w' ⟨rfl, rfl⟩
          go_wp2_with fail
          refine (leq_is Qab.out ha hb _).mono ?_
          rintro e w' ⟨rfl, rfl⟩
          go_wp2
          go_ret
          exact ⟨rfl, HC.out⟩
        | true =>
          have Qca := Lib.hid hca
          clear hca
          go_wp2_with fail
          refine (leq_is Qca.out hc ha _).mono ?_
          rintro e w' ⟨rfl, rfl⟩
          have Qcb := Lib.hid (l_trans Qca.out Qab.out)
          go_wp2_with fail
          refine (leq_is Qcb.out hc hb _).mono ?_
          rintro e w' ⟨rfl, rfl⟩
          go_wp2_with fail
          refine (leq_is (Qcm.out Qca.out Qcb.out) hc hm64 _).mono ?_
          rintro e w' ⟨rfl, rfl⟩
          have e1 := Qj.out _ Qab.out
          have e2 := Qm.out _ Qab.out
          go_wp2_with fail
          refine (leq_is Qab.out ha hb _).mono ?_
          rintro e w' ⟨rfl, rfl⟩
          go_wp2_with fail
          refine (leq_is Qab.out ha hb _).mono ?_
          rintro e w' ⟨rfl, rfl⟩
          go_wp2
          go_ret
          exact ⟨rfl, HC.out⟩
theorem lattice_row (a b c : Int) (W : World) (w0 : (Lit.int .u64 a).wf = true) (w1 : (Lit.int .u64 b).wf = true) (w2 : (Lit.int .u64 c).wf = true) :
    Calls Try.prog 7 #[.int .u64 a, .int .u64 b, .int .u64 c] W fun e w' => e = .returned (.bool true) ∧ Below W.heap.size W w' := by
  obtain ⟨a0, a1⟩ := wf_u64 w0
  obtain ⟨b0, b1⟩ := wf_u64 w1
  obtain ⟨c0, c1⟩ := wf_u64 w2
  obtain ⟨x, rfl⟩ := Int.eq_ofNat_of_zero_le a0
  obtain ⟨y, rfl⟩ := Int.eq_ofNat_of_zero_le b0
  obtain ⟨z, rfl⟩ := Int.eq_ofNat_of_zero_le c0
  exact lattice_walk x y z (by omega) (by omega) (by omega) W
end Go.Proofs.Ytdfplhoijapoeaa.Lwl
