/- The reference's Check by its contract. Conditions: the list reads so. -/
import Derived.Test.YtchlolgfahgdeaaLck
set_option linter.unusedVariables false
set_option linter.unusedSimpArgs false
namespace Go.Proofs.Ytchlolgfahgdeaa.Lck
open Go.RowKit Go.Proofs.Ytchlolgfahgdeaa.Lib1 Go.Proofs.Ytchlolgfahgdeaa.Lbl Go.Proofs.Ytchlolgfahgdeaa.Lbw Go.Proofs.Ytchlolgfahgdeaa.Lat
section
variable (ls : List Nat) (A : Option Addr) (n c : Nat) (w : World) (ok : Nat → Prop)

theorem rjoin_c (a b : Nat) (w : World) (ha : a < 18446744073709551616) (hb : b < 18446744073709551616) :
    Calls Try.prog 71 #[.int .u64 a, .int .u64 b] w fun e w' => e = .returned (.int .u64 ((a ||| b : Nat) : Int)) ∧ Chg (fun _ => False) w w' :=
  (rjoin_any a b w ha hb).mono fun _ _ ⟨he, hw⟩ => ⟨he, Chg.of_below hw⟩
theorem rmeet_c (a b : Nat) (w : World) (ha : a < 18446744073709551616) (hb : b < 18446744073709551616) :
    Calls Try.prog 72 #[.int .u64 a, .int .u64 b] w fun e w' => e = .returned (.int .u64 ((a &&& b : Nat) : Int)) ∧ Chg (fun _ => False) w w' :=
  (rmeet_any a b w ha hb).mono fun _ _ ⟨he, hw⟩ => ⟨he, Chg.of_below hw⟩
set_option maxRecDepth 100000 in
set_option maxHeartbeats 3200000 in
theorem rcheck_any (h : Rd ok w A n c 1 (us ls)) (hok : ∀ k, ok k → k < w.heap.size) (hb : ∀ x ∈ ls, x < 18446744073709551616) (hn : n ≤ 9223372036854775807) :
    Calls Try.prog 64 #[.slice A n c] w fun e w' => e = .returned (.int .i64 (chk ls)) ∧ Chg (fun _ => False) w w' := by
  have HL : Hid (ls.length = n) := by have := h.len; rw [us_len] at this; show _ = _; omega
  by_cases h1 : n < 1
  · have HC : Hid (chk ls = 10) := chk_count (.inl (by have := HL.out; omega))
    clear h
    go_enter Try.func64, Try.ntmps64
    go_wp2
    go_ret
    exact ⟨ret_int HC.out.symm, Chg.refl _ _⟩
  by_cases h2 : 16 < n
  · have HC : Hid (chk ls = 10) := chk_count (.inr (by have := HL.out; omega))
    clear h
    go_enter Try.func64, Try.ntmps64
    go_wp2
    go_ret
    exact ⟨ret_int HC.out.symm, Chg.refl _ _⟩
  have HM : Hid (∀ w', Chg (fun _ => False) w w' → Rd ok w' A n c 1 (us ls)) := fun w' hc => h.move (fun k hk => hc.block k (hok k hk) (fun h => h))
  obtain ⟨b, off, rfl, hob, hc⟩ := rd_us h (by omega)
  have HB := Lib.hid (lt_mem hb)
  have HC : Hid (∀ w', Chg (fun _ => False) w w' → ∀ k, k < n → w'.cell? ⟨b, off + k, none⟩ = some (.int .u64 ((ls.getD k 0 : Nat) : Int))) := fun w' hcw k hk => (World.cell?_of_block (hcw.block b (hok b hob) (fun h => h)) (a := ⟨b, off + k, none⟩)).trans (hc k hk)
  have dn : decide ((n : Int) < 1) = false := by simp; omega
  clear h hc hb hob hok
  go_enter Try.func64, Try.ntmps64
  go_wp2
  go_loopw [3] (fun i wr => ∃ (m q : Nat), m + 1 ≤ n ∧ i = .int .i64 ((m : Int) + 1) ∧ wr = w.drewN q ∧ ∀ j, j < m → ls.getD j 0 < ls.getD (j + 1) 0) (fun i _ => n - (intOf i).toNat)
  case atStart => exact ⟨0, 0, by omega, rfl, rfl, fun j hj => absurd hj (by omega)⟩
  case round =>
    obtain ⟨m, q, hm, rfl, rfl, hall⟩ := hrel
    have HA := Lib.hid hall
    clear hall
    by_cases hlt : m + 1 < n
    · have c1 := HC.out _ (Chg.refl _ w) m (by omega)
      have c2 := HC.out _ (Chg.refl _ w) (m + 1) hlt
      obtain ⟨x, hx⟩ : ∃ x, x = ls.getD m 0 := ⟨_, rfl⟩
      obtain ⟨y, hy⟩ : ∃ y, y = ls.getD (m + 1) 0 := ⟨_, rfl⟩
      rw [← hx] at c1
      rw [← hy] at c2
      have i1 : (0 : Int) ≤ (m : Int) + 1 := by omega
      have i2 : (m : Int) + 1 < (n : Int) := by omega
      have i3 : ((m : Int) + 1).toNat = m + 1 := by omega
      have i4 : IntKind.i64.wrap ((m : Int) + 1 - 1) = (m : Int) := by rw [IntKind.wrap_i64]; omega
      have i5 : (m : Int) < (n : Int) := by omega
      by_cases hxy : x < y
      · have HX : Hid (ls.getD m 0 < ls.getD (m + 1) 0) := by show _ < _; rw [← hx, ← hy]; exact hxy
        clear hx hy
        have d1 : decide (y ≤ x) = false := by simpa using hxy
        have d2 : decide ((y : Int) ≤ (x : Int)) = false := by simpa using hxy
        go_wp2
        go_quiet (fail)
        go_wp2
        go_roundw
        case rel => exact ⟨m + 1, _, hlt, by go_num, rfl, fun j hj => by
          rcases Nat.lt_succ_iff_lt_or_eq.1 hj with hj | rfl
          · exact HA.out j hj
          · exact HX.out⟩
        case measure => simp [intOf]; omega
      · have HX : Hid (chk ls = 11) := by
          refine chk_rising (by have := HL.out; omega) (by have := HL.out; omega) (fun hr => hxy ?_)
          rw [hx, hy]; exact hr m (by have := HL.out; omega)
        clear hx hy
        have d1 : decide (y ≤ x) = true := by simpa using hxy
        have d2 : decide ((y : Int) ≤ (x : Int)) = true := by simpa using hxy
        go_wp2
        go_quiet (fail)
        go_wp2
        go_ret
        exact ⟨ret_int HX.out.symm, ((Chg.refl _ w).drewN _).drewN _⟩
    · have HRI : Hid (Rising ls) := fun i hi => HA.out i (by have := HL.out; omega)
      clear HA
      go_wp2
      go_loopw [4] (fun i wr => ∃ (k : Nat), k ≤ n ∧ i = .int .i64 k ∧ Chg (fun _ => False) w wr ∧ ∀ i, i < k → ∀ j, j < n → Pairs ls i j) (fun i _ => n - (intOf i).toNat)
      case atStart => exact ⟨0, by omega, rfl, (Chg.refl _ w).drewN _, fun j hj => absurd hj (by omega)⟩
      case round =>
        obtain ⟨k, hk, rfl, hcw, hall⟩ := hrel
        have HA := Lib.hid hall
        have HW := Lib.hid hcw
        clear hall hcw
        by_cases hlk : k < n
        · obtain ⟨x, hx⟩ : ∃ x, x = ls.getD k 0 := ⟨_, rfl⟩
          have hxb := HB.out k
          rw [← hx] at hxb
          have HX := Lib.hid hx
          clear hx
          go_wp2
          go_loopw [5] (fun i wr => ∃ j : Nat, j ≤ n ∧ i = .int .i64 j ∧ Chg (fun _ => False) w wr ∧ ∀ i, i < j → Pairs ls k i) (fun i _ => n - (intOf i).toNat)
          case atStart => exact ⟨0, by omega, rfl, HW.out, fun j hj => absurd hj (by omega)⟩
          case round =>
            obtain ⟨j, hj, rfl, hcw, hall⟩ := hrel
            have HJ := Lib.hid hall
            have HV := Lib.hid hcw
            by_cases hjk : j < n
            · obtain ⟨y, hy⟩ : ∃ y, y = ls.getD j 0 := ⟨_, rfl⟩
              have hyb := HB.out j
              rw [← hy] at hyb
              have HY := Lib.hid hy
              have HS : Hid (∀ w', Chg (fun _ => False) w w' → w'.cell? ⟨b, off + k, none⟩ = some (.int .u64 (x : Int)) ∧ w'.cell? ⟨b, off + j, none⟩ = some (.int .u64 (y : Int)) ∧ Chg (fun _ => False) w w') :=
                fun w' hc => ⟨by rw [HX.out]; exact HC.out w' hc k hlk, by rw [HY.out]; exact HC.out w' hc j hjk, hc⟩
              clear hy hall hcw
              have i1 : (k : Int) < (n : Int) := by omega
              have i2 : (j : Int) < (n : Int) := by omega
              have i3 : (0 : Int) ≤ (k : Int) := by omega
              have i4 : (0 : Int) ≤ (j : Int) := by omega
              have q0 := fun p => cell_later (HS.out _ HV.out).1 p
              have q1 := fun p => cell_later (HS.out _ HV.out).2.1 p
              by_cases hor : (x ||| y) ∈ ls
              · have HO := Lib.hid hor
                clear hor
                have HPl : Hid (∀ w', Chg (fun _ => False) w w' → Calls Try.prog 70 #[.slice (some ⟨b, off, none⟩) n c, .int .u64 ((x ||| y : Nat) : Int)] w' fun e w1 => e = .returned (.int .i64 (ls.idxOf (x ||| y) : Int)) ∧ w' = w1) :=
                  fun w' hc => (rplace_any ls (x ||| y) _ n c w' ok (HM.out w' hc) hn).mono fun _ _ ⟨he, hw⟩ => ⟨he.trans (ret_int (by unfold place; rw [if_pos HO.out])), hw⟩
                have p1 : decide ((ls.idxOf (x ||| y) : Int) < 0) = false := by simp
                by_cases han : (x &&& y) ∈ ls
                · have HN := Lib.hid han
                  clear han
                  have HPm : Hid (∀ w', Chg (fun _ => False) w w' → Calls Try.prog 70 #[.slice (some ⟨b, off, none⟩) n c, .int .u64 ((x &&& y : Nat) : Int)] w' fun e w1 => e = .returned (.int .i64 (ls.idxOf (x &&& y) : Int)) ∧ w' = w1) :=
                    fun w' hc => (rplace_any ls (x &&& y) _ n c w' ok (HM.out w' hc) hn).mono fun _ _ ⟨he, hw⟩ => ⟨he.trans (ret_int (by unfold place; rw [if_pos HN.out])), hw⟩
                  have p2 : decide ((ls.idxOf (x &&& y) : Int) < 0) = false := by simp
                  go_wp2_with fail
                  refine wp_region_later (by kernel_rfl) (by kernel_rfl) ?_
                  repeat (any_goals (first | go_big_quiet_step (first | (go_at_call 71; with_reducible exact of_later (rjoin_c x y _ hxb hyb)) | (go_at_call 72; with_reducible exact of_later (rmeet_c x y _ hxb hyb)) | (go_at_call 70; with_reducible exact of_same (HPl.out _ (HV.out.trans (Later.chg _) (fun _ _ h => h)))) | (go_at_call 70; with_reducible exact of_same (HPm.out _ (HV.out.trans (Later.chg _) (fun _ _ h => h))))) | quiet_step (first | (go_at_call 71; with_reducible exact of_later (rjoin_c x y _ hxb hyb)) | (go_at_call 72; with_reducible exact of_later (rmeet_c x y _ hxb hyb)) | (go_at_call 70; with_reducible exact of_same (HPl.out _ (HV.out.trans (Later.chg _) (fun _ _ h => h)))) | (go_at_call 70; with_reducible exact of_same (HPm.out _ (HV.out.trans (Later.chg _) (fun _ _ h => h)))))))
                  refine wpQuiet_nil ?_
                  intro _ hw'
                  obtain ⟨⟨w9, hc9⟩, hw''⟩ := hw'
                  subst hw''
                  go_wp2
                  go_roundw
                  case rel => exact ⟨j + 1, hjk, by go_num, HV.out.trans hc9 (fun _ _ h => h), fun i hi => by
                    rcases Nat.lt_succ_iff_lt_or_eq.1 hi with hi | rfl
                    · exact HJ.out i hi
                    · unfold Pairs; rw [← HX.out, ← HY.out]; exact ⟨HO.out, HN.out⟩⟩
                  case measure => simp [intOf]; omega
                · have HN := Lib.hid han
                  clear han
                  have HF : Hid (chk ls = 12) := chk_closed (by have := HL.out; omega) (by have := HL.out; omega) HRI.out (fun hcl => HN.out (by
                    have := (hcl k j (by have := HL.out; omega) (by have := HL.out; omega)).2
                    rw [← HX.out, ← HY.out] at this; exact this))
                  have HPm : Hid (∀ w', Chg (fun _ => False) w w' → Calls Try.prog 70 #[.slice (some ⟨b, off, none⟩) n c, .int .u64 ((x &&& y : Nat) : Int)] w' fun e w1 => e = .returned (.int .i64 (-1)) ∧ w' = w1) :=
                    fun w' hc => (rplace_any ls (x &&& y) _ n c w' ok (HM.out w' hc) hn).mono fun _ _ ⟨he, hw⟩ => ⟨he.trans (ret_int (by unfold place; rw [if_neg HN.out])), hw⟩
                  go_wp2_with fail
                  refine wp_region_later (by kernel_rfl) (by kernel_rfl) ?_
                  repeat (any_goals (first | go_big_quiet_step (first | (go_at_call 71; with_reducible exact of_later (rjoin_c x y _ hxb hyb)) | (go_at_call 72; with_reducible exact of_later (rmeet_c x y _ hxb hyb)) | (go_at_call 70; with_reducible exact of_same (HPl.out _ (HV.out.trans (Later.chg _) (fun _ _ h => h)))) | (go_at_call 70; with_reducible exact of_same (HPm.out _ (HV.out.trans (Later.chg _) (fun _ _ h => h))))) | quiet_step (first | (go_at_call 71; with_reducible exact of_later (rjoin_c x y _ hxb hyb)) | (go_at_call 72; with_reducible exact of_later (rmeet_c x y _ hxb hyb)) | (go_at_call 70; with_reducible exact of_same (HPl.out _ (HV.out.trans (Later.chg _) (fun _ _ h => h)))) | (go_at_call 70; with_reducible exact of_same (HPm.out _ (HV.out.trans (Later.chg _) (fun _ _ h => h)))))))
                  refine wpQuiet_nil ?_
                  intro _ hw'
                  obtain ⟨⟨w9, hc9⟩, hw''⟩ := hw'
                  subst hw''
                  go_wp2
                  go_ret
                  exact ⟨ret_int HF.out.symm, HV.out.trans hc9 (fun _ _ h => h)⟩
              · have HO := Lib.hid hor
                clear hor
                have HF : Hid (chk ls = 12) := chk_closed (by have := HL.out; omega) (by have := HL.out; omega) HRI.out (fun hcl => HO.out (by
                  have := (hcl k j (by have := HL.out; omega) (by have := HL.out; omega)).1
                  rw [← HX.out, ← HY.out] at this; exact this))
                have HPl : Hid (∀ w', Chg (fun _ => False) w w' → Calls Try.prog 70 #[.slice (some ⟨b, off, none⟩) n c, .int .u64 ((x ||| y : Nat) : Int)] w' fun e w1 => e = .returned (.int .i64 (-1)) ∧ w' = w1) :=
                  fun w' hc => (rplace_any ls (x ||| y) _ n c w' ok (HM.out w' hc) hn).mono fun _ _ ⟨he, hw⟩ => ⟨he.trans (ret_int (by unfold place; rw [if_neg HO.out])), hw⟩
                go_wp2_with fail
                refine wp_region_later (by kernel_rfl) (by kernel_rfl) ?_
                repeat (any_goals (first | go_big_quiet_step (first | (go_at_call 71; with_reducible exact of_later (rjoin_c x y _ hxb hyb)) | (go_at_call 72; with_reducible exact of_later (rmeet_c x y _ hxb hyb)) | (go_at_call 70; with_reducible exact of_same (HPl.out _ (HV.out.trans (Later.chg _) (fun _ _ h => h))))) | quiet_step (first | (go_at_call 71; with_reducible exact of_later (rjoin_c x y _ hxb hyb)) | (go_at_call 72; with_reducible exact of_later (rmeet_c x y _ hxb hyb)) | (go_at_call 70; with_reducible exact of_same (HPl.out _ (HV.out.trans (Later.chg _) (fun _ _ h => h)))))))
                refine wpQuiet_nil ?_
                intro _ hw'
                obtain ⟨⟨w9, hc9⟩, hw''⟩ := hw'
                subst hw''
                go_wp2
                go_ret
                exact ⟨ret_int HF.out.symm, HV.out.trans hc9 (fun _ _ h => h)⟩
            · obtain rfl : j = n := by omega
              have HV' := Lib.hid hcw
              clear hcw hall
              go_wp2
              go_roundw
              case rel => exact ⟨k + 1, hlk, by go_num, HV'.out, fun i hi j' hj' => by
                rcases Nat.lt_succ_iff_lt_or_eq.1 hi with hi | rfl
                · exact HA.out i hi j' hj'
                · exact HJ.out j' hj'⟩
              case measure => simp [intOf]; omega
        · have HF : Hid (chk ls = 0) := chk_ok (by have := HL.out; omega) (by have := HL.out; omega) HRI.out (closed_of (fun i hi j hj => HA.out i (by have := HL.out; omega) j (by have := HL.out; omega)))
          go_wp2
          go_ret
          exact ⟨ret_int HF.out.symm, HW.out⟩
end
end Go.Proofs.Ytchlolgfahgdeaa.Lck
