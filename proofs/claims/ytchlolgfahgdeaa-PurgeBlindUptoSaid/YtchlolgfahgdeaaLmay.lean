/- May of a config, the program's and the reference's, by their contracts. Conditions: the config reads so. -/
import Derived.Test.YtchlolgfahgdeaaLrck
import Derived.Test.YtchlolgfahgdeaaRel
set_option linter.unusedVariables false
set_option linter.unusedSimpArgs false
namespace Go.Proofs.Ytchlolgfahgdeaa.Lmay
open Go.RowKit Go.Proofs.Ytchlolgfahgdeaa.Lib1 Go.Proofs.Ytchlolgfahgdeaa.Lbl Go.Proofs.Ytchlolgfahgdeaa.Lbw Go.Proofs.Ytchlolgfahgdeaa.Lat Go.Proofs.Ytchlolgfahgdeaa.Lck Go.Proofs.Ytchlolgfahgdeaa.Rel

def acs (l : List Acc) : List Value := l.flatMap fun a => [.int .i64 a.quota, .int .i64 a.opn, .int .i64 a.queue, .int .i64 a.window, .int .i64 a.start]
def is (l : List Int) : List Value := l.map fun (x : Int) => Value.int .i64 x
theorem is_len (l : List Int) : (is l).length = l.length := by simp [is]
theorem is_get {l : List Int} {k : Nat} (h : k < l.length) : (is l)[k]? = some (.int .i64 (l.getD k 0)) := by
  simp [is, List.getD_eq_getElem?_getD, List.getElem?_eq_getElem h]
def Acc.zero : Acc := ⟨0, 0, 0, 0, 0⟩
theorem acs_len : ∀ (l : List Acc), (acs l).length = l.length * 5
  | [] => rfl
  | a :: l => by
    have := acs_len l
    simp only [acs, List.flatMap_cons, List.length_append] at this ⊢
    simp only [List.length_cons, List.length_nil]
    omega
theorem acs_cons (a : Acc) (l : List Acc) : acs (a :: l) = [.int .i64 a.quota, .int .i64 a.opn, .int .i64 a.queue, .int .i64 a.window, .int .i64 a.start] ++ acs l := rfl
theorem acs_append (l m : List Acc) : acs (l ++ m) = acs l ++ acs m := List.flatMap_append
theorem acs_get : ∀ {l : List Acc} {k : Nat}, k < l.length → ∀ (j : Nat) (u : Value), [Value.int .i64 (l.getD k Acc.zero).quota, .int .i64 (l.getD k Acc.zero).opn, .int .i64 (l.getD k Acc.zero).queue, .int .i64 (l.getD k Acc.zero).window, .int .i64 (l.getD k Acc.zero).start][j]? = some u → (acs l)[k * 5 + j]? = some u
  | a :: l, 0, _, j, u, h => by
    have hj : j < 5 := (List.getElem?_eq_some_iff.1 h).1
    rw [acs_cons, List.getElem?_append_left (by simpa using hj), Nat.zero_mul, Nat.zero_add]
    exact h
  | a :: l, k + 1, hk, j, u, h => by
    rw [acs_cons, List.getElem?_append_right (by simp; omega)]
    rw [show (k + 1) * 5 + j - [Value.int .i64 a.quota, .int .i64 a.opn, .int .i64 a.queue, .int .i64 a.window, .int .i64 a.start].length = k * 5 + j by simp; omega]
    exact acs_get (by simpa using hk) j u (by simpa using h)
theorem rd_acs {ok : Nat → Prop} {w : World} {A : Option Addr} {n c : Nat} {l : List Acc} (h : Rd ok w A n c 5 (acs l)) (hn : 0 < n) :
    ∃ b off, A = some ⟨b, off, none⟩ ∧ ok b ∧ ∀ k, k < n → w.cell? ⟨b, off + k * 5, none⟩ = some (.int .i64 (l.getD k Acc.zero).quota) ∧ w.cell? ⟨b, off + k * 5 + 1, none⟩ = some (.int .i64 (l.getD k Acc.zero).opn) ∧
      w.cell? ⟨b, off + k * 5 + 2, none⟩ = some (.int .i64 (l.getD k Acc.zero).queue) ∧ w.cell? ⟨b, off + k * 5 + 3, none⟩ = some (.int .i64 (l.getD k Acc.zero).window) ∧ w.cell? ⟨b, off + k * 5 + 4, none⟩ = some (.int .i64 (l.getD k Acc.zero).start) := by
  obtain ⟨b, off, e, hb, hc⟩ := h.at_ hn
  have hl : l.length = n := by have := h.len; rw [acs_len] at this; omega
  refine ⟨b, off, e, hb, fun k hk => ?_⟩
  have g := acs_get (l := l) (k := k) (by omega)
  exact ⟨hc _ _ (g 0 _ rfl), hc _ _ (g 1 _ rfl), hc _ _ (g 2 _ rfl), hc _ _ (g 3 _ rfl), hc _ _ (g 4 _ rfl)⟩
theorem rd_is {ok : Nat → Prop} {w : World} {A : Option Addr} {n c : Nat} {l : List Int} (h : Rd ok w A n c 1 (is l)) (hn : 0 < n) :
    ∃ b off, A = some ⟨b, off, none⟩ ∧ ok b ∧ ∀ k, k < n → w.cell? ⟨b, off + k, none⟩ = some (.int .i64 (l.getD k 0)) := by
  obtain ⟨b, off, e, hb, hc⟩ := h.at_ hn
  have hl : l.length = n := by have := h.len; rw [is_len] at this; omega
  exact ⟨b, off, e, hb, fun k hk => hc k _ (is_get (by omega))⟩

/-- The value of a config, and that it reads as c. -/
structure CfgAt (ok : Nat → Prop) (w : World) (A1 A2 A3 : Option Addr) (n1 n2 n3 c1 c2 c3 : Nat) (c : Cfg) : Prop where
  l1 : c.labels.length = n1
  l2 : c.accounts.length = n2
  l3 : c.sessions.length = n3
  r1 : Rd ok w A1 n1 c1 1 (us c.labels)
  r2 : Rd ok w A2 n2 c2 5 (acs c.accounts)
  r3 : Rd ok w A3 n3 c3 1 (is c.sessions)
  big : ∀ x ∈ c.labels, x < 18446744073709551616
  m1 : n1 ≤ 9223372036854775807
  m2 : n2 ≤ 9223372036854775807
  m3 : n3 ≤ 9223372036854775807
theorem CfgAt.move {ok : Nat → Prop} {w w1 : World} {A1 A2 A3 : Option Addr} {n1 n2 n3 c1 c2 c3 : Nat} {c : Cfg} (h : CfgAt ok w A1 A2 A3 n1 n2 n3 c1 c2 c3 c) (hm : ∀ k, ok k → w1.heap[k]? = w.heap[k]?) : CfgAt ok w1 A1 A2 A3 n1 n2 n3 c1 c2 c3 c :=
  ⟨h.l1, h.l2, h.l3, h.r1.move hm, h.r2.move hm, h.r3.move hm, h.big, h.m1, h.m2, h.m3⟩
theorem CfgAt.mono {ok ok' : Nat → Prop} {w : World} {A1 A2 A3 : Option Addr} {n1 n2 n3 c1 c2 c3 : Nat} {c : Cfg} (h : CfgAt ok w A1 A2 A3 n1 n2 n3 c1 c2 c3 c) (hm : ∀ k, ok k → ok' k) : CfgAt ok' w A1 A2 A3 n1 n2 n3 c1 c2 c3 c :=
  ⟨h.l1, h.l2, h.l3, h.r1.mono hm, h.r2.mono hm, h.r3.mono hm, h.big, h.m1, h.m2, h.m3⟩

theorem may_chk {c : Cfg} (h : chk c.labels ≠ 0) : mayB c = false := by unfold mayB; simp [h]
theorem may_len {c : Cfg} (h : c.accounts.length ≠ c.labels.length) : mayB c = false := by unfold mayB; simp [h]
theorem may_ses {c : Cfg} (h : 32 < c.sessions.length) : mayB c = false := by unfold mayB; simp [show ¬ c.sessions.length ≤ 32 by omega]
theorem may_acc {c : Cfg} {k : Nat} (hk : k < c.accounts.length) (h : (c.accounts.getD k Acc.zero).ok = false) : mayB c = false := by
  have : c.accounts.all Acc.ok = false := by
    rw [List.all_eq_false]
    exact ⟨c.accounts[k], List.getElem_mem hk, by rw [List.getD_eq_getElem?_getD, List.getElem?_eq_getElem hk] at h; simpa using h⟩
  unfold mayB; rw [this]; simp
theorem may_one {c : Cfg} {k : Nat} (hk : k < c.sessions.length) (h : inR (c.sessions.getD k 0) ((c.labels.length : Int) - 1) = false) : mayB c = false := by
  have : (c.sessions.all fun s => inR s ((c.labels.length : Int) - 1)) = false := by
    rw [List.all_eq_false]
    exact ⟨c.sessions[k], List.getElem_mem hk, by rw [List.getD_eq_getElem?_getD, List.getElem?_eq_getElem hk] at h; simpa using h⟩
  unfold mayB; rw [this]; simp
theorem may_yes {c : Cfg} (h1 : chk c.labels = 0) (h2 : c.accounts.length = c.labels.length) (h3 : ¬ 32 < c.sessions.length) (h4 : ∀ k, k < c.accounts.length → (c.accounts.getD k Acc.zero).ok = true) (h5 : ∀ k, k < c.sessions.length → inR (c.sessions.getD k 0) ((c.labels.length : Int) - 1) = true) : mayB c = true := by
  have e4 : c.accounts.all Acc.ok = true := by
    rw [List.all_eq_true]
    intro a ha
    obtain ⟨k, hk, rfl⟩ := List.mem_iff_getElem.1 ha
    have := h4 k hk
    rwa [List.getD_eq_getElem?_getD, List.getElem?_eq_getElem hk] at this
  have e5 : (c.sessions.all fun s => inR s ((c.labels.length : Int) - 1)) = true := by
    rw [List.all_eq_true]
    intro a ha
    obtain ⟨k, hk, rfl⟩ := List.mem_iff_getElem.1 ha
    have := h5 k hk
    rwa [List.getD_eq_getElem?_getD, List.getElem?_eq_getElem hk] at this
  unfold mayB; rw [e4, e5]; simp [h1, h2]; omega
theorem inR_lo {n most : Int} (h : ¬ 0 ≤ n) : inR n most = false := by unfold inR; simp [h]
theorem inR_hi {n most : Int} (h0 : 0 ≤ n) : inR n most = decide (n ≤ most) := by unfold inR; simp [h0]

theorem within_any (n most : Int) (w : World) : Calls Try.prog 57 #[.int .i64 n, .int .i64 most] w fun e w' => e = .returned (.bool (inR n most)) ∧ w = w' := by
  by_cases h0 : 0 ≤ n
  · have HI := Lib.hid (inR_hi (most := most) h0)
    go_enter Try.func57, Try.ntmps57
    go_wp2
    go_ret
    exact ⟨ret_bool HI.out.symm, rfl⟩
  · have HI := Lib.hid (inR_lo (most := most) h0)
    have hd : decide (0 ≤ n) = false := by simp; omega
    go_enter Try.func57, Try.ntmps57
    go_wp2
    go_ret
    exact ⟨ret_bool HI.out.symm, rfl⟩

theorem rwithin_any (n most : Int) (w : World) : Calls Try.prog 65 #[.int .i64 n, .int .i64 most] w fun e w' => e = .returned (.bool (inR n most)) ∧ w = w' := by
  by_cases h0 : 0 ≤ n
  · have HI := Lib.hid (inR_hi (most := most) h0)
    go_enter Try.func65, Try.ntmps65
    go_wp2
    go_ret
    exact ⟨ret_bool HI.out.symm, rfl⟩
  · have HI := Lib.hid (inR_lo (most := most) h0)
    have hd : decide (0 ≤ n) = false := by simp; omega
    go_enter Try.func65, Try.ntmps65
    go_wp2
    go_ret
    exact ⟨ret_bool HI.out.symm, rfl⟩

theorem lt_cell {w : World} {b i : Nat} {v : Value} (h : w.cell? ⟨b, i, none⟩ = some v) : b < w.heap.size := World.block_lt_of_cell? w _ h

set_option maxRecDepth 100000 in
set_option maxHeartbeats 3200000 in
theorem may_any {ok : Nat → Prop} {w : World} {A1 A2 A3 : Option Addr} {n1 n2 n3 c1 c2 c3 : Nat} {c : Cfg} (h : CfgAt ok w A1 A2 A3 n1 n2 n3 c1 c2 c3 c) (hok : ∀ k, ok k → k < w.heap.size) :
    Calls Try.prog 35 #[.agg #[.slice A1 n1 c1, .slice A2 n2 c2, .slice A3 n3 c3]] w fun e w' => e = .returned (.bool (mayB c)) ∧ Chg (fun _ => False) w w' := by
  have HH : Hid (∀ w', Chg (fun _ => False) w w' → CfgAt ok w' A1 A2 A3 n1 n2 n3 c1 c2 c3 c) := fun w' hc => h.move (fun k hk => hc.block k (hok k hk) (fun h => h))
  have m1 := h.m1
  have m2 := h.m2
  have m3 := h.m3
  have L1 := Lib.hid h.l1
  have L2 := Lib.hid h.l2
  have L3 := Lib.hid h.l3
  have HK : Hid (∀ w', Chg (fun _ => False) w w' → Calls Try.prog 56 #[.slice A1 n1 c1] w' fun e w1 => e = .returned (.int .i64 (chk c.labels)) ∧ Chg (fun _ => False) w' w1) :=
    fun w' hc => (check_any c.labels A1 n1 c1 w' ok (HH.out w' hc).r1 (HH.out w' hc).big m1).mono fun _ _ ⟨he, q, hq⟩ => ⟨he, by rw [hq]; exact (Chg.refl _ _).drewN q⟩
  clear h hok
  have hb0 := Chg.alloc (Chg.refl (fun _ => False) w) (.cells #[.slice A1 n1 c1, .slice A2 n2 c2, .slice A3 n3 c3] 27)
  by_cases h1 : chk c.labels = 0
  rotate_left
  · have H1 : Hid (mayB c = false) := may_chk h1
    obtain ⟨v, hv⟩ : ∃ v, v = chk c.labels := ⟨_, rfl⟩
    rw [← hv] at h1 HK
    have e1 : (v == 0) = false := by rw [beq_eq_false_iff_ne]; exact h1
    have e2 : (v != 0) = true := by rw [bne_iff_ne]; exact h1
    clear hv h1
    go_enter Try.func35, Try.ntmps35
    go_wp2_with fail
    refine (HK.out _ hb0).mono ?_
    rintro e w1 ⟨rfl, hc1⟩
    go_wp2
    go_ret
    exact ⟨ret_bool H1.out.symm, hb0.trans hc1 (fun _ _ h => h)⟩
  have H1 := Lib.hid h1
  rw [h1] at HK
  clear h1
  by_cases h2 : n2 = n1
  rotate_left
  · have H2 : Hid (mayB c = false) := may_len (by have := L1.out; have := L2.out; omega)
    have e1 : ((n2 : Int) == (n1 : Int)) = false := by rw [beq_eq_false_iff_ne]; omega
    have e2 : (n2 == n1) = false := by rw [beq_eq_false_iff_ne]; omega
    have e3 : ((n2 : Int) != (n1 : Int)) = true := by rw [bne_iff_ne]; omega
    have e4 : (n2 != n1) = true := by rw [bne_iff_ne]; omega
    go_enter Try.func35, Try.ntmps35
    go_wp2_with fail
    refine (HK.out _ hb0).mono ?_
    rintro e w1 ⟨rfl, hc1⟩
    have b1 := hc1.at_ (heap_new w _) (fun h => h)
    have k0 := cell_at b1 0 rfl
    have k1 := cell_at b1 1 rfl
    have k2 := cell_at b1 2 rfl
    clear b1
    go_wp2
    go_ret
    exact ⟨ret_bool H2.out.symm, hb0.trans hc1 (fun _ _ h => h)⟩
  subst h2
  by_cases h3 : 32 < n3
  · have H3 : Hid (mayB c = false) := may_ses (by have := L3.out; omega)
    go_enter Try.func35, Try.ntmps35
    go_wp2_with fail
    refine (HK.out _ hb0).mono ?_
    rintro e w1 ⟨rfl, hc1⟩
    have b1 := hc1.at_ (heap_new w _) (fun h => h)
    have k0 := cell_at b1 0 rfl
    have k1 := cell_at b1 1 rfl
    have k2 := cell_at b1 2 rfl
    clear b1
    go_wp2
    go_ret
    exact ⟨ret_bool H3.out.symm, hb0.trans hc1 (fun _ _ h => h)⟩
  have d3 : decide ((32 : Int) < (n3 : Int)) = false := by simp; omega
  have d4 : decide (32 < n3) = false := by simp; omega
  have HB0 := Lib.hid hb0
  clear hb0
  go_enter Try.func35, Try.ntmps35
  go_wp2_with fail
  refine (HK.out _ HB0.out).mono ?_
  rintro e w1 ⟨rfl, hc1⟩
  have b1 := hc1.at_ (heap_new w _) (fun h => h)
  have k0 := cell_at b1 0 rfl
  have k1 := cell_at b1 1 rfl
  have k2 := cell_at b1 2 rfl
  have HC1 := Lib.hid (HB0.out.trans hc1 (fun _ _ h => h))
  have HK0 := Lib.hid k0
  have HK1 := Lib.hid k1
  have HK2 := Lib.hid k2
  clear b1 hc1
  go_wp2
  clear k0 k1 k2
  go_loopw [29] (fun i wr => ∃ k : Nat, k ≤ n2 ∧ i = .int .i64 k ∧ Chg (fun _ => False) w1 wr ∧ ∀ j, j < k → (c.accounts.getD j Acc.zero).ok = true) (fun i _ => n2 - (intOf i).toNat)
  case atStart => exact ⟨0, by omega, rfl, Chg.refl _ _, fun j hj => absurd hj (by omega)⟩
  case round =>
    rename_i wr
    obtain ⟨k, hk, rfl, hcw, hall⟩ := hrel
    have k0 := (World.cell?_of_block (hcw.block w.heap.size (lt_cell HK0.out) (fun h => h)) (a := ⟨w.heap.size, 0, none⟩)).trans HK0.out
    have k1 := (World.cell?_of_block (hcw.block w.heap.size (lt_cell HK0.out) (fun h => h)) (a := ⟨w.heap.size, 1, none⟩)).trans HK1.out
    have k2 := (World.cell?_of_block (hcw.block w.heap.size (lt_cell HK0.out) (fun h => h)) (a := ⟨w.heap.size, 2, none⟩)).trans HK2.out
    have HA := Lib.hid hall
    have HW := Lib.hid (HC1.out.trans hcw (fun _ _ h => h))
    have HCW := Lib.hid hcw
    clear hall hcw
    by_cases hlt : k < n2
    · obtain ⟨b, off, rfl, hob, hc⟩ := rd_acs (HH.out _ HW.out).r2 (by omega)
      obtain ⟨f0, f1, f2, f3, f4⟩ := hc k hlt
      clear hc hob
      have i1 : (k : Int) < (n2 : Int) := by omega
      have HNo : Hid ((c.accounts.getD k Acc.zero).ok = false → mayB c = false) := fun hn => may_acc (k := k) (by have := L2.out; omega) hn
      have HOk : Hid ((c.accounts.getD k Acc.zero).ok = (inR (c.accounts.getD k Acc.zero).quota 1048576 && (inR (c.accounts.getD k Acc.zero).opn 32 && (inR (c.accounts.getD k Acc.zero).queue 64 && (inR (c.accounts.getD k Acc.zero).window 1048576 && inR (c.accounts.getD k Acc.zero).start 4611686018427387904))))) := rfl
      generalize hae : c.accounts.getD k Acc.zero = a at f0 f1 f2 f3 f4 HNo HOk
      have HAe := Lib.hid hae
      clear hae
      cases t0 : inR a.quota 1048576 with
      | false =>
        have HF : Hid (mayB c = false) := HNo.out (by rw [HOk.out, t0]; simp)
        go_wp2_with fail
        refine (within_any _ _ _).mono ?_
        rintro e wz ⟨rfl, rfl⟩
        go_wp2
        go_ret
        exact ⟨ret_bool HF.out.symm, HW.out.alloc _⟩
      | true =>
        cases t1 : inR a.opn 32 with
        | false =>
          have HF : Hid (mayB c = false) := HNo.out (by rw [HOk.out, t0, t1]; simp)
          go_wp2_with fail
          refine (within_any _ _ _).mono ?_
          rintro e wz ⟨rfl, rfl⟩
          go_wp2_with fail
          refine (within_any _ _ _).mono ?_
          rintro e wz ⟨rfl, rfl⟩
          go_wp2
          go_ret
          exact ⟨ret_bool HF.out.symm, HW.out.alloc _⟩
        | true =>
          cases t2 : inR a.queue 64 with
          | false =>
            have HF : Hid (mayB c = false) := HNo.out (by rw [HOk.out, t0, t1, t2]; simp)
            go_wp2_with fail
            refine (within_any _ _ _).mono ?_
            rintro e wz ⟨rfl, rfl⟩
            go_wp2_with fail
            refine (within_any _ _ _).mono ?_
            rintro e wz ⟨rfl, rfl⟩
            go_wp2_with fail
            refine (within_any _ _ _).mono ?_
            rintro e wz ⟨rfl, rfl⟩
            go_wp2
            go_ret
            exact ⟨ret_bool HF.out.symm, HW.out.alloc _⟩
          | true =>
            cases t3 : inR a.window 1048576 with
            | false =>
              have HF : Hid (mayB c = false) := HNo.out (by rw [HOk.out, t0, t1, t2, t3]; simp)
              go_wp2_with fail
              refine (within_any _ _ _).mono ?_
              rintro e wz ⟨rfl, rfl⟩
              go_wp2_with fail
              refine (within_any _ _ _).mono ?_
              rintro e wz ⟨rfl, rfl⟩
              go_wp2_with fail
              refine (within_any _ _ _).mono ?_
              rintro e wz ⟨rfl, rfl⟩
              go_wp2_with fail
              refine (within_any _ _ _).mono ?_
              rintro e wz ⟨rfl, rfl⟩
              go_wp2
              go_ret
              exact ⟨ret_bool HF.out.symm, HW.out.alloc _⟩
            | true =>
              cases t4 : inR a.start 4611686018427387904 with
              | false =>
                have HF : Hid (mayB c = false) := HNo.out (by rw [HOk.out, t0, t1, t2, t3, t4]; simp)
                go_wp2_with fail
                refine (within_any _ _ _).mono ?_
                rintro e wz ⟨rfl, rfl⟩
                go_wp2_with fail
                refine (within_any _ _ _).mono ?_
                rintro e wz ⟨rfl, rfl⟩
                go_wp2_with fail
                refine (within_any _ _ _).mono ?_
                rintro e wz ⟨rfl, rfl⟩
                go_wp2_with fail
                refine (within_any _ _ _).mono ?_
                rintro e wz ⟨rfl, rfl⟩
                go_wp2_with fail
                refine (within_any _ _ _).mono ?_
                rintro e wz ⟨rfl, rfl⟩
                go_wp2
                go_ret
                exact ⟨ret_bool HF.out.symm, HW.out.alloc _⟩
              | true =>
                have HT : Hid (a.ok = true) := by show _ = _; rw [HOk.out, t0, t1, t2, t3, t4]; rfl
                go_wp2_with fail
                refine (within_any _ _ _).mono ?_
                rintro e wz ⟨rfl, rfl⟩
                go_wp2_with fail
                refine (within_any _ _ _).mono ?_
                rintro e wz ⟨rfl, rfl⟩
                go_wp2_with fail
                refine (within_any _ _ _).mono ?_
                rintro e wz ⟨rfl, rfl⟩
                go_wp2_with fail
                refine (within_any _ _ _).mono ?_
                rintro e wz ⟨rfl, rfl⟩
                go_wp2_with fail
                refine (within_any _ _ _).mono ?_
                rintro e wz ⟨rfl, rfl⟩
                go_wp2
                go_roundw
                case rel => exact ⟨k + 1, hlt, by go_num, HCW.out.alloc _, fun j hj => by
                  rcases Nat.lt_succ_iff_lt_or_eq.1 hj with hj | hj
                  · exact HA.out j hj
                  · rw [hj, HAe.out]; exact HT.out⟩
                case measure => simp [intOf]; omega
    · have hkn : Hid (k = n2) := by show _ = _; omega
      have HAll : Hid (∀ j, j < c.accounts.length → (c.accounts.getD j Acc.zero).ok = true) := fun j hj => HA.out j (by have := hkn.out; have := L2.out; omega)
      clear HA
      go_wp2
      go_loopw [65] (fun i wr => ∃ k : Nat, k ≤ n3 ∧ i = .int .i64 k ∧ Chg (fun _ => False) w1 wr ∧ ∀ j, j < k → inR (c.sessions.getD j 0) ((c.labels.length : Int) - 1) = true) (fun i _ => n3 - (intOf i).toNat)
      case atStart => exact ⟨0, by omega, rfl, HCW.out, fun j hj => absurd hj (by omega)⟩
      case round =>
        clear k0 k1 k2
        rename_i wr2
        obtain ⟨j, hj, rfl, hcw, hall⟩ := hrel
        have k0 := (World.cell?_of_block (hcw.block w.heap.size (lt_cell HK0.out) (fun h => h)) (a := ⟨w.heap.size, 0, none⟩)).trans HK0.out
        have k2 := (World.cell?_of_block (hcw.block w.heap.size (lt_cell HK0.out) (fun h => h)) (a := ⟨w.heap.size, 2, none⟩)).trans HK2.out
        have HA := Lib.hid hall
        have HW2 := Lib.hid (HC1.out.trans hcw (fun _ _ h => h))
        have HCW2 := Lib.hid hcw
        clear hall hcw
        by_cases hjt : j < n3
        · obtain ⟨b, off, rfl, hob, hc⟩ := rd_is (HH.out _ HW2.out).r3 (by omega)
          have f0 := hc j hjt
          clear hc hob
          have i1 : (j : Int) < (n3 : Int) := by omega
          have i0 : (0 : Int) ≤ (j : Int) := by omega
          have i4 : IntKind.i64.wrap ((n2 : Int) - 1) = (n2 : Int) - 1 := by rw [IntKind.wrap_i64]; omega
          have HNo : Hid (inR (c.sessions.getD j 0) ((n2 : Int) - 1) = false → mayB c = false) := fun hn => may_one (k := j) (by have := L3.out; omega) (by rw [L1.out]; exact hn)
          have HOk : Hid (inR (c.sessions.getD j 0) ((n2 : Int) - 1) = true → inR (c.sessions.getD j 0) ((c.labels.length : Int) - 1) = true) := fun h => by rw [L1.out]; exact h
          generalize hse : c.sessions.getD j 0 = s at f0 HNo HOk
          have HSe := Lib.hid hse
          clear hse
          cases t0 : inR s ((n2 : Int) - 1) with
          | false =>
            have HF : Hid (mayB c = false) := HNo.out t0
            go_wp2_with fail
            refine (within_any _ _ _).mono ?_
            rintro e wz ⟨rfl, rfl⟩
            go_wp2
            go_ret
            exact ⟨ret_bool HF.out.symm, HW2.out⟩
          | true =>
            have HT := Lib.hid (HOk.out t0)
            go_wp2_with fail
            refine (within_any _ _ _).mono ?_
            rintro e wz ⟨rfl, rfl⟩
            go_wp2
            go_roundw
            case rel => exact ⟨j + 1, hjt, by go_num, HCW2.out, fun i hi => by
              rcases Nat.lt_succ_iff_lt_or_eq.1 hi with hi | hi
              · exact HA.out i hi
              · rw [hi, HSe.out]; exact HT.out⟩
            case measure => simp [intOf]; omega
        · have HF : Hid (mayB c = true) := may_yes H1.out (by rw [L1.out, L2.out]) (by have := L3.out; omega) HAll.out (fun i hi => HA.out i (by have := L3.out; omega))
          go_wp2
          go_ret
          exact ⟨ret_bool HF.out.symm, HW2.out⟩

set_option maxRecDepth 100000 in
set_option maxHeartbeats 3200000 in
theorem rmay_any {ok : Nat → Prop} {w : World} {A1 A2 A3 : Option Addr} {n1 n2 n3 c1 c2 c3 : Nat} {c : Cfg} (h : CfgAt ok w A1 A2 A3 n1 n2 n3 c1 c2 c3 c) (hok : ∀ k, ok k → k < w.heap.size) :
    Calls Try.prog 53 #[.agg #[.slice A1 n1 c1, .slice A2 n2 c2, .slice A3 n3 c3]] w fun e w' => e = .returned (.bool (mayB c)) ∧ Chg (fun _ => False) w w' := by
  have HH : Hid (∀ w', Chg (fun _ => False) w w' → CfgAt ok w' A1 A2 A3 n1 n2 n3 c1 c2 c3 c) := fun w' hc => h.move (fun k hk => hc.block k (hok k hk) (fun h => h))
  have m1 := h.m1
  have m2 := h.m2
  have m3 := h.m3
  have L1 := Lib.hid h.l1
  have L2 := Lib.hid h.l2
  have L3 := Lib.hid h.l3
  have HK : Hid (∀ w', Chg (fun _ => False) w w' → Calls Try.prog 64 #[.slice A1 n1 c1] w' fun e w1 => e = .returned (.int .i64 (chk c.labels)) ∧ Chg (fun _ => False) w' w1) :=
    fun w' hc => rcheck_any c.labels A1 n1 c1 w' ok (HH.out w' hc).r1 (fun k hk => Nat.lt_of_lt_of_le (hok k hk) hc.size) (HH.out w' hc).big m1
  clear h hok
  have hb0 := Chg.alloc (Chg.refl (fun _ => False) w) (.cells #[.slice A1 n1 c1, .slice A2 n2 c2, .slice A3 n3 c3] 81)
  by_cases h1 : chk c.labels = 0
  rotate_left
  · have H1 : Hid (mayB c = false) := may_chk h1
    obtain ⟨v, hv⟩ : ∃ v, v = chk c.labels := ⟨_, rfl⟩
    rw [← hv] at h1 HK
    have e1 : (v == 0) = false := by rw [beq_eq_false_iff_ne]; exact h1
    have e2 : (v != 0) = true := by rw [bne_iff_ne]; exact h1
    clear hv h1
    go_enter Try.func53, Try.ntmps53
    go_wp2_with fail
    refine (HK.out _ hb0).mono ?_
    rintro e w1 ⟨rfl, hc1⟩
    go_wp2
    go_ret
    exact ⟨ret_bool H1.out.symm, hb0.trans hc1 (fun _ _ h => h)⟩
  have H1 := Lib.hid h1
  rw [h1] at HK
  clear h1
  by_cases h2 : n2 = n1
  rotate_left
  · have H2 : Hid (mayB c = false) := may_len (by have := L1.out; have := L2.out; omega)
    have e1 : ((n2 : Int) == (n1 : Int)) = false := by rw [beq_eq_false_iff_ne]; omega
    have e2 : (n2 == n1) = false := by rw [beq_eq_false_iff_ne]; omega
    have e3 : ((n2 : Int) != (n1 : Int)) = true := by rw [bne_iff_ne]; omega
    have e4 : (n2 != n1) = true := by rw [bne_iff_ne]; omega
    go_enter Try.func53, Try.ntmps53
    go_wp2_with fail
    refine (HK.out _ hb0).mono ?_
    rintro e w1 ⟨rfl, hc1⟩
    have b1 := hc1.at_ (heap_new w _) (fun h => h)
    have k0 := cell_at b1 0 rfl
    have k1 := cell_at b1 1 rfl
    have k2 := cell_at b1 2 rfl
    clear b1
    go_wp2
    go_ret
    exact ⟨ret_bool H2.out.symm, hb0.trans hc1 (fun _ _ h => h)⟩
  subst h2
  by_cases h3 : 32 < n3
  · have H3 : Hid (mayB c = false) := may_ses (by have := L3.out; omega)
    go_enter Try.func53, Try.ntmps53
    go_wp2_with fail
    refine (HK.out _ hb0).mono ?_
    rintro e w1 ⟨rfl, hc1⟩
    have b1 := hc1.at_ (heap_new w _) (fun h => h)
    have k0 := cell_at b1 0 rfl
    have k1 := cell_at b1 1 rfl
    have k2 := cell_at b1 2 rfl
    clear b1
    go_wp2
    go_ret
    exact ⟨ret_bool H3.out.symm, hb0.trans hc1 (fun _ _ h => h)⟩
  have d3 : decide ((32 : Int) < (n3 : Int)) = false := by simp; omega
  have d4 : decide (32 < n3) = false := by simp; omega
  have HB0 := Lib.hid hb0
  clear hb0
  go_enter Try.func53, Try.ntmps53
  go_wp2_with fail
  refine (HK.out _ HB0.out).mono ?_
  rintro e w1 ⟨rfl, hc1⟩
  have b1 := hc1.at_ (heap_new w _) (fun h => h)
  have k0 := cell_at b1 0 rfl
  have k1 := cell_at b1 1 rfl
  have k2 := cell_at b1 2 rfl
  have HC1 := Lib.hid (HB0.out.trans hc1 (fun _ _ h => h))
  have HK0 := Lib.hid k0
  have HK1 := Lib.hid k1
  have HK2 := Lib.hid k2
  clear b1 hc1
  go_wp2
  clear k0 k1 k2
  go_loopw [3] (fun i wr => ∃ k : Nat, k ≤ n2 ∧ i = .int .i64 k ∧ Chg (fun _ => False) w1 wr ∧ ∀ j, j < k → (c.accounts.getD j Acc.zero).ok = true) (fun i _ => n2 - (intOf i).toNat)
  case atStart => exact ⟨0, by omega, rfl, Chg.refl _ _, fun j hj => absurd hj (by omega)⟩
  case round =>
    rename_i wr
    obtain ⟨k, hk, rfl, hcw, hall⟩ := hrel
    have k0 := (World.cell?_of_block (hcw.block w.heap.size (lt_cell HK0.out) (fun h => h)) (a := ⟨w.heap.size, 0, none⟩)).trans HK0.out
    have k1 := (World.cell?_of_block (hcw.block w.heap.size (lt_cell HK0.out) (fun h => h)) (a := ⟨w.heap.size, 1, none⟩)).trans HK1.out
    have k2 := (World.cell?_of_block (hcw.block w.heap.size (lt_cell HK0.out) (fun h => h)) (a := ⟨w.heap.size, 2, none⟩)).trans HK2.out
    have HA := Lib.hid hall
    have HW := Lib.hid (HC1.out.trans hcw (fun _ _ h => h))
    have HCW := Lib.hid hcw
    clear hall hcw
    by_cases hlt : k < n2
    · obtain ⟨b, off, rfl, hob, hc⟩ := rd_acs (HH.out _ HW.out).r2 (by omega)
      obtain ⟨f0, f1, f2, f3, f4⟩ := hc k hlt
      clear hc hob
      have i1 : (k : Int) < (n2 : Int) := by omega
      have HNo : Hid ((c.accounts.getD k Acc.zero).ok = false → mayB c = false) := fun hn => may_acc (k := k) (by have := L2.out; omega) hn
      have HOk : Hid ((c.accounts.getD k Acc.zero).ok = (inR (c.accounts.getD k Acc.zero).quota 1048576 && (inR (c.accounts.getD k Acc.zero).opn 32 && (inR (c.accounts.getD k Acc.zero).queue 64 && (inR (c.accounts.getD k Acc.zero).window 1048576 && inR (c.accounts.getD k Acc.zero).start 4611686018427387904))))) := rfl
      generalize hae : c.accounts.getD k Acc.zero = a at f0 f1 f2 f3 f4 HNo HOk
      have HAe := Lib.hid hae
      clear hae
      cases t0 : inR a.quota 1048576 with
      | false =>
        have HF : Hid (mayB c = false) := HNo.out (by rw [HOk.out, t0]; simp)
        go_wp2_with fail
        refine (rwithin_any _ _ _).mono ?_
        rintro e wz ⟨rfl, rfl⟩
        go_wp2
        go_ret
        exact ⟨ret_bool HF.out.symm, HW.out.alloc _⟩
      | true =>
        cases t1 : inR a.opn 32 with
        | false =>
          have HF : Hid (mayB c = false) := HNo.out (by rw [HOk.out, t0, t1]; simp)
          go_wp2_with fail
          refine (rwithin_any _ _ _).mono ?_
          rintro e wz ⟨rfl, rfl⟩
          go_wp2_with fail
          refine (rwithin_any _ _ _).mono ?_
          rintro e wz ⟨rfl, rfl⟩
          go_wp2
          go_ret
          exact ⟨ret_bool HF.out.symm, HW.out.alloc _⟩
        | true =>
          cases t2 : inR a.queue 64 with
          | false =>
            have HF : Hid (mayB c = false) := HNo.out (by rw [HOk.out, t0, t1, t2]; simp)
            go_wp2_with fail
            refine (rwithin_any _ _ _).mono ?_
            rintro e wz ⟨rfl, rfl⟩
            go_wp2_with fail
            refine (rwithin_any _ _ _).mono ?_
            rintro e wz ⟨rfl, rfl⟩
            go_wp2_with fail
            refine (rwithin_any _ _ _).mono ?_
            rintro e wz ⟨rfl, rfl⟩
            go_wp2
            go_ret
            exact ⟨ret_bool HF.out.symm, HW.out.alloc _⟩
          | true =>
            cases t3 : inR a.window 1048576 with
            | false =>
              have HF : Hid (mayB c = false) := HNo.out (by rw [HOk.out, t0, t1, t2, t3]; simp)
              go_wp2_with fail
              refine (rwithin_any _ _ _).mono ?_
              rintro e wz ⟨rfl, rfl⟩
              go_wp2_with fail
              refine (rwithin_any _ _ _).mono ?_
              rintro e wz ⟨rfl, rfl⟩
              go_wp2_with fail
              refine (rwithin_any _ _ _).mono ?_
              rintro e wz ⟨rfl, rfl⟩
              go_wp2_with fail
              refine (rwithin_any _ _ _).mono ?_
              rintro e wz ⟨rfl, rfl⟩
              go_wp2
              go_ret
              exact ⟨ret_bool HF.out.symm, HW.out.alloc _⟩
            | true =>
              cases t4 : inR a.start 4611686018427387904 with
              | false =>
                have HF : Hid (mayB c = false) := HNo.out (by rw [HOk.out, t0, t1, t2, t3, t4]; simp)
                go_wp2_with fail
                refine (rwithin_any _ _ _).mono ?_
                rintro e wz ⟨rfl, rfl⟩
                go_wp2_with fail
                refine (rwithin_any _ _ _).mono ?_
                rintro e wz ⟨rfl, rfl⟩
                go_wp2_with fail
                refine (rwithin_any _ _ _).mono ?_
                rintro e wz ⟨rfl, rfl⟩
                go_wp2_with fail
                refine (rwithin_any _ _ _).mono ?_
                rintro e wz ⟨rfl, rfl⟩
                go_wp2_with fail
                refine (rwithin_any _ _ _).mono ?_
                rintro e wz ⟨rfl, rfl⟩
                go_wp2
                go_ret
                exact ⟨ret_bool HF.out.symm, HW.out.alloc _⟩
              | true =>
                have HT : Hid (a.ok = true) := by show _ = _; rw [HOk.out, t0, t1, t2, t3, t4]; rfl
                go_wp2_with fail
                refine (rwithin_any _ _ _).mono ?_
                rintro e wz ⟨rfl, rfl⟩
                go_wp2_with fail
                refine (rwithin_any _ _ _).mono ?_
                rintro e wz ⟨rfl, rfl⟩
                go_wp2_with fail
                refine (rwithin_any _ _ _).mono ?_
                rintro e wz ⟨rfl, rfl⟩
                go_wp2_with fail
                refine (rwithin_any _ _ _).mono ?_
                rintro e wz ⟨rfl, rfl⟩
                go_wp2_with fail
                refine (rwithin_any _ _ _).mono ?_
                rintro e wz ⟨rfl, rfl⟩
                go_wp2
                go_roundw
                case rel => exact ⟨k + 1, hlt, by go_num, HCW.out.alloc _, fun j hj => by
                  rcases Nat.lt_succ_iff_lt_or_eq.1 hj with hj | hj
                  · exact HA.out j hj
                  · rw [hj, HAe.out]; exact HT.out⟩
                case measure => simp [intOf]; omega
    · have hkn : Hid (k = n2) := by show _ = _; omega
      have HAll : Hid (∀ j, j < c.accounts.length → (c.accounts.getD j Acc.zero).ok = true) := fun j hj => HA.out j (by have := hkn.out; have := L2.out; omega)
      clear HA
      go_wp2
      go_loopw [5] (fun i wr => ∃ k : Nat, k ≤ n3 ∧ i = .int .i64 k ∧ Chg (fun _ => False) w1 wr ∧ ∀ j, j < k → inR (c.sessions.getD j 0) ((c.labels.length : Int) - 1) = true) (fun i _ => n3 - (intOf i).toNat)
      case atStart => exact ⟨0, by omega, rfl, HCW.out, fun j hj => absurd hj (by omega)⟩
      case round =>
        clear k0 k1 k2
        rename_i wr2
        obtain ⟨j, hj, rfl, hcw, hall⟩ := hrel
        have k0 := (World.cell?_of_block (hcw.block w.heap.size (lt_cell HK0.out) (fun h => h)) (a := ⟨w.heap.size, 0, none⟩)).trans HK0.out
        have k2 := (World.cell?_of_block (hcw.block w.heap.size (lt_cell HK0.out) (fun h => h)) (a := ⟨w.heap.size, 2, none⟩)).trans HK2.out
        have HA := Lib.hid hall
        have HW2 := Lib.hid (HC1.out.trans hcw (fun _ _ h => h))
        have HCW2 := Lib.hid hcw
        clear hall hcw
        by_cases hjt : j < n3
        · obtain ⟨b, off, rfl, hob, hc⟩ := rd_is (HH.out _ HW2.out).r3 (by omega)
          have f0 := hc j hjt
          clear hc hob
          have i1 : (j : Int) < (n3 : Int) := by omega
          have i0 : (0 : Int) ≤ (j : Int) := by omega
          have i4 : IntKind.i64.wrap ((n2 : Int) - 1) = (n2 : Int) - 1 := by rw [IntKind.wrap_i64]; omega
          have HNo : Hid (inR (c.sessions.getD j 0) ((n2 : Int) - 1) = false → mayB c = false) := fun hn => may_one (k := j) (by have := L3.out; omega) (by rw [L1.out]; exact hn)
          have HOk : Hid (inR (c.sessions.getD j 0) ((n2 : Int) - 1) = true → inR (c.sessions.getD j 0) ((c.labels.length : Int) - 1) = true) := fun h => by rw [L1.out]; exact h
          generalize hse : c.sessions.getD j 0 = s at f0 HNo HOk
          have HSe := Lib.hid hse
          clear hse
          cases t0 : inR s ((n2 : Int) - 1) with
          | false =>
            have HF : Hid (mayB c = false) := HNo.out t0
            go_wp2_with fail
            have q0 := fun p => cell_later k0 p
            have q2 := fun p => cell_later k2 p
            have q3 := fun p => cell_later f0 p
            refine wp_region_later (by kernel_rfl) (by kernel_rfl) ?_
            repeat (any_goals (go_big_quiet_step (first | (go_at_call 65; with_reducible exact of_same (rwithin_any _ _ _)))))
            refine wpQuiet_nil ?_
            intro _ hw'
            obtain ⟨⟨w9, hc9⟩, hw''⟩ := hw'
            subst hw''
            go_wp2
            go_ret
            exact ⟨ret_bool HF.out.symm, HW2.out.trans hc9 (fun _ _ h => h)⟩
          | true =>
            have HT := Lib.hid (HOk.out t0)
            go_wp2_with fail
            have q0 := fun p => cell_later k0 p
            have q2 := fun p => cell_later k2 p
            have q3 := fun p => cell_later f0 p
            refine wp_region_later (by kernel_rfl) (by kernel_rfl) ?_
            repeat (any_goals (go_big_quiet_step (first | (go_at_call 65; with_reducible exact of_same (rwithin_any _ _ _)))))
            refine wpQuiet_nil ?_
            intro _ hw'
            obtain ⟨⟨w9, hc9⟩, hw''⟩ := hw'
            subst hw''
            go_wp2
            go_roundw
            case rel => exact ⟨j + 1, hjt, by go_num, HCW2.out.trans hc9 (fun _ _ h => h), fun i hi => by
              rcases Nat.lt_succ_iff_lt_or_eq.1 hi with hi | hi
              · exact HA.out i hi
              · rw [hi, HSe.out]; exact HT.out⟩
            case measure => simp [intOf]; omega
        · have HF : Hid (mayB c = true) := may_yes H1.out (by rw [L1.out, L2.out]) (by have := L3.out; omega) HAll.out (fun i hi => HA.out i (by have := L3.out; omega))
          go_wp2
          go_ret
          exact ⟨ret_bool HF.out.symm, HW2.out⟩
end Go.Proofs.Ytchlolgfahgdeaa.Lmay
