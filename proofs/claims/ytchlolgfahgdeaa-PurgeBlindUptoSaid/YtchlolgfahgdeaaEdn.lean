/- Down by contract; the closure that asks it. Conditions: the labels read so. -/
import Derived.Test.YtchlolgfahgdeaaEn
set_option linter.unusedVariables false
set_option linter.unusedSimpArgs false
namespace Go.Proofs.Ytchlolgfahgdeaa.Edn
open Go.RowKit Go.Proofs.Ytchlolgfahgdeaa.Lib1 Go.Proofs.Ytchlolgfahgdeaa.Rel Go.Proofs.Ytchlolgfahgdeaa.Own Go.Proofs.Ytchlolgfahgdeaa.Ev Go.Proofs.Ytchlolgfahgdeaa.Ek Go.Proofs.Ytchlolgfahgdeaa.Ec Go.Proofs.Ytchlolgfahgdeaa.Em Go.Proofs.Ytchlolgfahgdeaa.En Go.Proofs.Ytchlolgfahgdeaa.Lat Go.Proofs.Ytchlolgfahgdeaa.Lbl Go.Proofs.Ytchlolgfahgdeaa.Lbw Go.Proofs.Ytchlolgfahgdeaa.Lck Go.Proofs.Ytchlolgfahgdeaa.Lmay

/-- Where a number stands first; -1: nowhere. -/
def spot (l : List Int) (x : Int) : Int := if x ∈ l then (l.idxOf x : Int) else -1
theorem spot_found {l : List Int} {x : Int} {k : Nat} (hk : k < l.length) (hx : l.getD k 0 = x) (hb : ∀ j, j < k → l.getD j 0 ≠ x) : spot l x = (k : Int) := by
  have hm : x ∈ l := by
    rw [← hx, List.getD_eq_getElem?_getD, List.getElem?_eq_getElem hk]; exact List.getElem_mem hk
  rw [spot, if_pos hm]
  congr 1
  have h1 : l.idxOf x < l.length := List.idxOf_lt_length_iff.2 hm
  have h2 : l[l.idxOf x] = x := List.getElem_idxOf h1
  rcases Nat.lt_trichotomy (l.idxOf x) k with h | h | h
  · exact absurd (by rw [List.getD_eq_getElem?_getD, List.getElem?_eq_getElem h1]; exact h2) (hb _ h)
  · exact h
  · have h3 := List.not_of_lt_findIdx (p := (· == x)) (xs := l) (i := k) (by simpa [List.idxOf] using h)
    rw [List.getD_eq_getElem?_getD, List.getElem?_eq_getElem hk] at hx
    simp at h3 hx
    exact absurd hx h3
theorem spot_none {l : List Int} {x : Int} (hb : ∀ j, j < l.length → l.getD j 0 ≠ x) : spot l x = -1 := by
  rw [spot, if_neg]
  intro hm
  obtain ⟨k, hk, e⟩ := List.mem_iff_getElem.1 hm
  exact hb k hk (by rw [List.getD_eq_getElem?_getD, List.getElem?_eq_getElem hk]; exact e)
theorem spot_mem {l : List Int} {x : Int} : (0 ≤ spot l x) ↔ x ∈ l := by
  unfold spot; split
  · simp [*]
  · simp [*]

section
variable (l : List Int) (x : Int) (A : Option Addr) (n c : Nat) (w : World) (ok : Nat → Prop)
theorem index_int (h : Rd ok w A n c 1 (is l)) (hn : n ≤ 9223372036854775807) :
    Calls Try.prog 62 #[.slice A n c, .int .i64 x] w fun e w' => e = .returned (.int .i64 (spot l x)) ∧ w = w' := by
  have HL : Hid (l.length = n) := by have := h.len; rw [is_len] at this; show _ = _; omega
  have HR := Lib.hid (fun hp => rd_is h hp)
  clear h
  go_enter Try.func62, Try.ntmps62
  go_wp2
  go_loop [8] (fun i => ∃ k : Nat, k ≤ n ∧ i = .int .i64 k ∧ ∀ j, j < k → l.getD j 0 ≠ x) (fun i => n - (intOf i).toNat)
  case atStart => exact ⟨0, by omega, rfl, fun j hj => absurd hj (by omega)⟩
  case round =>
    obtain ⟨k, hk, rfl, hall⟩ := hrel
    have HA := Lib.hid hall
    clear hall
    by_cases hlt : k < n
    · obtain ⟨b, off, rfl, _, hc⟩ := HR.out (by omega)
      have hck := hc k hlt
      clear hc
      by_cases he : l.getD k 0 = x
      · have HE := Lib.hid he
        rw [he] at hck
        clear he
        go_wp2
        go_ret
        exact ⟨ret_int (spot_found (by have := HL.out; omega) HE.out HA.out).symm, rfl⟩
      · have HE := Lib.hid he
        obtain ⟨y, hy⟩ : ∃ y, y = l.getD k 0 := ⟨_, rfl⟩
        rw [← hy] at hck he
        have e1 : (x == y) = false := by rw [beq_eq_false_iff_ne]; exact fun h => he h.symm
        clear hy he
        go_wp2
        go_round
        case rel => exact ⟨k + 1, hlt, by go_num, fun j hj => by
          rcases Nat.lt_succ_iff_lt_or_eq.1 hj with hj | rfl
          · exact HA.out j hj
          · exact HE.out⟩
        case measure => simp [intOf]; omega
    · go_wp2
      go_ret
      exact ⟨ret_int (spot_none (fun j hj => HA.out j (by have := HL.out; omega))).symm, rfl⟩
theorem contains_int (h : Rd ok w A n c 1 (is l)) (hn : n ≤ 9223372036854775807) :
    Calls Try.prog 42 #[.slice A n c, .int .i64 x] w fun e w' => e = .returned (.bool (decide (x ∈ l))) ∧ w = w' := by
  have HI := Lib.hid (index_int l x A n c w ok h hn)
  have HB := Lib.hid (spot_mem (l := l) (x := x))
  clear h
  go_enter Try.func42, Try.ntmps42
  go_wp2_with fail
  refine HI.out.mono ?_
  rintro e w1 ⟨rfl, rfl⟩
  go_wp2
  go_ret
  exact ⟨ret_bool (by rw [← decide_eq_decide.2 HB.out]), rfl⟩
end

/-- What the closure has captured: the block d holds a list that reads as D. -/
def IsAt (w : World) (d : Nat) (D : List Int) : Prop := ∃ A n c, w.heap[d]? = some (.cells #[.slice A n c] 25 (0, 0)) ∧ Rd (fun k => k < w.heap.size) w A n c 1 (is D) ∧ n ≤ 9223372036854775807
theorem IsAt.up {w w1 : World} {d : Nat} {D : List Int} (h : IsAt w d D) (c : Chg (fun _ => False) w w1) : IsAt w1 d D := by
  obtain ⟨A, n, cc, hb, hr, hn⟩ := h
  exact ⟨A, n, cc, c.at_ hb (fun h => h), (hr.move (fun k hk => c.block k hk (fun h => h))).mono (fun k hk => Nat.lt_of_lt_of_le hk c.size), hn⟩
theorem is_any {w : World} {d : Nat} {D : List Int} (h : IsAt w d D) (p : Int) :
    Calls Try.prog 41 #[.int .i64 p, .pointer (some ⟨d, 0, none⟩)] w fun e w' => e = .returned (.bool (decide (p ∈ D))) ∧ w = w' := by
  obtain ⟨A, n, c, hb, hr, hn⟩ := h
  have k0 := cell_at hb 0 rfl
  have HC := Lib.hid (contains_int D p A n c w _ hr hn)
  clear hr hb
  go_enter Try.func41, Try.ntmps41
  go_wp2_with fail
  refine HC.out.mono ?_
  rintro e w1 ⟨rfl, rfl⟩
  go_wp2
  go_ret
  exact ⟨rfl, rfl⟩

/-- The places of those at or below l. -/
def downs (ls : List Nat) (l : Nat) (k : Nat) : List Int := ((List.range k).filter fun i => leq (ls.getD i 0) l).map fun (i : Nat) => (i : Int)
theorem downs_yes {ls : List Nat} {l k : Nat} (h : leq (ls.getD k 0) l = true) : downs ls l (k + 1) = downs ls l k ++ [(k : Int)] := by
  unfold downs; rw [List.range_succ, List.filter_append, List.map_append, List.filter_cons_of_pos (by simpa using h)]; rfl
theorem downs_no {ls : List Nat} {l k : Nat} (h : leq (ls.getD k 0) l = false) : downs ls l (k + 1) = downs ls l k := by
  unfold downs; rw [List.range_succ, List.filter_append, List.map_append, List.filter_cons_of_neg (by simpa using h)]; simp
theorem downs_len (ls : List Nat) (l k : Nat) : (downs ls l k).length ≤ k := by
  unfold downs; rw [List.length_map]; exact Nat.le_trans (List.length_filter_le _ _) (by simp)
theorem downs_mem {ls : List Nat} {l n p : Nat} : ((p : Int) ∈ downs ls l n) ↔ p < n ∧ leq (ls.getD p 0) l = true := by
  unfold downs
  simp only [List.mem_map, List.mem_filter, List.mem_range]
  constructor
  · rintro ⟨i, h, e⟩
    have : i = p := by omega
    subst this
    exact h
  · intro h; exact ⟨p, h, rfl⟩

theorem down1_any (x l : Nat) (b : Nat) (w : World) (hx : x < 18446744073709551616) (hl : l < 18446744073709551616) (hb : w.cell? ⟨b, 0, none⟩ = some (.int .u64 (l : Int))) :
    Calls Try.prog 60 #[.int .u64 x, .pointer (some ⟨b, 0, none⟩)] w fun e w' => e = .returned (.bool (leq x l)) ∧ w = w' := by
  go_enter Try.func60, Try.ntmps60
  go_wp2_with fail
  refine (leq_any x l _ hx hl).mono ?_
  rintro e w1 ⟨rfl, rfl⟩
  go_wp2
  go_ret
  exact ⟨rfl, rfl⟩

def DnRel (w : World) (ls : List Nat) (l n : Nat) (v i : Value) (wr : World) : Prop := ∃ k : Nat, k ≤ n ∧ i = .int .i64 k ∧ OwnL (Kd.int .i64) 3 w.heap.size wr v (downs ls l k) ∧ Chg (fun _ => False) w wr
theorem int_flat (ok ok' : Nat → Prop) (w w' : World) (x : Int) (cs : List Value) (h : (Kd.int .i64).rel ok w x cs) : (Kd.int .i64).rel ok' w' x cs := h
set_option maxRecDepth 100000 in
set_option maxHeartbeats 1600000 in
theorem places_any (ls : List Nat) (l : Nat) (A : Option Addr) (n c b : Nat) (w : World) (ok : Nat → Prop) (h : Rd ok w A n c 1 (us ls)) (hok : ∀ k, ok k → k < w.heap.size) (hb : ∀ x ∈ ls, x < 18446744073709551616) (hl : l < 18446744073709551616) (hn : n * 8 ≤ 140737488351232)
    (hc : w.heap[b]? = some (.cells #[.int .u64 (l : Int)] 64 (0, 0))) :
    Calls Try.prog 59 #[.slice A n c, .func (.func 60) #[] #[.pointer (some ⟨b, 0, none⟩)]] w fun e w' => ∃ v, e = .returned v ∧ OwnL (Kd.int .i64) 3 w.heap.size w' v (downs ls l n) ∧ Chg (fun _ => False) w w' := by
  have HM : Hid (∀ w', Chg (fun _ => False) w w' → Rd ok w' A n c 1 (us ls)) := fun w' hc => h.move (fun k hk => hc.block k (hok k hk) (fun h => h))
  have HB := Lib.hid (lt_mem hb)
  have HC := Lib.hid hc
  clear h hok hb hc
  go_enter Try.func59, Try.ntmps59
  go_wp2
  go_loopw [5, 10] (fun v i wr => DnRel w ls l n v i wr) (fun _ i _ => n - (intOf i).toNat)
  case atStart => exact ⟨0, Nat.zero_le _, rfl, OwnL.nil _ _ _ _, Chg.refl _ _⟩
  case round =>
    obtain ⟨k, hk, rfl, ho, hcw⟩ := hrel
    have HO := Lib.hid ho
    have HW := Lib.hid hcw
    have hdl := downs_len ls l k
    obtain ⟨Av, cv, ev⟩ := ho.form
    have hsz := hcw.size
    subst ev
    clear ho hcw
    by_cases hlt : k < n
    · obtain ⟨g, off, rfl, _, hcell⟩ := rd_us (HM.out _ HW.out) (by omega)
      have q0 := hcell k hlt
      have hxb := HB.out k
      have HYes := Lib.hid (downs_yes (ls := ls) (l := l) (k := k))
      have HNo := Lib.hid (downs_no (ls := ls) (l := l) (k := k))
      generalize ls.getD k 0 = x at q0 hxb HYes HNo
      have kb := cell_at (HW.out.at_ HC.out (fun h => h)) 0 rfl
      clear hcell
      have i1 : (k : Int) < (n : Int) := by omega
      go_wp2_with fail
      refine (down1_any x l b _ hxb hl kb).mono ?_
      rintro e w2 ⟨rfl, rfl⟩
      cases hq : leq x l with
      | true =>
        have HQ := Lib.hid (HYes.out hq)
        clear hq
        go_wp2_with (at_builtin; refine ap_push rfl (.tmp 18) (.tmp 20) 25 rfl (Kd.int .i64) w.heap.size 3 8 (.int .i64 0) Try.underlying25 info_int rfl (by decide) (by decide) (.slice Av (downs ls l k).length cv) (downs ls l k) rfl HO.out (k : Int) _ rfl rfl ?bL ?bB ?_; (case bL => omega); (case bB => omega); intro v3 w3 o3 g3; obtain ⟨A3, c3, e3⟩ := o3.form; subst e3)
        go_roundw
        case rel => exact ⟨k + 1, hlt, by go_num, by rw [HQ.out]; have o4 := o3; simp only [List.length_append, List.length_singleton] at o4; exact o4, HW.out.trans g3 (fun j hj he => by have := (HO.out.low j he).1; omega)⟩
        case measure => simp [intOf]; omega
      | false =>
        have HQ := Lib.hid (HNo.out hq)
        clear hq
        go_wp2
        go_roundw
        case rel => exact ⟨k + 1, hlt, by go_num, by rw [HQ.out]; exact HO.out, HW.out⟩
        case measure => simp [intOf]; omega
    · have hkk : k = n := by omega
      have ho := HO.out
      rw [hkk] at ho
      have HO2 := Lib.hid ho
      clear ho
      go_wp2
      go_ret
      exact ⟨_, rfl, by rw [hkk]; exact HO2.out, HW.out⟩

theorem down_any (ls : List Nat) (l : Nat) (A : Option Addr) (n c : Nat) (w : World) (ok : Nat → Prop) (h : Rd ok w A n c 1 (us ls)) (hok : ∀ k, ok k → k < w.heap.size) (hb : ∀ x ∈ ls, x < 18446744073709551616) (hl : l < 18446744073709551616) (hn : n * 8 ≤ 140737488351232) :
    Calls Try.prog 40 #[.slice A n c, .int .u64 l] w fun e w' => ∃ v, e = .returned v ∧ OwnL (Kd.int .i64) 3 w.heap.size w' v (downs ls l n) ∧ Chg (fun _ => False) w w' := by
  have hmf : ∀ (fn : Fn) (first cap : Array Value) (w : World), (Instr.makeFunc fn first cap).run Try.prog w = .ok (.func fn first cap) w := fun _ _ _ _ => rfl
  have HC : Hid (∀ w', Chg (fun _ => False) w w' → ∀ b, w'.heap[b]? = some (.cells #[.int .u64 (l : Int)] 64 (0, 0)) → Calls Try.prog 59 #[.slice A n c, .func (.func 60) #[] #[.pointer (some ⟨b, 0, none⟩)]] w' fun e w1 => ∃ v, e = .returned v ∧ OwnL (Kd.int .i64) 3 w'.heap.size w1 v (downs ls l n) ∧ Chg (fun _ => False) w' w1) :=
    fun w' hc b hbb => places_any ls l A n c b w' ok (h.move (fun k hk => hc.block k (hok k hk) (fun h => h))) (fun k hk => Nat.lt_of_lt_of_le (hok k hk) hc.size) hb hl hn hbb
  clear h hok hb
  go_enter Try.func40, Try.ntmps40
  go_wp2_with fail
  refine (HC.out _ ((Chg.refl _ w).alloc _) _ (heap_new _ _)).mono ?_
  rintro e w1 ⟨v, rfl, ho, hc⟩
  have HO := Lib.hid ho
  have HC1 := Lib.hid hc
  clear ho hc
  go_wp2
  go_ret
  exact ⟨_, rfl, HO.out.base_le (by simp), ((Chg.refl _ w).alloc _).trans HC1.out (fun _ _ h => h)⟩
end Go.Proofs.Ytchlolgfahgdeaa.Edn
