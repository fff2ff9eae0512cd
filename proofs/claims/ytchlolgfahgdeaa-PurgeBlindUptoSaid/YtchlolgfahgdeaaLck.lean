/- Check and May, the program's and the reference's, by their contracts. Conditions: the lists read so. -/
import Derived.Test.YtchlolgfahgdeaaLbw
import Derived.Test.YtchlolgfahgdeaaLat
import Derived.Deep.RegionHeld3
set_option linter.unusedVariables false
set_option linter.unusedSimpArgs false
namespace Go.Proofs.Ytchlolgfahgdeaa.Lck
open Go.RowKit Go.Proofs.Ytchlolgfahgdeaa.Lib1 Go.Proofs.Ytchlolgfahgdeaa.Lbl Go.Proofs.Ytchlolgfahgdeaa.Lbw Go.Proofs.Ytchlolgfahgdeaa.Lat

/-- Labels as cells. -/
def us (ls : List Nat) : List Value := ls.map fun (x : Nat) => Value.int .u64 (x : Int)
theorem us_len (ls : List Nat) : (us ls).length = ls.length := by simp [us]
theorem us_get {ls : List Nat} {k : Nat} (h : k < ls.length) : (us ls)[k]? = some (.int .u64 ((ls.getD k 0 : Nat) : Int)) := by
  simp [us, List.getD_eq_getElem?_getD, List.getElem?_eq_getElem h]
theorem rd_us {ok : Nat → Prop} {w : World} {A : Option Addr} {n c : Nat} {ls : List Nat} (h : Rd ok w A n c 1 (us ls)) (hn : 0 < n) :
    ∃ b off, A = some ⟨b, off, none⟩ ∧ ok b ∧ ∀ k, k < n → w.cell? ⟨b, off + k, none⟩ = some (.int .u64 ((ls.getD k 0 : Nat) : Int)) := by
  obtain ⟨b, off, e, hb, hc⟩ := h.at_ hn
  have hl : ls.length = n := by have := h.len; rw [us_len] at this; omega
  exact ⟨b, off, e, hb, fun k hk => hc k _ (us_get (by omega))⟩

/-- Where a label stands first; -1: nowhere. -/
def place (ls : List Nat) (x : Nat) : Int := if x ∈ ls then (ls.idxOf x : Int) else -1
theorem place_found {ls : List Nat} {x k : Nat} (hk : k < ls.length) (hx : ls.getD k 0 = x) (hb : ∀ j, j < k → ls.getD j 0 ≠ x) : place ls x = (k : Int) := by
  have hm : x ∈ ls := by
    rw [← hx, List.getD_eq_getElem?_getD, List.getElem?_eq_getElem hk]; exact List.getElem_mem hk
  rw [place, if_pos hm]
  congr 1
  have h1 : ls.idxOf x < ls.length := List.idxOf_lt_length_iff.2 hm
  have h2 : ls[ls.idxOf x] = x := List.getElem_idxOf h1
  rcases Nat.lt_trichotomy (ls.idxOf x) k with h | h | h
  · exact absurd (by rw [List.getD_eq_getElem?_getD, List.getElem?_eq_getElem h1]; exact h2) (hb _ h)
  · exact h
  · have h3 := List.not_of_lt_findIdx (p := (· == x)) (xs := ls) (i := k) (by simpa [List.idxOf] using h)
    rw [List.getD_eq_getElem?_getD, List.getElem?_eq_getElem hk] at hx
    simp at h3 hx
    exact absurd hx h3
theorem place_none {ls : List Nat} {x : Nat} (hb : ∀ j, j < ls.length → ls.getD j 0 ≠ x) : place ls x = -1 := by
  rw [place, if_neg]
  intro hm
  obtain ⟨k, hk, e⟩ := List.mem_iff_getElem.1 hm
  exact hb k hk (by rw [List.getD_eq_getElem?_getD, List.getElem?_eq_getElem hk]; exact e)
theorem place_mem {ls : List Nat} {x : Nat} : (0 ≤ place ls x) ↔ x ∈ ls := by
  unfold place; split
  · simp [*]
  · simp [*]
theorem place_bd (ls : List Nat) (x : Nat) : -1 ≤ place ls x ∧ place ls x ≤ ls.length := by
  unfold place; split
  · have := List.idxOf_le_length (l := ls) (a := x); omega
  · omega

section
variable (ls : List Nat) (x : Nat) (A : Option Addr) (n c : Nat) (w : World) (ok : Nat → Prop)
theorem index_any (h : Rd ok w A n c 1 (us ls)) (hn : n ≤ 9223372036854775807) :
    Calls Try.prog 73 #[.slice A n c, .int .u64 x] w fun e w' => e = .returned (.int .i64 (place ls x)) ∧ w = w' := by
  have HL : Hid (ls.length = n) := by have := h.len; rw [us_len] at this; show _ = _; omega
  have HR := Lib.hid (fun hp => rd_us h hp)
  clear h
  go_enter Try.func73, Try.ntmps73
  go_wp2
  go_loop [8] (fun i => ∃ k : Nat, k ≤ n ∧ i = .int .i64 k ∧ ∀ j, j < k → ls.getD j 0 ≠ x) (fun i => n - (intOf i).toNat)
  case atStart => exact ⟨0, by omega, rfl, fun j hj => absurd hj (by omega)⟩
  case round =>
    obtain ⟨k, hk, rfl, hall⟩ := hrel
    have HA := Lib.hid hall
    clear hall
    by_cases hlt : k < n
    · obtain ⟨b, off, rfl, _, hc⟩ := HR.out (by omega)
      have hck := hc k hlt
      clear hc
      by_cases he : ls.getD k 0 = x
      · have HE := Lib.hid he
        rw [he] at hck
        clear he
        go_wp2
        go_ret
        exact ⟨ret_int (place_found (by have := HL.out; omega) HE.out HA.out).symm, rfl⟩
      · have HE := Lib.hid he
        obtain ⟨y, hy⟩ : ∃ y, y = ls.getD k 0 := ⟨_, rfl⟩
        rw [← hy] at hck he
        have e1 : (x == y) = false := by rw [beq_eq_false_iff_ne]; exact fun h => he h.symm
        have e2 : ((x : Int) == (y : Int)) = false := by rw [beq_eq_false_iff_ne]; omega
        clear hy he
        go_wp2
        go_round
        case rel => exact ⟨k + 1, hlt, by go_num, fun j hj => by
          rcases Nat.lt_succ_iff_lt_or_eq.1 hj with hj | rfl
          · exact HA.out j hj
          · exact HE.out⟩
        case measure => simp [intOf]; omega
    · go_wp2
      go_ret
      exact ⟨ret_int (place_none (fun j hj => HA.out j (by have := HL.out; omega))).symm, rfl⟩

theorem contains_any (h : Rd ok w A n c 1 (us ls)) (hn : n ≤ 9223372036854775807) :
    Calls Try.prog 67 #[.slice A n c, .int .u64 x] w fun e w' => e = .returned (.bool (decide (x ∈ ls))) ∧ w = w' := by
  have HI := Lib.hid (index_any ls x A n c w ok h hn)
  have HB := Lib.hid (place_mem (ls := ls) (x := x))
  clear h
  go_enter Try.func67, Try.ntmps67
  go_wp2_with fail
  refine HI.out.mono ?_
  rintro e w1 ⟨rfl, rfl⟩
  go_wp2
  go_ret
  exact ⟨ret_bool (by rw [← decide_eq_decide.2 HB.out]), rfl⟩

theorem rplace_any (h : Rd ok w A n c 1 (us ls)) (hn : n ≤ 9223372036854775807) :
    Calls Try.prog 70 #[.slice A n c, .int .u64 x] w fun e w' => e = .returned (.int .i64 (place ls x)) ∧ w = w' := by
  have HL : Hid (ls.length = n) := by have := h.len; rw [us_len] at this; show _ = _; omega
  have HR := Lib.hid (fun hp => rd_us h hp)
  clear h
  go_enter Try.func70, Try.ntmps70
  go_wp2
  go_loop [5] (fun i => ∃ k : Nat, k ≤ n ∧ i = .int .i64 k ∧ ∀ j, j < k → ls.getD j 0 ≠ x) (fun i => n - (intOf i).toNat)
  case atStart => exact ⟨0, by omega, rfl, fun j hj => absurd hj (by omega)⟩
  case round =>
    obtain ⟨k, hk, rfl, hall⟩ := hrel
    have HA := Lib.hid hall
    clear hall
    by_cases hlt : k < n
    · obtain ⟨b, off, rfl, _, hc⟩ := HR.out (by omega)
      have hck := hc k hlt
      clear hc
      by_cases he : ls.getD k 0 = x
      · have HE := Lib.hid he
        rw [he] at hck
        clear he
        go_wp2
        go_ret
        exact ⟨ret_int (place_found (by have := HL.out; omega) HE.out HA.out).symm, rfl⟩
      · have HE := Lib.hid he
        obtain ⟨y, hy⟩ : ∃ y, y = ls.getD k 0 := ⟨_, rfl⟩
        rw [← hy] at hck he
        have e1 : (y == x) = false := by rw [beq_eq_false_iff_ne]; exact he
        have e2 : ((y : Int) == (x : Int)) = false := by rw [beq_eq_false_iff_ne]; omega
        clear hy he
        go_wp2
        go_round
        case rel => exact ⟨k + 1, hlt, by go_num, fun j hj => by
          rcases Nat.lt_succ_iff_lt_or_eq.1 hj with hj | rfl
          · exact HA.out j hj
          · exact HE.out⟩
        case measure => simp [intOf]; omega
    · go_wp2
      go_ret
      exact ⟨ret_int (place_none (fun j hj => HA.out j (by have := HL.out; omega))).symm, rfl⟩
end

theorem contains_yes (ls : List Nat) (x : Nat) (A : Option Addr) (n c : Nat) (w : World) (ok : Nat → Prop) (h : Rd ok w A n c 1 (us ls)) (hn : n ≤ 9223372036854775807) (hx : x ∈ ls) :
    Calls Try.prog 67 #[.slice A n c, .int .u64 x] w fun e w' => e = .returned (.bool true) ∧ w = w' :=
  (contains_any ls x A n c w ok h hn).mono fun _ _ ⟨he, hw⟩ => ⟨he.trans (ret_bool (by simp [hx])), hw⟩
theorem contains_no (ls : List Nat) (x : Nat) (A : Option Addr) (n c : Nat) (w : World) (ok : Nat → Prop) (h : Rd ok w A n c 1 (us ls)) (hn : n ≤ 9223372036854775807) (hx : x ∉ ls) :
    Calls Try.prog 67 #[.slice A n c, .int .u64 x] w fun e w' => e = .returned (.bool false) ∧ w = w' :=
  (contains_any ls x A n c w ok h hn).mono fun _ _ ⟨he, hw⟩ => ⟨he.trans (ret_bool (by simp [hx])), hw⟩

/-- Pair by pair, the later one first. -/
def Pairs (ls : List Nat) (i j : Nat) : Prop := (ls.getD i 0 ||| ls.getD j 0) ∈ ls ∧ (ls.getD i 0 &&& ls.getD j 0) ∈ ls
theorem closed_of {ls : List Nat} (h : ∀ i, i < ls.length → ∀ j, j < i → Pairs ls i j) : Closed ls := by
  intro i j hi hj
  rcases Nat.lt_trichotomy i j with hij | rfl | hij
  · have := h j hj i hij
    unfold Pairs at this
    rw [Nat.or_comm, Nat.and_comm] at this
    exact this
  · rw [Nat.or_self, Nat.and_self]
    have : ls.getD i 0 ∈ ls := by rw [List.getD_eq_getElem?_getD, List.getElem?_eq_getElem hi]; exact List.getElem_mem hi
    exact ⟨this, this⟩
  · exact h i hi j hij
theorem lt_mem {ls : List Nat} (hb : ∀ x ∈ ls, x < 18446744073709551616) (i : Nat) : ls.getD i 0 < 18446744073709551616 := by
  rw [List.getD_eq_getElem?_getD]
  rcases h : ls[i]? with _ | x
  · simp
  · simpa using hb x (List.mem_of_getElem? h)

section
variable (ls : List Nat) (A : Option Addr) (n c : Nat) (w : World) (ok : Nat → Prop)
set_option maxRecDepth 100000 in
set_option maxHeartbeats 800000 in
theorem check_any (h : Rd ok w A n c 1 (us ls)) (hb : ∀ x ∈ ls, x < 18446744073709551616) (hn : n ≤ 9223372036854775807) :
    Calls Try.prog 56 #[.slice A n c] w fun e w' => e = .returned (.int .i64 (chk ls)) ∧ ∃ q, w' = w.drewN q := by
  have HL : Hid (ls.length = n) := by have := h.len; rw [us_len] at this; show _ = _; omega
  by_cases h1 : n < 1
  · have HC : Hid (chk ls = 10) := chk_count (.inl (by have := HL.out; omega))
    clear h
    go_enter Try.func56, Try.ntmps56
    go_wp2
    go_ret
    exact ⟨ret_int HC.out.symm, 0, rfl⟩
  by_cases h2 : 16 < n
  · have HC : Hid (chk ls = 10) := chk_count (.inr (by have := HL.out; omega))
    clear h
    go_enter Try.func56, Try.ntmps56
    go_wp2
    go_ret
    exact ⟨ret_int HC.out.symm, 0, rfl⟩
  obtain ⟨b, off, rfl, _, hc⟩ := rd_us h (by omega)
  have hcap := h.cap
  have HR := Lib.hid h
  have HB := Lib.hid (lt_mem hb)
  have HC := Lib.hid hc
  clear h hc hb
  go_enter Try.func56, Try.ntmps56
  go_wp2
  go_loopw [3] (fun i wr => ∃ (m q : Nat), m + 1 ≤ n ∧ i = .int .i64 ((m : Int) + 1) ∧ wr = w.drewN q ∧ ∀ j, j < m → ls.getD j 0 < ls.getD (j + 1) 0) (fun i _ => n - (intOf i).toNat)
  case atStart => exact ⟨0, 0, by omega, rfl, rfl, fun j hj => absurd hj (by omega)⟩
  case round =>
    obtain ⟨m, q, hm, rfl, rfl, hall⟩ := hrel
    have HA := Lib.hid hall
    clear hall
    by_cases hlt : m + 1 < n
    · have c1 := HC.out m (by omega)
      have c2 := HC.out (m + 1) hlt
      obtain ⟨x, hx⟩ : ∃ x, x = ls.getD m 0 := ⟨_, rfl⟩
      obtain ⟨y, hy⟩ : ∃ y, y = ls.getD (m + 1) 0 := ⟨_, rfl⟩
      rw [← hx] at c1
      rw [← hy] at c2
      have i1 : (0 : Int) ≤ (m : Int) + 1 := by omega
      have i2 : (m : Int) + 1 < (n : Int) := by omega
      have i3 : ((m : Int) + 1).toNat = m + 1 := by omega
      have i4 : IntKind.i64.wrap ((m : Int) + 1 - 1) = (m : Int) := by rw [IntKind.wrap_i64]; omega
      have i5 : (m : Int) < (n : Int) := by omega
      by_cases hxy : x < y
      · have HX : Hid (ls.getD m 0 < ls.getD (m + 1) 0) := by show _ < _; rw [← hx, ← hy]; exact hxy
        clear hx hy
        have d1 : decide (y ≤ x) = false := by simpa using hxy
        have d2 : decide ((y : Int) ≤ (x : Int)) = false := by simpa using hxy
        go_wp2
        go_quiet (fail)
        go_wp2
        go_roundw
        case rel => exact ⟨m + 1, _, hlt, by go_num, rfl, fun j hj => by
          rcases Nat.lt_succ_iff_lt_or_eq.1 hj with hj | rfl
          · exact HA.out j hj
          · exact HX.out⟩
        case measure => simp [intOf]; omega
      · have HX : Hid (chk ls = 11) := by
          refine chk_rising (by have := HL.out; omega) (by have := HL.out; omega) (fun hr => hxy ?_)
          rw [hx, hy]; exact hr m (by have := HL.out; omega)
        clear hx hy
        have d1 : decide (y ≤ x) = true := by simpa using hxy
        have d2 : decide ((y : Int) ≤ (x : Int)) = true := by simpa using hxy
        go_wp2
        go_quiet (fail)
        go_wp2
        go_ret
        exact ⟨ret_int HX.out.symm, _, World.drewN_drewN _ _ _⟩
    · have HRI : Hid (Rising ls) := fun i hi => HA.out i (by have := HL.out; omega)
      clear HA
      go_wp2
      go_loopw [34] (fun i wr => ∃ (k q : Nat), k ≤ n ∧ i = .int .i64 k ∧ wr = w.drewN q ∧ ∀ i, i < k → ∀ j, j < i → Pairs ls i j) (fun i _ => n - (intOf i).toNat)
      case atStart => exact ⟨0, q, by omega, rfl, rfl, fun j hj => absurd hj (by omega)⟩
      case round =>
        obtain ⟨k, q2, hk, rfl, rfl, hall⟩ := hrel
        have HA := Lib.hid hall
        clear hall
        by_cases hlk : k < n
        · have c1 := HC.out k hlk
          obtain ⟨x, hx⟩ : ∃ x, x = ls.getD k 0 := ⟨_, rfl⟩
          have hxb := HB.out k
          rw [← hx] at c1 hxb
          have HX := Lib.hid hx
          clear hx
          have hkc : k ≤ c := by omega
          go_wp2
          go_loop [43] (fun i => ∃ j : Nat, j ≤ k ∧ i = .int .i64 j ∧ ∀ i, i < j → Pairs ls k i) (fun i => k - (intOf i).toNat)
          case atStart => exact ⟨0, by omega, rfl, fun j hj => absurd hj (by omega)⟩
          case round =>
            obtain ⟨j, hj, rfl, hall⟩ := hrel
            have HJ := Lib.hid hall
            clear hall
            by_cases hjk : j < k
            · have c2 := HC.out j (by omega)
              obtain ⟨y, hy⟩ : ∃ y, y = ls.getD j 0 := ⟨_, rfl⟩
              have hyb := HB.out j
              rw [← hy] at c2 hyb
              have HY := Lib.hid hy
              clear hy
              have HRd := Lib.hid (HR.out.move (w1 := w.drewN q2) (fun _ _ => rfl))
              go_wp2_with fail
              refine (join_any x y _ hxb hyb).mono ?_
              rintro e w1 ⟨rfl, rfl⟩
              by_cases hor : (x ||| y) ∈ ls
              · have HO := Lib.hid hor
                clear hor
                go_wp2_with fail
                refine (contains_yes ls (x ||| y) _ n c _ _ HRd.out hn HO.out).mono ?_
                rintro e w1 ⟨rfl, rfl⟩
                go_wp2_with fail
                refine (meet_any x y _ hxb hyb).mono ?_
                rintro e w1 ⟨rfl, rfl⟩
                by_cases han : (x &&& y) ∈ ls
                · have HN := Lib.hid han
                  clear han
                  go_wp2_with fail
                  refine (contains_yes ls (x &&& y) _ n c _ _ HRd.out hn HN.out).mono ?_
                  rintro e w1 ⟨rfl, rfl⟩
                  go_wp2
                  go_round
                  case rel => exact ⟨j + 1, hjk, by go_num, fun i hi => by
                    rcases Nat.lt_succ_iff_lt_or_eq.1 hi with hi | rfl
                    · exact HJ.out i hi
                    · unfold Pairs; rw [← HX.out, ← HY.out]; exact ⟨HO.out, HN.out⟩⟩
                  case measure => simp [intOf]; omega
                · have HN := Lib.hid han
                  clear han
                  have HF : Hid (chk ls = 12) := chk_closed (by have := HL.out; omega) (by have := HL.out; omega) HRI.out (fun hcl => HN.out (by
                    have := (hcl k j (by have := HL.out; omega) (by have := HL.out; omega)).2
                    rw [← HX.out, ← HY.out] at this; exact this))
                  go_wp2_with fail
                  refine (contains_no ls (x &&& y) _ n c _ _ HRd.out hn HN.out).mono ?_
                  rintro e w1 ⟨rfl, rfl⟩
                  go_wp2
                  go_ret
                  exact ⟨ret_int HF.out.symm, _, rfl⟩
              · have HO := Lib.hid hor
                clear hor
                have HF : Hid (chk ls = 12) := chk_closed (by have := HL.out; omega) (by have := HL.out; omega) HRI.out (fun hcl => HO.out (by
                  have := (hcl k j (by have := HL.out; omega) (by have := HL.out; omega)).1
                  rw [← HX.out, ← HY.out] at this; exact this))
                go_wp2_with fail
                refine (contains_no ls (x ||| y) _ n c _ _ HRd.out hn HO.out).mono ?_
                rintro e w1 ⟨rfl, rfl⟩
                go_wp2
                go_ret
                exact ⟨ret_int HF.out.symm, _, rfl⟩
            · obtain rfl : j = k := by omega
              go_wp2
              go_roundw
              case rel => exact ⟨j + 1, _, hlk, by go_num, rfl, fun i hi j' hj' => by
                rcases Nat.lt_succ_iff_lt_or_eq.1 hi with hi | rfl
                · exact HA.out i hi j' hj'
                · exact HJ.out j' hj'⟩
              case measure => simp [intOf]; omega
        · have HF : Hid (chk ls = 0) := chk_ok (by have := HL.out; omega) (by have := HL.out; omega) HRI.out (closed_of (fun i hi j hj => HA.out i (by have := HL.out; omega) j hj))
          go_wp2
          go_ret
          exact ⟨ret_int HF.out.symm, _, rfl⟩

end
end Go.Proofs.Ytchlolgfahgdeaa.Lck
