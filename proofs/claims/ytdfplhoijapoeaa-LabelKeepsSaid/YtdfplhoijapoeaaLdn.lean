/- label.Down by contract. Conditions: the labels read so. -/
import Derived.Test.YtdfplhoijapoeaaLkd
import Derived.Test.YtdfplhoijapoeaaLaw
set_option linter.unusedVariables false
set_option linter.unusedSimpArgs false
namespace Go.Proofs.Ytdfplhoijapoeaa.Ldn
open Go.RowKit Go.Proofs.Ytdfplhoijapoeaa.Lib1 Go.Proofs.Ytdfplhoijapoeaa.Rel Go.Proofs.Ytdfplhoijapoeaa.Own Go.Proofs.Ytdfplhoijapoeaa.Lat Go.Proofs.Ytdfplhoijapoeaa.Lbl Go.Proofs.Ytdfplhoijapoeaa.Lbw Go.Proofs.Ytdfplhoijapoeaa.Lck Go.Proofs.Ytdfplhoijapoeaa.Lkd
theorem info_int : ((Try.prog).info? 3).map (fun i => (i.zero, i.size, i.bytes)) = some (some (.int .i64 0), 1, 8) := by kernel_rfl
/-- The places of those at or below l. -/
def downs (ls : List Nat) (l : Nat) (k : Nat) : List Int := ((List.range k).filter fun i => leq (ls.getD i 0) l).map fun (i : Nat) => (i : Int)
theorem downs_yes {ls : List Nat} {l k : Nat} (h : leq (ls.getD k 0) l = true) : downs ls l (k + 1) = downs ls l k ++ [(k : Int)] := by
  unfold downs; rw [List.range_succ, List.filter_append, List.map_append, List.filter_cons_of_pos (by simpa using h)]; rfl
theorem downs_no {ls : List Nat} {l k : Nat} (h : leq (ls.getD k 0) l = false) : downs ls l (k + 1) = downs ls l k := by
  unfold downs; rw [List.range_succ, List.filter_append, List.map_append, List.filter_cons_of_neg (by simpa using h)]; simp
theorem downs_len (ls : List Nat) (l k : Nat) : (downs ls l k).length ≤ k := by
  unfold downs; rw [List.length_map]; exact Nat.le_trans (List.length_filter_le _ _) (by simp)
theorem downs_mem {ls : List Nat} {l n p : Nat} : ((p : Int) ∈ downs ls l n) ↔ p < n ∧ leq (ls.getD p 0) l = true := by
  unfold downs
  simp only [List.mem_map, List.mem_filter, List.mem_range]
  constructor
  · rintro ⟨i, h, e⟩
    have : i = p := by omega
    subst this
    exact h
  · intro h; exact ⟨p, h, rfl⟩

theorem down1_any (x l : Nat) (b : Nat) (w : World) (hx : x < 18446744073709551616) (hl : l < 18446744073709551616) (hb : w.cell? ⟨b, 0, none⟩ = some (.int .u64 (l : Int))) :
    Calls Try.prog 69 #[.int .u64 x, .pointer (some ⟨b, 0, none⟩)] w fun e w' => e = .returned (.bool (leq x l)) ∧ w = w' := by
  go_enter Try.func69, Try.ntmps69
  go_wp2_with fail
  refine (leq_any x l _ hx hl).mono ?_
  rintro e w1 ⟨rfl, rfl⟩
  go_wp2
  go_ret
  exact ⟨rfl, rfl⟩

def DnRel (w : World) (ls : List Nat) (l n : Nat) (v i : Value) (wr : World) : Prop := ∃ k : Nat, k ≤ n ∧ i = .int .i64 k ∧ OwnL (Kd.int .i64) 3 w.heap.size wr v (downs ls l k) ∧ Chg (fun _ => False) w wr
theorem int_flat (ok ok' : Nat → Prop) (w w' : World) (x : Int) (cs : List Value) (h : (Kd.int .i64).rel ok w x cs) : (Kd.int .i64).rel ok' w' x cs := h
set_option maxRecDepth 100000 in
set_option maxHeartbeats 1600000 in
theorem places_any (ls : List Nat) (l : Nat) (A : Option Addr) (n c b : Nat) (w : World) (ok : Nat → Prop) (h : Rd ok w A n c 1 (us ls)) (hok : ∀ k, ok k → k < w.heap.size) (hb : ∀ x ∈ ls, x < 18446744073709551616) (hl : l < 18446744073709551616) (hn : n * 8 ≤ 140737488351232)
    (hc : w.heap[b]? = some (.cells #[.int .u64 (l : Int)] 23 (0, 0))) :
    Calls Try.prog 68 #[.slice A n c, .func (.func 69) #[] #[.pointer (some ⟨b, 0, none⟩)]] w fun e w' => ∃ v, e = .returned v ∧ OwnL (Kd.int .i64) 3 w.heap.size w' v (downs ls l n) ∧ Chg (fun _ => False) w w' := by
  have HM : Hid (∀ w', Chg (fun _ => False) w w' → Rd ok w' A n c 1 (us ls)) := fun w' hc => h.move (fun k hk => hc.block k (hok k hk) (fun h => h))
  have HB := Lib.hid (lt_mem hb)
  have HC := Lib.hid hc
  clear h hok hb hc
  go_enter Try.func68, Try.ntmps68
  go_wp2
  go_loopw [5, 10] (fun v i wr => DnRel w ls l n v i wr) (fun _ i _ => n - (intOf i).toNat)
  case atStart => exact ⟨0, Nat.zero_le _, rfl, OwnL.nil _ _ _ _, Chg.refl _ _⟩
  case round =>
    obtain ⟨k, hk, rfl, ho, hcw⟩ := hrel
    have HO := Lib.hid ho
    have HW := Lib.hid hcw
    have hdl := downs_len ls l k
    obtain ⟨Av, cv, ev⟩ := ho.form
    have hsz := hcw.size
    subst ev
    clear ho hcw
    by_cases hlt : k < n
    · obtain ⟨g, off, rfl, _, hcell⟩ := rd_us (HM.out _ HW.out) (by omega)
      have q0 := hcell k hlt
      have hxb := HB.out k
      have HYes := Lib.hid (downs_yes (ls := ls) (l := l) (k := k))
      have HNo := Lib.hid (downs_no (ls := ls) (l := l) (k := k))
      generalize ls.getD k 0 = x at q0 hxb HYes HNo
      have kb := cell_at (HW.out.at_ HC.out (fun h => h)) 0 rfl
      clear hcell
      have i1 : (k : Int) < (n : Int) := by omega
      go_wp2_with fail
      refine (down1_any x l b _ hxb hl kb).mono ?_
      rintro e w2 ⟨rfl, rfl⟩
      cases hq : leq x l with
      | true =>
        have HQ := Lib.hid (HYes.out hq)
        clear hq
        go_wp2_with (at_builtin; refine ap_push rfl (.tmp 18) (.tmp 20) 30 rfl (Kd.int .i64) w.heap.size 3 8 (.int .i64 0) Try.underlying30 info_int rfl (by decide) (by decide) (.slice Av (downs ls l k).length cv) (downs ls l k) rfl HO.out (k : Int) _ rfl rfl ?bL ?bB ?_; (case bL => omega); (case bB => omega); intro v3 w3 o3 g3; obtain ⟨A3, c3, e3⟩ := o3.form; subst e3)
        go_roundw
        case rel => exact ⟨k + 1, hlt, by go_num, by rw [HQ.out]; have o4 := o3; simp only [List.length_append, List.length_singleton] at o4; exact o4, HW.out.trans g3 (fun j hj he => by have := (HO.out.low j he).1; omega)⟩
        case measure => simp [intOf]; omega
      | false =>
        have HQ := Lib.hid (HNo.out hq)
        clear hq
        go_wp2
        go_roundw
        case rel => exact ⟨k + 1, hlt, by go_num, by rw [HQ.out]; exact HO.out, HW.out⟩
        case measure => simp [intOf]; omega
    · have hkk : k = n := by omega
      have ho := HO.out
      rw [hkk] at ho
      have HO2 := Lib.hid ho
      clear ho
      go_wp2
      go_ret
      exact ⟨_, rfl, by rw [hkk]; exact HO2.out, HW.out⟩

theorem down_any (ls : List Nat) (l : Nat) (A : Option Addr) (n c : Nat) (w : World) (ok : Nat → Prop) (h : Rd ok w A n c 1 (us ls)) (hok : ∀ k, ok k → k < w.heap.size) (hb : ∀ x ∈ ls, x < 18446744073709551616) (hl : l < 18446744073709551616) (hn : n * 8 ≤ 140737488351232) :
    Calls Try.prog 43 #[.slice A n c, .int .u64 l] w fun e w' => ∃ v, e = .returned v ∧ OwnL (Kd.int .i64) 3 w.heap.size w' v (downs ls l n) ∧ Chg (fun _ => False) w w' := by
  have hmf : ∀ (fn : Fn) (first cap : Array Value) (w : World), (Instr.makeFunc fn first cap).run Try.prog w = .ok (.func fn first cap) w := fun _ _ _ _ => rfl
  have HC : Hid (∀ w', Chg (fun _ => False) w w' → ∀ b, w'.heap[b]? = some (.cells #[.int .u64 (l : Int)] 23 (0, 0)) → Calls Try.prog 68 #[.slice A n c, .func (.func 69) #[] #[.pointer (some ⟨b, 0, none⟩)]] w' fun e w1 => ∃ v, e = .returned v ∧ OwnL (Kd.int .i64) 3 w'.heap.size w1 v (downs ls l n) ∧ Chg (fun _ => False) w' w1) :=
    fun w' hc b hbb => places_any ls l A n c b w' ok (h.move (fun k hk => hc.block k (hok k hk) (fun h => h))) (fun k hk => Nat.lt_of_lt_of_le (hok k hk) hc.size) hb hl hn hbb
  clear h hok hb
  go_enter Try.func43, Try.ntmps43
  go_wp2_with fail
  refine (HC.out _ ((Chg.refl _ w).alloc _) _ (heap_new _ _)).mono ?_
  rintro e w1 ⟨v, rfl, ho, hc⟩
  have HO := Lib.hid ho
  have HC1 := Lib.hid hc
  clear ho hc
  go_wp2
  go_ret
  exact ⟨_, rfl, HO.out.base_le (by simp), ((Chg.refl _ w).alloc _).trans HC1.out (fun _ _ h => h)⟩
end Go.Proofs.Ytdfplhoijapoeaa.Ldn
