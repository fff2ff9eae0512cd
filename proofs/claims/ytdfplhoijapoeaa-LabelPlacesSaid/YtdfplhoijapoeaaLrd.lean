/- The document's Down and Up, by contract. Conditions: the labels read so. -/
import Derived.Test.YtdfplhoijapoeaaLdn
import Derived.Test.YtdfplhoijapoeaaLup
set_option linter.unusedVariables false
set_option linter.unusedSimpArgs false
namespace Go.Proofs.Ytdfplhoijapoeaa.Lrd
open Go.RowKit Go.Proofs.Ytdfplhoijapoeaa.Lib1 Go.Proofs.Ytdfplhoijapoeaa.Rel Go.Proofs.Ytdfplhoijapoeaa.Own Go.Proofs.Ytdfplhoijapoeaa.Lat Go.Proofs.Ytdfplhoijapoeaa.Lbl Go.Proofs.Ytdfplhoijapoeaa.Lbw Go.Proofs.Ytdfplhoijapoeaa.Lck Go.Proofs.Ytdfplhoijapoeaa.Lkd Go.Proofs.Ytdfplhoijapoeaa.Ldn
set_option maxRecDepth 100000 in
set_option maxHeartbeats 1600000 in
theorem rdown_any (ls : List Nat) (l : Nat) (A : Option Addr) (n c : Nat) (w : World) (ok : Nat → Prop) (h : Rd ok w A n c 1 (us ls)) (hok : ∀ k, ok k → k < w.heap.size) (hb : ∀ x ∈ ls, x < 18446744073709551616) (hl : l < 18446744073709551616) (hn : n * 8 ≤ 140737488351232) :
    Calls Try.prog 44 #[.slice A n c, .int .u64 (l : Int)] w fun e w' => ∃ v, e = .returned v ∧ OwnL (Kd.int .i64) 3 w.heap.size w' v (Ldn.downs ls l n) ∧ Chg (fun _ => False) w w' := by
  have HM : Hid (∀ w', Chg (fun _ => False) w w' → Rd ok w' A n c 1 (us ls)) := fun w' hc => h.move (fun k hk => hc.block k (hok k hk) (fun h => h))
  have HB := Lib.hid (lt_mem hb)
  clear h hok hb
  go_enter Try.func44, Try.ntmps44
  go_wp2
  go_loopw [5, 6] (fun v i wr => Ldn.DnRel w ls l n v i wr) (fun _ i _ => n - (intOf i).toNat)
  case atStart => exact ⟨0, Nat.zero_le _, rfl, OwnL.nil _ _ _ _, Chg.refl _ _⟩
  case round =>
    obtain ⟨k, hk, rfl, ho, hcw⟩ := hrel
    have HO := Lib.hid ho
    have HW := Lib.hid hcw
    have hdl := Ldn.downs_len ls l k
    obtain ⟨Av, cv, ev⟩ := ho.form
    have hsz := hcw.size
    subst ev
    clear ho hcw
    by_cases hlt : k < n
    · obtain ⟨g, off, rfl, _, hcell⟩ := rd_us (HM.out _ HW.out) (by omega)
      have q0 := hcell k hlt
      have hxb := HB.out k
      have HYes := Lib.hid (Ldn.downs_yes (ls := ls) (l := l) (k := k))
      have HNo := Lib.hid (Ldn.downs_no (ls := ls) (l := l) (k := k))
      generalize ls.getD k 0 = x at q0 hxb HYes HNo
      clear hcell
      have i1 : (k : Int) < (n : Int) := by omega
      go_wp2_with fail
      refine (rleq_any x l _ hxb hl).mono ?_
      rintro e w2 ⟨rfl, rfl⟩
      cases hq : leq x l with
      | true =>
        have HQ := Lib.hid (HYes.out hq)
        clear hq
        go_wp2_with (at_builtin; refine ap_push rfl (.tmp 19) (.tmp 21) 30 rfl (Kd.int .i64) w.heap.size 3 8 (.int .i64 0) Try.underlying30 info_int rfl (by decide) (by decide) (.slice Av (Ldn.downs ls l k).length cv) (Ldn.downs ls l k) rfl HO.out (k : Int) _ rfl rfl ?bL ?bB ?_; (case bL => omega); (case bB => omega); intro v3 w3 o3 g3; obtain ⟨A3, c3, e3⟩ := o3.form; subst e3)
        go_roundw
        case rel => exact ⟨k + 1, hlt, by go_num, by rw [HQ.out]; have o4 := o3; simp only [List.length_append, List.length_singleton] at o4; exact o4, HW.out.trans g3 (fun j hj he => by have := (HO.out.low j he).1; omega)⟩
        case measure => simp [intOf]; omega
      | false =>
        have HQ := Lib.hid (HNo.out hq)
        clear hq
        go_wp2
        go_roundw
        case rel => exact ⟨k + 1, hlt, by go_num, by rw [HQ.out]; exact HO.out, HW.out⟩
        case measure => simp [intOf]; omega
    · have hkk : k = n := by omega
      have ho := HO.out
      rw [hkk] at ho
      subst hkk
      go_wp2
      go_ret
      exact ⟨_, rfl, ho, HW.out⟩
set_option maxRecDepth 100000 in
set_option maxHeartbeats 1600000 in
theorem rup_any (ls : List Nat) (l : Nat) (A : Option Addr) (n c : Nat) (w : World) (ok : Nat → Prop) (h : Rd ok w A n c 1 (us ls)) (hok : ∀ k, ok k → k < w.heap.size) (hb : ∀ x ∈ ls, x < 18446744073709551616) (hl : l < 18446744073709551616) (hn : n * 8 ≤ 140737488351232) :
    Calls Try.prog 46 #[.slice A n c, .int .u64 (l : Int)] w fun e w' => ∃ v, e = .returned v ∧ OwnL (Kd.int .i64) 3 w.heap.size w' v (Lup.downs ls l n) ∧ Chg (fun _ => False) w w' := by
  have HM : Hid (∀ w', Chg (fun _ => False) w w' → Rd ok w' A n c 1 (us ls)) := fun w' hc => h.move (fun k hk => hc.block k (hok k hk) (fun h => h))
  have HB := Lib.hid (lt_mem hb)
  clear h hok hb
  go_enter Try.func46, Try.ntmps46
  go_wp2
  go_loopw [5, 6] (fun v i wr => Lup.DnRel w ls l n v i wr) (fun _ i _ => n - (intOf i).toNat)
  case atStart => exact ⟨0, Nat.zero_le _, rfl, OwnL.nil _ _ _ _, Chg.refl _ _⟩
  case round =>
    obtain ⟨k, hk, rfl, ho, hcw⟩ := hrel
    have HO := Lib.hid ho
    have HW := Lib.hid hcw
    have hdl := Lup.downs_len ls l k
    obtain ⟨Av, cv, ev⟩ := ho.form
    have hsz := hcw.size
    subst ev
    clear ho hcw
    by_cases hlt : k < n
    · obtain ⟨g, off, rfl, _, hcell⟩ := rd_us (HM.out _ HW.out) (by omega)
      have q0 := hcell k hlt
      have hxb := HB.out k
      have HYes := Lib.hid (Lup.downs_yes (ls := ls) (l := l) (k := k))
      have HNo := Lib.hid (Lup.downs_no (ls := ls) (l := l) (k := k))
      generalize ls.getD k 0 = x at q0 hxb HYes HNo
      clear hcell
      have i1 : (k : Int) < (n : Int) := by omega
      go_wp2_with fail
      refine (rleq_any l x _ hl hxb).mono ?_
      rintro e w2 ⟨rfl, rfl⟩
      cases hq : leq l x with
      | true =>
        have HQ := Lib.hid (HYes.out hq)
        clear hq
        go_wp2_with (at_builtin; refine ap_push rfl (.tmp 19) (.tmp 21) 30 rfl (Kd.int .i64) w.heap.size 3 8 (.int .i64 0) Try.underlying30 info_int rfl (by decide) (by decide) (.slice Av (Lup.downs ls l k).length cv) (Lup.downs ls l k) rfl HO.out (k : Int) _ rfl rfl ?bL ?bB ?_; (case bL => omega); (case bB => omega); intro v3 w3 o3 g3; obtain ⟨A3, c3, e3⟩ := o3.form; subst e3)
        go_roundw
        case rel => exact ⟨k + 1, hlt, by go_num, by rw [HQ.out]; have o4 := o3; simp only [List.length_append, List.length_singleton] at o4; exact o4, HW.out.trans g3 (fun j hj he => by have := (HO.out.low j he).1; omega)⟩
        case measure => simp [intOf]; omega
      | false =>
        have HQ := Lib.hid (HNo.out hq)
        clear hq
        go_wp2
        go_roundw
        case rel => exact ⟨k + 1, hlt, by go_num, by rw [HQ.out]; exact HO.out, HW.out⟩
        case measure => simp [intOf]; omega
    · have hkk : k = n := by omega
      have ho := HO.out
      rw [hkk] at ho
      subst hkk
      go_wp2
      go_ret
      exact ⟨_, rfl, ho, HW.out⟩
end Go.Proofs.Ytdfplhoijapoeaa.Lrd
