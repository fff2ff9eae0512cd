/- The law's withRoom, by contract. Conditions: the row reads so. -/
import Derived.Test.YtdfplhoijapoeaaLaw
set_option linter.unusedVariables false
set_option linter.unusedSimpArgs false
namespace Go.Proofs.Ytdfplhoijapoeaa.Lwr
open Go.RowKit Go.Proofs.Ytdfplhoijapoeaa.Lib1 Go.Proofs.Ytdfplhoijapoeaa.Lat Go.Proofs.Ytdfplhoijapoeaa.Lbl Go.Proofs.Ytdfplhoijapoeaa.Lbw Go.Proofs.Ytdfplhoijapoeaa.Lck Go.Proofs.Ytdfplhoijapoeaa.Lkc
theorem us_one (ls : List Nat) : ∀ u ∈ us ls, u.oneCell' = true := fun u hu => by
  unfold us at hu
  obtain ⟨x, _, rfl⟩ := List.mem_map.1 hu
  rfl
def room (ls : List Nat) (k : Nat) : List Nat := ls ++ (List.range k).map (9000 + ·)
theorem room_succ (ls : List Nat) (k : Nat) : room ls (k + 1) = room ls k ++ [9000 + k] := by simp [room, List.range_succ]
theorem room_len (ls : List Nat) (k : Nat) : (room ls k).length = ls.length + k := by simp [room]
set_option maxRecDepth 100000 in
set_option maxHeartbeats 1600000 in
theorem room_any (ls : List Nat) (A : Option Addr) (n c : Nat) (w : World) (ok : Nat → Prop) (h : Rd ok w A n c 1 (us ls)) (hok : ∀ k, ok k → k < w.heap.size) (hn : n * 8 ≤ 140737488351232) :
    Calls Try.prog 39 #[.slice A n c] w fun e w' => ∃ v, e = .returned v ∧ w'.ownsRow w.heap.size 23 1 v (n + 70) (us (room ls 70)) ∧ Chg (fun _ => False) w w' := by
  have HL : Hid (ls.length = n) := by have := h.len; rw [us_len] at this; show _ = _; omega
  have HR := Lib.hid h.any
  have HO := Lib.hid (us_one ls)
  clear h hok
  go_enter Try.func39, Try.ntmps39
  go_wp2_with (at_builtin; refine ap_src rfl (Operand.const (.slice none 0 0)) (.tmp 5) 28 rfl w.heap.size 23 1 8 (.int .u64 0) Try.underlying28 infoL rfl (by decide) (by decide) (.slice none 0 0) 0 [] rfl (World.ownsRow_nil _ _ _ _) A n c (us ls) rfl HR.out HO.out (by omega) (Nat.le_refl _) ?_; intro v1 w1 o1 g1 r1)
  have HO1 : Hid (w1.ownsRow w.heap.size 23 1 v1 (n + 0) (us (room ls 0))) := by show World.ownsRow _ _ _ _ _ _ _; simpa [room] using o1
  have HC1 : Hid (Chg (fun _ => False) w w1) := (Chg.refl _ w).of_grown g1 (fun k hk => by simp [Value.ownBlock] at hk)
  clear o1 g1 r1
  go_wp2
  go_loopw [3, 4] (fun v i wr => ∃ k : Nat, k ≤ 70 ∧ i = .int .i64 k ∧ wr.ownsRow w.heap.size 23 1 v (n + k) (us (room ls k)) ∧ Chg (fun _ => False) w wr) (fun _ i _ => 70 - (intOf i).toNat)
  case atStart => exact ⟨0, by omega, rfl, HO1.out, HC1.out⟩
  case round =>
    obtain ⟨k, hk, rfl, ho, hc⟩ := hrel
    obtain ⟨A1, c1, rfl, -⟩ := Rd.of_own ho
    have HO2 := Lib.hid ho
    have HC2 := Lib.hid hc
    have hsz := hc.size
    clear ho hc HO1 HC1
    by_cases hlt : k < 70
    · have i1 : IntKind.i64.wrap (9000 + (k : Int)) = 9000 + (k : Int) := by rw [IntKind.wrap_i64]; omega
      have i2 : IntKind.u64.wrap (9000 + (k : Int)) = ((9000 + k : Nat) : Int) := by simp [IntKind.wrap, IntKind.bits, IntKind.signed]; omega
      have i3 : (k : Int) < 70 := by omega
      go_wp2_with (at_builtin; refine ap_one rfl (.tmp 11) (.tmp 15) 28 rfl w.heap.size 23 1 8 (.int .u64 0) Try.underlying28 infoL rfl (by decide) (by decide) (.slice A1 (n + k) c1) (n + k) _ rfl HO2.out #[.int .u64 ((9000 + k : Nat) : Int)] rfl rfl (by simp [Value.oneCell']) (by omega) hsz ?_; intro v2 w2 o2 g2 r2)
      go_roundw
      case rel => exact ⟨k + 1, by omega, by go_num, by rw [room_succ]; simpa [us, Nat.add_assoc] using o2, HC2.out.of_grown g2 (fun j hj => .inl (HO2.out.lt j hj).1)⟩
      case measure => simp [intOf]; omega
    · have : k = 70 := by omega
      subst this
      go_wp2
      go_ret
      exact ⟨_, rfl, HO2.out, HC2.out⟩
end Go.Proofs.Ytdfplhoijapoeaa.Lwr
