/- QueueDoes returns true, whatever the size and the script. Conditions: the script reads. -/
import Derived.Test.YtmlomceemcbnaaaQheld
set_option linter.unusedVariables false
set_option linter.unusedSimpArgs false
namespace Go.Proofs.Ytmlomceemcbnaaa.Qrun
open Go.RowKit Go.Proofs.Ytmlomceemcbnaaa.Lib1 Go.Proofs.Ytmlomceemcbnaaa.Q Go.Proofs.Ytmlomceemcbnaaa.Qstr Go.Proofs.Ytmlomceemcbnaaa.Qat Go.Proofs.Ytmlomceemcbnaaa.Qdoes Go.Proofs.Ytmlomceemcbnaaa.Qheld

theorem run_low (most : Int) (A : Option Addr) (n c : Nat) (w : World) (h : most < 0) : Calls Try.prog 8 #[.int .i64 most, .slice A n c] w fun e w' => e = .returned (.bool true) ∧ Below w.heap.size w w' := by
  go_enter Try.func8, Try.ntmps8
  go_wp2_with fail
  refine (Qref.new_low most _ h).mono ?_
  rintro e w1 ⟨rfl, c1⟩
  go_wp2_with fail
  refine (Qstr.new_low most _ h).mono ?_
  rintro e w2 ⟨rfl, rfl⟩
  go_wp2_with fail
  refine (Qfix.fixed_any _).mono ?_
  rintro e w3 ⟨rfl, c3⟩
  go_wp2
  go_ret
  exact ⟨rfl, ((c1.alloc _).trans c3 (fun _ _ h => h.elim)).below⟩
theorem run_high (most : Int) (A : Option Addr) (n c : Nat) (w : World) (h0 : 0 ≤ most) (h : 65536 < most) : Calls Try.prog 8 #[.int .i64 most, .slice A n c] w fun e w' => e = .returned (.bool true) ∧ Below w.heap.size w w' := by
  go_enter Try.func8, Try.ntmps8
  go_wp2_with fail
  refine (Qref.new_high most _ h0 h).mono ?_
  rintro e w1 ⟨rfl, c1⟩
  go_wp2_with fail
  refine (Qstr.new_high most _ h0 h).mono ?_
  rintro e w2 ⟨rfl, rfl⟩
  go_wp2_with fail
  refine (Qfix.fixed_any _).mono ?_
  rintro e w3 ⟨rfl, c3⟩
  go_wp2
  go_ret
  exact ⟨rfl, ((c1.alloc _).trans c3 (fun _ _ h => h.elim)).below⟩

def RunRel (w : World) (n : Nat) (bx : Nat) (p : Option Addr) (most : Int) (i : Value) (wr : World) : Prop := ∃ k : Nat, k ≤ n ∧ i = .int .i64 k ∧ Held w wr bx p most

set_option maxRecDepth 100000 in
set_option maxHeartbeats 4000000 in
theorem run_ok (most : Int) (A : Option Addr) (n c : Nat) (w : World) (f : Nat → Int × ByteArray) (hs : Script w A n f) (h0 : 0 ≤ most) (h : most ≤ 65536) : Calls Try.prog 8 #[.int .i64 most, .slice A n c] w fun e w' => e = .returned (.bool true) ∧ Below w.heap.size w w' := by
  have hsm := hs.small
  have HS := Lib.hid hs
  clear hs
  go_enter Try.func8, Try.ntmps8
  go_wp2_with fail
  refine (Qref.new_ok most _ h0 h).mono ?_
  rintro e w1 ⟨rfl, c1⟩
  go_wp2_with fail
  refine (Qstr.new_ok most _ h0 h).mono ?_
  rintro e w2 ⟨rfl, hw2⟩
  have hs1 := c1.size
  have q2 : HeldAt w w2 w1.heap.size (some ⟨w1.heap.size + 1, 0, none⟩) most none (.slice none 0 0) [] := by
    refine HeldAt.new h0 h ?_ ?_ hs1 (by omega) (by omega) ?_
    · rw [hw2]; exact heap_old _ (heap_new w1 _)
    · rw [hw2]
      have := IsQ.new (QT := QT) (ET := ET) (w1.alloc (.cells #[.int .i64 most, .slice none 0 0] QR)) h0 h
      rwa [World.size_alloc] at this
    · rw [hw2]; exact (c1.alloc _).alloc _
  simp only [World.size_alloc]
  clear hw2
  go_wp2_with fail
  refine (Qfix.fixed_any _).mono ?_
  rintro e w3 ⟨rfl, c3⟩
  have q3 := Lib.hid (q2.up c3)
  obtain ⟨bx, hbx⟩ : ∃ bx, bx = w1.heap.size := ⟨_, rfl⟩
  simp only [← hbx] at q3 ⊢
  clear q2 c3 c1 hs1 hbx
  go_wp2
  go_loopw [38] (fun i wr => RunRel w n bx (some ⟨bx + 1, 0, none⟩) most i wr) (fun i _ => n - (intOf i).toNat)
  case atStart => exact ⟨0, Nat.zero_le _, rfl, _, _, _, q3.out⟩
  case round =>
    obtain ⟨k, hk, rfl, l, v, ss, hh⟩ := hrel
    obtain ⟨A1, c1, rfl, -⟩ := Rd.of_own hh.agree.own.choose_spec
    by_cases hlt : k < n
    · obtain ⟨g, off, rfl, hg, s0, s1⟩ := HS.out.at_ k hlt
      have hb := cells2 hh.box
      obtain ⟨k0, k1, k2, k3⟩ := hb
      have t0 := (World.cell?_of_block (hh.chg.block g hg (fun h => h)) (a := ⟨g, off + k * 2, none⟩)).trans s0
      have t1 := (World.cell?_of_block (hh.chg.block g hg (fun h => h)) (a := ⟨g, off + k * 2 + 1, none⟩)).trans s1
      have HH := Lib.hid hh
      have hbl := lt_of wr hh.box
      clear hh s0 s1
      go_wp2_with fail
      refine (does_any _ _ _ _ _ ss (f k).1 (f k).2 (HH.out.up ((Chg.refl _ wr).alloc _)).agree (fun _ h => by cases h)).mono ?_
      rintro e w5 ⟨v', l', rfl, ha, hl, hv, hc⟩
      obtain ⟨A2, c2, rfl, -⟩ := Rd.of_own ha.own.choose_spec
      have hh1 := HH.out.up ((Chg.refl (fun _ => False) wr).alloc (.cells #[.int .i64 (f k).1, .string (f k).2] 72))
      have hb5 : w5.heap[bx]? = some (.cells #[.int .i64 most, .slice A1 ss.length c1] QR (0, 0)) := hc.at_ hh1.box (fun h => (hh1.apart bx (.inl h)).2 rfl)
      obtain ⟨z0, z1, z2, z3⟩ := cells2 hb5
      have HN := Lib.hid (fun wf => hh1.step (wf := wf) ha hl hv hc)
      have hbl5 := lt_of w5 hb5
      clear ha hl hv hc hh1
      go_wp2_with fail
      go_roundw
      case rel =>
        refine ⟨k + 1, hlt, rfl, _, _, _, HN.out _ ((((Chg.refl (fun k => k = bx) w5).set (.inr rfl)).set (.inr rfl)).alloc _) ?_⟩
        refine heap_old _ ?_
        have := heap_set (heap_set hb5 0 (.int .i64 most)) 1 (.slice A2 (after most ss (f k).1 (f k).2).length c2)
        simpa using this
      case measure => simp [intOf]; omega
    · obtain rfl : k = n := by omega
      have HH := Lib.hid hh
      have hsl := hh.agree.few
      clear hh
      go_wp2_with fail
      refine (walked_at _ _ _ most ss HH.out.agree.q).mono ?_
      rintro e w4 ⟨v1, rfl, ho1, hc1⟩
      obtain ⟨A3, c3, rfl, hrd1⟩ := Rd.of_own ho1
      have hh4 := HH.out.up hc1
      obtain ⟨base, ho4⟩ := hh4.agree.own
      obtain ⟨_, _, e9, hrd0⟩ := Rd.of_own ho4
      cases e9
      obtain ⟨k0, k1, -, -⟩ := cells2 hh4.box
      have HE : Hid (∀ m, Calls Try.prog 35 #[.slice A3 ss.length c3, .slice A1 ss.length c1] (w4.drewN m) fun e w' => e = .returned (.bool true) ∧ ∃ m', w' = (w4.drewN m).drewN m') :=
        fun m => equal_same ss.length (by omega) A3 A1 c3 c1 ss (w4.drewN m) _ _ (hrd1.move (fun _ _ => rfl)) (hrd0.move (fun _ _ => rfl))
      have HL : Hid (∀ m, Calls Try.prog 17 #[.pointer (some ⟨bx + 1, 0, none⟩)] (w4.drewN m) fun e w' => e = .returned (.int .i64 (ss.length : Int)) ∧ w4.drewN m = w') :=
        fun m => len_at (w4.drewN m) _ l most ss (hh4.up (Chg.draws w4 _ m)).agree.q
      have HC := Lib.hid hh4.chg
      clear hh4 ho4 ho1 hrd1 hrd0 hc1
      go_wp2_with fail
      go_quiet (first | (go_at_call 35; refine (HE.out _).mono ?_; rintro e w' ⟨rfl, m', rfl⟩; exact ⟨rfl, _, World.drewN_drewN _ _ _⟩) | (go_at_call 17; refine (HL.out _).mono ?_; rintro e w' ⟨rfl, rfl⟩; exact ⟨rfl, _, rfl⟩))
      go_wp2
      go_ret
      exact ⟨rfl, (HC.out.drewN _).below⟩

theorem run_walk (most : Int) {A : Option Addr} {n c : Nat} {y : List (Int × ByteArray × Unit)} (w : World) (hr : (Rel.Kd.slice 24 stepK).rel (fun k => k < w.heap.size) w y [.slice A n c]) (hf : (Rel.Kd.slice 24 stepK).fits y) :
    Calls Try.prog 8 #[.int .i64 most, .slice A n c] w fun e w' => e = .returned (.bool true) ∧ Below w.heap.size w w' := by
  obtain ⟨f, hs⟩ := script_of hr hf
  by_cases h0 : most < 0
  · exact run_low most A n c w h0
  · by_cases h1 : 65536 < most
    · exact run_high most A n c w (by omega) h1
    · exact run_ok most A n c w f hs (by omega) (by omega)
end Go.Proofs.Ytmlomceemcbnaaa.Qrun
