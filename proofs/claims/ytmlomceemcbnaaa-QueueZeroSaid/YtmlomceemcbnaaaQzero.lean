/- QueueZero returns true, whatever the script. Conditions: the script reads. -/
import Derived.Test.YtmlomceemcbnaaaQheld
set_option linter.unusedVariables false
set_option linter.unusedSimpArgs false
namespace Go.Proofs.Ytmlomceemcbnaaa.Qzero
open Go.RowKit Go.Proofs.Ytmlomceemcbnaaa.Lib1 Go.Proofs.Ytmlomceemcbnaaa.Q Go.Proofs.Ytmlomceemcbnaaa.Qstr Go.Proofs.Ytmlomceemcbnaaa.Qat Go.Proofs.Ytmlomceemcbnaaa.Qdoes Go.Proofs.Ytmlomceemcbnaaa.Qheld

/-- Behind a step whose new value is let go. -/
theorem same {W w w' : World} {bx : Nat} {p : Option Addr} {most : Int} {l l' : Option Nat} {v v' : Value} {ss : List ByteArray} (h : HeldAt W w bx p most l v ss) (ha : Agree w' p l' most v' ss) (hl : Fresh w l l') (hc : Chg (Mine p l) w w') : HeldAt W w' bx p most l' v ss := by
  have hbw := lt_of w h.box
  have hW := h.chg.size
  have hvl := fun k hk => h.agree.lt k (.inr hk)
  obtain ⟨base, ho⟩ := h.agree.own
  have hm : ∀ k, Mine p l' k → Mine p l k ∨ w.heap.size ≤ k := fun k hk => by
    rcases hl with rfl | hl
    · exact .inl hk
    · rcases hk with hk | hk
      · exact .inl (.inl hk)
      · exact .inr (hl k hk.symm)
  refine ⟨hc.at_ h.box (fun e => (h.apart bx (.inl e)).2 rfl), ⟨ha.q, ⟨base, own_chg hc ho (fun k hk => h.agree.apart k hk)⟩, fun k hk hk2 => ?_, ha.few, ha.size⟩, ?_, h.low, ?_⟩
  · rcases hm k hk2 with h1 | h1
    · exact h.agree.apart k hk h1
    · have := hvl k hk; omega
  · rintro k (hk | hk)
    · rcases hm k hk with h1 | h1
      · exact h.apart k (.inl h1)
      · omega
    · exact h.apart k (.inr hk)
  · exact h.chg.trans hc (fun k hk e => by have := (h.apart k (.inl e)).1; omega)
theorem after_zero (k : Int) (s : ByteArray) : after 0 [] k s = [] := by
  unfold after
  split
  · simp
  · split <;> simp

def ZeroRel (w : World) (n bx : Nat) (p : Option Addr) (i : Value) (wr : World) : Prop := ∃ k : Nat, k ≤ n ∧ i = .int .i64 k ∧ ∃ l, HeldAt w wr bx p 0 l (.slice none 0 0) []
theorem agree_none (w : World) : Agree w none none 0 (.slice none 0 0) [] :=
  ⟨.inl ⟨rfl, rfl, rfl⟩, ⟨0, World.ownsRow_nil _ _ _ _⟩, (fun k hk => by cases hk), (by simp), (by omega)⟩

set_option maxRecDepth 100000 in
set_option maxHeartbeats 4000000 in
theorem zero_ok (A : Option Addr) (n c : Nat) (w : World) (f : Nat → Int × ByteArray) (hs : Script w A n f) : Calls Try.prog 10 #[.slice A n c] w fun e w' => e = .returned (.bool true) ∧ Below w.heap.size w w' := by
  have hsm := hs.small
  have HS := Lib.hid hs
  clear hs
  go_enter Try.func10, Try.ntmps10
  go_wp2_with fail
  refine (Qfix.fixed_any _).mono ?_
  rintro e w1 ⟨rfl, c1⟩
  have q3 : HeldAt w ((w1.alloc (.cells #[.int .i64 0, .slice none 0 0, .int .i64 0, .int .i64 0] QT)).alloc (.cells #[.int .i64 0, .slice none 0 0] QR)) (w1.heap.size + 1) (some ⟨w1.heap.size, 0, none⟩) 0 none (.slice none 0 0) [] := by
    refine HeldAt.new (by omega) (by omega) (heap_new' _ _ (by simp)) ?_ (by have := c1.size; omega) c1.size (by omega) ((c1.alloc _).alloc _)
    exact (IsQ.new (QT := QT) (ET := ET) w1 (by omega) (by omega)).kept ((Chg.refl (fun _ => False) _).alloc _) (fun h => h) (fun _ _ h => h)
  replace q3 := Lib.hid q3
  obtain ⟨b, hb⟩ : ∃ b, b = w1.heap.size := ⟨_, rfl⟩
  simp only [← hb] at q3
  go_wp2_with fail
  simp only [← hb]
  go_loopw [17] (fun i wr => ZeroRel w n (b + 1) (some ⟨b, 0, none⟩) i wr) (fun i _ => n - (intOf i).toNat)
  case atStart => exact ⟨0, Nat.zero_le _, rfl, _, q3.out⟩
  case round =>
    obtain ⟨k, hk, rfl, l, hh⟩ := hrel
    clear q3 c1 hb
    by_cases hlt : k < n
    · obtain ⟨g, off, rfl, hg, s0, s1⟩ := HS.out.at_ k hlt
      obtain ⟨k0, k1, k2, k3⟩ := cells2 hh.box
      have t0 := (World.cell?_of_block (hh.chg.block g hg (fun h => h)) (a := ⟨g, off + k * 2, none⟩)).trans s0
      have t1 := (World.cell?_of_block (hh.chg.block g hg (fun h => h)) (a := ⟨g, off + k * 2 + 1, none⟩)).trans s1
      have hh1 := hh.up ((Chg.refl (fun _ => False) wr).alloc (.cells #[.int .i64 (f k).1, .string (f k).2] 72))
      have HH := Lib.hid hh1
      have hml := fun j (h : Mine (some ⟨b, 0, none⟩) l j) => hh.agree.lt j (.inl h)
      have hbl := lt_of wr hh.box
      clear hh s0 s1 hh1
      go_wp2_with fail
      refine (does_any _ _ _ _ _ [] (f k).1 (f k).2 HH.out.agree (fun _ h => by cases h)).mono ?_
      rintro e w5 ⟨v', l', rfl, ha, hl, hv, hc⟩
      obtain ⟨A2, c2, rfl, -⟩ := Rd.of_own ha.own.choose_spec
      rw [after_zero] at ha ⊢
      have hh5 := same HH.out ha hl hc
      obtain ⟨z0, z1, -, -⟩ := cells2 hh5.box
      obtain ⟨y0, y1, -, -⟩ := cells2 (hc.at_ (heap_new wr (.cells #[.int .i64 (f k).1, .string (f k).2] 72)) (fun h => by have := hml _ h; omega))
      have H5 := Lib.hid hh5
      have hbl5 := lt_of w5 hh5.box
      have hs5 : wr.heap.size < w5.heap.size := by have := hc.size; simp at this; omega
      clear hc ha hl hv hh5 hml HH
      by_cases h0 : (f k).1 = 0
      · have hb0 : ((f k).1 == 0) = true := by simpa using h0
        have hb1 : ((f k).1 != 0) = false := by simpa using h0
        go_wp2_with fail
        refine (Qstr.push_nil (f k).2 _).mono ?_
        rintro e w6 ⟨rfl, rfl⟩
        go_wp2_with fail
        go_roundw
        case rel => exact ⟨k + 1, hlt, rfl, _, H5.out.up ((Chg.refl _ w5).alloc _)⟩
        case measure => simp [intOf]; omega
      · have hb0 : ((f k).1 == 0) = false := by simpa using h0
        have hb1 : ((f k).1 != 0) = true := by simpa using h0
        go_wp2_with fail
        refine (does_any _ none none 0 (.slice none 0 0) [] (f k).1 (f k).2 (agree_none _) (fun h => absurd h h0)).mono ?_
        rintro e w6 ⟨v6, l6, rfl, ha6, hl6, hv6, hc6⟩
        obtain ⟨A3, c3, rfl, -⟩ := Rd.of_own ha6.own.choose_spec
        have hc6' : Chg (fun _ => False) (w5.alloc (.cells #[.int .i64 0, .slice A2 0 c2] QR)) w6 := hc6.mono (fun j _ h => by rcases h with h | h <;> cases h)
        have H6 := Lib.hid ((H5.out.up ((Chg.refl _ w5).alloc _)).up hc6')
        clear hc6 hc6' ha6 hl6 hv6 H5
        go_wp2_with fail
        go_roundw
        case rel => exact ⟨k + 1, hlt, rfl, _, H6.out.up ((Chg.refl _ w6).alloc _)⟩
        case measure => simp [intOf]; omega
    · obtain rfl : k = n := by omega
      have hc := Lib.hid hh.chg
      clear hh
      go_wp2
      go_ret
      exact ⟨rfl, hc.out.below⟩

theorem zero_walk {A : Option Addr} {n c : Nat} {y : List (Int × ByteArray × Unit)} (w : World) (hr : (Rel.Kd.slice 24 stepK).rel (fun k => k < w.heap.size) w y [.slice A n c]) (hf : (Rel.Kd.slice 24 stepK).fits y) :
    Calls Try.prog 10 #[.slice A n c] w fun e w' => e = .returned (.bool true) ∧ Below w.heap.size w w' := by
  obtain ⟨f, hs⟩ := script_of hr hf
  exact zero_ok A n c w f hs
end Go.Proofs.Ytmlomceemcbnaaa.Qzero
