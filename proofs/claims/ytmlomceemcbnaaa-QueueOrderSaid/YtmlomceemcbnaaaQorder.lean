/- QueueOrder returns true, whatever the size and the script. Conditions: the script reads. -/
import Derived.Test.YtmlomceemcbnaaaQheld
import Derived.Test.YtmlomceemcbnaaaQWint
import Derived.Test.YtmlomceemcbnaaaQEint
set_option linter.unusedVariables false
set_option linter.unusedSimpArgs false
namespace Go.Proofs.Ytmlomceemcbnaaa.Qorder
open Go.RowKit Go.Proofs.Ytmlomceemcbnaaa.Lib1 Go.Proofs.Ytmlomceemcbnaaa.Q Go.Proofs.Ytmlomceemcbnaaa.Qint

section
variable {P : Program} {ops : Array Oper} {rest : List Oper} {o : Oper} {a : Act} {Q : Exit → Act → World → Prop} {W : World}
/-- A guarded operation whose guard wants it: as if unguarded. -/
theorem unguard (hw : Region.wanted o (yielded ops a.tmps) = true) (h : wpList P ops Q ({ o with guard := none } :: rest) a W) : wpList P ops Q (o :: rest) a W := by
  have h1 : Region.wanted { o with guard := none } (yielded ops a.tmps) = true := rfl
  unfold wpList at h ⊢
  rw [if_pos h1] at h
  rw [if_pos hw]
  exact h
end

abbrev vals (ss : List Int) : List Value := ss.map fun x => (Value.int .i64 x)
def InQ (b : Nat) (l : Option Nat) (k : Nat) : Prop := k = b ∨ some k = l
def New (w : World) (l l' : Option Nat) : Prop := l' = l ∨ ∃ g, l' = some g ∧ w.heap.size ≤ g

/-- The queue, what was laid, what is gone: apart from one another, and made since w. -/
structure Ord (w wr : World) (b : Nat) (l : Option Nat) (most : Int) (xs gs ls : List Int) (v7 v8 : Value) : Prop where
  q : IsQ QT ET wr b l most (vals xs)
  laid : wr.ownsRow w.heap.size ET 1 v7 ls.length (vals ls)
  gone : wr.ownsRow w.heap.size ET 1 v8 gs.length (vals gs)
  s0 : ∀ k, InQ b l k → w.heap.size ≤ k
  s1 : ∀ k, InQ b l k → v7.ownBlock ≠ some k
  s2 : ∀ k, InQ b l k → v8.ownBlock ≠ some k
  s3 : ∀ k, v7.ownBlock = some k → v8.ownBlock ≠ some k
  chg : Chg (fun _ => False) w wr

section
variable {w wr wr' : World} {b : Nat} {l l' : Option Nat} {most : Int} {xs xs' gs gs' ls ls' : List Int} {v7 v8 v7' v8' : Value}
theorem Ord.inq_lt (h : Ord w wr b l most xs gs ls v7 v8) : ∀ k, InQ b l k → k < wr.heap.size := by
  rintro k (rfl | hk)
  · exact h.q.lt
  · exact (h.q.row_lt k hk.symm).1
theorem inq_new (hl : New wr l l') : ∀ k, InQ b l' k → InQ b l k ∨ wr.heap.size ≤ k := by
  rintro k (rfl | hk)
  · exact .inl (.inl rfl)
  · rcases hl with rfl | ⟨g, rfl, hg⟩
    · exact .inl (.inr hk)
    · cases hk; exact .inr hg
theorem Ord.queue (h : Ord w wr b l most xs gs ls v7 v8) (hq : IsQ QT ET wr' b l' most (vals xs')) (hl : New wr l l') (hc : Chg (InQ b l) wr wr') : Ord w wr' b l' most xs' gs ls v7 v8 := by
  have hW := h.chg.size
  refine ⟨hq, own_chg hc h.laid (fun k hk hk2 => h.s1 k hk2 hk), own_chg hc h.gone (fun k hk hk2 => h.s2 k hk2 hk), fun k hk => ?_, fun k hk e => ?_, fun k hk e => ?_, h.s3, h.chg.trans hc (fun k hk e => ?_)⟩
  · rcases inq_new hl k hk with h1 | h1
    · exact h.s0 k h1
    · omega
  · rcases inq_new hl k hk with h1 | h1
    · exact h.s1 k h1 e
    · have := (h.laid.lt k e).2; omega
  · rcases inq_new hl k hk with h1 | h1
    · exact h.s2 k h1 e
    · have := (h.gone.lt k e).2; omega
  · have := h.s0 k e; omega
theorem Ord.up (h : Ord w wr b l most xs gs ls v7 v8) (hc : Chg (fun _ => False) wr wr') : Ord w wr' b l most xs gs ls v7 v8 :=
  h.queue (h.q.kept hc (fun h => h) (fun _ _ h => h)) (.inl rfl) (hc.mono (fun _ _ h => h.elim))
theorem Ord.lay (h : Ord w wr b l most xs gs ls v7 v8) (o : wr'.ownsRow w.heap.size ET 1 v7' ls'.length (vals ls')) (g : wr.grownBy wr' v7.ownBlock) (r : v7'.ownBlock = v7.ownBlock ∨ ∃ b, v7'.ownBlock = some b ∧ wr.heap.size ≤ b) : Ord w wr' b l most xs gs ls' v7' v8 := by
  have hW := h.chg.size
  have hc : Chg (fun k => v7.ownBlock = some k) wr wr' := (Chg.refl _ wr).of_grown g (fun k hk => .inr hk)
  have hr : ∀ k, v7'.ownBlock = some k → v7.ownBlock = some k ∨ wr.heap.size ≤ k := fun k hk => by
    rcases r with r | ⟨j, r, hj⟩
    · exact .inl (r ▸ hk)
    · rw [r] at hk; cases hk; exact .inr hj
  refine ⟨h.q.kept hc (h.s1 b (.inl rfl)) (fun k hk => h.s1 k (.inr hk.symm)), o, own_chg hc h.gone (fun k hk e => h.s3 k e hk), h.s0, fun k hk e => ?_, h.s2, fun k hk e => ?_, h.chg.trans hc (fun k hk e => ?_)⟩
  · rcases hr k e with h1 | h1
    · exact h.s1 k hk h1
    · have := h.inq_lt k hk; omega
  · rcases hr k hk with h1 | h1
    · exact h.s3 k h1 e
    · have := (h.gone.lt k e).2; omega
  · have := (h.laid.lt k e).1; omega
theorem Ord.go (h : Ord w wr b l most xs gs ls v7 v8) (o : wr'.ownsRow w.heap.size ET 1 v8' gs'.length (vals gs')) (g : wr.grownBy wr' v8.ownBlock) (r : v8'.ownBlock = v8.ownBlock ∨ ∃ b, v8'.ownBlock = some b ∧ wr.heap.size ≤ b) : Ord w wr' b l most xs gs' ls v7 v8' := by
  have hW := h.chg.size
  have hc : Chg (fun k => v8.ownBlock = some k) wr wr' := (Chg.refl _ wr).of_grown g (fun k hk => .inr hk)
  have hr : ∀ k, v8'.ownBlock = some k → v8.ownBlock = some k ∨ wr.heap.size ≤ k := fun k hk => by
    rcases r with r | ⟨j, r, hj⟩
    · exact .inl (r ▸ hk)
    · rw [r] at hk; cases hk; exact .inr hj
  refine ⟨h.q.kept hc (h.s2 b (.inl rfl)) (fun k hk => h.s2 k (.inr hk.symm)), own_chg hc h.laid (fun k hk e => h.s3 k hk e), o, h.s0, h.s1, fun k hk e => ?_, fun k hk e => ?_, h.chg.trans hc (fun k hk e => ?_)⟩
  · rcases hr k e with h1 | h1
    · exact h.s2 k hk h1
    · have := h.inq_lt k hk; omega
  · rcases hr k e with h1 | h1
    · exact h.s3 k hk h1
    · have := (h.laid.lt k hk).2; omega
  · have := (h.gone.lt k e).1; omega
end

def OrderRel (w : World) (n b : Nat) (most : Int) (v7 v8 i : Value) (wr : World) : Prop :=
  ∃ (k : Nat) (l : Option Nat) (xs gs ls : List Int), k ≤ n ∧ i = .int .i64 k ∧ ls.length ≤ k ∧ ls = gs ++ xs ∧ Ord w wr b l most xs gs ls v7 v8

set_option maxRecDepth 100000 in
set_option maxHeartbeats 4000000 in
theorem order_ok (most : Int) (A : Option Addr) (n c : Nat) (w : World) (f : Nat → Int × ByteArray) (hs : Qheld.Script w A n f) (h0 : 0 ≤ most) (h : most ≤ 65536) : Calls Try.prog 7 #[.int .i64 most, .slice A n c] w fun e w' => e = .returned (.bool true) ∧ Below w.heap.size w w' := by
  have hsm := hs.small
  have HS := Lib.hid hs
  clear hs
  go_enter Try.func7, Try.ntmps7
  go_wp2_with fail
  refine (Qfix.fixed_any _).mono ?_
  rintro e w1 ⟨rfl, c1⟩
  go_wp2_with fail
  refine (Qint.new_ok most _ h0 h).mono ?_
  rintro e w2 ⟨rfl, hw2⟩
  have q2 : Ord w w2 w1.heap.size none most [] [] [] (.slice none 0 0) (.slice none 0 0) := by
    rw [hw2]
    refine ⟨IsQ.new w1 h0 h, World.ownsRow_nil _ _ _ _, World.ownsRow_nil _ _ _ _, ?_, (fun _ _ h => by cases h), (fun _ _ h => by cases h), (fun _ h => by cases h), c1.alloc _⟩
    rintro k (rfl | hk)
    · exact c1.size
    · cases hk
  replace q2 := Lib.hid q2
  obtain ⟨b, hb⟩ : ∃ b, b = w1.heap.size := ⟨_, rfl⟩
  simp only [← hb] at q2 ⊢
  clear hw2 c1 hb
  go_wp2
  go_loopw [7, 8, 34] (fun v7 v8 i wr => OrderRel w n b most v7 v8 i wr) (fun _ _ i _ => n - (intOf i).toNat)
  case atStart => exact ⟨0, none, [], [], [], Nat.zero_le _, rfl, Nat.le_refl _, rfl, q2.out⟩
  case round =>
    obtain ⟨k, l, xs, gs, ls, hk, rfl, hle, hls0, hh⟩ := hrel
    have hlen : Hid (ls.length = gs.length + xs.length) := Lib.hid (by rw [hls0]; simp)
    have hls := Lib.hid hls0
    clear q2 hls0
    obtain ⟨A7, c7, rfl, -⟩ := Rd.of_own hh.laid
    obtain ⟨A8, c8, rfl, -⟩ := Rd.of_own hh.gone
    have hxl := hh.q.len_le
    simp only [vals, List.length_map] at hxl
    by_cases hlt : k < n
    · obtain ⟨g, off, rfl, hg, s0, s1⟩ := HS.out.at_ k hlt
      have t0 := (World.cell?_of_block (hh.chg.block g hg (fun h => h)) (a := ⟨g, off + k * 2, none⟩)).trans s0
      have t1 := (World.cell?_of_block (hh.chg.block g hg (fun h => h)) (a := ⟨g, off + k * 2 + 1, none⟩)).trans s1
      have hh1 := Lib.hid (hh.up ((Chg.refl (fun _ => False) wr).alloc (.cells #[.int .i64 (f k).1, .string (f k).2] 72)))
      clear hh s0 s1
      by_cases hk0 : (f k).1 = 0
      · have hb0 : ((f k).1 == 0) = true := by simpa using hk0
        clear hk0
        go_wp2_with fail
        refine (len_any _ hh1.out.q).mono ?_
        rintro e w5 ⟨rfl, rfl⟩
        simp only [vals, List.length_map]
        by_cases hroom : (xs.length : Int) < most
        · have hf1 : ((xs.length : Int) == most) = false := by simpa using (by omega : ¬ (xs.length : Int) = most)
          go_wp2_with fail
          refine (push_room (k : Int) _ hh1.out.q (by simpa using hroom) (fun v hv => by obtain ⟨x, _, rfl⟩ := List.mem_map.1 hv; exact ⟨x, rfl⟩)).mono ?_
          rintro e w6 ⟨rfl, l', hq6, hl6, hc6⟩
          have hh6 := Lib.hid (hh1.out.queue (xs' := xs ++ [(k : Int)]) (by simpa using hq6) hl6 (hc6.mono (fun j _ h => h)))
          clear hq6 hl6 hc6 hh1
          have hs6 := hh6.out.chg.size
          go_wp2_with (at_builtin; refine ap_one rfl (.tmp 61) (.tmp 63) 49 rfl w.heap.size ET 1 8 (.int .i64 0) Try.underlying49 QAint.infoE rfl (by decide) (by decide) (.slice A7 ls.length c7) ls.length _ rfl hh6.out.laid #[.int .i64 (k : Int)] rfl rfl (by simp [Value.oneCell']) (by omega) hs6 ?_; intro v1 w7 o7 g7 r7; have HL7 := Lib.hid (hh6.out.lay (ls' := ls ++ [(k : Int)]) (by simpa using o7) g7 r7); obtain ⟨A2, c2, rfl, -⟩ := Rd.of_own o7; clear o7 g7 r7 hh6)
          have hsub : ((ls.length : Int) + 1 - (gs.length : Int)) = (xs.length : Int) + 1 := by have := hlen.out; omega
          have hgt : decide (most < (xs.length : Int) + 1) = false := by simpa using (by omega : (xs.length : Int) + 1 ≤ most)
          refine (len_any _ HL7.out.q).mono ?_
          rintro e w8 ⟨rfl, rfl⟩
          simp only [vals, List.length_map, List.length_append, List.length_singleton, Int.natCast_add, Int.cast_ofNat_Int]
          go_wp2_with fail
          refine (len_any _ HL7.out.q).mono ?_
          rintro e w8 ⟨rfl, rfl⟩
          simp only [vals, List.length_map, List.length_append, List.length_singleton, Int.natCast_add, Int.cast_ofNat_Int]
          go_wp2_with fail
          go_roundw
          case rel => exact ⟨k + 1, l', xs ++ [(k : Int)], gs, ls ++ [(k : Int)], hlt, rfl, by simp; omega, by rw [hls.out, List.append_assoc], by simpa using HL7.out⟩
          case measure => simp [intOf]; omega
        · have hf1 : ((xs.length : Int) == most) = true := by simpa using (by omega : (xs.length : Int) = most)
          go_wp2_with fail
          refine (push_full (k : Int) _ hh1.out.q (by simpa using hroom)).mono ?_
          rintro e w6 ⟨rfl, m6, rfl⟩
          have hh6 := Lib.hid (hh1.out.up ((Chg.refl (fun _ => False) _).drewN m6))
          clear hh1
          have hsub : ((ls.length : Int) - (gs.length : Int)) = (xs.length : Int) := by have := hlen.out; omega
          have hgt : decide (most < (xs.length : Int)) = false := by simpa using (by omega : (xs.length : Int) ≤ most)
          go_wp2_with fail
          refine (len_any _ hh6.out.q).mono ?_
          rintro e w8 ⟨rfl, rfl⟩
          simp only [vals, List.length_map]
          go_wp2_with fail
          refine (len_any _ hh6.out.q).mono ?_
          rintro e w8 ⟨rfl, rfl⟩
          simp only [vals, List.length_map]
          go_wp2_with fail
          go_roundw
          case rel => exact ⟨k + 1, l, xs, gs, ls, hlt, rfl, by omega, hls.out, hh6.out⟩
          case measure => simp [intOf]; omega
      · have hb0 : ((f k).1 == 0) = false := by simpa using hk0
        clear hk0
        cases xs with
        | nil =>
          have hge : ((gs.length : Int) < (ls.length : Int)) = False := by have := hlen.out; simp at this; simp; omega
          have hsub : ((ls.length : Int) - (gs.length : Int)) = 0 := by have := hlen.out; simp at this; omega
          go_wp2_with fail
          refine (pop_none _ hh1.out.q).mono ?_
          rintro e w5 ⟨rfl, rfl⟩
          go_wp2_with fail
          refine (len_any _ hh1.out.q).mono ?_
          rintro e w8 ⟨rfl, rfl⟩
          simp only [vals, List.length_map, List.length_nil]
          go_wp2_with fail
          refine (len_any _ hh1.out.q).mono ?_
          rintro e w8 ⟨rfl, rfl⟩
          simp only [vals, List.length_map, List.length_nil]
          go_wp2_with fail
          go_roundw
          case rel => exact ⟨k + 1, l, [], gs, ls, hlt, rfl, by omega, hls.out, hh1.out⟩
          case measure => simp [intOf]; omega
        | cons x xs =>
          have hq1 := hh1.out.q
          rcases hq1 with ⟨_, hx, _⟩ | ⟨g', n', first, arr, rfl, hq1⟩
          · cases hx
          have HQ := Lib.hid hq1
          clear hq1
          go_wp2_with fail
          refine (pop_some x _ HQ.out rfl).mono ?_
          rintro e w5 ⟨rfl, hq5, hc5⟩
          have hh6 := Lib.hid (hh1.out.queue (xs' := xs) hq5 (.inl rfl) (hc5.mono (fun j _ h => h.elim (fun e => .inl e) (fun e => .inr (by rw [e])))))
          clear hq5 hc5 hh1 HQ
          have hs6 := hh6.out.chg.size
          have hgl : gs.length + 1 ≤ n := by have := hlen.out; simp at this; omega
          have hsub : ((ls.length : Int) - ((gs.length : Int) + 1)) = (xs.length : Int) := by have := hlen.out; simp at this; omega
          have hgt : decide (most < (xs.length : Int)) = false := by simp at hxl; simp; omega
          go_wp2_with (at_builtin; refine ap_one rfl (.tmp 71) (.tmp 73) 49 rfl w.heap.size ET 1 8 (.int .i64 0) Try.underlying49 QAint.infoE rfl (by decide) (by decide) (.slice A8 gs.length c8) gs.length _ rfl hh6.out.gone #[.int .i64 x] rfl rfl (by simp [Value.oneCell']) (by omega) hs6 ?_; intro v1 w7 o7 g7 r7; have HL7 := Lib.hid (hh6.out.go (gs' := gs ++ [x]) (by simpa using o7) g7 r7); obtain ⟨A2, c2, rfl, -⟩ := Rd.of_own o7; clear o7 g7 r7 hh6)
          refine (len_any _ HL7.out.q).mono ?_
          rintro e w8 ⟨rfl, rfl⟩
          simp only [vals, List.length_map]
          go_wp2_with fail
          refine (len_any _ HL7.out.q).mono ?_
          rintro e w8 ⟨rfl, rfl⟩
          simp only [vals, List.length_map]
          go_wp2_with fail
          go_roundw
          case rel => exact ⟨k + 1, _, xs, gs ++ [x], ls, hlt, rfl, by omega, by rw [hls.out, List.append_assoc]; rfl, by simpa using HL7.out⟩
          case measure => simp [intOf]; omega
    · obtain rfl : k = n := by omega
      have HH := Lib.hid hh
      clear hh
      go_wp2_with fail
      refine (QAint.walked_any b l most xs wr HH.out.q).mono ?_
      rintro e w5 ⟨v5, rfl, o5, hc5⟩
      obtain ⟨A5, c5, rfl, hrd5⟩ := Rd.of_own o5
      have hh5 := Lib.hid (HH.out.up hc5)
      have hs5 := hh5.out.chg.size
      have HR5 : Hid (Rd (fun _ => True) w5 A5 xs.length c5 1 (vals xs)) := Lib.hid hrd5.any
      have hbn : (gs.length + xs.length) * 8 ≤ 140737488355328 := by have := hlen.out; omega
      clear hrd5 hc5 o5
      go_wp2_with (at_builtin; refine unguard (by rfl) ?_; refine ap_src rfl (.tmp 102) (.tmp 103) 49 rfl w.heap.size ET 1 8 (.int .i64 0) Try.underlying49 QAint.infoE rfl (by decide) (by decide) (.slice A8 gs.length c8) gs.length _ rfl hh5.out.gone A5 xs.length c5 _ rfl HR5.out (by intro u hu; obtain ⟨x, _, rfl⟩ := List.mem_map.1 hu; rfl) hbn hs5 ?_; intro v1 w7 o7 g7 r7; have HL7 := Lib.hid (hh5.out.go (gs' := gs ++ xs) (by simpa using o7) g7 (r7.imp id (fun h => ⟨_, h, Nat.le_refl _⟩))); rw [← hlen.out] at o7; obtain ⟨A2, c2, rfl, -⟩ := Rd.of_own o7; clear o7 g7 r7 hh5)
      have HE : Hid (Calls Try.prog 32 #[.slice A2 ls.length c2, .slice A7 ls.length c7] w7 fun e w' => e = .returned (.bool true) ∧ ∃ m, w' = w7.drewN m) := by
        have ho8 := HL7.out.gone
        have ho7 := HL7.out.laid
        rw [← hls.out] at ho8
        obtain ⟨_, _, e8, hr8⟩ := Rd.of_own ho8
        cases e8
        obtain ⟨_, _, e7, hr7⟩ := Rd.of_own ho7
        cases e7
        exact Lib.hid (equal_same ls.length (by omega) A2 A7 c2 c7 ls w7 _ _ hr8 hr7)
      have HC := Lib.hid HL7.out.chg
      clear HL7
      refine HE.out.mono ?_
      rintro e w8 ⟨rfl, m8, rfl⟩
      go_wp2
      go_ret
      exact ⟨rfl, (HC.out.drewN _).below⟩

theorem order_walk (most : Int) {A : Option Addr} {n c : Nat} {y : List (Int × ByteArray × Unit)} (w : World) (hr : (Rel.Kd.slice 24 Qheld.stepK).rel (fun k => k < w.heap.size) w y [.slice A n c]) (hf : (Rel.Kd.slice 24 Qheld.stepK).fits y) :
    Calls Try.prog 7 #[.int .i64 most, .slice A n c] w fun e w' => e = .returned (.bool true) ∧ Below w.heap.size w w' := by
  obtain ⟨f, hs⟩ := Qheld.script_of hr hf
  by_cases hm : 0 ≤ most ∧ most ≤ 65536
  · exact order_ok most A n c w f hs hm.1 hm.2
  · have hd : (decide (most < 0) || decide (65536 < most)) = true := by simp; omega
    clear hs hr hf
    go_enter Try.func7, Try.ntmps7
    go_wp2_with fail
    refine (Qfix.fixed_any _).mono ?_
    rintro e w1 ⟨rfl, c1⟩
    go_wp2
    all_goals (go_ret; exact ⟨rfl, c1.below⟩)
end Go.Proofs.Ytmlomceemcbnaaa.Qorder
