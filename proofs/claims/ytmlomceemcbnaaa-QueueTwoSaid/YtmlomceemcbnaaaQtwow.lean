/- QueueTwo returns true, whatever the sizes and the script. Conditions: the script reads. -/
import Derived.Test.YtmlomceemcbnaaaQtwod
import Derived.Laws.Bits128
set_option linter.unusedVariables false
set_option linter.unusedSimpArgs false
namespace Go.Proofs.Ytmlomceemcbnaaa.Qtwow
open Go.RowKit Go.Proofs.Ytmlomceemcbnaaa.Lib1 Go.Proofs.Ytmlomceemcbnaaa.Q Go.Proofs.Ytmlomceemcbnaaa.Qstr Go.Proofs.Ytmlomceemcbnaaa.Qat Go.Proofs.Ytmlomceemcbnaaa.Qdoes Go.Proofs.Ytmlomceemcbnaaa.Qheld Go.Proofs.Ytmlomceemcbnaaa.Qtwo

theorem infoR : (Try.prog.info? QR).map (fun i => (i.zero, i.size, i.bytes)) = some (some (.agg #[.int .i64 0, .slice none 0 0]), 2, 32) := by kernel_rfl
theorem infoP : (Try.prog.info? PT).map (fun i => (i.zero, i.size, i.bytes)) = some (some (.pointer none), 1, 8) := by kernel_rfl
theorem _root_.Go.Proofs.Ytmlomceemcbnaaa.Qtwo.Inv.o9' {w wr : World} {es : List Ent} {v8 v9 : Value} (h : Inv w wr es v8 v9) (wa : World) (g8 : wr.grownBy wa v8.ownBlock) : wa.ownsRow w.heap.size PT 1 v9 es.length (ptrs es) :=
  own_chg ((Chg.refl (fun k => v8.ownBlock = some k) wr).of_grown g8 (fun k hk => .inr hk)) h.o9 (fun k hk h8 => h.rows k h8 hk)
theorem slices {w wr : World} {es : List Ent} {v8 v9 : Value} (h : Inv w wr es v8 v9) (he2 : es.length = 2) : ∃ g8 c8, v8 = .slice (some ⟨g8, 0, none⟩) 2 c8 ∧ ∃ g9 c9, v9 = .slice (some ⟨g9, 0, none⟩) 2 c9 := by
  have h8 := h.o8
  have h9 := h.o9
  rw [he2] at h8 h9
  rcases h8.2 with ⟨_, e⟩ | ⟨g, cap, cur, rfl, _⟩
  · cases e
  · rcases h9.2 with ⟨_, e⟩ | ⟨g', cap', cur', rfl, _⟩
    · cases e
    · exact ⟨g, cap, rfl, g', cap', rfl⟩
theorem i64_and7 (n : Int) : bits .and .i64 n 7 = n % 8 := by
  have h7 : (BitVec.ofInt 64 7).toNat = 2 ^ 3 - 1 := by decide
  have key : (BitVec.ofInt 64 n &&& BitVec.ofInt 64 7).toNat = (n % ((2 ^ 64 : Nat) : Int)).toNat % 2 ^ 3 := by
    rw [BitVec.toNat_and, BitVec.toNat_ofInt, h7, Nat.and_two_pow_sub_one_eq_mod]
  show IntKind.i64.wrap ((BitVec.ofInt 64 n &&& BitVec.ofInt 64 7).toNat : Nat) = n % 8
  rw [key, IntKind.wrap_i64]
  omega

/-- The first loop: k queues made. -/
def MakeRel (wz : World) (v8 v9 i : Value) (wr : World) : Prop := ∃ (k : Nat) (es : List Ent), k ≤ 2 ∧ es.length = k ∧ i = .int .i64 k ∧ Inv wz wr es v8 v9
/-- The second: k steps done. -/
def DoRel (w : World) (n : Nat) (v8 v9 i : Value) (wr : World) : Prop := ∃ (k : Nat) (es : List Ent), k ≤ n ∧ es.length = 2 ∧ i = .int .i64 k ∧ Inv w wr es v8 v9

set_option maxRecDepth 100000 in
set_option maxHeartbeats 1000000 in
theorem two_ok (p q : Int) (A : Option Addr) (n c : Nat) (w : World) (f : Nat → Int × ByteArray) (hs : Script w A n f) : Calls Try.prog 9 #[.int .i64 p, .int .i64 q, .slice A n c] w fun e w' => e = .returned (.bool true) ∧ Below w.heap.size w w' := by
  have hsm := hs.small
  have HS := Lib.hid hs
  clear hs
  go_enter Try.func9, Try.ntmps9
  go_wp2_with fail
  refine (Qfix.fixed_any _).mono ?_
  rintro e w1 ⟨rfl, c1⟩
  go_wp2_with fail
  obtain ⟨wz, hz⟩ : ∃ wz, w1.alloc (.cells #[.int .i64 p, .int .i64 q] 3) = wz := ⟨_, rfl⟩
  have hzb : wz.heap[w1.heap.size]? = some (.cells #[.int .i64 p, .int .i64 q] 3 (0, 0)) := by rw [← hz]; exact heap_new w1 _
  have hzs : wz.heap.size = w1.heap.size + 1 := by rw [← hz]; simp
  have cz : Chg (fun _ => False) w wz := by rw [← hz]; exact c1.alloc _
  rw [hz]
  go_loopw [8, 9, 29] (fun v8 v9 i wr => MakeRel wz v8 v9 i wr) (fun _ _ i _ => 2 - (intOf i).toNat)
  case atStart =>
    refine ⟨0, [], Nat.zero_le _, rfl, rfl, ?_, ?_, (fun e he => by cases he), (fun e he => by cases he), (fun i j e e' h => by simp at h), ?_, ((Chg.refl _ wz).alloc _).alloc _⟩
    · exact (own_lit0 wz _ hzs.symm (by omega)).alloc _
    · exact own_lit0 (wz.alloc _) _ (by simp [hzs]) (by omega)
    · intro k h1 h2
      simp [Value.ownBlock] at h1 h2
      omega
  case round =>
    obtain ⟨_, es, hk, rfl, rfl, hh⟩ := hrel
    by_cases hlt : es.length < 2
    · obtain ⟨x, hx⟩ : ∃ x : Int, wr.cell? ⟨w1.heap.size, es.length, none⟩ = some (.int .i64 x) := by
        have hb := hh.chg.at_ hzb (fun h => h)
        have : es.length = 0 ∨ es.length = 1 := by omega
        rcases this with h | h <;> rw [h]
        · exact ⟨_, cell_at hb 0 rfl⟩
        · exact ⟨_, cell_at hb 1 rfl⟩
      obtain ⟨m, hm, hm8⟩ : ∃ m : Nat, bits .and .i64 x 7 = (m : Int) ∧ m < 8 := ⟨(x % 8).toNat, by rw [i64_and7]; omega, by omega⟩
      obtain ⟨A8, c8, rfl, -⟩ := Rd.of_own hh.o8
      obtain ⟨A9, c9, rfl, -⟩ := Rd.of_own hh.o9
      have hI := Lib.hid hh
      have hk0 : (0 : Int) ≤ (es.length : Int) := by omega
      have hk2 : (es.length : Int) < 2 := by omega
      have hel : es.length ≤ 1 := by omega
      clear hh
      go_wp2_with fail
      refine (Qref.new_ok (m : Int) _ (by omega) (by omega)).mono ?_
      rintro e w3 ⟨rfl, c3⟩
      go_wp2_with fail
      refine (Qstr.new_ok (m : Int) _ (by omega) (by omega)).mono ?_
      rintro e w4 ⟨rfl, hw4⟩
      have c4 : Chg (fun _ => False) wr w4 := by rw [hw4]; exact (c3.alloc _).alloc _
      have k4 : w4.heap[w3.heap.size]? = some (.cells #[.int .i64 (m : Int), .slice none 0 0] QR (0, 0)) := by rw [hw4]; exact heap_old _ (heap_new w3 _)
      have q4 : IsQ QT ET w4 (w3.heap.size + 1) none (m : Int) [] := by
        rw [hw4]
        have := IsQ.new (QT := QT) (ET := ET) (w3.alloc (.cells #[.int .i64 (m : Int), .slice none 0 0] QR)) (most := (m : Int)) (by omega) (by omega)
        rwa [World.size_alloc] at this
      simp only [World.size_alloc]
      have I4 := Lib.hid (hI.out.up c4)
      have k40 := cell_at k4 0 rfl
      have k41 := cell_at k4 1 rfl
      have hs3 := c3.size
      have hl8 := fun k hk => (hI.out.o8.lt k hk).2
      have hl9 := fun k hk => (hI.out.o9.lt k hk).2
      have hle' := fun e (he : e ∈ es) k hk => hI.out.lt he k hk
      have hbz := hI.out.chg.size
      have hs4 := I4.out.chg.size
      have A4 : Hid (Agree w4 (some ⟨w3.heap.size + 1, 0, none⟩) none (m : Int) (.slice none 0 0) []) := Lib.hid ⟨.inr ⟨_, rfl, q4⟩, ⟨0, World.ownsRow_nil _ _ _ _⟩, (fun k hk => by cases hk), (by simp), (by omega)⟩
      have P4 : Hid (∀ k, (Ent.mk (w3.heap.size + 1) none (m : Int) (.slice none 0 0) []).has k → wz.heap.size ≤ k ∧ (Value.slice A8 es.length c8).ownBlock ≠ some k ∧ (Value.slice A9 es.length c9).ownBlock ≠ some k ∧ ∀ e' ∈ es, ¬ e'.has k) := by
        refine Lib.hid fun k hk => ?_
        have hk' : k = w3.heap.size + 1 := by
          rcases hk with (hk | hk) | hk
          · cases hk; rfl
          · cases hk
          · cases hk
        subst hk'
        refine ⟨by omega, fun h => by have := hl8 _ h; omega, fun h => by have := hl9 _ h; omega, fun e' he' h => by have := hle' e' he' _ h; omega⟩
      clear hw4 c3 c4 k4 q4 hI hl8 hl9 hle' hx
      have O94 := Lib.hid I4.out.o9'
      go_wp2_with (first
        | (at_builtin; refine ap_one rfl (.tmp 51) (.tmp 53) 81 rfl wz.heap.size QR 2 32 (.agg #[.int .i64 0, .slice none 0 0]) Try.underlying81 infoR rfl (by decide) (by decide) (.slice A8 es.length c8) es.length _ rfl I4.out.o8 #[.int .i64 (m : Int), .slice none 0 0] rfl rfl (by simp [Value.oneCell']) (by omega) hs4 ?_; intro v1 w5 o8 g8 r8; have O8 := Lib.hid o8; have O9 := Lib.hid (O94.out w5 g8); have G8 := Lib.hid g8; have R8 := Lib.hid r8; obtain ⟨A28, c28, rfl, -⟩ := Rd.of_own o8; have hs5 := Nat.le_trans hs4 g8.size; clear o8 g8 r8)
        | (at_builtin; refine ap_one rfl (.tmp 55) (.tmp 57) 82 rfl wz.heap.size PT 1 8 (.pointer none) Try.underlying82 infoP rfl (by decide) (by decide) (.slice A9 es.length c9) es.length _ rfl O9.out #[.pointer (some ⟨w3.heap.size + 1, 0, none⟩)] rfl rfl (by simp [Value.oneCell']) (by omega) hs5 ?_; intro v1 w6 o9 g9 r9; have HN := Lib.hid (I4.out.push ⟨w3.heap.size + 1, none, (m : Int), .slice none 0 0, []⟩ A4.out P4.out O8.out G8.out R8.out o9 g9 r9); obtain ⟨A29, c29, rfl, -⟩ := Rd.of_own o9; clear o9 g9 r9))
      go_roundw
      case rel => exact ⟨es.length + 1, _, hlt, by simp, rfl, HN.out⟩
      case measure => simp [intOf]; omega
    · have he2 : es.length = 2 := by omega
      obtain ⟨g8, c8, rfl, g9, c9, rfl⟩ := slices hh he2
      have hI := Lib.hid hh
      have he2' := Lib.hid he2
      obtain ⟨wo, rfl⟩ : ∃ wo : World, wo = wr := ⟨_, rfl⟩
      have hend : ((es.length : Int) < 2) = False := by simp; omega
      clear hh he2 hk
      go_wp2_with fail
      go_loopw [62] (fun i wr => DoRel wz n (.slice (some ⟨g8, 0, none⟩) 2 c8) (.slice (some ⟨g9, 0, none⟩) 2 c9) i wr) (fun i _ => n - (intOf i).toNat)
      case atStart => exact ⟨0, es, Nat.zero_le _, he2'.out, rfl, hI.out⟩
      case round =>
        obtain ⟨k, es, hk, he2, rfl, hh⟩ := hrel
        clear he2' hI hend
        by_cases hlt : k < n
        · obtain ⟨g, off, rfl, hg, s0, s1⟩ := HS.out.at_ k hlt
          have cw := cz.trans hh.chg (fun _ _ h => h)
          have t0 := (World.cell?_of_block (cw.block g hg (fun h => h)) (a := ⟨g, off + k * 2, none⟩)).trans s0
          have t1 := (World.cell?_of_block (cw.block g hg (fun h => h)) (a := ⟨g, off + k * 2 + 1, none⟩)).trans s1
          obtain ⟨m, hm⟩ : ∃ m, m = k % 2 := ⟨_, rfl⟩
          have hm2 : m < 2 := by omega
          obtain ⟨e, he⟩ : ∃ e, es[m]? = some e := ⟨es[m], List.getElem?_eq_getElem (by omega)⟩
          have r1 : (k : Int).tmod 2 = (m : Int) := by rw [Int.tmod_eq_emod_of_nonneg (by omega)]; omega
          have r2 : (0 : Int) ≤ (m : Int) := by omega
          have r3 : (m : Int) < 2 := by omega
          have hmem := List.mem_of_getElem? he
          have hh1 := hh.up ((Chg.refl (fun _ => False) wr).alloc (.cells #[.int .i64 (f k).1, .string (f k).2] 72))
          have hbx := heap_new wr (.cells #[.int .i64 (f k).1, .string (f k).2] 72)
          obtain ⟨base, hov⟩ := (hh.each e hmem).own
          obtain ⟨Av, cv, hve, -⟩ := Rd.of_own hov
          obtain ⟨w4, hw4⟩ : ∃ w4, wr.alloc (.cells #[.int .i64 (f k).1, .string (f k).2] 72) = w4 := ⟨_, rfl⟩
          rw [hw4] at hh1 hbx
          obtain ⟨-, d0, d1, d2⟩ := hh1.cells8 e he
          obtain ⟨-, d3⟩ := hh1.cells9 e he
          rw [hve] at d1
          obtain ⟨d4, d5, -, -⟩ := cells2 hbx
          have HD := Lib.hid (Qtwod.step_two (f k).1 (f k).2 hh he2 he hh1 hbx hmem hve)
          have hw4s : w4.heap.size = wr.heap.size + 1 := by rw [← hw4]; simp
          have hg8 : g8 < wr.heap.size := (hh.o8.lt g8 rfl).2
          have hg9 : g9 < wr.heap.size := (hh.o9.lt g9 rfl).2
          clear hh hh1 hov hve s0 s1 cw hmem he hm hbx
          go_wp2_with fail
          go_region_held3 (fun w' => w'.cell? ⟨g9, m, none⟩ = some (.pointer (some ⟨e.b, 0, none⟩)) ∧ w'.cell? ⟨g8, m * 2, none⟩ = some (.int .i64 e.most) ∧ w'.cell? ⟨g8, m * 2 + 1, none⟩ = some (.slice Av e.ss.length cv) ∧ w'.cell? ⟨wr.heap.size, 0, none⟩ = some (.int .i64 (f k).1) ∧ w'.cell? ⟨wr.heap.size, 1, none⟩ = some (.string (f k).2))
            (first | assumption | (refine ⟨?_, ?_, ?_, ?_, ?_⟩; all_goals (first | assumption | (refine cell_two' ?_ ?_; all_goals (first | assumption | omega)))) | go_keep)
            ((go_at_call 33; refine (HD.out _ ?_).mono ?_; (repeat' (first | exact Chg.refl _ _ | refine Chg.drew ?_ | refine Chg.alloc ?_ _)); rintro e9 w5 ⟨A2, c2, l', rfl, hN, ⟨cc, tt, hcc⟩, ⟨u0, u1, u2, u3, u4⟩, hf5, hz5, hy5, hK5⟩; (try (have b19 := hK5 (wr.heap.size + 1) #[.int .i64 0, .slice none 0 0] (by omega) (heap_new' w4.drew _ (by show _ = w4.heap.size; omega)); obtain ⟨b190, b191, b192, b193⟩ := cells2 b19; have b194 := lt_of w5 b19)); clear hK5))
          all_goals replace hN := Lib.hid hN
          all_goals replace hcc := Lib.hid hcc
          all_goals clear HD
          · go_wp2_with fail
            refine ⟨⟨k + 1, _, hlt, by rw [List.length_set]; exact he2, rfl, hN.out _ ?_ ?_⟩, by simp [intOf]; omega⟩
            · first
                | exact (((Chg.refl _ w5).set (.inr (.inl rfl))).set (.inr (.inl rfl))).alloc _
                | exact (((Chg.refl _ w5).alloc _).set (.inr (.inl rfl))).set (.inr (.inl rfl))
            · first
                | exact Qtwod.rowB hcc.out
                | exact Qtwod.rowC hcc.out
          · go_wp2_with fail
            refine ⟨⟨k + 1, _, hlt, by rw [List.length_set]; exact he2, rfl, hN.out _ ?_ ?_⟩, by simp [intOf]; omega⟩
            · have hx : wr.heap.size + 1 < (w4.alloc (.cells #[.int .i64 0, .slice none 0 0] QR)).drew.heap.size := by show _ < (w4.alloc _).heap.size; simp [hw4s]
              exact ((((Chg.refl _ w5).set (.inr (.inr ⟨rfl, hx⟩))).set (.inr (.inr ⟨rfl, hx⟩))).set (.inr (.inl rfl))).set (.inr (.inl rfl))
            · exact Qtwod.rowA hcc.out (by omega)
        · obtain rfl : k = n := by omega
          obtain ⟨e0, he0⟩ : ∃ e, es[0]? = some e := ⟨es[0], List.getElem?_eq_getElem (by omega)⟩
          obtain ⟨e1, he1⟩ : ∃ e, es[1]? = some e := ⟨es[1], List.getElem?_eq_getElem (by omega)⟩
          obtain ⟨-, a0, a1, -⟩ := hh.cells8 e0 he0
          obtain ⟨-, a2⟩ := hh.cells9 e0 he0
          obtain ⟨-, a4, a5, -⟩ := hh.cells8 e1 he1
          obtain ⟨-, a6⟩ := hh.cells9 e1 he1
          obtain ⟨_, ho0⟩ := (hh.each e0 (List.mem_of_getElem? he0)).own
          obtain ⟨_, ho1⟩ := (hh.each e1 (List.mem_of_getElem? he1)).own
          obtain ⟨B0, d0, hv0, -⟩ := Rd.of_own ho0
          obtain ⟨B1, d1, hv1, -⟩ := Rd.of_own ho1
          rw [hv0] at a1
          rw [hv1] at a5
          simp only [Nat.zero_mul, Nat.zero_add, Nat.one_mul] at a0 a1 a4 a5
          have b1 : ∀ m, (wr.drewN m).cell? ⟨g8, 1, none⟩ = some (.slice B0 e0.ss.length d0) := fun m => a1
          have b2 : ∀ m, (wr.drewN m).cell? ⟨g9, 0, none⟩ = some (.pointer (some ⟨e0.b, 0, none⟩)) := fun m => a2
          have b5 : ∀ m, (wr.drewN m).cell? ⟨g8, 3, none⟩ = some (.slice B1 e1.ss.length d1) := fun m => a5
          have b6 : ∀ m, (wr.drewN m).cell? ⟨g9, 1, none⟩ = some (.pointer (some ⟨e1.b, 0, none⟩)) := fun m => a6
          have HL0 : Hid (∀ m, Calls Try.prog 17 #[.pointer (some ⟨e0.b, 0, none⟩)] (wr.drewN m) fun e w' => e = .returned (.int .i64 (e0.ss.length : Int)) ∧ wr.drewN m = w') :=
            fun m => len_at (wr.drewN m) _ e0.l e0.most e0.ss ((hh.each e0 (List.mem_of_getElem? he0)).up (Chg.draws wr _ m)).q
          have HL1 : Hid (∀ m, Calls Try.prog 17 #[.pointer (some ⟨e1.b, 0, none⟩)] (wr.drewN m) fun e w' => e = .returned (.int .i64 (e1.ss.length : Int)) ∧ wr.drewN m = w') :=
            fun m => len_at (wr.drewN m) _ e1.l e1.most e1.ss ((hh.each e1 (List.mem_of_getElem? he1)).up (Chg.draws wr _ m)).q
          have HC := Lib.hid (cz.trans hh.chg (fun _ _ h => h))
          clear hh ho0 ho1 hv0 hv1 he0 he1
          go_wp2_with fail
          go_quiet (first | (go_at_call 17; refine (HL0.out _).mono ?_; rintro e w' ⟨rfl, rfl⟩; exact ⟨rfl, _, rfl⟩) | (go_at_call 17; refine (HL1.out _).mono ?_; rintro e w' ⟨rfl, rfl⟩; exact ⟨rfl, _, rfl⟩))
          go_wp2
          go_ret
          exact ⟨rfl, (HC.out.drewN _).below⟩

theorem two_walk (p q : Int) {A : Option Addr} {n c : Nat} {y : List (Int × ByteArray × Unit)} (w : World) (hr : (Rel.Kd.slice 24 stepK).rel (fun k => k < w.heap.size) w y [.slice A n c]) (hf : (Rel.Kd.slice 24 stepK).fits y) :
    Calls Try.prog 9 #[.int .i64 p, .int .i64 q, .slice A n c] w fun e w' => e = .returned (.bool true) ∧ Below w.heap.size w w' := by
  obtain ⟨f, hs⟩ := script_of hr hf
  exact two_ok p q A n c w f hs
end Go.Proofs.Ytmlomceemcbnaaa.Qtwow
