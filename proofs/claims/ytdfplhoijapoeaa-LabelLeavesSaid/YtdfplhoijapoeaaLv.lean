/- The walk of LabelLeaves. Conditions: what comes in reads so. -/
import Derived.Test.YtdfplhoijapoeaaKe
import Derived.Test.YtdfplhoijapoeaaLma
import Derived.Test.YtdfplhoijapoeaaLpp
import Derived.Laws.StructEq
set_option linter.unusedVariables false
set_option linter.unusedSimpArgs false
namespace Go.Proofs.Ytdfplhoijapoeaa.Llv
open Go.RowKit Go.Proofs.Ytdfplhoijapoeaa.Lib1 Go.Proofs.Ytdfplhoijapoeaa.Rel Go.Proofs.Ytdfplhoijapoeaa.Lat Go.Proofs.Ytdfplhoijapoeaa.Lbl Go.Proofs.Ytdfplhoijapoeaa.Lbw Go.Proofs.Ytdfplhoijapoeaa.Lck Go.Proofs.Ytdfplhoijapoeaa.Lmay Go.Proofs.Ytdfplhoijapoeaa.Lpl Go.Proofs.Ytdfplhoijapoeaa.Lcf Go.Proofs.Ytdfplhoijapoeaa.Lma Go.Proofs.Ytdfplhoijapoeaa.Law Go.Proofs.Ytdfplhoijapoeaa.Lkc Go.Proofs.Ytdfplhoijapoeaa.Lwr Go.Proofs.Ytdfplhoijapoeaa.Lke Go.Proofs.Ytdfplhoijapoeaa.Lpp

theorem info_acc : (Try.prog.info? 34).map (fun i => (i.zero, i.size, i.bytes)) = some (some (.agg #[.int .i64 0, .int .i64 0, .int .i64 0, .int .i64 0, .int .i64 0]), 5, 40) := by kernel_rfl
def accV (a : Acc) : Value := .agg #[.int .i64 a.quota, .int .i64 a.opn, .int .i64 a.queue, .int .i64 a.window, .int .i64 a.start]
theorem neq5 (a b c d e : Int) (w : World) : (binOp .neq 34 (.agg #[.int .i64 a, .int .i64 b, .int .i64 c, .int .i64 d, .int .i64 e]) (.agg #[.int .i64 a, .int .i64 b, .int .i64 c, .int .i64 d, .int .i64 e])).run Try.prog w = .ok (.bool false) w := by
  have u3 := Try.underlying3
  have a3 := Try.isAgg3
  have z3 := Try.sizeOf3
  have hS : Try.prog.underlying 34 = some (.struct (Try.prog.fieldsOf 34)) := by kernel_rfl
  have hp : Try.prog.stoodInHeld 34 = false := by kernel_rfl
  rw [run_neq_struct, show (10000 : Nat) = 9999 + 1 from rfl, run_equalIn_struct w 9999 34 _ _ hS hp]
  simp only [Program.fieldsOf, Try.underlying34]
  go_simp
theorem one_acs (l : List Acc) : ∀ u ∈ acs l, u.oneCell' = true := fun u hu => by
  unfold acs at hu
  obtain ⟨x, _, hx⟩ := List.mem_flatMap.1 hu
  simp only [List.mem_cons, List.not_mem_nil, or_false] at hx
  rcases hx with rfl | rfl | rfl | rfl | rfl <;> rfl
theorem one_is (l : List Int) : ∀ u ∈ is l, u.oneCell' = true := fun u hu => by
  unfold is at hu
  obtain ⟨x, _, rfl⟩ := List.mem_map.1 hu
  rfl

theorem rd_new (w : World) (T : TypeId) (n sz : Nat) (ys : List Value) (hl : ys.length = n * sz) : Rd (fun _ => True) (w.alloc (.cells ys.toArray T)) (some ⟨w.heap.size, 0, none⟩) n n sz ys :=
  ⟨hl, Nat.le_refl _, fun h => (by cases h), fun _ => ⟨w.heap.size, 0, rfl, trivial, fun j u hu => by
    rw [Nat.zero_add]
    exact cell_at (heap_new w _) j (by simpa using hu)⟩⟩
theorem own_form {w : World} {base : Nat} {e : TypeId} {sz n c : Nat} {A : Option Addr} {xs : List Value} (h : w.ownsRow base e sz (.slice A n c) n xs) (hn : 0 < n) : ∃ g, A = some ⟨g, 0, none⟩ ∧ n ≤ c ∧ base ≤ g ∧ g < w.heap.size := by
  rcases h.2 with ⟨hv, hz⟩ | ⟨g', cap, cur, hv, hb, hg, hn1, _⟩
  · omega
  · simp only [Value.slice.injEq, true_and] at hv
    obtain ⟨rfl, rfl⟩ := hv
    exact ⟨g', rfl, hn1, hb, lt_of _ hg⟩
theorem rd_prefix {w : World} {base : Nat} {e : TypeId} {sz N n c g : Nat} {ys zs : List Value} (h : w.ownsRow base e sz (.slice (some ⟨g, 0, none⟩) N c) N (ys ++ zs)) (hy : ys.length = n * sz) (hc : n ≤ c) (hN : 0 < N) : Rd (fun k => k = g) w (some ⟨g, 0, none⟩) n c sz ys := by
  obtain ⟨A', c', e', hr⟩ := Rd.of_own h
  simp only [Value.slice.injEq, true_and] at e'
  obtain ⟨rfl, rfl⟩ := e'
  refine ⟨hy, hc, fun h => (by cases h), fun hp => ⟨g, 0, rfl, rfl, fun j u hu => ?_⟩⟩
  obtain ⟨b, off, e1, hb, hcc⟩ := hr.at_ hN
  cases e1
  exact hcc j u (by rw [List.getElem?_append_left (List.getElem?_eq_some_iff.1 hu).1]; exact hu)
def tail5 : List Value := [.int .i64 11, .int .i64 0, .int .i64 0, .int .i64 0, .int .i64 0, .int .i64 12, .int .i64 0, .int .i64 0, .int .i64 0, .int .i64 0]
def tail1 : List Value := [.int .i64 91, .int .i64 92, .int .i64 93]
set_option maxRecDepth 100000 in
set_option maxHeartbeats 6400000 in
theorem leaves_walk {ok : Nat → Prop} {w : World} {A1 A2 A3 : Option Addr} {n1 n2 n3 c1 c2 c3 : Nat} {c : Cfg} (l : Nat) (h : CfgAt ok w A1 A2 A3 n1 n2 n3 c1 c2 c3 c) (hok : ∀ k, ok k → k < w.heap.size) (hcf : cfgFits c) :
    Calls Try.prog 14 #[.agg #[.slice A1 n1 c1, .slice A2 n2 c2, .slice A3 n3 c3], .int .u64 (l : Int)] w fun e w' => e = .returned (.bool true) ∧ Below w.heap.size w w' := by
  have HC : Hid (∀ w', Chg (fun _ => False) w w' → CfgAt (fun k => k < w.heap.size) w' A1 A2 A3 n1 n2 n3 c1 c2 c3 c) := fun w' hc => (h.mono hok).move (fun k hk => hc.block k hk (fun h => h))
  have L1 := Lib.hid h.l1
  have L2 := Lib.hid h.l2
  have L3 := Lib.hid h.l3
  have HF := Lib.hid hcf
  have hf1 : n1 * 8 ≤ 140737488351232 := by rw [← h.l1]; exact hcf.1
  have hf2 : n2 * 40 ≤ 140737488351232 := by rw [← h.l2]; exact hcf.2.1
  have hf3 : n3 * 8 ≤ 140737488351232 := by rw [← h.l3]; exact hcf.2.2
  have HBig := Lib.hid h.big
  clear h hok hcf
  obtain ⟨w0, hw0⟩ : ∃ w0, w0 = w.alloc (.cells #[.slice A1 n1 c1, .slice A2 n2 c2, .slice A3 n3 c3] 32) := ⟨_, rfl⟩
  have HW0 := Lib.hid hw0
  have C0 : Hid (Chg (fun _ => False) w w0) := by rw [hw0]; exact (Chg.refl _ w).alloc _
  obtain ⟨b0, hb0⟩ : ∃ b0, b0 = w.heap.size := ⟨_, rfl⟩
  have HBX : Hid (∀ W, Chg (fun _ => False) w0 W → W.heap[b0]? = some (.cells #[.slice A1 n1 c1, .slice A2 n2 c2, .slice A3 n3 c3] 32 (0, 0))) := fun W hc => hc.at_ (by rw [hw0, hb0]; exact heap_new w _) (fun h => h)
  have HB0 := Lib.hid hb0
  have k0 := cell_at (HBX.out w0 (Chg.refl _ _)) 0 rfl
  have k1 := cell_at (HBX.out w0 (Chg.refl _ _)) 1 rfl
  have k2 := cell_at (HBX.out w0 (Chg.refl _ _)) 2 rfl
  clear hw0
  have H1 := Lib.hid (config_any (HC.out w0 C0.out) (fun k hk => Nat.lt_of_lt_of_le hk C0.out.size) HF.out)
  go_enter Try.func14, Try.ntmps14
  go_upto_region 1 with fail
  rw [← HW0.out, ← hb0]
  clear hb0
  go_wp2_with fail
  refine H1.out.mono ?_
  clear H1
  rintro e w1 ⟨B1, B2, B3, d1, d2, d3, rfl, hD, hc⟩
  have C1 : Hid (Chg (fun _ => False) w0 w1) := hc
  have HD1 := Lib.hid hD
  clear hc hD k0 k1 k2
  go_upto_region 2 with fail
  obtain ⟨W1, hW1⟩ : ∃ W1, W1 = w1.alloc (.cells #[.slice B1 n1 d1, .slice B2 n2 d2, .slice B3 n3 d3] 40) := ⟨_, rfl⟩
  obtain ⟨b5, hb5⟩ : ∃ b5, b5 = w1.heap.size := ⟨_, rfl⟩
  have HW5 : Hid (∀ W, Chg (fun _ => False) W1 W → W.heap[b5]? = some (.cells #[.slice B1 n1 d1, .slice B2 n2 d2, .slice B3 n3 d3] 40 (0, 0))) := fun W hc => hc.at_ (by rw [hW1, hb5]; exact heap_new w1 _) (fun h => h)
  have C01 : Hid (Chg (fun _ => False) w0 W1) := by rw [hW1]; exact C1.out.alloc _
  have HD : Hid (∀ W, Chg (fun _ => False) W1 W → CfgAt (fun k => k < W1.heap.size) W B1 B2 B3 n1 n2 n3 d1 d2 d3 c) := fun W hc => by
    have h2 : Chg (fun _ => False) w1 W := by rw [hW1] at hc; exact ((Chg.refl _ w1).alloc _).trans hc (fun _ _ h => h)
    exact (HD1.out.move (fun k hk => h2.block k hk (fun h => h))).mono (fun k hk => by rw [hW1, World.size_alloc]; omega)
  rw [← hW1, ← hb5]
  have CW1 : Hid (Chg (fun _ => False) w W1) := C0.out.trans C01.out (fun _ _ h => h)
  have HBX1 : Hid (∀ W, Chg (fun _ => False) W1 W → W.heap[b0]? = some (.cells #[.slice A1 n1 c1, .slice A2 n2 c2, .slice A3 n3 c3] 32 (0, 0))) := fun W hc => HBX.out W (C01.out.trans hc (fun _ _ h => h))
  clear hW1 hb5 C1 HD1 C01 HBX
  have k0 := cell_at (HBX1.out W1 (Chg.refl _ _)) 0 rfl
  have H2 := Lib.hid (room_any c.labels A1 n1 c1 W1 _ (HC.out W1 CW1.out).r1 (fun k hk => Nat.lt_of_lt_of_le hk CW1.out.size) hf1)
  go_wp2_with fail
  refine H2.out.mono ?_
  clear H2 k0
  rintro e w2 ⟨v2, rfl, o2, hc⟩
  have C2 := Lib.hid hc
  obtain ⟨F, hF⟩ : ∃ F, F = F := ⟨0, rfl⟩
  clear F hF
  obtain ⟨A4, c4, rfl, -⟩ := Rd.of_own o2
  have OF : Hid (∀ W, Chg (fun _ => False) w2 W → W.ownsRow W1.heap.size 23 1 (.slice A4 (n1 + 70) c4) (n1 + 70) (us (room c.labels 70))) := fun W hW => own_chg hW o2 (fun _ _ h => h)
  clear hc o2
  have k1 := cell_at (HBX1.out w2 C2.out) 1 rfl
  have hs2 := C2.out.size
  have R2 := Lib.hid ((HC.out w2 (CW1.out.trans C2.out (fun _ _ h => h))).r2.any)
  have OA2 := Lib.hid (one_acs c.accounts)
  have OA3 := Lib.hid (one_is c.sessions)
  have R3 := Lib.hid (fun W hW => (HC.out W hW).r3.any)
  have OT5 : Hid (∀ u ∈ tail5, u.oneCell' = true) := by
    intro u hu
    simp only [tail5, List.mem_cons, List.not_mem_nil, or_false] at hu
    rcases hu with rfl | rfl | rfl | rfl | rfl | rfl | rfl | rfl | rfl | rfl <;> rfl
  have OT1 : Hid (∀ u ∈ tail1, u.oneCell' = true) := by
    intro u hu
    simp only [tail1, List.mem_cons, List.not_mem_nil, or_false] at hu
    rcases hu with rfl | rfl | rfl <;> rfl
  have CW2 : Hid (Chg (fun _ => False) w w2) := CW1.out.trans C2.out (fun _ _ h => h)
  go_wp2_with (first
    | (at_builtin; refine ap_src rfl (Operand.const (.slice none 0 0)) (.tmp 19) 29 rfl w2.heap.size 34 5 40 (.agg #[.int .i64 0, .int .i64 0, .int .i64 0, .int .i64 0, .int .i64 0]) Try.underlying29 info_acc rfl (by decide) (by decide) (.slice none 0 0) 0 [] rfl (World.ownsRow_nil _ _ _ _) A2 n2 c2 (acs c.accounts) rfl R2.out OA2.out (by omega) (Nat.le_refl _) ?_; intro v3 w3 o3 g3 r3; have C3 : Hid (Chg (fun _ => False) w2 w3) := (Chg.refl _ w2).of_grown g3 (fun k hk => by simp [Value.ownBlock] at hk); have O3 := Lib.hid o3; have hs3 : w2.heap.size ≤ (w3.alloc (.cells tail5.toArray 34)).heap.size := (by have := C3.out.size; simp only [World.size_alloc]; omega); clear o3 g3 r3 k1)
    | (at_builtin; refine ap_src rfl (.tmp 20) (.tmp 23) 29 rfl w2.heap.size 34 5 40 (.agg #[.int .i64 0, .int .i64 0, .int .i64 0, .int .i64 0, .int .i64 0]) Try.underlying29 info_acc rfl (by decide) (by decide) v3 (0 + n2) _ rfl (O3.out.alloc _) (some ⟨w3.heap.size, 0, none⟩) 2 2 tail5 rfl (rd_new w3 34 2 5 tail5 rfl) OT5.out (by omega) hs3 ?_; intro v4 w4 o4 g4 r4; have C4 : Hid (Chg (fun _ => False) w2 w4) := (C3.out.alloc _).of_grown g4 (fun k hk => .inl (O3.out.lt k hk).1); have O4 := Lib.hid o4; have hs4 := C4.out.size; have k2 := cell_at (HBX1.out w4 (C2.out.trans C4.out (fun _ _ h => h))) 2 rfl; clear o4 g4 r4 hs3 C3 O3)
    | (at_builtin; refine ap_src rfl (Operand.const (.slice none 0 0)) (.tmp 26) 30 rfl w4.heap.size 3 1 8 (.int .i64 0) Try.underlying30 Lcf.info_int rfl (by decide) (by decide) (.slice none 0 0) 0 [] rfl (World.ownsRow_nil _ _ _ _) A3 n3 c3 (is c.sessions) rfl (R3.out w4 (CW2.out.trans C4.out (fun _ _ h => h))) OA3.out (by omega) (Nat.le_refl _) ?_; intro v5 w5 o5 g5 r5; have C5 : Hid (Chg (fun _ => False) w4 w5) := (Chg.refl _ w4).of_grown g5 (fun k hk => by simp [Value.ownBlock] at hk); have O5 := Lib.hid o5; have hs5 : w4.heap.size ≤ (w5.alloc (.cells tail1.toArray 3)).heap.size := (by have := C5.out.size; simp only [World.size_alloc]; omega); clear o5 g5 r5 k2)
    | (at_builtin; refine ap_src rfl (.tmp 27) (.tmp 28) 30 rfl w4.heap.size 3 1 8 (.int .i64 0) Try.underlying30 Lcf.info_int rfl (by decide) (by decide) v5 (0 + n3) _ rfl (O5.out.alloc _) (some ⟨w5.heap.size, 0, none⟩) 3 3 tail1 rfl (rd_new w5 3 3 1 tail1 rfl) OT1.out (by omega) hs5 ?_; intro v6 w6 o6 g6 r6; have C6 : Hid (Chg (fun _ => False) w4 w6) := (C5.out.alloc _).of_grown g6 (fun k hk => .inl (O5.out.lt k hk).1); have O6 := Lib.hid o6; clear o6 g6 r6 hs5 C5 O5)
    | go_in)
  have CW6 : Hid (Chg (fun _ => False) W1 w6) := C2.out.trans (C4.out.trans C6.out (fun _ _ h => h)) (fun _ _ h => h)
  have C26 : Hid (Chg (fun _ => False) w2 w6) := C4.out.trans C6.out (fun _ _ h => h)
  obtain ⟨A7, c7, rfl, -⟩ := Rd.of_own O4.out
  obtain ⟨A8, c8, rfl, -⟩ := Rd.of_own O6.out
  obtain ⟨g4, rfl, hc4, hb4, hl4⟩ := own_form (OF.out w2 (Chg.refl _ _)) (by omega)
  obtain ⟨g7, rfl, hc7, hb7, hl7⟩ := own_form O4.out (by omega)
  obtain ⟨g8, rfl, hc8, hb8, hl8⟩ := own_form O6.out (by omega)
  obtain ⟨N4, hN4⟩ : ∃ N4, N4 = n1 + 70 := ⟨_, rfl⟩
  obtain ⟨N7, hN7⟩ : ∃ N7, N7 = 0 + n2 + 2 := ⟨_, rfl⟩
  obtain ⟨N8, hN8⟩ : ∃ N8, N8 = 0 + n3 + 3 := ⟨_, rfl⟩
  rw [← hN4] at OF hc4
  rw [← hN7] at O4 hc7
  rw [← hN8] at O6 hc8
  rw [← hN4, ← hN7, ← hN8]
  have hN7le : N7 ≤ n2 + 2 := by omega
  have hN8le : N8 ≤ n3 + 3 := by omega
  have HN4 := Lib.hid hN4
  have HN7 := Lib.hid hN7
  have HN8 := Lib.hid hN8
  have i1 : n1 ≤ c4 := by omega
  have i2 : n2 ≤ c7 := by omega
  have i3 : n3 ≤ c8 := by omega
  have O7 : Hid (∀ W, Chg (fun _ => False) w6 W → W.ownsRow w2.heap.size 34 5 (.slice (some ⟨g7, 0, none⟩) N7 c7) N7 ([] ++ acs c.accounts ++ tail5)) := fun W hW => own_chg (C6.out.trans hW (fun _ _ h => h)) O4.out (fun _ _ h => h)
  have O8 : Hid (∀ W, Chg (fun _ => False) w6 W → W.ownsRow w4.heap.size 3 1 (.slice (some ⟨g8, 0, none⟩) N8 c8) N8 ([] ++ is c.sessions ++ tail1)) := fun W hW => own_chg hW O6.out (fun _ _ h => h)
  have C46 : Hid (w4.heap.size ≤ w6.heap.size) := C6.out.size
  clear hN4 hN7 hN8 O4 O6 C4 C6 R2 R3 OA2 OA3 OT5 OT1 hs2 hs4
  have k0 := cell_at (HBX1.out w6 CW6.out) 0 rfl
  have k1 := cell_at (HBX1.out w6 CW6.out) 1 rfl
  have k2 := cell_at (HBX1.out w6 CW6.out) 2 rfl
  have hb0l := lt_of _ (HBX1.out w6 CW6.out)
  go_region
  obtain ⟨W7, hW7⟩ : ∃ W7, W7 = (w6.alloc (.cells #[.slice (some ⟨g4, 0, none⟩) n1 c4, .slice (some ⟨g7, 0, none⟩) n2 c7, .slice (some ⟨g8, 0, none⟩) n3 c8] 32)).drew := ⟨_, rfl⟩
  obtain ⟨b9, hb9⟩ : ∃ b9, b9 = w6.heap.size := ⟨_, rfl⟩
  have C67 : Hid (Chg (fun _ => False) w6 W7) := by rw [hW7]; exact ((Chg.refl _ w6).alloc _).drew
  have HBI : Hid (∀ W, Chg (fun _ => False) W7 W → W.heap[b9]? = some (.cells #[.slice (some ⟨g4, 0, none⟩) n1 c4, .slice (some ⟨g7, 0, none⟩) n2 c7, .slice (some ⟨g8, 0, none⟩) n3 c8] 32 (0, 0))) := fun W hc => hc.at_ (by rw [hW7, hb9]; exact heap_new w6 _) (fun h => h)
  rw [← hW7, ← hb9]
  clear hW7 hb9 k0 k1 k2 hb0l
  have P4 : Hid (∀ W, Chg (fun _ => False) W7 W → W.ownsRow W1.heap.size 23 1 (.slice (some ⟨g4, 0, none⟩) N4 c4) N4 (us (room c.labels 70))) := fun W hW => OF.out W (C26.out.trans (C67.out.trans hW (fun _ _ h => h)) (fun _ _ h => h))
  have P7 : Hid (∀ W, Chg (fun _ => False) W7 W → W.ownsRow w2.heap.size 34 5 (.slice (some ⟨g7, 0, none⟩) N7 c7) N7 (acs c.accounts ++ tail5)) := fun W hW => O7.out W (C67.out.trans hW (fun _ _ h => h))
  have P8 : Hid (∀ W, Chg (fun _ => False) W7 W → W.ownsRow w4.heap.size 3 1 (.slice (some ⟨g8, 0, none⟩) N8 c8) N8 (is c.sessions ++ tail1)) := fun W hW => O8.out W (C67.out.trans hW (fun _ _ h => h))
  have CW7 : Hid (Chg (fun _ => False) W1 W7) := CW6.out.trans C67.out (fun _ _ h => h)
  have CWW : Hid (Chg (fun _ => False) w W7) := CW1.out.trans CW7.out (fun _ _ h => h)
  have Q1 : Hid (∀ W, Chg (fun _ => False) W7 W → Rd (fun k => k < W.heap.size) W (some ⟨g4, 0, none⟩) n1 c4 1 (us c.labels)) := fun W hW => (rd_prefix (ys := us c.labels) (zs := us ((List.range 70).map (9000 + ·))) (by have := P4.out W hW; unfold room at this; rwa [show us (c.labels ++ (List.range 70).map (9000 + ·)) = us c.labels ++ us ((List.range 70).map (9000 + ·)) by simp [us]] at this) (by rw [us_len, L1.out]; omega) i1 (by have := HN4.out; omega)).mono (fun k hk => by subst hk; have := hl4; have := CW7.out.size; have := C26.out.size; have := C67.out.size; have := hW.size; omega)
  have Q2 : Hid (∀ W, Chg (fun _ => False) W7 W → Rd (fun k => k < W.heap.size) W (some ⟨g7, 0, none⟩) n2 c7 5 (acs c.accounts)) := fun W hW => (rd_prefix (P7.out W hW) (by rw [Lmay.acs_len, L2.out]) i2 (by have := HN7.out; omega)).mono (fun k hk => by subst hk; have := hl7; have := C67.out.size; have := hW.size; have := C46.out; omega)
  have Q3 : Hid (∀ W, Chg (fun _ => False) W7 W → Rd (fun k => k < W.heap.size) W (some ⟨g8, 0, none⟩) n3 c8 1 (is c.sessions)) := fun W hW => (rd_prefix (P8.out W hW) (by rw [is_len, L3.out]; omega) i3 (by have := HN8.out; omega)).mono (fun k hk => by subst hk; have := hl8; have := C67.out.size; have := hW.size; omega)
  have HCI : Hid (∀ W, Chg (fun _ => False) W7 W → CfgAt (fun k => k < W.heap.size) W (some ⟨g4, 0, none⟩) (some ⟨g7, 0, none⟩) (some ⟨g8, 0, none⟩) n1 n2 n3 c4 c7 c8 c) := fun W hW => ⟨L1.out, L2.out, L3.out, Q1.out W hW, Q2.out W hW, Q3.out W hW, HBig.out, by omega, by omega, by omega⟩
  have KB : Hid (∀ W, Chg (fun _ => False) W7 W → W.heap[b0]? = some (.cells #[.slice A1 n1 c1, .slice A2 n2 c2, .slice A3 n3 c3] 32 (0, 0))) := fun W hW => HBX1.out W (CW7.out.trans hW (fun _ _ h => h))
  have K5 : Hid (∀ W, Chg (fun _ => False) W7 W → W.heap[b5]? = some (.cells #[.slice B1 n1 d1, .slice B2 n2 d2, .slice B3 n3 d3] 40 (0, 0))) := fun W hW => HW5.out W (CW7.out.trans hW (fun _ _ h => h))
  have KD : Hid (∀ W, Chg (fun _ => False) W7 W → CfgAt (fun k => k < W7.heap.size) W B1 B2 B3 n1 n2 n3 d1 d2 d3 c) := fun W hW => (HD.out W (CW7.out.trans hW (fun _ _ h => h))).mono (fun k hk => Nat.lt_of_lt_of_le hk CW7.out.size)
  have KC : Hid (∀ W, Chg (fun _ => False) W7 W → CfgAt (fun k => k < w.heap.size) W A1 A2 A3 n1 n2 n3 c1 c2 c3 c) := fun W hW => HC.out W (CWW.out.trans hW (fun _ _ h => h))
  clear OF O7 O8 C26 C67 CW6 HBX1 HW5 HD HC C2 CW1 CW2 Q2 Q3 CW7 C0 HW0 HB0
  have k0 := cell_at (HBI.out W7 (Chg.refl _ _)) 0 rfl
  have H8 := Lib.hid (check_any c.labels (some ⟨g4, 0, none⟩) n1 c4 W7 _ (Q1.out W7 (Chg.refl _ _)) HBig.out (by omega))
  go_wp2_with fail
  refine H8.out.mono ?_
  clear H8 k0
  rintro e w8 ⟨rfl, q8, hq8⟩
  have E8 : Hid (Chg (fun _ => False) W7 w8) := by rw [hq8]; exact (Chg.refl _ W7).drewN _
  clear hq8
  have k0 := cell_at (HBI.out w8 E8.out) 0 rfl
  have H9 := Lib.hid (place_any c.labels l (some ⟨g4, 0, none⟩) n1 c4 w8 _ (Q1.out w8 E8.out) (by omega))
  go_wp2_with fail
  refine H9.out.mono ?_
  clear H9
  rintro e w9 ⟨rfl, rfl⟩
  have k1 := cell_at (HBI.out w8 E8.out) 1 rfl
  have k2 := cell_at (HBI.out w8 E8.out) 2 rfl
  have H10 := Lib.hid (may_any (HCI.out w8 E8.out) (fun k hk => hk))
  go_wp2_with fail
  refine H10.out.mono ?_
  clear H10 k0 k1 k2
  rintro e w10 ⟨rfl, hc⟩
  have E10 : Hid (Chg (fun _ => False) W7 w10) := E8.out.trans hc (fun _ _ h => h)
  clear hc E8
  have k0 := cell_at (K5.out w10 E10.out) 0 rfl
  have H11 := Lib.hid (kept_any c.labels (some ⟨g4, 0, none⟩) B1 N4 n1 c4 d1 HN4.out w10 _ _ (Lcf.rd_own (P4.out w10 E10.out)) (KD.out w10 E10.out).r1 (by omega))
  go_wp2_with fail
  refine H11.out.mono ?_
  clear H11 k0
  rintro e w11 ⟨rfl, q11, hq11⟩
  have E11 : Hid (Chg (fun _ => False) W7 w11) := by rw [hq11]; exact E10.out.drewN _
  clear hq11 E10
  have k0 := cell_at (K5.out w11 E11.out) 0 rfl
  have k1 := cell_at (K5.out w11 E11.out) 1 rfl
  have k2 := cell_at (K5.out w11 E11.out) 2 rfl
  have H12 := Lib.hid (rmay_any (KD.out w11 E11.out) (fun k hk => Nat.lt_of_lt_of_le hk E11.out.size))
  go_wp2_with fail
  refine H12.out.mono ?_
  clear H12 k0 k1 k2
  rintro e w12 ⟨rfl, hc⟩
  have E12 : Hid (Chg (fun _ => False) W7 w12) := E11.out.trans hc (fun _ _ h => h)
  have hbb : (mayB c != mayB c) = false := by simp
  clear hc E11
  go_wp2
  go_loopw [11] (fun i wr => ∃ k : Nat, k ≤ N7 ∧ i = .int .i64 k ∧ Chg (fun _ => False) W7 wr) (fun i _ => N7 - (intOf i).toNat)
  case atStart => exact ⟨0, by omega, rfl, E12.out⟩
  case round =>
    clear E12
    obtain ⟨k, hk, rfl, hch⟩ := hrel
    obtain ⟨wa, rfl⟩ : ∃ wa : World, wa = wr := ⟨_, rfl⟩
    have HK := Lib.hid hch
    by_cases hlt : k < N7
    · have k1 := cell_at (KB.out wa hch) 1 rfl
      have i5 : decide ((k : Int) < (N7 : Int)) = true := decide_eq_true (by omega)
      have i5' : (k : Int) < (N7 : Int) := by omega
      by_cases hin : k < n2
      · obtain ⟨ga, oa, ea, -, hca⟩ := rd_acs (HCI.out wa hch).r2 (by omega)
        cases ea
        obtain ⟨x1, x2, x3, x4, x5⟩ := hca k hin
        obtain ⟨gb, ob, eb, -, hcb⟩ := rd_acs (KC.out wa hch).r2 (by omega)
        cases eb
        obtain ⟨y1, y2, y3, y4, y5⟩ := hcb k hin
        clear hca hcb
        obtain ⟨ac, hac⟩ : ∃ ac, ac = c.accounts.getD k Acc.zero := ⟨_, rfl⟩
        rw [← hac] at x1 x2 x3 x4 x5 y1 y2 y3 y4 y5
        clear hac
        obtain ⟨q1, q2, q3, q4, q5⟩ := ac
        simp only [Nat.zero_add] at x1 x2 x3 x4 x5
        have i6 : (k : Int) < (n2 : Int) := by omega
        have i7 : decide ((n2 : Int) ≤ (k : Int)) = false := decide_eq_false (by omega)
        have i8 : decide (n2 ≤ k) = false := decide_eq_false (by omega)
        have hne := neq5 q1 q2 q3 q4 q5
        clear hch
        go_wp2_with fail
        go_quiet (fail)
        go_wp2
        go_roundw
        case rel => exact ⟨k + 1, hlt, by go_num, HK.out.drewN _⟩
        case measure => simp [intOf]; omega
      · have i6 : decide ((k : Int) < (n2 : Int)) = false := decide_eq_false (by omega)
        have i7 : (n2 : Int) ≤ (k : Int) := by omega
        have i8 : decide (k < n2) = false := decide_eq_false (by omega)
        have i9 : decide (n2 ≤ k) = true := decide_eq_true (by omega)
        have hN := HN7.out
        obtain ⟨x, hx⟩ : ∃ x : Nat, x = 11 + (k - n2) := ⟨_, rfl⟩
        have f1 : wa.cell? ⟨g7, k * 5, none⟩ = some (.int .i64 (x : Int)) := by
          obtain ⟨A', c', e', hr⟩ := Rd.of_own (P7.out wa hch)
          simp only [Value.slice.injEq, true_and] at e'
          obtain ⟨rfl, rfl⟩ := e'
          obtain ⟨b, off, e1, hb, hcc⟩ := Rd.at_ hr (show 0 < N7 by omega)
          cases e1
          have hl5 : (acs c.accounts).length = n2 * 5 := by rw [Lmay.acs_len, L2.out]
          have := hcc (k * 5) (.int .i64 (x : Int)) (by
            rw [List.getElem?_append_right (by omega), hl5]
            have hk2 : k = n2 ∨ k = n2 + 1 := by omega
            rcases hk2 with rfl | rfl
            · rw [Nat.sub_self, hx, Nat.sub_self]; rfl
            · rw [show (n2 + 1) * 5 - n2 * 5 = 5 by omega, hx, show n2 + 1 - n2 = 1 by omega]; rfl)
          rwa [Nat.zero_add] at this
        have e1 : IntKind.i64.wrap (11 + (k : Int)) = 11 + (k : Int) := by rw [IntKind.wrap_i64]; omega
        have e2 : IntKind.i64.wrap (11 + (k : Int) - (n2 : Int)) = (x : Int) := by rw [IntKind.wrap_i64]; omega
        have e4 : 11 + (k : Int) - (n2 : Int) = (x : Int) := by omega
        have hne : ((x : Int) != (x : Int)) = false := by simp
        clear hx hN hch
        go_wp2_with fail
        go_quiet (fail)
        go_wp2
        go_roundw
        case rel => exact ⟨k + 1, hlt, by go_num, HK.out.drewN _⟩
        case measure => simp [intOf]; omega
    · have i5 : decide ((k : Int) < (N7 : Int)) = false := decide_eq_false (by omega)
      clear hch
      go_wp2
      go_loopw [12] (fun i wr => ∃ k : Nat, k ≤ N8 ∧ i = .int .i64 k ∧ Chg (fun _ => False) W7 wr) (fun i _ => N8 - (intOf i).toNat)
      case atStart => exact ⟨0, by omega, rfl, HK.out⟩
      case round =>
        clear HK
        obtain ⟨k2, hk2, rfl, hch⟩ := hrel
        obtain ⟨wb, rfl⟩ : ∃ wb : World, wb = wr := ⟨_, rfl⟩
        have HK := Lib.hid hch
        by_cases hlt2 : k2 < N8
        · have k1 := cell_at (KB.out wb hch) 2 rfl
          have k5 := cell_at (K5.out wb hch) 2 rfl
          have i5 : decide ((k2 : Int) < (N8 : Int)) = true := decide_eq_true (by omega)
          have i5' : (k2 : Int) < (N8 : Int) := by omega
          by_cases hin : k2 < n3
          · obtain ⟨ga, oa, ea, -, hca⟩ := rd_is (HCI.out wb hch).r3 (by omega)
            cases ea
            have x1 := hca k2 hin
            obtain ⟨gb, ob, eb, -, hcb⟩ := rd_is (KD.out wb hch).r3 (by omega)
            cases eb
            have y1 := hcb k2 hin
            clear hca hcb
            obtain ⟨x, hx⟩ : ∃ x, x = c.sessions.getD k2 0 := ⟨_, rfl⟩
            rw [← hx] at x1 y1
            simp only [Nat.zero_add] at x1
            have i6 : (k2 : Int) < (n3 : Int) := by omega
            have i7 : decide ((n3 : Int) ≤ (k2 : Int)) = false := decide_eq_false (by omega)
            have i8 : decide (n3 ≤ k2) = false := decide_eq_false (by omega)
            have hne : (x != x) = false := by simp
            clear hch hx
            go_wp2_with fail
            go_quiet (fail)
            go_wp2
            go_roundw
            case rel => exact ⟨k2 + 1, hlt2, by go_num, HK.out.drewN _⟩
            case measure => simp [intOf]; omega
          · have i6 : decide ((k2 : Int) < (n3 : Int)) = false := decide_eq_false (by omega)
            have i7 : (n3 : Int) ≤ (k2 : Int) := by omega
            have i8 : decide (k2 < n3) = false := decide_eq_false (by omega)
            have i9 : decide (n3 ≤ k2) = true := decide_eq_true (by omega)
            have hN := HN8.out
            obtain ⟨x, hx⟩ : ∃ x : Nat, x = 91 + (k2 - n3) := ⟨_, rfl⟩
            have f1 : wb.cell? ⟨g8, k2, none⟩ = some (.int .i64 (x : Int)) := by
              obtain ⟨A', c', e', hr⟩ := Rd.of_own (P8.out wb hch)
              simp only [Value.slice.injEq, true_and] at e'
              obtain ⟨rfl, rfl⟩ := e'
              obtain ⟨b, off, e1, hb, hcc⟩ := Rd.at_ hr (show 0 < N8 by omega)
              cases e1
              have hl5 : (is c.sessions).length = n3 := by rw [is_len, L3.out]
              have := hcc k2 (.int .i64 (x : Int)) (by
                rw [List.getElem?_append_right (by omega), hl5]
                have hk2 : k2 = n3 ∨ k2 = n3 + 1 ∨ k2 = n3 + 2 := by omega
                rcases hk2 with rfl | rfl | rfl
                · rw [Nat.sub_self] at hx; rw [Nat.sub_self, hx]; rfl
                · rw [Nat.add_sub_cancel_left] at hx; rw [Nat.add_sub_cancel_left, hx]; rfl
                · rw [Nat.add_sub_cancel_left] at hx; rw [Nat.add_sub_cancel_left, hx]; rfl)
              rwa [Nat.zero_add] at this
            have e1 : IntKind.i64.wrap (91 + (k2 : Int)) = 91 + (k2 : Int) := by rw [IntKind.wrap_i64]; omega
            have e2 : IntKind.i64.wrap (91 + (k2 : Int) - (n3 : Int)) = (x : Int) := by rw [IntKind.wrap_i64]; omega
            have e4 : 91 + (k2 : Int) - (n3 : Int) = (x : Int) := by omega
            have hne : ((x : Int) != (x : Int)) = false := by simp
            clear hx hN hch
            go_wp2_with fail
            go_quiet (fail)
            go_wp2
            go_roundw
            case rel => exact ⟨k2 + 1, hlt2, by go_num, HK.out.drewN _⟩
            case measure => simp [intOf]; omega
        · have i5 : decide ((k2 : Int) < (N8 : Int)) = false := decide_eq_false (by omega)
          clear hch
          go_wp2_with fail
          refine (awake_any _).mono ?_
          rintro e w5 ⟨rfl, hc⟩
          have C5 : Hid (Chg (fun _ => False) w w5) := (CWW.out.trans HK.out (fun _ _ h => h)).trans hc (fun _ _ h => h)
          clear hc HK
          go_wp2
          go_ret
          exact ⟨rfl, C5.out.below⟩
theorem leaves_row {ok : Nat → Prop} {w : World} {A1 A2 A3 : Option Addr} {n1 n2 n3 c1 c2 c3 : Nat} {c : Cfg} (l : Int) (h : CfgAt ok w A1 A2 A3 n1 n2 n3 c1 c2 c3 c) (hok : ∀ k, ok k → k < w.heap.size) (hcf : cfgFits c) (hl : (Lit.int .u64 l).wf = true) :
    Calls Try.prog 14 #[.agg #[.slice A1 n1 c1, .slice A2 n2 c2, .slice A3 n3 c3], .int .u64 l] w fun e w' => e = .returned (.bool true) ∧ Below w.heap.size w w' := by
  have h0 : 0 ≤ l := by simp [Lit.wf, IntKind.min, IntKind.max, IntKind.bits, IntKind.signed] at hl; omega
  obtain ⟨n, rfl⟩ : ∃ n : Nat, l = (n : Int) := ⟨l.toNat, by omega⟩
  exact leaves_walk n h hok hcf
end Go.Proofs.Ytdfplhoijapoeaa.Llv
