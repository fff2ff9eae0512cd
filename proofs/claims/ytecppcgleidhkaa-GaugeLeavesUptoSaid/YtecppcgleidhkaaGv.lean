/- The law GaugeLeaves, walked. Conditions: the list reads so; at most 1048576 of them. -/
import Derived.Test.YtecppcgleidhkaaGc
set_option linter.unusedVariables false
set_option linter.unusedSimpArgs false
set_option exponentiation.threshold 3000
namespace Go.Proofs.Ytecppcgleidhkaa.Gv
open Go.RowKit Go.Proofs.Ytecppcgleidhkaa.Lib1 Go.Proofs.Ytecppcgleidhkaa.Rel Go.Proofs.Ytecppcgleidhkaa.Own Go.Proofs.Ytecppcgleidhkaa.Fl Go.Proofs.Ytecppcgleidhkaa.Gp Go.Proofs.Ytecppcgleidhkaa.Gw Go.Proofs.Ytecppcgleidhkaa.Gm Go.Proofs.Ytecppcgleidhkaa.Gk Go.Proofs.Ytecppcgleidhkaa.Gb Go.Proofs.Ytecppcgleidhkaa.Gx

/-- What is put behind the list. -/
def ex (k : Nat) : List (Int × Int) := (List.range k).map fun (j : Nat) => ((-9 : Int) - (j : Int), (0 : Int))
theorem ex_succ (k : Nat) : ex (k + 1) = ex k ++ [((-9 : Int) - (k : Int), (0 : Int))] := by simp [ex, List.range_succ]
theorem ex_len (k : Nat) : (ex k).length = k := by simp [ex]
theorem ex_get {hs : List (Int × Int)} {n q : Nat} (hn : hs.length = n) (h1 : n ≤ q) (h2 : q < n + 70) : (hs ++ ex 70)[q]? = some ((-9 : Int) - (q : Int) + (n : Int), 0) := by
  rw [List.getElem?_append_right (by omega), hn]
  unfold ex
  rw [List.getElem?_map, List.getElem?_range (by omega)]
  simp only [Option.map_some, Option.some.injEq, Prod.mk.injEq, and_true]
  omega
theorem rel_prefix {α : Type} {bytes : Nat} {d : Kd α} {ok : Nat → Prop} {w : World} {A : Option Addr} {n m c : Nat} {xs ys : List α} (h : (Kd.slice bytes d).rel ok w (xs ++ ys) [.slice A m c]) (hn : xs.length = n) : (Kd.slice bytes d).rel ok w xs [.slice A n c] := by
  obtain ⟨A', c', cells, he, hrd, hel⟩ := h
  simp only [List.cons.injEq, Value.slice.injEq, and_true] at he
  obtain ⟨rfl, e2, rfl⟩ := he
  rw [List.length_append] at hrd
  refine ⟨A, c, cells.take (xs.length * d.sz), by rw [hn], ⟨?_, ?_, hrd.nil, fun h0 => ?_⟩, fun i x hx => ?_⟩
  · rw [List.length_take, hrd.len, Nat.add_mul]; omega
  · have := hrd.cap; omega
  · obtain ⟨b, off, e, hb, hc⟩ := hrd.at_ (by omega)
    refine ⟨b, off, e, hb, fun j u hu => ?_⟩
    rw [List.getElem?_take] at hu
    split at hu
    · exact hc j u hu
    · cases hu
  · have hi := (List.getElem?_eq_some_iff.1 hx).1
    have := hel i x (by rw [List.getElem?_append_left hi]; exact hx)
    rw [← List.take_append_drop (xs.length * d.sz) cells] at this
    rw [chunk_append _ _ i d.sz xs.length (by rw [List.length_take, hrd.len, Nat.add_mul]; omega) hi] at this
    exact this
/-- A block of so many cells that may be written. -/
def Full (w : World) (b m : Nat) : Prop := ∃ cur : Array Value, w.heap[b]? = some (.cells cur 65 (0, 0)) ∧ m ≤ cur.size
theorem Full.at_ {w : World} {b m i : Nat} (h : Full w b m) (hi : i < m) : ∃ u, w.cell? ⟨b, i, none⟩ = some u := by
  obtain ⟨cur, h1, h2⟩ := h
  exact ⟨_, cell_at h1 i (Array.getElem?_eq_getElem (by omega))⟩
theorem Full.free {w : World} {b m : Nat} (h : Full w b m) (i : Nat) : w.frozen? ⟨b, i, none⟩ = false := by
  obtain ⟨cur, h1, h2⟩ := h
  exact free_at h1 i
theorem Full.set {w : World} {b m : Nat} (h : Full w b m) (i : Nat) (v : Value) : Full (w.setCell ⟨b, i, none⟩ v) b m := by
  obtain ⟨cur, h1, h2⟩ := h
  exact ⟨_, heap_set h1 i v, by simpa using h2⟩
theorem box4 {W : World} {B : Nat} {x0 x1 x2 x3 : Value} {t : TypeId} (h : W.heap[B]? = some (.cells #[x0, x1, x2, x3] t (0, 0))) : (∀ i, W.frozen? ⟨B, i, none⟩ = false) ∧ B < W.heap.size ∧ W.cell? ⟨B, 0, none⟩ = some x0 ∧ W.cell? ⟨B, 1, none⟩ = some x1 ∧ W.cell? ⟨B, 2, none⟩ = some x2 ∧ W.cell? ⟨B, 3, none⟩ = some x3 :=
  ⟨fun i => free_at h i, lt_of _ h, cell_at h 0 rfl, cell_at h 1 rfl, cell_at h 2 rfl, cell_at h 3 rfl⟩
set_option maxRecDepth 100000 in
set_option maxHeartbeats 2000000 in
theorem leaves_walk (hs : List (Int × Int)) (A : Option Addr) (n c : Nat) (s x : Int) (w : World) (h : (Kd.slice 16 heardK).rel (fun k => k < w.heap.size) w hs [.slice A n c]) (hn : n ≤ 1048576) (hfit : ∀ x ∈ hs, (Lit.int .i64 x.1).wf = true ∧ (Lit.int .i64 x.2).wf = true) (hsw : (Lit.int .i64 s).wf = true) (hxw : (Lit.int .i64 x).wf = true) :
    Calls Try.prog 9 #[.slice A n c, .agg #[.int .i64 s, .int .i64 x]] w fun e w' => e = .returned (.bool true) ∧ Below w.heap.size w w' := by
  have HL : Hid (hs.length = n) := by
    obtain ⟨A', c', cells, he, -⟩ := h
    simp only [List.cons.injEq, Value.slice.injEq, and_true] at he
    exact he.2.1.symm
  have HH : Hid (∀ W, Chg (fun _ => False) w W → (Kd.slice 16 heardK).rel (fun k => k < W.heap.size) W hs [.slice A n c]) := fun W hc => (Kd.slice 16 heardK).mono (fun k hk => Nat.lt_of_lt_of_le hk hc.size) ((Kd.slice 16 heardK).move (fun k hk => hc.block k hk (fun h => h)) h)
  have HF := Lib.hid hfit
  have HM : Hid (∀ (W : World) (A : Option Addr) (c : Nat), (Kd.slice 112 respK).rel (fun k => k < W.heap.size) W hs [.slice A n c] → Calls Try.prog 11 #[.float .f64 4602678819172646912, .slice A n c] W fun e w' => MRes W (Gm.measure 4602678819172646912 hs) e w') := fun W A c h => measure_walk 4602678819172646912 (by decide) hs A n c W h (by omega) hfit
  have HD : Hid (∀ (W : World) (A : Option Addr) (c : Nat), (Kd.slice 112 respK).rel (fun k => k < W.heap.size) W hs [.slice A n c] → Calls Try.prog 21 #[.float .f64 4602678819172646912, .slice A n c] W fun e w' => RM W 4602678819172646912 n (Gm.measure 4602678819172646912 hs) e w') := fun W A c h => rmeasure_walk 4602678819172646912 (by decide) hs A n c W h (by omega) hfit
  clear h hfit
  obtain ⟨R, hR⟩ : ∃ R, R = w.heap.size := ⟨_, rfl⟩
  have HR := Lib.hid hR
  go_enter Try.func9, Try.ntmps9
  go_upto_region 1 with (fail)
  rw [← hR]
  generalize hw0 : w.alloc _ = w0
  have HC0 : Hid (Chg (fun _ => False) w w0) := by rw [← hw0]; exact (Chg.refl _ _).alloc _
  have HB0 : Hid (w0.heap[R]? = some (.cells #[.int .i64 s, .int .i64 x] 34 (0, 0))) := by rw [← hw0, hR]; exact heap_new _ _
  have hR0 : R + 1 = w0.heap.size := by rw [← hw0, hR]; simp
  have HR0 := Lib.hid hR0
  clear hw0 hR hR0
  go_upto_region 4 with (first
      | (go_at_call 10; refine (head_walk _).mono ?_; rintro e w1 ⟨rfl, hc1⟩; have HC1 := Lib.hid (HC0.out.trans hc1 (fun _ _ h => h)); have HB1 := Lib.hid (hc1.at_ HB0.out (fun h => h)); have HZ1 := Lib.hid hc1.size; clear hc1)
      | (go_at_call 12; refine (resp_walk hs A n c _ (HH.out _ HC1.out) (by omega)).mono ?_; rintro e w2 ⟨A2, c2, rfl, -, ho, hc⟩; have HO := Lib.hid ho; have HC2 := Lib.hid (HC1.out.trans hc (fun _ _ h => h)); have HB2 := Lib.hid (hc.at_ HB1.out (fun h => h)); have HZ2 := Lib.hid hc.size; clear ho hc))
  obtain ⟨L, hLw⟩ : ∃ L, L = w1.heap.size := ⟨_, rfl⟩
  rw [← hLw] at HO HZ1 HZ2
  have hRL : R < L := by have := HR0.out; have := HZ1.out; omega
  have hL2 : L ≤ w2.heap.size := HZ2.out
  clear hLw HC0 HB0 HC1 HB1 HZ1 HZ2
  go_wp2
  go_loopw [5, 6] (fun v i wr => ∃ k : Nat, k ≤ 70 ∧ i = .int .i64 k ∧ OwnL respK 65 L wr v (hs ++ ex k) ∧ Chg (fun q => L ≤ q) w2 wr) (fun _ i _ => 70 - (intOf i).toNat)
  case atStart => exact ⟨0, by omega, rfl, by rw [show ex 0 = [] from rfl, List.append_nil]; exact HO.out, Chg.refl _ _⟩
  case round =>
    obtain ⟨w3, rfl⟩ : ∃ w3, w3 = wr := ⟨_, rfl⟩
    obtain ⟨k, hk, rfl, ho, hc⟩ := hrel
    have HO3 := Lib.hid ho
    have HC3 := Lib.hid hc
    by_cases hlt : k < 70
    · obtain ⟨Av, cv, e0⟩ := ho.form
      rw [List.length_append, HL.out, ex_len] at e0
      subst e0
      clear ho hc
      have i1 : IntKind.i64.wrap (-9 - (k : Int)) = -9 - (k : Int) := by rw [IntKind.wrap_i64]; omega
      have hLs := HC3.out.size
      go_wp2_with (at_builtin; go_loud (refine ap_push rfl (.tmp 23) (.tmp 27) 29 rfl respK L 65 112 _ Try.underlying29 info_resp rfl (by decide) (by decide) (.slice Av (n + k) cv) (hs ++ ex k) rfl HO3.out (-9 - (k : Int), 0) _ rfl ?bR ?bL ?bB ?_; (case bR => rfl); (case bL => rw [List.length_append, HL.out, ex_len]; omega); (case bB => omega); intro v3 w4 o3 g3; obtain ⟨A3, c3, e3⟩ := o3.form; subst e3))
      go_roundw
      case rel =>
        refine ⟨k + 1, hlt, by go_num, ?_, HC3.out.trans g3 (fun j hj he => (HO3.out.low j he).1)⟩
        rw [ex_succ, ← List.append_assoc]
        have el : hs.length + ((ex k).length + 1) = (hs ++ ex k ++ [((-9 : Int) - (k : Int), (0 : Int))]).length := by simp [Nat.add_assoc]
        rw [el]
        exact o3
      case measure => simp [intOf]; omega
    · obtain rfl : k = 70 := by omega
      have hlen : (hs ++ ex 70).length = n + 70 := by rw [List.length_append, HL.out, ex_len]
      obtain ⟨G0, cap, cur, e0, hGL, hG, hcs, hcap⟩ : ∃ G0 cap cur, u5 = .slice (some ⟨G0, 0, none⟩) (n + 70) cap ∧ L ≤ G0 ∧ w3.heap[G0]? = some (.cells cur 65 (0, 0)) ∧ (n + 70) * 10 ≤ cur.size ∧ n + 70 ≤ cap := by
        have hlow := ho.low
        obtain ⟨cells, hrow, -⟩ := ho
        rw [hlen] at hrow
        rcases hrow.2 with ⟨e, h2⟩ | ⟨G0, cap, cur, e1, h2, h3, h4⟩
        · omega
        · have hsz : respK.sz = 10 := rfl
          rw [hsz] at h4
          exact ⟨G0, cap, cur, e1, h2, h3, by have := h4.1; have := h4.2.2.1; omega, h4.1⟩
      subst e0
      have hcap1 : (n : Int) ≤ (cap : Int) := by omega
      have hcap0 : ¬ cap = 0 := by omega
      clear ho hc hlt hk hcap
      have HW3 : Hid (Chg (fun _ => False) w w3) := HC2.out.trans HC3.out (fun q hq e => by have := HR.out; omega)
      have HB3 : Hid (w3.heap[R]? = _) := HC3.out.at_ HB2.out (by omega)
      have HIN : Hid ((Kd.slice 112 respK).rel (fun q => q < w3.heap.size) w3 (hs ++ ex 70) [.slice (some ⟨G0, 0, none⟩) (n + 70) cap]) := (Kd.slice 112 respK).mono (fun q hq => hq.2) HO3.out.reads
      have HPR : Hid ((Kd.slice 112 respK).rel (fun q => q < w3.heap.size) w3 hs [.slice (some ⟨G0, 0, none⟩) n cap]) := rel_prefix HIN.out HL.out
      have HG := Lib.hid hG
      have hG3 : G0 < w3.heap.size := lt_of _ hG
      have HCS := Lib.hid hcs
      clear hG hcs hlen HO3 HC3 HO HC2 HB2
      cases hme : Gm.measure 4602678819172646912 hs with
      | none =>
        rw [hme] at HM HD
        go_upto_region 9 with (go_at_call 11; go_loud (refine (HM.out _ _ _ HPR.out).mono ?_; rintro e w4 ⟨rfl, hc4⟩; have HC4 := Lib.hid hc4; clear hc4))
        clear HM HD HF HPR
        have hs4 := HC4.out.size
        go_wp2
        go_loopw [39] (fun i wr => ∃ q : Nat, q ≤ n + 70 ∧ i = .int .i64 q ∧ Chg (fun _ => False) w4 wr) (fun i _ => n + 70 - (intOf i).toNat)
        case atStart => exact ⟨0, Nat.zero_le _, rfl, Chg.refl _ _⟩
        case round =>
          obtain ⟨w5, rfl⟩ : ∃ w5, w5 = wr := ⟨_, rfl⟩
          obtain ⟨q, hq, rfl, hc⟩ := hrel
          have HC5 := Lib.hid hc
          have HV5 : Hid (Chg (fun _ => False) w3 w5) := HC4.out.trans hc (fun _ _ h => h)
          have hs5 := HV5.out.size
          clear hc
          by_cases hlt2 : q < n + 70
          · have i0 : (0 : Int) ≤ (q : Int) := by omega
            have i1 : (q : Int) < (n : Int) + 70 := by omega
            have i2 : (q : Int) < ((n + 70 : Nat) : Int) := by omega
            obtain ⟨-, bb, oo, e0, hb, hcell⟩ := resp_at HIN.out (by omega)
            cases e0
            by_cases hqn : q < n
            · obtain ⟨⟨s0, c0⟩, hx⟩ : ∃ x, hs[q]? = some x := ⟨_, List.getElem?_eq_getElem (by have := HL.out; omega)⟩
              have y0 : w5.cell? ⟨G0, q * 10, none⟩ = some (.int .i64 s0) := by
                have := hcell q s0 c0 (by rw [List.getElem?_append_left (by have := HL.out; omega)]; exact hx) 0 _ rfl
                rw [Nat.zero_add, Nat.add_zero] at this
                exact (World.cell?_of_block (a := ⟨G0, q * 10, none⟩) (HV5.out.block G0 hb (fun h => h))).trans this
              obtain ⟨-, b1, off1, rfl, hb1, hcell1⟩ := heard_at (HH.out w5 (HW3.out.trans HV5.out (fun _ _ h => h))) (by omega)
              obtain ⟨z0, z1⟩ := hcell1 q s0 c0 hx
              have i3 : (q : Int) < (n : Int) := by omega
              have d1 : decide (n ≤ q) = false := decide_eq_false (by omega)
              clear hcell hcell1 hx z1
              clear hlt2
              go_upto_region 12 with (fail)
              go_quiet (fail)
              go_wp2
              go_roundw
              case rel => exact ⟨q + 1, by omega, by go_num, (HC5.out.drewN _)⟩
              case measure => simp [intOf]; omega
            · have y0 : w5.cell? ⟨G0, q * 10, none⟩ = some (.int .i64 ((-9 : Int) - (q : Int) + (n : Int))) := by
                have := hcell q _ _ (ex_get HL.out (by omega) hlt2) 0 _ rfl
                rw [Nat.zero_add, Nat.add_zero] at this
                exact (World.cell?_of_block (a := ⟨G0, q * 10, none⟩) (HV5.out.block G0 hb (fun h => h))).trans this
              have j1 : IntKind.i64.wrap (-9 - (q : Int)) = -9 - (q : Int) := by rw [IntKind.wrap_i64]; omega
              have j2 : IntKind.i64.wrap (-9 - (q : Int) + (n : Int)) = -9 - (q : Int) + (n : Int) := by rw [IntKind.wrap_i64]; omega
              have d1 : decide (q < n) = false := decide_eq_false (by omega)
              have d2 : n ≤ q := by omega
              have i4 : (n : Int) ≤ (q : Int) := by omega
              clear hcell
              clear hlt2
              go_upto_region 12 with (fail)
              go_quiet (fail)
              go_wp2
              go_roundw
              case rel => exact ⟨q + 1, by omega, by go_num, (HC5.out.drewN _)⟩
              case measure => simp [intOf]; omega
          · obtain rfl : q = n + 70 := by omega
            go_wp2
            go_ret
            exact ⟨rfl, (HW3.out.trans HV5.out (fun _ _ h => h)).below⟩
      | some g =>
        rw [hme] at HM HD
        have hhs : hears (g0 4602678819172646912) hs = some g := by
          unfold Gm.measure at hme
          rw [if_pos (by decide)] at hme
          exact hme
        have hgd := good_any (by decide : 4602678819172646912 < ONE) hhs (by have := HL.out; omega)
        have HGD := Lib.hid hgd
        have hls : g.slots.length = n := by rw [(heard_any hhs).slots, List.length_map, HL.out]
        have HLS := Lib.hid hls
        have HLK : Hid (∀ (E : Nat → Prop) (W : World) (b : Nat) (A : Option Addr) (c : Nat) (B : Option Addr) (d : Nat), GV E W b g → RW (fun q => q < W.heap.size) W A n c B n d g → Calls Try.prog 20 #[.pointer (some ⟨b, 0, none⟩), .agg #[.bool true, .float .f64 4602678819172646912, .slice A n c, .slice B n d], .int .i64 0, .float .f64 4602678819172646912] W fun e w' => e = .returned (.bool true) ∧ Chg (fun _ => False) W w') := by
          intro E W b A c B d hg hr
          have hl := look_walk hg hgd hr (rise_any hhs) (by omega) 0 (by decide) 4602678819172646912
          rw [(heard_any hhs).keep] at hl
          exact hl
        clear hme hhs hgd hls
        go_upto_region 9 with (go_at_call 11; go_loud (refine (HM.out _ _ _ HPR.out).mono ?_; rintro e w4 ⟨b, rfl, hg, hc4⟩; have HC4 := Lib.hid hc4; have HGV := Lib.hid hg; clear hc4 hg))
        clear HM HPR
        have hs4 := HC4.out.size
        go_wp2
        go_loopw [39] (fun i wr => ∃ q : Nat, q ≤ n + 70 ∧ i = .int .i64 q ∧ Chg (fun _ => False) w4 wr) (fun i _ => n + 70 - (intOf i).toNat)
        case atStart => exact ⟨0, Nat.zero_le _, rfl, Chg.refl _ _⟩
        case round =>
          obtain ⟨w5, rfl⟩ : ∃ w5, w5 = wr := ⟨_, rfl⟩
          obtain ⟨q, hq, rfl, hc⟩ := hrel
          have HC5 := Lib.hid hc
          have HV5 : Hid (Chg (fun _ => False) w3 w5) := HC4.out.trans hc (fun _ _ h => h)
          have hs5 := HV5.out.size
          clear hc
          by_cases hlt2 : q < n + 70
          · have i0 : (0 : Int) ≤ (q : Int) := by omega
            have i1 : (q : Int) < (n : Int) + 70 := by omega
            have i2 : (q : Int) < ((n + 70 : Nat) : Int) := by omega
            obtain ⟨-, bb, oo, e0, hb, hcell⟩ := resp_at HIN.out (by omega)
            cases e0
            by_cases hqn : q < n
            · obtain ⟨⟨s0, c0⟩, hx⟩ : ∃ x, hs[q]? = some x := ⟨_, List.getElem?_eq_getElem (by have := HL.out; omega)⟩
              have y0 : w5.cell? ⟨G0, q * 10, none⟩ = some (.int .i64 s0) := by
                have := hcell q s0 c0 (by rw [List.getElem?_append_left (by have := HL.out; omega)]; exact hx) 0 _ rfl
                rw [Nat.zero_add, Nat.add_zero] at this
                exact (World.cell?_of_block (a := ⟨G0, q * 10, none⟩) (HV5.out.block G0 hb (fun h => h))).trans this
              obtain ⟨-, b1, off1, rfl, hb1, hcell1⟩ := heard_at (HH.out w5 (HW3.out.trans HV5.out (fun _ _ h => h))) (by omega)
              obtain ⟨z0, z1⟩ := hcell1 q s0 c0 hx
              have i3 : (q : Int) < (n : Int) := by omega
              have d1 : decide (n ≤ q) = false := decide_eq_false (by omega)
              clear hcell hcell1 hx z1
              clear hlt2
              go_upto_region 12 with (fail)
              go_quiet (fail)
              go_wp2
              go_roundw
              case rel => exact ⟨q + 1, by omega, by go_num, (HC5.out.drewN _)⟩
              case measure => simp [intOf]; omega
            · have y0 : w5.cell? ⟨G0, q * 10, none⟩ = some (.int .i64 ((-9 : Int) - (q : Int) + (n : Int))) := by
                have := hcell q _ _ (ex_get HL.out (by omega) hlt2) 0 _ rfl
                rw [Nat.zero_add, Nat.add_zero] at this
                exact (World.cell?_of_block (a := ⟨G0, q * 10, none⟩) (HV5.out.block G0 hb (fun h => h))).trans this
              have j1 : IntKind.i64.wrap (-9 - (q : Int)) = -9 - (q : Int) := by rw [IntKind.wrap_i64]; omega
              have j2 : IntKind.i64.wrap (-9 - (q : Int) + (n : Int)) = -9 - (q : Int) + (n : Int) := by rw [IntKind.wrap_i64]; omega
              have d1 : decide (q < n) = false := decide_eq_false (by omega)
              have d2 : n ≤ q := by omega
              have i4 : (n : Int) ≤ (q : Int) := by omega
              clear hcell
              clear hlt2
              go_upto_region 12 with (fail)
              go_quiet (fail)
              go_wp2
              go_roundw
              case rel => exact ⟨q + 1, by omega, by go_num, (HC5.out.drewN _)⟩
              case measure => simp [intOf]; omega
          · obtain rfl : q = n + 70 := by omega
            go_wp2
            go_loopw [85] (fun i wr => ∃ q : Nat, q ≤ n + 70 ∧ i = .int .i64 q ∧ Chg (fun j => j = G0) w5 wr ∧ Full wr G0 ((n + 70) * 10)) (fun i _ => n + 70 - (intOf i).toNat)
            case atStart => exact ⟨0, Nat.zero_le _, rfl, Chg.refl _ _, cur, HV5.out.at_ HG.out (fun h => h), HCS.out⟩
            case round =>
              obtain ⟨w6, rfl⟩ : ∃ w6, w6 = wr := ⟨_, rfl⟩
              obtain ⟨q, hq, rfl, hc, hfl⟩ := hrel
              have HC6 := Lib.hid hc
              have HFL := Lib.hid hfl
              have hs6 := hc.size
              have hG6 : G0 < w6.heap.size := by omega
              clear hc hfl
              by_cases hlt3 : q < n + 70
              · have i0 : (0 : Int) ≤ (q : Int) := by omega
                have i1 : (q : Int) < (n : Int) + 70 := by omega
                obtain ⟨u0, y0⟩ := HFL.out.at_ (i := q * 10) (by omega)
                obtain ⟨u1, y1⟩ := HFL.out.at_ (i := q * 10 + 1) (by omega)
                obtain ⟨u2, y2⟩ := HFL.out.at_ (i := q * 10 + 2) (by omega)
                obtain ⟨u3, y3⟩ := HFL.out.at_ (i := q * 10 + 3) (by omega)
                obtain ⟨u4, y4⟩ := HFL.out.at_ (i := q * 10 + 4) (by omega)
                obtain ⟨u5, y5⟩ := HFL.out.at_ (i := q * 10 + 5) (by omega)
                obtain ⟨u6, y6⟩ := HFL.out.at_ (i := q * 10 + 6) (by omega)
                obtain ⟨u7, y7⟩ := HFL.out.at_ (i := q * 10 + 7) (by omega)
                obtain ⟨u8, y8⟩ := HFL.out.at_ (i := q * 10 + 8) (by omega)
                obtain ⟨u9, y9⟩ := HFL.out.at_ (i := q * 10 + 9) (by omega)
                have fz := HFL.out.free
                go_wp2
                go_roundw
                case rel =>
                  refine ⟨q + 1, by omega, by go_num, ?_, ?_⟩
                  · repeat (first | with_reducible exact HC6.out | with_reducible refine Chg.set (S := fun j => j = G0) ?_ (.inr (by rfl)))
                  · repeat (first | with_reducible exact HFL.out | with_reducible refine Full.set ?_ _ _)
                case measure => simp [intOf]; omega
              · obtain rfl : q = n + 70 := by omega
                clear hlt3
                have HW6 : Hid (Chg (fun _ => False) w w6) := (HW3.out.trans HV5.out (fun _ _ h => h)).trans HC6.out (fun q hq e => by have := HR.out; omega)
                have HB6 : Hid (w6.heap[R]? = some (.cells #[.int .i64 s, .int .i64 x] 34 (0, 0))) := HC6.out.at_ (HV5.out.at_ HB3.out (fun h => h)) (by omega)
                have HGV6 : Hid (GV (fun k => w3.heap.size ≤ k ∧ k < w4.heap.size) w6 b g) := (HGV.out.chg HC5.out (fun _ _ h => h)).chg HC6.out (fun k hk e => by omega)
                go_upto_region 23 with (first
                  | (go_at_call 12; refine (resp_walk hs A n c _ (HH.out _ HW6.out) (by omega)).mono ?_; rintro e w7 ⟨A7, c7, rfl, ho, -, hc⟩; have HO7 := Lib.hid ho; have HC7 := Lib.hid hc; clear ho hc)
                  | (go_at_call 21; refine (HD.out _ _ _ HO7.out).mono ?_; rintro e w8 ⟨A5, c5, B5, d5, rfl, hr5, hc5⟩; have HC8 := Lib.hid (HC7.out.trans hc5 (fun _ _ h => h)); have HR5 := Lib.hid (hr5.mono (fun q hq => hq.2)); clear hc5 hr5))
                obtain ⟨T, hT⟩ : ∃ T, T = w8.heap.size := ⟨_, rfl⟩
                rw [← hT]
                generalize hw9 : w8.alloc _ = w9
                have HX9 : Hid (Chg (fun _ => False) w6 w9) := by rw [← hw9]; exact HC8.out.alloc _
                have HR9 : Hid (RW (fun q => q < w9.heap.size) w9 A5 n c5 B5 n d5 g) := by rw [← hw9]; exact HR5.out.up ((Chg.refl _ _).alloc _)
                have HB9 : Hid (w9.heap[R]? = some (.cells #[.int .i64 s, .int .i64 x] 34 (0, 0))) := HX9.out.at_ HB6.out (fun h => h)
                have HT9 : Hid (w9.heap[T]? = some (.cells #[.bool true, .float .f64 4602678819172646912, .slice A5 n c5, .slice B5 n d5] 44 (0, 0))) := by rw [← hw9, hT]; exact heap_new _ _
                have HGV9 : Hid (GV (fun k => w3.heap.size ≤ k ∧ k < w4.heap.size) w9 b g) := HGV6.out.chg HX9.out (fun _ _ h => h)
                clear hw9 hT HC7 HC8 HO7 HR5 HB6 HGV6 HD
                have HA : Hid (∀ W, Chg (fun _ => False) w9 W → (W.cell? ⟨T, 0, none⟩ = some (.bool true) ∧ W.cell? ⟨T, 1, none⟩ = some (.float .f64 4602678819172646912) ∧ W.cell? ⟨T, 2, none⟩ = some (.slice A5 n c5) ∧ W.cell? ⟨T, 3, none⟩ = some (.slice B5 n d5) ∧ W.cell? ⟨R, 0, none⟩ = some (.int .i64 s) ∧ W.cell? ⟨R, 1, none⟩ = some (.int .i64 x) ∧ T < W.heap.size ∧ R < W.heap.size)) := fun W hW => by
                  have hb := hW.at_ HT9.out (fun h => h)
                  have hb2 := hW.at_ HB9.out (fun h => h)
                  exact ⟨cell_at hb 0 rfl, cell_at hb 1 rfl, cell_at hb 2 rfl, cell_at hb 3 rfl, cell_at hb2 0 rfl, cell_at hb2 1 rfl, lt_of _ hb, lt_of _ hb2⟩
                have hsb : -9223372036854775808 ≤ s ∧ s ≤ 9223372036854775807 := by
                  simp [Lit.wf, IntKind.min, IntKind.max, IntKind.bits, IntKind.signed] at hsw
                  omega
                have HRH : Hid (∀ W, Chg (fun _ => False) w9 W → Calls Try.prog 26 #[.agg #[.bool true, .float .f64 4602678819172646912, .slice A5 n c5, .slice B5 n d5], .agg (resp s x)] W fun e w' => (∃ A' n' c' B' m' d', e = .returned (.tuple #[.agg #[.bool true, .float .f64 4602678819172646912, .slice A' n' c', .slice B' m' d'], .int .i64 (if takes g s = true then 0 else 2)])) ∧ Chg (fun _ => False) W w') := fun W hW => by
                  refine (rhear_walk (HR9.out.up hW) (by omega) (by omega) 4602678819172646912 s x hsb HGD.out.ok).mono ?_
                  rintro e w' ⟨h1, h2⟩
                  refine ⟨?_, h2⟩
                  split at h1
                  · rename_i ht
                    rw [if_pos ht]
                    obtain ⟨A', c', B', d', rfl, -⟩ := h1
                    exact ⟨_, _, _, _, _, _, rfl⟩
                  · rename_i ht
                    rw [if_neg ht, h1]
                    exact ⟨_, _, _, _, _, _, rfl⟩
                have HRS : Hid (∀ W, Calls Try.prog 23 #[.agg #[.int .i64 s, .int .i64 x]] W fun e w' => e = .returned (.agg (resp s x)) ∧ Chg (fun _ => False) W w') := fun W => response_walk s x W
                unfold resp at HRH HRS
                obtain ⟨cd, hcd⟩ : ∃ cd : Int, cd = if takes g s = true then 0 else 2 := ⟨_, rfl⟩
                rw [← hcd] at HRH
                have HCD := Lib.hid hcd
                clear hcd
                go_cut [14] from 99 to 106 (fun v wx => v = .int .i64 cd ∧ Chg (fun _ => False) w9 wx)
                case first =>
                  obtain ⟨p0, p1, p2, p3, s0, x0, kT, kR⟩ := HA.out w9 (Chg.refl _ _)
                  have HD0 : Hid (Chg (fun _ => False) w9 w9) := Chg.refl _ _
                  go_upto_region 23 with (fail)
                  replace HD0 := Lib.hid HD0.out.drew
                  go_region_with (first
                    | (go_at_call 23; go_loud (refine (HRS.out _).mono ?_; rintro e w' ⟨rfl, hc'⟩; have HD1 := HD0; replace HD0 := Lib.hid ((show Chg (fun _ => False) w9 _ from (by repeat (first | with_reducible exact HD0.out | with_reducible exact Chg.refl _ _ | with_reducible apply Chg.alloc | with_reducible apply Chg.drew))).trans hc' (fun _ _ h => h)); clear p0 p1 p2 p3 s0 x0 kT kR; obtain ⟨p0, p1, p2, p3, s0, x0, kT, kR⟩ := HA.out _ HD0.out; (first | (have HZ := Lib.hid (hc'.at_ (heap_new _ _) (fun h => h)); have KZ := HD1.out.size; obtain ⟨zf, zl, z0, z1, z2, z3⟩ := box4 HZ.out) | (have HZ2 := Lib.hid (hc'.at_ HZ.out (fun h => h)); clear zf zl z0 z1 z2 z3; obtain ⟨zf, zl, z0, z1, z2, z3⟩ := box4 HZ2.out) | skip); clear hc'))
                    | (go_at_call 26; go_loud (refine (HRH.out _ (by repeat (first | with_reducible exact HD0.out | with_reducible exact Chg.refl _ _ | with_reducible apply Chg.alloc | with_reducible apply Chg.drew))).mono ?_; rintro e w' ⟨⟨A', n', c', B', m', d', rfl⟩, hc'⟩; have HD1 := HD0; replace HD0 := Lib.hid ((show Chg (fun _ => False) w9 _ from (by repeat (first | with_reducible exact HD0.out | with_reducible exact Chg.refl _ _ | with_reducible apply Chg.alloc | with_reducible apply Chg.drew))).trans hc' (fun _ _ h => h)); clear p0 p1 p2 p3 s0 x0 kT kR; obtain ⟨p0, p1, p2, p3, s0, x0, kT, kR⟩ := HA.out _ HD0.out; (first | (have HZ := Lib.hid (hc'.at_ (heap_new _ _) (fun h => h)); have KZ := HD1.out.size; obtain ⟨zf, zl, z0, z1, z2, z3⟩ := box4 HZ.out) | (have HZ2 := Lib.hid (hc'.at_ HZ.out (fun h => h)); clear zf zl z0 z1 z2 z3; obtain ⟨zf, zl, z0, z1, z2, z3⟩ := box4 HZ2.out) | skip); clear hc')))
                  all_goals go_wp2
                  all_goals go_meet
                  all_goals refine ⟨rfl, ?_⟩
                  all_goals repeat (first | with_reducible exact HD0.out | with_reducible exact Chg.refl _ _ | with_reducible apply Chg.alloc | with_reducible apply Chg.drew | with_reducible refine Chg.set ?_ (.inl ?_))
                  all_goals first | exact Nat.le_refl _ | exact KZ | (have h1 := HD0.out.size; have h2 := HD1.out.size; omega) | (trace_state; sorry)
                case rest =>
                  obtain ⟨rfl, hcw⟩ := hcut
                  have HCW := Lib.hid hcw
                  clear hcw HRH
                  have HEND : Hid (∀ W, Chg (fun _ => False) wc W → Below w.heap.size w W) := fun W hW => (((HW6.out.trans HX9.out (fun _ _ h => h)).trans HCW.out (fun _ _ h => h)).trans hW (fun _ _ h => h)).below
                  obtain ⟨p0, p1, p2, p3, s0, x0, kT, kR⟩ := HA.out wc HCW.out
                  have HD0 : Hid (Chg (fun _ => False) wc wc) := Chg.refl _ _
                  by_cases ht : takes g s = true
                  · have hcd : cd = 0 := by rw [HCD.out, if_pos ht]
                    subst hcd
                    clear ht
                    go_wp2_with (go_at_call 20; go_loud (refine (HLK.out _ _ _ _ _ _ _ (HGV9.out.chg HCW.out (fun _ _ h => h)) (HR9.out.up HCW.out)).mono ?_; rintro e w12 ⟨rfl, hc12⟩; have HC12 := Lib.hid hc12; clear hc12))
                    go_ret
                    exact ⟨rfl, HEND.out _ HC12.out⟩
                  · have hcd : cd = 2 := by rw [HCD.out, if_neg ht]
                    subst hcd
                    obtain ⟨cn, hcn⟩ : ∃ r : Nat, r = g.codes.count 77 := ⟨_, rfl⟩
                    have HGH : Hid (∀ W, Chg (fun _ => False) wc W → Calls Try.prog 22 #[.pointer (some ⟨b, 0, none⟩), .agg (resp s x)] W fun e w' => e = .returned (.int .i64 2) ∧ Chg (fun _ => False) W w') := fun W hW => by
                      refine (hear_walk ((HGV9.out.chg HCW.out (fun _ _ h => h)).chg hW (fun _ _ h => h)) HGD.out s x hxw (by have := HLS.out; omega) hsb).mono ?_
                      intro e w' h
                      rw [if_neg ht] at h
                      exact h
                    have HKC : Hid (∀ W, Chg (fun _ => False) wc W → Calls Try.prog 24 #[.pointer (some ⟨b, 0, none⟩), .int .i64 77] W fun e w' => e = .returned (.int .i64 (cn : Int)) ∧ w' = W) := fun W hW => by
                      rw [hcn]; exact count_walk ((HGV9.out.chg HCW.out (fun _ _ h => h)).chg hW (fun _ _ h => h)) HGD.out (by decide)
                    have HDC : Hid (∀ W, Chg (fun _ => False) wc W → Calls Try.prog 27 #[.agg #[.bool true, .float .f64 4602678819172646912, .slice A5 n c5, .slice B5 n d5], .int .i64 77] W fun e w' => e = .returned (.int .i64 (cn : Int)) ∧ Chg (fun _ => False) W w') := fun W hW => by
                      rw [hcn]; exact rcount_walk ((HR9.out.up HCW.out).up hW) (by omega) true 4602678819172646912 77
                    have HK2 : Hid (∀ W, Chg (fun _ => False) wc W → Calls Try.prog 20 #[.pointer (some ⟨b, 0, none⟩), .agg #[.bool true, .float .f64 4602678819172646912, .slice A5 n c5, .slice B5 n d5], .int .i64 0, .float .f64 4602678819172646912] W fun e w' => e = .returned (.bool true) ∧ Chg (fun _ => False) W w') := fun W hW => HLK.out _ _ _ _ _ _ _ ((HGV9.out.chg HCW.out (fun _ _ h => h)).chg hW (fun _ _ h => h)) ((HR9.out.up HCW.out).up hW)
                    have HA2 : Hid (∀ W, Chg (fun _ => False) wc W → _) := Lib.hid (fun W hW => HA.out W (HCW.out.trans hW (fun _ _ h => h)))
                    unfold resp at HGH
                    clear ht hcn HLK HA
                    go_upto_region 26 with (fail)
                    replace HD0 := Lib.hid HD0.out.drew
                    go_region_with (first
                      | (go_at_call 23; go_loud (refine (HRS.out _).mono ?_; rintro e w' ⟨rfl, hc'⟩; replace HD0 := Lib.hid (HD0.out.trans hc' (fun _ _ h => h)); clear p0 p1 p2 p3 s0 x0 kT kR; obtain ⟨p0, p1, p2, p3, s0, x0, kT, kR⟩ := HA2.out _ HD0.out; clear hc'))
                      | (go_at_call 22; go_loud (refine (HGH.out _ HD0.out).mono ?_; rintro e w' ⟨rfl, hc'⟩; replace HD0 := Lib.hid (HD0.out.trans hc' (fun _ _ h => h)); clear p0 p1 p2 p3 s0 x0 kT kR; obtain ⟨p0, p1, p2, p3, s0, x0, kT, kR⟩ := HA2.out _ HD0.out; clear hc'))
                      | (go_at_call 20; go_loud (refine (HK2.out _ HD0.out).mono ?_; rintro e w' ⟨rfl, hc'⟩; replace HD0 := Lib.hid (HD0.out.trans hc' (fun _ _ h => h)); clear p0 p1 p2 p3 s0 x0 kT kR; obtain ⟨p0, p1, p2, p3, s0, x0, kT, kR⟩ := HA2.out _ HD0.out; clear hc'))
                      | (go_at_call 24; go_loud (refine (HKC.out _ HD0.out).mono ?_; rintro e w' ⟨rfl, hw'⟩; subst hw'))
                      | (go_at_call 27; go_loud (refine (HDC.out _ HD0.out).mono ?_; rintro e w' ⟨rfl, hc'⟩; replace HD0 := Lib.hid (HD0.out.trans hc' (fun _ _ h => h)); clear p0 p1 p2 p3 s0 x0 kT kR; obtain ⟨p0, p1, p2, p3, s0, x0, kT, kR⟩ := HA2.out _ HD0.out; clear hc')))
                    all_goals go_wp2
                    all_goals go_ret
                    all_goals exact ⟨rfl, HEND.out _ HD0.out⟩
end Go.Proofs.Ytecppcgleidhkaa.Gv
