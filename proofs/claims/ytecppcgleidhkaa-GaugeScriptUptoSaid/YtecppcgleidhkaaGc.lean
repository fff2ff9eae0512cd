/- The law GaugeMeasure, walked. Conditions: the list reads so; at most 1048576 of them. -/
import Derived.Test.YtecppcgleidhkaaGl
set_option linter.unusedVariables false
set_option linter.unusedSimpArgs false
set_option exponentiation.threshold 3000
namespace Go.Proofs.Ytecppcgleidhkaa.Gx
open Go.RowKit Go.Proofs.Ytecppcgleidhkaa.Lib1 Go.Proofs.Ytecppcgleidhkaa.Rel Go.Proofs.Ytecppcgleidhkaa.Own Go.Proofs.Ytecppcgleidhkaa.Fl Go.Proofs.Ytecppcgleidhkaa.Gp Go.Proofs.Ytecppcgleidhkaa.Gw Go.Proofs.Ytecppcgleidhkaa.Gm Go.Proofs.Ytecppcgleidhkaa.Gk Go.Proofs.Ytecppcgleidhkaa.Gb

theorem rise_any {keep : Nat} {l : List (Int × Int)} {g : G} (h : hears (g0 keep) l = some g) : Rise g := by
  have hh := heard_any h
  intro i a b ha hb
  rw [hh.slots, List.getElem?_map] at ha hb
  obtain ⟨x, hx, rfl⟩ := Option.map_eq_some_iff.1 ha
  obtain ⟨y, hy, rfl⟩ := Option.map_eq_some_iff.1 hb
  have hl := (List.getElem?_eq_some_iff.1 hy).1
  have := hh.rise i hl
  rw [List.getD_eq_getElem?_getD, List.getD_eq_getElem?_getD, hx, hy] at this
  simp only [Option.getD_some] at this
  omega
set_option maxRecDepth 100000 in
set_option maxHeartbeats 1600000 in
theorem gmeasure_walk (keep : Nat) (hk64 : keep < 2 ^ 64) (hs : List (Int × Int)) (A : Option Addr) (n c : Nat) (p : Nat) (w : World) (h : (Kd.slice 16 heardK).rel (fun k => k < w.heap.size) w hs [.slice A n c]) (hn : n ≤ 1048576) (hfit : ∀ x ∈ hs, (Lit.int .i64 x.1).wf = true ∧ (Lit.int .i64 x.2).wf = true) :
    Calls Try.prog 6 #[.float .f64 keep, .slice A n c, .float .f64 p] w fun e w' => e = .returned (.bool true) ∧ Below w.heap.size w w' := by
  have HL : Hid (hs.length = n) := by
    obtain ⟨A', c', cells, he, -⟩ := h
    simp only [List.cons.injEq, Value.slice.injEq, and_true] at he
    exact he.2.1.symm
  have HH : Hid (∀ W, Chg (fun _ => False) w W → (Kd.slice 16 heardK).rel (fun k => k < W.heap.size) W hs [.slice A n c]) := fun W hc => (Kd.slice 16 heardK).mono (fun k hk => Nat.lt_of_lt_of_le hk hc.size) ((Kd.slice 16 heardK).move (fun k hk => hc.block k hk (fun h => h)) h)
  have HF := Lib.hid hfit
  have HM : Hid (∀ (W : World) (A : Option Addr) (c : Nat), (Kd.slice 112 respK).rel (fun k => k < W.heap.size) W hs [.slice A n c] → Calls Try.prog 11 #[.float .f64 keep, .slice A n c] W fun e w' => MRes W (Gm.measure keep hs) e w') := fun W A c h => measure_walk keep hk64 hs A n c W h (by omega) hfit
  have HD : Hid (∀ (W : World) (A : Option Addr) (c : Nat), (Kd.slice 112 respK).rel (fun k => k < W.heap.size) W hs [.slice A n c] → Calls Try.prog 21 #[.float .f64 keep, .slice A n c] W fun e w' => RM W keep n (Gm.measure keep hs) e w') := fun W A c h => rmeasure_walk keep hk64 hs A n c W h (by omega) hfit
  clear h hfit
  cases hme : Gm.measure keep hs with
  | none =>
    rw [hme] at HM HD
    go_enter Try.func6, Try.ntmps6
    go_upto_region 4 with (first
      | (go_at_call 10; refine (head_walk _).mono ?_; rintro e w1 ⟨rfl, hc1⟩; have HC1 := Lib.hid hc1; clear hc1)
      | (go_at_call 12; refine (resp_walk hs A n c _ (HH.out _ HC1.out) (by omega)).mono ?_; rintro e w2 ⟨A2, c2, rfl, ho, -, hc⟩; have HO := Lib.hid ho; have HC2 := Lib.hid (HC1.out.trans hc (fun _ _ h => h)); clear ho hc)
      | (go_at_call 11; refine (HM.out _ _ _ HO.out).mono ?_; rintro e w3 ⟨rfl, hc3⟩; have HC3 := Lib.hid (HC2.out.trans hc3 (fun _ _ h => h)); clear hc3))
    clear HC1 HC2 HO
    go_wp2_with (first
      | (go_at_call 12; refine (resp_walk hs A n c _ (HH.out _ HC3.out) (by omega)).mono ?_; rintro e w4 ⟨A2, c2, rfl, ho, -, hc⟩; have HO := Lib.hid ho; have HC4 := Lib.hid (HC3.out.trans hc (fun _ _ h => h)); clear ho hc)
      | (go_at_call 21; refine (HD.out _ _ _ HO.out).mono ?_; rintro e w5 ⟨rfl, hc5⟩; have HC5 := Lib.hid (HC4.out.trans hc5 (fun _ _ h => h)); clear hc5))
    go_ret
    exact ⟨rfl, (HC5.out.alloc _).below⟩
  | some g =>
    rw [hme] at HM HD
    obtain ⟨hkk, hhs⟩ : keeps keep = true ∧ hears (g0 keep) hs = some g := by
      unfold Gm.measure at hme
      split at hme
      · exact ⟨‹_›, hme⟩
      · cases hme
    have hgd := good_any (keeps_lt hk64 hkk) hhs (by have := HL.out; omega)
    have HLK : Hid (∀ (E : Nat → Prop) (W : World) (b : Nat) (A : Option Addr) (c : Nat) (B : Option Addr) (d : Nat), GV E W b g → RW (fun q => q < W.heap.size) W A n c B n d g → Calls Try.prog 20 #[.pointer (some ⟨b, 0, none⟩), .agg #[.bool true, .float .f64 keep, .slice A n c, .slice B n d], .int .i64 0, .float .f64 p] W fun e w' => e = .returned (.bool true) ∧ Chg (fun _ => False) W w') := by
      intro E W b A c B d hg hr
      have hl := look_walk hg hgd hr (rise_any hhs) (by omega) 0 (by decide) p
      rw [(heard_any hhs).keep] at hl
      exact hl
    clear hme hhs hkk hgd
    go_enter Try.func6, Try.ntmps6
    go_upto_region 4 with (first
      | (go_at_call 10; refine (head_walk _).mono ?_; rintro e w1 ⟨rfl, hc1⟩; have HC1 := Lib.hid hc1; clear hc1)
      | (go_at_call 12; refine (resp_walk hs A n c _ (HH.out _ HC1.out) (by omega)).mono ?_; rintro e w2 ⟨A2, c2, rfl, ho, -, hc⟩; have HO := Lib.hid ho; have HC2 := Lib.hid (HC1.out.trans hc (fun _ _ h => h)); clear ho hc)
      | (go_at_call 11; refine (HM.out _ _ _ HO.out).mono ?_; rintro e w3 ⟨b, rfl, hg, hc3⟩; have HC3 := Lib.hid (HC2.out.trans hc3 (fun _ _ h => h)); have HG := Lib.hid hg; clear hc3 hg))
    clear HC1 HC2 HO HM
    go_wp2_with (first
      | (go_at_call 12; refine (resp_walk hs A n c _ (HH.out _ HC3.out) (by omega)).mono ?_; rintro e w4 ⟨A2, c2, rfl, ho, -, hc⟩; have HO := Lib.hid ho; have HC4 := Lib.hid hc; clear ho hc)
      | (go_at_call 21; refine (HD.out _ _ _ HO.out).mono ?_; rintro e w5 ⟨A5, c5, B5, d5, rfl, hr5, hc5⟩; have HC5 := Lib.hid (HC4.out.trans hc5 (fun _ _ h => h)); have HR5 := Lib.hid (hr5.mono (fun q hq => hq.2)); clear hc5 hr5)
      | (go_at_call 20; go_loud (refine (HLK.out _ _ _ _ _ _ _ (HG.out.chg (HC5.out.alloc _) (fun _ _ h => h)) (HR5.out.up ((Chg.refl _ _).alloc _))).mono ?_; rintro e w6 ⟨rfl, hc6⟩; have HC6 := Lib.hid hc6; clear hc6)))
    go_ret
    exact ⟨rfl, ((HC3.out.trans (HC5.out.alloc _) (fun _ _ h => h)).trans HC6.out (fun _ _ h => h)).below⟩
end Go.Proofs.Ytecppcgleidhkaa.Gx
