/- The law GaugePieces, walked. Conditions: both lists read so; at most 1048576 in each. -/
import Derived.Test.YtecppcgleidhkaaGd
import Derived.Deep.RegionLaw
import Derived.Deep.RegionWith
set_option linter.unusedVariables false
set_option linter.unusedSimpArgs false
set_option exponentiation.threshold 3000
namespace Go.Proofs.Ytecppcgleidhkaa.Gf
open Go.RowKit Go.Proofs.Ytecppcgleidhkaa.Lib1 Go.Proofs.Ytecppcgleidhkaa.Rel Go.Proofs.Ytecppcgleidhkaa.Own Go.Proofs.Ytecppcgleidhkaa.Fl Go.Proofs.Ytecppcgleidhkaa.Gp Go.Proofs.Ytecppcgleidhkaa.Gw Go.Proofs.Ytecppcgleidhkaa.Gm Go.Proofs.Ytecppcgleidhkaa.Gb Go.Proofs.Ytecppcgleidhkaa.Gd

section
variable {P : Program} {ops : Array Oper}
/-- A list's law for one operation, in a region that draws its order. -/
theorem step_of_list {o : Oper} {a : Act} {W : World} {K : Act → World → Prop} {Q : Exit → Act → World → Prop} {E : Prop} (hgd : o.guard = none) (R : Value → World → Prop)
    (h : ∀ Q : Exit → Act → World → Prop, (∀ v w1, R v w1 → Q .normal (a.put o.dst v) w1) → wpList P ops Q [o] a W)
    (hK : ∀ v w1, R v w1 → K (a.put o.dst v) w1) : if Region.wanted o (yielded ops a.tmps) = true then Oper.wp P o a W K Q else E := by
  have hw : Region.wanted o (yielded ops a.tmps) = true := by simp [Region.wanted, hgd]
  rw [if_pos hw]
  have h1 := h (fun e a' w' => e = .normal ∧ K a' w') (fun v w1 r => ⟨rfl, hK v w1 r⟩)
  unfold wpList at h1
  rw [if_pos hw] at h1
  rcases h1 with h1 | ⟨_, _, _, h2, _⟩
  · unfold Oper.wp at *
    generalize (execOp a.eval o).run P W = r at *
    cases r with
    | ok n w' =>
      cases n <;> simp only [Oper.upon] at h1 ⊢ <;>
        first
          | exact h1.2
          | exact Calls.mono h1 (fun e w'' he => by cases e <;> first | exact he.2 | exact absurd he.1 (by simp) | (obtain ⟨_, _, he, _⟩ := he; cases he))
          | exact Rows.mono h1 (fun _ _ he => he.2)
    | halt x w' => 
      cases x <;> simp only [Oper.upon] at h1 ⊢
      all_goals exact absurd h1.1 (by simp)
  · cases h2
end
theorem heard_flat {ok ok' : Nat → Prop} {w w' : World} {y : Int × Int} {cs : List Value} (h : heardK.rel ok w y cs) : heardK.rel ok' w' y cs := h
theorem box4 {W : World} {B : Nat} {x0 x1 x2 x3 : Value} {t : TypeId} (h : W.heap[B]? = some (.cells #[x0, x1, x2, x3] t (0, 0))) : B < W.heap.size ∧ W.cell? ⟨B, 0, none⟩ = some x0 ∧ W.cell? ⟨B, 1, none⟩ = some x1 ∧ W.cell? ⟨B, 2, none⟩ = some x2 ∧ W.cell? ⟨B, 3, none⟩ = some x3 :=
  ⟨lt_of _ h, cell_at h 0 rfl, cell_at h 1 rfl, cell_at h 2 rfl, cell_at h 3 rfl⟩
set_option maxRecDepth 100000 in
set_option maxHeartbeats 4000000 in
theorem pieces_walk (hs ks : List (Int × Int)) (A B : Option Addr) (c d : Nat) (keep p : Nat) (hk64 : keep < 2 ^ 64) (w : World) (h : (Kd.slice 16 heardK).rel (fun k => k < w.heap.size) w hs [.slice A hs.length c]) (h2 : (Kd.slice 16 heardK).rel (fun k => k < w.heap.size) w ks [.slice B ks.length d]) (hn : hs.length ≤ 1048576) (hm : ks.length ≤ 1048576) (hfit : ∀ x ∈ hs, (Lit.int .i64 x.1).wf = true ∧ (Lit.int .i64 x.2).wf = true) (hfit2 : ∀ x ∈ ks, (Lit.int .i64 x.1).wf = true ∧ (Lit.int .i64 x.2).wf = true) :
    Calls Try.prog 7 #[.agg #[.slice A hs.length c, .slice B ks.length d, .float .f64 keep, .float .f64 p]] w fun e w' => e = .returned (.bool true) ∧ Below w.heap.size w w' := by
  have HH : Hid (∀ W, Chg (fun _ => False) w W → (Kd.slice 16 heardK).rel (fun k => k < W.heap.size) W hs [.slice A hs.length c]) := fun W hc => (Kd.slice 16 heardK).mono (fun k hk => Nat.lt_of_lt_of_le hk hc.size) ((Kd.slice 16 heardK).move (fun k hk => hc.block k hk (fun h => h)) h)
  have HH2 : Hid (∀ W, Chg (fun _ => False) w W → (Kd.slice 16 heardK).rel (fun k => k < W.heap.size) W ks [.slice B ks.length d]) := fun W hc => (Kd.slice 16 heardK).mono (fun k hk => Nat.lt_of_lt_of_le hk hc.size) ((Kd.slice 16 heardK).move (fun k hk => hc.block k hk (fun h => h)) h2)
  have HF := Lib.hid hfit
  have HF2 := Lib.hid hfit2
  have HM : Hid (∀ (hs : List (Int × Int)) (n : Nat) (W : World) (A : Option Addr) (c : Nat), n ≤ 1073741824 → (∀ x ∈ hs, (Lit.int .i64 x.1).wf = true ∧ (Lit.int .i64 x.2).wf = true) → (Kd.slice 112 respK).rel (fun k => k < W.heap.size) W hs [.slice A n c] → Calls Try.prog 11 #[.float .f64 keep, .slice A n c] W fun e w' => MRes W (Gm.measure keep hs) e w') := fun hs n W A c hn hf h => measure_walk keep hk64 hs A n c W h hn hf
  have HK64 := Lib.hid hk64
  clear h h2 hfit hfit2 hk64
  obtain ⟨R, hR⟩ : ∃ R, R = w.heap.size := ⟨_, rfl⟩
  have HR := Lib.hid hR
  go_enter Try.func7, Try.ntmps7
  go_upto_region 1 with (fail)
  rw [← hR]
  generalize hw0 : w.alloc _ = w0
  have HC0 : Hid (Chg (fun _ => False) w w0) := by rw [← hw0]; exact (Chg.refl _ _).alloc _
  have HB0 : Hid (w0.heap[R]? = some (.cells #[.slice A hs.length c, .slice B ks.length d, .float .f64 keep, .float .f64 p] 58 (0, 0))) := by rw [← hw0, hR]; exact heap_new _ _
  clear hw0 hR
  go_upto_region 3 with (go_at_call 10; refine (head_walk _).mono ?_; rintro e w1 ⟨rfl, hc1⟩; have HC1 := Lib.hid (HC0.out.trans hc1 (fun _ _ h => h)); have HB1 := Lib.hid (hc1.at_ HB0.out (fun h => h)); clear hc1)
  clear HC0 HB0
  have hRw : R < w1.heap.size := lt_of _ HB1.out
  have HP : Hid (∀ W, Chg (fun _ => False) w1 W → R < W.heap.size ∧ W.cell? ⟨R, 0, none⟩ = some (.slice A hs.length c) ∧ W.cell? ⟨R, 1, none⟩ = some (.slice B ks.length d) ∧ W.cell? ⟨R, 2, none⟩ = some (.float .f64 keep) ∧ W.cell? ⟨R, 3, none⟩ = some (.float .f64 p)) := fun W hW => box4 (hW.at_ HB1.out (fun h => h))
  go_cut [3] from 13 to 20 (fun v wx => ∃ A3 c3, v = .slice A3 (hs.length + ks.length) c3 ∧ OwnL heardK 34 w1.heap.size wx v (hs ++ ks) ∧ Chg (fun _ => False) w1 wx)
  case first =>
    obtain ⟨kR, p0, p1, p2, p3⟩ := HP.out w1 (Chg.refl _ _)
    go_region_law (first
      | (refine step_of_list rfl (fun v1 w3 => OwnL heardK 34 w1.heap.size w3 v1 ([] ++ hs) ∧ Chg (fun q => (Value.slice (some ⟨w1.heap.size, 0, none⟩) 0 0).ownBlock = some q) ((w1.drew).alloc (.cells #[] 34)) w3) (fun Q hQ => ap_all rfl (.tmp 13) (.tmp 15) 22 rfl heardK w1.heap.size 34 16 _ Try.underlying22 info_heard rfl (by decide) (by decide) (.slice (some ⟨w1.heap.size, 0, none⟩) 0 0) [] rfl (heard_lit _ rfl (Nat.le_refl _)) A c hs 16 rfl (HH.out _ ((HC1.out.drew).alloc _)) (fun y cs h => heard_flat h) (by show (0 + hs.length) * 16 ≤ _; omega) (by simp) (fun v1 w3 o c => hQ v1 w3 ⟨o, c⟩)) ?_; rintro v1 w3 ⟨o3, c3⟩; rw [List.nil_append] at o3; obtain ⟨A3, cp3, e3⟩ := o3.form; subst e3; have HO3 := Lib.hid o3; have HC3 : Hid (Chg (fun _ => False) w1 w3) := (((Chg.refl _ w1).drew).alloc _).trans c3 (fun q hq he => by have := Option.some.inj he; simp only [] at this; omega); clear kR p0 p1 p2 p3; obtain ⟨kR, p0, p1, p2, p3⟩ := HP.out w3 HC3.out; clear o3 c3)
      | (refine step_of_list rfl (fun v1 w4 => OwnL heardK 34 w1.heap.size w4 v1 (hs ++ ks) ∧ Chg (fun q => (Value.slice A3 hs.length cp3).ownBlock = some q) w3 w4) (fun Q hQ => ap_all rfl (.tmp 16) (.tmp 18) 22 rfl heardK w1.heap.size 34 16 _ Try.underlying22 info_heard rfl (by decide) (by decide) (.slice A3 hs.length cp3) hs rfl HO3.out B d ks 16 rfl (HH2.out _ (HC1.out.trans HC3.out (fun _ _ h => h))) (fun y cs h => heard_flat h) (by omega) (HC3.out.size) (fun v1 w4 o c => hQ v1 w4 ⟨o, c⟩)) ?_; rintro v1 w4 ⟨o4, c4⟩; obtain ⟨A4, cp4, e4⟩ := o4.form; rw [List.length_append] at e4; subst e4; have HO4 := Lib.hid o4; have HC4 : Hid (Chg (fun _ => False) w1 w4) := HC3.out.trans c4 (fun q hq he => by have := (HO3.out.low _ he).1; omega); clear o4 c4))
    all_goals go_wp2
    all_goals go_meet
    all_goals exact ⟨_, _, rfl, HO4.out, HC4.out⟩
  case rest =>
    obtain ⟨w2, rfl⟩ : ∃ w2, w2 = wc := ⟨_, rfl⟩
    obtain ⟨A3, c3, rfl, ho3, hc3⟩ := hcut
    have HW3 : Hid (Chg (fun _ => False) w w2) := HC1.out.trans hc3 (fun _ _ h => h)
    have HP3 : Hid (∀ W, Chg (fun _ => False) w2 W → _) := Lib.hid (fun W hW => HP.out W (hc3.trans hW (fun _ _ h => h)))
    have HI : Hid (∀ W, Chg (fun _ => False) w2 W → (Kd.slice 16 heardK).rel (fun k => k < W.heap.size) W (hs ++ ks) [.slice A3 (hs.length + ks.length) c3]) := fun W hW => (Kd.slice 16 heardK).mono (fun j hj => Nat.lt_of_lt_of_le hj.2 hW.size) ((Kd.slice 16 heardK).move (fun j hj => hW.block j hj.2 (fun h => h)) ho3.reads)
    have HFF : Hid (∀ x ∈ hs ++ ks, (Lit.int .i64 x.1).wf = true ∧ (Lit.int .i64 x.2).wf = true) := fun x hx => (List.mem_append.1 hx).elim (HF.out x) (HF2.out x)
    have HM1 : Hid (∀ (W : World) (A : Option Addr) (c : Nat), (Kd.slice 112 respK).rel (fun k => k < W.heap.size) W (hs ++ ks) [.slice A (hs.length + ks.length) c] → Calls Try.prog 11 #[.float .f64 keep, .slice A (hs.length + ks.length) c] W fun e w' => MRes W (Gm.measure keep (hs ++ ks)) e w') := fun W A c h => HM.out (hs ++ ks) (hs.length + ks.length) W A c (by omega) HFF.out h
    clear HP HB1 HC1 hRw ho3 hc3
    go_upto_region 4 with (fail)
    cases hme : Gm.measure keep (hs ++ ks) with
    | none =>
      rw [hme] at HM1
      clear HM hme
      go_cut [4, 5] from 20 to 28 (fun x y wx => x = .pointer none ∧ y = .int .i64 2 ∧ Chg (fun _ => False) w2 wx)
      case first =>
        obtain ⟨kR, p0, p1, p2, p3⟩ := HP3.out w2 (Chg.refl _ _)
        have HD0 : Hid (Chg (fun _ => False) w2 w2.drew) := (Chg.refl _ _).drew
        go_region_with (first
          | (go_at_call 12; go_loud (refine (resp_walk (hs ++ ks) A3 _ c3 _ (HI.out _ HD0.out) (by omega)).mono ?_; rintro e w5 ⟨A5, c5, rfl, ho, -, hc⟩; have HO5 := Lib.hid ho; have HC5 := Lib.hid (HD0.out.trans hc (fun _ _ h => h)); clear kR p0 p1 p2 p3; obtain ⟨kR, p0, p1, p2, p3⟩ := HP3.out _ HC5.out; clear ho hc))
          | (go_at_call 11; go_loud (refine (HM1.out _ _ _ HO5.out).mono ?_; rintro e w6 ⟨rfl, hc6⟩; have HC6 := Lib.hid (HC5.out.trans hc6 (fun _ _ h => h)); clear kR p0 p1 p2 p3; obtain ⟨kR, p0, p1, p2, p3⟩ := HP3.out _ HC6.out; clear hc6)))
        all_goals go_wp2
        all_goals go_meet
        all_goals exact ⟨rfl, rfl, HC6.out⟩
      case rest =>
        obtain ⟨rfl, rfl, hc4⟩ := hcut
        go_wp2
        go_ret
        exact ⟨rfl, (HW3.out.trans hc4 (fun _ _ h => h)).below⟩
    | some g =>
      rw [hme] at HM1
      obtain ⟨hkk, hhs⟩ : keeps keep = true ∧ hears (g0 keep) (hs ++ ks) = some g := by
        unfold Gm.measure at hme
        split at hme
        · exact ⟨‹_›, hme⟩
        · cases hme
      obtain ⟨ga, hga, hgb⟩ := Option.bind_eq_some_iff.1 ((hears_append (g0 keep) hs ks).symm.trans hhs)
      have HM2 : Hid (∀ (W : World) (A : Option Addr) (c : Nat), (Kd.slice 112 respK).rel (fun k => k < W.heap.size) W hs [.slice A hs.length c] → Calls Try.prog 11 #[.float .f64 keep, .slice A hs.length c] W fun e w' => MRes W (some ga) e w') := fun W A c h => by
        have := HM.out hs hs.length W A c (by omega) HF.out h
        unfold Gm.measure at this
        rw [if_pos hkk, hga] at this
        exact this
      have HONE := Lib.hid (keeps_lt HK64.out hkk)
      have HGA := Lib.hid hga
      have HGB := Lib.hid hgb
      have HHS := Lib.hid hhs
      have HGD := Lib.hid (good_any HONE.out hhs (by rw [List.length_append]; omega))
      clear HM hme hkk hhs hga hgb HK64
      go_cut [4, 5] from 20 to 28 (fun x y wx => y = .int .i64 0 ∧ ∃ b, x = .pointer (some ⟨b, 0, none⟩) ∧ GV (fun k => k < wx.heap.size) wx b g ∧ Chg (fun _ => False) w2 wx)
      case first =>
        obtain ⟨kR, p0, p1, p2, p3⟩ := HP3.out w2 (Chg.refl _ _)
        have HD0 : Hid (Chg (fun _ => False) w2 w2.drew) := (Chg.refl _ _).drew
        go_region_with (first
          | (go_at_call 12; go_loud (refine (resp_walk (hs ++ ks) A3 _ c3 _ (HI.out _ HD0.out) (by omega)).mono ?_; rintro e w5 ⟨A5, c5, rfl, ho, -, hc⟩; have HO5 := Lib.hid ho; have HC5 := Lib.hid (HD0.out.trans hc (fun _ _ h => h)); clear kR p0 p1 p2 p3; obtain ⟨kR, p0, p1, p2, p3⟩ := HP3.out _ HC5.out; clear ho hc))
          | (go_at_call 11; go_loud (refine (HM1.out _ _ _ HO5.out).mono ?_; rintro e w6 ⟨b, rfl, hg, hc6⟩; have HG := Lib.hid (hg.mono (fun k hk => hk.2) (fun k hk => hk)); have HC6 := Lib.hid (HC5.out.trans hc6 (fun _ _ h => h)); clear kR p0 p1 p2 p3; obtain ⟨kR, p0, p1, p2, p3⟩ := HP3.out _ HC6.out; clear hc6 hg)))
        all_goals go_wp2
        all_goals go_meet
        all_goals exact ⟨rfl, _, rfl, HG.out, HC6.out⟩
      case rest =>
        obtain ⟨w4, rfl⟩ : ∃ w4, w4 = wc := ⟨_, rfl⟩
        obtain ⟨rfl, b1, rfl, hg1, hc4⟩ := hcut
        have HW4 : Hid (Chg (fun _ => False) w w4) := HW3.out.trans hc4 (fun _ _ h => h)
        have HP4 : Hid (∀ W, Chg (fun _ => False) w4 W → _) := Lib.hid (fun W hW => HP3.out W (hc4.trans hW (fun _ _ h => h)))
        have HI4 : Hid (∀ W, Chg (fun _ => False) w4 W → _) := Lib.hid (fun W hW => HI.out W (hc4.trans hW (fun _ _ h => h)))
        have HG1 := Lib.hid hg1
        clear HM1 HP3 HI hg1 hc4 HW3
        go_upto_region 7 with (fail)
        go_cut [6, 5] from 32 to 41 (fun x y wx => y = .int .i64 0 ∧ ∃ b, x = .pointer (some ⟨b, 0, none⟩) ∧ GV (fun k => w4.heap.size ≤ k ∧ k < wx.heap.size) wx b ga ∧ Chg (fun _ => False) w4 wx)
        case first =>
          obtain ⟨kR, p0, p1, p2, p3⟩ := HP4.out w4 (Chg.refl _ _)
          have HD0 : Hid (Chg (fun _ => False) w4 w4.drew) := (Chg.refl _ _).drew
          go_region_with (first
            | (go_at_call 12; go_loud (refine (resp_walk hs A _ c _ (HH.out _ (HW4.out.trans HD0.out (fun _ _ h => h))) (by omega)).mono ?_; rintro e w5 ⟨A5, c5, rfl, ho, -, hc⟩; have HO5 := Lib.hid ho; have HC5 := Lib.hid (HD0.out.trans hc (fun _ _ h => h)); clear kR p0 p1 p2 p3; obtain ⟨kR, p0, p1, p2, p3⟩ := HP4.out _ HC5.out; clear ho hc))
            | (go_at_call 11; go_loud (refine (HM2.out _ _ _ HO5.out).mono ?_; rintro e w6 ⟨b, rfl, hg, hc6⟩; have HG := Lib.hid (hg.mono (fun k hk => (⟨Nat.le_trans HC5.out.size hk.1, hk.2⟩ : w4.heap.size ≤ k ∧ k < w6.heap.size)) (fun k hk => hk.2)); have HC6 := Lib.hid (HC5.out.trans hc6 (fun _ _ h => h)); clear kR p0 p1 p2 p3; obtain ⟨kR, p0, p1, p2, p3⟩ := HP4.out _ HC6.out; clear hc6 hg)))
          all_goals go_wp2
          all_goals go_meet
          all_goals exact ⟨rfl, _, rfl, HG.out, HC6.out⟩
        case rest =>
          obtain ⟨w5, rfl⟩ : ∃ w5, w5 = wc := ⟨_, rfl⟩
          obtain ⟨rfl, b2, rfl, hg2, hc5⟩ := hcut
          have HG2 := Lib.hid hg2
          have HC5 := Lib.hid hc5
          obtain ⟨kR, p0, p1, p2, p3⟩ := HP4.out w5 hc5
          have hsz5 := hc5.size
          clear hg2 hc5 HM2
          go_wp2
          go_loopw [50] (fun i wr => ∃ (k : Nat) (gk : G), k ≤ ks.length ∧ i = .int .i64 k ∧ hears ga (ks.take k) = some gk ∧ GV (fun j => w4.heap.size ≤ j ∧ j < wr.heap.size) wr b2 gk ∧ Chg (fun j => w4.heap.size ≤ j) w5 wr) (fun i _ => ks.length - (intOf i).toNat)
          case atStart => exact ⟨0, ga, Nat.zero_le _, rfl, rfl, HG2.out, Chg.refl _ _⟩
          case round =>
            obtain ⟨w6, rfl⟩ : ∃ w6, w6 = wr := ⟨_, rfl⟩
            obtain ⟨k, gk, hk, rfl, hh, hg, hc⟩ := hrel
            have HHK := Lib.hid hh
            have HGV := Lib.hid hg
            have HC6 : Hid (Chg (fun _ => False) w4 w6) := HC5.out.trans hc (fun j hj h => by omega)
            have HCC := Lib.hid hc
            have hsz := hc.size
            clear hh hg hc
            have HHF : Hid (hears (g0 keep) (hs ++ ks.take k) = some gk) := by rw [hears_append, HGA.out]; exact HHK.out
            have HGK := Lib.hid (good_any HONE.out HHF.out (by rw [List.length_append, List.length_take]; omega))
            have HSL : Hid (gk.slots.length = hs.length + k) := Lib.hid (by rw [(heard_any HHF.out).slots, List.length_map, List.length_append, List.length_take]; omega)
            by_cases hlt : k < ks.length
            · obtain ⟨⟨s0, c0⟩, hx⟩ : ∃ x, ks[k]? = some x := ⟨_, List.getElem?_eq_getElem hlt⟩
              obtain ⟨-, bb, off, rfl, hb, hcell⟩ := heard_at (HH2.out w6 (HW4.out.trans HC6.out (fun _ _ h => h))) (by omega)
              obtain ⟨y0, y1⟩ := hcell k s0 c0 hx
              have hfx := HF2.out (s0, c0) (List.mem_of_getElem? hx)
              have hsb : -9223372036854775808 ≤ s0 ∧ s0 ≤ 9223372036854775807 := by
                have := hfx.1
                simp [Lit.wf, IntKind.min, IntKind.max, IntKind.bits, IntKind.signed] at this
                omega
              have hnx : hears ga (ks.take (k + 1)) = hear1 gk (s0, c0) := by
                rw [take_snoc' hx, hears_snoc, HHK.out]; rfl
              have ht : takes gk s0 = true := by
                cases hq : takes gk s0 with
                | true => rfl
                | false =>
                  have h1 : hears ga ks = none := hears_take (k := k + 1) (by rw [hnx]; unfold hear1; rw [hq]; rfl)
                  rw [HGB.out] at h1
                  cases h1
              have HNX : Hid (hears ga (ks.take (k + 1)) = some (gk.hear s0.toNat c0)) := Lib.hid (by rw [hnx]; unfold hear1; rw [if_pos ht])
              have HW : Hid (∀ W, Chg (fun _ => False) w6 W → Calls Try.prog 22 #[.pointer (some ⟨b2, 0, none⟩), .agg (resp s0 c0)] W fun e w' =>
                  e = .returned (.int .i64 0) ∧ (∃ E', GV E' w' b2 (gk.hear s0.toNat c0) ∧ (∀ k, E' k → (w4.heap.size ≤ k ∧ k < w6.heap.size) ∨ W.heap.size ≤ k)) ∧ Chg (fun k => w4.heap.size ≤ k ∧ k < w6.heap.size) W w') := fun W hW => by
                have h1 := hear_walk (HGV.out.chg hW (fun _ _ h => h)) HGK.out s0 c0 hfx.2 (by rw [HSL.out]; omega) hsb
                simp only [ht, if_true] at h1
                exact h1
              have HRS : Hid (∀ W, Calls Try.prog 23 #[.agg #[.int .i64 s0, .int .i64 c0]] W fun e w' => e = .returned (.agg (resp s0 c0)) ∧ Chg (fun _ => False) W w') := fun W => response_walk s0 c0 W
              unfold resp at HW HRS
              clear hcell hx hfx hnx ht
              have hs1 := HC6.out.size
              go_wp2_with (first
                | (go_at_call 23; go_loud (refine (HRS.out _).mono ?_; rintro e w7 ⟨rfl, hc7⟩; have HC7 : Hid (Chg (fun _ => False) w6 w7) := ((Chg.refl _ _).alloc _).trans hc7 (fun _ _ h => h); clear hc7))
                | (go_at_call 22; go_loud (refine (HW.out _ HC7.out).mono ?_; rintro e w8 ⟨rfl, ⟨E', hg8, hE'⟩, hc8⟩; have HG8 := Lib.hid hg8; have HE8 := Lib.hid hE'; have HC8 := Lib.hid hc8; clear hg8 hE' hc8)))
              go_roundw
              case rel =>
                have s1 := HC7.out.size
                refine ⟨k + 1, gk.hear s0.toNat c0, hlt, by go_num, HNX.out, HG8.out.mono (fun j hj => ?_) (fun j hj => hj.2), ?_⟩
                · have h1 := HG8.out.low j hj
                  rcases HE8.out j hj with h | h
                  · exact ⟨h.1, h1⟩
                  · exact ⟨by omega, h1⟩
                · exact (HCC.out.trans HC7.out (fun _ _ h => h.elim)).trans HC8.out (fun j hj h => h.1)
              case measure => simp [intOf]; omega
            · have hkk : k = ks.length := by omega
              have hgg : gk = g := by
                have := HHK.out
                rw [hkk, List.take_length, HGB.out] at this
                exact (Option.some.inj this).symm
              subst hgg
              have HG6 : Hid (GV (fun j => j < w4.heap.size) w6 b1 gk) := HG1.out.chg HC6.out (fun _ _ h => h)
              have hs1 := HC6.out.size
              have HGL : Hid (gk.gaps.length ≤ 17592186043904) := Lib.hid (by unfold G.gaps; rw [Gp.gaps_len, HSL.out]; omega)
              clear HHK HHF HSL HGK
              go_wp2
              go_loopw [62] (fun i wr => ∃ j : Nat, j ≤ hs.length + ks.length ∧ i = .int .i64 j ∧ Chg (fun _ => False) w6 wr) (fun i _ => hs.length + ks.length - (intOf i).toNat)
              case atStart => exact ⟨0, Nat.zero_le _, rfl, Chg.refl _ _⟩
              case round =>
                obtain ⟨w7, rfl⟩ : ∃ w7, w7 = wr := ⟨_, rfl⟩
                obtain ⟨j, hj, rfl, hc⟩ := hrel
                have HC7 := Lib.hid hc
                clear hc
                have hs7 := HC7.out.size
                by_cases hlt2 : j < hs.length + ks.length
                · obtain ⟨⟨s0, c0⟩, hx⟩ : ∃ x, (hs ++ ks)[j]? = some x := ⟨_, List.getElem?_eq_getElem (by rw [List.length_append]; exact hlt2)⟩
                  obtain ⟨-, bb, off, rfl, hb, hcell⟩ := heard_at (HI4.out w7 (HC6.out.trans HC7.out (fun _ _ h => h))) (by omega)
                  obtain ⟨y0, y1⟩ := hcell j s0 c0 hx
                  have hfx := (HFF.out (s0, c0) (List.mem_of_getElem? hx)).2
                  have i2 : (j : Int) < (hs.length : Int) + (ks.length : Int) := by omega
                  clear hcell hx
                  go_upto_region 19 with (fail)
                  generalize hw8 : w7.alloc _ = w8
                  have HC8 : Hid (Chg (fun _ => False) w6 w8) := by rw [← hw8]; exact HC7.out.alloc _
                  have HB8 : Hid (w8.heap[w7.heap.size]? = some (.cells #[.int .i64 s0, .int .i64 c0] 34 (0, 0))) := by rw [← hw8]; exact heap_new _ _
                  have z1 : w8.cell? ⟨w7.heap.size, 1, none⟩ = some (.int .i64 c0) := cell_at HB8.out 1 rfl
                  clear hw8
                  obtain ⟨cn, hcn⟩ : ∃ r : Nat, r = gk.codes.count c0 := ⟨_, rfl⟩
                  have K1 : Hid (∀ q, Calls Try.prog 24 #[.pointer (some ⟨b1, 0, none⟩), .int .i64 c0] (w8.drewN q) fun e w' => e = .returned (.int .i64 (cn : Int)) ∧ w' = w8.drewN q) := Lib.hid (fun q => by
                    rw [hcn]; exact count_walk (HG6.out.chg (HC8.out.drewN q) (fun _ _ h => h)) HGD.out hfx)
                  have K2 : Hid (∀ q, Calls Try.prog 24 #[.pointer (some ⟨b2, 0, none⟩), .int .i64 c0] (w8.drewN q) fun e w' => e = .returned (.int .i64 (cn : Int)) ∧ w' = w8.drewN q) := Lib.hid (fun q => by
                    rw [hcn]; exact count_walk (HGV.out.chg (HC8.out.drewN q) (fun _ _ h => h)) HGD.out hfx)
                  clear hcn
                  go_quiet ((go_at_call 24; first | with_reducible exact Calls.quiet_of_same (K1.out _) | with_reducible exact Calls.quiet_of_same (K2.out _)))
                  go_wp2
                  go_roundw
                  case rel => exact ⟨j + 1, by omega, by go_num, HC8.out.drewN _⟩
                  case measure => simp [intOf]; omega
                · obtain ⟨kR, p0, p1, p2, p3⟩ := HP4.out w7 (HC6.out.trans HC7.out (fun _ _ h => h))
                  have HTT : Hid (∀ W, Chg (fun _ => False) w7 W → Calls Try.prog 25 #[.pointer (some ⟨b2, 0, none⟩), .pointer (some ⟨b1, 0, none⟩), .float .f64 p, .bool true] W fun e w' => e = .returned (.bool true) ∧ Chg (fun _ => False) W w') := fun W hW =>
                    told_walk ((HGV.out.chg HC7.out (fun _ _ h => h)).chg hW (fun _ _ h => h)) HGD.out ((HG6.out.chg HC7.out (fun _ _ h => h)).chg hW (fun _ _ h => h)) HGD.out p true rfl rfl (fun _ => rfl) HGL.out
                  go_wp2_with (go_at_call 25; go_loud (refine (HTT.out _ (Chg.refl _ _)).mono ?_; rintro e w9 ⟨rfl, hc9⟩))
                  go_ret
                  exact ⟨rfl, (((HW4.out.trans HC6.out (fun _ _ h => h)).trans HC7.out (fun _ _ h => h)).trans hc9 (fun _ _ h => h)).below⟩
end Go.Proofs.Ytecppcgleidhkaa.Gf
