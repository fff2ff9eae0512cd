/- The law GaugeMoved, walked. Conditions: the list reads so; at most 1048576 of them. -/
import Derived.Test.YtecppcgleidhkaaGa
import Derived.Test.YtecppcgleidhkaaGb
set_option linter.unusedVariables false
set_option linter.unusedSimpArgs false
set_option exponentiation.threshold 3000
namespace Go.Proofs.Ytecppcgleidhkaa.Gd
open Go.RowKit Go.Proofs.Ytecppcgleidhkaa.Lib1 Go.Proofs.Ytecppcgleidhkaa.Rel Go.Proofs.Ytecppcgleidhkaa.Own Go.Proofs.Ytecppcgleidhkaa.Fl Go.Proofs.Ytecppcgleidhkaa.Gp Go.Proofs.Ytecppcgleidhkaa.Gw Go.Proofs.Ytecppcgleidhkaa.Gm Go.Proofs.Ytecppcgleidhkaa.Gb

def mv (d : Nat) (l : List (Int × Int)) : List (Int × Int) := l.map fun h => (h.1 + d, h.2)
theorem gaps_mv (d : Nat) : ∀ l : List Nat, gaps (l.map (· + d)) = gaps l
  | [] => rfl
  | [_] => rfl
  | a :: b :: l => by
    have ih := gaps_mv d (b :: l)
    simp only [List.map_cons, gaps] at ih ⊢
    rw [ih, show b + d - (a + d) = b - a by omega]
theorem turn_mv {d : Nat} (hd : d % 4 = 0) (l : List Nat) : turn (l.map (· + d)) = turn l := by
  induction l using snoc_ind with
  | h0 => rfl
  | h1 l s ih =>
    rw [List.map_append, List.map_cons, List.map_nil, turn_snoc, turn_snoc, ih]
    unfold tstep
    rw [show (s + d) % 4 = s % 4 by omega]
theorem hears_mv {keep d : Nat} : ∀ {l : List (Int × Int)} {g : G}, hears (g0 keep) l = some g → (∀ h ∈ l, h.1 + d ≤ 4611686018427387904) → ∃ g', hears (g0 keep) (mv d l) = some g' ∧ g'.slots = g.slots.map (· + d) ∧ g'.keep = keep := by
  have key : ∀ n, ∀ (l : List (Int × Int)) (g : G), l.length = n → hears (g0 keep) l = some g → (∀ h ∈ l, h.1 + d ≤ 4611686018427387904) → ∃ g', hears (g0 keep) (mv d l) = some g' ∧ g'.slots = g.slots.map (· + d) ∧ g'.keep = keep := by
    intro n
    induction n with
    | zero =>
      intro l g hl h _
      rw [List.eq_nil_of_length_eq_zero hl] at h ⊢
      cases h
      exact ⟨_, rfl, rfl, rfl⟩
    | succ n ih =>
      intro l g hl h hok
      have hne : l ≠ [] := by intro e; subst e; simp at hl
      obtain ⟨m, x, rfl⟩ : ∃ m x, l = m ++ [x] := ⟨l.dropLast, l.getLast hne, (List.dropLast_concat_getLast hne).symm⟩
      rw [hears_snoc] at h
      obtain ⟨g1, e1, e2⟩ := Option.bind_eq_some_iff.1 h
      obtain ⟨g2, f1, f2, f3⟩ := ih m g1 (by simpa using hl) e1 (fun h hh => hok h (by simp [hh]))
      unfold hear1 at e2
      split at e2
      · rename_i ht
        cases e2
        obtain ⟨t1, t2, t3⟩ := takes_spec ht
        have hx := hok x (by simp)
        have ht2 : takes g2 (x.1 + d) = true := by
          refine takes_yes (by omega) hx ?_
          unfold G.last at t3 ⊢
          rw [f2, List.getLast?_map]
          cases hh : g1.slots.getLast? with
          | none => simp; omega
          | some a => rw [hh] at t3; simp at t3 ⊢; omega
        refine ⟨g2.hear (x.1 + d).toNat x.2, ?_, ?_, f3⟩
        · unfold mv
          rw [List.map_append, List.map_cons, List.map_nil, hears_snoc]
          unfold mv at f1
          rw [f1]
          show hear1 g2 (x.1 + d, x.2) = _
          unfold hear1
          rw [if_pos ht2]
        · show g2.slots ++ [(x.1 + d).toNat] = (g1.slots ++ [x.1.toNat]).map (· + d)
          rw [f2, List.map_append, List.map_cons, List.map_nil, show (x.1 + d).toNat = x.1.toNat + d by omega]
      · cases e2
  exact fun {l g} h hok => key l.length l g rfl h hok
theorem info_heard : ((Try.prog).info? 34).map (fun i => (i.zero, i.size, i.bytes)) = some (some (.agg #[.int .i64 0, .int .i64 0]), 2, 16) := by kernel_rfl
theorem heard_lit {base : Nat} {w : World} {g : Nat} (e : TypeId) (hg : g = w.heap.size) (hb : base ≤ g) : OwnL heardK e base (w.alloc (.cells #[] e)) (.slice (some ⟨g, 0, none⟩) 0 0) [] :=
  ⟨[], own_lit0 w g hg hb, fun i x h => by simp at h⟩
theorem mv_snoc (d : Nat) (l : List (Int × Int)) (s c : Int) : mv d (l ++ [(s, c)]) = mv d l ++ [(s + d, c)] := by simp [mv]
theorem mv_len (d : Nat) (l : List (Int × Int)) : (mv d l).length = l.length := by simp [mv]
abbrev KEEP : Nat := 4598175219545276416
set_option maxRecDepth 100000 in
set_option maxHeartbeats 800000 in
theorem moved_walk (hs : List (Int × Int)) (A : Option Addr) (n c : Nat) (d : Int) (p : Nat) (w : World) (h : (Kd.slice 16 heardK).rel (fun k => k < w.heap.size) w hs [.slice A n c]) (hn : n ≤ 1048576) (hfit : ∀ x ∈ hs, (Lit.int .i64 x.1).wf = true ∧ (Lit.int .i64 x.2).wf = true) (hd : (Lit.int .i64 d).wf = true) :
    Calls Try.prog 8 #[.slice A n c, .int .i64 d, .float .f64 p] w fun e w' => e = .returned (.bool true) ∧ Below w.heap.size w w' := by
  have HL : Hid (hs.length = n) := by
    obtain ⟨A', c', cells, he, -⟩ := h
    simp only [List.cons.injEq, Value.slice.injEq, and_true] at he
    exact he.2.1.symm
  have HH : Hid (∀ W, Chg (fun _ => False) w W → (Kd.slice 16 heardK).rel (fun k => k < W.heap.size) W hs [.slice A n c]) := fun W hc => (Kd.slice 16 heardK).mono (fun k hk => Nat.lt_of_lt_of_le hk hc.size) ((Kd.slice 16 heardK).move (fun k hk => hc.block k hk (fun h => h)) h)
  have HF := Lib.hid hfit
  have HM : Hid (∀ (hs : List (Int × Int)) (W : World) (A : Option Addr) (c : Nat), (∀ x ∈ hs, (Lit.int .i64 x.1).wf = true ∧ (Lit.int .i64 x.2).wf = true) → (Kd.slice 112 respK).rel (fun k => k < W.heap.size) W hs [.slice A n c] → Calls Try.prog 11 #[.float .f64 4598175219545276416, .slice A n c] W fun e w' => MRes W (Gm.measure 4598175219545276416 hs) e w') := fun hs W A c hf h => measure_walk 4598175219545276416 (by decide) hs A n c W h (by omega) hf
  have hkk : keeps 4598175219545276416 = true := by decide
  clear h hfit
  cases hme : Gm.measure 4598175219545276416 hs with
  | none =>
    have HM1 := Lib.hid (fun W A c h => HM.out hs W A c HF.out h)
    rw [hme] at HM1
    clear HM hkk
    go_enter Try.func8, Try.ntmps8
    go_wp2_with (first
      | (go_at_call 10; refine (head_walk _).mono ?_; rintro e w1 ⟨rfl, hc1⟩; have HC1 := Lib.hid hc1; clear hc1)
      | (go_at_call 12; refine (resp_walk hs A n c _ (HH.out _ HC1.out) (by omega)).mono ?_; rintro e w2 ⟨A2, c2, rfl, ho, -, hc⟩; have HO := Lib.hid ho; have HC2 := Lib.hid hc; clear ho hc)
      | (go_at_call 11; refine (HM1.out _ _ _ HO.out).mono ?_; rintro e w3 ⟨rfl, hc3⟩; have HC3 := Lib.hid hc3; clear hc3))
    go_ret
    exact ⟨rfl, ((HC1.out.trans HC2.out (fun _ _ h => h)).trans HC3.out (fun _ _ h => h)).below⟩
  | some g =>
    have HM1 := Lib.hid (fun W A c h => HM.out hs W A c HF.out h)
    rw [hme] at HM1
    have hhs : hears (g0 4598175219545276416) hs = some g := by
      unfold Gm.measure at hme
      rw [if_pos hkk] at hme
      exact hme
    have HHS := Lib.hid hhs
    have HHD := Lib.hid (heard_any hhs)
    have HGD := Lib.hid (good_any (by decide : 4598175219545276416 < ONE) hhs (by have := HL.out; omega))
    clear hme hhs
    by_cases hdd : d < 0 ∨ 4611686018427387904 < d
    · clear hkk HM
      have hdb : (decide (d < 0) || decide (4611686018427387904 < d)) = true := by simpa using hdd
      rcases hdd with hd1 | hd1
      all_goals
        clear hdb
        go_enter Try.func8, Try.ntmps8
        go_wp2_with (first
          | (go_at_call 10; refine (head_walk _).mono ?_; rintro e w1 ⟨rfl, hc1⟩; have HC1 := Lib.hid hc1; clear hc1)
          | (go_at_call 12; refine (resp_walk hs A n c _ (HH.out _ HC1.out) (by omega)).mono ?_; rintro e w2 ⟨A2, c2, rfl, ho, -, hc⟩; have HO := Lib.hid ho; have HC2 := Lib.hid hc; clear ho hc)
          | (go_at_call 11; refine (HM1.out _ _ _ HO.out).mono ?_; rintro e w3 ⟨b, rfl, hg, hc3⟩; have HC3 := Lib.hid hc3; clear hc3 hg))
        go_ret
        exact ⟨rfl, ((HC1.out.trans HC2.out (fun _ _ h => h)).trans HC3.out (fun _ _ h => h)).below⟩
    · obtain ⟨D, rfl⟩ : ∃ D : Nat, d = D := ⟨d.toNat, by omega⟩
      have hD : D ≤ 4611686018427387904 := by omega
      clear hdd hd hkk
      go_enter Try.func8, Try.ntmps8
      go_wp2_with (first
        | (go_at_call 10; refine (head_walk _).mono ?_; rintro e w1 ⟨rfl, hc1⟩; have HC1 := Lib.hid hc1; clear hc1)
        | (go_at_call 12; refine (resp_walk hs A n c _ (HH.out _ HC1.out) (by omega)).mono ?_; rintro e w2 ⟨A2, c2, rfl, ho, -, hc⟩; have HO := Lib.hid ho; have HC2 := Lib.hid hc; clear ho hc)
        | (go_at_call 11; refine (HM1.out _ _ _ HO.out).mono ?_; rintro e w3 ⟨b, rfl, hg, hc3⟩; have HC3 := Lib.hid hc3; have HG := Lib.hid hg; clear hc3 hg))
      have HW3 : Hid (Chg (fun _ => False) w w3) := (HC1.out.trans HC2.out (fun _ _ h => h)).trans HC3.out (fun _ _ h => h)
      clear HC1 HC2 HC3 HO HM1
      have hs3 := HW3.out.size
      go_loopw [9, 34] (fun v i wr => ∃ k : Nat, k ≤ n ∧ i = .int .i64 k ∧ OwnL heardK 34 w3.heap.size wr v (mv D (hs.take k)) ∧ (∀ x ∈ hs.take k, x.1 + D ≤ 4611686018427387904) ∧ Chg (fun _ => False) w3 wr) (fun _ i _ => n - (intOf i).toNat)
      case atStart => exact ⟨0, Nat.zero_le _, rfl, by rw [List.take_zero]; exact heard_lit _ rfl (Nat.le_refl _), (fun x hx => by cases hx), (Chg.refl _ _).alloc _⟩
      case round =>
        obtain ⟨w4, rfl⟩ : ∃ w4, w4 = wr := ⟨_, rfl⟩
        obtain ⟨k, hk, rfl, ho, hok, hc⟩ := hrel
        obtain ⟨Av, cv, e0⟩ := ho.form
        have hkl : k ≤ hs.length := by have := HL.out; omega
        rw [mv_len, take_len' hkl] at e0
        subst e0
        have HO := Lib.hid ho
        have HOK := Lib.hid hok
        have HC := Lib.hid hc
        have hsz := hc.size
        clear ho hok hc
        by_cases hlt : k < n
        · obtain ⟨⟨s0, c0⟩, hx⟩ : ∃ x, hs[k]? = some x := ⟨_, List.getElem?_eq_getElem (by have := HL.out; omega)⟩
          obtain ⟨-, bb, off, rfl, hb, hcell⟩ := heard_at (HH.out w4 (HW3.out.trans HC.out (fun _ _ h => h))) (by omega)
          obtain ⟨y0, y1⟩ := hcell k s0 c0 hx
          have HX := Lib.hid hx
          have hsb := HHD.out.ok _ (List.mem_of_getElem? hx)
          simp only at hsb
          obtain ⟨hsb1, hsb2⟩ := hsb
          clear hcell hx
          by_cases hbig : 4611686018427387904 - (D : Int) < s0
          · go_wp2
            go_ret
            exact ⟨rfl, ((HW3.out.trans HC.out (fun _ _ h => h)).alloc _).below⟩
          · have hsum : s0 + (D : Int) ≤ 4611686018427387904 := by omega
            go_wp2_with (at_builtin; go_loud (refine ap_push' rfl (.tmp 43) (.tmp 51) 22 rfl heardK w3.heap.size 34 16 _ Try.underlying22 info_heard rfl (by decide) (by decide) (.slice Av k cv) (mv D (hs.take k)) rfl (HO.out.up ((Chg.refl (fun _ => False) w4).alloc _)) (s0 + D, c0) _ _ rfl ?bG ?bR ?bL ?bB ?_; (case bG => simp); (case bR => exact ⟨[.int .i64 (s0 + D)], [.int .i64 c0], rfl, rfl, rfl⟩); (case bL => rw [mv_len, take_len' hkl]; omega); (case bB => simp only [World.size_alloc]; omega); intro v3 w5 o3 g3; obtain ⟨A3, c3, e3⟩ := o3.form; subst e3))
            go_roundw
            case rel =>
              refine ⟨k + 1, hlt, by go_num, ?_, fun x hx => ?_, ?_⟩
              · rw [take_snoc' HX.out, mv_snoc]
                have o4 := o3
                rw [List.length_append] at o4
                exact o4
              · rw [take_snoc' HX.out] at hx
                rcases List.mem_append.1 hx with hx | hx
                · exact HOK.out x hx
                · obtain rfl : x = (s0, c0) := by simpa using hx
                  exact hsum
              · exact (HC.out.alloc _).trans g3 (fun j hj he => by have := (HO.out.low j he).1; omega)
            case measure => simp [intOf]; omega
        · have hkk : k = hs.length := by have := HL.out; omega
          have ho := HO.out
          have hok := HOK.out
          rw [hkk, List.take_length] at ho hok
          rw [← hkk] at ho
          obtain ⟨g', f1, f2, f3⟩ := hears_mv HHS.out hok
          have hfm : ∀ x ∈ mv D hs, (Lit.int .i64 x.1).wf = true ∧ (Lit.int .i64 x.2).wf = true := fun x hx => by
            obtain ⟨y, hy, rfl⟩ := List.mem_map.1 hx
            have h1 := HHD.out.ok y hy
            have h2 := hok y hy
            refine ⟨?_, (HF.out y hy).2⟩
            simp [Lit.wf, IntKind.min, IntKind.max, IntKind.bits, IntKind.signed]
            omega
          have HIN : Hid (∀ W, Chg (fun _ => False) w4 W → (Kd.slice 16 heardK).rel (fun k => k < W.heap.size) W (mv D hs) [.slice Av k cv]) := fun W hW => (Kd.slice 16 heardK).mono (fun j hj => Nat.lt_of_lt_of_le hj.2 hW.size) ((Kd.slice 16 heardK).move (fun j hj => hW.block j hj.2 (fun h => h)) ho.reads)
          have HM2 : Hid (∀ (W : World) (A : Option Addr) (c : Nat), (Kd.slice 112 respK).rel (fun k => k < W.heap.size) W (mv D hs) [.slice A k c] → Calls Try.prog 11 #[.float .f64 4598175219545276416, .slice A k c] W fun e w' => MRes W (some g') e w') := fun W A c h => by
            have := measure_walk 4598175219545276416 (by decide) (mv D hs) A k c W h (by omega) hfm
            unfold Gm.measure at this
            rw [if_pos (by decide), f1] at this
            exact this
          have HGD' := Lib.hid (good_any (by decide : 4598175219545276416 < ONE) f1 (by rw [mv_len]; have := HL.out; omega))
          have HGP : Hid (g'.gaps = g.gaps) := by unfold G.gaps; rw [f2]; exact gaps_mv D g.slots
          have HKP : Hid (g'.keep = g.keep) := by rw [f3]; exact HHD.out.keep.symm
          have HTN : Hid (((D : Int) % 4 == 0) = true → turn g'.slots = turn g.slots) := fun h => by
            rw [f2]; exact turn_mv (by have h4 : (D : Int) % 4 = 0 := (by simpa using h); omega) g.slots
          have HGL : Hid (g.gaps.length ≤ 17592186043904) := by
            have h1 := gaps_length HHD.out
            have h2 := HL.out
            show _ ≤ _; omega
          clear ho hok f1 f2 f3 hfm HO HOK hkk
          go_wp2_with (first
            | (go_at_call 12; refine (resp_walk (mv D hs) Av k cv _ (HIN.out _ (Chg.refl _ _)) (by omega)).mono ?_; rintro e w5 ⟨A2, c2, rfl, ho, -, hc⟩; have HO5 := Lib.hid ho; have HC5 := Lib.hid hc; clear ho hc)
            | (go_at_call 11; refine (HM2.out _ _ _ HO5.out).mono ?_; rintro e w6 ⟨b', rfl, hg, hc6⟩; have HC6 := Lib.hid hc6; have HG6 := Lib.hid hg; clear hc6 hg)
            | (go_at_call 25; go_loud (with_reducible refine (told_walk (HG.out.chg ((HC.out.trans HC5.out (fun _ _ h => h)).trans HC6.out (fun _ _ h => h)) (fun _ _ h => h)) HGD.out HG6.out HGD'.out p _ HKP.out HGP.out ?ht HGL.out).mono ?_; (case ht => exact HTN.out); rintro e w7 ⟨rfl, hc7⟩; have HC7 := Lib.hid hc7; clear hc7)))
          go_ret
          exact ⟨rfl, ((((HW3.out.trans HC.out (fun _ _ h => h)).trans HC5.out (fun _ _ h => h)).trans HC6.out (fun _ _ h => h)).trans HC7.out (fun _ _ h => h)).below⟩
end Go.Proofs.Ytecppcgleidhkaa.Gd
