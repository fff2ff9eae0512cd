/- The document's Close, by contract. Conditions: the row reads so, labels below 2^64. -/
import Derived.Test.YtdfplhoijapoeaaRi
import Derived.Deep.CutRange
set_option linter.unusedVariables false
set_option linter.unusedSimpArgs false
namespace Go.Proofs.Ytdfplhoijapoeaa.Lrc
open Go.RowKit Go.Proofs.Ytdfplhoijapoeaa.Lib1 Go.Proofs.Ytdfplhoijapoeaa.Lat Go.Proofs.Ytdfplhoijapoeaa.Lbl Go.Proofs.Ytdfplhoijapoeaa.Lbw Go.Proofs.Ytdfplhoijapoeaa.Lck Go.Proofs.Ytdfplhoijapoeaa.Lcb Go.Proofs.Ytdfplhoijapoeaa.Lcl Go.Proofs.Ytdfplhoijapoeaa.Lpl Go.Proofs.Ytdfplhoijapoeaa.Lis Go.Proofs.Ytdfplhoijapoeaa.Lcm Go.Proofs.Ytdfplhoijapoeaa.Lri

/-- What has been gathered of ls. -/
structure Part (ls T : List Nat) (k : Nat) : Prop where
  nodup : T.Nodup
  sub : ∀ x ∈ T, x ∈ ls
  has : ∀ j, j < k → ls.getD j 0 ∈ T
theorem Part.old {ls T : List Nat} {k : Nat} (h : Part ls T k) (hx : ls.getD k 0 ∈ T) : Part ls T (k + 1) :=
  ⟨h.nodup, h.sub, fun j hj => by
    by_cases e : j = k
    · subst e; exact hx
    · exact h.has j (by omega)⟩
theorem nodup_snoc {T : List Nat} {x : Nat} (h : T.Nodup) (hx : x ∉ T) : (T ++ [x]).Nodup := by
  rw [List.nodup_append]
  exact ⟨h, by simp, fun a ha b hb e => by
    obtain rfl : b = x := by simpa using hb
    exact hx (e ▸ ha)⟩
theorem Part.new {ls T : List Nat} {k : Nat} (h : Part ls T k) (hx : ls.getD k 0 ∉ T) (hl : ls.getD k 0 ∈ ls) : Part ls (T ++ [ls.getD k 0]) (k + 1) :=
  ⟨nodup_snoc h.nodup hx, fun x hx => (List.mem_append.1 hx).elim (h.sub x) (fun h => by rw [List.mem_singleton.1 h]; exact hl), fun j hj => by
    by_cases e : j = k
    · subst e; simp
    · exact List.mem_append_left _ (h.has j (by omega))⟩
/-- What has been closed so far: the first k against those ahead of them; the next against q. -/
structure Clo (ls T : List Nat) (k q : Nat) : Prop where
  nodup : T.Nodup
  gen : ∀ x ∈ T, Gen ls x
  has : ∀ x ∈ ls, x ∈ T
  old : ∀ i, i < k → ∀ j, j < i → Pairs T i j
  now : ∀ j, j < q → Pairs T k j
theorem pairs_more {T : List Nat} {i j : Nat} (h : Pairs T i j) (hi : i < T.length) (hj : j < T.length) (x : Nat) : Pairs (T ++ [x]) i j := by
  unfold Pairs at *
  rw [List.getD_eq_getElem?_getD, List.getD_eq_getElem?_getD, List.getElem?_append_left hi, List.getElem?_append_left hj, ← List.getD_eq_getElem?_getD, ← List.getD_eq_getElem?_getD]
  exact ⟨List.mem_append_left _ h.1, List.mem_append_left _ h.2⟩
theorem getD_more {T : List Nat} {i : Nat} (hi : i < T.length) (x : Nat) : (T ++ [x]).getD i 0 = T.getD i 0 := by
  rw [List.getD_eq_getElem?_getD, List.getElem?_append_left hi, ← List.getD_eq_getElem?_getD]
theorem Clo.more {ls T : List Nat} {k q x : Nat} (h : Clo ls T k q) (hk : k < T.length) (hq : q ≤ k) (hx : x ∉ T) (hg : Gen ls x) : Clo ls (T ++ [x]) k q :=
  ⟨nodup_snoc h.nodup hx, fun y hy => (List.mem_append.1 hy).elim (h.gen y) (fun h => by rw [List.mem_singleton.1 h]; exact hg), fun y hy => List.mem_append_left _ (h.has y hy),
    fun i hi j hj => pairs_more (h.old i hi j hj) (by omega) (by omega) x, fun j hj => pairs_more (h.now j hj) hk (by omega) x⟩
theorem Clo.step {ls T : List Nat} {k q : Nat} (h : Clo ls T k q) (h1 : (T.getD k 0 ||| T.getD q 0) ∈ T) (h2 : (T.getD k 0 &&& T.getD q 0) ∈ T) : Clo ls T k (q + 1) :=
  ⟨h.nodup, h.gen, h.has, h.old, fun j hj => by
    by_cases e : j = q
    · subst e; exact ⟨h1, h2⟩
    · exact h.now j (by omega)⟩
theorem Clo.row {ls T : List Nat} {k : Nat} (h : Clo ls T k k) : Clo ls T (k + 1) 0 :=
  ⟨h.nodup, h.gen, h.has, fun i hi j hj => by
    by_cases e : i = k
    · subst e; exact h.now j hj
    · exact h.old i (by omega) j hj, fun j hj => absurd hj (by omega)⟩
theorem Clo.done {ls T : List Nat} (h : Clo ls T T.length 0) (x : Nat) : x ∈ T ↔ Gen ls x := by
  have hc := closed_of (fun i hi j hj => h.old i hi j hj)
  refine ⟨h.gen x, fun hg => hg (· ∈ T) h.has (fun a b ha hb => ?_)⟩
  obtain ⟨i, hi, rfl⟩ := List.getElem_of_mem ha
  obtain ⟨j, hj, rfl⟩ := List.getElem_of_mem hb
  have := hc i j hi hj
  rw [List.getD_eq_getElem?_getD, List.getD_eq_getElem?_getD, List.getElem?_eq_getElem hi, List.getElem?_eq_getElem hj] at this
  exact this
theorem mem_getD {T : List Nat} {i : Nat} (hi : i < T.length) : T.getD i 0 ∈ T := by
  rw [List.getD_eq_getElem?_getD, List.getElem?_eq_getElem hi]; exact List.getElem_mem hi

/-- What the document's Close comes to. -/
def RCloseEnd (ls : List Nat) (w : World) (e : Ending) (w' : World) : Prop :=
  (e = .returned (.tuple #[.slice none 0 0, .int .i64 10]) ∧ (ls = [] ∨ Big ls) ∧ Chg (fun _ => False) w w') ∨
  (∃ A c cs, e = .returned (.tuple #[.slice A cs.length c, .int .i64 0]) ∧ ls ≠ [] ∧ IsCl ls cs ∧ Rd (fun k => w.heap.size ≤ k ∧ k < w'.heap.size) w' A cs.length c 1 (us cs) ∧ Chg (fun _ => False) w w')
def ORel (w : World) (v : Value) (T : List Nat) (wr : World) : Prop := wr.ownsRow w.heap.size 22 1 v T.length (us T) ∧ T.length ≤ 16 ∧ Chg (fun _ => False) w wr

set_option maxRecDepth 100000 in
set_option maxHeartbeats 6400000 in
theorem rclose_any (ls : List Nat) (A : Option Addr) (n c : Nat) (w : World) (ok : Nat → Prop) (h : Rd ok w A n c 1 (us ls)) (hok : ∀ k, ok k → k < w.heap.size) (hf : n * 8 ≤ 140737488351232) (hls : ∀ x ∈ ls, x < B64) :
    Calls Try.prog 37 #[.slice A n c] w fun e w' => RCloseEnd ls w e w' := by
  have HL : Hid (ls.length = n) := by have := h.len; rw [us_len] at this; show _ = _; omega
  have HRd : Hid (∀ w', Chg (fun _ => False) w w' → Rd ok w' A n c 1 (us ls)) := fun w' hc => h.move (fun k hk => hc.block k (hok k hk) (fun he => he))
  have H64 : Hid (∀ x, Gen ls x → x < B64) := fun x hx => gen_64 hls hx
  clear h hls hok
  go_enter Try.func37, Try.ntmps37
  go_wp2
  go_loopw [4, 5] (fun v i wr => ∃ (k : Nat) (T : List Nat), k ≤ n ∧ i = .int .i64 k ∧ Part ls T k ∧ ORel w v T wr) (fun _ i _ => n - (intOf i).toNat)
  case atStart => exact ⟨0, [], by omega, rfl, ⟨List.nodup_nil, by simp, fun j hj => absurd hj (by omega)⟩, World.ownsRow_nil _ _ _ _, by simp, Chg.refl _ _⟩
  case round =>
    obtain ⟨wo, rfl⟩ : ∃ wo : World, wo = wr := ⟨_, rfl⟩
    obtain ⟨k, T, hk, rfl, hp, ho, hT, hc⟩ := hrel
    obtain ⟨A1, c1, rfl, hr1⟩ := Rd.of_own ho
    have HO := Lib.hid ho
    have HP := Lib.hid hp
    have HC := Lib.hid hc
    have hsz := hc.size
    by_cases hlt : k < n
    · obtain ⟨g, off, rfl, hg, hcell⟩ := rd_us (HRd.out _ hc) (by omega)
      have q0 := hcell k hlt
      have hkl : k < ls.length := by rw [HL.out]; exact hlt
      have HXM : Hid (ls.getD k 0 ∈ ls) := mem_getD hkl
      obtain ⟨x, hx⟩ : ∃ x, x = ls.getD k 0 := ⟨_, rfl⟩
      rw [← hx] at q0
      have HX := Lib.hid hx
      have HPl := Lib.hid (rplace_any T x A1 T.length c1 wo (fun k => Value.ownBlock (.slice A1 T.length c1) = some k) hr1 (by omega))
      have hT16 : decide ((16 : Int) < (T.length : Int)) = false := decide_eq_false (by omega)
      clear hcell hg hx hr1 ho hp hc
      by_cases hin : x ∈ T
      · have hpl : place T x = (T.idxOf x : Nat) := by unfold place; rw [if_pos hin]
        rw [hpl] at HPl
        obtain ⟨p, hp⟩ : ∃ p : Nat, p = T.idxOf x := ⟨_, rfl⟩
        rw [← hp] at HPl
        have HIN := Lib.hid hin
        have hp0 : decide ((p : Int) < 0) = false := decide_eq_false (by omega)
        clear hpl hp hin
        go_wp2_with fail
        refine HPl.out.mono ?_
        rintro e w1' ⟨rfl, rfl⟩
        go_wp2
        go_roundw
        case rel => exact ⟨k + 1, T, hlt, by go_num, HP.out.old (by rw [← HX.out]; exact HIN.out), HO.out, hT, HC.out⟩
        case measure => simp [intOf]; omega
      · have hpl : place T x = -1 := by unfold place; rw [if_neg hin]
        rw [hpl] at HPl
        have HIN := Lib.hid hin
        clear hpl hin hT16
        have hN : Hid (Part ls (T ++ [x]) (k + 1)) := by rw [HX.out]; exact HP.out.new (by rw [← HX.out]; exact HIN.out) HXM.out
        by_cases h16 : T.length = 16
        · have hbig : Hid (Big ls) := ⟨T ++ [x], hN.out.nodup, by simp; omega, fun y hy => gen_base (hN.out.sub y hy)⟩
          have i1 : decide ((16 : Int) < (T.length : Int) + 1) = true := decide_eq_true (by omega)
          have H16 := Lib.hid h16
          clear h16
          go_wp2_with fail
          refine HPl.out.mono ?_
          rintro e w1' ⟨rfl, rfl⟩
          go_wp2_with (at_builtin; refine ap_one rfl (.tmp 23) (.tmp 28) 37 rfl w.heap.size 22 1 8 (.int .u64 0) Try.underlying37 info_u64 rfl (by decide) (by decide) (.slice A1 T.length c1) T.length _ rfl HO.out #[.int .u64 (x : Int)] rfl rfl (by simp [Value.oneCell']) (by omega) hsz ?_; intro v2 w2 o2 g2 r2; obtain ⟨A2, c2, rfl, -⟩ := Rd.of_own o2)
          exact bodyPost_ret (v := .tuple #[.slice none 0 0, .int .i64 10]) (by simp [results, Try.results37, go_sem]) rfl (.inl ⟨rfl, .inr hbig.out, HC.out.of_grown g2 (fun j hj => .inl (HO.out.lt j hj).1)⟩)
        · have i1 : decide ((16 : Int) < (T.length : Int) + 1) = false := decide_eq_false (by omega)
          go_wp2_with fail
          refine HPl.out.mono ?_
          rintro e w1' ⟨rfl, rfl⟩
          go_wp2_with (at_builtin; refine ap_one rfl (.tmp 23) (.tmp 28) 37 rfl w.heap.size 22 1 8 (.int .u64 0) Try.underlying37 info_u64 rfl (by decide) (by decide) (.slice A1 T.length c1) T.length _ rfl HO.out #[.int .u64 (x : Int)] rfl rfl (by simp [Value.oneCell']) (by omega) hsz ?_; intro v2 w2 o2 g2 r2; obtain ⟨A2, c2, rfl, -⟩ := Rd.of_own o2)
          go_roundw
          case rel => exact ⟨k + 1, T ++ [x], hlt, by go_num, hN.out, by simpa [us] using o2, by rw [List.length_append, List.length_cons, List.length_nil]; omega, HC.out.of_grown g2 (fun j hj => .inl (HO.out.lt j hj).1)⟩
          case measure => simp [intOf]; omega
    · have hkn : k = n := by omega
      subst hkn
      clear hr1 ho hp hc
      by_cases hT0 : T.length = 0
      · have hn0 : Hid (ls = []) := by
          show ls = []
          rcases Nat.eq_zero_or_pos ls.length with h0 | h0
          · exact List.eq_nil_of_length_eq_zero h0
          · have := HP.out.has 0 (by rw [← HL.out]; exact h0)
            rw [List.eq_nil_of_length_eq_zero hT0] at this
            cases this
        have i0 : ((T.length : Int) == 0) = true := by rw [beq_iff_eq]; omega
        clear hT0
        go_wp2
        exact bodyPost_ret (v := .tuple #[.slice none 0 0, .int .i64 10]) (by simp [results, Try.results37, go_sem]) rfl (.inl ⟨rfl, .inl hn0.out, HC.out⟩)
      · have i0 : ((T.length : Int) == 0) = false := by rw [beq_eq_false_iff_ne]; omega
        have HNE : Hid (ls ≠ []) := fun e => hT0 (by
          have : T = [] := List.eq_nil_iff_forall_not_mem.2 (fun x hx => by have := HP.out.sub x hx; rw [e] at this; cases this)
          rw [this]; rfl)
        have HCL : Hid (Clo ls T 0 0) := ⟨HP.out.nodup, fun x hx => gen_base (HP.out.sub x hx), fun x hx => by
          obtain ⟨j, hj, rfl⟩ := List.getElem_of_mem hx
          have := HP.out.has j (by rw [← HL.out]; exact hj)
          rwa [List.getD_eq_getElem?_getD, List.getElem?_eq_getElem hj] at this, fun i hi => absurd hi (by omega), fun i hi => absurd hi (by omega)⟩
        clear hT0
        go_wp2
        go_loopw [4, 6] (fun v i wr => ∃ (k : Nat) (T : List Nat), k ≤ T.length ∧ i = .int .i64 k ∧ Clo ls T k 0 ∧ ORel w v T wr) (fun _ i _ => 17 - (intOf i).toNat)
        case atStart => exact ⟨0, T, by omega, rfl, HCL.out, HO.out, hT, HC.out⟩
        case round =>
          clear HCL HP HO HC hT i0 hsz hlt hk
          obtain ⟨wo, rfl⟩ : ∃ wo : World, wo = wr := ⟨_, rfl⟩
          obtain ⟨k, T, hk, rfl, hcl, ho, hT, hc⟩ := hrel
          obtain ⟨A1, c1, rfl, hr1⟩ := Rd.of_own ho
          have HO := Lib.hid ho
          have HCl := Lib.hid hcl
          have HC := Lib.hid hc
          by_cases hlt : k < T.length
          · clear hr1 ho hcl hc
            go_wp2
            go_loopw [4, 7] (fun v j wr => ∃ (q : Nat) (T : List Nat), q ≤ k ∧ k < T.length ∧ j = .int .i64 q ∧ Clo ls T k q ∧ ORel w v T wr) (fun _ j _ => k - (intOf j).toNat)
            case atStart => exact ⟨0, T, by omega, hlt, rfl, HCl.out, HO.out, hT, HC.out⟩
            case round =>
              clear HCl HO HC hlt hk hT
              obtain ⟨wi, rfl⟩ : ∃ wi : World, wi = wr := ⟨_, rfl⟩
              obtain ⟨q, T2, hq, hk2, rfl, hcl, ho, hT, hc⟩ := hrel
              obtain ⟨A3, c3, rfl, hr3⟩ := Rd.of_own ho
              by_cases hqk : q < k
              · have HRR : Hid (∀ W, Chg (fun _ => False) wi W → Rd (fun _ => True) W A3 T2.length c3 1 (us T2)) := fun W hW => (hr3.move (fun j hj => hW.block j (ho.lt j hj).2 (fun h => h))).any
                obtain ⟨b, off, eA, hbb, hcl2⟩ := rd_us hr3 (by omega)
                cases eA
                have f1 := hcl2 k hk2
                have f2 := hcl2 q (by omega)
                obtain ⟨x, hx⟩ : ∃ x, x = T2.getD k 0 := ⟨_, rfl⟩
                obtain ⟨y, hy⟩ : ∃ y, y = T2.getD q 0 := ⟨_, rfl⟩
                rw [← hx] at f1
                rw [← hy] at f2
                have hgx : Gen ls x := by rw [hx]; exact hcl.gen _ (mem_getD hk2)
                have hgy : Gen ls y := by rw [hy]; exact hcl.gen _ (mem_getD (by omega))
                have hx64 : x < B64 := H64.out x hgx
                have hy64 : y < B64 := H64.out y hgy
                have HGO : Hid (Gen ls (x ||| y)) := gen_or hgx hgy
                have HGA : Hid (Gen ls (x &&& y)) := gen_and hgx hgy
                have q0 := fun p => cell_later f1 p
                have q1 := fun p => cell_later f2 p
                have HX := Lib.hid hx
                have HY := Lib.hid hy
                have HO := Lib.hid ho
                have HCl := Lib.hid hcl
                have HC := Lib.hid hc
                obtain ⟨p, hp⟩ : ∃ p, p = place T2 (x ||| y) := ⟨_, rfl⟩
                have HPM : Hid (0 ≤ p ↔ (x ||| y) ∈ T2) := by rw [hp]; exact place_mem
                have HPl : Hid (∀ W, Chg (fun _ => False) wi W → Calls Try.prog 42 #[.slice (some ⟨b, off, none⟩) T2.length c3, .int .u64 ((x ||| y : Nat) : Int)] W fun e w1 => e = .returned (.int .i64 p) ∧ W = w1) :=
                  fun W hW => by rw [hp]; exact rplace_any T2 (x ||| y) _ T2.length c3 W _ (HRR.out W hW) (by omega)
                have i1 : (k : Int) < (T2.length : Int) := by omega
                have i2 : (q : Int) < (T2.length : Int) := by omega
                clear hr3 hcl2 hbb hx hy hgx hgy ho hcl hc f1 f2 hp
                go_wp2_with fail
                refine wp_region_later (by kernel_rfl) (by kernel_rfl) ?_
                repeat (any_goals (first | go_big_quiet_step ((go_at_call 20; with_reducible exact of_later (rjoin_c x y _ hx64 hy64))) | quiet_step ((go_at_call 20; with_reducible exact of_later (rjoin_c x y _ hx64 hy64)))))
                refine wpQuiet_nil ?_
                intro w9 hw'
                have hc9 : Chg (fun _ => False) wi w9 := by
                  obtain ⟨p, hp⟩ := hw'
                  rw [hp]; exact p.chg
                clear hw'
                have HO9 : Hid (w9.ownsRow w.heap.size 22 1 (.slice (some ⟨b, off, none⟩) T2.length c3) T2.length (us T2)) := own_chg hc9 HO.out (fun _ _ h => h)
                have HC9 : Hid (Chg (fun _ => False) w w9) := HC.out.trans hc9 (fun _ _ h => h)
                have HP9 := Lib.hid (HPl.out w9 hc9)
                have hs9 := HC9.out.size
                clear hc9 HPl HRR HO HC q0 q1
                go_upto_if 59 with (refine HP9.out.mono ?_; rintro e w1' ⟨rfl, rfl⟩)
                go_cut [4] from 42 to 83 (fun s4 wc => ∃ T3 : List Nat, wc.ownsRow w.heap.size 22 1 s4 T3.length (us T3) ∧ T3.length ≤ 17 ∧ Chg (fun _ => False) w wc ∧ Clo ls T3 k q ∧ T3.getD k 0 = x ∧ T3.getD q 0 = y ∧ (x ||| y) ∈ T3 ∧ k < T3.length)
                case first =>
                  by_cases hp0 : p < 0
                  · have hni : Hid ((x ||| y) ∉ T2) := fun h => by have := HPM.out.2 h; omega
                    go_wp2_with (at_builtin; refine ap_one rfl (.tmp 60) (.tmp 62) 37 rfl w.heap.size 22 1 8 (.int .u64 0) Try.underlying37 info_u64 rfl (by decide) (by decide) (.slice (some ⟨b, off, none⟩) T2.length c3) T2.length _ rfl HO9.out #[.int .u64 ((x ||| y : Nat) : Int)] rfl rfl (by simp [Value.oneCell']) (by omega) hs9 ?_; intro v2 w2 o2 g2 r2)
                    go_meet
                    case rel => exact ⟨T2 ++ [x ||| y], by simpa [us] using o2, by rw [List.length_append, List.length_cons, List.length_nil]; omega, HC9.out.of_grown g2 (fun j hj => .inl (HO9.out.lt j hj).1), HCl.out.more hk2 (by omega) hni.out HGO.out, by rw [getD_more hk2, HX.out], by rw [getD_more (by omega), HY.out], by simp, by rw [List.length_append]; omega⟩
                  · have hni : Hid ((x ||| y) ∈ T2) := HPM.out.1 (by omega)
                    go_wp2_with fail
                    go_meet
                    case rel => exact ⟨T2, HO9.out, by omega, HC9.out, HCl.out, HX.out.symm, HY.out.symm, hni.out, hk2⟩
                case rest =>
                  clear HO9 HC9 HP9 HPM HCl HX HY hs9 i1 i2 hT hk2
                  obtain ⟨T3, o3, h17, hc3, hcl3, ex, ey, hin3, hk3⟩ := hcut
                  obtain ⟨A4, c4, rfl, hr4⟩ := Rd.of_own o3
                  have HRR : Hid (∀ W, Chg (fun _ => False) wc W → Rd (fun _ => True) W A4 T3.length c4 1 (us T3)) := fun W hW => (hr4.move (fun j hj => hW.block j (o3.lt j hj).2 (fun h => h))).any
                  obtain ⟨b4, off4, eA, hbb, hcl2⟩ := rd_us hr4 (by omega)
                  cases eA
                  have f1 := hcl2 k hk3
                  have f2 := hcl2 q (by omega)
                  rw [ex] at f1
                  rw [ey] at f2
                  have q0 := fun p => cell_later f1 p
                  have q1 := fun p => cell_later f2 p
                  have HX := Lib.hid ex
                  have HY := Lib.hid ey
                  have HO := Lib.hid o3
                  have HCl := Lib.hid hcl3
                  have HC := Lib.hid hc3
                  have HIN := Lib.hid hin3
                  obtain ⟨p2, hp2⟩ : ∃ p2, p2 = place T3 (x &&& y) := ⟨_, rfl⟩
                  have HPM : Hid (0 ≤ p2 ↔ (x &&& y) ∈ T3) := by rw [hp2]; exact place_mem
                  have HPl : Hid (∀ W, Chg (fun _ => False) wc W → Calls Try.prog 42 #[.slice (some ⟨b4, off4, none⟩) T3.length c4, .int .u64 ((x &&& y : Nat) : Int)] W fun e w1 => e = .returned (.int .i64 p2) ∧ W = w1) :=
                    fun W hW => by rw [hp2]; exact rplace_any T3 (x &&& y) _ T3.length c4 W _ (HRR.out W hW) (by omega)
                  have i1 : (k : Int) < (T3.length : Int) := by omega
                  have i2 : (q : Int) < (T3.length : Int) := by omega
                  clear hr4 hcl2 hbb ex ey o3 hcl3 hc3 hin3 f1 f2 hp2
                  go_wp2_with fail
                  refine wp_region_later (by kernel_rfl) (by kernel_rfl) ?_
                  repeat (any_goals (first | go_big_quiet_step ((go_at_call 22; with_reducible exact of_later (rmeet_c x y _ hx64 hy64))) | quiet_step ((go_at_call 22; with_reducible exact of_later (rmeet_c x y _ hx64 hy64)))))
                  refine wpQuiet_nil ?_
                  intro w9 hw'
                  have hc9 : Chg (fun _ => False) wc w9 := by
                    obtain ⟨p, hp⟩ := hw'
                    rw [hp]; exact p.chg
                  clear hw'
                  have HO9 : Hid (w9.ownsRow w.heap.size 22 1 (.slice (some ⟨b4, off4, none⟩) T3.length c4) T3.length (us T3)) := own_chg hc9 HO.out (fun _ _ h => h)
                  have HC9 : Hid (Chg (fun _ => False) w w9) := HC.out.trans hc9 (fun _ _ h => h)
                  have HP9 := Lib.hid (HPl.out w9 hc9)
                  have hs9 := HC9.out.size
                  clear hc9 HPl HRR HO HC q0 q1
                  go_upto_if 76 with (refine HP9.out.mono ?_; rintro e w1' ⟨rfl, rfl⟩)
                  go_cut [4] from 42 to 83 (fun s4 wc => ∃ T4 : List Nat, wc.ownsRow w.heap.size 22 1 s4 T4.length (us T4) ∧ T4.length ≤ 18 ∧ Chg (fun _ => False) w wc ∧ Clo ls T4 k (q + 1) ∧ k < T4.length)
                  case first =>
                    by_cases hp0 : p2 < 0
                    · have hni : Hid ((x &&& y) ∉ T3) := fun h => by have := HPM.out.2 h; omega
                      go_wp2_with (at_builtin; refine ap_one rfl (.tmp 77) (.tmp 79) 37 rfl w.heap.size 22 1 8 (.int .u64 0) Try.underlying37 info_u64 rfl (by decide) (by decide) (.slice (some ⟨b4, off4, none⟩) T3.length c4) T3.length _ rfl HO9.out #[.int .u64 ((x &&& y : Nat) : Int)] rfl rfl (by simp [Value.oneCell']) (by omega) hs9 ?_; intro v2 w2 o2 g2 r2)
                      go_meet
                      case rel => exact ⟨T3 ++ [x &&& y], by simpa [us] using o2, by rw [List.length_append, List.length_cons, List.length_nil]; omega, HC9.out.of_grown g2 (fun j hj => .inl (HO9.out.lt j hj).1), (HCl.out.more hk3 (by omega) hni.out HGA.out).step (by rw [getD_more hk3, getD_more (by omega), HX.out, HY.out]; exact List.mem_append_left _ HIN.out) (by rw [getD_more hk3, getD_more (by omega), HX.out, HY.out]; simp), by rw [List.length_append]; omega⟩
                    · have hni : Hid ((x &&& y) ∈ T3) := HPM.out.1 (by omega)
                      go_wp2_with fail
                      go_meet
                      case rel => exact ⟨T3, HO9.out, by omega, HC9.out, HCl.out.step (by rw [HX.out, HY.out]; exact HIN.out) (by rw [HX.out, HY.out]; exact hni.out), hk3⟩
                  case rest =>
                    clear HO9 HC9 HP9 HPM HCl HX HY HIN hs9 i1 i2 h17 hk3
                    obtain ⟨T4, o4, h18, hc4, hcl4, hk4⟩ := hcut
                    obtain ⟨A5, c5, rfl, -⟩ := Rd.of_own o4
                    have HO := Lib.hid o4
                    have HCl := Lib.hid hcl4
                    have HC := Lib.hid hc4
                    clear o4 hcl4 hc4
                    by_cases h16 : T4.length ≤ 16
                    · have i1 : decide ((16 : Int) < (T4.length : Int)) = false := decide_eq_false (by omega)
                      go_wp2
                      go_roundw
                      case rel => exact ⟨q + 1, T4, hqk, hk4, by go_num, HCl.out, HO.out, h16, HC.out⟩
                      case measure => simp [intOf]; omega
                    · have i1 : decide ((16 : Int) < (T4.length : Int)) = true := decide_eq_true (by omega)
                      have hbig : Hid (Big ls) := ⟨T4, HCl.out.nodup, by omega, HCl.out.gen⟩
                      go_wp2
                      exact bodyPost_ret (v := .tuple #[.slice none 0 0, .int .i64 10]) (by simp [results, Try.results37, go_sem]) rfl (.inl ⟨rfl, .inr hbig.out, HC.out⟩)
              · have hqk2 : q = k := by omega
                subst hqk2
                have HO := Lib.hid ho
                have HCl := Lib.hid hcl.row
                have HC := Lib.hid hc
                clear hr3 ho hcl hc
                go_wp2
                go_roundw
                case rel => exact ⟨q + 1, T2, hk2, by go_num, HCl.out, HO.out, hT, HC.out⟩
                case measure => simp [intOf]; omega
          · have hkT : k = T.length := by omega
            subst hkT
            have HD := Lib.hid hcl.done
            have HND := Lib.hid hcl.nodup
            have HRI := Lib.hid (rising_any T A1 T.length c1 wo _ hr1 (fun j hj => (ho.lt j hj).2) (by omega))
            clear hr1 ho hcl hc HCl
            go_wp2_with fail
            refine HRI.out.mono ?_
            rintro e w2 ⟨A2, c2, cs, rfl, h1, h2, h3, h4⟩
            have HE : Hid (RCloseEnd ls w (.returned (.tuple #[.slice A2 cs.length c2, .int .i64 0])) w2) :=
              .inr ⟨A2, c2, cs, rfl, HNE.out, ⟨h2, h1.nodup_iff.2 HND.out, fun x => (h1.mem_iff).trans (HD.out x), by rw [h1.length_eq]; exact hT⟩, h3.mono (fun j hj => ⟨Nat.le_trans HC.out.size hj.1, hj.2⟩), HC.out.trans h4 (fun _ _ h => h)⟩
            clear h1 h2 h3 h4
            go_wp2
            go_ret2
            exact HE.out
end Go.Proofs.Ytdfplhoijapoeaa.Lrc
