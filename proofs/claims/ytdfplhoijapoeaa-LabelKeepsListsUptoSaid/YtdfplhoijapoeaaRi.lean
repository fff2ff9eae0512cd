/- The document's Rising, by contract. Conditions: the row reads so. -/
import Derived.Test.YtdfplhoijapoeaaCm
import Derived.Test.YtdfplhoijapoeaaRu
set_option linter.unusedVariables false
set_option linter.unusedSimpArgs false
namespace Go.Proofs.Ytdfplhoijapoeaa.Lri
open Go.RowKit Go.Proofs.Ytdfplhoijapoeaa.Lib1 Go.Proofs.Ytdfplhoijapoeaa.Lat Go.Proofs.Ytdfplhoijapoeaa.Lbl Go.Proofs.Ytdfplhoijapoeaa.Lbw Go.Proofs.Ytdfplhoijapoeaa.Lck Go.Proofs.Ytdfplhoijapoeaa.Lpl Go.Proofs.Ytdfplhoijapoeaa.Lis Go.Proofs.Ytdfplhoijapoeaa.Lcm

theorem us_one (ls : List Nat) : ∀ u ∈ us ls, u.oneCell' = true := fun u hu => by
  unfold us at hu
  obtain ⟨x, _, rfl⟩ := List.mem_map.1 hu
  rfl
/-- A row of one's own that is sorted in place: its cells. -/
theorem sa_of_own {w : World} {g : Nat} {cur : Array Value} {ls : List Nat} (ht : List.take (ls.length * 1) cur.toList = us ls) : SA cur ls := fun q hq => by
  have h1 := congrArg (fun l : List Value => l[q]?) ht
  simp only [Nat.mul_one] at h1
  rw [List.getElem?_take_of_lt hq, us_get hq] at h1
  rwa [Array.getElem?_toList] at h1
theorem rd_of_sa {w : World} {g c : Nat} {arr : Array Value} {T : TypeId} {cs : List Nat} (h1 : w.heap[g]? = some (.cells arr T (0, 0))) (h2 : SA arr cs) (hc : cs.length ≤ c) : Rd (fun k => k = g) w (some ⟨g, 0, none⟩) cs.length c 1 (us cs) :=
  ⟨by simp [us], hc, fun h => (by cases h), fun _ => ⟨g, 0, rfl, rfl, fun j u hu => by
    have hj : j < cs.length := by
      have := (List.getElem?_eq_some_iff.1 hu).1
      simpa [us] using this
    rw [Nat.zero_add]
    refine cell_at h1 j ?_
    rw [h2 j hj, ← us_get hj, hu]⟩⟩
/-- What Rising answers. -/
def RisEnd (ls : List Nat) (w : World) (e : Ending) (w' : World) : Prop :=
  ∃ A c cs, e = .returned (.slice A cs.length c) ∧ cs.Perm ls ∧ Srt cs cs.length ∧ Rd (fun k => w.heap.size ≤ k ∧ k < w'.heap.size) w' A cs.length c 1 (us cs) ∧ Chg (fun _ => False) w w'
set_option maxRecDepth 100000 in
set_option maxHeartbeats 3200000 in
theorem rising_any (ls : List Nat) (A : Option Addr) (n c : Nat) (w : World) (ok : Nat → Prop) (h : Rd ok w A n c 1 (us ls)) (hok : ∀ k, ok k → k < w.heap.size) (hf : n * 8 ≤ 140737488351232) :
    Calls Try.prog 66 #[.slice A n c] w fun e w' => RisEnd ls w e w' := by
  have HL : Hid (ls.length = n) := by have := h.len; rw [us_len] at this; show _ = _; omega
  have HR := Lib.hid h.any
  have HO := Lib.hid (us_one ls)
  clear h hok
  go_enter Try.func66, Try.ntmps66
  go_wp2_with (at_builtin; refine ap_src rfl (Operand.const (.slice none 0 0)) (.tmp 6) 37 rfl w.heap.size 22 1 8 (.int .u64 0) Try.underlying37 info_u64 rfl (by decide) (by decide) (.slice none 0 0) 0 [] rfl (World.ownsRow_nil _ _ _ _) A n c (us ls) rfl HR.out HO.out (by omega) (Nat.le_refl _) ?_; intro v1 w1 o1 g1 r1)
  have HC1 : Hid (Chg (fun _ => False) w w1) := (Chg.refl _ w).of_grown g1 (fun k hk => by simp [Value.ownBlock] at hk)
  rw [Nat.zero_add, List.nil_append] at o1
  rcases o1.2 with ⟨rfl, hz⟩ | ⟨g, c1, cur, rfl, hb, hg, hn, hcm, hs, ht⟩
  · subst hz
    have : ls = [] := List.eq_nil_of_length_eq_zero HL.out
    subst this
    clear o1 g1 r1
    go_wp2
    refine wp_loop_rounds 1 ?_
    rw [rounds_succ]
    go_wp2
    go_ret
    exact ⟨none, 0, [], rfl, List.Perm.refl _, fun p q _ h => by simp at h, ⟨rfl, Nat.le_refl _, fun _ => rfl, fun h => absurd h (Nat.lt_irrefl _)⟩, HC1.out⟩
  · have hnl := HL.out
    subst hnl
    have HS := Lib.hid (sa_of_own (w := w) (g := g) ht)
    have HG := Lib.hid hg
    have HB := Lib.hid hb
    have HN := Lib.hid hn
    clear o1 g1 r1 hb hg hn hcm hs ht
    go_wp2
    go_loopw [4, 5] (fun i u7 wr => InsRel g 22 ls w1 i wr) (fun i _ _ => ls.length - (intOf i).toNat)
    case atStart => exact ⟨1, cur, ls, Nat.le_refl _, rfl, .inr rfl, HG.out, HS.out, rfl, List.Perm.refl _, fun p q h1 h2 => by omega, Chg.refl _ _⟩
    case round =>
      obtain ⟨wo, rfl⟩ : ∃ wo : World, wo = wr := ⟨_, rfl⟩
      obtain ⟨k, arr1, cs1, hk1, rfl, hk2, hb, ha, hl, hp, hs, hc⟩ := hrel
      have HB1 := Lib.hid hb
      have HA1 := Lib.hid ha
      have HL1 := Lib.hid hl
      have HP1 := Lib.hid hp
      have HS1 := Lib.hid hs
      have HCC := Lib.hid hc
      clear hb ha hl hp hs hc
      by_cases hlt : k < ls.length
      · go_wp2
        go_loopw [5] (fun j wr => InnRel g 22 ls k w1 j wr) (fun j _ => (intOf j).toNat)
        case atStart => exact ⟨k, arr1, cs1, Nat.le_refl _, rfl, HB1.out, HA1.out, HL1.out, HP1.out, Mid.start HS1.out, HCC.out⟩
        case round =>
          obtain ⟨wi, rfl⟩ : ∃ wi : World, wi = wr := ⟨_, rfl⟩
          obtain ⟨m, arr2, cs2, hm, rfl, hb, ha, hl, hp, hs, hc⟩ := hrel
          have HL2 := Lib.hid hl
          have HP2 := Lib.hid hp
          have HS2 := Lib.hid hs
          have HC2 := Lib.hid hc
          have HB2 := Lib.hid hb
          have HA2 := Lib.hid ha
          rcases m with _ | j
          · have HSr : Hid (Srt cs2 (k + 1)) := hs.stop0
            have e0 : decide ((0 : Int) < 0) = false := by decide
            clear hb ha hl hp hs hc
            simp only [Int.natCast_zero]
            go_wp2_with fail
            go_quiet (fail)
            go_wp2
            go_roundw
            case rel => exact ⟨k + 1, arr2, cs2, by omega, by go_num, .inl (by omega), HB2.out, HA2.out, HL2.out, HP2.out, HSr.out, HC2.out.drewN _⟩
            case measure => simp [intOf]; omega
          · have hjl : j + 1 < cs2.length := by omega
            have q0 := cell_at hb j (ha j (by omega))
            have q1 := cell_at hb (j + 1) (ha (j + 1) hjl)
            have q2 := free_at hb
            have HJL := Lib.hid hjl
            have HGe : Hid (¬ cs2.getD (j + 1) 0 < cs2.getD j 0 → Srt cs2 (k + 1)) := fun h => hs.stop h hm
            have HLt : Hid (cs2.getD (j + 1) 0 < cs2.getD j 0 → Mid (swp cs2 j) k j) := fun h => hs.step hjl hm h
            have HSw := Lib.hid (ha.swp hjl)
            clear hb ha hl hp hs hc hjl
            generalize hx : cs2.getD j 0 = x at *
            generalize hy : cs2.getD (j + 1) 0 = y at *
            clear hx hy
            have i1 : (j : Int) + 1 < (ls.length : Int) := by omega
            have i2 : (j : Int) < (ls.length : Int) := by omega
            have i0 : (0 : Int) ≤ (j : Int) := by omega
            have e0 : decide ((0 : Int) < (j : Int) + 1) = true := by rw [decide_eq_true_eq]; omega
            by_cases hxy : y < x
            · have hd : decide ((y : Int) < (x : Int)) = true := by simpa using hxy
              have hd2 : decide (y < x) = true := by simpa using hxy
              have HM := Lib.hid (HLt.out hxy)
              clear hxy
              rw [show ((j + 1 : Nat) : Int) = (j : Int) + 1 from rfl]
              go_wp2_with fail
              go_quiet (fail)
              go_wp2_with fail
              go_region
              go_wp2
              go_roundw
              case rel => exact ⟨j, _, swp cs2 j, by omega, rfl, heap_set (heap_set (w := wi) HB2.out (j + 1) _) j _, HSw.out, by rw [swp_len]; exact HL2.out, (swp_perm cs2 j HJL.out).trans HP2.out, HM.out, ((HC2.out.drewN _).set (.inr rfl)).set (.inr rfl)⟩
              case measure => simp [intOf]
            · have hd : decide ((y : Int) < (x : Int)) = false := by simpa using hxy
              have hd2 : decide (y < x) = false := by simpa using hxy
              have HSr := Lib.hid (HGe.out hxy)
              clear hxy
              rw [show ((j + 1 : Nat) : Int) = (j : Int) + 1 from rfl]
              go_wp2_with fail
              go_quiet (fail)
              go_wp2
              go_roundw
              case rel => exact ⟨k + 1, arr2, cs2, by omega, by go_num, .inl (by omega), HB2.out, HA2.out, HL2.out, HP2.out, HSr.out, HC2.out.drewN _⟩
              case measure => simp [intOf]; omega
      · have HSr : Hid (Srt cs1 ls.length) := fun p q h1 h2 => HS1.out p q h1 (by omega)
        go_wp2
        go_ret
        refine ⟨some ⟨g, 0, none⟩, c1, cs1, by rw [HL1.out]; rfl, HP1.out, by rw [HL1.out]; exact HSr.out, (rd_of_sa HB1.out HA1.out (by rw [HL1.out]; exact HN.out)).mono (fun k hk => by subst hk; exact ⟨HB.out, lt_of _ HB1.out⟩), HC1.out.trans HCC.out (fun k hk e => by subst e; have := HB.out; omega)⟩
end Go.Proofs.Ytdfplhoijapoeaa.Lri
