/- slices.Sorted over a map's keys, however many (one at least; and none). Conditions: a map as ownsMap tells it. -/
import Derived.Test.YtdfplhoijapoeaaSi
import Derived.Test.YtdfplhoijapoeaaLks
set_option linter.unusedVariables false
set_option linter.unusedSimpArgs false
namespace Go.Proofs.Ytdfplhoijapoeaa.Lsj
open Go.RowKit Go.Maps Go.Sort Go.Proofs.Ytdfplhoijapoeaa.Lib1 Go.Proofs.Ytdfplhoijapoeaa.Lck Go.Proofs.Ytdfplhoijapoeaa.Iter Go.Proofs.Ytdfplhoijapoeaa.Ki Go.Proofs.Ytdfplhoijapoeaa.Kj Go.Proofs.Ytdfplhoijapoeaa.Lkc Go.Proofs.Ytdfplhoijapoeaa.Lis Go.Proofs.Ytdfplhoijapoeaa.Lso Go.Proofs.Ytdfplhoijapoeaa.Lks Go.Proofs.Ytdfplhoijapoeaa.Lsi2

set_option maxRecDepth 100000 in
set_option maxHeartbeats 1600000 in
theorem sorted_all {H : Type} (Bm b nn : Nat) (D : DataW H) {R : Value → Option (DataW H × List MemPlace)} (w : World) (hm : w.cell? ⟨Bm, 0, none⟩ = some (.map (some b))) (hown : w.ownsMap Try.prog 23 R b nn D) (hN : Maps.size D ≤ 17592186043904) (x0 : Nat) (hx0 : has D (kl x0) = true) :
    Calls Try.prog 61 #[keysF Bm] w fun e w' => ∃ v, e = .returned v ∧ Asc D w v w' := by
  have HA := Lib.hid (collect_any Bm b nn D w hm hown (by omega))
  unfold keysF at HA ⊢
  go_enter Try.func61, Try.ntmps61
  go_wp2_with fail
  refine HA.out.mono ?_
  rintro e w1 ⟨v, ss, rfl, hk, ho, hc⟩
  rcases ho.2 with ⟨rfl, hz⟩ | ⟨g, c, cur, rfl, hb, hg, hn, hcm, hs, ht⟩
  · have : x0 ∈ ss := (hk.1.2 x0).2 hx0
    rw [List.eq_nil_of_length_eq_zero hz] at this
    cases this
  · have hsa : SA cur ss := fun q hq => by
      have h1 := congrArg (fun l : List Value => l[q]?) ht
      simp only [Nat.mul_one] at h1
      rw [List.getElem?_take_of_lt hq, us_get hq] at h1
      rwa [Array.getElem?_toList] at h1
    have HS := Lib.hid (sort_all (c := c) ss hg hsa (by have := hk.2; omega))
    have HG : Hid (IsKeys D ss ∧ w.heap.size ≤ g ∧ Chg (fun _ => False) w w1 ∧ ss.length ≤ c) := ⟨hk, hb, hc, hn⟩
    clear hk ho hc hb hg ht hsa hs hcm hn HA hm hown
    go_wp2_with fail
    refine HS.out.mono ?_
    rintro e w2 ⟨rfl, arr, cs, h1, h2, h3, h4, h5, h6⟩
    have HQ : Hid (w2.heap[g]? = some (.cells arr 23 (0, 0)) ∧ SA arr cs ∧ cs.length = ss.length ∧ cs.Perm ss ∧ Srt cs ss.length ∧ Chg (fun q => q = g) w1 w2) := ⟨h1, h2, h3, h4, h5, h6⟩
    clear h1 h2 h3 h4 h5 h6
    go_wp2
    go_ret
    obtain ⟨hk, hb, hc, hn⟩ := HG.out
    obtain ⟨h1, h2, h3, h4, h5, h6⟩ := HQ.out
    refine ⟨.slice (some ⟨g, 0, none⟩) ss.length c, rfl, g, c, cs, by rw [h3], ⟨⟨(h4.nodup_iff).2 hk.1.1, fun x => by rw [h4.mem_iff]; exact hk.1.2 x⟩, by rw [h3]; exact hk.2⟩, by rw [h3]; exact h5, ⟨by simp [us], by omega, fun h => (by cases h), fun _ => ⟨g, 0, rfl, rfl, fun j u hu => ?_⟩⟩, hb, ⟨h6.os.trans hc.os, h6.tape.trans hc.tape, h6.output.trans hc.output, Nat.le_trans hc.size h6.size, fun k hk hn => (h6.block k (Nat.lt_of_lt_of_le hk hc.size) (by omega)).trans (hc.block k hk hn)⟩⟩
    have hj : j < cs.length := by
      have := (List.getElem?_eq_some_iff.1 hu).1
      simpa [us] using this
    rw [Nat.zero_add]
    refine cell_at h1 j ?_
    rw [h2 j hj, ← us_get hj, hu]
set_option maxRecDepth 100000 in
set_option maxHeartbeats 1600000 in
theorem sorted_own {H : Type} (Bm b nn : Nat) (D : DataW H) {R : Value → Option (DataW H × List MemPlace)} (w : World) (hm : w.cell? ⟨Bm, 0, none⟩ = some (.map (some b))) (hown : w.ownsMap Try.prog 23 R b nn D) (hN : Maps.size D ≤ 17592186043904) (x0 : Nat) (hx0 : has D (kl x0) = true) :
    Calls Try.prog 61 #[keysF Bm] w fun e w' => ∃ g c cs, e = .returned (.slice (some ⟨g, 0, none⟩) cs.length c) ∧ IsKeys D cs ∧ Srt cs cs.length ∧ w'.ownsRow w.heap.size 23 1 (.slice (some ⟨g, 0, none⟩) cs.length c) cs.length (us cs) ∧ Chg (fun _ => False) w w' := by
  have HA := Lib.hid (collect_any Bm b nn D w hm hown (by omega))
  unfold keysF at HA ⊢
  go_enter Try.func61, Try.ntmps61
  go_wp2_with fail
  refine HA.out.mono ?_
  rintro e w1 ⟨v, ss, rfl, hk, ho, hc⟩
  rcases ho.2 with ⟨rfl, hz⟩ | ⟨g, c, cur, rfl, hb, hg, hn, hcm, hs, ht⟩
  · have : x0 ∈ ss := (hk.1.2 x0).2 hx0
    rw [List.eq_nil_of_length_eq_zero hz] at this
    cases this
  · have hsa : SA cur ss := fun q hq => by
      have h1 := congrArg (fun l : List Value => l[q]?) ht
      simp only [Nat.mul_one] at h1
      rw [List.getElem?_take_of_lt hq, us_get hq] at h1
      rwa [Array.getElem?_toList] at h1
    have HS := Lib.hid (sort_full (c := c) ss hg hsa (by have := hk.2; omega))
    have HG : Hid (IsKeys D ss ∧ w.heap.size ≤ g ∧ Chg (fun _ => False) w w1 ∧ ss.length ≤ c ∧ c ≤ maxLen ∧ cur.size = c * 1) := ⟨hk, hb, hc, hn, hcm, hs⟩
    clear hk ho hc hb hg ht hsa hs hcm hn HA hm hown
    go_wp2_with fail
    refine HS.out.mono ?_
    rintro e w2 ⟨rfl, arr, cs, h1, h2, h3, h4, h5, h6, h7⟩
    have HQ : Hid (w2.heap[g]? = some (.cells arr 23 (0, 0)) ∧ SA arr cs ∧ cs.length = ss.length ∧ cs.Perm ss ∧ Srt cs ss.length ∧ Chg (fun q => q = g) w1 w2 ∧ arr.size = cur.size) := ⟨h1, h2, h3, h4, h5, h6, h7⟩
    clear h1 h2 h3 h4 h5 h6 h7
    go_wp2
    go_ret
    obtain ⟨hk, hb, hc, hn, hcm, hsz⟩ := HG.out
    obtain ⟨h1, h2, h3, h4, h5, h6, h7⟩ := HQ.out
    refine ⟨g, c, cs, by rw [h3]; rfl, ⟨⟨(h4.nodup_iff).2 hk.1.1, fun x => by rw [h4.mem_iff]; exact hk.1.2 x⟩, by rw [h3]; exact hk.2⟩, by rw [h3]; exact h5, ⟨by simp [us], .inr ⟨g, c, arr, rfl, hb, h1, by omega, hcm, by rw [h7, hsz], ?_⟩⟩, ⟨h6.os.trans hc.os, h6.tape.trans hc.tape, h6.output.trans hc.output, Nat.le_trans hc.size h6.size, fun k hk hn => (h6.block k (Nat.lt_of_lt_of_le hk hc.size) (by omega)).trans (hc.block k hk hn)⟩⟩
    apply List.ext_getElem?
    intro j
    rw [Nat.mul_one, List.getElem?_take]
    split
    · rename_i hj
      rw [us_get hj]
      have := h2 j hj
      simpa using this
    · rename_i hj
      rw [List.getElem?_eq_none (by rw [us_len]; omega)]
set_option maxRecDepth 100000 in
set_option maxHeartbeats 1600000 in
theorem sorted_none {H : Type} (Bm b nn : Nat) (D : DataW H) {R : Value → Option (DataW H × List MemPlace)} (w : World) (hm : w.cell? ⟨Bm, 0, none⟩ = some (.map (some b))) (hown : w.ownsMap Try.prog 23 R b nn D) (hN : Maps.size D = 0) :
    Calls Try.prog 61 #[keysF Bm] w fun e w' => (∃ A c, e = .returned (.slice A 0 c)) ∧ Chg (fun _ => False) w w' := by
  have HA := Lib.hid (collect_any Bm b nn D w hm hown (by omega))
  unfold keysF at HA ⊢
  go_enter Try.func61, Try.ntmps61
  go_wp2_with fail
  refine HA.out.mono ?_
  rintro e w1 ⟨v, ss, rfl, hk, ho, hc⟩
  obtain rfl : ss = [] := List.eq_nil_of_length_eq_zero (by have := hk.2; omega)
  obtain ⟨A, c, rfl, -⟩ := Rd.of_own ho
  have HC := Lib.hid hc
  clear hc ho hk HA hm hown
  go_wp2_with fail
  refine (sort_nil A c _).mono ?_
  rintro e w' ⟨rfl, rfl⟩
  go_wp2
  go_ret
  exact ⟨⟨_, _, rfl⟩, HC.out⟩
end Go.Proofs.Ytdfplhoijapoeaa.Lsj
