/- slices.Collect and slices.Sorted over a map's keys (at most twelve, one at least). Conditions: a map as ownsMap tells it. -/
import Derived.Test.YtdfplhoijapoeaaLkc
set_option linter.unusedVariables false
set_option linter.unusedSimpArgs false
namespace Go.Proofs.Ytdfplhoijapoeaa.Lks
open Go.RowKit Go.Maps Go.Sort Go.Proofs.Ytdfplhoijapoeaa.Lib1 Go.Proofs.Ytdfplhoijapoeaa.Lck Go.Proofs.Ytdfplhoijapoeaa.Iter Go.Proofs.Ytdfplhoijapoeaa.Ki Go.Proofs.Ytdfplhoijapoeaa.Kj Go.Proofs.Ytdfplhoijapoeaa.Lkc Go.Proofs.Ytdfplhoijapoeaa.Lis Go.Proofs.Ytdfplhoijapoeaa.Lso

def keysF (Bm : Nat) : Value := .func (.func 74) #[] #[.pointer (some ⟨Bm, 0, none⟩)]
def IsKeys {H : Type} (D : DataW H) (ss : List Nat) : Prop := (ss.Nodup ∧ ∀ x : Nat, x ∈ ss ↔ has D (kl x) = true) ∧ ss.length ≤ Maps.size D

set_option maxRecDepth 100000 in
theorem collect_any {H : Type} (Bm b nn : Nat) (D : DataW H) {R : Value → Option (DataW H × List MemPlace)} (w : World) (hm : w.cell? ⟨Bm, 0, none⟩ = some (.map (some b))) (hown : w.ownsMap Try.prog 23 R b nn D) (hN : Maps.size D ≤ 17592186043904) :
    Calls Try.prog 72 #[keysF Bm] w fun e w' => ∃ v ss, e = .returned v ∧ IsKeys D ss ∧ w'.ownsRow w.heap.size 23 1 v ss.length (us ss) ∧ Chg (fun _ => False) w w' := by
  have HA := Lib.hid (appendSeq_any Bm b nn D w hm hown hN)
  unfold keysF
  go_enter Try.func72, Try.ntmps72
  go_wp2_with fail
  refine HA.out.mono ?_
  rintro e w' ⟨v, ss, rfl, h1, h2, h3, h4⟩
  go_wp2
  go_ret
  exact ⟨v, ss, rfl, ⟨h1, h2⟩, h3, h4⟩

/-- The keys, ascending, in a row of the call's own. -/
def Asc {H : Type} (D : DataW H) (w : World) (v : Value) (w' : World) : Prop :=
  ∃ g c cs, v = .slice (some ⟨g, 0, none⟩) cs.length c ∧ IsKeys D cs ∧ Srt cs cs.length ∧ Rd (fun k => k = g) w' (some ⟨g, 0, none⟩) cs.length c 1 (us cs) ∧ w.heap.size ≤ g ∧ Chg (fun _ => False) w w'

set_option maxRecDepth 100000 in
set_option maxHeartbeats 1600000 in
theorem sorted_any {H : Type} (Bm b nn : Nat) (D : DataW H) {R : Value → Option (DataW H × List MemPlace)} (w : World) (hm : w.cell? ⟨Bm, 0, none⟩ = some (.map (some b))) (hown : w.ownsMap Try.prog 23 R b nn D) (hN : Maps.size D ≤ 12) (x0 : Nat) (hx0 : has D (kl x0) = true) :
    Calls Try.prog 61 #[keysF Bm] w fun e w' => ∃ v, e = .returned v ∧ Asc D w v w' := by
  have HA := Lib.hid (collect_any Bm b nn D w hm hown (by omega))
  unfold keysF at HA ⊢
  go_enter Try.func61, Try.ntmps61
  go_wp2_with fail
  refine HA.out.mono ?_
  rintro e w1 ⟨v, ss, rfl, hk, ho, hc⟩
  rcases ho.2 with ⟨rfl, hz⟩ | ⟨g, c, cur, rfl, hb, hg, hn, hcm, hs, ht⟩
  · have : x0 ∈ ss := (hk.1.2 x0).2 hx0
    rw [List.eq_nil_of_length_eq_zero hz] at this
    cases this
  · have hsa : SA cur ss := fun q hq => by
      have h1 := congrArg (fun l : List Value => l[q]?) ht
      simp only [Nat.mul_one] at h1
      rw [List.getElem?_take_of_lt hq, us_get hq] at h1
      rwa [Array.getElem?_toList] at h1
    have HS := Lib.hid (sort_small (c := c) ss hg hsa (by have := hk.2; omega))
    have HG : Hid (IsKeys D ss ∧ w.heap.size ≤ g ∧ Chg (fun _ => False) w w1 ∧ ss.length ≤ c) := ⟨hk, hb, hc, hn⟩
    clear hk ho hc hb hg ht hsa hs hcm hn HA hm hown
    go_wp2_with fail
    refine HS.out.mono ?_
    rintro e w2 ⟨rfl, arr, cs, h1, h2, h3, h4, h5, h6⟩
    have HQ : Hid (w2.heap[g]? = some (.cells arr 23 (0, 0)) ∧ SA arr cs ∧ cs.length = ss.length ∧ cs.Perm ss ∧ Srt cs ss.length ∧ Chg (fun q => q = g) w1 w2) := ⟨h1, h2, h3, h4, h5, h6⟩
    clear h1 h2 h3 h4 h5 h6
    go_wp2
    go_ret
    obtain ⟨hk, hb, hc, hn⟩ := HG.out
    obtain ⟨h1, h2, h3, h4, h5, h6⟩ := HQ.out
    refine ⟨.slice (some ⟨g, 0, none⟩) ss.length c, rfl, g, c, cs, by rw [h3], ⟨⟨(h4.nodup_iff).2 hk.1.1, fun x => by rw [h4.mem_iff]; exact hk.1.2 x⟩, by rw [h3]; exact hk.2⟩, by rw [h3]; exact h5, ⟨by simp [us], by omega, fun h => (by cases h), fun _ => ⟨g, 0, rfl, rfl, fun j u hu => ?_⟩⟩, hb, ⟨h6.os.trans hc.os, h6.tape.trans hc.tape, h6.output.trans hc.output, Nat.le_trans hc.size h6.size, fun k hk hn => (h6.block k (Nat.lt_of_lt_of_le hk hc.size) (by omega)).trans (hc.block k hk hn)⟩⟩
    have hj : j < cs.length := by
      have := (List.getElem?_eq_some_iff.1 hu).1
      simpa [us] using this
    rw [Nat.zero_add]
    refine cell_at h1 j ?_
    rw [h2 j hj, ← us_get hj, hu]
end Go.Proofs.Ytdfplhoijapoeaa.Lks
