/- slices.Collect, slices.Sort, slices.Sorted of floats that are not below 0. Conditions: the row reads so, one at least. -/
import Derived.Test.YtecppcgleidhkaaTv
set_option linter.unusedVariables false
set_option linter.unusedSimpArgs false
namespace Go.Proofs.Ytecppcgleidhkaa.Tv
open Go.RowKit Go.Sort Go.Proofs.Ytecppcgleidhkaa.Lib1 Go.Proofs.Ytecppcgleidhkaa.Iter Go.Proofs.Ytecppcgleidhkaa.Gw Go.Proofs.Ytecppcgleidhkaa.Fl Go.Proofs.Ytecppcgleidhkaa.Gp Go.Proofs.Ytecppcgleidhkaa.Lq

theorem collect_any (Bv : Nat) (A : Option Addr) (c : Nat) (xs : List Nat) (w : World) (hm : w.cell? ⟨Bv, 0, none⟩ = some (.slice A xs.length c)) (hr : Rd (fun k => k < w.heap.size) w A xs.length c 1 (fs xs)) (hN : xs.length ≤ 17592186043904) :
    Calls Try.prog 39 #[.func (.func 41) #[] #[.pointer (some ⟨Bv, 0, none⟩)]] w fun e w' =>
      ∃ v, e = .returned v ∧ w'.ownsRow w.heap.size 23 1 v xs.length (fs xs) ∧ Chg (fun _ => False) w w' := by
  have HA := Lib.hid (appendSeq_any Bv A c xs w hm hr hN)
  clear hm hr hN
  go_enter Try.func39, Try.ntmps39
  go_wp2_with fail
  refine HA.out.mono ?_
  rintro e w1 ⟨v, rfl, h1, h2⟩
  have H1 := Lib.hid h1
  have H2 := Lib.hid h2
  clear h1 h2 HA
  go_wp2
  go_ret
  exact ⟨_, rfl, H1.out, H2.out⟩

def zs (ls : List Nat) : List Int := ls.map fun (x : Nat) => (x : Int)
theorem clip_nat {x : Nat} (h : x < INF) : clip (x : Int) = x := by
  unfold clip; rw [Int.toNat_natCast, if_pos h]
/-- The list sorted. -/
def srt (ls : List Nat) : List Nat := (Sort.sort ltF (zs ls).toArray).toList.map clip
theorem srt_raw (ls : List Nat) : (Sort.sort ltF (zs ls).toArray).size = ls.length ∧ (Sort.sort ltF (zs ls).toArray).toList.Perm (zs ls) := by
  obtain ⟨⟨h1, -, h3⟩, -⟩ := sort_sorts ltF swo_ltF (zs ls).toArray
  have hl : (zs ls).toArray.size = ls.length := by simp [zs]
  refine ⟨h1.trans hl, ?_⟩
  have e1 : (zs ls).toArray.extract 0 (zs ls).toArray.size = (zs ls).toArray := Array.extract_size
  have e2 : (Sort.sort ltF (zs ls).toArray).extract 0 (zs ls).toArray.size = Sort.sort ltF (zs ls).toArray := by rw [← h1]; exact Array.extract_size
  rw [e1, e2] at h3
  simpa using h3
theorem srt_perm {ls : List Nat} (h : ∀ x ∈ ls, x < INF) : (srt ls).Perm ls := by
  have h2 := (srt_raw ls).2.map clip
  have : (zs ls).map clip = ls := by
    unfold zs
    rw [List.map_map]
    conv => rhs; rw [← List.map_id ls]
    exact List.map_congr_left (fun x hx => clip_nat (h x hx))
  rw [this] at h2
  exact h2
theorem srt_len (ls : List Nat) : (srt ls).length = ls.length := by
  unfold srt; rw [List.length_map, Array.length_toList]; exact (srt_raw ls).1
theorem srt_get (ls : List Nat) (j : Nat) (h : j < ls.length) : clip (Sort.sort ltF (zs ls).toArray)[j]! = (srt ls).getD j 0 := by
  have hl : j < (Sort.sort ltF (zs ls).toArray).size := by rw [(srt_raw ls).1]; exact h
  rw [getElem!_pos (Sort.sort ltF (zs ls).toArray) j hl]
  simp [srt, List.getD_eq_getElem?_getD, hl]
theorem srt_sorted (ls : List Nat) : ∀ p q, p < q → q < ls.length → (srt ls).getD p 0 ≤ (srt ls).getD q 0 := by
  obtain ⟨-, h⟩ := sort_sorts ltF swo_ltF (zs ls).toArray
  intro p q hpq hq
  have := h p q (Nat.zero_le _) hpq (by simpa [zs] using hq)
  have h2 : ¬ clip (Sort.sort ltF (zs ls).toArray)[q]! < clip (Sort.sort ltF (zs ls).toArray)[p]! := of_decide_eq_false this
  have this := Nat.not_lt.1 h2
  rwa [srt_get ls p (by omega), srt_get ls q hq] at this
theorem putCells_get (d : Array Int) (c : Array Value) (k : Nat) : (putCells encU 0 d c)[k]? = if k < d.size then (if k < c.size then some (encU d[k]!) else none) else c[k]? := by
  simp only [putCells, Array.getElem?_mapIdx, Nat.zero_le, true_and, Nat.zero_add, Nat.sub_zero]
  by_cases h : k < d.size
  · simp only [h, if_true]
    by_cases h2 : k < c.size
    · simp [h2]
    · simp [h2, Array.getElem?_eq_none (Nat.le_of_not_lt h2)]
  · simp only [h, if_false]
    cases c[k]? <;> rfl
theorem sort_full {w : World} {g T c : Nat} {arr : Array Value} (ls : List Nat) (hb : w.heap[g]? = some (.cells arr T (0, 0))) (ha : ∀ (j x : Nat), ls[j]? = some x → arr[j]? = some (Value.float .f64 x)) (hI : ∀ x ∈ ls, x < INF) (hn : ls.length < 4611686018427387904) :
    Calls Try.prog 40 #[.slice (some ⟨g, 0, none⟩) ls.length c] w fun e w' => e = .returned (.tuple #[]) ∧ ∃ (arr' : Array Value), w'.heap[g]? = some (.cells arr' T (0, 0)) ∧ (∀ j, j < ls.length → arr'[j]? = some (Value.float .f64 ((srt ls).getD j 0))) ∧ Chg (fun q => q = g) w w' := by
  have hzl : (zs ls).toArray.size = ls.length := by simp [zs]
  have hH : Holds encU w g 0 (zs ls).toArray := fun j hj => by
    have hj' : j < ls.length := by omega
    rw [Nat.zero_add]
    have e : (zs ls).toArray[j]! = ((ls[j] : Nat) : Int) := by
      rw [getElem!_pos (zs ls).toArray j hj]; simp [zs]
    refine ⟨?_, free_at hb j⟩
    rw [e]
    show w.cell? ⟨g, j, none⟩ = some (.float .f64 (clip _))
    rw [clip_nat (hI _ (List.getElem_mem hj'))]
    exact cell_at hb j (ha j _ (List.getElem?_eq_getElem hj'))
  have hg := lt_of w hb
  have h := slices_Sort_u g 0 c (zs ls) w hH hg (by simpa [zs] using hn)
  rw [show (zs ls).length = ls.length by simp [zs]] at h
  refine h.mono ?_
  rintro e w' ⟨rfl, n, os, rfl⟩
  refine ⟨rfl, putCells encU 0 (Sort.sort ltF (zs ls).toArray) arr, ?_, ?_, ?_⟩
  · have hlt : g < (putRow encU (Sort.ahead w n) g 0 (Sort.sort ltF (zs ls).toArray)).heap.size := by simpa using hg
    rw [heap_grow_old _ _ hlt]
    show (w.heap.modify g _)[g]? = _
    rw [Array.getElem?_modify, if_pos rfl, hb]
    rfl
  · intro q hq
    rw [putCells_get, if_pos (by rw [(srt_raw ls).1]; exact hq), if_pos]
    · show some (Value.float .f64 (clip _)) = _
      rw [srt_get ls q hq]
    · have := ha q _ (List.getElem?_eq_getElem hq)
      exact (Array.getElem?_eq_some_iff.1 this).1
  · refine ⟨rfl, rfl, rfl, by simp, fun k hk hne => ?_⟩
    rw [heap_grow_old _ _ (by simpa using hk)]
    show (w.heap.modify g _)[k]? = _
    rw [Array.getElem?_modify, if_neg (fun e => hne e.symm)]
set_option maxRecDepth 100000 in
theorem sorted_any (Bv : Nat) (A : Option Addr) (c : Nat) (xs : List Nat) (w : World) (hm : w.cell? ⟨Bv, 0, none⟩ = some (.slice A xs.length c)) (hr : Rd (fun k => k < w.heap.size) w A xs.length c 1 (fs xs)) (hN : xs.length ≤ 17592186043904) (h1 : 1 ≤ xs.length) (hI : ∀ x ∈ xs, x < INF) :
    Calls Try.prog 30 #[.func (.func 41) #[] #[.pointer (some ⟨Bv, 0, none⟩)]] w fun e w' =>
      ∃ g c, e = .returned (.slice (some ⟨g, 0, none⟩) xs.length c) ∧ (∀ j, j < xs.length → w'.cell? ⟨g, j, none⟩ = some (.float .f64 ((srt xs).getD j 0))) ∧ Chg (fun _ => False) w w' := by
  have HA := Lib.hid (collect_any Bv A c xs w hm hr hN)
  clear hm hr
  go_enter Try.func30, Try.ntmps30
  go_wp2_with fail
  refine HA.out.mono ?_
  rintro e w1 ⟨v, rfl, ho, hc⟩
  rcases ho.2 with ⟨rfl, hz⟩ | ⟨g, c, cur, rfl, hb, hg, hn, hcm, hs, ht⟩
  · omega
  · have hsa : ∀ (j x : Nat), xs[j]? = some x → cur[j]? = some (Value.float .f64 x) := fun j x hx => by
      have h1 := congrArg (fun l : List Value => l[j]?) ht
      have hj := (List.getElem?_eq_some_iff.1 hx).1
      simp only [Nat.mul_one] at h1
      rw [List.getElem?_take_of_lt hj, fs_get hx] at h1
      rwa [Array.getElem?_toList] at h1
    have HS := Lib.hid (sort_full (c := c) xs hg hsa hI (by omega))
    have HC := Lib.hid hc
    have HG : Hid (w.heap.size ≤ g) := hb
    obtain ⟨n, hnn⟩ : ∃ n, n = xs.length := ⟨_, rfl⟩
    rw [← hnn] at HS h1 ⊢
    have HNN := Lib.hid hnn
    clear ho hc hb hg hsa hs hcm hn HA ht hnn
    go_wp2_with fail
    refine HS.out.mono ?_
    rintro e w2 ⟨rfl, arr, h2, h3, h4⟩
    have H2 := Lib.hid h2
    have H3 := Lib.hid h3
    have H4 := Lib.hid h4
    clear h2 h3 h4
    go_wp2
    go_ret
    rw [← HNN.out]
    refine ⟨g, c, rfl, fun j hj => cell_at H2.out j (H3.out j hj), ⟨H4.out.os.trans HC.out.os, H4.out.tape.trans HC.out.tape, H4.out.output.trans HC.out.output, Nat.le_trans HC.out.size H4.out.size, fun k hk hn => (H4.out.block k (Nat.lt_of_lt_of_le hk HC.out.size) (by have := HG.out; omega)).trans (HC.out.block k hk hn)⟩⟩
end Go.Proofs.Ytecppcgleidhkaa.Tv
