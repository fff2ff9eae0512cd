/- The document's gauge: Count, Turn, Samples. Conditions: its lists read so. -/
import Derived.Test.YtecppcgleidhkaaGa
import Derived.Test.YtecppcgleidhkaaGb
set_option linter.unusedVariables false
set_option linter.unusedSimpArgs false
set_option exponentiation.threshold 3000
namespace Go.Proofs.Ytecppcgleidhkaa.Gx
open Go.RowKit Go.Proofs.Ytecppcgleidhkaa.Lib1 Go.Proofs.Ytecppcgleidhkaa.Rel Go.Proofs.Ytecppcgleidhkaa.Own Go.Proofs.Ytecppcgleidhkaa.Fl Go.Proofs.Ytecppcgleidhkaa.Gp Go.Proofs.Ytecppcgleidhkaa.Gw Go.Proofs.Ytecppcgleidhkaa.Gm Go.Proofs.Ytecppcgleidhkaa.Gk

def ns (l : List Nat) : List Value := l.map fun (s : Nat) => Value.int .i64 (s : Int)
def zs (l : List Int) : List Value := l.map fun (c : Int) => Value.int .i64 c
theorem ns_get {l : List Nat} {k x : Nat} (h : l[k]? = some x) : (ns l)[k]? = some (.int .i64 (x : Int)) := by simp [ns, h]
theorem zs_get {l : List Int} {k : Nat} {x : Int} (h : l[k]? = some x) : (zs l)[k]? = some (.int .i64 x) := by simp [zs, h]
/-- The document's gauge in memory. -/
structure RW (ok : Nat → Prop) (w : World) (A : Option Addr) (n c : Nat) (B : Option Addr) (m d : Nat) (g : G) : Prop where
  sl : Rd ok w A n c 1 (ns g.slots)
  cd : Rd ok w B m d 1 (zs g.codes)
theorem RW.n {ok : Nat → Prop} {w : World} {A B : Option Addr} {n c m d : Nat} {g : G} (h : RW ok w A n c B m d g) : g.slots.length = n ∧ g.codes.length = m := by
  have h1 := h.sl.len
  have h2 := h.cd.len
  simp [ns, zs] at h1 h2
  exact ⟨h1, h2⟩
theorem RW.move {ok : Nat → Prop} {w w1 : World} {A B : Option Addr} {n c m d : Nat} {g : G} (h : RW ok w A n c B m d g) (hm : ∀ k, ok k → w1.heap[k]? = w.heap[k]?) : RW ok w1 A n c B m d g := ⟨h.sl.move hm, h.cd.move hm⟩
theorem RW.mono {ok ok' : Nat → Prop} {w : World} {A B : Option Addr} {n c m d : Nat} {g : G} (h : RW ok w A n c B m d g) (hm : ∀ k, ok k → ok' k) : RW ok' w A n c B m d g := ⟨h.sl.mono hm, h.cd.mono hm⟩
theorem RW.up {w w1 : World} {A B : Option Addr} {n c m d : Nat} {g : G} (h : RW (fun k => k < w.heap.size) w A n c B m d g) (hc : Chg (fun _ => False) w w1) : RW (fun k => k < w1.heap.size) w1 A n c B m d g :=
  (h.move (fun k hk => hc.block k hk (fun h => h))).mono (fun k hk => Nat.lt_of_lt_of_le hk hc.size)
section
variable {w : World} {A B : Option Addr} {n c m d : Nat} {g : G}
theorem rcount_walk (h : RW (fun k => k < w.heap.size) w A n c B m d g) (hm : m ≤ 17592186043904) (t : Bool) (k : Nat) (x : Int) :
    Calls Try.prog 27 #[.agg #[.bool t, .float .f64 k, .slice A n c, .slice B m d], .int .i64 x] w fun e w' => e = .returned (.int .i64 (g.codes.count x : Nat)) ∧ Chg (fun _ => False) w w' := by
  have HCL := Lib.hid h.n.2
  have HR := Lib.hid h.cd
  clear h
  go_enter Try.func27, Try.ntmps27
  go_wp2
  obtain ⟨w1, hw1⟩ : ∃ w1, w.alloc (.cells #[.bool t, .float .f64 k, .slice A n c, .slice B m d] 44) = w1 := ⟨_, rfl⟩
  have HC1 : Hid (Chg (fun _ => False) w w1) := by rw [← hw1]; exact (Chg.refl _ _).alloc _
  have y3 : w1.cell? ⟨w.heap.size, 3, none⟩ = some (.slice B m d) := by rw [← hw1]; exact cell_at (heap_new w _) 3 rfl
  rw [hw1]
  clear hw1
  go_loopw [5, 6] (fun a i wr => ∃ q : Nat, q ≤ m ∧ i = .int .i64 q ∧ a = .int .i64 ((g.codes.take q).count x : Nat) ∧ wr = w1) (fun _ i _ => m - (intOf i).toNat)
  case atStart => exact ⟨0, Nat.zero_le _, rfl, by simp, rfl⟩
  case round =>
    obtain ⟨q, hq, rfl, rfl, hwr⟩ := hrel
    subst hwr
    by_cases hlt : q < m
    · obtain ⟨y, hy⟩ : ∃ y, g.codes[q]? = some y := ⟨_, List.getElem?_eq_getElem (by have := HCL.out; omega)⟩
      obtain ⟨b, off, rfl, hb, hcell⟩ := HR.out.at_ (by omega)
      have hyc := (World.cell?_of_block (a := ⟨b, off + q, none⟩) (HC1.out.block b hb (fun h => h))).trans (hcell q _ (zs_get hy))
      have hcn : (g.codes.take (q + 1)).count x = (g.codes.take q).count x + if y = x then 1 else 0 := by
        rw [take_snoc' hy, List.count_append]
        by_cases e : y = x
        · subst e; simp
        · simp [e, List.count_cons]
      have hcb : (g.codes.take q).count x ≤ m := Nat.le_trans List.count_le_length (by rw [List.length_take]; omega)
      have HCN := Lib.hid hcn
      obtain ⟨a, ha⟩ : ∃ a, a = (g.codes.take q).count x := ⟨_, rfl⟩
      rw [← ha] at hcb ⊢
      have HA := Lib.hid ha
      clear hcell hy hcn ha
      by_cases e : y = x
      · have HE := Lib.hid e
        subst e
        go_wp2
        go_roundw
        case rel => exact ⟨q + 1, hlt, by go_num, by rw [HCN.out, if_pos rfl, ← HA.out]; go_num, trivial⟩
        case measure => simp [intOf]; omega
      · have HE := Lib.hid e
        go_wp2
        go_roundw
        case rel => exact ⟨q + 1, hlt, by go_num, by rw [HCN.out, if_neg HE.out, ← HA.out, Nat.add_zero], trivial⟩
        case measure => simp [intOf]; omega
    · obtain rfl : q = m := by omega
      go_wp2
      go_ret
      refine ⟨?_, HC1.out⟩
      rw [List.take_of_length_le (by rw [HCL.out]; exact Nat.le_refl _)]
      rfl
theorem rturn_walk (h : RW (fun k => k < w.heap.size) w A n c B m d g) (hn : n ≤ 17592186043904) (t : Bool) (k : Nat) (hok : ∀ s ∈ g.slots, s ≤ 2 ^ 62) :
    Calls Try.prog 36 #[.agg #[.bool t, .float .f64 k, .slice A n c, .slice B m d]] w fun e w' => e = .returned (.tuple #[.int .i64 (turn g.slots).1, .int .i64 (turn g.slots).2]) ∧ Chg (fun _ => False) w w' := by
  have HCL := Lib.hid h.n.1
  have HR := Lib.hid h.sl
  have HOK := Lib.hid hok
  clear h hok
  go_enter Try.func36, Try.ntmps36
  go_wp2
  obtain ⟨w1, hw1⟩ : ∃ w1, w.alloc (.cells #[.bool t, .float .f64 k, .slice A n c, .slice B m d] 44) = w1 := ⟨_, rfl⟩
  have HC1 : Hid (Chg (fun _ => False) w w1) := by rw [← hw1]; exact (Chg.refl _ _).alloc _
  have y2 : w1.cell? ⟨w.heap.size, 2, none⟩ = some (.slice A n c) := by rw [← hw1]; exact cell_at (heap_new w _) 2 rfl
  rw [hw1]
  clear hw1
  go_loopw [4, 5, 6] (fun a b i wr => ∃ q : Nat, q ≤ n ∧ i = .int .i64 q ∧ a = .int .i64 (turn (g.slots.take q)).1 ∧ b = .int .i64 (turn (g.slots.take q)).2 ∧ wr = w1) (fun _ _ i _ => n - (intOf i).toNat)
  case atStart => exact ⟨0, Nat.zero_le _, rfl, rfl, rfl, rfl⟩
  case round =>
    obtain ⟨q, hq, rfl, rfl, rfl, hwr⟩ := hrel
    subst hwr
    by_cases hlt : q < n
    · obtain ⟨y, hy⟩ : ∃ y, g.slots[q]? = some y := ⟨_, List.getElem?_eq_getElem (by have := HCL.out; omega)⟩
      have hyb := HOK.out y (List.mem_of_getElem? hy)
      obtain ⟨b, off, rfl, hb, hcell⟩ := HR.out.at_ (by omega)
      have hyc := (World.cell?_of_block (a := ⟨b, off + q, none⟩) (HC1.out.block b hb (fun h => h))).trans (hcell q _ (ns_get hy))
      have htb := turn_bd (g.slots.take q)
      rw [List.length_take] at htb
      have hHTN : turn (g.slots.take (q + 1)) = tstep (turn (g.slots.take q)) y := by rw [take_snoc' hy, turn_snoc]
      have HTN := Lib.hid hHTN
      clear hHTN
      obtain ⟨tt, htt⟩ : ∃ tt, tt = turn (g.slots.take q) := ⟨_, rfl⟩
      rw [← htt] at htb HTN ⊢
      obtain ⟨re, im⟩ := tt
      simp only at htb ⊢
      have hr1 : -17592186043904 ≤ re ∧ re ≤ 17592186043904 := by omega
      have hr2 : -17592186043904 ≤ im ∧ im ≤ 17592186043904 := by omega
      clear hcell hy htt htb
      have h4 : (y : Int) % 4 = 0 ∨ (y : Int) % 4 = 1 ∨ (y : Int) % 4 = 2 ∨ (y : Int) % 4 = 3 := by omega
      rcases h4 with h4 | h4 | h4 | h4
      · have hHT2 : turn (g.slots.take (q + 1)) = (re + 1, im) := by rw [HTN.out]; unfold tstep; rw [if_pos (by omega)]
        have HT2 := Lib.hid hHT2
        clear hHT2
        go_wp2
        go_roundw
        case rel => exact ⟨q + 1, hlt, by go_num, by rw [HT2.out], by rw [HT2.out], trivial⟩
        case measure => simp [intOf]; omega
      · have hHT2 : turn (g.slots.take (q + 1)) = (re, im + 1) := by rw [HTN.out]; unfold tstep; rw [if_neg (by omega), if_pos (by omega)]
        have HT2 := Lib.hid hHT2
        clear hHT2
        go_wp2
        go_roundw
        case rel => exact ⟨q + 1, hlt, by go_num, by rw [HT2.out], by rw [HT2.out], trivial⟩
        case measure => simp [intOf]; omega
      · have hHT2 : turn (g.slots.take (q + 1)) = (re - 1, im) := by rw [HTN.out]; unfold tstep; rw [if_neg (by omega), if_neg (by omega), if_pos (by omega)]
        have HT2 := Lib.hid hHT2
        clear hHT2
        go_wp2
        go_roundw
        case rel => exact ⟨q + 1, hlt, by go_num, by rw [HT2.out], by rw [HT2.out], trivial⟩
        case measure => simp [intOf]; omega
      · have hHT2 : turn (g.slots.take (q + 1)) = (re, im - 1) := by rw [HTN.out]; unfold tstep; rw [if_neg (by omega), if_neg (by omega), if_neg (by omega)]
        have HT2 := Lib.hid hHT2
        clear hHT2
        go_wp2
        go_roundw
        case rel => exact ⟨q + 1, hlt, by go_num, by rw [HT2.out], by rw [HT2.out], trivial⟩
        case measure => simp [intOf]; omega
    · obtain rfl : q = n := by omega
      go_wp2
      go_ret2
      refine ⟨?_, HC1.out⟩
      rw [List.take_of_length_le (by rw [HCL.out]; exact Nat.le_refl _)]
      rfl
end
end Go.Proofs.Ytecppcgleidhkaa.Gx
