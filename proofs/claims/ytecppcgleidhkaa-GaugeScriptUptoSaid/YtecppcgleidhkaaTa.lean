/- insertionSortOrdered by contract. Conditions: the row reads so. (Turned from the kit's worked walks of the sort at int.) -/
import Derived.Test.YtecppcgleidhkaaProg
import Derived.Test.YtecppcgleidhkaaFw
import Derived.Test.YtecppcgleidhkaaFs
import Derived.WalkLawsBesides
import Derived.Sort.WalkA
import Derived.Sort.WalkB12
set_option linter.unusedVariables false
set_option linter.unusedSimpArgs false
namespace Go.Proofs.Ytecppcgleidhkaa.Lq
open Go.RowKit Go.Sort

open Ieee Go.Proofs.Ytecppcgleidhkaa.Fl in
def clip (x : Int) : Nat := if x.toNat < INF then x.toNat else 0
open Go.Proofs.Ytecppcgleidhkaa.Fl in
theorem clip_lt (x : Int) : clip x < INF := by
  unfold clip
  split
  · assumption
  · decide
def ltF (x y : Int) : Bool := decide (clip x < clip y)
theorem swo_ltF : SWO ltF where
  irrefl x := by simp [ltF]
  trans x y z h1 h2 := by simp only [ltF, decide_eq_true_eq] at *; omega
  ntrans x y z h1 h2 := by simp only [ltF, decide_eq_false_iff_not] at *; omega
abbrev encU : Int → Value := fun x => Value.float .f64 (clip x)
open Go.Proofs.Ytecppcgleidhkaa.Fl in
theorem order_pos {x y : Nat} (hx : x < INF) (hy : y < INF) : Ieee.double.order x y = some (compare x y) := by
  have hx3 : x < 2 ^ 63 := Nat.lt_trans hx INF_lt
  have hy3 : y < 2 ^ 63 := Nat.lt_trans hy INF_lt
  rw [order_fin (by rw [rg_pos hx3]; exact hx) (by rw [rg_pos hy3]; exact hy), sv_pos hx3, sv_pos hy3]
  congr 1
  rcases Nat.lt_trichotomy x y with c | c | c
  · rw [Nat.compare_eq_lt.2 c, Int.compare_eq_lt.2]
    exact Int.ofNat_lt.2 (Nat.lt_of_lt_of_le (V_succ x) (V_mono c))
  · subst c; rw [Nat.compare_eq_eq.2 rfl, Int.compare_eq_eq.2 rfl]
  · rw [Nat.compare_eq_gt.2 c, Int.compare_eq_gt.2]
    exact Int.ofNat_lt.2 (Nat.lt_of_lt_of_le (V_succ y) (V_mono c))
theorem order_f (x y : Int) : FloatKind.f64.format.order (clip x) (clip y) = some (compare (clip x) (clip y)) := order_pos (clip_lt x) (clip_lt y)
theorem isNaN_u (x : Int) (w : World) : Calls Try.prog 62 #[.float .f64 (clip x)] w fun e w' => e = .returned (.bool false) ∧ w' = w := by
  have ho := order_f x x
  rw [Nat.compare_eq_eq.2 rfl] at ho
  go_enter Try.func62, Try.ntmps62
  go_wp2
  go_ret
  exact ⟨by simp [ho], rfl⟩
theorem cmp_Less_u (x y : Int) (w : World) : Calls Try.prog 52 #[.float .f64 (clip x), .float .f64 (clip y)] w fun e w' => e = .returned (.bool (ltF x y)) ∧ w' = w := by
  have ho := order_f x y
  have hl : (FloatKind.f64.format.order (clip x) (clip y) == some .lt) = ltF x y := by
    rw [ho]
    unfold ltF
    rcases Nat.lt_trichotomy (clip x) (clip y) with c | c | c
    · rw [Nat.compare_eq_lt.2 c]; simp [c]
    · rw [Nat.compare_eq_eq.2 c]; simp [c]
    · rw [Nat.compare_eq_gt.2 c]; simp; omega
  go_enter Try.func52, Try.ntmps52
  go_wp2_with (go_at_call 62; refine (isNaN_u _ _).mono ?_; rintro e w' ⟨rfl, rfl⟩)
  all_goals go_ret
  all_goals exact ⟨by rw [← hl, ho]; simp, rfl⟩
theorem insertionSort_u (blk off cap a b : Nat) (d : Array Int) (w : World) (hH : Holds encU w blk off d) (hab : a ≤ b) (hb : b ≤ d.size) (hsz : d.size < 4611686018427387904) :
    Calls Try.prog 46 #[.slice (some ⟨blk, off, none⟩) d.size cap, .int .i64 a, .int .i64 b] w fun e w' =>
      e = .returned (.tuple #[]) ∧ ∃ n, w' = putRow encU (Sort.ahead w n) blk off (Sort.insertionSort ltF d a b) := by
  go_enter Try.func46, Try.ntmps46
  go_wp2
  go_loopw [6] (fun vi wr => ∃ (i n : Nat) (dk : Array Int), vi = .int .i64 i ∧ a < i ∧ i ≤ b + 1 ∧ dk.size = d.size ∧ wr = putRow encU (Sort.ahead w n) blk off dk ∧
      insOuter ltF a b i dk = insOuter ltF a b (a + 1) d) (fun vi _ => b + 1 - (intOf vi).toNat)
  case atStart => exact ⟨a + 1, 0, d, by go_num, by omega, by omega, rfl, (putRow_self _ _ _ _ _ hH).symm, rfl⟩
  case round =>
    obtain ⟨i, n, dk, rfl, hai, hib, hsk, hwr, hO⟩ := hrel
    have HO : Hid (insOuter ltF a b i dk = insOuter ltF a b (a + 1) d) := hO
    clear hO
    go_wp2
    · -- i < b: the inner loop
      go_loopw [7] (fun vj wr2 => ∃ (j m : Nat) (dj : Array Int), vj = .int .i64 j ∧ a ≤ j ∧ j ≤ i ∧ dj.size = d.size ∧ wr2 = putRow encU (Sort.ahead w m) blk off dj ∧
          insInner ltF a j dj = insInner ltF a i dk) (fun vj _ => (intOf vj).toNat)
      case atStart => exact ⟨i, n, dk, rfl, by omega, Nat.le_refl _, hsk, rfl, rfl⟩
      case round =>
        obtain ⟨j, m, dj, rfl, haj, hji, hsj, hw2, hI⟩ := hrel
        have hlt : i < b := by assumption

        obtain ⟨G, hG⟩ : ∃ G : Nat → Int, ∀ t, G t = dj[t]! := ⟨fun t => dj[t]!, fun _ => rfl⟩
        have hcw : ∀ t, t < d.size → wr.cell? ⟨blk, off + t, none⟩ = some (.float .f64 (clip (G t))) := fun t ht => by
          rw [hw2, hG]; exact cell?_putRow _ _ _ _ d dj (holds_ahead _ _ _ _ _ _ hH) hsj t (by omega)
        have hfw : ∀ t, t < d.size → wr.frozen? ⟨blk, off + t, none⟩ = false := fun t ht => by
          rw [hw2, frozen?_putRow]; exact ((holds_ahead _ _ m _ _ _ hH) t ht).2
        have HW : Hid (wr = putRow encU (Sort.ahead w m) blk off dj) := hw2
        have HG : Hid (∀ t, G t = dj[t]!) := hG
        have HI : Hid (insInner ltF a j dj = insInner ltF a i dk) := hI
        clear hw2 hG hI hH

        have out : (j ≤ a ∨ ltF dj[j]! dj[j - 1]! = false) → ∀ q, ∃ i' n' dk', Value.int .i64 ((i : Int) + 1) = .int .i64 (i' : Nat) ∧ a < i' ∧ i' ≤ b + 1 ∧ dk'.size = d.size ∧
            wr.drewN q = putRow encU (Sort.ahead w n') blk off dk' ∧ insOuter ltF a b i' dk' = insOuter ltF a b (a + 1) d := fun hs q =>
          ⟨i + 1, m + q, dj, by go_num, by omega, by omega, hsj, by rw [HW.out]; exact putRow_drewN _ _ _ _ _ _ _,
            by rw [← HO.out, insOuter_go _ _ _ _ _ hlt, ← HI.out, insInner_stop _ _ _ _ hs]⟩
        have OUT : Hid _ := out
        clear out
        go_wp2
        by_cases hja : a < j
        · go_quiet (first | (go_at_call 52; refine Calls.quiet_of_same (cmp_Less_u _ _ _)))
          go_wp2
          · -- Less: the swap, j--
            have hl : ltF (G j) (G (j - 1)) = true := by assumption
            go_region
            all_goals go_wp2
            go_roundw
            case rel =>
              refine ⟨j - 1, m + (nq + 1), swp dj j (j - 1), by congr 1; omega, by omega, by omega, by rw [size_swp]; exact hsj, ?_, ?_⟩
              · rw [HW.out, HG.out, HG.out]
                exact swap_worldA _ w m (nq + 1) blk off dj j (j - 1) (by omega) (by omega)
              · rw [← HI.out, insInner_go ltF a j dj hja (by rw [← HG.out, ← HG.out]; exact hl)]
            case measure => simp [intOf]; omega
          · -- not Less
            have hl : ltF (G j) (G (j - 1)) = false := by assumption
            go_roundw
            case rel => exact OUT.out (Or.inr (by rw [← HG.out, ← HG.out]; exact hl)) nq
            case measure => simp [intOf]; omega
        · go_quiet (first | (go_at_call 52; refine Calls.quiet_of_same (cmp_Less_u _ _ _)))
          go_wp2
          go_roundw
          case rel => exact OUT.out (Or.inl (by omega)) nq
          case measure => simp [intOf]; omega
    · -- the outer loop is at its end
      have hge : ¬ i < b := by assumption
      go_end0
      exact ⟨rfl, n, by unfold Sort.insertionSort; rw [← HO.out, insOuter_stop _ _ _ _ _ hge]⟩
end Go.Proofs.Ytecppcgleidhkaa.Lq
