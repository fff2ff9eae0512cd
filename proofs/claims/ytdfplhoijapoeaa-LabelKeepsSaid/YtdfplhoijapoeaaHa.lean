/- The stable sort of label.Heights: its worlds, its comparison, insertionSortCmpFunc. Conditions: the row reads so. -/
import Derived.Test.YtdfplhoijapoeaaSh
import Derived.Test.YtdfplhoijapoeaaLis
set_option linter.unusedVariables false
set_option linter.unusedSimpArgs false
namespace Go.Proofs.Ytdfplhoijapoeaa.Lh
open Go.RowKit Go.Sort Go.Proofs.Ytdfplhoijapoeaa.Lib1

abbrev encI : Nat → Value := fun x => Value.int .i64 (x : Int)
/-- A world of the sort's: the row holds D, all else is as it was. -/
def SW (w0 : World) (blk off sz N : Nat) (D : Array Nat) (W : World) : Prop := D.size = sz ∧ (∀ q, q < sz → D[q]! < N) ∧ ∃ n, W = putRow encI (Sort.ahead w0 n) blk off D
def Row (w0 : World) (blk off sz : Nat) : Prop := ∃ d : Array Nat, d.size = sz ∧ Holds encI w0 blk off d
theorem SW.cell {w0 W : World} {blk off sz N : Nat} {D : Array Nat} (h : SW w0 blk off sz N D W) (H : Row w0 blk off sz) (q : Nat) (hq : q < sz) : W.cell? ⟨blk, off + q, none⟩ = some (.int .i64 ((D[q]! : Nat) : Int)) := by
  obtain ⟨hs, _, n, rfl⟩ := h
  obtain ⟨d, hd, H⟩ := H
  exact cell?_putRow _ _ _ _ d D (holds_ahead _ _ _ _ _ _ H) (by omega) q (by omega)
theorem SW.free {w0 W : World} {blk off sz N : Nat} {D : Array Nat} (h : SW w0 blk off sz N D W) (H : Row w0 blk off sz) (q : Nat) (hq : q < sz) : W.frozen? ⟨blk, off + q, none⟩ = false := by
  obtain ⟨hs, _, n, rfl⟩ := h
  obtain ⟨d, hd, H⟩ := H
  rw [frozen?_putRow]
  exact ((holds_ahead _ _ n _ _ _ H) q (by omega)).2
theorem SW.drewN {w0 W : World} {blk off sz N : Nat} {D : Array Nat} (h : SW w0 blk off sz N D W) (q : Nat) : SW w0 blk off sz N D (W.drewN q) := by
  obtain ⟨hs, hb, n, rfl⟩ := h
  exact ⟨hs, hb, n + q, putRow_drewN _ _ _ _ _ _ _⟩
theorem swp_any (d : Array Nat) {i j : Nat} (hi : i < d.size) (hj : j < d.size) (q : Nat) : (swp d i j)[q]! = if q = i then d[j]! else if q = j then d[i]! else d[q]! := by
  by_cases h1 : q = i
  · subst h1
    rw [if_pos rfl]
    by_cases h2 : q = j
    · subst h2; rw [swp_right _ _ _ hj]
    · rw [swp_left _ _ _ hi h2]
  · rw [if_neg h1]
    by_cases h2 : q = j
    · subst h2; rw [swp_right _ _ _ hj, if_pos rfl]
    · rw [swp_other _ _ _ _ h1 h2, if_neg h2]
theorem SW.swap {w0 W : World} {blk off sz N : Nat} {D : Array Nat} (h : SW w0 blk off sz N D W) {i j : Nat} (hi : i < sz) (hj : j < sz) (q : Nat) :
    SW w0 blk off sz N (swp D i j) (((W.drewN q).setCell ⟨blk, off + i, none⟩ (.int .i64 ((D[j]! : Nat) : Int))).setCell ⟨blk, off + j, none⟩ (.int .i64 ((D[i]! : Nat) : Int))) := by
  obtain ⟨hs, hb, n, rfl⟩ := h
  refine ⟨by rw [size_swp]; exact hs, fun k hk => ?_, n + q, swap_worldA encI w0 n q blk off D i j (by omega) (by omega)⟩
  rw [swp_any D (by omega) (by omega)]
  split
  · exact hb j hj
  · split
    · exact hb i hi
    · exact hb k hk
theorem SW.start {w0 : World} {blk off sz N : Nat} {D : Array Nat} (hs : D.size = sz) (hb : ∀ q, q < sz → D[q]! < N) (H : Holds encI w0 blk off D) : SW w0 blk off sz N D w0 := ⟨hs, hb, 0, (putRow_self _ _ _ _ _ H).symm⟩

def ltK (K : Nat → Nat) (x y : Nat) : Bool := decide (K x < K y)
def cf (K : Nat → Nat) (x y : Nat) : Int := if K x < K y then -1 else if K y < K x then 1 else 0
theorem cf_lt (K : Nat → Nat) (x y : Nat) : decide (cf K x y < 0) = ltK K x y := by
  unfold cf ltK
  by_cases h : K x < K y
  · rw [if_pos h]; simp [h]
  · rw [if_neg h]
    by_cases h2 : K y < K x
    · rw [if_pos h2]; simp [h]
    · rw [if_neg h2]; simp [h]
theorem swo_K (K : Nat → Nat) : SWO (ltK K) where
  irrefl := fun x => by simp [ltK]
  trans := fun x y z h1 h2 => by simp only [ltK, decide_eq_true_eq] at *; omega
  ntrans := fun x y z h1 h2 => by simp only [ltK, decide_eq_false_iff_not] at *; omega
/-- What is asked of the comparison. -/
def Cm (K : Nat → Nat) (w0 : World) (blk off sz N : Nat) (p : Option Addr) : Prop := ∀ (D : Array Nat) (W : World), SW w0 blk off sz N D W → ∀ x y : Nat, x < N → y < N →
  Calls Try.prog 56 #[.int .i64 x, .int .i64 y, .pointer p] W fun e w' => e = .returned (.int .i64 (cf K x y)) ∧ ∃ q, w' = W.drewN q
/-- The comparison as a value. -/
abbrev cmpV (p : Option Addr) : Value := .func (.func 56) #[] #[.pointer p]

set_option maxHeartbeats 3200000 in
set_option maxRecDepth 100000 in
theorem ins_c {K : Nat → Nat} {w0 W : World} {blk off sz N : Nat} {p : Option Addr} {D : Array Nat} (cap a b : Nat) (HC : Hid (Cm K w0 blk off sz N p)) (H : Hid (Row w0 blk off sz)) (S : Hid (SW w0 blk off sz N D W)) (hab : a ≤ b) (hb : b ≤ sz) (hsz : sz < 4611686018427387904) :
    Calls Try.prog 76 #[.slice (some ⟨blk, off, none⟩) sz cap, .int .i64 a, .int .i64 b, cmpV p] W fun e w' => e = .returned (.tuple #[]) ∧ SW w0 blk off sz N (Sort.insertionSort (ltK K) D a b) w' := by
  go_enter Try.func76, Try.ntmps76
  go_wp2
  go_loopw [8] (fun vi wr => ∃ (i : Nat) (dk : Array Nat), vi = .int .i64 i ∧ a < i ∧ i ≤ b + 1 ∧ Hid (SW w0 blk off sz N dk wr) ∧ Hid (insOuter (ltK K) a b i dk = insOuter (ltK K) a b (a + 1) D)) (fun vi _ => b + 1 - (intOf vi).toNat)
  case atStart => exact ⟨a + 1, D, by go_num, by omega, by omega, S, rfl⟩
  case round =>
    clear S
    obtain ⟨i, dk, rfl, hai, hib, S1, HO⟩ := hrel
    go_wp2
    · go_loopw [9] (fun vj wr2 => ∃ (j : Nat) (dj : Array Nat), vj = .int .i64 j ∧ a ≤ j ∧ j ≤ i ∧ Hid (SW w0 blk off sz N dj wr2) ∧ Hid (insInner (ltK K) a j dj = insInner (ltK K) a i dk)) (fun vj _ => (intOf vj).toNat)
      case atStart => exact ⟨i, dk, rfl, by omega, Nat.le_refl _, S1, rfl⟩
      case round =>
        clear S1
        obtain ⟨j, dj, rfl, haj, hji, S2, HI⟩ := hrel
        have hlt : i < b := by assumption
        have OUT : Hid ((j ≤ a ∨ ltK K dj[j]! dj[j - 1]! = false) → insOuter (ltK K) a b (i + 1) dj = insOuter (ltK K) a b (a + 1) D) := fun hs => by
          rw [← HO.out, insOuter_go _ _ _ _ _ hlt, ← HI.out, insInner_stop _ _ _ _ hs]
        by_cases hja : a < j
        · obtain ⟨G, hG⟩ : ∃ G : Nat → Nat, ∀ t, G t = dj[t]! := ⟨fun t => dj[t]!, fun _ => rfl⟩
          have hcw : ∀ t, t < sz → wr.cell? ⟨blk, off + t, none⟩ = some (.int .i64 ((G t : Nat) : Int)) := fun t ht => by rw [hG]; exact S2.out.cell H.out t ht
          have hfw : ∀ t, t < sz → wr.frozen? ⟨blk, off + t, none⟩ = false := fun t ht => S2.out.free H.out t ht
          have hc : ∀ n, Calls Try.prog 56 #[.int .i64 ((G j : Nat) : Int), .int .i64 ((G (j - 1) : Nat) : Int), .pointer p] (wr.drewN n) fun e w' => e = .returned (.int .i64 (cf K (G j) (G (j - 1)))) ∧ ∃ q, w' = (wr.drewN n).drewN q := fun n =>
            HC.out dj _ (S2.out.drewN n) _ _ (by rw [hG]; exact S2.out.2.1 j (by omega)) (by rw [hG]; exact S2.out.2.1 (j - 1) (by omega))
          have HG := Lib.hid hG
          clear hG
          cases hlv : ltK K (G j) (G (j - 1)) with
          | true =>
            have hd : decide (cf K (G j) (G (j - 1)) < 0) = true := by rw [cf_lt]; exact hlv
            have HL := Lib.hid hlv
            clear hlv
            go_wp2_with fail
            go_quiet ((go_at_call 56; exact Calls.quiet_of (hc _)))
            clear hc
            go_wp2_with fail
            go_region
            all_goals go_wp2
            go_roundw
            case rel =>
              refine ⟨j - 1, swp dj j (j - 1), by congr 1; omega, by omega, by omega, ?_, ?_⟩
              · show SW _ _ _ _ _ _ _
                rw [HG.out, HG.out]
                exact S2.out.swap (by omega) (by omega) (nq + 1)
              · show _ = _
                rw [← HI.out, insInner_go (ltK K) a j dj hja (by rw [← HG.out, ← HG.out]; exact HL.out)]
            case measure => simp [intOf]; omega
          | false =>
            have hd : decide (cf K (G j) (G (j - 1)) < 0) = false := by rw [cf_lt]; exact hlv
            have HL := Lib.hid hlv
            clear hlv
            go_wp2_with fail
            go_quiet ((go_at_call 56; exact Calls.quiet_of (hc _)))
            clear hc
            go_wp2
            go_roundw
            case rel => exact ⟨i + 1, dj, by go_num, by omega, by omega, S2.out.drewN nq, OUT.out (Or.inr (by rw [← HG.out, ← HG.out]; exact HL.out))⟩
            case measure => simp [intOf]; omega
        · have hja' : decide ((a : Int) < (j : Int)) = false := by simp; omega
          go_wp2_with fail
          go_quiet (fail)
          go_wp2
          go_roundw
          case rel => exact ⟨i + 1, dj, by go_num, by omega, by omega, S2.out.drewN nq, OUT.out (Or.inl (by omega))⟩
          case measure => simp [intOf]; omega
    · have hge : ¬ i < b := by assumption
      go_end0
      refine ⟨rfl, ?_⟩
      unfold Sort.insertionSort
      rw [← HO.out, insOuter_stop _ _ _ _ _ hge]
      exact S1.out
end Go.Proofs.Ytdfplhoijapoeaa.Lh
