/- Three queues and two rows beside one another, all made since W: what stays where one of them is turned. Conditions: none. -/
import Derived.Test.YtmlomceemcbnaaaQpr
import Derived.Test.YtmlomceemcbnaaaQptr
import Derived.Test.YtmlomceemcbnaaaQlst
set_option linter.unusedVariables false
namespace Go.Proofs.Ytmlomceemcbnaaa.Qks
open Go.RowKit Go.Proofs.Ytmlomceemcbnaaa.Lib1 Go.Proofs.Ytmlomceemcbnaaa.Q Go.Proofs.Ytmlomceemcbnaaa.Q2

def ptr (b : Nat) : Value := .pointer (some ⟨b, 0, none⟩)
def lst (b : Nat) : Value := .slice (some ⟨b, 0, none⟩) 1 1
def own5 (b1 : Nat) (l1 : Option Nat) (b2 : Nat) (l2 : Option Nat) (b3 : Nat) (l3 : Option Nat) (v1 v2 : Value) : Nat → Nat → Prop
  | 0, k => k = b1 ∨ some k = l1
  | 1, k => k = b2 ∨ some k = l2
  | 2, k => k = b3 ∨ some k = l3
  | 3, k => v1.ownBlock = some k
  | 4, k => v2.ownBlock = some k
  | _, _ => False
def Sep (F : Nat → Nat → Prop) : Prop := ∀ i j k, F i k → F j k → i = j
theorem Sep.turn {F F' : Nat → Nat → Prop} {N : Nat} (h : Sep F) (hlt : ∀ i k, F i k → k < N) (i : Nat) (hi : ∀ k, F' i k → F i k ∨ N ≤ k) (ho : ∀ j k, j ≠ i → F' j k → F j k) : Sep F' := by
  intro a b k ha hb
  by_cases ea : a = i
  · by_cases eb : b = i
    · rw [ea, eb]
    · subst ea
      have h2 := ho b k eb hb
      rcases hi k ha with h1 | h1
      · exact h a b k h1 h2
      · have := hlt b k h2; omega
  · have h1 := ho a k ea ha
    by_cases eb : b = i
    · subst eb
      rcases hi k hb with h2 | h2
      · exact h a b k h1 h2
      · have := hlt a k h1; omega
    · exact h a b k h1 (ho b k eb hb)

structure KS (W w : World) (b1 : Nat) (l1 : Option Nat) (x1 : List (Int × Bool)) (b2 : Nat) (l2 : Option Nat) (x2 : List Nat) (b3 : Nat) (l3 : Option Nat) (x3 : List Nat) (v1 : Value) (pp : List Nat) (v2 : Value) (gg : List Nat) : Prop where
  q1 : IsQ2 Qpr.QT Qpr.ET w b1 l1 1000 x1
  q2 : IsQ Qptr.QT Qptr.ET w b2 l2 1000 (x2.map ptr)
  q3 : IsQ Qlst.QT Qlst.ET w b3 l3 1000 (x3.map lst)
  r1 : w.ownsRow W.heap.size Qptr.ET 1 v1 pp.length (pp.map ptr)
  r2 : w.ownsRow W.heap.size Qlst.ET 1 v2 gg.length (gg.map lst)
  low : ∀ i k, own5 b1 l1 b2 l2 b3 l3 v1 v2 i k → W.heap.size ≤ k ∧ k < w.heap.size
  sep : Sep (own5 b1 l1 b2 l2 b3 l3 v1 v2)
  chg : Chg (fun _ => False) W w

section
variable {W w w' : World} {b1 b2 b3 : Nat} {l1 l2 l3 : Option Nat} {x1 x1' : List (Int × Bool)} {x2 x2' x3 x3' pp pp' gg gg' : List Nat} {v1 v2 : Value}

theorem KS.quiet (h : KS W w b1 l1 x1 b2 l2 x2 b3 l3 x3 v1 pp v2 gg) (hc : Chg (fun _ => False) w w') : KS W w' b1 l1 x1 b2 l2 x2 b3 l3 x3 v1 pp v2 gg :=
  ⟨h.q1.kept hc (fun h => h) (fun _ _ h => h), h.q2.kept hc (fun h => h) (fun _ _ h => h), h.q3.kept hc (fun h => h) (fun _ _ h => h), own_chg hc h.r1 (fun _ _ h => h), own_chg hc h.r2 (fun _ _ h => h),
    fun i k hk => ⟨(h.low i k hk).1, Nat.lt_of_lt_of_le (h.low i k hk).2 hc.size⟩, h.sep, h.chg.trans hc (fun _ _ h => h)⟩

/-- One of the five is turned (which: i); its blocks stay, or are new. -/
theorem KS.turn {l1' l2' l3' : Option Nat} {v1' v2' : Value} (h : KS W w b1 l1 x1 b2 l2 x2 b3 l3 x3 v1 pp v2 gg) (i : Nat) (hc : Chg (own5 b1 l1 b2 l2 b3 l3 v1 v2 i) w w')
    (hi : ∀ k, own5 b1 l1' b2 l2' b3 l3' v1' v2' i k → own5 b1 l1 b2 l2 b3 l3 v1 v2 i k ∨ (w.heap.size ≤ k ∧ k < w'.heap.size)) (ho : ∀ j, j ≠ i → own5 b1 l1' b2 l2' b3 l3' v1' v2' j = own5 b1 l1 b2 l2 b3 l3 v1 v2 j)
    (n1 : i ≠ 0 → l1' = l1 ∧ x1' = x1) (n2 : i ≠ 1 → l2' = l2 ∧ x2' = x2) (n3 : i ≠ 2 → l3' = l3 ∧ x3' = x3) (n4 : i ≠ 3 → v1' = v1 ∧ pp' = pp) (n5 : i ≠ 4 → v2' = v2 ∧ gg' = gg)
    (a1 : i = 0 → IsQ2 Qpr.QT Qpr.ET w' b1 l1' 1000 x1') (a2 : i = 1 → IsQ Qptr.QT Qptr.ET w' b2 l2' 1000 (x2'.map ptr)) (a3 : i = 2 → IsQ Qlst.QT Qlst.ET w' b3 l3' 1000 (x3'.map lst))
    (a4 : i = 3 → w'.ownsRow W.heap.size Qptr.ET 1 v1' pp'.length (pp'.map ptr)) (a5 : i = 4 → w'.ownsRow W.heap.size Qlst.ET 1 v2' gg'.length (gg'.map lst)) :
    KS W w' b1 l1' x1' b2 l2' x2' b3 l3' x3' v1' pp' v2' gg' := by
  have out : ∀ j k, j ≠ i → own5 b1 l1 b2 l2 b3 l3 v1 v2 j k → ¬ own5 b1 l1 b2 l2 b3 l3 v1 v2 i k := fun j k hj hk hik => hj (h.sep j i k hk hik)
  have hsz := h.chg.size
  refine ⟨?_, ?_, ?_, ?_, ?_, fun j k hk => ?_, h.sep.turn (fun j k hk => (h.low j k hk).2) i (fun k hk => (hi k hk).imp id (·.1)) (fun j k hj hk => by rw [ho j hj] at hk; exact hk), h.chg.trans hc (fun k hk hs => ?_)⟩
  · by_cases e : i = 0
    · exact a1 e
    · obtain ⟨rfl, rfl⟩ := n1 e
      exact h.q1.kept hc (out 0 _ (Ne.symm e) (.inl rfl)) (fun k hk => out 0 _ (Ne.symm e) (.inr hk.symm))
  · by_cases e : i = 1
    · exact a2 e
    · obtain ⟨rfl, rfl⟩ := n2 e
      exact h.q2.kept hc (out 1 _ (Ne.symm e) (.inl rfl)) (fun k hk => out 1 _ (Ne.symm e) (.inr hk.symm))
  · by_cases e : i = 2
    · exact a3 e
    · obtain ⟨rfl, rfl⟩ := n3 e
      exact h.q3.kept hc (out 2 _ (Ne.symm e) (.inl rfl)) (fun k hk => out 2 _ (Ne.symm e) (.inr hk.symm))
  · by_cases e : i = 3
    · exact a4 e
    · obtain ⟨rfl, rfl⟩ := n4 e
      exact own_chg hc h.r1 (fun k hk => out 3 _ (Ne.symm e) hk)
  · by_cases e : i = 4
    · exact a5 e
    · obtain ⟨rfl, rfl⟩ := n5 e
      exact own_chg hc h.r2 (fun k hk => out 4 _ (Ne.symm e) hk)
  · by_cases e : j = i
    · subst e
      rcases hi k hk with h1 | h1
      · exact ⟨(h.low _ _ h1).1, Nat.lt_of_lt_of_le (h.low _ _ h1).2 hc.size⟩
      · exact ⟨Nat.le_trans hsz h1.1, h1.2⟩
    · rw [ho j e] at hk
      exact ⟨(h.low _ _ hk).1, Nat.lt_of_lt_of_le (h.low _ _ hk).2 hc.size⟩
  · have := (h.low i k hs).1; omega

theorem KS.set1 {l1' : Option Nat} (h : KS W w b1 l1 x1 b2 l2 x2 b3 l3 x3 v1 pp v2 gg) (q : IsQ2 Qpr.QT Qpr.ET w' b1 l1' 1000 x1') (hl : l1' = l1 ∨ ∃ g, l1' = some g ∧ w.heap.size ≤ g) (hc : Chg (fun k => k = b1 ∨ some k = l1) w w') :
    KS W w' b1 l1' x1' b2 l2 x2 b3 l3 x3 v1 pp v2 gg := by
  refine h.turn 0 hc (fun k hk => ?_) (fun j hj => ?_) (fun h => absurd rfl h) (fun _ => ⟨rfl, rfl⟩) (fun _ => ⟨rfl, rfl⟩) (fun _ => ⟨rfl, rfl⟩) (fun _ => ⟨rfl, rfl⟩) (fun _ => q) (fun h => by cases h) (fun h => by cases h) (fun h => by cases h) (fun h => by cases h)
  · rcases hk with hk | hk
    · exact .inl (.inl hk)
    · rcases hl with rfl | ⟨g, rfl, hg⟩
      · exact .inl (.inr hk)
      · cases hk; exact .inr ⟨hg, (q.row_lt _ rfl).1⟩
  · match j, hj with
    | 1, _ => rfl
    | 2, _ => rfl
    | 3, _ => rfl
    | 4, _ => rfl
    | (n + 5), _ => rfl
theorem KS.set2 {l2' : Option Nat} (h : KS W w b1 l1 x1 b2 l2 x2 b3 l3 x3 v1 pp v2 gg) (q : IsQ Qptr.QT Qptr.ET w' b2 l2' 1000 (x2'.map ptr)) (hl : l2' = l2 ∨ ∃ g, l2' = some g ∧ w.heap.size ≤ g) (hc : Chg (fun k => k = b2 ∨ some k = l2) w w') :
    KS W w' b1 l1 x1 b2 l2' x2' b3 l3 x3 v1 pp v2 gg := by
  refine h.turn 1 hc (fun k hk => ?_) (fun j hj => ?_) (fun _ => ⟨rfl, rfl⟩) (fun h => absurd rfl h) (fun _ => ⟨rfl, rfl⟩) (fun _ => ⟨rfl, rfl⟩) (fun _ => ⟨rfl, rfl⟩) (fun h => by cases h) (fun _ => q) (fun h => by cases h) (fun h => by cases h) (fun h => by cases h)
  · rcases hk with hk | hk
    · exact .inl (.inl hk)
    · rcases hl with rfl | ⟨g, rfl, hg⟩
      · exact .inl (.inr hk)
      · cases hk; exact .inr ⟨hg, (q.row_lt _ rfl).1⟩
  · match j, hj with
    | 0, _ => rfl
    | 2, _ => rfl
    | 3, _ => rfl
    | 4, _ => rfl
    | (n + 5), _ => rfl
theorem KS.set3 {l3' : Option Nat} (h : KS W w b1 l1 x1 b2 l2 x2 b3 l3 x3 v1 pp v2 gg) (q : IsQ Qlst.QT Qlst.ET w' b3 l3' 1000 (x3'.map lst)) (hl : l3' = l3 ∨ ∃ g, l3' = some g ∧ w.heap.size ≤ g) (hc : Chg (fun k => k = b3 ∨ some k = l3) w w') :
    KS W w' b1 l1 x1 b2 l2 x2 b3 l3' x3' v1 pp v2 gg := by
  refine h.turn 2 hc (fun k hk => ?_) (fun j hj => ?_) (fun _ => ⟨rfl, rfl⟩) (fun _ => ⟨rfl, rfl⟩) (fun h => absurd rfl h) (fun _ => ⟨rfl, rfl⟩) (fun _ => ⟨rfl, rfl⟩) (fun h => by cases h) (fun h => by cases h) (fun _ => q) (fun h => by cases h) (fun h => by cases h)
  · rcases hk with hk | hk
    · exact .inl (.inl hk)
    · rcases hl with rfl | ⟨g, rfl, hg⟩
      · exact .inl (.inr hk)
      · cases hk; exact .inr ⟨hg, (q.row_lt _ rfl).1⟩
  · match j, hj with
    | 0, _ => rfl
    | 1, _ => rfl
    | 3, _ => rfl
    | 4, _ => rfl
    | (n + 5), _ => rfl
theorem KS.set4 {v1' : Value} (h : KS W w b1 l1 x1 b2 l2 x2 b3 l3 x3 v1 pp v2 gg) (q : w'.ownsRow W.heap.size Qptr.ET 1 v1' pp'.length (pp'.map ptr)) (hl : v1'.ownBlock = v1.ownBlock ∨ ∃ g, v1'.ownBlock = some g ∧ w.heap.size ≤ g) (hg : w.grownBy w' v1.ownBlock) :
    KS W w' b1 l1 x1 b2 l2 x2 b3 l3 x3 v1' pp' v2 gg := by
  have hc : Chg (fun k => v1.ownBlock = some k) w w' := (Chg.refl _ w).of_grown hg (fun k hk => .inr hk)
  refine h.turn 3 hc (fun k hk => ?_) (fun j hj => ?_) (fun _ => ⟨rfl, rfl⟩) (fun _ => ⟨rfl, rfl⟩) (fun _ => ⟨rfl, rfl⟩) (fun h => absurd rfl h) (fun _ => ⟨rfl, rfl⟩) (fun h => by cases h) (fun h => by cases h) (fun h => by cases h) (fun _ => q) (fun h => by cases h)
  · rcases hl with hl | ⟨g, hl, hg⟩
    · exact .inl (hl.symm.trans hk)
    · have hk' : v1'.ownBlock = some k := hk
      rw [hl] at hk'; cases hk'; exact .inr ⟨hg, (q.lt _ hl).2⟩
  · match j, hj with
    | 0, _ => rfl
    | 1, _ => rfl
    | 2, _ => rfl
    | 4, _ => rfl
    | (n + 5), _ => rfl
theorem KS.set5 {v2' : Value} (h : KS W w b1 l1 x1 b2 l2 x2 b3 l3 x3 v1 pp v2 gg) (q : w'.ownsRow W.heap.size Qlst.ET 1 v2' gg'.length (gg'.map lst)) (hl : v2'.ownBlock = v2.ownBlock ∨ ∃ g, v2'.ownBlock = some g ∧ w.heap.size ≤ g) (hg : w.grownBy w' v2.ownBlock) :
    KS W w' b1 l1 x1 b2 l2 x2 b3 l3 x3 v1 pp v2' gg' := by
  have hc : Chg (fun k => v2.ownBlock = some k) w w' := (Chg.refl _ w).of_grown hg (fun k hk => .inr hk)
  refine h.turn 4 hc (fun k hk => ?_) (fun j hj => ?_) (fun _ => ⟨rfl, rfl⟩) (fun _ => ⟨rfl, rfl⟩) (fun _ => ⟨rfl, rfl⟩) (fun _ => ⟨rfl, rfl⟩) (fun h => absurd rfl h) (fun h => by cases h) (fun h => by cases h) (fun h => by cases h) (fun h => by cases h) (fun _ => q)
  · rcases hl with hl | ⟨g, hl, hg⟩
    · exact .inl (hl.symm.trans hk)
    · have hk' : v2'.ownBlock = some k := hk
      rw [hl] at hk'; cases hk'; exact .inr ⟨hg, (q.lt _ hl).2⟩
  · match j, hj with
    | 0, _ => rfl
    | 1, _ => rfl
    | 2, _ => rfl
    | 3, _ => rfl
    | (n + 5), _ => rfl

/-! ### The calls -/
theorem KS.push1 (h : KS W w b1 l1 x1 b2 l2 x2 b3 l3 x3 v1 pp v2 gg) (x : Int × Bool) (hn : x1.length < 1000) :
    Calls Try.prog 21 #[.pointer (some ⟨b1, 0, none⟩), .agg #[.int .i64 x.1, .bool x.2]] w fun e w' => e = .returned (.int .i64 0) ∧ ∃ l, KS W w' b1 l (x1 ++ [x]) b2 l2 x2 b3 l3 x3 v1 pp v2 gg := by
  refine (Qpr.push_room x w h.q1 (by omega)).mono ?_
  rintro e w' ⟨rfl, l', g1, g2, g3⟩
  exact ⟨rfl, l', h.set1 g1 g2 g3⟩
theorem KS.push2 (h : KS W w b1 l1 x1 b2 l2 x2 b3 l3 x3 v1 pp v2 gg) (x : Nat) (hn : x2.length < 1000) :
    Calls Try.prog 22 #[.pointer (some ⟨b2, 0, none⟩), .pointer (some ⟨x, 0, none⟩)] w fun e w' => e = .returned (.int .i64 0) ∧ ∃ l, KS W w' b1 l1 x1 b2 l (x2 ++ [x]) b3 l3 x3 v1 pp v2 gg := by
  refine (Qptr.push_room _ w h.q2 (by simp; omega) (fun v hv => ?_)).mono ?_
  · obtain ⟨b, _, rfl⟩ := List.mem_map.1 hv; exact ⟨_, rfl⟩
  rintro e w' ⟨rfl, l', g1, g2, g3⟩
  exact ⟨rfl, l', h.set2 (by rw [List.map_append]; exact g1) g2 g3⟩
theorem KS.push3 (h : KS W w b1 l1 x1 b2 l2 x2 b3 l3 x3 v1 pp v2 gg) (x : Nat) (hn : x3.length < 1000) :
    Calls Try.prog 23 #[.pointer (some ⟨b3, 0, none⟩), .slice (some ⟨x, 0, none⟩) 1 1] w fun e w' => e = .returned (.int .i64 0) ∧ ∃ l, KS W w' b1 l1 x1 b2 l2 x2 b3 l (x3 ++ [x]) v1 pp v2 gg := by
  refine (Qlst.push_room _ 1 1 w h.q3 (by simp; omega) (fun v hv => ?_)).mono ?_
  · obtain ⟨b, _, rfl⟩ := List.mem_map.1 hv; exact ⟨_, _, _, rfl⟩
  rintro e w' ⟨rfl, l', g1, g2, g3⟩
  exact ⟨rfl, l', h.set3 (by rw [List.map_append]; exact g1) g2 g3⟩
theorem KS.pop1 {x : Int × Bool} (h : KS W w b1 l1 (x :: x1) b2 l2 x2 b3 l3 x3 v1 pp v2 gg) :
    Calls Try.prog 24 #[.pointer (some ⟨b1, 0, none⟩)] w fun e w' => e = .returned (.tuple #[.agg #[.int .i64 x.1, .bool x.2], .bool true]) ∧ ∃ l, KS W w' b1 l x1 b2 l2 x2 b3 l3 x3 v1 pp v2 gg ∧ ∀ k, k < w.heap.size → (∀ i, ¬ own5 b1 l1 b2 l2 b3 l3 v1 v2 i k) → (∀ i, ¬ own5 b1 l b2 l2 b3 l3 v1 v2 i k) ∧ w'.heap[k]? = w.heap[k]? := by
  rcases h.q1 with ⟨_, hx, _⟩ | ⟨g, n, first, arr, rfl, hq⟩
  · cases hx
  · refine (Qpr.pop_some x w hq rfl).mono ?_
    rintro e w' ⟨rfl, g1, g2⟩
    exact ⟨rfl, some g, h.set1 g1 (.inl rfl) (g2.mono (fun k _ hk => hk.imp id (fun e => congrArg some e))), fun k hk hf => ⟨hf, g2.block k hk (fun e => hf 0 (e.imp id (fun e => congrArg some e)))⟩⟩
theorem KS.pop2 {x : Nat} (h : KS W w b1 l1 x1 b2 l2 (x :: x2) b3 l3 x3 v1 pp v2 gg) :
    Calls Try.prog 25 #[.pointer (some ⟨b2, 0, none⟩)] w fun e w' => e = .returned (.tuple #[.pointer (some ⟨x, 0, none⟩), .bool true]) ∧ ∃ l, KS W w' b1 l1 x1 b2 l x2 b3 l3 x3 v1 pp v2 gg ∧ ∀ k, k < w.heap.size → (∀ i, ¬ own5 b1 l1 b2 l2 b3 l3 v1 v2 i k) → (∀ i, ¬ own5 b1 l1 b2 l b3 l3 v1 v2 i k) ∧ w'.heap[k]? = w.heap[k]? := by
  rcases h.q2 with ⟨_, hx, _⟩ | ⟨g, n, first, arr, rfl, hq⟩
  · cases hx
  · refine (Qptr.pop_some _ w hq rfl).mono ?_
    rintro e w' ⟨rfl, g1, g2⟩
    exact ⟨rfl, some g, h.set2 g1 (.inl rfl) (g2.mono (fun k _ hk => hk.imp id (fun e => congrArg some e))), fun k hk hf => ⟨hf, g2.block k hk (fun e => hf 1 (e.imp id (fun e => congrArg some e)))⟩⟩
theorem KS.pop3 {x : Nat} (h : KS W w b1 l1 x1 b2 l2 x2 b3 l3 (x :: x3) v1 pp v2 gg) :
    Calls Try.prog 26 #[.pointer (some ⟨b3, 0, none⟩)] w fun e w' => e = .returned (.tuple #[.slice (some ⟨x, 0, none⟩) 1 1, .bool true]) ∧ ∃ l, KS W w' b1 l1 x1 b2 l2 x2 b3 l x3 v1 pp v2 gg ∧ ∀ k, k < w.heap.size → (∀ i, ¬ own5 b1 l1 b2 l2 b3 l3 v1 v2 i k) → (∀ i, ¬ own5 b1 l1 b2 l2 b3 l v1 v2 i k) ∧ w'.heap[k]? = w.heap[k]? := by
  rcases h.q3 with ⟨_, hx, _⟩ | ⟨g, n, first, arr, rfl, hq⟩
  · cases hx
  · refine (Qlst.pop_some _ 1 1 w hq rfl).mono ?_
    rintro e w' ⟨rfl, g1, g2⟩
    exact ⟨rfl, some g, h.set3 g1 (.inl rfl) (g2.mono (fun k _ hk => hk.imp id (fun e => congrArg some e))), fun k hk hf => ⟨hf, g2.block k hk (fun e => hf 2 (e.imp id (fun e => congrArg some e)))⟩⟩
end
end Go.Proofs.Ytmlomceemcbnaaa.Qks
