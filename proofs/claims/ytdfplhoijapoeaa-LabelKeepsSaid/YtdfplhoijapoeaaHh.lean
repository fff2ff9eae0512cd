/- label.Heights, by contract. Conditions: the row reads so, labels below 2^64. -/
import Derived.Test.YtdfplhoijapoeaaHf
import Derived.Test.YtdfplhoijapoeaaHg
import Derived.Test.YtdfplhoijapoeaaRu
set_option linter.unusedVariables false
set_option linter.unusedSimpArgs false
namespace Go.Proofs.Ytdfplhoijapoeaa.Lhh
open Go.RowKit Go.Sort Go.Proofs.Ytdfplhoijapoeaa.Lib1 Go.Proofs.Ytdfplhoijapoeaa.Lat Go.Proofs.Ytdfplhoijapoeaa.Lbl Go.Proofs.Ytdfplhoijapoeaa.Lbw Go.Proofs.Ytdfplhoijapoeaa.Lck Go.Proofs.Ytdfplhoijapoeaa.Lcb Go.Proofs.Ytdfplhoijapoeaa.Lh Go.Proofs.Ytdfplhoijapoeaa.Lhb Go.Proofs.Ytdfplhoijapoeaa.Lhf Go.Proofs.Ytdfplhoijapoeaa.Lhg Go.Proofs.Ytdfplhoijapoeaa.Lru

theorem SW.chg {w0 W : World} {blk off sz N : Nat} {D : Array Nat} (h : SW w0 blk off sz N D W) : Chg (fun q => q = blk) w0 W := by
  obtain ⟨_, _, n, rfl⟩ := h
  refine ⟨rfl, rfl, rfl, by simp, fun k hk hne => ?_⟩
  show (w0.heap.modify blk _)[k]? = _
  rw [Array.getElem?_modify, if_neg (fun e => hne e.symm)]

/-- The labels' places by their numbers. -/
def kl (ls : List Nat) (i : Nat) : Nat := ls.getD i 0
set_option maxRecDepth 100000 in
theorem cmp_any (ls : List Nat) (B b off n c x y : Nat) (w : World) (hB : w.cell? ⟨B, 0, none⟩ = some (.slice (some ⟨b, off, none⟩) n c)) (hn : n ≤ 35184372088832) (hx : x < n) (hy : y < n)
    (h1 : w.cell? ⟨b, off + x, none⟩ = some (.int .u64 ((ls.getD x 0 : Nat) : Int))) (h2 : w.cell? ⟨b, off + y, none⟩ = some (.int .u64 ((ls.getD y 0 : Nat) : Int))) :
    Calls Try.prog 56 #[.int .i64 x, .int .i64 y, .pointer (some ⟨B, 0, none⟩)] w fun e w' => e = .returned (.int .i64 (cf (kl ls) x y)) ∧ ∃ q, w' = w.drewN q := by
  have hcf : cf (kl ls) x y = if ls.getD x 0 < ls.getD y 0 then -1 else if ls.getD y 0 < ls.getD x 0 then 1 else 0 := rfl
  have hxz : (x : Int) < (n : Int) := by omega
  have hyz : (y : Int) < (n : Int) := by omega
  generalize hp : ls.getD x 0 = X at *
  generalize hq : ls.getD y 0 = Y at *
  clear hp hq
  rcases Nat.lt_trichotomy X Y with g | g | g
  · have d1 : decide ((X : Int) < (Y : Int)) = true := by simp; omega
    rw [if_pos g] at hcf
    have HC := Lib.hid hcf
    clear hcf
    go_enter Try.func56, Try.ntmps56
    go_wp2_with fail
    go_quiet (fail)
    go_wp2
    go_ret
    exact ⟨by rw [HC.out]; rfl, _, by first | rfl | exact World.drewN_drewN _ _ _⟩
  · subst g
    have d1 : decide ((X : Int) < (X : Int)) = false := by simp
    rw [if_neg (Nat.lt_irrefl _), if_neg (Nat.lt_irrefl _)] at hcf
    have HC := Lib.hid hcf
    clear hcf
    go_enter Try.func56, Try.ntmps56
    go_wp2_with fail
    go_quiet (fail)
    go_wp2_with fail
    go_quiet (fail)
    go_wp2
    go_ret
    exact ⟨by rw [HC.out]; rfl, _, by first | rfl | exact World.drewN_drewN _ _ _⟩
  · have d1 : decide ((X : Int) < (Y : Int)) = false := by simp; omega
    have d2 : decide ((Y : Int) < (X : Int)) = true := by simp; omega
    rw [if_neg (by omega), if_pos g] at hcf
    have HC := Lib.hid hcf
    clear hcf
    go_enter Try.func56, Try.ntmps56
    go_wp2_with fail
    go_quiet (fail)
    go_wp2_with fail
    go_quiet (fail)
    go_wp2
    go_ret
    exact ⟨by rw [HC.out]; rfl, _, by first | rfl | exact World.drewN_drewN _ _ _⟩

/-- A block of numbers. -/
def IB (w : World) (g n : Nat) (F : Nat → Nat) : Prop := ∃ arr : Array Value, w.heap[g]? = some (.cells arr 3 (0, 0)) ∧ arr.size = n ∧ ∀ q, q < n → arr[q]? = some (.int .i64 ((F q : Nat) : Int))
theorem IB.cell {w : World} {g n : Nat} {F : Nat → Nat} (h : IB w g n F) {q : Nat} (hq : q < n) : w.cell? ⟨g, q, none⟩ = some (.int .i64 ((F q : Nat) : Int)) := by
  obtain ⟨arr, h1, h2, h3⟩ := h
  exact cell_at h1 q (h3 q hq)
theorem IB.free {w : World} {g n : Nat} {F : Nat → Nat} (h : IB w g n F) (q : Nat) : w.frozen? ⟨g, q, none⟩ = false := by
  obtain ⟨arr, h1, h2, h3⟩ := h
  exact free_at h1 q
theorem IB.made (w : World) (n : Nat) : IB (w.alloc (.cells (madeCells #[.int .i64 0] n) 3)) w.heap.size n (fun _ => 0) :=
  ⟨_, heap_new _ _, size_madeCells _ _, fun i hi => by simp [madeCells, hi, Nat.mod_one]⟩
theorem IB.set {w : World} {g n : Nat} {F : Nat → Nat} (h : IB w g n F) {i : Nat} (hi : i < n) (v : Nat) : IB (w.setCell ⟨g, i, none⟩ (.int .i64 (v : Int))) g n (fun q => if q = i then v else F q) := by
  obtain ⟨arr, h1, h2, h3⟩ := h
  refine ⟨_, heap_set h1 i _, by simpa using h2, fun q hq => ?_⟩
  show _ = some (Value.int .i64 ((if q = i then v else F q : Nat) : Int))
  by_cases e : q = i
  · subst e; rw [Array.getElem?_setIfInBounds_self_of_lt (by omega), if_pos rfl]
  · rw [Array.getElem?_setIfInBounds_ne (Ne.symm e), if_neg e]; exact h3 q hq
theorem IB.move {w w' : World} {g n : Nat} {F : Nat → Nat} (h : IB w g n F) (he : w'.heap[g]? = w.heap[g]?) : IB w' g n F := by
  obtain ⟨arr, h1, h2, h3⟩ := h
  exact ⟨arr, he.trans h1, h2, h3⟩
theorem IB.congr {w : World} {g n : Nat} {F G : Nat → Nat} (h : IB w g n F) (he : ∀ q, q < n → F q = G q) : IB w g n G := by
  obtain ⟨arr, h1, h2, h3⟩ := h
  exact ⟨arr, h1, h2, fun q hq => by rw [h3 q hq, he q hq]⟩
theorem IB.lt {w : World} {g n : Nat} {F : Nat → Nat} (h : IB w g n F) : g < w.heap.size := by
  obtain ⟨arr, h1, h2, h3⟩ := h
  exact lt_of w h1
/-- The order that the sort leaves. -/
structure Ord (ls : List Nat) (n : Nat) (E : Nat → Nat) : Prop where
  lt : ∀ q, q < n → E q < n
  inj : ∀ p q, p < n → q < n → E p = E q → p = q
  all : ∀ t, t < n → ∃ q, q < n ∧ E q = t
  up : ∀ p q, p ≤ q → q < n → ls.getD (E p) 0 ≤ ls.getD (E q) 0
theorem ord_of {ls : List Nat} {n : Nat} {E : Array Nat} (hs : E.size = n) (hP : PermIn 0 n (Array.range n) E) (hS : Sd (kl ls) 0 n E) : Ord ls n (fun q => E[q]!) := by
  have hp : E.toList.Perm (List.range n) := by
    have := hP.2.2
    rwa [Array.extract_eq_self_of_le (by omega), Array.extract_eq_self_of_le (by simp), Array.toList_range] at this
  have hg : ∀ q (h : q < n), E[q]! = E.toList[q]'(by rw [Array.length_toList, hs]; exact h) := fun q h => by
    rw [getElem!_pos E q (by omega)]; simp
  have hnd : E.toList.Nodup := hp.nodup_iff.2 List.nodup_range
  refine ⟨fun q hq => ?_, fun a b ha hb he => ?_, fun t ht => ?_, fun a b h1 h2 => hS a b (Nat.zero_le _) h1 h2⟩
  · have : E[q]! ∈ E.toList := by rw [hg q hq]; exact List.getElem_mem _
    exact List.mem_range.1 (hp.mem_iff.1 this)
  · have he' : E[a]! = E[b]! := he
    rw [hg a ha, hg b hb] at he'
    have hpw := List.pairwise_iff_getElem.1 hnd
    have hl : E.toList.length = n := by rw [Array.length_toList, hs]
    rcases Nat.lt_trichotomy a b with g | g | g
    · exact absurd he' (hpw a b (by omega) (by omega) g)
    · exact g
    · exact absurd he'.symm (hpw b a (by omega) (by omega) g)
  · have : t ∈ E.toList := hp.mem_iff.2 (List.mem_range.2 ht)
    obtain ⟨q, hq, he⟩ := List.getElem_of_mem this
    have hq' : q < n := by rw [Array.length_toList, hs] at hq; exact hq
    exact ⟨q, hq', by show E[q]! = t; rw [hg q hq', he]⟩
/-- The heights of the first k are laid, all others are 0. -/
def H1 (ls : List Nat) (n k : Nat) (E F : Nat → Nat) : Prop := ∀ q, q < n → F (E q) = if q < k then hg ls (ls.getD (E q) 0) else 0
/-- .. and of the k-th as far as the first q below it. -/
structure H2 (ls : List Nat) (n k q : Nat) (E F : Nat → Nat) : Prop where
  oth : ∀ p, p < n → p ≠ k → F (E p) = if p < k then hg ls (ls.getD (E p) 0) else 0
  le : F (E k) ≤ hg ls (ls.getD (E k) 0)
  ge : ∀ p, p < q → bel (ls.getD (E p) 0) (ls.getD (E k) 0) = true → hg ls (ls.getD (E p) 0) + 1 ≤ F (E k)
theorem H1.open {ls : List Nat} {n k : Nat} {E F : Nat → Nat} (h : H1 ls n k E F) (hk : k < n) : H2 ls n k 0 E F :=
  ⟨fun p hp _ => h p hp, by rw [h k hk, if_neg (Nat.lt_irrefl _)]; exact Nat.zero_le _, fun p hp => by omega⟩
theorem H2.skip {ls : List Nat} {n k q : Nat} {E F : Nat → Nat} (h : H2 ls n k q E F) (hb : bel (ls.getD (E q) 0) (ls.getD (E k) 0) = false) : H2 ls n k (q + 1) E F :=
  ⟨h.oth, h.le, fun p hp hpb => by
    rcases Nat.lt_or_eq_of_le (Nat.le_of_lt_succ hp) with g | rfl
    · exact h.ge p g hpb
    · rw [hb] at hpb; cases hpb⟩
theorem mem_at {ls : List Nat} {i : Nat} (h : i < ls.length) : ls.getD i 0 ∈ ls := by
  rw [List.getD_eq_getElem?_getD, List.getElem?_eq_getElem h]; simp
theorem H2.more {ls : List Nat} {n k q : Nat} {E F : Nat → Nat} (h : H2 ls n k q E F) (hl : ls.length = n) (hO : Ord ls n E) (hk : k < n) (hq : q < k) (hb : bel (ls.getD (E q) 0) (ls.getD (E k) 0) = true) : H2 ls n k (q + 1) E (fun t => if t = E k then max (F (E k)) (F (E q) + 1) else F t) := by
  have hFq : F (E q) = hg ls (ls.getD (E q) 0) := by rw [h.oth q (by omega) (by omega), if_pos hq]
  refine ⟨fun p hp hpk => ?_, ?_, fun p hp hpb => ?_⟩
  · show (if E p = E k then _ else _) = _
    rw [if_neg (fun e => hpk (hO.inj p k hp hk e))]
    exact h.oth p hp hpk
  · show (if E k = E k then _ else _) ≤ _
    rw [if_pos rfl, hFq]
    exact Nat.max_le.2 ⟨h.le, hg_le (mem_at (by rw [hl]; exact hO.lt q (by omega))) hb⟩
  · show _ ≤ (if E k = E k then _ else _)
    rw [if_pos rfl, hFq]
    rcases Nat.lt_or_eq_of_le (Nat.le_of_lt_succ hp) with g | rfl
    · exact Nat.le_trans (h.ge p g hpb) (Nat.le_max_left _ _)
    · exact Nat.le_max_right _ _
theorem H2.shut {ls : List Nat} {n k : Nat} {E F : Nat → Nat} (h : H2 ls n k k E F) (hl : ls.length = n) (hO : Ord ls n E) (hk : k < n) : H1 ls n (k + 1) E F := fun p hp => by
  by_cases e : p = k
  · subst e
    rw [if_pos (by omega)]
    refine Nat.le_antisymm h.le ?_
    rcases hg_at ls (ls.getD (E p) 0) with h0 | ⟨y, hy, hb, he⟩
    · omega
    · obtain ⟨t, ht, rfl⟩ := List.getElem_of_mem hy
      obtain ⟨r, hr, rfl⟩ := hO.all t (by omega)
      have e2 : ls[E r] = ls.getD (E r) 0 := by rw [List.getD_eq_getElem?_getD, List.getElem?_eq_getElem ht]; rfl
      rw [e2] at hb he
      have hlt := bel_lt hb
      have hrk : r < p := by
        rcases Nat.lt_or_ge r p with g | g
        · exact g
        · have := hO.up p r g hr; omega
      rw [he]
      exact h.ge r hrk hb
  · rw [h.oth p hp e]
    by_cases g : p < k
    · rw [if_pos g, if_pos (by omega)]
    · rw [if_neg g, if_neg (by omega)]
theorem H1.done {ls : List Nat} {n : Nat} {E F : Nat → Nat} (h : H1 ls n n E F) (hO : Ord ls n E) : ∀ t, t < n → F t = hg ls (ls.getD t 0) := fun t ht => by
  obtain ⟨q, hq, rfl⟩ := hO.all t ht
  rw [h q hq, if_pos hq]
end Go.Proofs.Ytdfplhoijapoeaa.Lhh
