/- The walk of LabelWays. Conditions: the row reads so, labels below 2^64, at most 2^20. -/
import Derived.Test.YtdfplhoijapoeaaHi
import Derived.Test.YtdfplhoijapoeaaLwc
import Derived.Test.YtdfplhoijapoeaaLdn
import Derived.Test.YtdfplhoijapoeaaLup
import Derived.Test.YtdfplhoijapoeaaCv
import Derived.Test.YtdfplhoijapoeaaRgt
set_option linter.unusedVariables false
set_option linter.unusedSimpArgs false
namespace Go.Proofs.Ytdfplhoijapoeaa.Lhm
open Go.RowKit Go.Proofs.Ytdfplhoijapoeaa.Lib1 Go.Proofs.Ytdfplhoijapoeaa.Lbl Go.Proofs.Ytdfplhoijapoeaa.Lbw Go.Proofs.Ytdfplhoijapoeaa.Lck Go.Proofs.Ytdfplhoijapoeaa.Lcb Go.Proofs.Ytdfplhoijapoeaa.Lcv Go.Proofs.Ytdfplhoijapoeaa.Lhg

theorem leq_iff {a b : Nat} : leq a b = true ↔ ∀ i, a.testBit i = true → b.testBit i = true := by
  constructor
  · intro h i hi
    simp only [leq, beq_iff_eq] at h
    have : (a &&& b).testBit i = a.testBit i := by rw [h]
    rw [Nat.testBit_and, hi, Bool.true_and] at this
    exact this
  · intro h
    simp only [leq, beq_iff_eq]
    refine Nat.eq_of_testBit_eq (fun i => ?_)
    rw [Nat.testBit_and]
    cases e : a.testBit i with
    | false => rfl
    | true => rw [h i e]; rfl
theorem bel_iff {a b : Nat} : bel a b = true ↔ a ≠ b ∧ leq a b = true := by
  simp [bel]
theorem bel_trans {a b c : Nat} (h : bel a b = true) (g : bel b c = true) : bel a c = true := by
  have h1 := bel_lt h
  have h2 := bel_lt g
  refine bel_iff.2 ⟨by omega, leq_iff.2 (fun i hi => leq_iff.1 (bel_iff.1 g).2 i (leq_iff.1 (bel_iff.1 h).2 i hi))⟩
/-- How many things b has and a has not. -/
def df (a b : Nat) : Nat := ((List.range 64).filter fun i => b.testBit i && !a.testBit i).length
theorem df_64 (a b : Nat) : df a b ≤ 64 := Nat.le_trans (List.length_filter_le _ _) (by simp)
theorem filter_lt {α : Type} (p q : α → Bool) : ∀ (l : List α) (x : α), x ∈ l → p x = false → q x = true → (∀ y, p y = true → q y = true) → (l.filter p).length < (l.filter q).length := fun l => by
  induction l with
  | nil => intro x h; cases h
  | cons a l ih =>
    intro x hx hp hq hpq
    have hmono : (l.filter p).length ≤ (l.filter q).length := by
      rw [← List.countP_eq_length_filter, ← List.countP_eq_length_filter]
      exact List.countP_mono_left (fun z _ hz => hpq z hz)
    rcases List.mem_cons.1 hx with rfl | h
    · rw [List.filter_cons_of_neg (by rw [hp]; decide), List.filter_cons_of_pos hq]
      simp only [List.length_cons]; omega
    · have := ih x h hp hq hpq
      by_cases e : p a = true
      · rw [List.filter_cons_of_pos e, List.filter_cons_of_pos (hpq a e)]; simp only [List.length_cons]; omega
      · rw [List.filter_cons_of_neg e]
        by_cases e2 : q a = true
        · rw [List.filter_cons_of_pos e2]; simp only [List.length_cons]; omega
        · rw [List.filter_cons_of_neg e2]; exact this
theorem df_lt {a b c : Nat} (h : bel a b = true) (hb : b < B64) (g : leq b c = true) : df b c < df a c := by
  obtain ⟨h1, h2⟩ := bel_iff.1 h
  have hex : ∃ i, b.testBit i = true ∧ a.testBit i = false := by
    by_cases hx : ∃ i, b.testBit i = true ∧ a.testBit i = false
    · exact hx
    · exfalso
      refine h1 (Nat.eq_of_testBit_eq (fun i => ?_))
      cases e : a.testBit i with
      | true => exact (leq_iff.1 h2 i e).symm
      | false =>
        cases e2 : b.testBit i with
        | false => rfl
        | true => exact absurd ⟨i, e2, e⟩ hx
  obtain ⟨i, hi, hi2⟩ := hex
  have h64 : i < 64 := by
    rcases Nat.lt_or_ge i 64 with c' | c'
    · exact c'
    · have : b.testBit i = false := Nat.testBit_lt_two_pow (Nat.lt_of_lt_of_le hb (by show 2 ^ 64 ≤ 2 ^ i; exact Nat.pow_le_pow_right (by omega) c'))
      rw [this] at hi; cases hi
  have hc := leq_iff.1 g i hi
  refine filter_lt _ _ _ i (List.mem_range.2 h64) (by rw [hi, hc]; rfl) (by rw [hc, hi2]; rfl) (fun j hj => ?_)
  simp only [Bool.and_eq_true, Bool.not_eq_true'] at hj ⊢
  refine ⟨hj.1, ?_⟩
  cases e : a.testBit j with
  | false => rfl
  | true => rw [leq_iff.1 h2 j e] at hj; cases hj.2
/-- A label that lies below y has a next one above it on the way to y. -/
theorem next (ls : List Nat) (x : Nat) : ∀ (f y : Nat), y ≤ f → y ∈ ls → bel x y = true → ∃ z ∈ ls, rt ls x z = true ∧ (z = y ∨ bel z y = true) := fun f => by
  induction f with
  | zero => intro y h0 _ hb; have := bel_lt hb; omega
  | succ f ih =>
    intro y h0 hy hb
    by_cases ha : ls.any (btw x y) = true
    · obtain ⟨c, hc, hcb⟩ := List.any_eq_true.1 ha
      simp only [btw, Bool.and_eq_true] at hcb
      have := bel_lt hcb.2
      obtain ⟨z, hz, hr, he⟩ := ih c (by omega) hc hcb.1
      refine ⟨z, hz, hr, .inr ?_⟩
      rcases he with rfl | he
      · exact hcb.2
      · exact bel_trans he hcb.2
    · refine ⟨y, hy, ?_, .inl rfl⟩
      have ha' : ls.any (btw x y) = false := by simpa using ha
      show (bel x y && !(ls.any (btw x y))) = true
      rw [hb, ha']; rfl
theorem cov_mem {ls : List Nat} {a b : Nat} (ha : a < ls.length) (hb : b < ls.length) : (a, b) ∈ covs ls ls ls.length ↔ rt ls (ls.getD a 0) (ls.getD b 0) = true := by
  unfold covs rowC
  simp only [List.mem_flatMap, List.mem_map, List.mem_filter, List.mem_range]
  constructor
  · rintro ⟨i, hi, j, ⟨hj, hr⟩, he⟩
    simp only [Prod.mk.injEq] at he
    obtain ⟨rfl, rfl⟩ := he
    exact hr
  · intro h
    exact ⟨a, ha, b, ⟨hb, h⟩, rfl⟩
theorem cov_lt {ls : List Nat} {p : Nat × Nat} (h : p ∈ covs ls ls ls.length) : p.1 < ls.length ∧ p.2 < ls.length := by
  unfold covs rowC at h
  simp only [List.mem_flatMap, List.mem_map, List.mem_filter, List.mem_range] at h
  obtain ⟨i, hi, j, ⟨hj, hr⟩, rfl⟩ := h
  exact ⟨hi, hj⟩
/-- Who must be reached after so many turns. -/
def must (ls : List Nat) (i : Nat) : Nat → Nat → Prop
  | 0, a => a = i
  | t + 1, b => must ls i t b ∨ ∃ a, must ls i t a ∧ (a, b) ∈ covs ls ls ls.length
theorem must_le {ls : List Nat} {i a : Nat} : ∀ (s t : Nat), must ls i t a → must ls i (t + s) a := fun s => by
  induction s with
  | zero => intro t h; exact h
  | succ s ih => intro t h; exact .inl (ih t h)
theorem must_way {ls : List Nat} (h64 : ∀ x ∈ ls, x < B64) {i j : Nat} (hj : j < ls.length) : ∀ (s t a : Nat), a < ls.length → must ls i t a → bel (ls.getD a 0) (ls.getD j 0) = true → df (ls.getD a 0) (ls.getD j 0) ≤ s → must ls i (t + s + 1) j := fun s => by
  have mem : ∀ k, k < ls.length → ls.getD k 0 ∈ ls := fun k hk => by
    rw [List.getD_eq_getElem?_getD, List.getElem?_eq_getElem hk]; simp
  induction s with
  | zero =>
    intro t a ha hm hb hd
    obtain ⟨z, hz, hr, he⟩ := next ls (ls.getD a 0) _ (ls.getD j 0) (Nat.le_refl _) (mem j hj) hb
    have hzb : bel (ls.getD a 0) z = true := by simp only [rt, Bool.and_eq_true] at hr; exact hr.1
    rcases he with rfl | he
    · exact .inr ⟨a, by simpa using hm, (cov_mem ha hj).2 hr⟩
    · have := df_lt hzb (h64 z hz) (bel_iff.1 he).2
      omega
  | succ s ih =>
    intro t a ha hm hb hd
    obtain ⟨z, hz, hr, he⟩ := next ls (ls.getD a 0) _ (ls.getD j 0) (Nat.le_refl _) (mem j hj) hb
    have hzb : bel (ls.getD a 0) z = true := by simp only [rt, Bool.and_eq_true] at hr; exact hr.1
    rcases he with rfl | he
    · have : must ls i (t + 1) j := .inr ⟨a, hm, (cov_mem ha hj).2 hr⟩
      have := must_le (s + 1) _ this
      rwa [show t + 1 + (s + 1) = t + (s + 1) + 1 by omega] at this
    · have hd2 := df_lt hzb (h64 z hz) (bel_iff.1 he).2
      obtain ⟨b, hbl, rfl⟩ := List.getElem_of_mem hz
      have e : ls[b] = ls.getD b 0 := by rw [List.getD_eq_getElem?_getD, List.getElem?_eq_getElem hbl]; rfl
      rw [e] at hr he hd2
      have := ih (t + 1) b hbl (.inr ⟨a, hm, (cov_mem ha hbl).2 hr⟩) he (by omega)
      rwa [show t + 1 + s + 1 = t + (s + 1) + 1 by omega] at this
/-- Who is above i is reached after 65 turns. -/
theorem must_65 {ls : List Nat} (h64 : ∀ x ∈ ls, x < B64) {i j : Nat} (hi : i < ls.length) (hj : j < ls.length) (hb : bel (ls.getD i 0) (ls.getD j 0) = true) : must ls i 65 j := by
  have := must_way h64 hj 64 0 i hi rfl hb (df_64 _ _)
  simpa using this
end Go.Proofs.Ytdfplhoijapoeaa.Lhm
namespace Go.Proofs.Ytdfplhoijapoeaa.Lhn
open Go.RowKit Go.Proofs.Ytdfplhoijapoeaa.Lib1 Go.Proofs.Ytdfplhoijapoeaa.Lat Go.Proofs.Ytdfplhoijapoeaa.Lbl Go.Proofs.Ytdfplhoijapoeaa.Lbw Go.Proofs.Ytdfplhoijapoeaa.Lck Go.Proofs.Ytdfplhoijapoeaa.Lmay

set_option maxRecDepth 100000 in
theorem has_any (l : List Int) (x : Int) (A : Option Addr) (n c : Nat) (w : World) (ok : Nat → Prop) (h : Rd ok w A n c 1 (is l)) (hn : n ≤ 9223372036854775807) :
    Calls Try.prog 47 #[.slice A n c, .int .i64 x] w fun e w' => e = .returned (.bool (decide (x ∈ l))) ∧ w = w' := by
  have HL : Hid (l.length = n) := by have := h.len; rw [is_len] at this; show _ = _; omega
  have HR := Lib.hid (fun hp => rd_is h hp)
  clear h
  go_enter Try.func47, Try.ntmps47
  go_wp2
  go_loop [5] (fun i => ∃ k : Nat, k ≤ n ∧ i = .int .i64 k ∧ ∀ j, j < k → l.getD j 0 ≠ x) (fun i => n - (intOf i).toNat)
  case atStart => exact ⟨0, by omega, rfl, fun j hj => absurd hj (by omega)⟩
  case round =>
    obtain ⟨k, hk, rfl, hall⟩ := hrel
    have HA := Lib.hid hall
    clear hall
    by_cases hlt : k < n
    · obtain ⟨bb, off, rfl, _, hc⟩ := HR.out (by omega)
      have hck := hc k hlt
      clear hc
      obtain ⟨y, hy⟩ : ∃ y, y = l.getD k 0 := ⟨_, rfl⟩
      rw [← hy] at hck
      have HY := Lib.hid hy
      clear hy
      by_cases hxy : y = x
      · have hmem : Hid (x ∈ l) := by
          have hkl : k < l.length := by have := HL.out; omega
          show _ ∈ _
          rw [← hxy, HY.out, List.getD_eq_getElem?_getD, List.getElem?_eq_getElem hkl]; simp
        have hd : (y == x) = true := by simp [hxy]
        clear hxy
        go_wp2
        go_ret
        exact ⟨ret_bool (by rw [decide_eq_true hmem.out]), rfl⟩
      · have hd : (y == x) = false := by simp [hxy]
        have HNE := Lib.hid hxy
        clear hxy
        go_wp2
        go_round
        case rel => exact ⟨k + 1, hlt, by go_num, fun j hj => by
          by_cases e : j = k
          · subst e; rw [← HY.out]; exact HNE.out
          · exact HA.out j (by omega)⟩
        case measure => simp [intOf]; omega
    · go_wp2
      go_ret
      have hnm : x ∉ l := fun hm => by
        obtain ⟨j, hj, rfl⟩ := List.getElem_of_mem hm
        have := HA.out j (by have := HL.out; omega)
        rw [List.getD_eq_getElem?_getD, List.getElem?_eq_getElem hj] at this
        exact this rfl
      exact ⟨ret_bool (by rw [decide_eq_false hnm]), rfl⟩
end Go.Proofs.Ytdfplhoijapoeaa.Lhn
namespace Go.Proofs.Ytdfplhoijapoeaa.Lwp
open Go.RowKit Go.Proofs.Ytdfplhoijapoeaa.Lib1 Go.Proofs.Ytdfplhoijapoeaa.Rel Go.Proofs.Ytdfplhoijapoeaa.Own Go.Proofs.Ytdfplhoijapoeaa.Lat Go.Proofs.Ytdfplhoijapoeaa.Lbl Go.Proofs.Ytdfplhoijapoeaa.Lbw Go.Proofs.Ytdfplhoijapoeaa.Lck Go.Proofs.Ytdfplhoijapoeaa.Lmay Go.Proofs.Ytdfplhoijapoeaa.Lpl Go.Proofs.Ytdfplhoijapoeaa.Lkd Go.Proofs.Ytdfplhoijapoeaa.Law Go.Proofs.Ytdfplhoijapoeaa.Lwc
theorem own_is {base : Nat} {w : World} {v : Value} {l : List Int} {e : TypeId} (h : OwnL (Kd.int .i64) e base w v l) : ∃ A c, v = .slice A l.length c ∧ Rd (fun k => base ≤ k ∧ k < w.heap.size) w A l.length c 1 (is l) := by
  obtain ⟨A, c, cells, he, hrd, hel⟩ := h.reads (bytes := 8)
  simp only [List.cons.injEq, and_true] at he
  have e1 := flat_cells (d := Kd.int .i64) (fun x => [.int .i64 x]) (fun _ _ _ _ h => h) (by decide) l cells _ w hrd.len hel
  rw [flatMap_one] at e1
  rw [e1] at hrd
  exact ⟨A, c, he, hrd⟩

end Go.Proofs.Ytdfplhoijapoeaa.Lwp
namespace Go.Proofs.Ytdfplhoijapoeaa.Lrw
open Go.RowKit Go.Proofs.Ytdfplhoijapoeaa.Lib1 Go.Proofs.Ytdfplhoijapoeaa.Rel Go.Proofs.Ytdfplhoijapoeaa.Lat Go.Proofs.Ytdfplhoijapoeaa.Lbl Go.Proofs.Ytdfplhoijapoeaa.Lbw Go.Proofs.Ytdfplhoijapoeaa.Lck Go.Proofs.Ytdfplhoijapoeaa.Lcb Go.Proofs.Ytdfplhoijapoeaa.Lcv Go.Proofs.Ytdfplhoijapoeaa.Lpl Go.Proofs.Ytdfplhoijapoeaa.Law Go.Proofs.Ytdfplhoijapoeaa.Lwc Go.Proofs.Ytdfplhoijapoeaa.Lcw
theorem flat2_len (ps : List (Nat × Nat)) : (flat2 ps).length = ps.length * 2 := by
  induction ps with
  | nil => rfl
  | cons a ps ih => simp only [flat2, List.flatMap_cons, List.length_append, List.length_cons, List.length_nil] at ih ⊢; omega
theorem flat2_get (ps : List (Nat × Nat)) (k : Nat) (h : k < ps.length) : (flat2 ps)[k * 2]? = some (.int .i64 ((ps.getD k (0, 0)).1 : Nat)) ∧ (flat2 ps)[k * 2 + 1]? = some (.int .i64 ((ps.getD k (0, 0)).2 : Nat)) := by
  induction ps generalizing k with
  | nil => simp at h
  | cons a ps ih =>
    cases k with
    | zero => simp [flat2, List.getD_eq_getElem?_getD]
    | succ k =>
      have := ih k (by simpa using h)
      simp only [flat2, List.flatMap_cons, List.getD_eq_getElem?_getD, List.getElem?_cons_succ] at this ⊢
      rw [List.getElem?_append_right (by simp; omega), List.getElem?_append_right (by simp; omega)]
      simp only [List.length_cons, List.length_nil]
      rw [show (k + 1) * 2 - (0 + 1 + 1) = k * 2 by omega, show (k + 1) * 2 + 1 - (0 + 1 + 1) = k * 2 + 1 by omega]
      exact this
theorem rd_flat2 {ok : Nat → Prop} {w : World} {A : Option Addr} {n c : Nat} {ps : List (Nat × Nat)} (h : Rd ok w A n c 2 (flat2 ps)) (hp : 0 < n) :
    ∃ b off, A = some ⟨b, off, none⟩ ∧ ok b ∧ ∀ k, k < n → w.cell? ⟨b, off + k * 2, none⟩ = some (.int .i64 ((ps.getD k (0, 0)).1 : Nat)) ∧ w.cell? ⟨b, off + k * 2 + 1, none⟩ = some (.int .i64 ((ps.getD k (0, 0)).2 : Nat)) := by
  obtain ⟨b, off, e, ho, hc⟩ := h.at_ hp
  have hl := h.len
  rw [flat2_len] at hl
  refine ⟨b, off, e, ho, fun k hk => ?_⟩
  obtain ⟨h1, h2⟩ := flat2_get ps k (by omega)
  refine ⟨hc _ _ h1, ?_⟩
  rw [Nat.add_assoc]
  exact hc _ _ h2

end Go.Proofs.Ytdfplhoijapoeaa.Lrw
namespace Go.Proofs.Ytdfplhoijapoeaa.Lho
open Go.RowKit Go.Proofs.Ytdfplhoijapoeaa.Lib1 Go.Proofs.Ytdfplhoijapoeaa.Lat Go.Proofs.Ytdfplhoijapoeaa.Lbl Go.Proofs.Ytdfplhoijapoeaa.Lbw Go.Proofs.Ytdfplhoijapoeaa.Lck Go.Proofs.Ytdfplhoijapoeaa.Lmay Go.Proofs.Ytdfplhoijapoeaa.Lcb Go.Proofs.Ytdfplhoijapoeaa.Rgn Go.Proofs.Ytdfplhoijapoeaa.Rgs Go.Proofs.Ytdfplhoijapoeaa.Rgt Go.Proofs.Ytdfplhoijapoeaa.Lpl Go.Proofs.Ytdfplhoijapoeaa.Law Go.Proofs.Ytdfplhoijapoeaa.Lwc Go.Proofs.Ytdfplhoijapoeaa.Lhg Go.Proofs.Ytdfplhoijapoeaa.Lhh Go.Proofs.Ytdfplhoijapoeaa.Lhi Go.Proofs.Ytdfplhoijapoeaa.Lhn

def nIs (l : List Int) : Note := ⟨fun v w => ∃ B n c, v = .slice B n c ∧ n ≤ 9223372036854775807 ∧ Rd (fun k => k < w.heap.size) w B n c 1 (is l), fun v w w' hc h => by
  obtain ⟨B, n, c, e, hn, hr⟩ := h
  exact ⟨B, n, c, e, hn, (hr.move (fun k hk => hc.block k hk (fun h => h))).mono (fun k hk => Nat.lt_of_lt_of_le hk hc.size)⟩⟩
section
variable {w : World} {ls : List Nat} {A : Option Addr} {n c : Nat}
theorem downs_len (ls : List Nat) (l k : Nat) : (Ldn.downs ls l k).length ≤ k := by
  unfold Ldn.downs; rw [List.length_map]; exact Nat.le_trans (List.length_filter_le _ _) (by simp)
theorem ups_len (ls : List Nat) (l k : Nat) : (Lup.downs ls l k).length ≤ k := by
  unfold Lup.downs; rw [List.length_map]; exact Nat.le_trans (List.length_filter_le _ _) (by simp)
theorem d_down (y : Nat) (h : Rd (fun k => k < w.heap.size) w A n c 1 (us ls)) (hb : ∀ x ∈ ls, x < B64) (hy : y < B64) (hn : n * 8 ≤ 140737488351232) : Calls Try.prog 43 #[.slice A n c, .int .u64 (y : Int)] w fun e w' => ∃ v, e = .returned v ∧ Chg (fun _ => False) w w' ∧ (nIs (Ldn.downs ls y n)).f v w' :=
  (Ldn.down_any ls y A n c w _ h (fun k hk => hk) hb hy hn).mono fun e w' ⟨v, he, ho, hc⟩ => by
    obtain ⟨B, d, rfl, hr⟩ := Lwp.own_is ho
    have := downs_len ls y n
    exact ⟨_, he, hc, B, _, d, rfl, by omega, hr.mono (fun k hk => hk.2)⟩
theorem d_up (y : Nat) (h : Rd (fun k => k < w.heap.size) w A n c 1 (us ls)) (hb : ∀ x ∈ ls, x < B64) (hy : y < B64) (hn : n * 8 ≤ 140737488351232) : Calls Try.prog 45 #[.slice A n c, .int .u64 (y : Int)] w fun e w' => ∃ v, e = .returned v ∧ Chg (fun _ => False) w w' ∧ (nIs (Lup.downs ls y n)).f v w' :=
  (Lup.down_any ls y A n c w _ h (fun k hk => hk) hb hy hn).mono fun e w' ⟨v, he, ho, hc⟩ => by
    obtain ⟨B, d, rfl, hr⟩ := Lwp.own_is ho
    have := ups_len ls y n
    exact ⟨_, he, hc, B, _, d, rfl, by omega, hr.mono (fun k hk => hk.2)⟩
theorem d_has {v : Value} {l : List Int} {x : Int} {bb : Bool} (h : (nIs l).f v w) (hb : decide (x ∈ l) = bb) : Calls Try.prog 47 #[v, .int .i64 x] w fun e w' => ∃ u, e = .returned u ∧ Chg (fun _ => False) w w' ∧ u = .bool bb := by
  obtain ⟨B, m, d, rfl, hm, hr⟩ := h
  refine (has_any l x B m d w _ hr hm).mono ?_
  rintro e w' ⟨rfl, rfl⟩
  exact ⟨_, rfl, Chg.refl _ _, by rw [hb]⟩
end
/-- A block of Booleans. -/
def BB (w : World) (g n : Nat) (F : Nat → Bool) : Prop := ∃ arr : Array Value, w.heap[g]? = some (.cells arr 4 (0, 0)) ∧ arr.size = n ∧ ∀ q, q < n → arr[q]? = some (.bool (F q))
theorem BB.cell {w : World} {g n : Nat} {F : Nat → Bool} (h : BB w g n F) {q : Nat} (hq : q < n) : w.cell? ⟨g, q, none⟩ = some (.bool (F q)) := by
  obtain ⟨arr, h1, h2, h3⟩ := h
  exact cell_at h1 q (h3 q hq)
theorem BB.free {w : World} {g n : Nat} {F : Nat → Bool} (h : BB w g n F) (q : Nat) : w.frozen? ⟨g, q, none⟩ = false := by
  obtain ⟨arr, h1, h2, h3⟩ := h
  exact free_at h1 q
theorem BB.made (w : World) (n : Nat) : BB (w.alloc (.cells (madeCells #[.bool false] n) 4)) w.heap.size n (fun _ => false) :=
  ⟨_, heap_new _ _, size_madeCells _ _, fun i hi => by simp [madeCells, hi, Nat.mod_one]⟩
theorem BB.set {w : World} {g n : Nat} {F : Nat → Bool} (h : BB w g n F) {i : Nat} (hi : i < n) (v : Bool) : BB (w.setCell ⟨g, i, none⟩ (.bool v)) g n (fun q => if q = i then v else F q) := by
  obtain ⟨arr, h1, h2, h3⟩ := h
  refine ⟨_, heap_set h1 i _, by simpa using h2, fun q hq => ?_⟩
  show _ = some (Value.bool (if q = i then v else F q))
  by_cases e : q = i
  · subst e; rw [Array.getElem?_setIfInBounds_self_of_lt (by omega), if_pos rfl]
  · rw [Array.getElem?_setIfInBounds_ne (Ne.symm e), if_neg e]; exact h3 q hq
theorem BB.move {w w' : World} {g n : Nat} {F : Nat → Bool} (h : BB w g n F) (he : w'.heap[g]? = w.heap[g]?) : BB w' g n F := by
  obtain ⟨arr, h1, h2, h3⟩ := h
  exact ⟨arr, he.trans h1, h2, h3⟩
theorem BB.lt {w : World} {g n : Nat} {F : Nat → Bool} (h : BB w g n F) : g < w.heap.size := by
  obtain ⟨arr, h1, h2, h3⟩ := h
  exact lt_of w h1
theorem info_bool : (Try.prog.info? 4).map (fun i => (i.zero, i.size, i.bytes)) = some (some (.bool false), 1, 1) := by kernel_rfl
theorem make_bool (n : Nat) (hn : n * 8 ≤ 140737488351232) (W : World) : (Instr.makeSlice 72 (.int .i64 (n : Int)) (.int .i64 (n : Int))).run Try.prog W = .ok (.slice (some ⟨W.heap.size, 0, none⟩) n n) (W.alloc (.cells (madeCells #[.bool false] n) 4)) := by
  obtain ⟨i0, hi, hz0, hz1, hz2⟩ := info_parts info_bool
  have hb : (i0.bytes : Int) * (n : Int) ≤ 281474976710656 := by rw [hz2]; omega
  have hr := run_make (P := Try.prog) W 72 4 i0 _ Try.underlying72 hi hz0 .i64 .i64 n n (by omega) (by omega) hb (by omega)
  rw [hz1] at hr
  simp only [Int.toNat_natCast, Nat.mul_one] at hr
  exact hr
/-- Reached is whoever must be after t turns; .. and behind the first k covers of the next. -/
def Ra (ls : List Nat) (p t : Nat) (R : Nat → Bool) : Prop := ∀ a, Lhm.must ls p t a → R a = true
def Rb (ls : List Nat) (p t k : Nat) (R : Nat → Bool) : Prop := ∀ k', k' < k → Lhm.must ls p t ((Lcv.covs ls ls ls.length).getD k' (0, 0)).1 → R ((Lcv.covs ls ls ls.length).getD k' (0, 0)).2 = true
theorem ra_set {ls : List Nat} {p t b : Nat} {R : Nat → Bool} (h : Ra ls p t R) : Ra ls p t (fun q => if q = b then true else R q) := fun a ha => by
  show (if a = b then true else R a) = true
  split
  · rfl
  · exact h a ha
theorem rb_set {ls : List Nat} {p t k b : Nat} {R : Nat → Bool} (h : Rb ls p t k R) (hb : ((Lcv.covs ls ls ls.length).getD k (0, 0)).2 = b) : Rb ls p t (k + 1) (fun q => if q = b then true else R q) := fun k' hk' hm => by
  show (if ((Lcv.covs ls ls ls.length).getD k' (0, 0)).2 = b then true else R ((Lcv.covs ls ls ls.length).getD k' (0, 0)).2) = true
  split
  · rfl
  · rename_i hne
    rcases Nat.lt_or_eq_of_le (Nat.le_of_lt_succ hk') with e | rfl
    · exact h k' e hm
    · exact absurd hb hne
theorem rb_skip {ls : List Nat} {p t k a : Nat} {R : Nat → Bool} (h : Rb ls p t k R) (g : Ra ls p t R) (ha : ((Lcv.covs ls ls ls.length).getD k (0, 0)).1 = a) (hR : R a = false) : Rb ls p t (k + 1) R := fun k' hk' hm => by
  rcases Nat.lt_or_eq_of_le (Nat.le_of_lt_succ hk') with e | rfl
  · exact h k' e hm
  · rw [ha] at hm
    have := g a hm
    rw [hR] at this; cases this
theorem ra_next {ls : List Nat} {p t : Nat} {R : Nat → Bool} (h : Ra ls p t R) (g : Rb ls p t (Lcv.covs ls ls ls.length).length R) : Ra ls p (t + 1) R := fun b hb => by
  rcases hb with hb | ⟨a, ha, hm⟩
  · exact h b hb
  · obtain ⟨k, hk, he⟩ := List.getElem_of_mem hm
    have e : (Lcv.covs ls ls ls.length).getD k (0, 0) = (a, b) := by rw [List.getD_eq_getElem?_getD, List.getElem?_eq_getElem hk, he]; rfl
    have := g k hk (by rw [e]; exact ha)
    rwa [e] at this
theorem cov_at {ls : List Nat} {k : Nat} (h : k < (Lcv.covs ls ls ls.length).length) : ((Lcv.covs ls ls ls.length).getD k (0, 0)).1 < ls.length ∧ ((Lcv.covs ls ls ls.length).getD k (0, 0)).2 < ls.length := by
  refine Lhm.cov_lt ?_
  rw [List.getD_eq_getElem?_getD, List.getElem?_eq_getElem h]; simp
set_option maxRecDepth 100000 in
set_option maxHeartbeats 3200000 in
theorem ways_walk {ok : Nat → Prop} {w : World} (ls : List Nat) (A : Option Addr) (n c : Nat) (i j : Int) (h : labsK.rel ok w ls [.slice A n c]) (hok : ∀ k, ok k → k < w.heap.size) (hf : labsK.fits ls) (hN : n ≤ 1048576) :
    Calls Try.prog 15 #[.slice A n c, .int .i64 i, .int .i64 j] w fun e w' => e = .returned (.bool true) ∧ Below w.heap.size w w' := by
  obtain ⟨hr, hn, hl⟩ := labs_rd h hf
  have HL : Hid (ls.length = n) := by have := hr.len; rw [us_len] at this; show _ = _; omega
  have HR : Hid (∀ w', Chg (fun _ => False) w w' → Rd ok w' A n c 1 (us ls)) := fun w' hc => hr.move (fun k hk => hc.block k (hok k hk) (fun h => h))
  have HK : Hid (∀ w', Chg (fun _ => False) w w' → ∀ k, ok k → k < w'.heap.size) := fun w' hc k hk => Nat.lt_of_lt_of_le (hok k hk) hc.size
  have HB := Lib.hid hl
  clear h hr hl hf hok
  go_enter Try.func15, Try.ntmps15
  go_wp2_with fail
  refine (awake_any _).mono ?_
  rintro e wa ⟨rfl, hc⟩
  have CA := Lib.hid hc
  clear hc
  go_upto_region 3 with fail
  by_cases g1 : i < 0
  · have d1 : decide (i < 0) = true := by simpa using g1
    go_wp2
    go_ret
    exact ⟨rfl, CA.out.below⟩
  have d1 : decide (i < 0) = false := by simpa using g1
  by_cases g2 : j < 0
  · have d2 : decide (j < 0) = true := by simpa using g2
    go_wp2
    go_ret
    exact ⟨rfl, CA.out.below⟩
  have d2 : decide (j < 0) = false := by simpa using g2
  by_cases g3 : (n : Int) ≤ i
  · have d3 : decide ((n : Int) ≤ i) = true := by simpa using g3
    go_wp2
    go_ret
    exact ⟨rfl, CA.out.below⟩
  have d3 : decide ((n : Int) ≤ i) = false := by simpa using g3
  by_cases g4 : (n : Int) ≤ j
  · have d4 : decide ((n : Int) ≤ j) = true := by simpa using g4
    go_wp2
    go_ret
    exact ⟨rfl, CA.out.below⟩
  have d4 : decide ((n : Int) ≤ j) = false := by simpa using g4
  obtain ⟨p, rfl⟩ : ∃ p : Nat, i = p := ⟨i.toNat, by omega⟩
  obtain ⟨q, rfl⟩ : ∃ q : Nat, j = q := ⟨j.toNat, by omega⟩
  have hp : p < n := by omega
  have hq : q < n := by omega
  obtain ⟨b, off, rfl, hbk, hcl⟩ := rd_us (HR.out wa CA.out) (by omega)
  have hbw := HK.out wa CA.out b hbk
  have HCl : Hid (∀ W, Chg (fun _ => False) wa W → ∀ k, k < n → W.cell? ⟨b, off + k, none⟩ = some (.int .u64 ((ls.getD k 0 : Nat) : Int))) := fun W hW k hk => (World.cell?_of_block (a := ⟨b, off + k, none⟩) (hW.block b hbw (fun h => h))).trans (hcl k hk)
  have HRd : Hid (∀ W, Chg (fun _ => False) wa W → Rd (fun k => k < W.heap.size) W (some ⟨b, off, none⟩) n c 1 (us ls)) := fun W hW => (HR.out W (CA.out.trans hW (fun _ _ h => h))).mono (HK.out W (CA.out.trans hW (fun _ _ h => h)))
  have h64 : ∀ k, k < n → ls.getD k 0 < B64 := fun k hk => HB.out _ (mem_at (by have := HL.out; omega))
  obtain ⟨x, hx⟩ : ∃ x, x = ls.getD p 0 := ⟨_, rfl⟩
  obtain ⟨y, hy⟩ : ∃ y, y = ls.getD q 0 := ⟨_, rfl⟩
  have hx64 : x < B64 := by rw [hx]; exact h64 p hp
  have hy64 : y < B64 := by rw [hy]; exact h64 q hq
  have HX := Lib.hid hx
  have HY := Lib.hid hy
  have HCp : Hid (∀ W, Chg (fun _ => False) wa W → W.cell? ⟨b, off + p, none⟩ = some (.int .u64 (x : Int))) := fun W hW => by rw [hx]; exact HCl.out W hW p hp
  have HCq : Hid (∀ W, Chg (fun _ => False) wa W → W.cell? ⟨b, off + q, none⟩ = some (.int .u64 (y : Int))) := fun W hW => by rw [hy]; exact HCl.out W hW q hq
  obtain ⟨v, hv⟩ : ∃ v, v = leq x y := ⟨_, rfl⟩
  have hd1 : decide ((p : Int) ∈ Ldn.downs ls y n) = v := by
    rw [hv, Bool.eq_iff_iff, decide_eq_true_eq, Ldn.downs_mem, hx]
    exact ⟨fun h => h.2, fun h => ⟨hp, h⟩⟩
  have hd2 : decide ((q : Int) ∈ Lup.downs ls x n) = v := by
    rw [hv, Bool.eq_iff_iff, decide_eq_true_eq, Lup.downs_mem, hy]
    exact ⟨fun h => h.2, fun h => ⟨hq, h⟩⟩
  have D1 := Lib.hid hd1
  have D2 := Lib.hid hd2
  have HV := Lib.hid hv
  have hvv : (v != v) = false := by simp
  have hpz : (p : Int) < (n : Int) := by omega
  have hqz : (q : Int) < (n : Int) := by omega
  clear hbk hcl h64 hx hy hd1 hd2 hv g1 g2 g3 g4 HR HK hbw
  go_upto_region 5 with fail
  refine wp_region_soft (notes [Note.eq (.slice (some ⟨b, off, none⟩) n c), Note.eq (.slice (some ⟨b, off, none⟩) n c), Note.eq (.int .i64 (q : Int)), Note.eq (.pointer (some ⟨b, off + q, none⟩)), Note.eq (.int .u64 (y : Int)), nIs (Ldn.downs ls y n), Note.eq (.int .i64 (p : Int)), Note.eq (.bool v), Note.eq (.slice (some ⟨b, off, none⟩) n c), Note.eq (.slice (some ⟨b, off, none⟩) n c), Note.eq (.int .i64 (p : Int)), Note.eq (.pointer (some ⟨b, off + p, none⟩)), Note.eq (.int .u64 (x : Int)), nIs (Lup.downs ls x n), Note.eq (.int .i64 (q : Int)), Note.eq (.bool v), Note.eq (.bool false)]) (by kernel_rfl) (by kernel_rfl) (by kernel_rfl) (notes_st _) ?_
  refine soft_one (some 34) rfl (Note.eq (.slice (some ⟨b, off, none⟩) n c)).f (by kernel_rfl) (by kernel_rfl) (fun w1 hc hk => ?_) (fun x5_0 w1 hc hv => ?_)
  · exact soft_move (.tmp 0) rfl (.slice (some ⟨b, off, none⟩) n c) (by kernel_rfl) rfl
  obtain rfl : x5_0 = _ := hv
  clear hc w1
  refine soft_one (some 35) rfl (Note.eq (.slice (some ⟨b, off, none⟩) n c)).f (by kernel_rfl) (by kernel_rfl) (fun w1 hc hk => ?_) (fun x5_1 w1 hc hv => ?_)
  · exact soft_move (.tmp 0) rfl (.slice (some ⟨b, off, none⟩) n c) (by kernel_rfl) rfl
  obtain rfl : x5_1 = _ := hv
  clear hc w1
  refine soft_one (some 36) rfl (Note.eq (.int .i64 (q : Int))).f (by kernel_rfl) (by kernel_rfl) (fun w1 hc hk => ?_) (fun x5_2 w1 hc hv => ?_)
  · exact soft_move (.tmp 2) rfl (.int .i64 (q : Int)) (by kernel_rfl) rfl
  obtain rfl : x5_2 = _ := hv
  clear hc w1
  refine soft_one (some 37) rfl (Note.eq (.pointer (some ⟨b, off + q, none⟩))).f (by kernel_rfl) (by kernel_rfl) (fun w1 hc hk => ?_) (fun x5_3 w1 hc hv => ?_)
  · refine soft_at (w1 := w1) (u := .pointer (some ⟨b, off + q, none⟩)) (fun ρ => (∀ v, ρ (.const v) = v) ∧ ρ (.tmp 35) = .slice (some ⟨b, off, none⟩) n c ∧ ρ (.tmp 36) = .int .i64 (q : Int)) ⟨fun v => rfl, by kernel_rfl, by kernel_rfl⟩ (fun ρ hρ => ?_) (Chg.refl _ _) rfl; (obtain ⟨g0, g1, g2⟩ := hρ; go_simp)
  obtain rfl : x5_3 = _ := hv
  clear hc w1
  refine soft_one (some 38) rfl (Note.eq (.int .u64 (y : Int))).f (by kernel_rfl) (by kernel_rfl) (fun w1 hc hk => ?_) (fun x5_4 w1 hc hv => ?_)
  · have k0 := HCq.out _ hc; refine soft_at (w1 := w1) (u := .int .u64 (y : Int)) (fun ρ => ρ (.tmp 37) = .pointer (some ⟨b, off + q, none⟩)) (by kernel_rfl) (fun ρ hρ => ?_) (Chg.refl _ _) rfl; go_simp
  obtain rfl : x5_4 = _ := hv
  clear hc w1
  refine soft_one (some 39) rfl (nIs (Ldn.downs ls y n)).f (by kernel_rfl) (by kernel_rfl) (fun w1 hc hk => ?_) (fun x5_5 w1 hc hv => ?_)
  · exact soft_call (args := #[.slice (some ⟨b, off, none⟩) n c, .int .u64 (y : Int)]) Try.func43 (by kernel_rfl) (by kernel_rfl) rfl (by kernel_rfl) (d_down y (HRd.out w1 hc) HB.out hy64 hn)
  clear hv
  clear hc w1
  refine soft_one (some 40) rfl (Note.eq (.int .i64 (p : Int))).f (by kernel_rfl) (by kernel_rfl) (fun w1 hc hk => ?_) (fun x5_6 w1 hc hv => ?_)
  · exact soft_move (.tmp 1) rfl (.int .i64 (p : Int)) (by kernel_rfl) rfl
  obtain rfl : x5_6 = _ := hv
  clear hc w1
  refine soft_one (some 41) rfl (Note.eq (.bool v)).f (by kernel_rfl) (by kernel_rfl) (fun w1 hc hk => ?_) (fun x5_7 w1 hc hv => ?_)
  · exact soft_call (args := #[x5_5, .int .i64 (p : Int)]) Try.func47 (by kernel_rfl) (by kernel_rfl) rfl (by kernel_rfl) (d_has (known_at hk 5 (nIs (Ldn.downs ls y n)).f x5_5 (by kernel_rfl) (by kernel_rfl) (by kernel_rfl)) D1.out)
  obtain rfl : x5_7 = _ := hv
  clear hc w1
  refine soft_one (some 42) rfl (Note.eq (.slice (some ⟨b, off, none⟩) n c)).f (by kernel_rfl) (by kernel_rfl) (fun w1 hc hk => ?_) (fun x5_8 w1 hc hv => ?_)
  · exact soft_move (.tmp 0) rfl (.slice (some ⟨b, off, none⟩) n c) (by kernel_rfl) rfl
  obtain rfl : x5_8 = _ := hv
  clear hc w1
  refine soft_one (some 43) rfl (Note.eq (.slice (some ⟨b, off, none⟩) n c)).f (by kernel_rfl) (by kernel_rfl) (fun w1 hc hk => ?_) (fun x5_9 w1 hc hv => ?_)
  · exact soft_move (.tmp 0) rfl (.slice (some ⟨b, off, none⟩) n c) (by kernel_rfl) rfl
  obtain rfl : x5_9 = _ := hv
  clear hc w1
  refine soft_one (some 44) rfl (Note.eq (.int .i64 (p : Int))).f (by kernel_rfl) (by kernel_rfl) (fun w1 hc hk => ?_) (fun x5_10 w1 hc hv => ?_)
  · exact soft_move (.tmp 1) rfl (.int .i64 (p : Int)) (by kernel_rfl) rfl
  obtain rfl : x5_10 = _ := hv
  clear hc w1
  refine soft_one (some 45) rfl (Note.eq (.pointer (some ⟨b, off + p, none⟩))).f (by kernel_rfl) (by kernel_rfl) (fun w1 hc hk => ?_) (fun x5_11 w1 hc hv => ?_)
  · refine soft_at (w1 := w1) (u := .pointer (some ⟨b, off + p, none⟩)) (fun ρ => (∀ v, ρ (.const v) = v) ∧ ρ (.tmp 43) = .slice (some ⟨b, off, none⟩) n c ∧ ρ (.tmp 44) = .int .i64 (p : Int)) ⟨fun v => rfl, by kernel_rfl, by kernel_rfl⟩ (fun ρ hρ => ?_) (Chg.refl _ _) rfl; (obtain ⟨g0, g1, g2⟩ := hρ; go_simp)
  obtain rfl : x5_11 = _ := hv
  clear hc w1
  refine soft_one (some 46) rfl (Note.eq (.int .u64 (x : Int))).f (by kernel_rfl) (by kernel_rfl) (fun w1 hc hk => ?_) (fun x5_12 w1 hc hv => ?_)
  · have k0 := HCp.out _ hc; refine soft_at (w1 := w1) (u := .int .u64 (x : Int)) (fun ρ => ρ (.tmp 45) = .pointer (some ⟨b, off + p, none⟩)) (by kernel_rfl) (fun ρ hρ => ?_) (Chg.refl _ _) rfl; go_simp
  obtain rfl : x5_12 = _ := hv
  clear hc w1
  refine soft_one (some 47) rfl (nIs (Lup.downs ls x n)).f (by kernel_rfl) (by kernel_rfl) (fun w1 hc hk => ?_) (fun x5_13 w1 hc hv => ?_)
  · exact soft_call (args := #[.slice (some ⟨b, off, none⟩) n c, .int .u64 (x : Int)]) Try.func45 (by kernel_rfl) (by kernel_rfl) rfl (by kernel_rfl) (d_up x (HRd.out w1 hc) HB.out hx64 hn)
  clear hv
  clear hc w1
  refine soft_one (some 48) rfl (Note.eq (.int .i64 (q : Int))).f (by kernel_rfl) (by kernel_rfl) (fun w1 hc hk => ?_) (fun x5_14 w1 hc hv => ?_)
  · exact soft_move (.tmp 2) rfl (.int .i64 (q : Int)) (by kernel_rfl) rfl
  obtain rfl : x5_14 = _ := hv
  clear hc w1
  refine soft_one (some 49) rfl (Note.eq (.bool v)).f (by kernel_rfl) (by kernel_rfl) (fun w1 hc hk => ?_) (fun x5_15 w1 hc hv => ?_)
  · exact soft_call (args := #[x5_13, .int .i64 (q : Int)]) Try.func47 (by kernel_rfl) (by kernel_rfl) rfl (by kernel_rfl) (d_has (known_at hk 13 (nIs (Lup.downs ls x n)).f x5_13 (by kernel_rfl) (by kernel_rfl) (by kernel_rfl)) D2.out)
  obtain rfl : x5_15 = _ := hv
  clear hc w1
  refine soft_one (some 50) rfl (Note.eq (.bool false)).f (by kernel_rfl) (by kernel_rfl) (fun w1 hc hk => ?_) (fun x5_16 w1 hc hv => ?_)
  · refine soft_at (w1 := w1) (u := .bool false) (fun ρ => (∀ v, ρ (.const v) = v) ∧ ρ (.tmp 41) = .bool v ∧ ρ (.tmp 49) = .bool v) ⟨fun v => rfl, by kernel_rfl, by kernel_rfl⟩ (fun ρ hρ => ?_) (Chg.refl _ _) rfl; (obtain ⟨g0, g1, g2⟩ := hρ; go_simp)
  obtain rfl : x5_16 = _ := hv
  clear hc w1
  intro wb hcb _
  simp only [Act.put, List.setIfInBounds_toArray, List.set_cons_succ, List.set_cons_zero]
  have CB : Hid (Chg (fun _ => False) w wb) := CA.out.trans hcb (fun _ _ h => h)
  have HAB := Lib.hid hcb
  have k1 := HCp.out wb hcb
  have k2 := HCq.out wb hcb
  clear hcb
  go_wp2_with fail
  by_cases hxy : x = y
  · have e1 : ((x : Int) == (y : Int)) = true := by simp [hxy]
    clear hxy
    go_quiet (fail)
    go_wp2
    go_ret
    exact ⟨rfl, (CB.out.drewN _).below⟩
  have e1 : ((x : Int) == (y : Int)) = false := by rw [beq_eq_false_iff_ne]; omega
  have HNE := Lib.hid hxy
  have hlq : ∀ W, Calls Try.prog 17 #[.int .u64 (x : Int), .int .u64 (y : Int)] W fun e w' => e = .returned (.bool v) ∧ w' = W := fun W => (leq_any x y W hx64 hy64).mono (fun _ _ h => ⟨h.1.trans (by rw [HV.out]), h.2.symm⟩)
  clear hxy
  cases v with
  | false =>
    go_quiet ((go_at_call 17; exact Calls.quiet_of_same (hlq _)))
    go_wp2
    go_ret
    exact ⟨rfl, (CB.out.drewN _).below⟩
  | true =>
    have HBel : Hid (bel (ls.getD p 0) (ls.getD q 0) = true) := by
      show _ = _
      rw [← HX.out, ← HY.out]
      exact Lhm.bel_iff.2 ⟨HNE.out, HV.out.symm⟩
    go_quiet ((go_at_call 17; exact Calls.quiet_of_same (hlq _)))
    clear hlq k1 k2
    have H2 := Lib.hid (heights_any ls (some ⟨b, off, none⟩) n c (wb.drewN nq) _ (HRd.out _ (HAB.out.drewN nq)) (fun k hk => hk) hn HB.out)
    go_wp2_with fail
    refine H2.out.mono ?_
    clear H2
    rintro e w2 ⟨g, F, rfl, hg, hi, hF, hc⟩
    have C2 : Hid (Chg (fun _ => False) wa w2) := (HAB.out.drewN nq).trans hc (fun _ _ h => h)
    have o1 := hi.cell hp
    have o2 := hi.cell hq
    have hlt : F p < F q := by
      rw [hF p hp, hF q hq]
      have := hg_le (mem_at (by have := HL.out; omega)) HBel.out
      omega
    generalize F p = a1 at o1 hlt
    generalize F q = a2 at o2 hlt
    have d1 : decide ((a2 : Int) ≤ (a1 : Int)) = false := by simp; omega
    have d2 : decide (a2 ≤ a1) = false := by simp; omega
    have hmk := make_bool n hn
    clear hi hF hc hg hlt
    go_wp2_with fail
    go_quiet (fail)
    clear o1 o2 d1 d2
    obtain ⟨w3, hw3⟩ : ∃ w3, w3 = w2.drewN nq := ⟨_, rfl⟩
    have C3 : Hid (Chg (fun _ => False) wa w3) := by rw [hw3]; exact C2.out.drewN _
    rw [← hw3]
    clear hw3 C2
    obtain ⟨g2, hg2⟩ : ∃ g2, g2 = w3.heap.size := ⟨_, rfl⟩
    have HG2 := Lib.hid hg2
    have HGw : Hid (wa.heap.size ≤ g2) := by show _ ≤ _; rw [hg2]; exact C3.out.size
    have hb0 : BB (w3.alloc (.cells (madeCells #[.bool false] n) 4)) g2 n (fun _ => false) := by rw [hg2]; exact BB.made _ _
    have f1 := hb0.cell hp
    have f2 := hb0.free p
    rw [hg2] at f1 f2
    obtain ⟨w4, hw4⟩ : ∃ w4, w4 = w3.alloc (.cells ((madeCells #[.bool false] n).setIfInBounds p (.bool true)) 4) := ⟨_, rfl⟩
    have HI4 : Hid (BB w4 g2 n (fun t => if t = p then true else false)) := by
      show BB _ _ _ _
      rw [hw4, hg2]
      refine ⟨_, heap_new _ _, by rw [Array.size_setIfInBounds, size_madeCells], fun k hk => ?_⟩
      show _ = some (Value.bool (if k = p then true else false))
      by_cases e : k = p
      · subst e; rw [Array.getElem?_setIfInBounds_self_of_lt (by rw [size_madeCells]; exact hk), if_pos rfl]
      · rw [Array.getElem?_setIfInBounds_ne (Ne.symm e), if_neg e]; simp [madeCells, hk, Nat.mod_one]
    have C4 : Hid (Chg (fun _ => False) wa w4) := by
      show Chg _ _ _
      rw [hw4]
      exact C3.out.alloc _
    have HW4 : Hid (w3.alloc (.cells ((madeCells #[.bool false] n).setIfInBounds p (.bool true)) 4) = w4) := hw4.symm
    have H5 := Lib.hid (Lcw.covers_all ls (some ⟨b, off, none⟩) n c w4 (HRd.out _ C4.out) hN HB.out)
    clear hb0 hw4 hg2 C3
    go_wp2_with fail
    rw [HW4.out]
    refine H5.out.mono ?_
    clear H5 HW4 f1 f2
    rintro e w5 ⟨vv, rfl, ho, hc⟩
    obtain ⟨A5, c5, rfl, hr5⟩ := Rd.of_own ho
    have HRC := Lib.hid (fun hp => Lrw.rd_flat2 hr5 hp)
    have HOB : Hid (∀ k, Value.ownBlock (.slice A5 (Lcv.covs ls ls ls.length).length c5) = some k → k < w5.heap.size ∧ k ≠ g2) := fun k hk => ⟨(ho.lt k hk).2, fun e => by have := (ho.lt k hk).1; have := HI4.out.lt; omega⟩
    have HI5 : Hid (BB w5 g2 n (fun t => if t = p then true else false)) := HI4.out.move (hc.block g2 HI4.out.lt (fun h => h))
    have C5 : Hid (Chg (fun _ => False) wa w5) := C4.out.trans hc (fun _ _ h => h)
    have hcap5 := hr5.cap
    have HCA := Lib.hid (fun k hk => cov_at (ls := ls) (k := k) hk)
    obtain ⟨N, hNN⟩ : ∃ N, N = (Lcv.covs ls ls ls.length).length := ⟨_, rfl⟩
    have hNb : N ≤ 1099511627776 := by
      have h1 := Lcv.covs_len ls ls ls.length
      have h3 : ls.length ≤ 1048576 := by have := HL.out; omega
      have h4 : ls.length * ls.length ≤ 1048576 * 1048576 := Nat.mul_le_mul h3 h3
      rw [hNN]; omega
    rw [← hNN] at HRC HOB HCA hcap5 ⊢
    have HNN := Lib.hid hNN
    clear ho hc hr5 HI4 C4 hNN
    go_wp2
    go_loopw [10] (fun v10 wr => ∃ (t : Nat) (R : Nat → Bool), v10 = .int .i64 t ∧ t ≤ 65 ∧ Hid (BB wr g2 n R) ∧ Hid (Ra ls p t R) ∧ Hid (Chg (fun q => q = g2) w5 wr)) (fun v10 _ => 65 - (intOf v10).toNat)
    case atStart => exact ⟨0, _, rfl, by omega, HI5, (fun a ha => by show (if a = p then true else false) = true; exact if_pos (show a = p from ha)), Chg.refl _ _⟩
    case round =>
      clear HI5
      obtain ⟨wo, rfl⟩ : ∃ wo : World, wo = wr := ⟨_, rfl⟩
      obtain ⟨t, R, rfl, ht, HI, HRa, HC⟩ := hrel
      by_cases hlt : t ≤ 64
      · have hltz : (t : Int) ≤ 64 := by omega
        go_wp2
        go_loopw [11] (fun v11 wr => ∃ (k : Nat) (R : Nat → Bool), v11 = .int .i64 k ∧ k ≤ N ∧ Hid (BB wr g2 n R) ∧ Hid (Ra ls p t R) ∧ Hid (Rb ls p t k R) ∧ Hid (Chg (fun q => q = g2) w5 wr)) (fun v11 _ => N - (intOf v11).toNat)
        case atStart => exact ⟨0, R, rfl, Nat.zero_le _, HI, HRa, (fun k' hk' => absurd hk' (by omega)), HC⟩
        case round =>
          clear HI HRa HC
          obtain ⟨wi, rfl⟩ : ∃ wi : World, wi = wr := ⟨_, rfl⟩
          obtain ⟨k, R2, rfl, hk, HI, HRa, HRb, HC⟩ := hrel
          by_cases hltk : k < N
          · obtain ⟨b5, off5, rfl, hb5, hc5⟩ := HRC.out (by omega)
            obtain ⟨q1, q2⟩ := hc5 k hltk
            obtain ⟨hb5l, hb5n⟩ := HOB.out b5 hb5
            have o1 := (World.cell?_of_block (a := ⟨b5, off5 + k * 2, none⟩) (HC.out.block b5 hb5l hb5n)).trans q1
            have o2 := (World.cell?_of_block (a := ⟨b5, off5 + k * 2 + 1, none⟩) (HC.out.block b5 hb5l hb5n)).trans q2
            obtain ⟨ha, hbb⟩ := HCA.out k hltk
            obtain ⟨a9, ea⟩ : ∃ a9, a9 = ((Lcv.covs ls ls ls.length).getD k (0, 0)).1 := ⟨_, rfl⟩
            obtain ⟨b9, eb⟩ : ∃ b9, b9 = ((Lcv.covs ls ls ls.length).getD k (0, 0)).2 := ⟨_, rfl⟩
            rw [← ea] at o1 ha
            rw [← eb] at o2 hbb
            rw [HL.out] at ha hbb
            have EA := Lib.hid ea
            have EB := Lib.hid eb
            have i1 : (k : Int) < (N : Int) := by omega
            have i2 : decide ((a9 : Int) < 0) = false := by simp
            have i3 : decide ((b9 : Int) < 0) = false := by simp
            have i4 : decide ((n : Int) ≤ (a9 : Int)) = false := by simp; omega
            have i5 : decide ((n : Int) ≤ (b9 : Int)) = false := by simp; omega
            have i6 : (a9 : Int) < (n : Int) := by omega
            have i7 : (b9 : Int) < (n : Int) := by omega
            have i8 : decide (n ≤ a9) = false := by simp; omega
            have i9 : decide (n ≤ b9) = false := by simp; omega
            have o3 := HI.out.cell ha
            have o4 := HI.out.cell hbb
            have o5 := HI.out.free b9
            rw [HG2.out] at o3 o4 o5
            clear q1 q2 hc5 hb5 hb5l hb5n ea eb
            obtain ⟨r9, er⟩ : ∃ r9, r9 = R2 a9 := ⟨_, rfl⟩
            rw [← er] at o3
            have ER := Lib.hid er
            clear er
            cases r9 with
            | true =>
              go_wp2_with fail
              go_quiet (fail)
              clear o1 o2
              go_wp2
              go_roundw
              case rel =>
                refine ⟨k + 1, fun t => if t = b9 then true else R2 t, by go_num, hltk, ?_, ra_set HRa.out, rb_set HRb.out EB.out.symm, ?_⟩
                · show BB _ _ _ _
                  rw [← HG2.out]
                  exact (HI.out.move (w' := wi.drewN nq) rfl).set hbb true
                · show Chg _ _ _
                  rw [← HG2.out]
                  exact (HC.out.drewN nq).set (.inr rfl)
              case measure => simp [intOf]; omega
            | false =>
              go_wp2_with fail
              go_quiet (fail)
              clear o1 o2
              go_wp2
              go_roundw
              case rel => exact ⟨k + 1, R2, by go_num, hltk, HI.out.move rfl, HRa, rb_skip HRb.out HRa.out EA.out.symm ER.out.symm, HC.out.drewN _⟩
              case measure => simp [intOf]; omega
          · obtain rfl : k = N := by omega
            go_wp2
            go_roundw
            case rel => exact ⟨t + 1, R2, by go_num, by omega, HI, ra_next HRa.out (by rw [← HNN.out]; exact HRb.out), HC⟩
            case measure => simp [intOf]; omega
      · obtain rfl : t = 65 := by omega
        have o1 := HI.out.cell hq
        have hRq : R q = true := HRa.out q (Lhm.must_65 HB.out (by rw [HL.out]; exact hp) (by rw [HL.out]; exact hq) HBel.out)
        rw [hRq, HG2.out] at o1
        clear hRq
        go_wp2
        go_ret
        refine ⟨rfl, Chg.below ?_⟩
        have a1 : Chg (fun q => g2 ≤ q) wa w5 := C5.out.mono (fun _ _ h => h.elim)
        have a2 : Chg (fun q => g2 ≤ q) w5 wo := HC.out.mono (fun _ _ h => by omega)
        have a3 := (a1.trans a2 (fun _ _ h => h)).mono (T := fun _ => False) (fun k hk e => by have := HGw.out; omega)
        exact CA.out.trans a3 (fun _ _ h => h)
end Go.Proofs.Ytdfplhoijapoeaa.Lho
