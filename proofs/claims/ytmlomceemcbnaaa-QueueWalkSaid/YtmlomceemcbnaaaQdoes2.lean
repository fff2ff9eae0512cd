/- The law's does: push, walk, clear. Conditions: the queue and the reference agree. -/
import Derived.Test.YtmlomceemcbnaaaQdoes
set_option linter.unusedVariables false
set_option linter.unusedSimpArgs false
namespace Go.Proofs.Ytmlomceemcbnaaa.Qdoes
open Go.RowKit Go.Proofs.Ytmlomceemcbnaaa.Lib1 Go.Proofs.Ytmlomceemcbnaaa.Q Go.Proofs.Ytmlomceemcbnaaa.Qstr Go.Proofs.Ytmlomceemcbnaaa.Qat

theorem cell_two' {W : World} {b c i : Nat} {x u u' : Value} (h : W.cell? ⟨b, i, none⟩ = some x) (hne : b ≠ c) : ((W.setCell ⟨c, 0, none⟩ u).setCell ⟨c, 1, none⟩ u').cell? ⟨b, i, none⟩ = some x := cell_two h hne
theorem stored' {w2 w3 : World} {p : Option Addr} {l l' : Option Nat} {most : Int} {xs : List Value} (bx : Nat) (hq3 : QAt w3 p l' most xs) (hc3 : Chg (fun k => Mine p l k ∨ k = bx) w2 w3) (hm : ∀ k, Mine p l' k → k ≠ bx) (u u' : Value) :
    QAt ((w3.setCell ⟨bx, 0, none⟩ u).setCell ⟨bx, 1, none⟩ u') p l' most xs ∧ Chg (fun k => Mine p l k ∨ k = bx) w2 ((w3.setCell ⟨bx, 0, none⟩ u).setCell ⟨bx, 1, none⟩ u') := by
  have cs : Chg (fun k => k = bx) w3 ((w3.setCell ⟨bx, 0, none⟩ u).setCell ⟨bx, 1, none⟩ u') := ((Chg.refl (fun k => k = bx) w3).set (.inr rfl)).set (.inr rfl)
  exact ⟨hq3.kept cs hm, hc3.trans cs (fun k _ e => .inr e)⟩
theorem two_set {w : World} {c : Nat} {a b u u' : Value} {t : TypeId} (h : w.heap[c]? = some (.cells #[a, b] t (0, 0))) : (((w.setCell ⟨c, 0, none⟩ u).setCell ⟨c, 1, none⟩ u').drew).heap[c]? = some (.cells #[u, u'] t (0, 0)) := by
  show ((w.setCell ⟨c, 0, none⟩ u).setCell ⟨c, 1, none⟩ u').heap[c]? = _
  have := heap_set (heap_set h 0 u) 1 u'
  simpa using this

set_option maxRecDepth 100000 in
set_option maxHeartbeats 8000000 in
theorem does_clear (w : World) (p : Option Addr) (l : Option Nat) (most : Int) (v : Value) (ss : List ByteArray) (s : ByteArray) (h : Agree w p l most v ss) :
    Calls Try.prog 33 #[.pointer p, .agg #[.int .i64 most, v], .agg #[.int .i64 5, .string s]] w (Post w p l most v []) := by
  obtain ⟨base, ho⟩ := h.own
  obtain ⟨A, c, rfl, hrd⟩ := Rd.of_own ho
  obtain ⟨w0, e0, b0, b1, b2, hs0, hc0⟩ := boxes w (.cells #[.int .i64 most, .slice A ss.length c] 25) (.cells #[.int .i64 5, .string s] 72) (.cells #[.int .i64 0, .slice none 0 0] 25)
  have H0 := h.up hc0
  have ho0 := own_chg hc0 ho (fun _ _ h => h)
  obtain ⟨k00, k01, -, -⟩ := cells2 b0
  obtain ⟨k10, k11, -, -⟩ := cells2 b1
  obtain ⟨k20, k21, k22, k23⟩ := cells2 b2
  have hq := h.few
  have hz := h.size
  have hlt : ∀ k, Mine p l k → k < w.heap.size := fun k hk => h.lt k (.inl hk)
  have H := Lib.hid h
  have HH0 := Lib.hid H0
  have HC0 := Lib.hid hc0
  have HO := Lib.hid ho0
  clear h H0 ho ho0 hrd
  go_enter Try.func33, Try.ntmps33
  go_wp2_with fail
  refine (clear_at w0 p l most ss HH0.out.q).mono ?_
  rintro e w1 ⟨rfl, hq1, hc1⟩
  have hS : ∀ k, w.heap.size ≤ k → ¬ Mine p l k := fun k hk h => by have := hlt k h; omega
  have hvS : ∀ k, (Value.slice A ss.length c).ownBlock = some k → ¬ Mine p l k := H.out.apart
  have g0 := hc1.at_ b0 (hS _ (by omega))
  have g2 := hc1.at_ b2 (hS _ (by omega))
  obtain ⟨m00, m01, -, -⟩ := cells2 g0
  have ho1 := own_chg hc1 HO.out hvS
  have HR := Lib.hid (ref_clear most (.slice A ss.length c) ss w1 base ho1)
  clear b0 b1 b2 k00 k01 k10 k11 k20 k21 k22 k23 e0 ho1 hc0 hvS
  go_wp2_with fail
  refine HR.out.mono ?_
  rintro e w2 ⟨rfl, hc2⟩
  have g2' := hc2.at_ g2 (fun h => h)
  obtain ⟨m20, m21, m22, m23⟩ := cells2 g2'
  have hc3 := Lib.hid (hc1.trans (hc2.mono (T := fun k => Mine p l k) (fun _ _ h => h.elim)) (fun k _ h => h))
  have hq2 := Lib.hid (hq1.kept hc2 (fun _ _ h => h))
  clear g0 g2 g2' hc2 hc1 hq1 hS HR m00 m01
  go_wp2
  refine bodyPost_ret (v := .tuple #[.bool true, .agg #[.int .i64 most, .slice none 0 0]]) (by simp [results, Try.results33, go_sem, *]) rfl ?_
  have Z := stored' (l := l) (w.heap.size + 2) hq2.out (hc3.out.mono (fun _ _ h => .inl h)) (mine_ne (w := w) (w2 := w0) (w.heap.size + 2) hlt (by omega) (by omega) (.inr (fun g hg => by cases hg))) (.int .i64 most) (.slice none 0 0)
  exact Post.done H.out w0 (w.heap.size + 2) (by omega) (by omega) (Nat.le_refl _) (.inr (fun g hg => by cases hg)) (.inr (fun g hg => by cases hg)) ⟨w.heap.size, World.ownsRow_nil _ _ _ _⟩ HC0.out Z.1 Z.2 (by simp; omega)

set_option maxRecDepth 100000 in
set_option maxHeartbeats 8000000 in
theorem does_walk (w : World) (p : Option Addr) (l : Option Nat) (most : Int) (v : Value) (ss : List ByteArray) (s : ByteArray) (h : Agree w p l most v ss) :
    Calls Try.prog 33 #[.pointer p, .agg #[.int .i64 most, v], .agg #[.int .i64 4, .string s]] w (Post w p l most v ss) := by
  obtain ⟨base, ho⟩ := h.own
  obtain ⟨A, c, rfl, hrd⟩ := Rd.of_own ho
  obtain ⟨w0, e0, b0, b1, b2, hs0, hc0⟩ := boxes w (.cells #[.int .i64 most, .slice A ss.length c] 25) (.cells #[.int .i64 4, .string s] 72) (.cells #[.int .i64 0, .slice none 0 0] 25)
  have H0 := h.up hc0
  have ho0 := own_chg hc0 ho (fun _ _ h => h)
  obtain ⟨k00, k01, -, -⟩ := cells2 b0
  obtain ⟨k10, k11, -, -⟩ := cells2 b1
  obtain ⟨k20, k21, k22, k23⟩ := cells2 b2
  have hq := h.few
  have hz := h.size
  have hlt : ∀ k, Mine p l k → k < w.heap.size := fun k hk => h.lt k (.inl hk)
  have H := Lib.hid h
  have HH0 := Lib.hid H0
  have HC0 := Lib.hid hc0
  have HO := Lib.hid ho0
  clear h H0 ho ho0 hrd
  go_enter Try.func33, Try.ntmps33
  go_wp2_with fail
  refine (walked_at w0 p l most ss HH0.out.q).mono ?_
  rintro e w1 ⟨v1, rfl, ho1, hc1⟩
  obtain ⟨A1, c1, rfl, hrd1⟩ := Rd.of_own ho1
  have hrd0 := (Rd.of_own (own_chg hc1 HO.out (fun _ _ h => h)))
  obtain ⟨_, _, e9, hrd0⟩ := hrd0
  cases e9
  have hs1 := hc1.size
  have l0 := HH0.out.lt
  have HE : Hid (∀ W, Chg (fun k => k = w.heap.size + 2) w1 W → Calls Try.prog 35 #[.slice A1 ss.length c1, .slice A ss.length c] W fun e w' => e = .returned (.bool true) ∧ ∃ m, w' = W.drewN m) := by
    refine Lib.hid fun W hW => equal_same ss.length (by omega) A1 A c1 c ss W _ _ (hrd1.move (fun k hk => hW.block k (ho1.lt k hk).2 ?_)) (hrd0.move (fun k hk => hW.block k (by have := l0 k (.inr hk); omega) ?_))
    · have := (ho1.lt k hk).1; omega
    · have := H.out.lt k (.inr hk); omega
  have g0 := hc1.at_ b0 (fun h => h)
  have g2 := hc1.at_ b2 (fun h => h)
  obtain ⟨m20, m21, m22, m23⟩ := cells2 g2
  obtain ⟨m00, m01, -, -⟩ := cells2 g0
  have HX := Lib.hid (HC0.out.trans hc1 (fun _ _ h => h))
  have HQ := Lib.hid (HH0.out.up hc1)
  clear b0 b1 b2 g0 g2 hc0 hc1 ho1 hrd1 hrd0 k00 k01 k10 k11 k20 k21 k22 k23 e0 l0
  go_wp2_with fail
  go_region_held3 (fun w' => w'.cell? ⟨w.heap.size, 0, none⟩ = some (.int .i64 most) ∧ w'.cell? ⟨w.heap.size, 1, none⟩ = some (.slice A ss.length c))
    (first | (refine ⟨?_, ?_⟩; all_goals (first | assumption | (refine cell_two' ?_ ?_; all_goals (first | assumption | omega)) | (refine cell_two ?_ ?_; all_goals (first | assumption | omega)))) | go_keep)
    ((go_at_call 35; refine (HE.out _ ?_).mono ?_; (repeat' (first | exact Chg.refl _ _ | refine Chg.drew ?_ | refine Chg.set ?_ (.inr rfl))); rintro e w' ⟨rfl, m, rfl⟩))
  go_wp2
  refine bodyPost_ret (v := .tuple #[.bool true, .agg #[.int .i64 most, .slice A ss.length c]]) (by simp [results, Try.results33, go_sem, *]) rfl ?_
  have HU := HQ.out.up (Chg.draws w1 (fun _ => False) (1 + m))
  have Z := stored' (l := l) (w.heap.size + 2) HU.q ((Chg.refl (fun k => Mine p l k ∨ k = w.heap.size + 2) w1).drewN (1 + m)) (fun k hk => by have := hlt k hk; omega) (.int .i64 most) (.slice A ss.length c)
  exact Post.done H.out w0 (w.heap.size + 2) (by omega) (by omega) hs1 (.inl rfl) (.inl rfl) HQ.out.own HX.out Z.1 Z.2 hq

set_option maxRecDepth 100000 in
set_option maxHeartbeats 8000000 in
theorem does_push (w : World) (p : Option Addr) (l : Option Nat) (most : Int) (v : Value) (ss : List ByteArray) (s : ByteArray) (h : Agree w p l most v ss) (b : Nat) (hp : p = some ⟨b, 0, none⟩) :
    Calls Try.prog 33 #[.pointer p, .agg #[.int .i64 most, v], .agg #[.int .i64 0, .string s]] w (Post w p l most v (if (ss.length : Int) < most then ss ++ [s] else ss)) := by
  obtain ⟨base, ho⟩ := h.own
  obtain ⟨A, c, rfl, hrd⟩ := Rd.of_own ho
  obtain ⟨w0, e0, b0, b1, b2, hs0, hc0⟩ := boxes w (.cells #[.int .i64 most, .slice A ss.length c] 25) (.cells #[.int .i64 0, .string s] 72) (.cells #[.int .i64 0, .slice none 0 0] 25)
  have H0 := h.up hc0
  have ho0 := own_chg hc0 ho (fun _ _ h => h)
  obtain ⟨k00, k01, -, -⟩ := cells2 b0
  obtain ⟨k10, k11, -, -⟩ := cells2 b1
  obtain ⟨k20, k21, k22, k23⟩ := cells2 b2
  have hq := h.few
  have hz := h.size
  have hlt : ∀ k, Mine p l k → k < w.heap.size := fun k hk => h.lt k (.inl hk)
  subst hp
  obtain ⟨ss', hss⟩ : ∃ ss', (if (ss.length : Int) < most then ss ++ [s] else ss) = ss' := ⟨_, rfl⟩
  obtain ⟨er, her⟩ : ∃ er : Int, (if (ss.length : Int) < most then (0 : Int) else 50) = er := ⟨_, rfl⟩
  have hfew : (ss'.length : Int) ≤ most := by
    rw [← hss]
    split
    · rw [List.length_append]; simp; omega
    · exact hq
  have HR := ref_push most (.slice A ss.length c) ss s w0 base ho0 hq hz
  have HPU := fun (W : World) (hW : QAt W (some ⟨b, 0, none⟩) l most (enc ss)) => push_at W b l most ss s hW
  rw [hss, her] at HR
  simp only [hss, her] at HPU
  rw [hss]
  replace HR := Lib.hid HR
  replace HPU := Lib.hid HPU
  clear hss her
  have H := Lib.hid h
  have HH0 := Lib.hid H0
  have HC0 := Lib.hid hc0
  clear h H0 ho ho0 hrd
  go_enter Try.func33, Try.ntmps33
  go_wp2_with fail
  refine HR.out.mono ?_
  rintro e w1 ⟨v', rfl, ⟨base1, ho1⟩, hf1, hc1⟩
  obtain ⟨A1, c1, rfl, -⟩ := Rd.of_own ho1
  obtain ⟨w2, e2⟩ : ∃ w2, w1.alloc (.cells #[.int .i64 most, .slice A1 ss'.length c1] 25) = w2 := ⟨_, rfl⟩
  have hc2 : Chg (fun _ => False) w0 w2 := by rw [← e2]; exact hc1.alloc _
  have b12 : w2.heap[w1.heap.size]? = some (.cells #[.int .i64 most, .slice A1 ss'.length c1] 25 (0, 0)) := by rw [← e2]; exact heap_new w1 _
  have hs1 := hc1.size
  have g2 := hc2.at_ b2 (fun h => h)
  have g1 := hc2.at_ b1 (fun h => h)
  obtain ⟨m20, m21, m22, m23⟩ := cells2 g2
  obtain ⟨m10, m11, -, -⟩ := cells2 g1
  obtain ⟨n0, n1, -, -⟩ := cells2 b12
  have HP : Hid (∀ W, Chg (fun k => k = w.heap.size + 2) w2 W → (∃ u v, W.heap[w.heap.size + 2]? = some (.cells #[u, v] 25 (0, 0))) → Calls Try.prog 16 #[.pointer (some ⟨b, 0, none⟩), .string s] W fun e w' => e = .returned (.int .i64 er) ∧ ∃ l', QAt w' (some ⟨b, 0, none⟩) l' most (enc ss') ∧ Fresh w2 l l' ∧ Chg (fun k => Mine (some ⟨b, 0, none⟩) l k ∨ k = w.heap.size + 2) w2 w' ∧
      (w'.cell? ⟨w.heap.size + 1, 1, none⟩ = some (.string s) ∧ w'.cell? ⟨w1.heap.size, 0, none⟩ = some (.int .i64 most) ∧ w'.cell? ⟨w1.heap.size, 1, none⟩ = some (.slice A1 ss'.length c1)) ∧
      (∃ x, w'.cell? ⟨w.heap.size + 1 + 1, 0, none⟩ = some x) ∧ (∃ x, w'.cell? ⟨w.heap.size + 1 + 1, 1, none⟩ = some x) ∧ w'.frozen? ⟨w.heap.size + 1 + 1, 0, none⟩ = false ∧ w'.frozen? ⟨w.heap.size + 1 + 1, 1, none⟩ = false) := by
    refine Lib.hid fun W hW hb => ?_
    have hqW := (HH0.out.up hc2).q.kept hW (fun k hk e => by have := hlt k hk; omega)
    refine (HPU.out W hqW).mono ?_
    rintro e w' ⟨rfl, l', hq', hf', hc'⟩
    have hx := (hW.trans (S := fun k => k = w.heap.size + 2) (T := fun _ => False) (Chg.refl _ W) (fun _ _ h => h.elim))
    have hS : ∀ k, w.heap.size ≤ k → ¬ Mine (some ⟨b, 0, none⟩) l k := fun k hk h => by have := hlt k h; omega
    have t1 := hc'.at_ (hW.at_ g1 (by omega)) (hS _ (by omega))
    have t12 := hc'.at_ (hW.at_ b12 (by omega)) (hS _ (by omega))
    refine ⟨rfl, l', hq', ?_, (hW.mono (fun _ _ h => .inr h)).trans hc' (fun k _ h => .inl h), ⟨(cells2 t1).2.1, (cells2 t12).1, (cells2 t12).2.1⟩, ?_⟩
    · rcases hf' with h | h
      · exact .inl h
      · exact .inr (fun g hg => Nat.le_trans hW.size (h g hg))
    · obtain ⟨u, v, hb⟩ := hb
      have t2 := cells2 (hc'.at_ hb (hS _ (by omega)))
      exact ⟨⟨_, t2.1⟩, ⟨_, t2.2.1⟩, t2.2.2.1, t2.2.2.2⟩
  have H1 := Lib.hid ho1
  have HX := Lib.hid (hc0.trans hc2 (fun _ _ h => h))
  have HF := Lib.hid hf1
  have hz2 : w1.heap.size ≤ w2.heap.size := by rw [← e2]; simp
  have G2 := Lib.hid g2
  have H1' := Lib.hid (by rw [← e2]; exact ho1.alloc _ : w2.ownsRow base1 ET 1 (.slice A1 ss'.length c1) ss'.length (enc ss'))
  clear b0 b1 b2 b12 g1 g2 hc0 hc1 hc2 ho1 hf1 HR HPU k00 k01 k10 k11 k20 k21 k22 k23 e0
  go_wp2_with fail
  go_region_held3 (fun w' => w'.cell? ⟨w.heap.size + 1, 1, none⟩ = some (.string s) ∧ w'.cell? ⟨w1.heap.size, 0, none⟩ = some (.int .i64 most) ∧ w'.cell? ⟨w1.heap.size, 1, none⟩ = some (.slice A1 ss'.length c1))
    (first | assumption | (refine ⟨?_, ?_, ?_⟩; all_goals (first | assumption | (refine cell_two' ?_ ?_; all_goals (first | assumption | omega)) | (refine cell_two ?_ ?_; all_goals (first | assumption | omega)))) | go_keep)
    ((go_at_call 16; refine (HP.out _ ?_ ?_).mono ?_; (repeat' (first | exact Chg.refl _ _ | refine Chg.drew ?_ | refine Chg.set ?_ (.inr rfl))); (first | exact ⟨_, _, G2.out⟩ | exact ⟨_, _, two_set G2.out⟩); rintro e w' ⟨rfl, l', q3, f3, c3, ⟨s31, s32, s33⟩, ⟨x0, y0⟩, ⟨x1, y1⟩, y2, y3⟩))
  go_wp2
  refine bodyPost_ret (v := .tuple #[.bool true, .agg #[.int .i64 most, .slice A1 ss'.length c1]]) (by simp [results, Try.results33, go_sem, *]) rfl ?_
  have Z := stored' (l := l) (w.heap.size + 2) q3 c3 (mine_ne (w := w) (w.heap.size + 2) hlt (by omega) (by omega) f3) (.int .i64 most) (.slice A1 ss'.length c1)
  exact Post.done H.out w0 (w.heap.size + 2) (by omega) (by omega) (by omega) HF.out f3 ⟨base1, H1'.out⟩ HX.out Z.1 Z.2 hfew

/-- does, whatever the step: where there is no queue, no push. -/
theorem does_any (w : World) (p : Option Addr) (l : Option Nat) (most : Int) (v : Value) (ss : List ByteArray) (kind : Int) (s : ByteArray) (h : Agree w p l most v ss) (hp : kind = 0 → p ≠ none) :
    Calls Try.prog 33 #[.pointer p, .agg #[.int .i64 most, v], .agg #[.int .i64 kind, .string s]] w (Post w p l most v (after most ss kind s)) := by
  unfold after
  by_cases h0 : kind = 0
  · subst h0
    rcases h.q with ⟨hn, _⟩ | ⟨b, hb, _⟩
    · exact absurd hn (hp rfl)
    · exact does_push w p l most v ss s h b hb
  rw [if_neg h0]
  by_cases h1 : kind = 1
  · subst h1; exact does_pop w p l most v ss s h
  rw [if_neg h1]
  by_cases h5 : kind = 5
  · subst h5; exact does_clear w p l most v ss s h
  rw [if_neg h5]
  by_cases h2 : kind = 2
  · subst h2; exact does_first w p l most v ss s h
  by_cases h3 : kind = 3
  · subst h3; exact does_len w p l most v ss s h
  by_cases h4 : kind = 4
  · subst h4; exact does_walk w p l most v ss s h
  exact does_other w p l most v ss s h kind h0 h1 h2 h3 h4 h5
end Go.Proofs.Ytmlomceemcbnaaa.Qdoes
