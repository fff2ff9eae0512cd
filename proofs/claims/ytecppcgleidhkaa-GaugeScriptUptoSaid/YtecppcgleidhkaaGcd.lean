/- One gauge of a script beside the document's: one call more. Conditions: both have heard the same. -/
import Derived.Test.YtecppcgleidhkaaGcc
import Derived.Test.YtecppcgleidhkaaGcb0
import Derived.Test.YtecppcgleidhkaaGcb2
import Derived.Test.YtecppcgleidhkaaGcb3
import Derived.Test.YtecppcgleidhkaaGcb4
import Derived.Test.YtecppcgleidhkaaGcb5
import Derived.Test.YtecppcgleidhkaaGcb6
import Derived.Test.YtecppcgleidhkaaGcb7
set_option linter.unusedVariables false
set_option linter.unusedSimpArgs false
set_option exponentiation.threshold 3000
namespace Go.Proofs.Ytecppcgleidhkaa.Gs
open Go.RowKit Go.Proofs.Ytecppcgleidhkaa.Lib1 Go.Proofs.Ytecppcgleidhkaa.Rel Go.Proofs.Ytecppcgleidhkaa.Own Go.Proofs.Ytecppcgleidhkaa.Fl Go.Proofs.Ytecppcgleidhkaa.Gp Go.Proofs.Ytecppcgleidhkaa.Gw Go.Proofs.Ytecppcgleidhkaa.Gm Go.Proofs.Ytecppcgleidhkaa.Gk Go.Proofs.Ytecppcgleidhkaa.Gb Go.Proofs.Ytecppcgleidhkaa.Gx

/-- A gauge and the document's beside it: none at all, or both have heard the same. -/
structure Side (E ok : Nat → Prop) (w : World) (N : Nat) (gv : Value) (t : Bool) (kp : Nat) (A : Option Addr) (n c : Nat) (B : Option Addr) (m d : Nat) : Prop where
  is : (gv = .pointer none ∧ t = false ∧ kp = 0 ∧ A = none ∧ n = 0 ∧ c = 0 ∧ B = none ∧ m = 0 ∧ d = 0) ∨
    ∃ b g, gv = .pointer (some ⟨b, 0, none⟩) ∧ t = true ∧ kp = g.keep ∧ GV E w b g ∧ RW ok w A n c B m d g ∧ g.Good ∧ Rise g ∧ n ≤ N ∧ g.slots.length = n ∧ m = n
  low : ∀ k, E k → k < w.heap.size
  okl : ∀ k, ok k → k < w.heap.size
  ap : ∀ k, ok k → ¬ E k
section
variable {E ok S : Nat → Prop} {w w1 : World} {N : Nat} {gv : Value} {t : Bool} {kp : Nat} {A B : Option Addr} {n c m d : Nat}
theorem Side.none (w : World) (N : Nat) : Side (fun _ => False) (fun _ => False) w N (.pointer .none) false 0 .none 0 0 .none 0 0 :=
  ⟨.inl ⟨rfl, rfl, rfl, rfl, rfl, rfl, rfl, rfl, rfl⟩, fun _ h => h.elim, fun _ h => h.elim, fun _ h => h.elim⟩
theorem Side.chg {N' : Nat} (h : Side E ok w N gv t kp A n c B m d) (hc : Chg S w w1) (hE : ∀ k, E k → ¬ S k) (ho : ∀ k, ok k → ¬ S k) (hN : N ≤ N') : Side E ok w1 N' gv t kp A n c B m d := by
  refine ⟨h.is.imp id ?_, fun k hk => Nat.lt_of_lt_of_le (h.low k hk) hc.size, fun k hk => Nat.lt_of_lt_of_le (h.okl k hk) hc.size, h.ap⟩
  rintro ⟨b, g, h1, h2, h3, h4, h5, h6, h7, h8, h9⟩
  exact ⟨b, g, h1, h2, h3, h4.chg hc hE, h5.move (fun k hk => hc.block k (h.okl k hk) (ho k hk)), h6, h7, Nat.le_trans h8 hN, h9⟩
theorem Side.tells (h : Side E ok w N gv t kp A n c B m d) (hN : N ≤ 17592186043904) : ∃ T, Tells w gv t kp A n c B m d T := by
  rcases h.is with ⟨rfl, rfl, rfl, rfl, rfl, rfl, rfl, rfl, rfl⟩ | ⟨b, g, rfl, rfl, rfl, h4, h5, h6, h7, h8, h9⟩
  · exact ⟨_, tells_none w⟩
  · exact ⟨_, tells_some h4 h6 (h5.mono h.okl) h7 (by omega)⟩
end
theorem rise_hear {g : G} {s : Int} {x : Int} (h : Rise g) (ht : takes g s = true) : Rise (g.hear s.toNat x) := by
  obtain ⟨h1, h2, h3⟩ := takes_spec ht
  intro i a b ha hb
  have ha' : (g.slots ++ [s.toNat])[i]? = some a := ha
  have hb' : (g.slots ++ [s.toNat])[i + 1]? = some b := hb
  have hlb := (List.getElem?_eq_some_iff.1 hb').1
  simp only [List.length_append, List.length_singleton] at hlb
  rw [List.getElem?_append_left (by omega)] at ha'
  by_cases hl : i + 1 < g.slots.length
  · rw [List.getElem?_append_left hl] at hb'
    exact h i a b ha' hb'
  · have hi : i + 1 = g.slots.length := by omega
    rw [hi, List.getElem?_append_right (Nat.le_refl _)] at hb'
    simp at hb'
    have : g.slots.getLast? = some a := by rw [List.getLast?_eq_getElem?, ← hi]; exact ha'
    unfold G.last at h3
    rw [this] at h3
    simp at h3
    omega
theorem good_hear {g : G} {s : Int} {x : Int} (h : g.Good) (ht : takes g s = true) (hn : g.slots.length + 1 < 2 ^ 50) : (g.hear s.toNat x).Good := by
  obtain ⟨h1, h2, h3⟩ := takes_spec ht
  refine ⟨h.keep, fun y hy => ?_, ?_, ?_⟩
  · have hy' : y ∈ g.slots ++ [s.toNat] := hy
    rcases List.mem_append.1 hy' with hy | hy
    · exact h.ok y hy
    · have : y = s.toNat := by simpa using hy
      subst this
      have : (2 : Nat) ^ 62 = 4611686018427387904 := by decide
      omega
  · show (g.codes ++ [x]).length = (g.slots ++ [s.toNat]).length
    rw [List.length_append, List.length_append, h.len]
    rfl
  · show (g.slots ++ [s.toNat]).length < 2 ^ 50
    rw [List.length_append]
    exact hn
/-- What a call leaves. -/
def Next (E ok : Nat → Prop) (w : World) (N : Nat) (gv : Value) (e : Ending) (w' : World) : Prop :=
  ∃ (E' ok' : Nat → Prop) (t : Bool) (kp : Nat) (A : Option Addr) (n c : Nat) (B : Option Addr) (m d : Nat), e = .returned (.tuple #[.agg #[.bool t, .float .f64 kp, .slice A n c, .slice B m d], .bool true]) ∧ Side E' ok' w' (N + 1) gv t kp A n c B m d ∧
    (∀ k, E' k → E k ∨ w.heap.size ≤ k) ∧ (∀ k, ok' k → ok k ∨ w.heap.size ≤ k) ∧ Chg E w w'
theorem called_side {E ok : Nat → Prop} {w : World} {N : Nat} {gv : Value} {t : Bool} {kp : Nat} {A B : Option Addr} {n c m d : Nat} (h : Side E ok w N gv t kp A n c B m d) (hN : N ≤ 1048577) (kd who : Int) (kp2 : Nat) (sl cd : Int) (hsl : (Lit.int .i64 sl).wf = true) (hcd : (Lit.int .i64 cd).wf = true) :
    Calls Try.prog 19 #[gv, .agg #[.bool t, .float .f64 kp, .slice A n c, .slice B m d], .agg #[.int .i64 kd, .int .i64 who, .float .f64 kp2, .int .i64 sl, .int .i64 cd]] w fun e w' => Next E ok w N gv e w' := by
  obtain ⟨T, hT⟩ := h.tells (by omega)
  have stay : ∀ w', Chg (fun _ => False) w w' → Next E ok w N gv (.returned (.tuple #[.agg #[.bool t, .float .f64 kp, .slice A n c, .slice B m d], .bool true])) w' := fun w' hc =>
    ⟨E, ok, t, kp, A, n, c, B, m, d, rfl, h.chg hc (fun _ _ h => h) (fun _ _ h => h) (Nat.le_succ N), fun k hk => .inl hk, fun k hk => .inl hk, (Chg.refl _ w).trans hc (fun _ _ h => h.elim)⟩
  by_cases h2 : kd = 2
  · subst h2; exact (called_2 hT who kp2 sl cd hcd).mono fun e w' ⟨he, hc⟩ => he ▸ stay w' hc
  by_cases h3 : kd = 3
  · subst h3; exact (called_3 hT who kp2 sl cd hcd).mono fun e w' ⟨he, hc⟩ => he ▸ stay w' hc
  by_cases h4 : kd = 4
  · subst h4; exact (called_4 hT who kp2 sl cd hcd).mono fun e w' ⟨he, hc⟩ => he ▸ stay w' hc
  by_cases h5 : kd = 5
  · subst h5; exact (called_5 hT who kp2 sl cd hcd).mono fun e w' ⟨he, hc⟩ => he ▸ stay w' hc
  by_cases h6 : kd = 6
  · subst h6; exact (called_6 hT who kp2 sl cd hcd).mono fun e w' ⟨he, hc⟩ => he ▸ stay w' hc
  by_cases h7 : kd = 7
  · subst h7; exact (called_7 hT who kp2 sl cd hcd).mono fun e w' ⟨he, hc⟩ => he ▸ stay w' hc
  by_cases h1 : kd = 1
  rotate_left
  · exact (called_0 hT kd who kp2 sl cd hcd h1 h2 h3 h4 h5 h6 h7).mono fun e w' ⟨he, hc⟩ => he ▸ stay w' hc
  subst h1
  have hsb : -9223372036854775808 ≤ sl ∧ sl ≤ 9223372036854775807 := by
    simp [Lit.wf, IntKind.min, IntKind.max, IntKind.bits, IntKind.signed] at hsl
    omega
  have weak : ∀ W W', Chg (fun _ => False) W W' → Chg (fun k => k < w.heap.size) W W' := fun W W' hc => (Chg.refl _ W).trans hc (fun _ _ h => h.elim)
  have quiet : ∀ (W W1 W2 W3 w' : World), Chg (fun _ => False) w W → Chg (fun _ => False) W W1 → Chg (fun _ => False) W1 W2 → Chg (fun _ => False) W2 W3 → Chg (fun k => (w.heap.size ≤ k ∧ k < W.heap.size) ∨ (W1.heap.size ≤ k ∧ k < W2.heap.size)) W3 w' → Chg (fun _ => False) w w' := fun W W1 W2 W3 w' a b c d e =>
    (((a.trans b (fun _ _ h => h)).trans c (fun _ _ h => h)).trans d (fun _ _ h => h)).trans e (fun k hk h => by have h1 := a.size; have h2 := b.size; omega)
  rcases h.is with ⟨rfl, rfl, rfl, rfl, rfl, rfl, rfl, rfl, rfl⟩ | ⟨b, g, rfl, rfl, rfl, hg, hr, hgd, hri, hn, hgl, hmn⟩
  · refine (called_1 hT who kp2 sl cd 1 (fun W W' => Chg (fun _ => False) W W') (fun _ _ v => v = .agg #[.bool false, .float .f64 0, .slice none 0 0, .slice none 0 0]) (fun W hW => (hear_nil sl cd W).mono fun e w' ⟨he, hc⟩ => ⟨he, hc, weak _ _ hc⟩) (fun W W1 W2 a b c d => (rhear_nil 0 sl cd W2 none none 0 0 0 0).mono fun e w' ⟨he, hc⟩ => ⟨⟨_, _, _, _, _, _, _, _, he, rfl⟩, hc⟩)).mono ?_
    rintro e w' ⟨W, W1, W2, W3, wv', he, a, b, c, d, rfl, f, g⟩
    subst he
    exact stay w' (quiet W W1 W2 W3 w' a b d f g)
  · have hgr : ∀ W, Chg E w W → RW (fun k => k < W.heap.size) W A n c B m d g := fun W hW => (hr.move (fun k hk => hW.block k (h.okl k hk) (h.ap k hk))).mono (fun k hk => Nat.lt_of_lt_of_le (h.okl k hk) hW.size)
    cases ht : takes g sl with
    | false =>
      refine (called_1 hT who kp2 sl cd 2 (fun W W' => Chg (fun _ => False) W W') (fun _ _ v => v = .agg #[.bool true, .float .f64 g.keep, .slice A n c, .slice B m d]) (fun W hW => (hear_walk (hg.chg hW (fun _ _ h => h)) hgd sl cd hcd (by omega) hsb).mono fun e w' h => ?_) (fun W W1 W2 a b _ d => (rhear_walk ((hgr W2 ((((Chg.refl _ w).trans a (fun _ _ h => h.elim)).trans b (fun _ _ h => h.elim)).trans d (fun _ _ h => h.elim)))) (by omega) (by omega) g.keep sl cd hsb hgd.ok).mono fun e w' ⟨h, hc⟩ => ?_)).mono ?_
      · rw [if_neg (by rw [ht]; simp)] at h
        exact ⟨h.1, h.2, weak _ _ h.2⟩
      · rw [if_neg (by rw [ht]; simp)] at h
        exact ⟨⟨_, _, _, _, _, _, _, _, h, rfl⟩, hc⟩
      · rintro e w' ⟨W, W1, W2, W3, wv', he, a, b, c, d, rfl, f, g⟩
        subst he
        exact stay w' (quiet W W1 W2 W3 w' a b d f g)
    | true =>
      refine (called_1 hT who kp2 sl cd 0 (fun W W' => (∃ E', GV E' W' b (g.hear sl.toNat cd) ∧ (∀ k, E' k → E k ∨ W.heap.size ≤ k)) ∧ Chg E W W') (fun lo W v => ∃ A' c' B' d', v = .agg #[.bool true, .float .f64 g.keep, .slice A' (n + 1) c', .slice B' (m + 1) d'] ∧ RW (fun k => lo ≤ k ∧ k < W.heap.size) W A' (n + 1) c' B' (m + 1) d' (g.hear sl.toNat cd)) (fun W hW => (hear_walk (hg.chg hW (fun _ _ h => h)) hgd sl cd hcd (by omega) hsb).mono fun e w' hh => ?_) (fun W W1 W2 a b _ d => (rhear_walk ((hgr W2 ((((Chg.refl _ w).trans a (fun _ _ h => h.elim)).trans b.2 (fun _ _ h => h)).trans d (fun _ _ h => h.elim)))) (by omega) (by omega) g.keep sl cd hsb hgd.ok).mono fun e w' ⟨hh, hc⟩ => ?_)).mono ?_
      · rw [if_pos ht] at hh
        exact ⟨hh.1, hh.2, (Chg.refl _ W).trans hh.2.2 (fun k _ hk => h.low k hk)⟩
      · rw [if_pos ht] at hh
        obtain ⟨A', c', B', d', he, hrw⟩ := hh
        exact ⟨⟨_, _, _, _, _, _, _, _, he, A', c', B', d', rfl, hrw⟩, hc⟩
      · rintro e w' ⟨W, W1, W2, W3, wv', he, a, ⟨⟨E', hg', hE'⟩, hcE⟩, _, d1, ⟨A', c', B', d', rfl, hrw⟩, f, k1⟩
        subst he
        have s1 := a.size
        have s2 := hcE.size
        have s3 := d1.size
        have s4 := f.size
        have hlow := hg'.low
        have nS : ∀ k, E' k → ¬ ((w.heap.size ≤ k ∧ k < W.heap.size) ∨ (W1.heap.size ≤ k ∧ k < W2.heap.size)) := fun k hk hs => by
          have q1 := hlow k hk
          rcases hE' k hk with q2 | q2
          · have := h.low k q2; omega
          · omega
        refine ⟨E', fun k => W2.heap.size ≤ k ∧ k < W3.heap.size, true, g.keep, A', n + 1, c', B', m + 1, d', rfl, ⟨.inr ⟨b, g.hear sl.toNat cd, rfl, rfl, rfl, ((hg'.chg d1 (fun _ _ h => h)).chg f (fun _ _ h => h)).chg k1 nS, hrw.move (fun k hk => k1.block k hk.2 (fun hs => by omega)), good_hear hgd ht (by omega), rise_hear hri ht, by omega, ?_, by omega⟩, ?_, ?_, ?_⟩, ?_, ?_, ?_⟩
        · show (g.slots ++ [sl.toNat]).length = n + 1
          rw [List.length_append, hgl]; rfl
        · intro k hk; have := hlow k hk; have := k1.size; omega
        · intro k hk; have := k1.size; omega
        · intro k hk he; have := hlow k he; omega
        · intro k hk
          rcases hE' k hk with q | q
          · exact .inl q
          · exact .inr (by omega)
        · intro k hk; exact .inr (by omega)
        · exact ((((Chg.refl _ w).trans a (fun _ _ h => h.elim)).trans hcE (fun _ _ h => h)).trans (d1.trans f (fun _ _ h => h)) (fun _ _ h => h.elim)).trans k1 (fun k hk hs => by omega)
end Go.Proofs.Ytecppcgleidhkaa.Gs
