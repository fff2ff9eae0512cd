/- For QueueWalk: what a round of the walk may turn, and what stays. Conditions: as told. -/
import Derived.Test.YtmlomceemcbnaaaQheld
import Derived.Test.YtmlomceemcbnaaaQWstr
import Derived.RangeFuncFrom
set_option linter.unusedVariables false
set_option linter.unusedSimpArgs false
namespace Go.Proofs.Ytmlomceemcbnaaa.Qwalk
open Go.RowKit Go.Proofs.Ytmlomceemcbnaaa.Lib1 Go.Proofs.Ytmlomceemcbnaaa.Q Go.Proofs.Ytmlomceemcbnaaa.Qstr Go.Proofs.Ytmlomceemcbnaaa.Qat Go.Proofs.Ytmlomceemcbnaaa.Qdoes Go.Proofs.Ytmlomceemcbnaaa.Qheld Go.Proofs.Ytmlomceemcbnaaa.Iter

/-- The blocks of the queue at b, of the reference's box bx, and the counter's box bn. -/
def fp (b bx bn : Nat) (W : World) (k : Nat) : Prop :=
  k = b ∨ k = bx ∨ k = bn ∨ (∃ v, W.cell? ⟨b, 1, none⟩ = some v ∧ v.ownBlock = some k) ∨ (∃ v, W.cell? ⟨bx, 1, none⟩ = some v ∧ v.ownBlock = some k)

theorem q_cell1 {w : World} {b : Nat} {l : Option Nat} {most : Int} {xs : List Value} (h : IsQ QT ET w b l most xs) : ∃ v, w.cell? ⟨b, 1, none⟩ = some v ∧ ∀ k, v.ownBlock = some k ↔ some k = l := by
  rcases h with ⟨rfl, _, _, _, h⟩ | ⟨g, n, first, arr, rfl, h⟩
  · exact ⟨_, cell_at h 1 rfl, fun k => by simp [Value.ownBlock]⟩
  · exact ⟨_, h.c1, fun k => by simp [Value.ownBlock, eq_comm]⟩

section
variable {wq W W' : World} {b bx bn : Nat} {most : Int} {l l' : Option Nat} {v v' : Value} {ss ss' : List ByteArray}
theorem held_q (h : HeldAt wq W bx (some ⟨b, 0, none⟩) most l v ss) : IsQ QT ET W b l most (enc ss) := by
  rcases h.agree.q with ⟨h, _⟩ | ⟨b', e, h⟩
  · cases h
  · cases e; exact h
theorem fp_iff (h : HeldAt wq W bx (some ⟨b, 0, none⟩) most l v ss) (k : Nat) : fp b bx bn W k ↔ k = bx ∨ k = bn ∨ Mine (some ⟨b, 0, none⟩) l k ∨ v.ownBlock = some k := by
  obtain ⟨u, hu, huk⟩ := q_cell1 (held_q h)
  have hx := cell_at h.box 1 rfl
  constructor
  · rintro (rfl | rfl | rfl | ⟨y, hy, hk⟩ | ⟨y, hy, hk⟩)
    · exact .inr (.inr (.inl (.inl rfl)))
    · exact .inl rfl
    · exact .inr (.inl rfl)
    · rw [hu] at hy; cases hy; exact .inr (.inr (.inl (.inr ((huk k).1 hk))))
    · rw [hx] at hy; cases hy; exact .inr (.inr (.inr hk))
  · rintro (rfl | rfl | (hk | hk) | hk)
    · exact .inr (.inl rfl)
    · exact .inr (.inr (.inl rfl))
    · cases hk; exact .inl rfl
    · exact .inr (.inr (.inr (.inl ⟨u, hu, (huk k).2 hk⟩)))
    · exact .inr (.inr (.inr (.inr ⟨v, hx, hk⟩)))
theorem fp_putObj (W : World) (l : Nat) (o o' : Obj) (h : W.heap[l]? = some o) (hc : o.isCells = false) (hb : l ≠ b) (hx : l ≠ bx) : KpF (fp b bx bn) W (W.putObj l o') := by
  have hsame : ∀ k, k ≠ l → (W.putObj l o').heap[k]? = W.heap[k]? := fun k hk => World.putObj_heap_other hk
  refine ⟨by simp, fun k c t fr hk _ => ?_, fun k hk => .inl ?_⟩
  · refine (hsame k (fun e => ?_)).trans hk
    subst e
    rw [h] at hk; cases hk; cases hc
  · rcases hk with hk | hk | hk | ⟨v, hv, he⟩ | ⟨v, hv, he⟩
    · exact .inl hk
    · exact .inr (.inl hk)
    · exact .inr (.inr (.inl hk))
    · exact .inr (.inr (.inr (.inl ⟨v, by rwa [World.cell?_of_block (a := ⟨b, 1, none⟩) (hsame b hb.symm)] at hv, he⟩)))
    · exact .inr (.inr (.inr (.inr ⟨v, by rwa [World.cell?_of_block (a := ⟨bx, 1, none⟩) (hsame bx hx.symm)] at hv, he⟩)))

/-- The counter's box lies apart. -/
def Off (b bx bn : Nat) (l : Option Nat) (v : Value) : Prop := bn ≠ bx ∧ ¬ Mine (some ⟨b, 0, none⟩) l bn ∧ v.ownBlock ≠ some bn
/-- From a round's beginning W to where it stands, W': the queue and the reference agree; only their own blocks have turned. -/
structure Round (wq W W' : World) (b bx bn : Nat) (most : Int) : Prop where
  held : ∃ l v ss, HeldAt wq W' bx (some ⟨b, 0, none⟩) most l v ss ∧ Off b bx bn l v
  chg : Chg (fp b bx bn W) W W'
  others : KeepsOthers W W'
  grow : ∀ k, fp b bx bn W' k → fp b bx bn W k ∨ W.heap.size ≤ k
theorem Round.kp (h : Round wq W W' b bx bn most) : KpF (fp b bx bn) W W' :=
  ⟨h.chg.size, fun k c t fr hk hn => h.chg.at_ hk hn, h.grow⟩
theorem Round.refl (h : HeldAt wq W bx (some ⟨b, 0, none⟩) most l v ss) (ho : Off b bx bn l v) : Round wq W W b bx bn most := ⟨⟨l, v, ss, h, ho⟩, Chg.refl _ W, KeepsOthers.refl W, fun _ h => .inl h⟩
theorem others_chg {S : Nat → Prop} (h : Chg S W W') (hS : ∀ k o, S k → W.heap[k]? = some o → o.isCells = true) : KeepsOthers W W' :=
  ⟨h.size, fun k o hk ho => h.at_ hk (fun hs => by rw [hS k o hs hk] at ho; cases ho)⟩
theorem mine_cells (h : IsQ QT ET W b l most (enc ss)) : ∀ k o, Mine (some ⟨b, 0, none⟩) l k → W.heap[k]? = some o → o.isCells = true := by
  intro k o hk ho
  rcases h with ⟨rfl, _, _, _, h⟩ | ⟨g, n, first, arr, rfl, h⟩
  · rcases hk with hk | hk
    · cases hk; rw [h] at ho; cases ho; rfl
    · cases hk
  · rcases hk with hk | hk
    · cases hk; rw [h.hb] at ho; cases ho; rfl
    · cases hk; rw [h.hg] at ho; cases ho; rfl
/-- One step of the script in a round: the step's box laid, does, the answer's box, the new value laid into bx. -/
theorem Round.step {w5 wf : World} {o1 : Obj} (hR : Round wq W W' b bx bn most) (h : HeldAt wq W' bx (some ⟨b, 0, none⟩) most l v ss) (ho : Off b bx bn l v) (hbn : bn < W.heap.size)
    (ha : Agree w5 (some ⟨b, 0, none⟩) l' most v' ss') (hl : Fresh (W'.alloc o1) l l') (hv : Fresh (W'.alloc o1) v.ownBlock v'.ownBlock) (hc : Chg (Mine (some ⟨b, 0, none⟩) l) (W'.alloc o1) w5)
    (hf : Chg (fun k => k = bx) w5 wf) (hb : wf.heap[bx]? = some (.cells #[.int .i64 most, v'] QR (0, 0))) : Round wq W wf b bx bn most := by
  have hs := hR.chg.size
  have h4 := h.up ((Chg.refl (fun _ => False) W').alloc o1)
  have hN := h4.step ha hl hv hc hf hb
  have c1 : Chg (fp b bx bn W) W (W'.alloc o1) := hR.chg.alloc o1
  have hfp4 : ∀ k, Mine (some ⟨b, 0, none⟩) l k → fp b bx bn W k ∨ W.heap.size ≤ k := fun k hk => hR.grow k ((fp_iff h k).2 (.inr (.inr (.inl hk))))
  have hbx : fp b bx bn W bx := .inr (.inl rfl)
  have hoff : Off b bx bn l' v' := by
    refine ⟨ho.1, fun hm => ?_, fun hm => ?_⟩
    · rcases hl with rfl | hl
      · exact ho.2.1 hm
      · rcases hm with hm | hm
        · exact ho.2.1 (.inl hm)
        · have := hl bn hm.symm; simp at this; omega
    · rcases hv with hv | hv
      · exact ho.2.2 (hv ▸ hm)
      · have := hv bn hm; simp at this; omega
  refine ⟨⟨_, _, _, hN, hoff⟩, (c1.trans hc (fun k hk hm => ?_)).trans hf (fun k _ e => by rw [e]; exact hbx), ?_, fun k hk => ?_⟩
  · rcases hfp4 k hm with h1 | h1
    · exact h1
    · omega
  · refine ((hR.others.trans (KeepsOthers.alloc W' o1)).trans (others_chg hc (mine_cells (held_q h4)))).trans (others_chg hf (fun k o e hoo => ?_))
    subst e
    have := hc.at_ h4.box (fun e => (h4.apart _ (.inl e)).2 rfl)
    rw [this] at hoo; cases hoo; rfl
  · have hbw := h.chg.size
    rcases (fp_iff hN k).1 hk with rfl | rfl | hm | hm
    · exact .inl hbx
    · exact .inl (.inr (.inr (.inl rfl)))
    · rcases hl with rfl | hl
      · exact hfp4 k hm
      · rcases hm with hm | hm
        · exact hfp4 k (.inl hm)
        · have := hl k hm.symm; simp at this; exact .inr (by omega)
    · rcases hv with hv | hv
      · exact hR.grow k ((fp_iff h k).2 (.inr (.inr (.inr (hv ▸ hm)))))
      · have := hv k hm; simp at this; exact .inr (by omega)

/-- The counter turned. -/
theorem Round.count (hR : Round wq W W' b bx bn most) (h : HeldAt wq W' bx (some ⟨b, 0, none⟩) most l v ss) (ho : Off b bx bn l v) (hwq : wq.heap.size ≤ bn) {c : Array Value} {t : TypeId} (hn : W'.heap[bn]? = some (.cells c t (0, 0))) (u : Value) :
    Round wq W (W'.setCell ⟨bn, 0, none⟩ u) b bx bn most := by
  have cs : Chg (fun k => k = bn) W' (W'.setCell ⟨bn, 0, none⟩ u) := (Chg.refl (fun k => k = bn) W').set (.inr rfl)
  have hfn : fp b bx bn W bn := .inr (.inr (.inl rfl))
  have hN : HeldAt wq (W'.setCell ⟨bn, 0, none⟩ u) bx (some ⟨b, 0, none⟩) most l v ss :=
    ⟨cs.at_ h.box (fun e => ho.1 e.symm), h.agree.kept cs (fun k hk e => ho.2.1 (e ▸ hk)) (fun k hk e => ho.2.2 (e ▸ hk)), h.apart, h.low, h.chg.trans cs (fun k hk e => by omega)⟩
  refine ⟨⟨_, _, _, hN, ho⟩, hR.chg.trans cs (fun k _ e => by rw [e]; exact hfn), hR.others.trans (others_chg cs (fun k o e hk => ?_)), fun k hk => hR.grow k ((fp_iff h k).2 ((fp_iff hN k).1 hk))⟩
  subst e
  rw [hn] at hk; cases hk; rfl
end

section
variable {F : Fence} {n : Nat} {P : Program} {ops : Array Oper} {rest : List Oper} {o : Oper} {a : Act} {Q : Exit → Act → World → Prop}
/-- append(v, ys...) in a fence: v nil or a row of one's own; ys whatever reads. -/
theorem apIn_any {W : World} (hgd : o.guard = none) (s x : Operand) (t : TypeId) (ho : o.op = .call { callee := .builtin .append, args := #[s, x], argTypes := #[t, t] })
    (base e size bytes : Nat) (z : Value) (ht : P.underlying t = some (.slice e)) (hinfo : (P.info? e).map (fun i => (i.zero, i.size, i.bytes)) = some (some z, size, bytes)) (hzs : z.cells.size = size) (hsz : 0 < size) (hby : 0 < bytes)
    (v : Value) (m0 : Nat) (xs : List Value) (hs : a.eval s = v) (HO : W.ownsRow base e size v m0 xs)
    (A : Option Addr) (m c : Nat) (ys : List Value) (hx : a.eval x = .slice A m c) (HR : Rd (fun _ => True) W A m c size ys) (h1 : ∀ u ∈ ys, u.oneCell' = true)
    (hl : (m0 + m) * bytes ≤ 140737488355328) (hbase : base ≤ W.heap.size)
    (h : ∀ v1 w1, w1.ownsRow base e size v1 (m0 + m) (xs ++ ys) → W.grownBy w1 v.ownBlock → (v1.ownBlock = v.ownBlock ∨ v1.ownBlock = some W.heap.size) → wpListIn F n P ops Q rest (a.put o.dst v1) w1) :
    wpListIn F n P ops Q (o :: rest) a W := by
  rcases A with _ | ad
  · obtain ⟨i0, hi, hzz⟩ := Option.map_eq_some_iff.1 hinfo
    have hc := HR.nil rfl
    have hm : m = 0 := by have := HR.cap; omega
    subst hc hm
    obtain rfl : ys = [] := List.eq_nil_of_length_eq_zero (by have := HR.len; simpa using this)
    refine wpListIn_plain hgd fun K hK' => ?_
    have hr := run_append_owned_none (P := P) (w := W) base t o.type e i0 size ht hi v m0 xs HO
    unfold Oper.wpIn
    refine ⟨?_, ?_⟩
    · simp [Oper.about, ho, resolve, Target.leads, Sem.run_pure]
    · rw [Oper.semAt_plain F _ _ (by rw [ho]; intro c hc'; cases hc')]
      simp [execOp, ho, resolve, invoke, builtin, hs, hx, hr, Result.andThen]
      exact hK' _ _ (h v W (by simpa using HO) (World.grownBy.refl W _) (.inl rfl))
  · refine apIn_src hgd s x t ho base e size bytes z ht hinfo hzs hsz hby v m0 xs hs HO ad m c ys hx HR.len (fun j u hu => ?_) h1 hl hbase h
    have hm : 0 < m := by
      have := HR.len
      have := (List.getElem?_eq_some_iff.1 hu).1
      rcases Nat.eq_zero_or_pos m with h0 | h0
      · subst h0; omega
      · exact h0
    obtain ⟨b, off, e', _, hc⟩ := HR.at_ hm
    cases e'
    rw [add_off]
    exact hc j u hu
end

/-- Where the walk begins: the queue filled, the reference's box filled. -/
theorem start_held {w1 w3 wo w5 wp w6 : World} {b bx : Nat} {l : Option Nat} {xs : List ByteArray} {A6 : Option Addr} {c6 : Nat} (h1 : w1.heap.size = b) (hs3 : w3.heap.size = b + 2) (c13 : Chg (fun _ => False) w1 w3) (hc : Chg (fun j => j = b) w3 wo) (hl : ∀ g, l = some g → w3.heap.size ≤ g)
    (hq : IsQ QT ET wo b l 64 (enc xs)) (c5 : Chg (fun _ => False) wo w5) (hbx : w5.heap.size = bx) (cp : Chg (fun _ => False) w5 wp) (hp : wp.heap.size = bx + 2) (g6 : wp.grownBy w6 (some (bx + 1))) (g13 : w6.heap[bx]? = some (.cells #[.int .i64 64, .slice none 0 0] QR (0, 0)))
    (o6 : w6.ownsRow (bx + 1) ET 1 (.slice A6 xs.length c6) xs.length (enc xs)) (hn : xs.length ≤ 64) :
    HeldAt w1 (w6.setCell ⟨bx, 1, none⟩ (.slice A6 xs.length c6)) bx (some ⟨b, 0, none⟩) 64 l (.slice A6 xs.length c6) xs ∧
      (∀ k, (Mine (some ⟨b, 0, none⟩) l k ∨ (Value.slice A6 xs.length c6).ownBlock = some k) → b ≤ k ∧ k ≠ b + 1 ∧ k ≠ bx ∧ k < w6.heap.size) ∧ (∀ (o : Obj), w3.heap[b + 1]? = some o → (w6.setCell ⟨bx, 1, none⟩ (.slice A6 xs.length c6)).heap[b + 1]? = some o) := by
  have hso := hc.size
  have hs5 := c5.size
  have hs6 := g6.size
  have hlr := fun g (hg : l = some g) => (hq.row_lt g hg).1
  have C6 : Chg (fun k => k = bx + 1) wp w6 := (Chg.refl _ wp).of_grown g6 (fun k hk => .inr (by cases hk; rfl))
  have C7 : Chg (fun k => k = bx) w6 (w6.setCell ⟨bx, 1, none⟩ (.slice A6 xs.length c6)) := (Chg.refl (fun k => k = bx) w6).set (.inr rfl)
  have hm : ∀ k, Mine (some ⟨b, 0, none⟩) l k → b ≤ k ∧ k ≠ b + 1 ∧ k < bx := by
    rintro k (hk | hk)
    · cases hk; exact ⟨Nat.le_refl _, by omega, by omega⟩
    · have h2 := hl k hk.symm; have h3 := hlr k hk.symm; exact ⟨by omega, by omega, by omega⟩
  have hv : ∀ k, (Value.slice A6 xs.length c6).ownBlock = some k → bx + 1 ≤ k ∧ k < w6.heap.size := fun k hk => o6.lt k hk
  have c1o : Chg (fun _ => False) w1 wo := c13.trans hc (fun k hk e => by omega)
  have c1p : Chg (fun _ => False) w1 wp := (c1o.trans c5 (fun _ _ h => h)).trans cp (fun _ _ h => h)
  have hs1 := c1o.size
  have c17 : Chg (fun _ => False) w1 (w6.setCell ⟨bx, 1, none⟩ (.slice A6 xs.length c6)) := (c1p.trans C6 (fun k hk e => by omega)).trans C7 (fun k hk e => by omega)
  have co7 : Chg (fun k => k = bx ∨ k = bx + 1) wo (w6.setCell ⟨bx, 1, none⟩ (.slice A6 xs.length c6)) := ((((c5.trans cp (fun _ _ h => h)).mono (T := fun k => k = bx ∨ k = bx + 1) (fun _ _ h => h.elim)).trans C6 (fun k hk e => .inr e)).trans C7 (fun k hk e => .inl e))
  refine ⟨⟨?_, ⟨.inr ⟨b, rfl, hq.kept co7 (by omega) (fun k hk => by have := hlr k hk; omega)⟩, ⟨bx + 1, own_chg C7 o6 (fun k hk e => by have := hv k hk; omega)⟩, fun k hk hk2 => ?_, by omega, by omega⟩, fun k hk => ?_, by omega, c17⟩, fun k hk => ?_, fun o ho => ?_⟩
  · have := heap_set g13 1 (.slice A6 xs.length c6)
    simpa using this
  · have := hv k hk; have := (hm k hk2).2.2; omega
  · rcases hk with hk | hk
    · have := hm k hk; omega
    · have := hv k hk; omega
  · rcases hk with hk | hk
    · have := hm k hk; omega
    · have := hv k hk; omega
  · exact co7.at_ (hc.at_ ho (by omega)) (by have := lt_of w3 ho; omega)

section
variable {F : Fence} {n : Nat} {P : Program}
/-- A range over a function that is gone through, or left by one break: R is told behind it. -/
theorem range_break {α : Type} {g : Operand} {ps : Array Tmp} {assign body : Code} {Q : Exit → Act → World → Prop} {a : Act} {w : World} (cb : Code) (R : World → Prop)
    (hro : F.round = none) (h1 : 1 ≤ n) {gf : Nat} {lb : Array Value} (hg : a.eval g = .func (.func gf) #[] lb) (hFg : F.fn gf) (eg : ∀ args w, (callFunc gf args).run P w = .ok (.enter gf args) w)
    {encs : α → Array Value} {Kp : World → World → Prop} {S Sp : List α → Prop} {N : Nat} (hseq : SeqStopsK F (n - 1) P gf lb encs Kp S Sp N w)
    (hKt : ∀ {A B C : World}, Kp A B → Kp B C → Kp A C) (hKb : ∀ (W : World) (l : Nat) (o o' : Obj), w.heap.size ≤ l → W.heap[l]? = some o → o.isCells = false → o.isWalk = false → Kp W (W.putObj l o')) (hps : ∀ x, (encs x).size = ps.size)
    (I : List α → World → Prop) (bad : List α → Prop) (hI : OwnFrom w.heap.size I) (hR : OwnFrom w.heap.size (fun (_ : List α) => R)) (h0 : I [] w) (a₁ : α → Act)
    (hbad : ∀ pre, Sp pre → ¬ bad pre) (hgood : ∀ xs W, S xs → I xs W → R W)
    (hexit : ∀ a W, Q .normal a W → cb.wpIn F n P Q a W)
    (hassign : ∀ (l : Nat) (x : α) (W : World) (K : Act → World → Prop), K (a₁ x) W →
      assign.wpIn (F.inRound l) (n - 1 - 1) P (Exit.then K (fun _ _ _ => False)) { tmps := (ps.zip (encs x)).foldl (fun t (p, v) => t.setIfInBounds p v) a.tmps, defers := [] } W)
    (hbody : ∀ (l : Nat) (pre : List α) (x : α) (W : World), I pre W → pre.length < N → body.wpIn (F.inRound l) (n - 1 - 1) P (ownPostK Kp I (fun c xs W => (c = cb ∧ (R W ∨ bad xs)) ∨ (c = .ret ∧ bad xs)) (pre ++ [x]) W) (a₁ x) W)
    (hrest : ∀ (D : Nat) (W : World), w.heap.size ≤ D → R W → W.heap[D]? = some (.deferred (some [])) → Q .normal { a with defers := { target := .collected D, args := #[] } :: a.defers } W) :
    (Code.rangeFunc g ps assign body).wpIn F n P Q a w :=
  wpIn_rangeFunc_ownF hro h1 hg hFg eg hseq hKt hKb (Below.refl _ _) hps I (fun c xs W => (c = cb ∧ (R W ∨ bad xs)) ∨ (c = .ret ∧ bad xs)) hI
    (fun c s A B row hs hg hr => by
      rcases hs with ⟨h, hs | hs⟩ | hs
      · exact .inl ⟨h, .inl (hR s A B row hs hg hr)⟩
      · exact .inl ⟨h, .inr hs⟩
      · exact .inr hs) h0 a₁ hassign hbody
    (fun D xs W hD hS hi hK => hrest D W hD (hgood xs W hS hi) hK)
    (fun D c pre W hD hSp hx hK => by
      rcases hx with ⟨rfl, hx | hx⟩ | ⟨_, hx⟩
      · exact hexit _ _ (hrest D W hD hx hK)
      · exact absurd hx (hbad pre hSp)
      · exact absurd hx (hbad pre hSp))
end
end Go.Proofs.Ytmlomceemcbnaaa.Qwalk
