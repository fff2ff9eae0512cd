/- How fates, requests, events and configs lie in memory; how an argument opens so. Conditions: none. -/
import Derived.Test.YtchlolgfahgdeaaProg
import Derived.Test.YtchlolgfahgdeaaOwn
import Derived.Test.YtchlolgfahgdeaaEv
import Derived.Test.YtchlolgfahgdeaaLmay
import Derived.KernelRfl
set_option linter.unusedVariables false
set_option linter.unusedSimpArgs false
namespace Go.Proofs.Ytchlolgfahgdeaa.Ek
open Go.RowKit Go.Proofs.Ytchlolgfahgdeaa.Lib1 Go.Proofs.Ytchlolgfahgdeaa.Rel Go.Proofs.Ytchlolgfahgdeaa.Own Go.Proofs.Ytchlolgfahgdeaa.Ev Go.Proofs.Ytchlolgfahgdeaa.Lbl Go.Proofs.Ytchlolgfahgdeaa.Lck Go.Proofs.Ytchlolgfahgdeaa.Lmay

def u8K : Kd UInt8 where
  sz := 1
  rel := fun _ _ x cs => cs = [.int .u8 (x.toNat : Int)]
  fits := fun _ => True
  len := by rintro _ _ _ _ rfl; rfl
  one := by rintro _ _ _ _ rfl u hu; simp at hu; subst hu; rfl
  move := fun _ h => h
  mono := fun _ h => h
def fateCs (x : Fate) : List Value := [.int .i64 x.done, .int .i64 x.keep, .int .u8 (x.torn.toNat : Int)]
def fateK : Kd Fate where
  sz := 3
  rel := fun _ _ x cs => cs = fateCs x
  fits := fun _ => True
  len := by rintro _ _ _ _ rfl; rfl
  one := by rintro _ _ _ _ rfl u hu; simp [fateCs] at hu; rcases hu with rfl | rfl | rfl <;> rfl
  move := fun _ h => h
  mono := fun _ h => h
abbrev bytesK : Kd (List UInt8) := Kd.slice 1 u8K
abbrev fatesK : Kd (List Fate) := Kd.slice 24 fateK
abbrev strikesK : Kd (List (List Fate)) := Kd.slice 24 fatesK

/-- A request's cells: V the value's. -/
abbrev reqCs (q : Req) (V : Value) : List Value := [.int .i64 q.kind, .int .i64 q.life, .int .i64 q.number, .int .i64 q.place, .string q.key, .string q.to, V, .int .i64 q.limit]
abbrev evCs (x : Ev) (V S : Value) : List Value :=
  [.int .i64 x.kind, .int .i64 x.session, .int .i64 x.req.kind, .int .i64 x.req.life, .int .i64 x.req.number, .int .i64 x.req.place, .string x.req.key, .string x.req.to, V, .int .i64 x.req.limit, .int .i64 x.place, S]
def reqFits (q : Req) : Prop := q.key.size ≤ 140737488351232 ∧ q.to.size ≤ 140737488351232 ∧ bytesK.fits q.value
def evK : Kd Ev where
  sz := 12
  rel := fun ok w x cs => ∃ V S, cs = evCs x V S ∧ bytesK.rel ok w x.req.value [V] ∧ strikesK.rel ok w x.strikes [S]
  fits := fun x => reqFits x.req ∧ strikesK.fits x.strikes
  len := by rintro _ _ _ _ ⟨V, S, rfl, _, _⟩; rfl
  one := by
    rintro ok w x cs ⟨V, S, rfl, h1, h2⟩ u hu
    have hV := bytesK.one h1 V (by simp)
    have hS := strikesK.one h2 S (by simp)
    simp only [evCs, List.mem_cons, List.not_mem_nil, or_false] at hu
    rcases hu with rfl | rfl | rfl | rfl | rfl | rfl | rfl | rfl | rfl | rfl | rfl | rfl <;> first | rfl | assumption
  move := by rintro ok w w1 x cs hm ⟨V, S, rfl, h1, h2⟩; exact ⟨V, S, rfl, bytesK.move hm h1, strikesK.move hm h2⟩
  mono := by rintro ok ok' w x cs ho ⟨V, S, rfl, h1, h2⟩; exact ⟨V, S, rfl, bytesK.mono ho h1, strikesK.mono ho h2⟩
abbrev evsK : Kd (List Ev) := Kd.slice 144 evK

theorem fates_ok {ok ok' : Nat → Prop} {w : World} (x : Fate) (cs : List Value) (h : fateK.rel ok w x cs) : fateK.rel ok' w x cs := h
theorem u8_ok {ok ok' : Nat → Prop} {w : World} (x : UInt8) (cs : List Value) (h : u8K.rel ok w x cs) : u8K.rel ok' w x cs := h

/-! ### Arguments -/
theorem opens_conv {α β : Type} {P : Program} {t : TypeId} {d : Kd α} {d' : Kd β} (h : Opens P t d) (f : α → β) (h1 : ∀ ok w y cs, d.rel ok w y cs → d.fits y → d'.rel ok w (f y) cs) (h2 : ∀ y, d.fits y → d'.fits (f y)) : Opens P t d' := by
  intro H enc W fuel cs x hx hs
  obtain ⟨y, g1, g2⟩ := h enc W fuel cs x hx hs
  exact ⟨f y, h1 _ _ _ _ g1 g2, h2 y g2⟩
theorem u8_of {n : Int} (h : (Lit.int .u8 n).wf = true) : n = ((UInt8.ofNat n.toNat).toNat : Int) := by
  obtain ⟨h0, h1⟩ := Lbw.wf_u8 h
  simp only [UInt8.toNat_ofNat']
  omega
theorem opens_u8 {P : Program} {t : TypeId} (ht : P.underlying t = some (.int .u8)) : Opens P t u8K :=
  opens_conv (opens_int ht) (fun n => UInt8.ofNat n.toNat) (fun ok w y cs h hf => by show cs = _; rw [h, ← u8_of hf]) (fun _ _ => trivial)

theorem opens_fate : Opens Try.prog 76 fateK := by
  have h : Opens Try.prog 76 (Kd.pair (Kd.int .i64) (Kd.pair (Kd.int .i64) (Kd.pair u8K Kd.unit))) := by
    apply opens_struct Try.underlying76 (by kernel_rfl)
    apply opensF_cons rfl (by kernel_rfl) (opens_int Try.underlying3)
    apply opensF_cons rfl (by kernel_rfl) (opens_int Try.underlying3)
    apply opensF_cons rfl (by kernel_rfl) (opens_u8 Try.underlying5)
    exact opensF_nil _
  apply opens_conv (d' := fateK) h (fun y => (⟨y.1, y.2.1, y.2.2.1⟩ : Fate))
  rotate_left
  · exact fun _ _ => trivial
  rintro ok w ⟨y1, y2, y3, y4⟩ cs ⟨c1, c2, rfl, h1, c3, c4, rfl, h2, c5, c6, rfl, h3, h4⟩ _
  replace h1 : c1 = _ := h1
  replace h2 : c3 = _ := h2
  replace h3 : c5 = _ := h3
  replace h4 : c6 = _ := h4
  subst h1 h2 h3 h4
  rfl
theorem opens_fates : Opens Try.prog 73 fatesK := opens_slice (e := 76) Try.underlying73 (by kernel_rfl) (by decide) (by kernel_rfl) opens_fate
theorem opens_strikes : Opens Try.prog 35 strikesK := opens_slice (e := 73) Try.underlying35 (by kernel_rfl) (by decide) (by kernel_rfl) opens_fates
theorem opens_bytes : Opens Try.prog 32 bytesK := opens_slice (e := 5) Try.underlying32 (by kernel_rfl) (by decide) (by kernel_rfl) (opens_u8 Try.underlying5)
abbrev handleP := Kd.pair (Kd.int .i64) (Kd.pair (Kd.int .i64) Kd.unit)
theorem opens_handle : Opens Try.prog 31 handleP := by
  apply opens_struct Try.underlying31 (by kernel_rfl)
  apply opensF_cons rfl (by kernel_rfl) (opens_int Try.underlying3)
  apply opensF_cons rfl (by kernel_rfl) (opens_int Try.underlying3)
  exact opensF_nil _
abbrev reqP := Kd.pair (Kd.int .i64) (Kd.pair handleP (Kd.pair (Kd.int .i64) (Kd.pair Kd.str (Kd.pair Kd.str (Kd.pair bytesK (Kd.pair (Kd.int .i64) Kd.unit))))))
theorem opens_req : Opens Try.prog 34 reqP := by
  apply opens_struct Try.underlying34 (by kernel_rfl)
  apply opensF_cons rfl (by kernel_rfl) (opens_int Try.underlying3)
  apply opensF_cons rfl (by kernel_rfl) opens_handle
  apply opensF_cons rfl (by kernel_rfl) (opens_int Try.underlying3)
  apply opensF_cons rfl (by kernel_rfl) (opens_str Try.underlying9)
  apply opensF_cons rfl (by kernel_rfl) (opens_str Try.underlying9)
  apply opensF_cons rfl (by kernel_rfl) opens_bytes
  apply opensF_cons rfl (by kernel_rfl) (opens_int Try.underlying3)
  exact opensF_nil _
theorem opens_ev : Opens Try.prog 37 evK := by
  have h : Opens Try.prog 37 (Kd.pair (Kd.int .i64) (Kd.pair (Kd.int .i64) (Kd.pair reqP (Kd.pair (Kd.int .i64) (Kd.pair strikesK Kd.unit))))) := by
    apply opens_struct Try.underlying37 (by kernel_rfl)
    apply opensF_cons rfl (by kernel_rfl) (opens_int Try.underlying3)
    apply opensF_cons rfl (by kernel_rfl) (opens_int Try.underlying3)
    apply opensF_cons rfl (by kernel_rfl) opens_req
    apply opensF_cons rfl (by kernel_rfl) (opens_int Try.underlying3)
    apply opensF_cons rfl (by kernel_rfl) opens_strikes
    exact opensF_nil _
  apply opens_conv (d' := evK) h (fun y => (⟨y.1, y.2.1, ⟨y.2.2.1.1, y.2.2.1.2.1.1, y.2.2.1.2.1.2.1, y.2.2.1.2.2.1, y.2.2.1.2.2.2.1, y.2.2.1.2.2.2.2.1, y.2.2.1.2.2.2.2.2.1, y.2.2.1.2.2.2.2.2.2.1⟩, y.2.2.2.1, y.2.2.2.2.1⟩ : Ev))
  · rintro ok w ⟨kind, session, ⟨rk, ⟨life, number, u1⟩, rp, key, to, value, limit, u2⟩, place, strikes, u3⟩ cs ⟨c1, c2, rfl, h1, c3, c4, rfl, h2, c5, c6, rfl, ⟨d1, d2, rfl, g1, d3, d4, rfl, ⟨e1, e2, rfl, f1, e3, e4, rfl, f2, f3⟩, d5, d6, rfl, g2, d7, d8, rfl, g3, d9, d10, rfl, g4, d11, d12, rfl, g5, d13, d14, rfl, g6, g7⟩, c7, c8, rfl, h4, c9, c10, rfl, h5, h6⟩ _
    obtain ⟨AV, cV, eV, -⟩ := slice_form g5
    obtain ⟨AS, cS, eS, -⟩ := slice_form h5
    replace h1 : c1 = _ := h1
    replace h2 : c3 = _ := h2
    replace g1 : d1 = _ := g1
    replace f1 : e1 = _ := f1
    replace f2 : e3 = _ := f2
    replace f3 : e4 = _ := f3
    replace g2 : d5 = _ := g2
    replace g3 : d7 = _ := g3
    replace g4 : d9 = _ := g4
    replace g6 : d13 = _ := g6
    replace g7 : d14 = _ := g7
    replace h4 : c7 = _ := h4
    replace h6 : c10 = _ := h6
    subst h1 h2 g1 f1 f2 f3 g2 g3 g4 g6 g7 h4 h6
    subst eV eS
    exact ⟨_, _, rfl, g5, h5⟩
  · rintro ⟨kind, session, ⟨rk, ⟨life, number, u1⟩, rp, key, to, value, limit, u2⟩, place, strikes, u3⟩ ⟨_, _, ⟨_, _, _, g3, g4, g5, _⟩, _, h5, _⟩
    exact ⟨⟨g3, g4, g5⟩, h5⟩
theorem opens_evs : Opens Try.prog 28 evsK := opens_slice (e := 37) Try.underlying28 (by kernel_rfl) (by decide) (by kernel_rfl) opens_ev

/-! ### A config -/
def u64K : Kd Nat where
  sz := 1
  rel := fun _ _ x cs => cs = [.int .u64 (x : Int)]
  fits := fun x => x < 18446744073709551616
  len := by rintro _ _ _ _ rfl; rfl
  one := by rintro _ _ _ _ rfl u hu; simp at hu; subst hu; rfl
  move := fun _ h => h
  mono := fun _ h => h
theorem opens_u64 {P : Program} {t : TypeId} (ht : P.underlying t = some (.int .u64)) : Opens P t u64K :=
  opens_conv (opens_int ht) (fun n => n.toNat) (fun ok w y cs h hf => by
    obtain ⟨h0, h1⟩ := Lbw.wf_u64 hf
    show cs = _
    rw [h, Int.toNat_of_nonneg h0]) (fun y hf => by
    obtain ⟨h0, h1⟩ := Lbw.wf_u64 hf
    show y.toNat < _
    omega)
def accK : Kd Acc where
  sz := 5
  rel := fun _ _ a cs => cs = [.int .i64 a.quota, .int .i64 a.opn, .int .i64 a.queue, .int .i64 a.window, .int .i64 a.start]
  fits := fun _ => True
  len := by rintro _ _ _ _ rfl; rfl
  one := by rintro _ _ _ _ rfl u hu; simp at hu; rcases hu with rfl | rfl | rfl | rfl | rfl <;> rfl
  move := fun _ h => h
  mono := fun _ h => h
theorem opens_acc : Opens Try.prog 87 accK := by
  have h : Opens Try.prog 87 (Kd.pair (Kd.int .i64) (Kd.pair (Kd.int .i64) (Kd.pair (Kd.int .i64) (Kd.pair (Kd.int .i64) (Kd.pair (Kd.int .i64) Kd.unit))))) := by
    apply opens_struct Try.underlying87 (by kernel_rfl)
    apply opensF_cons rfl (by kernel_rfl) (opens_int Try.underlying3)
    apply opensF_cons rfl (by kernel_rfl) (opens_int Try.underlying3)
    apply opensF_cons rfl (by kernel_rfl) (opens_int Try.underlying3)
    apply opensF_cons rfl (by kernel_rfl) (opens_int Try.underlying3)
    apply opensF_cons rfl (by kernel_rfl) (opens_int Try.underlying3)
    exact opensF_nil _
  apply opens_conv (d' := accK) h (fun y => (⟨y.1, y.2.1, y.2.2.1, y.2.2.2.1, y.2.2.2.2.1⟩ : Acc))
  rotate_left
  · exact fun _ _ => trivial
  rintro ok w ⟨y1, y2, y3, y4, y5, y6⟩ cs ⟨c1, c2, rfl, h1, c3, c4, rfl, h2, c5, c6, rfl, h3, c7, c8, rfl, h4, c9, c10, rfl, h5, h6⟩ _
  replace h1 : c1 = _ := h1
  replace h2 : c3 = _ := h2
  replace h3 : c5 = _ := h3
  replace h4 : c7 = _ := h4
  replace h5 : c9 = _ := h5
  replace h6 : c10 = _ := h6
  subst h1 h2 h3 h4 h5 h6
  rfl
abbrev cfgP := Kd.pair (Kd.slice 8 u64K) (Kd.pair (Kd.slice 40 accK) (Kd.pair (Kd.slice 8 (Kd.int .i64)) Kd.unit))
theorem opens_cfg : Opens Try.prog 27 cfgP := by
  apply opens_struct Try.underlying27 (by kernel_rfl)
  apply opensF_cons rfl (by kernel_rfl) (opens_slice (e := 64) Try.underlying23 (by kernel_rfl) (by decide) (by kernel_rfl) (opens_u64 Try.underlying64))
  apply opensF_cons rfl (by kernel_rfl) (opens_slice (e := 87) Try.underlying24 (by kernel_rfl) (by decide) (by kernel_rfl) opens_acc)
  apply opensF_cons rfl (by kernel_rfl) (opens_slice (e := 3) Try.underlying25 (by kernel_rfl) (by decide) (by kernel_rfl) (opens_int Try.underlying3))
  exact opensF_nil _

/-- Flat elements: the cells are one list. -/
theorem flat_cells {α : Type} {d : Kd α} (f : α → List Value) (hf : ∀ ok w x cs, d.rel ok w x cs → cs = f x) (h0 : 0 < d.sz) : ∀ (xs : List α) (cells : List Value) (ok : Nat → Prop) (w : World), cells.length = xs.length * d.sz → (∀ i x, xs[i]? = some x → d.rel ok w x ((cells.drop (i * d.sz)).take d.sz)) → cells = xs.flatMap f
  | [], cells, _, _, hl, _ => List.eq_nil_of_length_eq_zero (by simpa using hl)
  | x :: xs, cells, ok, w, hl, h => by
    have hx := hf _ _ _ _ (h 0 x rfl)
    simp only [Nat.zero_mul, List.drop_zero] at hx
    have ih := flat_cells f hf h0 xs (cells.drop d.sz) ok w (by rw [List.length_drop, hl]; simp only [List.length_cons, Nat.succ_mul]; omega) (fun i y hy => by
      have := h (i + 1) y (by simpa using hy)
      rw [List.drop_drop]
      rwa [show d.sz + i * d.sz = (i + 1) * d.sz by rw [Nat.succ_mul]; omega])
    rw [List.flatMap_cons, ← hx, ← ih, List.take_append_drop]
theorem flatMap_one {α β : Type} (f : α → β) : ∀ (l : List α), l.flatMap (fun x => [f x]) = l.map f
  | [] => rfl
  | x :: l => by rw [List.flatMap_cons, flatMap_one f l]; rfl
def cfgOf (y : List Nat × List Acc × List Int × Unit) : Cfg := ⟨y.1, y.2.1, y.2.2.1⟩
def cfgFits (c : Cfg) : Prop := c.labels.length * 8 ≤ 140737488351232 ∧ c.accounts.length * 40 ≤ 140737488351232 ∧ c.sessions.length * 8 ≤ 140737488351232
theorem cfg_at {ok : Nat → Prop} {w : World} {y : List Nat × List Acc × List Int × Unit} {cs : List Value} (h : cfgP.rel ok w y cs) (hf : cfgP.fits y) :
    ∃ A1 A2 A3 n1 n2 n3 c1 c2 c3, cs = [.slice A1 n1 c1, .slice A2 n2 c2, .slice A3 n3 c3] ∧ CfgAt ok w A1 A2 A3 n1 n2 n3 c1 c2 c3 (cfgOf y) ∧ cfgFits (cfgOf y) := by
  obtain ⟨d1, d2, rfl, ⟨A1, c1, cells1, rfl, r1, g1⟩, d3, d4, rfl, ⟨A2, c2, cells2, rfl, r2, g2⟩, d5, d6, rfl, ⟨A3, c3, cells3, rfl, r3, g3⟩, h4⟩ := h
  replace h4 : d6 = _ := h4
  subst h4
  have e1 := flat_cells (d := u64K) (fun x => [.int .u64 (x : Int)]) (fun _ _ _ _ h => h) (by decide) _ cells1 ok w r1.len g1
  have e2 := flat_cells (d := accK) _ (fun _ _ _ _ h => h) (by decide) _ cells2 ok w r2.len g2
  have e3 := flat_cells (d := Kd.int .i64) (fun x => [.int .i64 x]) (fun _ _ _ _ h => h) (by decide) _ cells3 ok w r3.len g3
  rw [flatMap_one] at e1 e3
  obtain ⟨f1, f2, f3, _⟩ := hf
  refine ⟨A1, A2, A3, _, _, _, c1, c2, c3, rfl, ⟨rfl, rfl, rfl, ?_, ?_, ?_, f1.2, ?_, ?_, ?_⟩, f1.1, f2.1, f3.1⟩
  · rw [e1] at r1; exact r1
  · rw [e2] at r2; exact r2
  · rw [e3] at r3; exact r3
  · have := f1.1; omega
  · have := f2.1; omega
  · have := f3.1; omega
end Go.Proofs.Ytchlolgfahgdeaa.Ek
