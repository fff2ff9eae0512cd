/- The law's changed: its switch. Conditions: what comes in reads so; the config may be. -/
import Derived.Test.YtchlolgfahgdeaaEmx
import Derived.Test.YtchlolgfahgdeaaEvm
import Derived.Test.YtchlolgfahgdeaaEn
import Derived.Test.YtchlolgfahgdeaaEr
import Derived.Test.YtchlolgfahgdeaaSto
import Derived.Deep.RegionWith
import Derived.Deep.CutRange
import Derived.Deep.Cut
import Derived.RegionTactic
import Derived.Outline
import Derived.Deep.CutBlock
set_option linter.unusedVariables false
set_option linter.unusedSimpArgs false
namespace Go.Proofs.Ytchlolgfahgdeaa.Ech
open Go.RowKit Go.Proofs.Ytchlolgfahgdeaa.Lib1 Go.Proofs.Ytchlolgfahgdeaa.Rel Go.Proofs.Ytchlolgfahgdeaa.Own Go.Proofs.Ytchlolgfahgdeaa.Ev Go.Proofs.Ytchlolgfahgdeaa.Ek Go.Proofs.Ytchlolgfahgdeaa.Lat Go.Proofs.Ytchlolgfahgdeaa.Ec Go.Proofs.Ytchlolgfahgdeaa.Em Go.Proofs.Ytchlolgfahgdeaa.En Go.Proofs.Ytchlolgfahgdeaa.Emx Go.Proofs.Ytchlolgfahgdeaa.Er Go.Proofs.Ytchlolgfahgdeaa.Lbl Go.Proofs.Ytchlolgfahgdeaa.Lmay

/-- Two events side by side: x's cells in the block b6, its strikes' rows apart; y's in the block b7. -/
structure Two (w0 w : World) (b6 b7 : Nat) (x y : Ev) (V S V' S' : Value) (rows : Nat → Value) (E E' : Nat → Prop) : Prop where
  h6 : w.heap[b6]? = some (.cells (evCs x V S).toArray 37 (0, 0))
  h7 : w.heap[b7]? = some (.cells (evCs y V' S').toArray 37 (0, 0))
  ne : b6 ≠ b7
  inb : b6 < w0.heap.size ∧ b7 < w0.heap.size
  own : OwnL u8K 5 w0.heap.size w V x.req.value
  mx : Mx w E S rows x.strikes
  own' : OwnL u8K 5 w0.heap.size w V' y.req.value
  st' : strikesK.rel E' w y.strikes [S']
  apart : ∀ k, E k → ¬ E' k
  low : ∀ k, E k → w0.heap.size ≤ k ∧ k < w.heap.size ∧ k ≠ b6 ∧ k ≠ b7
  low' : ∀ k, E' k → k < w.heap.size ∧ w0.heap.size ≤ k ∧ k ≠ b6 ∧ k ≠ b7
  chg : Chg (fun k => k = b6 ∨ k = b7) w0 w

theorem set12c {w : World} {b : Nat} {a0 a1 a2 a3 a4 a5 a6 a7 a8 a9 a10 a11 : Value} : Chg (fun k => k = b) w ((((((((((((w.setCell ⟨b, 0, none⟩ a0).setCell ⟨b, 1, none⟩ a1).setCell ⟨b, 2, none⟩ a2).setCell ⟨b, 3, none⟩ a3).setCell ⟨b, 4, none⟩ a4).setCell ⟨b, 5, none⟩ a5).setCell ⟨b, 6, none⟩ a6).setCell ⟨b, 7, none⟩ a7).setCell ⟨b, 8, none⟩ a8).setCell ⟨b, 9, none⟩ a9).setCell ⟨b, 10, none⟩ a10).setCell ⟨b, 11, none⟩ a11) :=
  (((((((((((((Chg.refl (fun k => k = b) w).set (.inr rfl)).set (.inr rfl)).set (.inr rfl)).set (.inr rfl)).set (.inr rfl)).set (.inr rfl)).set (.inr rfl)).set (.inr rfl)).set (.inr rfl)).set (.inr rfl)).set (.inr rfl)).set (.inr rfl))
theorem set12h {w : World} {b T : Nat} {a0 a1 a2 a3 a4 a5 a6 a7 a8 a9 a10 a11 z0 z1 z2 z3 z4 z5 z6 z7 z8 z9 z10 z11 : Value} (h : w.heap[b]? = some (.cells #[z0, z1, z2, z3, z4, z5, z6, z7, z8, z9, z10, z11] T (0, 0))) : ((((((((((((w.setCell ⟨b, 0, none⟩ a0).setCell ⟨b, 1, none⟩ a1).setCell ⟨b, 2, none⟩ a2).setCell ⟨b, 3, none⟩ a3).setCell ⟨b, 4, none⟩ a4).setCell ⟨b, 5, none⟩ a5).setCell ⟨b, 6, none⟩ a6).setCell ⟨b, 7, none⟩ a7).setCell ⟨b, 8, none⟩ a8).setCell ⟨b, 9, none⟩ a9).setCell ⟨b, 10, none⟩ a10).setCell ⟨b, 11, none⟩ a11).heap[b]? = some (.cells #[a0, a1, a2, a3, a4, a5, a6, a7, a8, a9, a10, a11] T (0, 0)) := by
  have := (heap_set (heap_set (heap_set (heap_set (heap_set (heap_set (heap_set (heap_set (heap_set (heap_set (heap_set (heap_set h 0 a0) 1 a1) 2 a2) 3 a3) 4 a4) 5 a5) 6 a6) 7 a7) 8 a8) 9 a9) 10 a10) 11 a11)
  simpa using this
theorem drew_heap (w : World) : w.drew.heap = w.heap := rfl
theorem drewN_heap (w : World) (n : Nat) : (w.drewN n).heap = w.heap := rfl
theorem req_kind (q : Req) : (Ev.req q).kind = q.kind := by
  unfold Ev.req
  split
  · rfl
  · split <;> rfl
theorem may_place {c : Cfg} {e : Ev} (h : Ev.may c e = true) (hk : e.kind = 3 ∨ e.kind = 4) : 0 ≤ e.place ∧ e.place < (c.labels.length : Int) := by
  unfold Ev.may at h
  simp only [Bool.and_eq_true] at h
  have h := h.2
  rw [if_neg (by omega), if_pos hk] at h
  simp only [Bool.and_eq_true, decide_eq_true_eq] at h
  exact h
theorem from_like {S : Nat → Prop} {w0 w w1 : World} (h : Chg S w0 w1) (e1 : w0.heap = w.heap) (e2 : w0.os = w.os) (e3 : w0.tape = w.tape) (e4 : w0.output = w.output) : Chg S w w1 :=
  ⟨h.os.trans e2, h.tape.trans e3, h.output.trans e4, by rw [← e1]; exact h.size, fun k hk hn => by rw [← e1]; exact h.block k (by rw [e1]; exact hk) hn⟩

theorem Mx.mono {w : World} {E E' : Nat → Prop} {S : Value} {rows : Nat → Value} {m : List (List Fate)} (h : Mx w E S rows m) (hE : ∀ k, E k → E' k) : Mx w E' S rows m := ⟨h.own, fun k hk => hE k (h.ownE k hk), h.row, fun i hi k hk => hE k (h.rowE i hi k hk), h.sep⟩
theorem two_end {wb w1 w2 wm wf : World} {b6 b7 : Nat} {x y : Ev} {V1 S1 V2 S2 : Value} {rows rows' : Nat → Value} (C1 : Chg (fun _ => False) wb w1) (C2 : Chg (fun _ => False) w1 w2) (n1 : b6 < b7) (n2 : b7 < wb.heap.size)
    (M1 : Mx w1 (fun j => wb.heap.size ≤ j ∧ j < w1.heap.size) S1 rows x.strikes) (O1 : OwnL u8K 5 wb.heap.size w1 V1 x.req.value) (M2 : Mx w2 (fun j => w1.heap.size ≤ j ∧ j < w2.heap.size) S2 rows' y.strikes) (O2 : OwnL u8K 5 w1.heap.size w2 V2 y.req.value)
    (cm : Chg (fun k => k = b6) w2 wm) (cf : Chg (fun k => k = b7) wm wf) (h6 : wm.heap[b6]? = some (.cells (evCs x V1 S1).toArray 37 (0, 0))) (h7 : wf.heap[b7]? = some (.cells (evCs y V2 S2).toArray 37 (0, 0))) :
    ∃ V1 S1 V2 S2 rows E E', Two wb wf b6 b7 x y V1 S1 V2 S2 rows E E' := by
  have s1 := C1.size
  have s2 := C2.size
  have c2f : Chg (fun k => k = b6 ∨ k = b7) w2 wf := (cm.mono (T := fun k => k = b6 ∨ k = b7) (fun _ _ h => .inl h)).trans cf (fun _ _ h => .inr h)
  have c1f : Chg (fun k => k = b6 ∨ k = b7) w1 wf := (C2.mono (T := fun k => k = b6 ∨ k = b7) (fun _ _ h => h.elim)).trans c2f (fun _ _ h => h)
  have s3 := c2f.size
  refine ⟨V1, S1, V2, S2, rows, _, _, ⟨(cf.block b6 (lt_of _ h6) (by omega)).trans h6, h7, by omega, ⟨by omega, by omega⟩, ?_, M1.move (fun k hk => c1f.block k hk.2 (by omega)), ?_, strikesK.move (fun k hk => c2f.block k hk.2 (by omega)) M2.reads, fun k h h' => by omega, fun k hk => ⟨hk.1, by omega, by omega, by omega⟩, fun k hk => ⟨by omega, by omega, by omega, by omega⟩, (C1.mono (T := fun k => k = b6 ∨ k = b7) (fun _ _ h => h.elim)).trans c1f (fun _ _ h => h)⟩⟩
  · exact O1.chg c1f (fun k h1 h2 h3 => by omega)
  · exact (O2.chg c2f (fun k h1 h2 h3 => by omega)).base_le s1

section
variable {w0 w w' : World} {b6 b7 : Nat} {x y : Ev} {V S V' S' : Value} {rows : Nat → Value} {E E' : Nat → Prop}
theorem Two.up (h : Two w0 w b6 b7 x y V S V' S' rows E E') (hc : Chg (fun _ => False) w w') : Two w0 w' b6 b7 x y V S V' S' rows E E' :=
  ⟨hc.at_ h.h6 (fun h => h), hc.at_ h.h7 (fun h => h), h.ne, h.inb, h.own.up hc, h.mx.move (fun k hk => hc.block k (h.low k hk).2.1 (fun h => h)), h.own'.up hc, strikesK.move (fun k hk => hc.block k (h.low' k hk).1 (fun h => h)) h.st', h.apart,
    fun k hk => ⟨(h.low k hk).1, Nat.lt_of_lt_of_le (h.low k hk).2.1 hc.size, (h.low k hk).2.2⟩, fun k hk => ⟨Nat.lt_of_lt_of_le (h.low' k hk).1 hc.size, (h.low' k hk).2⟩, h.chg.trans (hc.mono (T := fun k => k = b6 ∨ k = b7) (fun _ _ h => h.elim)) (fun _ _ h => h)⟩
/-- A fate stored into one of x's lists. -/
theorem Two.stored {m : List (List Fate)} (h : Two w0 w b6 b7 { x with strikes := m } y V S V' S' rows E E') {i p : Nat} {f : List Fate} (hf : m[i]? = some f) (hp : p < f.length) (v : Fate) {g n cap : Nat} (hg : rows i = .slice (some ⟨g, 0, none⟩) n cap)
    (e : w'.heap = (((w.setCell ⟨g, p * 3, none⟩ (.int .i64 v.done)).setCell ⟨g, p * 3 + 1, none⟩ (.int .i64 v.keep)).setCell ⟨g, p * 3 + 2, none⟩ (.int .u8 (v.torn.toNat : Int))).heap) (eo : w'.os = w.os) (et : w'.tape = w.tape) (ep : w'.output = w.output) :
    Two w0 w' b6 b7 { x with strikes := m.set i (f.set p v) } y V S V' S' rows E E' := by
  have hi := (List.getElem?_eq_some_iff.1 hf).1
  have hE : E g := h.mx.chg hi hg
  obtain ⟨l1, l2, l3, l4⟩ := h.low g hE
  have hc : Chg (fun k => k = g) w w' := by
    have c := (((Chg.refl (fun k => k = g) w).set (b := g) (i := p * 3) (u := .int .i64 v.done) (.inr rfl)).set (b := g) (i := p * 3 + 1) (u := .int .i64 v.keep) (.inr rfl)).set (b := g) (i := p * 3 + 2) (u := .int .u8 (v.torn.toNat : Int)) (.inr rfl)
    exact ⟨eo.trans c.os, et.trans c.tape, ep.trans c.output, by rw [e]; exact c.size, fun k hk hn => by rw [e]; exact c.block k hk hn⟩
  have htype : ∃ cur, w.heap[g]? = some (.cells cur TF (0, 0)) := by
    rcases (h.mx.row i f hf).2 with ⟨e', _⟩ | ⟨g', cap', cur, e', _, hgg, _⟩
    · rw [e'] at hg; cases hg
    · rw [e'] at hg; cases hg; exact ⟨cur, hgg⟩
  have hu : ∀ {V : Value} {l : List UInt8}, OwnL u8K 5 w0.heap.size w V l → OwnL u8K 5 w0.heap.size w' V l := fun {V l} ho => by
    refine ho.flat (fun ok ok' w w' x cs h => h) (fun k hk => hc.block k (ho.low k hk).2 (fun ek => ?_))
    subst ek
    obtain ⟨cur, hgg⟩ := htype
    obtain ⟨cells, ho', _⟩ := ho
    rcases ho'.2 with ⟨e', _⟩ | ⟨g', cap', cur', e', _, hgg', _⟩
    · rw [e'] at hk; cases hk
    · rw [e'] at hk
      simp only [Value.ownBlock, Option.some.injEq] at hk
      subst hk
      rw [hgg] at hgg'
      injection hgg' with hgg'
      injection hgg' with _ ht
      exact absurd ht (by decide)
  exact ⟨(hc.block b6 (lt_of _ h.h6) (Ne.symm l3)).trans h.h6, (hc.block b7 (lt_of _ h.h7) (Ne.symm l4)).trans h.h7, h.ne, h.inb, hu h.own, h.mx.set hf hp v hg e, hu h.own', strikesK.move (fun k hk => hc.block k (h.low' k hk).1 (fun ek => h.apart k (ek ▸ hE) hk)) h.st', h.apart,
    fun k hk => ⟨(h.low k hk).1, Nat.lt_of_lt_of_le (h.low k hk).2.1 hc.size, (h.low k hk).2.2⟩, fun k hk => ⟨Nat.lt_of_lt_of_le (h.low' k hk).1 hc.size, (h.low' k hk).2⟩, h.chg.trans hc (fun k hk ek => by omega)⟩
/-- All four lists read where only the boxes have turned. -/
theorem Two.close {m : List (List Fate)} (h : Two w0 w b6 b7 { x with strikes := m } y V S V' S' rows E E') {b8 : Nat} (hc : Chg (fun k => k = b6 ∨ k = b7 ∨ k = b8) w w') (h8 : b8 < w0.heap.size) :
    bytesK.rel (fun k => w0.heap.size ≤ k ∧ k < w'.heap.size) w' x.req.value [V] ∧ strikesK.rel (fun k => w0.heap.size ≤ k ∧ k < w'.heap.size) w' m [S] ∧ bytesK.rel (fun k => w0.heap.size ≤ k ∧ k < w'.heap.size) w' y.req.value [V'] ∧ strikesK.rel (fun k => w0.heap.size ≤ k ∧ k < w'.heap.size) w' y.strikes [S'] ∧ Chg (fun k => k = b6 ∨ k = b7 ∨ k = b8) w0 w' := by
  have hb6 : b6 < w0.heap.size ∧ b7 < w0.heap.size := h.inb
  exact ⟨(h.own.chg hc (fun k h1 _ h2 => by omega)).reads, strikesK.mono (fun k hk => ⟨(h.low k hk).1, Nat.lt_of_lt_of_le (h.low k hk).2.1 hc.size⟩) (strikesK.move (fun k hk => hc.block k (h.low k hk).2.1 (fun e => by have := (h.low k hk).1; omega)) h.mx.reads),
    (h.own'.chg hc (fun k h1 _ h2 => by omega)).reads, strikesK.mono (fun k hk => ⟨(h.low' k hk).2.1, Nat.lt_of_lt_of_le (h.low' k hk).1 hc.size⟩) (strikesK.move (fun k hk => hc.block k (h.low' k hk).1 (fun e => by have := (h.low' k hk).2.1; omega)) h.st'), (h.chg.mono (T := fun k => k = b6 ∨ k = b7 ∨ k = b8) (fun _ _ h => by omega)).trans hc (fun _ _ h => h)⟩
theorem Two.forms (h : Two w0 w b6 b7 x y V S V' S' rows E E') : ∃ A1 k1 A2 k2 A3 k3 A4 k4, V = .slice A1 x.req.value.length k1 ∧ S = .slice A2 x.strikes.length k2 ∧ V' = .slice A3 y.req.value.length k3 ∧ S' = .slice A4 y.strikes.length k4 := by
  obtain ⟨A1, k1, e1⟩ := h.own.form
  obtain ⟨A2, k2, e2, -⟩ := Rd.of_own h.mx.own
  obtain ⟨A3, k3, e3⟩ := h.own'.form
  obtain ⟨A4, k4, e4, -⟩ := slice_form h.st'
  simp only [List.cons.injEq, and_true] at e4
  exact ⟨A1, k1, A2, k2, A3, k3, A4, k4, e1, e2, e3, e4⟩
/-- What y is, read in a later world in which only blocks from outside have turned. -/
theorem Two.rely (h : Two w0 w b6 b7 x y V S V' S' rows E E') {b8 : Nat} (hc : Chg (fun k => k = b8) w w') (h8 : b8 < w0.heap.size) : evK.rel (fun k => w0.heap.size ≤ k ∧ k < w'.heap.size) w' y (evCs y V' S') :=
  ⟨V', S', rfl, ((h.own'.chg hc (fun k h1 _ h2 => by omega)).reads), strikesK.mono (fun k hk => ⟨(h.low' k hk).2.1, Nat.lt_of_lt_of_le (h.low' k hk).1 hc.size⟩) (strikesK.move (fun k hk => hc.block k (h.low' k hk).1 (fun e => by have := (h.low' k hk).2.1; omega)) h.st')⟩
theorem Two.relx (h : Two w0 w b6 b7 x y V S V' S' rows E E') {b8 : Nat} (hc : Chg (fun k => k = b8) w w') (h8 : b8 < w0.heap.size) : evK.rel (fun k => w0.heap.size ≤ k ∧ k < w'.heap.size) w' x (evCs x V S) :=
  ⟨V, S, rfl, ((h.own.chg hc (fun k h1 _ h2 => by omega)).reads), strikesK.mono (fun k hk => ⟨(h.low k hk).1, Nat.lt_of_lt_of_le (h.low k hk).2.1 hc.size⟩) (strikesK.move (fun k hk => hc.block k (h.low k hk).2.1 (fun e => by have := (h.low k hk).1; omega)) h.mx.reads)⟩
end
/-- What the box holds behind the switch. -/
def ChOut (c : Cfg) (place : Nat) (x y : Ev) (wb : World) (b6 b7 : Nat) (wx : World) : Prop :=
  ∃ z V S, z = Ev.changed c place x y ∧ wx.heap[b6]? = some (.cells (evCs z V S).toArray 37 (0, 0)) ∧ bytesK.rel (fun k => wb.heap.size ≤ k ∧ k < wx.heap.size) wx z.req.value [V] ∧ strikesK.rel (fun k => wb.heap.size ≤ k ∧ k < wx.heap.size) wx z.strikes [S] ∧ Chg (fun k => k = b6 ∨ k = b7) wb wx

/-- A block of a body. -/
def findBlock (n : Nat) : Code → Option Code
  | .block m c => if m = n then some (.block m c) else findBlock n c
  | .seq a b => match findBlock n a with
    | some c => some c
    | none => findBlock n b
  | .loop c => findBlock n c
  | .scope c => findBlock n c
  | .cond _ a b => match findBlock n a with
    | some c => some c
    | none => findBlock n b
  | _ => none
noncomputable def theSwitch : Code := (Try.f29.body.bind (findBlock 4)).getD .skip
set_option maxRecDepth 1000000 in
set_option maxHeartbeats 40000000 in
theorem switch_walk (c : Cfg) (place : Nat) (x : Ev) (y : Ev) (A1 : Option Addr) (A2 : Option Addr) (A3 : Option Addr) (n1 : Nat) (n2 : Nat) (n3 : Nat) (c1 : Nat) (c2 : Nat) (c3 : Nat) (AV : Option Addr) (cV : Nat) (AS : Option Addr) (cS : Nat) (AV' : Option Addr) (cV' : Nat) (AS' : Option Addr) (cS' : Nat) (b4 : Nat) (b6 : Nat) (b7 : Nat) (b8 : Nat) (wb : World) (wc : World) (rows : Nat → Value) (E : Nat → Prop) (E' : Nat → Prop) (a1 : Option Addr) (k1 : Nat) (a2 : Option Addr) (k2 : Nat) (a3 : Option Addr) (k3 : Nat) (a4 : Option Addr) (k4 : Nat) (u9 : Value) (u10 : Value) (u12 : Value) (u13 : Value) (u14 : Value) (u15 : Value) (u21 : Value) (u22 : Value) (u23 : Value) (u24 : Value) (u25 : Value) (u26 : Value) (u27 : Value) (u28 : Value) (u29 : Value) (u30 : Value) (u31 : Value) (u32 : Value) (u33 : Value) (u34 : Value) (u35 : Value) (u36 : Value) (u37 : Value) (u38 : Value) (u39 : Value) (u40 : Value) (u41 : Value) (u42 : Value) (u43 : Value) (u44 : Value) (u45 : Value) (u46 : Value) (u47 : Value) (u48 : Value) (u49 : Value) (u50 : Value) (u51 : Value) (u52 : Value) (u53 : Value) (u54 : Value) (u55 : Value) (u56 : Value) (u57 : Value) (u58 : Value) (u59 : Value) (u60 : Value) (u61 : Value) (u62 : Value) (u63 : Value) (u64 : Value) (u65 : Value) (u66 : Value) (u67 : Value) (u68 : Value) (u69 : Value) (u70 : Value) (u71 : Value) (u72 : Value) (u73 : Value) (u74 : Value) (u75 : Value) (u76 : Value) (u77 : Value) (u78 : Value) (u79 : Value) (u80 : Value) (u81 : Value)
    (hcf : cfgFits c)
    (hpl : place < n1)
    (hmb : mayB c = true)
    (HFX : Hid (evK.fits x))
    (HFY : Hid (evK.fits y))
    (n46 : b4 < b6)
    (n67 : b6 < b7)
    (n78 : b7 < b8)
    (n8b : b8 < wb.heap.size)
    (HC0 : Hid (∀ W, Chg (fun k => k = b6 ∨ k = b7) wb W → CfgAt (fun k => k < W.heap.size) W A1 A2 A3 n1 n2 n3 c1 c2 c3 c))
    (HB4 : Hid (∀ W, Chg (fun k => k = b6 ∨ k = b7) wb W → W.heap[b4]? = some (.cells #[.slice A1 n1 c1, .slice A2 n2 c2, .slice A3 n3 c3] 27 (0, 0))))
    (HM : Hid (∀ W, Chg (fun k => k = b6 ∨ k = b7) wb W → ∀ (z : Ev) (AV AS : Option Addr) (nV cV nS cS : Nat), Calls Try.prog 17 #[.agg #[.slice A1 n1 c1, .slice A2 n2 c2, .slice A3 n3 c3], .agg (evCs z (.slice AV nV cV) (.slice AS nS cS)).toArray] W fun e w' => e = .returned (.bool (Ev.may c z)) ∧ Chg (fun _ => False) W w'))
    (HNM : Hid (Ev.may c x = true))
    (hlx : x.strikes.length ≤ 140737488351232)
    (HN1 : Hid (c.labels.length = n1))
    (HTF : Hid (Two wb wc b6 b7 { x with strikes := mixes c place x.strikes y.strikes } y (.slice a1 x.req.value.length k1) (.slice a2 x.strikes.length k2) (.slice a3 y.req.value.length k3) (.slice a4 y.strikes.length k4) rows E E'))
    (HCL : Hid (∀ (wf : World), Chg (fun k => k = b6 ∨ k = b7 ∨ k = b8) wc wf →
        bytesK.rel (fun k => wb.heap.size ≤ k ∧ k < wf.heap.size) wf x.req.value [.slice a1 x.req.value.length k1] ∧ strikesK.rel (fun k => wb.heap.size ≤ k ∧ k < wf.heap.size) wf (mixes c place x.strikes y.strikes) [.slice a2 x.strikes.length k2] ∧
        bytesK.rel (fun k => wb.heap.size ≤ k ∧ k < wf.heap.size) wf y.req.value [.slice a3 y.req.value.length k3] ∧ strikesK.rel (fun k => wb.heap.size ≤ k ∧ k < wf.heap.size) wf y.strikes [.slice a4 y.strikes.length k4] ∧ Chg (fun k => k = b6 ∨ k = b7 ∨ k = b8) wb wf))
    (p0 : wc.cell? ⟨b6, 0, none⟩ = some (.int .i64 x.kind))
    (p1 : wc.cell? ⟨b6, 1, none⟩ = some (.int .i64 x.session))
    (p2 : wc.cell? ⟨b6, 2, none⟩ = some (.int .i64 x.req.kind))
    (p3 : wc.cell? ⟨b6, 3, none⟩ = some (.int .i64 x.req.life))
    (p4 : wc.cell? ⟨b6, 4, none⟩ = some (.int .i64 x.req.number))
    (p5 : wc.cell? ⟨b6, 5, none⟩ = some (.int .i64 x.req.place))
    (p6 : wc.cell? ⟨b6, 6, none⟩ = some (.string x.req.key))
    (p7 : wc.cell? ⟨b6, 7, none⟩ = some (.string x.req.to))
    (p8 : wc.cell? ⟨b6, 8, none⟩ = some (.slice a1 x.req.value.length k1))
    (p9 : wc.cell? ⟨b6, 9, none⟩ = some (.int .i64 x.req.limit))
    (p10 : wc.cell? ⟨b6, 10, none⟩ = some (.int .i64 x.place))
    (p11 : wc.cell? ⟨b6, 11, none⟩ = some (.slice a2 x.strikes.length k2))
    (r0 : wc.cell? ⟨b7, 0, none⟩ = some (.int .i64 y.kind))
    (r1 : wc.cell? ⟨b7, 1, none⟩ = some (.int .i64 y.session))
    (r2 : wc.cell? ⟨b7, 2, none⟩ = some (.int .i64 y.req.kind))
    (r3 : wc.cell? ⟨b7, 3, none⟩ = some (.int .i64 y.req.life))
    (r4 : wc.cell? ⟨b7, 4, none⟩ = some (.int .i64 y.req.number))
    (r5 : wc.cell? ⟨b7, 5, none⟩ = some (.int .i64 y.req.place))
    (r6 : wc.cell? ⟨b7, 6, none⟩ = some (.string y.req.key))
    (r7 : wc.cell? ⟨b7, 7, none⟩ = some (.string y.req.to))
    (r8 : wc.cell? ⟨b7, 8, none⟩ = some (.slice a3 y.req.value.length k3))
    (r9 : wc.cell? ⟨b7, 9, none⟩ = some (.int .i64 y.req.limit))
    (r10 : wc.cell? ⟨b7, 10, none⟩ = some (.int .i64 y.place))
    (r11 : wc.cell? ⟨b7, 11, none⟩ = some (.slice a4 y.strikes.length k4))
    (f6 : ∀ i : Nat, wc.frozen? ⟨b6, i, none⟩ = false)
    (f7 : ∀ i : Nat, wc.frozen? ⟨b7, i, none⟩ = false)
    (d0 : wc.cell? ⟨b4, 0, none⟩ = some (.slice A1 n1 c1))
    (d1 : wc.cell? ⟨b4, 1, none⟩ = some (.slice A2 n2 c2))
    (d2 : wc.cell? ⟨b4, 2, none⟩ = some (.slice A3 n3 c3))
    (n67' : b6 ≠ b7)
    (J0 K1 : Act → World → Prop)
    (Q0 : Exit → Act → World → Prop)
    (hJ0 : ∀ (a' : Act) (w' : World),
    (∃ u11 u84 u85 u86 u87 u88 u89 u90 u91 u92 u93 u94 u95 u96 u97 u98 u99 u100 u101 u102 u103 u104 u105 u106 u107 u108
        u109 u110 u111 u112 u113 u114 u115 u116 u117 u118 u119 u120 u121 u122 u123 u124 u125 u126 u127 u128 u129 u130
        u131 u132 u133 u134 u135 u136 u137 u138 u139 u140 u141 u142 u143 u144 u145 u146 u147 u148 u149 u150 u151 u152
        u153 u154 u155 u156 u157 u158 u159 u160 u161 u162 u163 u164 u165 u166 u167 u168 u169 u170 u171 u172 u173 u174
        u175 u176 u177 u178 u179 u180 u181 u182 u183 u184 u185 u186,
        ChOut c place x y wb b6 b7 w' ∧
          a' =
            {
              tmps :=
                #[Value.agg #[Value.slice A1 n1 c1, Value.slice A2 n2 c2, Value.slice A3 n3 c3],
                  Value.int IntKind.i64 ↑place,
                  Value.agg
                    #[Value.int IntKind.i64 x.kind, Value.int IntKind.i64 x.session, Value.int IntKind.i64 x.req.kind,
                      Value.int IntKind.i64 x.req.life, Value.int IntKind.i64 x.req.number,
                      Value.int IntKind.i64 x.req.place, Value.string x.req.key, Value.string x.req.to,
                      Value.slice AV x.req.value.length cV, Value.int IntKind.i64 x.req.limit,
                      Value.int IntKind.i64 x.place, Value.slice AS x.strikes.length cS],
                  Value.agg
                    #[Value.int IntKind.i64 y.kind, Value.int IntKind.i64 y.session, Value.int IntKind.i64 y.req.kind,
                      Value.int IntKind.i64 y.req.life, Value.int IntKind.i64 y.req.number,
                      Value.int IntKind.i64 y.req.place, Value.string y.req.key, Value.string y.req.to,
                      Value.slice AV' y.req.value.length cV', Value.int IntKind.i64 y.req.limit,
                      Value.int IntKind.i64 y.place, Value.slice AS' y.strikes.length cS'],
                  Value.pointer (some { block := b4, off := 0 }), undef, Value.pointer (some { block := b6, off := 0 }),
                  Value.pointer (some { block := b7, off := 0 }), Value.pointer (some { block := b8, off := 0 }), u9,
                  u10, u11, u12, u13, u14, u15,
                  Value.agg #[Value.slice A1 n1 c1, Value.slice A2 n2 c2, Value.slice A3 n3 c3],
                  Value.agg
                    #[Value.int IntKind.i64 x.kind, Value.int IntKind.i64 x.session, Value.int IntKind.i64 x.req.kind,
                      Value.int IntKind.i64 x.req.life, Value.int IntKind.i64 x.req.number,
                      Value.int IntKind.i64 x.req.place, Value.string x.req.key, Value.string x.req.to,
                      Value.slice a1 x.req.value.length k1, Value.int IntKind.i64 x.req.limit,
                      Value.int IntKind.i64 x.place, Value.slice a2 x.strikes.length k2],
                  Value.bool true, Value.bool false, undef, u21, u22, u23, u24, u25, u26, u27, u28, u29, u30, u31, u32,
                  u33, u34, u35, u36, u37, u38, u39, u40, u41, u42, u43, u44, u45, u46, u47, u48, u49, u50, u51, u52,
                  u53, u54, u55, u56, u57, u58, u59, u60, u61, u62, u63, u64, u65, u66, u67, u68, u69, u70, u71, u72,
                  u73, u74, u75, u76, u77, u78, u79, u80, u81, Value.pointer (some { block := b6, off := 0 }),
                  Value.int IntKind.i64 x.kind, u84, u85, u86, u87, u88, u89, u90, u91, u92, u93, u94, u95, u96, u97,
                  u98, u99, u100, u101, u102, u103, u104, u105, u106, u107, u108, u109, u110, u111, u112, u113, u114,
                  u115, u116, u117, u118, u119, u120, u121, u122, u123, u124, u125, u126, u127, u128, u129, u130, u131,
                  u132, u133, u134, u135, u136, u137, u138, u139, u140, u141, u142, u143, u144, u145, u146, u147, u148,
                  u149, u150, u151, u152, u153, u154, u155, u156, u157, u158, u159, u160, u161, u162, u163, u164, u165,
                  u166, u167, u168, u169, u170, u171, u172, u173, u174, u175, u176, u177, u178, u179, u180, u181, u182,
                  u183, u184, u185, u186, undef],
              defers := [] }) → J0 a' w')
    (hM0 : ∀ (a' : Act) (w' : World), Met J0 a' w' → K1 a' w') :
    Code.wp Try.prog theSwitch (Exit.then K1 Q0)
    {
      tmps :=
        #[Value.agg #[Value.slice A1 n1 c1, Value.slice A2 n2 c2, Value.slice A3 n3 c3], Value.int IntKind.i64 ↑place,
          Value.agg
            #[Value.int IntKind.i64 x.kind, Value.int IntKind.i64 x.session, Value.int IntKind.i64 x.req.kind,
              Value.int IntKind.i64 x.req.life, Value.int IntKind.i64 x.req.number, Value.int IntKind.i64 x.req.place,
              Value.string x.req.key, Value.string x.req.to, Value.slice AV x.req.value.length cV,
              Value.int IntKind.i64 x.req.limit, Value.int IntKind.i64 x.place, Value.slice AS x.strikes.length cS],
          Value.agg
            #[Value.int IntKind.i64 y.kind, Value.int IntKind.i64 y.session, Value.int IntKind.i64 y.req.kind,
              Value.int IntKind.i64 y.req.life, Value.int IntKind.i64 y.req.number, Value.int IntKind.i64 y.req.place,
              Value.string y.req.key, Value.string y.req.to, Value.slice AV' y.req.value.length cV',
              Value.int IntKind.i64 y.req.limit, Value.int IntKind.i64 y.place, Value.slice AS' y.strikes.length cS'],
          Value.pointer (some { block := b4, off := 0 }), undef, Value.pointer (some { block := b6, off := 0 }),
          Value.pointer (some { block := b7, off := 0 }), Value.pointer (some { block := b8, off := 0 }), u9, u10,
          undef, u12, u13, u14, u15, Value.agg #[Value.slice A1 n1 c1, Value.slice A2 n2 c2, Value.slice A3 n3 c3],
          Value.agg
            #[Value.int IntKind.i64 x.kind, Value.int IntKind.i64 x.session, Value.int IntKind.i64 x.req.kind,
              Value.int IntKind.i64 x.req.life, Value.int IntKind.i64 x.req.number, Value.int IntKind.i64 x.req.place,
              Value.string x.req.key, Value.string x.req.to, Value.slice a1 x.req.value.length k1,
              Value.int IntKind.i64 x.req.limit, Value.int IntKind.i64 x.place, Value.slice a2 x.strikes.length k2],
          Value.bool true, Value.bool false, undef, u21, u22, u23, u24, u25, u26, u27, u28, u29, u30, u31, u32, u33,
          u34, u35, u36, u37, u38, u39, u40, u41, u42, u43, u44, u45, u46, u47, u48, u49, u50, u51, u52, u53, u54, u55,
          u56, u57, u58, u59, u60, u61, u62, u63, u64, u65, u66, u67, u68, u69, u70, u71, u72, u73, u74, u75, u76, u77,
          u78, u79, u80, u81, Value.pointer (some { block := b6, off := 0 }), Value.int IntKind.i64 x.kind, undef,
          undef, undef, undef, undef, undef, undef, undef, undef, undef, undef, undef, undef, undef, undef, undef,
          undef, undef, undef, undef, undef, undef, undef, undef, undef, undef, undef, undef, undef, undef, undef,
          undef, undef, undef, undef, undef, undef, undef, undef, undef, undef, undef, undef, undef, undef, undef,
          undef, undef, undef, undef, undef, undef, undef, undef, undef, undef, undef, undef, undef, undef, undef,
          undef, undef, undef, undef, undef, undef, undef, undef, undef, undef, undef, undef, undef, undef, undef,
          undef, undef, undef, undef, undef, undef, undef, undef, undef, undef, undef, undef, undef, undef, undef,
          undef, undef, undef, undef, undef, undef, undef, undef, undef, undef, undef, undef, undef],
      defers := [] }
    wc := by
  conv => arg 2; whnf
  unfold evCs at HM
  obtain ⟨wo, rfl⟩ : ∃ wo : World, wo = wc := ⟨_, rfl⟩
  by_cases kk1 : x.kind = 1
  · have e1 : (x.kind == 1) = true := by simpa using kk1
    have KK1 := Lib.hid kk1
    clear kk1
    go_upto_region 14 with (fail)
    go_cut [86] from 86 to 91 (fun s wx => wx.heap[b6]? = some (.cells #[.int .i64 x.kind, .int .i64 x.session, .int .i64 x.req.kind, .int .i64 x.req.life, .int .i64 x.req.number, .int .i64 x.req.place, .string x.req.key, .string x.req.to, .slice a1 x.req.value.length k1, .int .i64 x.req.limit, .int .i64 y.place, .slice a4 y.strikes.length k4] 37 (0, 0)) ∧ Chg (fun k => k = b6) wo wx)
    case first =>
      go_region
      all_goals
        go_wp2
        go_meet
        case rel =>
          refine ⟨?_, ?_⟩
          · have hh := heap_set (heap_set HTF.out.h6 11 (.slice a4 y.strikes.length k4)) 10 (.int .i64 y.place)
            exact (show ((wo.setCell ⟨b6, 11, none⟩ (.slice a4 y.strikes.length k4)).setCell ⟨b6, 10, none⟩ (.int .i64 y.place)).heap[b6]? = _ from by simpa using hh)
          · repeat (first | with_reducible refine Chg.drew ?_ | with_reducible refine Chg.drewN ?_ _ | with_reducible refine Chg.set (S := fun k => k = b6) ?_ (.inr rfl) | with_reducible exact Chg.refl _ _)
    case rest =>
      obtain ⟨g6, hc6⟩ := hcut
      clear p0 p1 p2 p3 p4 p5 p6 p7 p8 p9 p10 p11 r0 r1 r2 r3 r4 r5 r6 r7 r8 r9 r10 r11 f6 f7 d0 d1 d2
      obtain ⟨p0, p1, p2, p3, p4, p5, p6, p7, p8, p9, p10, p11⟩ := cells12 g6
      have hcw : Chg (fun k => k = b6 ∨ k = b7) wo wc := hc6.mono (fun _ _ h => .inl h)
      obtain ⟨l1, -, -, -, -⟩ := HCL.out wc (hcw.mono (fun _ _ h => by omega))
      have HRQ : Hid (Calls Try.prog 45 #[.agg (reqCs x.req (.slice a1 x.req.value.length k1)).toArray] wc fun e w' => ∃ q' A n cc, e = .returned (.agg (reqCs q' (.slice A n cc)).toArray) ∧ q'.kind = x.req.kind ∧ Chg (fun _ => False) wc w') := Lib.hid (by
        refine (rreq_any (w := wc) (ok := fun k => wb.heap.size ≤ k ∧ k < wc.heap.size) x.req _ l1 (fun k hk => hk.2) HFX.out.1.2.2).mono ?_
        rintro e w' ⟨V', rfl, ho, hc⟩
        obtain ⟨A, n, e'⟩ := ho.form
        subst e'
        exact ⟨Ev.req x.req, _, _, _, rfl, req_kind x.req, hc⟩)
      have HG6 := Lib.hid g6
      have HCW7 : Hid (wc.heap[b7]? = wo.heap[b7]?) := Lib.hid (hc6.block b7 (lt_of _ HTF.out.h7) (by omega))
      have HCW := Lib.hid hcw
      clear g6 hc6 hcw l1
      unfold reqCs at HRQ
      go_wp2_with fail
      refine HRQ.out.mono ?_
      rintro e w7 ⟨q', Aq, nq, cq, rfl, hqk, hc7⟩
      go_upto_region 16 with (fail)
      obtain ⟨w8, hw8⟩ : ∃ w8, w8 = w7.alloc (.cells #[.int .i64 x.req.kind, .int .i64 q'.life, .int .i64 q'.number, .int .i64 q'.place, .string q'.key, .string q'.to, .slice Aq nq cq, .int .i64 q'.limit] 34) := ⟨_, rfl⟩
      have hc8 : Chg (fun _ => False) wc w8 := by rw [hw8]; exact hc7.alloc _
      have z0 : w8.cell? ⟨w7.heap.size, 0, none⟩ = some (.int .i64 x.req.kind) := by rw [hw8]; exact cell_at (heap_new w7 _) 0 rfl
      rw [← hw8]
      clear hw8 hqk hc7 p0 p1 p2 p3 p4 p5 p6 p7 p8 p9 p10 p11
      have HC8 : Hid (Chg (fun k => k = b6 ∨ k = b7) wo w8) := Lib.hid (HCW.out.trans (hc8.mono (T := fun k => k = b6 ∨ k = b7) (fun _ _ h => h.elim)) (fun _ _ h => h))
      have g6 := hc8.at_ HG6.out (fun h => h)
      have h7' : w8.heap[b7]? = _ := hc8.at_ ((HCW7.out).trans HTF.out.h7) (fun h => h)
      obtain ⟨p0, p1, p2, p3, p4, p5, p6, p7, p8, p9, p10, p11⟩ := cells12 g6
      obtain ⟨r0, r1, r2, r3, r4, r5, r6, r7, r8, r9, r10, r11⟩ := cells12 h7'
      have f6 := free_at g6
      have f7 := free_at h7'
      have G68 := Lib.hid g6
      clear g6 h7' hc8
      by_cases kq1 : x.req.kind < 1
      · have KQ := Lib.hid kq1
        go_wp2
        go_meet
        case rel =>
          have fin : ∀ wf, Chg (fun k => k = b6 ∨ k = b7) wo wf → wf.heap[b6]? = some (.cells (evCs ({ x with strikes := y.strikes, place := y.place, req := { y.req with kind := x.req.kind } } : Ev) (.slice a3 y.req.value.length k3) (.slice a4 y.strikes.length k4)).toArray 37 (0, 0)) → ChOut c place x y wb b6 b7 wf := fun wf hc hh => by
            obtain ⟨l1, l2, l3, l4, l5⟩ := HCL.out wf (hc.mono (fun _ _ h => by omega))
            refine ⟨_, _, _, Eq.symm ?_, hh, l3, l4, HTF.out.chg.trans hc (fun _ _ h => h)⟩
            unfold Ev.changed; rw [if_neg (by rw [HNM.out]; simp), if_pos KK1.out]; rw [Ev.askReq, if_pos (.inl KQ.out)]
          refine fin _ ?_ ?_
          · repeat (first | with_reducible exact HC8.out | with_reducible refine Chg.drew ?_ | with_reducible refine Chg.drewN ?_ _ | with_reducible refine Chg.set (S := fun k => k = b6 ∨ k = b7) ?_ (.inr (by first | exact .inl rfl | exact .inr rfl)) | with_reducible refine Chg.alloc ?_ _)
          · have hh := heap_set (heap_set (heap_set (heap_set (heap_set (heap_set (heap_set (heap_set ((heap_set_ne (b := b7) 2 (.int .i64 x.req.kind) n67').trans G68.out) 2 (.int .i64 x.req.kind)) 3 (.int .i64 y.req.life)) 4 (.int .i64 y.req.number)) 5 (.int .i64 y.req.place)) 6 (.string y.req.key)) 7 (.string y.req.to)) 8 (.slice a3 y.req.value.length k3)) 9 (.int .i64 y.req.limit)
            try simp only [evCs, List.setIfInBounds_toArray, List.set_cons_succ, List.set_cons_zero] at hh
            try simp only [drew_heap, drewN_heap]
            try simp only [evCs]
            with_reducible exact hh
      · have KQ1 := Lib.hid kq1
        by_cases kq7 : 7 < x.req.kind
        · have KQ := Lib.hid kq7
          go_wp2
          go_meet
          case rel =>
            have fin : ∀ wf, Chg (fun k => k = b6 ∨ k = b7) wo wf → wf.heap[b6]? = some (.cells (evCs ({ x with strikes := y.strikes, place := y.place, req := { y.req with kind := x.req.kind } } : Ev) (.slice a3 y.req.value.length k3) (.slice a4 y.strikes.length k4)).toArray 37 (0, 0)) → ChOut c place x y wb b6 b7 wf := fun wf hc hh => by
              obtain ⟨l1, l2, l3, l4, l5⟩ := HCL.out wf (hc.mono (fun _ _ h => by omega))
              refine ⟨_, _, _, Eq.symm ?_, hh, l3, l4, HTF.out.chg.trans hc (fun _ _ h => h)⟩
              unfold Ev.changed; rw [if_neg (by rw [HNM.out]; simp), if_pos KK1.out]; rw [Ev.askReq, if_pos (.inr KQ.out)]
            refine fin _ ?_ ?_
            · repeat (first | with_reducible exact HC8.out | with_reducible refine Chg.drew ?_ | with_reducible refine Chg.drewN ?_ _ | with_reducible refine Chg.set (S := fun k => k = b6 ∨ k = b7) ?_ (.inr (by first | exact .inl rfl | exact .inr rfl)) | with_reducible refine Chg.alloc ?_ _)
            · have hh := heap_set (heap_set (heap_set (heap_set (heap_set (heap_set (heap_set (heap_set ((heap_set_ne (b := b7) 2 (.int .i64 x.req.kind) n67').trans G68.out) 2 (.int .i64 x.req.kind)) 3 (.int .i64 y.req.life)) 4 (.int .i64 y.req.number)) 5 (.int .i64 y.req.place)) 6 (.string y.req.key)) 7 (.string y.req.to)) 8 (.slice a3 y.req.value.length k3)) 9 (.int .i64 y.req.limit)
              try simp only [evCs, List.setIfInBounds_toArray, List.set_cons_succ, List.set_cons_zero] at hh
              try simp only [drew_heap, drewN_heap]
              try simp only [evCs]
              with_reducible exact hh
        · have KQ7 := Lib.hid kq7
          by_cases kq6 : x.req.kind = 6 ∨ x.req.kind = 7
          · rcases kq6 with kq6 | kq6
            all_goals
              have KQ6 : Hid (x.req.kind = 6 ∨ x.req.kind = 7) := Lib.hid (by omega)
              first
                | (have e6 : (x.req.kind == 6) = true := by simpa using kq6)
                | (have e6 : (x.req.kind == 6) = false := by simp; omega
                   have e7 : (x.req.kind == 7) = true := by simpa using kq6)
              clear kq6
              go_upto_region 20 with (fail)
              go_region
              go_wp2
              go_meet
              case rel =>
                have fin : ∀ wf, Chg (fun k => k = b6 ∨ k = b7) wo wf → wf.heap[b6]? = some (.cells (evCs ({ x with strikes := y.strikes, place := y.place, req := { x.req with key := y.req.key, limit := y.req.limit } } : Ev) (.slice a1 x.req.value.length k1) (.slice a4 y.strikes.length k4)).toArray 37 (0, 0)) → ChOut c place x y wb b6 b7 wf := fun wf hc hh => by
                  obtain ⟨l1, l2, l3, l4, l5⟩ := HCL.out wf (hc.mono (fun _ _ h => by omega))
                  refine ⟨_, _, _, Eq.symm ?_, hh, l1, l4, HTF.out.chg.trans hc (fun _ _ h => h)⟩
                  unfold Ev.changed; rw [if_neg (by rw [HNM.out]; simp), if_pos KK1.out]; rw [Ev.askReq, if_neg (by have := KQ1.out; have := KQ7.out; omega), if_pos KQ6.out]
                refine fin _ ?_ ?_
                · repeat (first | with_reducible exact HC8.out | with_reducible refine Chg.drew ?_ | with_reducible refine Chg.drewN ?_ _ | with_reducible refine Chg.set (S := fun k => k = b6 ∨ k = b7) ?_ (.inr (by first | exact .inl rfl | exact .inr rfl)) | with_reducible refine Chg.alloc ?_ _)
                · have hh := heap_set (heap_set (G68.out) 6 (.string y.req.key)) 9 (.int .i64 y.req.limit)
                  try simp only [evCs, List.setIfInBounds_toArray, List.set_cons_succ, List.set_cons_zero] at hh
                  try simp only [drew_heap, drewN_heap]
                  try simp only [evCs]
                  with_reducible exact hh
          · have e6 : (x.req.kind == 6) = false := by simp; omega
            have e7 : (x.req.kind == 7) = false := by simp; omega
            have KQ6 := Lib.hid kq6
            clear kq6
            go_wp2
            go_meet
            case rel =>
              have fin : ∀ wf, Chg (fun k => k = b6 ∨ k = b7) wo wf → wf.heap[b6]? = some (.cells (evCs ({ x with strikes := y.strikes, place := y.place } : Ev) (.slice a1 x.req.value.length k1) (.slice a4 y.strikes.length k4)).toArray 37 (0, 0)) → ChOut c place x y wb b6 b7 wf := fun wf hc hh => by
                obtain ⟨l1, l2, l3, l4, l5⟩ := HCL.out wf (hc.mono (fun _ _ h => by omega))
                refine ⟨_, _, _, Eq.symm ?_, hh, l1, l4, HTF.out.chg.trans hc (fun _ _ h => h)⟩
                unfold Ev.changed; rw [if_neg (by rw [HNM.out]; simp), if_pos KK1.out]; rw [Ev.askReq, if_neg (by have := KQ1.out; have := KQ7.out; omega), if_neg KQ6.out]
              refine fin _ ?_ ?_
              · repeat (first | with_reducible exact HC8.out | with_reducible refine Chg.drew ?_ | with_reducible refine Chg.drewN ?_ _ | with_reducible refine Chg.set (S := fun k => k = b6 ∨ k = b7) ?_ (.inr (by first | exact .inl rfl | exact .inr rfl)) | with_reducible refine Chg.alloc ?_ _)
              · have hh := G68.out
                try simp only [evCs, List.setIfInBounds_toArray, List.set_cons_succ, List.set_cons_zero] at hh
                try simp only [drew_heap, drewN_heap]
                try simp only [evCs]
                with_reducible exact hh
  · have e1 : (x.kind == 1) = false := by simpa using kk1
    have KK1 := Lib.hid kk1
    clear kk1
    by_cases kk2 : x.kind = 2
    · have e2 : (x.kind == 2) = true := by simpa using kk2
      have KK2 := Lib.hid kk2
      clear kk2
      go_upto_region 22 with (fail)
      go_region
      go_wp2
      go_meet
      case rel =>
        have fin : ∀ wf, Chg (fun k => k = b6 ∨ k = b7) wo wf → wf.heap[b6]? = some (.cells (evCs ({ x with session := y.session, req := y.req, place := y.place, strikes := mixes c place x.strikes y.strikes } : Ev) (.slice a3 y.req.value.length k3) (.slice a2 x.strikes.length k2)).toArray 37 (0, 0)) → ChOut c place x y wb b6 b7 wf := fun wf hc hh => by
          obtain ⟨l1, l2, l3, l4, l5⟩ := HCL.out wf (hc.mono (fun _ _ h => by omega))
          refine ⟨_, _, _, Eq.symm ?_, hh, l3, l2, HTF.out.chg.trans hc (fun _ _ h => h)⟩
          unfold Ev.changed; rw [if_neg (by rw [HNM.out]; simp), if_neg KK1.out, if_pos KK2.out]
        refine fin _ ?_ ?_
        · repeat (first | with_reducible exact Chg.refl _ _ | with_reducible refine Chg.drew ?_ | with_reducible refine Chg.drewN ?_ _ | with_reducible refine Chg.set (S := fun k => k = b6 ∨ k = b7) ?_ (.inr (by first | exact .inl rfl | exact .inr rfl)) | with_reducible refine Chg.alloc ?_ _)
        · have hh := heap_set (heap_set (heap_set (heap_set (heap_set (heap_set (heap_set (heap_set (heap_set (heap_set (HTF.out.h6) 1 (.int .i64 y.session)) 2 (.int .i64 y.req.kind)) 3 (.int .i64 y.req.life)) 4 (.int .i64 y.req.number)) 5 (.int .i64 y.req.place)) 6 (.string y.req.key)) 7 (.string y.req.to)) 8 (.slice a3 y.req.value.length k3)) 9 (.int .i64 y.req.limit)) 10 (.int .i64 y.place)
          try simp only [evCs, List.setIfInBounds_toArray, List.set_cons_succ, List.set_cons_zero] at hh
          try simp only [drew_heap, drewN_heap]
          try simp only [evCs]
          with_reducible exact hh

    · have e2 : (x.kind == 2) = false := by simpa using kk2
      have KK2 := Lib.hid kk2
      clear kk2
      by_cases kk3 : x.kind = 3 ∨ x.kind = 4
      · have hr := may_place HNM.out kk3
        obtain ⟨pn, hpn⟩ := Int.eq_ofNat_of_zero_le hr.1
        have hpl3 : pn < n1 := by have := HN1.out; omega
        have HPN := Lib.hid hpn
        have HPT : Hid (x.place.toNat = pn) := Lib.hid (by omega)
        have HSX := seen_any (HC0.out _ HTF.out.chg) (fun k hk => hk) place pn hpl hpl3
        rw [← hpn] at HSX
        replace HSX := Lib.hid HSX
        have KK3 := Lib.hid kk3
        clear hr hpn
        rcases kk3 with kk3 | kk3
        all_goals
          first
            | (have e3 : (x.kind == 3) = true := by simpa using kk3)
            | (have e3 : (x.kind == 3) = false := by simp; omega
               have e4 : (x.kind == 4) = true := by simpa using kk3)
          clear kk3
          by_cases hsx : Ev.seen c place pn = true
          · rw [hsx] at HSX
            have HSS := Lib.hid hsx
            clear hsx
            go_wp2_with fail
            refine HSX.out.mono ?_
            rintro e w6 ⟨rfl, hc6⟩
            have HC6 : Hid (Chg (fun k => k = b6 ∨ k = b7) wo w6) := Lib.hid (hc6.mono (T := fun k => k = b6 ∨ k = b7) (fun _ _ h => h.elim))
            have ht6 := HTF.out.up hc6
            clear hc6
            clear p0 p1 p2 p3 p4 p5 p6 p7 p8 p9 p10 p11 r0 r1 r2 r3 r4 r5 r6 r7 r8 r9 r10 r11 f6 f7 d0 d1 d2
            obtain ⟨p0, p1, p2, p3, p4, p5, p6, p7, p8, p9, p10, p11⟩ := cells12 ht6.h6
            obtain ⟨r0, r1, r2, r3, r4, r5, r6, r7, r8, r9, r10, r11⟩ := cells12 ht6.h7
            have f6 := free_at ht6.h6
            have f7 := free_at ht6.h7
            have g4 := HB4.out _ ht6.chg
            have d0 := cell_at g4 0 rfl
            have d1 := cell_at g4 1 rfl
            have d2 := cell_at g4 2 rfl
            clear g4
            have HT6 := Lib.hid ht6
            clear ht6
            go_wp2
            go_meet
            case rel =>
              have fin : ∀ wf, Chg (fun k => k = b6 ∨ k = b7) wo wf → wf.heap[b6]? = some (.cells (evCs ({ x with strikes := mixes c place x.strikes y.strikes } : Ev) (.slice a1 x.req.value.length k1) (.slice a2 x.strikes.length k2)).toArray 37 (0, 0)) → ChOut c place x y wb b6 b7 wf := fun wf hc hh => by
                obtain ⟨l1, l2, l3, l4, l5⟩ := HCL.out wf (hc.mono (fun _ _ h => by omega))
                refine ⟨_, _, _, Eq.symm ?_, hh, l1, l2, HTF.out.chg.trans hc (fun _ _ h => h)⟩
                unfold Ev.changed; rw [if_neg (by rw [HNM.out]; simp), if_neg KK1.out, if_neg KK2.out, if_pos KK3.out, if_neg (fun ⟨h, _⟩ => by rw [HPT.out, HSS.out] at h; cases h)]
              refine fin _ ?_ ?_
              · repeat (first | with_reducible exact HC6.out | with_reducible refine Chg.drew ?_ | with_reducible refine Chg.drewN ?_ _ | with_reducible refine Chg.set (S := fun k => k = b6 ∨ k = b7) ?_ (.inr (by first | exact .inl rfl | exact .inr rfl)) | with_reducible refine Chg.alloc ?_ _)
              · have hh := HT6.out.h6
                try simp only [evCs, List.setIfInBounds_toArray, List.set_cons_succ, List.set_cons_zero] at hh
                try simp only [drew_heap, drewN_heap]
                try simp only [evCs]
                with_reducible exact hh
          · have hsx' : Ev.seen c place pn = false := by simpa using hsx
            rw [hsx'] at HSX
            have HSS := Lib.hid hsx'
            clear hsx hsx'
            go_wp2_with fail
            refine HSX.out.mono ?_
            rintro e w6 ⟨rfl, hc6⟩
            have HC6 : Hid (Chg (fun k => k = b6 ∨ k = b7) wo w6) := Lib.hid (hc6.mono (T := fun k => k = b6 ∨ k = b7) (fun _ _ h => h.elim))
            have ht6 := HTF.out.up hc6
            clear hc6
            clear p0 p1 p2 p3 p4 p5 p6 p7 p8 p9 p10 p11 r0 r1 r2 r3 r4 r5 r6 r7 r8 r9 r10 r11 f6 f7 d0 d1 d2
            obtain ⟨p0, p1, p2, p3, p4, p5, p6, p7, p8, p9, p10, p11⟩ := cells12 ht6.h6
            obtain ⟨r0, r1, r2, r3, r4, r5, r6, r7, r8, r9, r10, r11⟩ := cells12 ht6.h7
            have f6 := free_at ht6.h6
            have f7 := free_at ht6.h7
            have g4 := HB4.out _ ht6.chg
            have d0 := cell_at g4 0 rfl
            have d1 := cell_at g4 1 rfl
            have d2 := cell_at g4 2 rfl
            clear g4
            have HT6 := Lib.hid ht6
            clear ht6
            have HMY := Lib.hid (HM.out _ HT6.out.chg y a3 a4 y.req.value.length k3 y.strikes.length k4)
            by_cases y5 : y.kind = 5
            · have ye5 : (y.kind == 5) = true := by simpa using y5
              have Y5 := Lib.hid y5
              clear y5
              by_cases hmy : Ev.may c y = true
              · rw [hmy] at HMY
                have HMM := Lib.hid hmy
                clear hmy
                go_wp2_with fail
                refine HMY.out.mono ?_
                rintro e w7 ⟨rfl, hc7⟩
                have HC7 : Hid (Chg (fun k => k = b6 ∨ k = b7) wo w7) := Lib.hid (HC6.out.trans (hc7.mono (T := fun k => k = b6 ∨ k = b7) (fun _ _ h => h.elim)) (fun _ _ h => h))
                have ht7 := HT6.out.up hc7
                clear hc7
                clear p0 p1 p2 p3 p4 p5 p6 p7 p8 p9 p10 p11 r0 r1 r2 r3 r4 r5 r6 r7 r8 r9 r10 r11 f6 f7 d0 d1 d2
                obtain ⟨p0, p1, p2, p3, p4, p5, p6, p7, p8, p9, p10, p11⟩ := cells12 ht7.h6
                obtain ⟨r0, r1, r2, r3, r4, r5, r6, r7, r8, r9, r10, r11⟩ := cells12 ht7.h7
                have f6 := free_at ht7.h6
                have f7 := free_at ht7.h7
                have g4 := HB4.out _ ht7.chg
                have d0 := cell_at g4 0 rfl
                have d1 := cell_at g4 1 rfl
                have d2 := cell_at g4 2 rfl
                clear g4
                have HT7 := Lib.hid ht7
                clear ht7
                go_upto_region 26 with (fail)
                go_region
                go_wp2
                go_meet
                case rel =>
                  have fin : ∀ wf, Chg (fun k => k = b6 ∨ k = b7) wo wf → wf.heap[b6]? = some (.cells (evCs ({ x with kind := y.kind, place := y.place, strikes := mixes c place x.strikes y.strikes } : Ev) (.slice a1 x.req.value.length k1) (.slice a2 x.strikes.length k2)).toArray 37 (0, 0)) → ChOut c place x y wb b6 b7 wf := fun wf hc hh => by
                    obtain ⟨l1, l2, l3, l4, l5⟩ := HCL.out wf (hc.mono (fun _ _ h => by omega))
                    refine ⟨_, _, _, Eq.symm ?_, hh, l1, l2, HTF.out.chg.trans hc (fun _ _ h => h)⟩
                    unfold Ev.changed; rw [if_neg (by rw [HNM.out]; simp), if_neg KK1.out, if_neg KK2.out, if_pos KK3.out, if_pos ⟨by rw [HPT.out]; exact HSS.out, .inl Y5.out, HMM.out, .inl Y5.out⟩]
                  refine fin _ ?_ ?_
                  · repeat (first | with_reducible exact HC7.out | with_reducible refine Chg.drew ?_ | with_reducible refine Chg.drewN ?_ _ | with_reducible refine Chg.set (S := fun k => k = b6 ∨ k = b7) ?_ (.inr (by first | exact .inl rfl | exact .inr rfl)) | with_reducible refine Chg.alloc ?_ _)
                  · have hh := heap_set (heap_set (HT7.out.h6) 0 (.int .i64 y.kind)) 10 (.int .i64 y.place)
                    try simp only [evCs, List.setIfInBounds_toArray, List.set_cons_succ, List.set_cons_zero] at hh
                    try simp only [drew_heap, drewN_heap]
                    try simp only [evCs]
                    with_reducible exact hh
              · have hmy' : Ev.may c y = false := by simpa using hmy
                rw [hmy'] at HMY
                have HMM := Lib.hid hmy'
                clear hmy hmy'
                go_wp2_with fail
                refine HMY.out.mono ?_
                rintro e w7 ⟨rfl, hc7⟩
                have HC7 : Hid (Chg (fun k => k = b6 ∨ k = b7) wo w7) := Lib.hid (HC6.out.trans (hc7.mono (T := fun k => k = b6 ∨ k = b7) (fun _ _ h => h.elim)) (fun _ _ h => h))
                have ht7 := HT6.out.up hc7
                clear hc7
                clear p0 p1 p2 p3 p4 p5 p6 p7 p8 p9 p10 p11 r0 r1 r2 r3 r4 r5 r6 r7 r8 r9 r10 r11 f6 f7 d0 d1 d2
                obtain ⟨p0, p1, p2, p3, p4, p5, p6, p7, p8, p9, p10, p11⟩ := cells12 ht7.h6
                obtain ⟨r0, r1, r2, r3, r4, r5, r6, r7, r8, r9, r10, r11⟩ := cells12 ht7.h7
                have f6 := free_at ht7.h6
                have f7 := free_at ht7.h7
                have g4 := HB4.out _ ht7.chg
                have d0 := cell_at g4 0 rfl
                have d1 := cell_at g4 1 rfl
                have d2 := cell_at g4 2 rfl
                clear g4
                have HT7 := Lib.hid ht7
                clear ht7
                go_wp2
                go_meet
                case rel =>
                  have fin : ∀ wf, Chg (fun k => k = b6 ∨ k = b7) wo wf → wf.heap[b6]? = some (.cells (evCs ({ x with strikes := mixes c place x.strikes y.strikes } : Ev) (.slice a1 x.req.value.length k1) (.slice a2 x.strikes.length k2)).toArray 37 (0, 0)) → ChOut c place x y wb b6 b7 wf := fun wf hc hh => by
                    obtain ⟨l1, l2, l3, l4, l5⟩ := HCL.out wf (hc.mono (fun _ _ h => by omega))
                    refine ⟨_, _, _, Eq.symm ?_, hh, l1, l2, HTF.out.chg.trans hc (fun _ _ h => h)⟩
                    unfold Ev.changed; rw [if_neg (by rw [HNM.out]; simp), if_neg KK1.out, if_neg KK2.out, if_pos KK3.out, if_neg (fun ⟨_, _, h, _⟩ => by rw [HMM.out] at h; cases h)]
                  refine fin _ ?_ ?_
                  · repeat (first | with_reducible exact HC7.out | with_reducible refine Chg.drew ?_ | with_reducible refine Chg.drewN ?_ _ | with_reducible refine Chg.set (S := fun k => k = b6 ∨ k = b7) ?_ (.inr (by first | exact .inl rfl | exact .inr rfl)) | with_reducible refine Chg.alloc ?_ _)
                  · have hh := HT7.out.h6
                    try simp only [evCs, List.setIfInBounds_toArray, List.set_cons_succ, List.set_cons_zero] at hh
                    try simp only [drew_heap, drewN_heap]
                    try simp only [evCs]
                    with_reducible exact hh
            · have ye5 : (y.kind == 5) = false := by simpa using y5
              have NY5 := Lib.hid y5
              clear y5
              by_cases y3 : y.kind = 3
              · have ye3 : (y.kind == 3) = true := by simpa using y3
                have Y3 := Lib.hid y3
                clear y3
                by_cases hmy : Ev.may c y = true
                · rw [hmy] at HMY
                  have HMM := Lib.hid hmy
                  clear hmy
                  have hr := may_place HMM.out (.inl Y3.out)
                  obtain ⟨qn, hqn⟩ := Int.eq_ofNat_of_zero_le hr.1
                  have hql : qn < n1 := by have := HN1.out; omega
                  have HQN := Lib.hid hqn
                  have HQT : Hid (y.place.toNat = qn) := Lib.hid (by omega)
                  clear hr hqn
                  go_wp2_with fail
                  refine HMY.out.mono ?_
                  rintro e w7 ⟨rfl, hc7⟩
                  have HC7 : Hid (Chg (fun k => k = b6 ∨ k = b7) wo w7) := Lib.hid (HC6.out.trans (hc7.mono (T := fun k => k = b6 ∨ k = b7) (fun _ _ h => h.elim)) (fun _ _ h => h))
                  have ht7 := HT6.out.up hc7
                  clear hc7
                  clear p0 p1 p2 p3 p4 p5 p6 p7 p8 p9 p10 p11 r0 r1 r2 r3 r4 r5 r6 r7 r8 r9 r10 r11 f6 f7 d0 d1 d2
                  obtain ⟨p0, p1, p2, p3, p4, p5, p6, p7, p8, p9, p10, p11⟩ := cells12 ht7.h6
                  obtain ⟨r0, r1, r2, r3, r4, r5, r6, r7, r8, r9, r10, r11⟩ := cells12 ht7.h7
                  have f6 := free_at ht7.h6
                  have f7 := free_at ht7.h7
                  have g4 := HB4.out _ ht7.chg
                  have d0 := cell_at g4 0 rfl
                  have d1 := cell_at g4 1 rfl
                  have d2 := cell_at g4 2 rfl
                  clear g4
                  have HT7 := Lib.hid ht7
                  clear ht7
                  have HSY := seen_any (HC0.out _ HT7.out.chg) (fun k hk => hk) place qn hpl hql
                  rw [← HQN.out] at HSY
                  replace HSY := Lib.hid HSY
                  by_cases hsy : Ev.seen c place qn = true
                  · rw [hsy] at HSY
                    have HSQ := Lib.hid hsy
                    clear hsy
                    go_wp2_with fail
                    refine HSY.out.mono ?_
                    rintro e w8 ⟨rfl, hc8⟩
                    have HC8 : Hid (Chg (fun k => k = b6 ∨ k = b7) wo w8) := Lib.hid (HC7.out.trans (hc8.mono (T := fun k => k = b6 ∨ k = b7) (fun _ _ h => h.elim)) (fun _ _ h => h))
                    have ht8 := HT7.out.up hc8
                    clear hc8
                    clear p0 p1 p2 p3 p4 p5 p6 p7 p8 p9 p10 p11 r0 r1 r2 r3 r4 r5 r6 r7 r8 r9 r10 r11 f6 f7 d0 d1 d2
                    obtain ⟨p0, p1, p2, p3, p4, p5, p6, p7, p8, p9, p10, p11⟩ := cells12 ht8.h6
                    obtain ⟨r0, r1, r2, r3, r4, r5, r6, r7, r8, r9, r10, r11⟩ := cells12 ht8.h7
                    have f6 := free_at ht8.h6
                    have f7 := free_at ht8.h7
                    have g4 := HB4.out _ ht8.chg
                    have d0 := cell_at g4 0 rfl
                    have d1 := cell_at g4 1 rfl
                    have d2 := cell_at g4 2 rfl
                    clear g4
                    have HT8 := Lib.hid ht8
                    clear ht8
                    go_wp2
                    go_meet
                    case rel =>
                      have fin : ∀ wf, Chg (fun k => k = b6 ∨ k = b7) wo wf → wf.heap[b6]? = some (.cells (evCs ({ x with strikes := mixes c place x.strikes y.strikes } : Ev) (.slice a1 x.req.value.length k1) (.slice a2 x.strikes.length k2)).toArray 37 (0, 0)) → ChOut c place x y wb b6 b7 wf := fun wf hc hh => by
                        obtain ⟨l1, l2, l3, l4, l5⟩ := HCL.out wf (hc.mono (fun _ _ h => by omega))
                        refine ⟨_, _, _, Eq.symm ?_, hh, l1, l2, HTF.out.chg.trans hc (fun _ _ h => h)⟩
                        unfold Ev.changed; rw [if_neg (by rw [HNM.out]; simp), if_neg KK1.out, if_neg KK2.out, if_pos KK3.out, if_neg (fun ⟨_, _, _, h⟩ => h.elim (fun h => NY5.out h) (fun h => by rw [HQT.out, HSQ.out] at h; cases h))]
                      refine fin _ ?_ ?_
                      · repeat (first | with_reducible exact HC8.out | with_reducible refine Chg.drew ?_ | with_reducible refine Chg.drewN ?_ _ | with_reducible refine Chg.set (S := fun k => k = b6 ∨ k = b7) ?_ (.inr (by first | exact .inl rfl | exact .inr rfl)) | with_reducible refine Chg.alloc ?_ _)
                      · have hh := HT8.out.h6
                        try simp only [evCs, List.setIfInBounds_toArray, List.set_cons_succ, List.set_cons_zero] at hh
                        try simp only [drew_heap, drewN_heap]
                        try simp only [evCs]
                        with_reducible exact hh
                  · have hsy' : Ev.seen c place qn = false := by simpa using hsy
                    rw [hsy'] at HSY
                    have HSQ := Lib.hid hsy'
                    clear hsy hsy'
                    go_wp2_with fail
                    refine HSY.out.mono ?_
                    rintro e w8 ⟨rfl, hc8⟩
                    have HC8 : Hid (Chg (fun k => k = b6 ∨ k = b7) wo w8) := Lib.hid (HC7.out.trans (hc8.mono (T := fun k => k = b6 ∨ k = b7) (fun _ _ h => h.elim)) (fun _ _ h => h))
                    have ht8 := HT7.out.up hc8
                    clear hc8
                    clear p0 p1 p2 p3 p4 p5 p6 p7 p8 p9 p10 p11 r0 r1 r2 r3 r4 r5 r6 r7 r8 r9 r10 r11 f6 f7 d0 d1 d2
                    obtain ⟨p0, p1, p2, p3, p4, p5, p6, p7, p8, p9, p10, p11⟩ := cells12 ht8.h6
                    obtain ⟨r0, r1, r2, r3, r4, r5, r6, r7, r8, r9, r10, r11⟩ := cells12 ht8.h7
                    have f6 := free_at ht8.h6
                    have f7 := free_at ht8.h7
                    have g4 := HB4.out _ ht8.chg
                    have d0 := cell_at g4 0 rfl
                    have d1 := cell_at g4 1 rfl
                    have d2 := cell_at g4 2 rfl
                    clear g4
                    have HT8 := Lib.hid ht8
                    clear ht8
                    go_upto_region 26 with (fail)
                    go_region
                    go_wp2
                    go_meet
                    case rel =>
                      have fin : ∀ wf, Chg (fun k => k = b6 ∨ k = b7) wo wf → wf.heap[b6]? = some (.cells (evCs ({ x with kind := y.kind, place := y.place, strikes := mixes c place x.strikes y.strikes } : Ev) (.slice a1 x.req.value.length k1) (.slice a2 x.strikes.length k2)).toArray 37 (0, 0)) → ChOut c place x y wb b6 b7 wf := fun wf hc hh => by
                        obtain ⟨l1, l2, l3, l4, l5⟩ := HCL.out wf (hc.mono (fun _ _ h => by omega))
                        refine ⟨_, _, _, Eq.symm ?_, hh, l1, l2, HTF.out.chg.trans hc (fun _ _ h => h)⟩
                        unfold Ev.changed; rw [if_neg (by rw [HNM.out]; simp), if_neg KK1.out, if_neg KK2.out, if_pos KK3.out, if_pos ⟨by rw [HPT.out]; exact HSS.out, .inr (.inl Y3.out), HMM.out, .inr (by rw [HQT.out]; exact HSQ.out)⟩]
                      refine fin _ ?_ ?_
                      · repeat (first | with_reducible exact HC8.out | with_reducible refine Chg.drew ?_ | with_reducible refine Chg.drewN ?_ _ | with_reducible refine Chg.set (S := fun k => k = b6 ∨ k = b7) ?_ (.inr (by first | exact .inl rfl | exact .inr rfl)) | with_reducible refine Chg.alloc ?_ _)
                      · have hh := heap_set (heap_set (HT8.out.h6) 0 (.int .i64 y.kind)) 10 (.int .i64 y.place)
                        try simp only [evCs, List.setIfInBounds_toArray, List.set_cons_succ, List.set_cons_zero] at hh
                        try simp only [drew_heap, drewN_heap]
                        try simp only [evCs]
                        with_reducible exact hh
                · have hmy' : Ev.may c y = false := by simpa using hmy
                  rw [hmy'] at HMY
                  have HMM := Lib.hid hmy'
                  clear hmy hmy'
                  go_wp2_with fail
                  refine HMY.out.mono ?_
                  rintro e w7 ⟨rfl, hc7⟩
                  have HC7 : Hid (Chg (fun k => k = b6 ∨ k = b7) wo w7) := Lib.hid (HC6.out.trans (hc7.mono (T := fun k => k = b6 ∨ k = b7) (fun _ _ h => h.elim)) (fun _ _ h => h))
                  have ht7 := HT6.out.up hc7
                  clear hc7
                  clear p0 p1 p2 p3 p4 p5 p6 p7 p8 p9 p10 p11 r0 r1 r2 r3 r4 r5 r6 r7 r8 r9 r10 r11 f6 f7 d0 d1 d2
                  obtain ⟨p0, p1, p2, p3, p4, p5, p6, p7, p8, p9, p10, p11⟩ := cells12 ht7.h6
                  obtain ⟨r0, r1, r2, r3, r4, r5, r6, r7, r8, r9, r10, r11⟩ := cells12 ht7.h7
                  have f6 := free_at ht7.h6
                  have f7 := free_at ht7.h7
                  have g4 := HB4.out _ ht7.chg
                  have d0 := cell_at g4 0 rfl
                  have d1 := cell_at g4 1 rfl
                  have d2 := cell_at g4 2 rfl
                  clear g4
                  have HT7 := Lib.hid ht7
                  clear ht7
                  go_wp2
                  go_meet
                  case rel =>
                    have fin : ∀ wf, Chg (fun k => k = b6 ∨ k = b7) wo wf → wf.heap[b6]? = some (.cells (evCs ({ x with strikes := mixes c place x.strikes y.strikes } : Ev) (.slice a1 x.req.value.length k1) (.slice a2 x.strikes.length k2)).toArray 37 (0, 0)) → ChOut c place x y wb b6 b7 wf := fun wf hc hh => by
                      obtain ⟨l1, l2, l3, l4, l5⟩ := HCL.out wf (hc.mono (fun _ _ h => by omega))
                      refine ⟨_, _, _, Eq.symm ?_, hh, l1, l2, HTF.out.chg.trans hc (fun _ _ h => h)⟩
                      unfold Ev.changed; rw [if_neg (by rw [HNM.out]; simp), if_neg KK1.out, if_neg KK2.out, if_pos KK3.out, if_neg (fun ⟨_, _, h, _⟩ => by rw [HMM.out] at h; cases h)]
                    refine fin _ ?_ ?_
                    · repeat (first | with_reducible exact HC7.out | with_reducible refine Chg.drew ?_ | with_reducible refine Chg.drewN ?_ _ | with_reducible refine Chg.set (S := fun k => k = b6 ∨ k = b7) ?_ (.inr (by first | exact .inl rfl | exact .inr rfl)) | with_reducible refine Chg.alloc ?_ _)
                    · have hh := HT7.out.h6
                      try simp only [evCs, List.setIfInBounds_toArray, List.set_cons_succ, List.set_cons_zero] at hh
                      try simp only [drew_heap, drewN_heap]
                      try simp only [evCs]
                      with_reducible exact hh
              · have ye3 : (y.kind == 3) = false := by simpa using y3
                have NY3 := Lib.hid y3
                clear y3
                by_cases y4 : y.kind = 4
                · have ye4 : (y.kind == 4) = true := by simpa using y4
                  have Y4 := Lib.hid y4
                  clear y4
                  by_cases hmy : Ev.may c y = true
                  · rw [hmy] at HMY
                    have HMM := Lib.hid hmy
                    clear hmy
                    have hr := may_place HMM.out (.inr Y4.out)
                    obtain ⟨qn, hqn⟩ := Int.eq_ofNat_of_zero_le hr.1
                    have hql : qn < n1 := by have := HN1.out; omega
                    have HQN := Lib.hid hqn
                    have HQT : Hid (y.place.toNat = qn) := Lib.hid (by omega)
                    clear hr hqn
                    go_wp2_with fail
                    refine HMY.out.mono ?_
                    rintro e w7 ⟨rfl, hc7⟩
                    have HC7 : Hid (Chg (fun k => k = b6 ∨ k = b7) wo w7) := Lib.hid (HC6.out.trans (hc7.mono (T := fun k => k = b6 ∨ k = b7) (fun _ _ h => h.elim)) (fun _ _ h => h))
                    have ht7 := HT6.out.up hc7
                    clear hc7
                    clear p0 p1 p2 p3 p4 p5 p6 p7 p8 p9 p10 p11 r0 r1 r2 r3 r4 r5 r6 r7 r8 r9 r10 r11 f6 f7 d0 d1 d2
                    obtain ⟨p0, p1, p2, p3, p4, p5, p6, p7, p8, p9, p10, p11⟩ := cells12 ht7.h6
                    obtain ⟨r0, r1, r2, r3, r4, r5, r6, r7, r8, r9, r10, r11⟩ := cells12 ht7.h7
                    have f6 := free_at ht7.h6
                    have f7 := free_at ht7.h7
                    have g4 := HB4.out _ ht7.chg
                    have d0 := cell_at g4 0 rfl
                    have d1 := cell_at g4 1 rfl
                    have d2 := cell_at g4 2 rfl
                    clear g4
                    have HT7 := Lib.hid ht7
                    clear ht7
                    have HSY := seen_any (HC0.out _ HT7.out.chg) (fun k hk => hk) place qn hpl hql
                    rw [← HQN.out] at HSY
                    replace HSY := Lib.hid HSY
                    by_cases hsy : Ev.seen c place qn = true
                    · rw [hsy] at HSY
                      have HSQ := Lib.hid hsy
                      clear hsy
                      go_wp2_with fail
                      refine HSY.out.mono ?_
                      rintro e w8 ⟨rfl, hc8⟩
                      have HC8 : Hid (Chg (fun k => k = b6 ∨ k = b7) wo w8) := Lib.hid (HC7.out.trans (hc8.mono (T := fun k => k = b6 ∨ k = b7) (fun _ _ h => h.elim)) (fun _ _ h => h))
                      have ht8 := HT7.out.up hc8
                      clear hc8
                      clear p0 p1 p2 p3 p4 p5 p6 p7 p8 p9 p10 p11 r0 r1 r2 r3 r4 r5 r6 r7 r8 r9 r10 r11 f6 f7 d0 d1 d2
                      obtain ⟨p0, p1, p2, p3, p4, p5, p6, p7, p8, p9, p10, p11⟩ := cells12 ht8.h6
                      obtain ⟨r0, r1, r2, r3, r4, r5, r6, r7, r8, r9, r10, r11⟩ := cells12 ht8.h7
                      have f6 := free_at ht8.h6
                      have f7 := free_at ht8.h7
                      have g4 := HB4.out _ ht8.chg
                      have d0 := cell_at g4 0 rfl
                      have d1 := cell_at g4 1 rfl
                      have d2 := cell_at g4 2 rfl
                      clear g4
                      have HT8 := Lib.hid ht8
                      clear ht8
                      go_wp2
                      go_meet
                      case rel =>
                        have fin : ∀ wf, Chg (fun k => k = b6 ∨ k = b7) wo wf → wf.heap[b6]? = some (.cells (evCs ({ x with strikes := mixes c place x.strikes y.strikes } : Ev) (.slice a1 x.req.value.length k1) (.slice a2 x.strikes.length k2)).toArray 37 (0, 0)) → ChOut c place x y wb b6 b7 wf := fun wf hc hh => by
                          obtain ⟨l1, l2, l3, l4, l5⟩ := HCL.out wf (hc.mono (fun _ _ h => by omega))
                          refine ⟨_, _, _, Eq.symm ?_, hh, l1, l2, HTF.out.chg.trans hc (fun _ _ h => h)⟩
                          unfold Ev.changed; rw [if_neg (by rw [HNM.out]; simp), if_neg KK1.out, if_neg KK2.out, if_pos KK3.out, if_neg (fun ⟨_, _, _, h⟩ => h.elim (fun h => NY5.out h) (fun h => by rw [HQT.out, HSQ.out] at h; cases h))]
                        refine fin _ ?_ ?_
                        · repeat (first | with_reducible exact HC8.out | with_reducible refine Chg.drew ?_ | with_reducible refine Chg.drewN ?_ _ | with_reducible refine Chg.set (S := fun k => k = b6 ∨ k = b7) ?_ (.inr (by first | exact .inl rfl | exact .inr rfl)) | with_reducible refine Chg.alloc ?_ _)
                        · have hh := HT8.out.h6
                          try simp only [evCs, List.setIfInBounds_toArray, List.set_cons_succ, List.set_cons_zero] at hh
                          try simp only [drew_heap, drewN_heap]
                          try simp only [evCs]
                          with_reducible exact hh
                    · have hsy' : Ev.seen c place qn = false := by simpa using hsy
                      rw [hsy'] at HSY
                      have HSQ := Lib.hid hsy'
                      clear hsy hsy'
                      go_wp2_with fail
                      refine HSY.out.mono ?_
                      rintro e w8 ⟨rfl, hc8⟩
                      have HC8 : Hid (Chg (fun k => k = b6 ∨ k = b7) wo w8) := Lib.hid (HC7.out.trans (hc8.mono (T := fun k => k = b6 ∨ k = b7) (fun _ _ h => h.elim)) (fun _ _ h => h))
                      have ht8 := HT7.out.up hc8
                      clear hc8
                      clear p0 p1 p2 p3 p4 p5 p6 p7 p8 p9 p10 p11 r0 r1 r2 r3 r4 r5 r6 r7 r8 r9 r10 r11 f6 f7 d0 d1 d2
                      obtain ⟨p0, p1, p2, p3, p4, p5, p6, p7, p8, p9, p10, p11⟩ := cells12 ht8.h6
                      obtain ⟨r0, r1, r2, r3, r4, r5, r6, r7, r8, r9, r10, r11⟩ := cells12 ht8.h7
                      have f6 := free_at ht8.h6
                      have f7 := free_at ht8.h7
                      have g4 := HB4.out _ ht8.chg
                      have d0 := cell_at g4 0 rfl
                      have d1 := cell_at g4 1 rfl
                      have d2 := cell_at g4 2 rfl
                      clear g4
                      have HT8 := Lib.hid ht8
                      clear ht8
                      go_upto_region 26 with (fail)
                      go_region
                      go_wp2
                      go_meet
                      case rel =>
                        have fin : ∀ wf, Chg (fun k => k = b6 ∨ k = b7) wo wf → wf.heap[b6]? = some (.cells (evCs ({ x with kind := y.kind, place := y.place, strikes := mixes c place x.strikes y.strikes } : Ev) (.slice a1 x.req.value.length k1) (.slice a2 x.strikes.length k2)).toArray 37 (0, 0)) → ChOut c place x y wb b6 b7 wf := fun wf hc hh => by
                          obtain ⟨l1, l2, l3, l4, l5⟩ := HCL.out wf (hc.mono (fun _ _ h => by omega))
                          refine ⟨_, _, _, Eq.symm ?_, hh, l1, l2, HTF.out.chg.trans hc (fun _ _ h => h)⟩
                          unfold Ev.changed; rw [if_neg (by rw [HNM.out]; simp), if_neg KK1.out, if_neg KK2.out, if_pos KK3.out, if_pos ⟨by rw [HPT.out]; exact HSS.out, .inr (.inr Y4.out), HMM.out, .inr (by rw [HQT.out]; exact HSQ.out)⟩]
                        refine fin _ ?_ ?_
                        · repeat (first | with_reducible exact HC8.out | with_reducible refine Chg.drew ?_ | with_reducible refine Chg.drewN ?_ _ | with_reducible refine Chg.set (S := fun k => k = b6 ∨ k = b7) ?_ (.inr (by first | exact .inl rfl | exact .inr rfl)) | with_reducible refine Chg.alloc ?_ _)
                        · have hh := heap_set (heap_set (HT8.out.h6) 0 (.int .i64 y.kind)) 10 (.int .i64 y.place)
                          try simp only [evCs, List.setIfInBounds_toArray, List.set_cons_succ, List.set_cons_zero] at hh
                          try simp only [drew_heap, drewN_heap]
                          try simp only [evCs]
                          with_reducible exact hh
                  · have hmy' : Ev.may c y = false := by simpa using hmy
                    rw [hmy'] at HMY
                    have HMM := Lib.hid hmy'
                    clear hmy hmy'
                    go_wp2_with fail
                    refine HMY.out.mono ?_
                    rintro e w7 ⟨rfl, hc7⟩
                    have HC7 : Hid (Chg (fun k => k = b6 ∨ k = b7) wo w7) := Lib.hid (HC6.out.trans (hc7.mono (T := fun k => k = b6 ∨ k = b7) (fun _ _ h => h.elim)) (fun _ _ h => h))
                    have ht7 := HT6.out.up hc7
                    clear hc7
                    clear p0 p1 p2 p3 p4 p5 p6 p7 p8 p9 p10 p11 r0 r1 r2 r3 r4 r5 r6 r7 r8 r9 r10 r11 f6 f7 d0 d1 d2
                    obtain ⟨p0, p1, p2, p3, p4, p5, p6, p7, p8, p9, p10, p11⟩ := cells12 ht7.h6
                    obtain ⟨r0, r1, r2, r3, r4, r5, r6, r7, r8, r9, r10, r11⟩ := cells12 ht7.h7
                    have f6 := free_at ht7.h6
                    have f7 := free_at ht7.h7
                    have g4 := HB4.out _ ht7.chg
                    have d0 := cell_at g4 0 rfl
                    have d1 := cell_at g4 1 rfl
                    have d2 := cell_at g4 2 rfl
                    clear g4
                    have HT7 := Lib.hid ht7
                    clear ht7
                    go_wp2
                    go_meet
                    case rel =>
                      have fin : ∀ wf, Chg (fun k => k = b6 ∨ k = b7) wo wf → wf.heap[b6]? = some (.cells (evCs ({ x with strikes := mixes c place x.strikes y.strikes } : Ev) (.slice a1 x.req.value.length k1) (.slice a2 x.strikes.length k2)).toArray 37 (0, 0)) → ChOut c place x y wb b6 b7 wf := fun wf hc hh => by
                        obtain ⟨l1, l2, l3, l4, l5⟩ := HCL.out wf (hc.mono (fun _ _ h => by omega))
                        refine ⟨_, _, _, Eq.symm ?_, hh, l1, l2, HTF.out.chg.trans hc (fun _ _ h => h)⟩
                        unfold Ev.changed; rw [if_neg (by rw [HNM.out]; simp), if_neg KK1.out, if_neg KK2.out, if_pos KK3.out, if_neg (fun ⟨_, _, h, _⟩ => by rw [HMM.out] at h; cases h)]
                      refine fin _ ?_ ?_
                      · repeat (first | with_reducible exact HC7.out | with_reducible refine Chg.drew ?_ | with_reducible refine Chg.drewN ?_ _ | with_reducible refine Chg.set (S := fun k => k = b6 ∨ k = b7) ?_ (.inr (by first | exact .inl rfl | exact .inr rfl)) | with_reducible refine Chg.alloc ?_ _)
                      · have hh := HT7.out.h6
                        try simp only [evCs, List.setIfInBounds_toArray, List.set_cons_succ, List.set_cons_zero] at hh
                        try simp only [drew_heap, drewN_heap]
                        try simp only [evCs]
                        with_reducible exact hh
                · have ye4 : (y.kind == 4) = false := by simpa using y4
                  have NY4 := Lib.hid y4
                  clear y4
                  go_wp2
                  go_meet
                  case rel =>
                    have fin : ∀ wf, Chg (fun k => k = b6 ∨ k = b7) wo wf → wf.heap[b6]? = some (.cells (evCs ({ x with strikes := mixes c place x.strikes y.strikes } : Ev) (.slice a1 x.req.value.length k1) (.slice a2 x.strikes.length k2)).toArray 37 (0, 0)) → ChOut c place x y wb b6 b7 wf := fun wf hc hh => by
                      obtain ⟨l1, l2, l3, l4, l5⟩ := HCL.out wf (hc.mono (fun _ _ h => by omega))
                      refine ⟨_, _, _, Eq.symm ?_, hh, l1, l2, HTF.out.chg.trans hc (fun _ _ h => h)⟩
                      unfold Ev.changed; rw [if_neg (by rw [HNM.out]; simp), if_neg KK1.out, if_neg KK2.out, if_pos KK3.out, if_neg (fun ⟨_, h, _⟩ => h.elim (fun h => NY5.out h) (fun h => h.elim (fun h => NY3.out h) (fun h => NY4.out h)))]
                    refine fin _ ?_ ?_
                    · repeat (first | with_reducible exact HC6.out | with_reducible refine Chg.drew ?_ | with_reducible refine Chg.drewN ?_ _ | with_reducible refine Chg.set (S := fun k => k = b6 ∨ k = b7) ?_ (.inr (by first | exact .inl rfl | exact .inr rfl)) | with_reducible refine Chg.alloc ?_ _)
                    · have hh := HT6.out.h6
                      try simp only [evCs, List.setIfInBounds_toArray, List.set_cons_succ, List.set_cons_zero] at hh
                      try simp only [drew_heap, drewN_heap]
                      try simp only [evCs]
                      with_reducible exact hh
      · have e3 : (x.kind == 3) = false := by simp; omega
        have e4 : (x.kind == 4) = false := by simp; omega
        have KK3 := Lib.hid kk3
        clear kk3
        go_wp2
        go_meet
        case rel =>
          have fin : ∀ wf, Chg (fun k => k = b6 ∨ k = b7) wo wf → wf.heap[b6]? = some (.cells (evCs ({ x with strikes := mixes c place x.strikes y.strikes } : Ev) (.slice a1 x.req.value.length k1) (.slice a2 x.strikes.length k2)).toArray 37 (0, 0)) → ChOut c place x y wb b6 b7 wf := fun wf hc hh => by
            obtain ⟨l1, l2, l3, l4, l5⟩ := HCL.out wf (hc.mono (fun _ _ h => by omega))
            refine ⟨_, _, _, Eq.symm ?_, hh, l1, l2, HTF.out.chg.trans hc (fun _ _ h => h)⟩
            unfold Ev.changed; rw [if_neg (by rw [HNM.out]; simp), if_neg KK1.out, if_neg KK2.out, if_neg KK3.out]
          refine fin _ ?_ ?_
          · repeat (first | with_reducible exact Chg.refl _ _ | with_reducible refine Chg.drew ?_ | with_reducible refine Chg.drewN ?_ _ | with_reducible refine Chg.set (S := fun k => k = b6 ∨ k = b7) ?_ (.inr (by first | exact .inl rfl | exact .inr rfl)) | with_reducible refine Chg.alloc ?_ _)
          · have hh := HTF.out.h6
            try simp only [evCs, List.setIfInBounds_toArray, List.set_cons_succ, List.set_cons_zero] at hh
            try simp only [drew_heap, drewN_heap]
            try simp only [evCs]
            with_reducible exact hh
end Go.Proofs.Ytchlolgfahgdeaa.Ech
