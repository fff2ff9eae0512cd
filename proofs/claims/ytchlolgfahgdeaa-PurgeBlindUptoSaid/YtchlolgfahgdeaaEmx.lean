/- Strikes of one's own with each inner list apart (Mx): stores into them; the copies that give such. Conditions: what is copied reads so. -/
import Derived.Test.YtchlolgfahgdeaaEc
set_option linter.unusedVariables false
set_option linter.unusedSimpArgs false
namespace Go.Proofs.Ytchlolgfahgdeaa.Emx
open Go.RowKit Go.Proofs.Ytchlolgfahgdeaa.Lib1 Go.Proofs.Ytchlolgfahgdeaa.Rel Go.Proofs.Ytchlolgfahgdeaa.Own Go.Proofs.Ytchlolgfahgdeaa.Ev Go.Proofs.Ytchlolgfahgdeaa.Ek Go.Proofs.Ytchlolgfahgdeaa.Lat Go.Proofs.Ytchlolgfahgdeaa.Ec

abbrev TF : Nat := 76
abbrev TFs : Nat := 73

def fcs (f : List Fate) : List Value := f.flatMap fateCs
theorem fcs_len (f : List Fate) : (fcs f).length = f.length * 3 := by
  induction f with
  | nil => rfl
  | cons x r ih => simp only [fcs, List.flatMap_cons, List.length_append, List.length_cons] at *; rw [ih]; simp [fateCs]; omega
theorem fcs_get (f : List Fate) (p : Nat) (x : Fate) (h : f[p]? = some x) : (fcs f)[p * 3]? = some (.int .i64 x.done) ∧ (fcs f)[p * 3 + 1]? = some (.int .i64 x.keep) ∧ (fcs f)[p * 3 + 2]? = some (.int .u8 (x.torn.toNat : Int)) := by
  induction f generalizing p with
  | nil => simp at h
  | cons y r ih =>
    cases p with
    | zero => simp only [List.getElem?_cons_zero, Option.some.injEq] at h; subst h; exact ⟨rfl, rfl, rfl⟩
    | succ p =>
      simp only [List.getElem?_cons_succ] at h
      obtain ⟨h1, h2, h3⟩ := ih p h
      simp only [fcs, List.flatMap_cons] at *
      refine ⟨?_, ?_, ?_⟩
      · rw [show (p + 1) * 3 = p * 3 + 3 by omega, List.getElem?_append_right (by simp [fateCs])]; simpa [fateCs] using h1
      · rw [show (p + 1) * 3 + 1 = p * 3 + 1 + 3 by omega, List.getElem?_append_right (by simp [fateCs])]; simpa [fateCs] using h2
      · rw [show (p + 1) * 3 + 2 = p * 3 + 2 + 3 by omega, List.getElem?_append_right (by simp [fateCs])]; simpa [fateCs] using h3
theorem fcs_set (f : List Fate) (p : Nat) (x : Fate) (h : p < f.length) : fcs (f.set p x) = (((fcs f).set (p * 3) (.int .i64 x.done)).set (p * 3 + 1) (.int .i64 x.keep)).set (p * 3 + 2) (.int .u8 (x.torn.toNat : Int)) := by
  induction f generalizing p with
  | nil => simp at h
  | cons y r ih =>
    cases p with
    | zero => simp [fcs, fateCs]
    | succ p =>
      simp only [List.length_cons] at h
      have := ih p (by omega)
      simp only [fcs, List.set_cons_succ, List.flatMap_cons] at *
      rw [this, show (p + 1) * 3 = p * 3 + 3 by omega, show p * 3 + 3 + 1 = (p * 3 + 1) + 3 by omega, show p * 3 + 3 + 2 = (p * 3 + 2) + 3 by omega]
      simp [fateCs]

structure Mx (w : World) (E : Nat → Prop) (S : Value) (rows : Nat → Value) (m : List (List Fate)) : Prop where
  own : w.ownsRow 0 TFs 1 S m.length ((List.range m.length).map rows)
  ownE : ∀ k, S.ownBlock = some k → E k
  row : ∀ i f, m[i]? = some f → w.ownsRow 0 TF 3 (rows i) f.length (fcs f)
  rowE : ∀ i, i < m.length → ∀ k, (rows i).ownBlock = some k → E k
  sep : ∀ i j k, i < m.length → j < m.length → (rows i).ownBlock = some k → (rows j).ownBlock = some k → i = j

section
variable {w w1 : World} {E : Nat → Prop} {S : Value} {rows : Nat → Value} {m : List (List Fate)}
theorem Mx.move (h : Mx w E S rows m) (hm : ∀ k, E k → w1.heap[k]? = w.heap[k]?) : Mx w1 E S rows m :=
  ⟨own_move h.own (fun k hk => hm k (h.ownE k hk)), h.ownE, fun i f hf => own_move (h.row i f hf) (fun k hk => hm k (h.rowE i (List.getElem?_eq_some_iff.1 hf).1 k hk)), h.rowE, h.sep⟩
theorem Mx.lt (h : Mx w E S rows m) (i : Nat) (hi : i < m.length) : ∀ k, (rows i).ownBlock = some k → k < w.heap.size := fun k hk => ((h.row i _ (List.getElem?_eq_getElem hi)).lt k hk).2
theorem Mx.apart (h : Mx w E S rows m) (i : Nat) (hi : i < m.length) : ∀ k, (rows i).ownBlock = some k → S.ownBlock ≠ some k := by
  intro k hk hS
  have hr := h.row i _ (List.getElem?_eq_getElem hi)
  rcases hr.2 with ⟨e, _⟩ | ⟨g, cap, cur, e, _, hg, _⟩
  · rw [e] at hk; cases hk
  · rcases h.own.2 with ⟨e', _⟩ | ⟨g', cap', cur', e', _, hg', _⟩
    · rw [e'] at hS; cases hS
    · rw [e] at hk; rw [e'] at hS
      simp only [Value.ownBlock, Option.some.injEq] at hk hS
      subst hk hS
      rw [hg] at hg'
      injection hg' with hg'
      injection hg' with _ ht
      exact absurd ht (by decide)
/-- It reads. -/
theorem Mx.reads (h : Mx w E S rows m) : strikesK.rel E w m [S] := by
  obtain ⟨A, c, e, hrd⟩ := Rd.of_own h.own
  refine ⟨A, c, _, congrArg (fun v => [v]) e, hrd.mono (fun k hk => h.ownE k hk), fun i f hf => ?_⟩
  have hi := (List.getElem?_eq_some_iff.1 hf).1
  obtain ⟨A1, c1, e1, hrd1⟩ := Rd.of_own (h.row i f hf)
  have hcs : (((List.range m.length).map rows).drop (i * 1)).take 1 = [rows i] := by
    rw [Nat.mul_one, List.drop_eq_getElem_cons (by simpa using hi)]; simp
  show fatesK.rel E w f ((((List.range m.length).map rows).drop (i * 1)).take 1)
  rw [hcs]
  refine ⟨A1, c1, fcs f, congrArg (fun v => [v]) e1, hrd1.mono (fun k hk => h.rowE i hi k hk), fun p x hx => ?_⟩
  show ((fcs f).drop (p * 3)).take 3 = fateCs x
  obtain ⟨g0, g1, g2⟩ := fcs_get f p x hx
  apply List.ext_getElem?
  intro j
  rw [List.getElem?_take, List.getElem?_drop]
  match j with
  | 0 => simpa [fateCs] using g0
  | 1 => simpa [fateCs] using g1
  | 2 => simpa [fateCs] using g2
  | (j + 3) => rw [if_neg (by omega)]; simp [fateCs]

/-- A store into one place. -/
theorem Mx.set (h : Mx w E S rows m) {i p : Nat} {f : List Fate} (hf : m[i]? = some f) (hp : p < f.length) (x : Fate) {g n cap : Nat} (hg : rows i = .slice (some ⟨g, 0, none⟩) n cap)
    (e : w1.heap = (((w.setCell ⟨g, p * 3, none⟩ (.int .i64 x.done)).setCell ⟨g, p * 3 + 1, none⟩ (.int .i64 x.keep)).setCell ⟨g, p * 3 + 2, none⟩ (.int .u8 (x.torn.toNat : Int))).heap) :
    Mx w1 E S rows (m.set i (f.set p x)) := by
  have hi := (List.getElem?_eq_some_iff.1 hf).1
  have hkg : (rows i).ownBlock = some g := by rw [hg]; rfl
  have hother : ∀ k, k ≠ g → w1.heap[k]? = w.heap[k]? := fun k hk => by rw [e]; exact (heap_set_ne _ _ hk).trans ((heap_set_ne _ _ hk).trans (heap_set_ne _ _ hk))
  have hrow : w1.ownsRow 0 TF 3 (rows i) (f.set p x).length (fcs (f.set p x)) := by
    have hr := h.row i f hf
    have hl := hr.1
    rcases hr.2 with ⟨e', _⟩ | ⟨g', cap', cur, e', hb, hgg, hn, hc, hs, ht⟩
    · rw [e'] at hg; cases hg
    · rw [e'] at hg; cases hg
      refine ⟨by rw [fcs_len], .inr ⟨g, cap, ((cur.setIfInBounds (p * 3) (.int .i64 x.done)).setIfInBounds (p * 3 + 1) (.int .i64 x.keep)).setIfInBounds (p * 3 + 2) (.int .u8 (x.torn.toNat : Int)), by rw [List.length_set]; exact e', Nat.zero_le _, ?_, by rw [List.length_set]; exact hn, hc, by simpa using hs, ?_⟩⟩
      · rw [e]; exact heap_set (heap_set (heap_set hgg _ _) _ _) _ _
      · rw [List.length_set, fcs_set f p x hp, ← ht]
        simp only [Array.toList_setIfInBounds]
        rw [List.take_set, List.take_set, List.take_set]
  refine ⟨?_, h.ownE, fun j f' hf' => ?_, fun j hj => h.rowE j (by simpa using hj), fun a b k ha hb => h.sep a b k (by simpa using ha) (by simpa using hb)⟩
  · rw [List.length_set]
    exact own_move h.own (fun k hk => hother k (fun hkk => by subst hkk; exact h.apart i hi _ hkg hk))
  · by_cases hj : j = i
    · subst hj
      rw [List.getElem?_set_self hi] at hf'
      cases hf'
      exact hrow
    · rw [List.getElem?_set_ne (fun h => hj h.symm)] at hf'
      exact own_move (h.row j f' hf') (fun k hk => hother k (fun hkk => by subst hkk; exact hj (h.sep j i _ (List.getElem?_eq_some_iff.1 hf').1 hi hk hkg)))
theorem Mx.chg (h : Mx w E S rows m) {i : Nat} (hi : i < m.length) {g n cap : Nat} (hg : rows i = .slice (some ⟨g, 0, none⟩) n cap) : E g := h.rowE i hi g (by rw [hg]; rfl)
end

/-- From a fresh list of one's own. -/
theorem fates_cells {f : List Fate} {cells : List Value} (hl : cells.length = f.length * 3) (h : ∀ i x, f[i]? = some x → ((cells.drop (i * 3)).take 3) = fateCs x) : cells = fcs f := by
  apply List.ext_getElem?
  intro j
  by_cases hj : j < f.length * 3
  · obtain ⟨q, r, hr, rfl⟩ : ∃ q r, r < 3 ∧ j = q * 3 + r := ⟨j / 3, j % 3, by omega, by omega⟩
    have hq : q < f.length := by omega
    have h1 := h q _ (List.getElem?_eq_getElem hq)
    obtain ⟨g0, g1, g2⟩ := fcs_get f q _ (List.getElem?_eq_getElem hq)
    have h2 : cells[q * 3 + r]? = (fateCs f[q])[r]? := by
      rw [← h1, List.getElem?_take, if_pos hr, List.getElem?_drop]
    rw [h2]
    match r, hr with
    | 0, _ => rw [Nat.add_zero, g0]; rfl
    | 1, _ => rw [g1]; rfl
    | 2, _ => rw [g2]; rfl
  · rw [List.getElem?_eq_none (by omega), List.getElem?_eq_none (by rw [fcs_len]; omega)]
theorem own_fates {base : Nat} {w : World} {v : Value} {f : List Fate} (h : OwnL fateK TF base w v f) : w.ownsRow 0 TF 3 v f.length (fcs f) := by
  obtain ⟨cells, ho, hr⟩ := h
  rw [← fates_cells ho.1 (fun i x hx => hr i x hx)]
  exact own_base_le ho (fun k _ => Nat.zero_le _)

/-- In the copy's loop: k lists copied; list i's block in [b i, b (i + 1)). -/
def CpM (w : World) (s : List (List Fate)) (v i : Value) (wr : World) : Prop := ∃ (k : Nat) (rows : Nat → Value), k ≤ s.length ∧ i = .int .i64 k ∧ Mx wr (fun j => w.heap.size ≤ j ∧ j < wr.heap.size) v rows (s.take k) ∧ Chg (fun _ => False) w wr

theorem Mx.push {w W w2 w3 : World} {v v2 v3 : Value} {rows : Nat → Value} {s : List (List Fate)} {f : List Fate} (h : Mx W (fun j => w.heap.size ≤ j ∧ j < W.heap.size) v rows s) (hc0 : w.heap.size ≤ W.heap.size) (o2 : OwnL fateK TF W.heap.size w2 v2 f) (c2 : Chg (fun _ => False) W w2)
    (o3 : w3.ownsRow w.heap.size TFs 1 v3 (s.length + 1) ((List.range s.length).map rows ++ [v2])) (g3 : w2.grownBy w3 v.ownBlock) (r3 : v3.ownBlock = v.ownBlock ∨ ∃ b, v3.ownBlock = some b ∧ w2.heap.size ≤ b) :
    ∃ rows', Mx w3 (fun j => w.heap.size ≤ j ∧ j < w3.heap.size) v3 rows' (s ++ [f]) := by
  have h2 := h.move (w1 := w2) (fun k hk => c2.block k hk.2 (fun h => h))
  have s2 := c2.size
  have s3 := g3.size
  have f2 := own_fates o2
  have l2 := o2.low
  have m3 : ∀ k, some k ≠ v.ownBlock → k < w2.heap.size → w3.heap[k]? = w2.heap[k]? := fun k hk hl => g3.block k hl hk
  have vE : ∀ k, v.ownBlock = some k → w.heap.size ≤ k ∧ k < W.heap.size := h.ownE
  let rows' : Nat → Value := fun i => if i < s.length then rows i else v2
  have e0 : ∀ i, i < s.length → rows' i = rows i := fun i hi => if_pos hi
  have e1 : rows' s.length = v2 := if_neg (Nat.lt_irrefl _)
  have hlen : (s ++ [f]).length = s.length + 1 := by simp
  refine ⟨rows', ⟨?_, fun k hk => ?_, fun i x hx => ?_, fun i hi k hk => ?_, fun i j k hi hj hik hjk => ?_⟩⟩
  · have hmap : (List.range (s ++ [f]).length).map rows' = (List.range s.length).map rows ++ [v2] := by
      rw [hlen, List.range_succ, List.map_append, List.map_singleton, e1]
      congr 1
      exact List.map_congr_left (fun i hi => e0 i (List.mem_range.1 hi))
    rw [hmap, hlen]
    exact own_base_le o3 (fun k _ => Nat.zero_le _)
  · exact o3.lt k hk
  · rcases Nat.lt_or_ge i s.length with hi | hi
    · rw [List.getElem?_append_left hi] at hx
      rw [e0 i hi]
      refine own_move (h2.row i x hx) (fun k hk => m3 k (fun e => h2.apart i hi k hk e.symm) (h2.lt i hi k hk))
    · have hil := (List.getElem?_eq_some_iff.1 hx).1
      simp only [List.length_append, List.length_singleton] at hil
      obtain rfl : i = s.length := by omega
      obtain rfl : f = x := by simpa using hx
      rw [e1]
      exact own_move f2 (fun k hk => m3 k (fun e => by have := (vE k e.symm).2; have := (l2 k hk).1; omega) (l2 k hk).2)
  · rw [hlen] at hi
    rcases Nat.lt_or_ge i s.length with hi' | hi'
    · rw [e0 i hi'] at hk
      have := h.rowE i hi' k hk
      exact ⟨this.1, by omega⟩
    · obtain rfl : i = s.length := by omega
      rw [e1] at hk
      have := l2 k hk
      exact ⟨by omega, by omega⟩
  · rw [hlen] at hi hj
    rcases Nat.lt_or_ge i s.length with hi' | hi'
    · rw [e0 i hi'] at hik
      rcases Nat.lt_or_ge j s.length with hj' | hj'
      · rw [e0 j hj'] at hjk
        exact h.sep i j k hi' hj' hik hjk
      · obtain rfl : j = s.length := by omega
        rw [e1] at hjk
        have := (h.rowE i hi' k hik).2
        have := (l2 k hjk).1
        omega
    · obtain rfl : i = s.length := by omega
      rw [e1] at hik
      rcases Nat.lt_or_ge j s.length with hj' | hj'
      · rw [e0 j hj'] at hjk
        have := (h.rowE j hj' k hjk).2
        have := (l2 k hik).1
        omega
      · omega

section
variable (w : World) (ok : Nat → Prop)
set_option maxRecDepth 100000 in
set_option maxHeartbeats 800000 in
theorem copyStrikes_mx (s : List (List Fate)) (A : Option Addr) (n c : Nat) (hr : strikesK.rel ok w s [.slice A n c]) (hok : ∀ k, ok k → k < w.heap.size) (hf : strikesK.fits s) :
    Calls Try.prog 38 #[.slice A n c] w fun e w' => ∃ v rows, e = .returned v ∧ Mx w' (fun j => w.heap.size ≤ j ∧ j < w'.heap.size) v rows s ∧ Chg (fun _ => False) w w' := by
  have hl : s.length * 24 ≤ 140737488351232 := hf.1
  obtain ⟨A0, c0, e0, -⟩ := slice_form hr
  simp only [List.cons.injEq, Value.slice.injEq, and_true] at e0
  obtain ⟨rfl, rfl, rfl⟩ := e0
  have HR : Hid (∀ w', Chg (fun _ => False) w w' → strikesK.rel ok w' s [.slice A s.length c]) := fun w' hc => strikesK.move (fun k hk => hc.block k (hok k hk) (fun h => h)) hr
  have HF := Lib.hid hf
  clear hr hok hf
  go_enter Try.func38, Try.ntmps38
  go_wp2
  go_loopw [3, 4] (fun v i wr => CpM w s v i wr) (fun _ i _ => s.length - (intOf i).toNat)
  case atStart => exact ⟨0, fun _ => .slice none 0 0, Nat.zero_le _, rfl, ⟨World.ownsRow_nil _ _ _ _, (fun k hk => by cases hk), (fun i f hf => by simp at hf), (fun i hi => by simp at hi), (fun i j k hi => by simp at hi)⟩, Chg.refl _ _⟩
  case round =>
    obtain ⟨k, rows, hk, rfl, ho, hc⟩ := hrel
    have HO := Lib.hid ho
    obtain ⟨Av, cv, ev, -⟩ := Rd.of_own ho.own
    rw [take_len hk] at ev
    have hc0 := hc.size
    have HC := Lib.hid hc
    clear ho hc
    subst ev
    by_cases hlt : k < s.length
    · have hx : s[k]? = some s[k] := List.getElem?_eq_getElem hlt
      have HX := Lib.hid hx
      obtain ⟨g, off, cs, rfl, hg, hrel, hra⟩ := elem_of _ ok (HR.out _ HC.out) hx
      have HFx := Lib.hid (fits_at HF.out hx)
      generalize s[k] = f at *
      obtain ⟨Af, cf, rfl, -⟩ := slice_form hrel
      have q0 := range_one hra
      simp only [show (fatesK).sz = 1 from rfl, Nat.mul_one] at q0
      have HRl := Lib.hid hrel
      clear hra hx hg hrel
      have i1 : (k : Int) < (s.length : Int) := by omega
      have HL := Lib.hid (take_len hk)
      have HOW : Hid (wr.ownsRow w.heap.size TFs 1 (.slice Av k cv) k ((List.range k).map rows)) := Lib.hid (by have := own_base_le (base' := w.heap.size) HO.out.own (fun j hj => (HO.out.ownE j hj).1); rwa [HL.out] at this)
      go_wp2_with (first
        | (at_builtin; refine ap_all rfl (.const (.slice none 0 0)) (.tmp 15) 73 rfl fateK _ 76 24 (.agg #[.int .i64 0, .int .i64 0, .int .u8 0]) Try.underlying73 info_fate rfl (by decide) (by decide) (.slice none 0 0) [] rfl (OwnL.nil _ _ _ _) Af cf f 24 rfl HRl.out fates_ok ?aL (Nat.le_refl _) ?_; (case aL => have := HFx.out.1; simp only [List.length_nil]; omega); intro v2 w2 o2 g2; obtain ⟨A2, c2, e2⟩ := o2.form; subst e2; have h2 := g2.mono (T := fun _ => False) (fun k _ h => by cases h); have s2 := h2.size; have HOW2 : Hid (w2.ownsRow w.heap.size TFs 1 (.slice Av k cv) k ((List.range k).map rows)) := Lib.hid (own_move HOW.out (fun j hj => h2.block j (HOW.out.lt j hj).2 (fun h => h))); have H2 := Lib.hid h2; have O2 := Lib.hid o2; clear h2 g2 o2)
        | (at_builtin; refine ap_one rfl (.tmp 11) (.tmp 17) 35 rfl w.heap.size 73 1 24 (.slice none 0 0) Try.underlying35 info_fates rfl (by decide) (by decide) (.slice Av k cv) k ((List.range k).map rows) rfl HOW2.out #[_] rfl rfl (by simp [Value.oneCell']) ?bL ?bB ?_; (case bL => omega); (case bB => omega); intro v3 w3 o3 g3 r3; obtain ⟨A3, c3, e3, -⟩ := Rd.of_own o3; subst e3; have O3 := Lib.hid o3; have G3 := Lib.hid g3; have R3 := Lib.hid r3; clear o3 g3 r3))
      go_roundw
      case rel =>
        obtain ⟨rows', hm⟩ := Mx.push HO.out hc0 O2.out H2.out (by rw [HL.out]; exact O3.out) G3.out R3.out
        exact ⟨k + 1, rows', hlt, by go_num, by rw [take_snoc HX.out]; exact hm, (HC.out.trans H2.out (fun _ _ h => h)).of_grown G3.out (fun j hj => .inl (HOW.out.lt j hj).1)⟩
      case measure => simp [intOf]; omega
    · go_wp2
      go_ret
      have hkk : k = s.length := by omega
      have ho := HO.out
      rw [hkk, List.take_length] at ho
      exact ⟨_, rows, rfl, by rw [hkk]; exact ho, HC.out⟩
set_option maxRecDepth 100000 in
set_option maxHeartbeats 1600000 in
theorem copy_mx (x : Ev) (V S : Value) (hV : bytesK.rel ok w x.req.value [V]) (hS : strikesK.rel ok w x.strikes [S]) (hok : ∀ k, ok k → k < w.heap.size) (hf : evK.fits x) :
    Calls Try.prog 16 #[evV x V S] w fun e w' => ∃ V' S' rows, e = .returned (evV x V' S') ∧ OwnL u8K 5 w.heap.size w' V' x.req.value ∧ Mx w' (fun j => w.heap.size ≤ j ∧ j < w'.heap.size) S' rows x.strikes ∧ Chg (fun _ => False) w w' := by
  obtain ⟨AV, cV, eV, -⟩ := slice_form hV
  obtain ⟨AS, cS, eS, -⟩ := slice_form hS
  simp only [List.cons.injEq, and_true] at eV eS
  subst eV eS
  have HV : Hid (∀ w', Chg (fun _ => False) w w' → Calls Try.prog 37 #[.slice AV x.req.value.length cV] w' fun e w1 => ∃ v, e = .returned v ∧ OwnL u8K 5 w'.heap.size w1 v x.req.value ∧ Chg (fun _ => False) w' w1) :=
    fun w' hc => own_any w' ok x.req.value AV _ cV (bytesK.move (fun k hk => hc.block k (hok k hk) (fun h => h)) hV) hf.1.2.2
  have HS : Hid (∀ w', Chg (fun _ => False) w w' → Calls Try.prog 38 #[.slice AS x.strikes.length cS] w' fun e w1 => ∃ v rows, e = .returned v ∧ Mx w1 (fun j => w'.heap.size ≤ j ∧ j < w1.heap.size) v rows x.strikes ∧ Chg (fun _ => False) w' w1) :=
    fun w' hc => copyStrikes_mx w' ok x.strikes AS _ cS (strikesK.move (fun k hk => hc.block k (hok k hk) (fun h => h)) hS) (fun k hk => Nat.lt_of_lt_of_le (hok k hk) hc.size) hf.2
  clear hV hS hok hf
  unfold evV evCs
  go_enter Try.func16, Try.ntmps16
  go_wp2_with fail
  refine (HV.out _ (((Chg.refl _ w).alloc _).alloc _)).mono ?_
  rintro e w1 ⟨v1, rfl, o1, c1⟩
  obtain ⟨A1, k1, e1⟩ := o1.form
  subst e1
  have HC1 := Lib.hid ((((Chg.refl _ w).alloc _).alloc _).trans c1 (fun _ _ h => h))
  have b1 := c1.at_ (k := w.heap.size) (heap_old _ (heap_new _ _)) (fun h => h)
  have b2 := c1.at_ (k := w.heap.size + 1) (heap_new' _ _ (World.size_alloc ..).symm) (fun h => h)
  obtain ⟨p0, p1, p2, p3, p4, p5, p6, p7, p8, p9, p10, p11⟩ := cells12 b1
  have f1 := free_at b1 8
  have z1 := lt_of _ b1
  have z2 := lt_of _ b2
  have HB1 := Lib.hid b1
  have HB2 := Lib.hid b2
  have HO1 := Lib.hid o1
  clear c1 b1 b2 o1
  go_wp2_with fail
  refine (HS.out _ (HC1.out.set (.inl (Nat.le_refl _)))).mono ?_
  rintro e w2 ⟨v2, rows, rfl, o2, c2⟩
  obtain ⟨A2, k2, e2, -⟩ := Rd.of_own o2.own
  subst e2
  have HC2 := Lib.hid c2
  have b1 := c2.at_ (heap_set HB1.out 8 _) (fun h => h)
  have b2 := c2.at_ (k := w.heap.size + 1) ((heap_set_ne _ _ (by omega)).trans HB2.out) (fun h => h)
  clear p0 p1 p2 p3 p4 p5 p6 p7 p8 p9 p10 p11 f1
  simp only [List.setIfInBounds_toArray, List.set_cons_succ, List.set_cons_zero] at b1
  obtain ⟨p0, p1, p2, p3, p4, p5, p6, p7, p8, p9, p10, p11⟩ := cells12 b1
  obtain ⟨r0, r1, r2, r3, r4, r5, r6, r7, r8, r9, r10, r11⟩ := cells12 b2
  have f1 := free_at b1 11
  have f2 := free_at b2
  have z3 := lt_of _ b1
  have z4 := lt_of _ b2
  have HO2 := Lib.hid o2
  clear c2 b1 b2 o2
  go_wp2
  refine bodyPost_ret (v := .agg #[.int .i64 x.kind, .int .i64 x.session, .int .i64 x.req.kind, .int .i64 x.req.life, .int .i64 x.req.number, .int .i64 x.req.place, .string x.req.key, .string x.req.to, .slice A1 x.req.value.length k1, .int .i64 x.req.limit, .int .i64 x.place, .slice A2 x.strikes.length k2]) (by simp [results, Try.results16, go_sem, p0, p1, p2, p3, p4, p5, p6, p7, p8, p9, p10, p11, r0, r1, r2, r3, r4, r5, r6, r7, r8, r9, r10, r11, f2]) rfl ?_
  have key : ∀ wf, Chg (fun k => w.heap.size ≤ k ∧ k < w.heap.size + 2) w2 wf → OwnL u8K 5 w.heap.size wf (.slice A1 x.req.value.length k1) x.req.value ∧ Mx wf (fun j => w.heap.size ≤ j ∧ j < wf.heap.size) (.slice A2 x.strikes.length k2) rows x.strikes ∧ Chg (fun _ => False) w wf := by
    intro wf hc
    have hb := HO1.out
    simp only [World.size_alloc] at hb
    have q1 : Chg (fun k => w.heap.size ≤ k ∧ k < w.heap.size + 2) w1 wf := (((Chg.refl (fun k => w.heap.size ≤ k ∧ k < w.heap.size + 2) w1).set (.inr (by omega))).trans (HC2.out.mono (T := fun k => w.heap.size ≤ k ∧ k < w.heap.size + 2) (fun _ _ h => h.elim)) (fun _ _ h => h)).trans hc (fun _ _ h => h)
    have q2 := (HC1.out.set (.inl (Nat.le_refl _))).trans HC2.out (fun _ _ h => h)
    refine ⟨(hb.chg q1 (fun k h1 _ h2 => by omega)).base_le (by omega), ?_, q2.trans hc (fun k hk h => by omega)⟩
    have h1 := HC1.out.size
    have h3 := hc.size
    have hm := HO2.out.move (w1 := wf) (fun k hk => hc.block k hk.2 (fun h => by have := hk.1; simp only [World.size_setCell, World.size_alloc] at this h1; omega))
    exact ⟨hm.own, fun k hk => by have := hm.ownE k hk; simp only [World.size_setCell, World.size_alloc] at this h1; omega, hm.row, fun i hi k hk => by have := hm.rowE i hi k hk; simp only [World.size_setCell, World.size_alloc] at this h1; omega, hm.sep⟩
  refine ⟨_, _, rows, rfl, key _ ?_⟩
  repeat (refine Chg.set ?_ (.inr (by omega)))
  exact Chg.refl _ _
end
end Go.Proofs.Ytchlolgfahgdeaa.Emx
