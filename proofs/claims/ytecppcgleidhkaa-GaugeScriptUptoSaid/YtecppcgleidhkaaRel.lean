/- What a value's cells say as data, kind by kind; out of the form's own reading of an argument. Conditions: none. -/
import Derived.Test.YtecppcgleidhkaaLib
import Derived.ProofKit
import Derived.SizedLaws
set_option linter.unusedVariables false
namespace Go.Proofs.Ytecppcgleidhkaa.Rel
open Go.RowKit Go.Proofs.Ytecppcgleidhkaa.Lib1

/-- How data of α lie in sz cells (rel; the blocks they lead to are among ok's), and what the reach says of them (fits). -/
structure Kd (α : Type) where
  sz : Nat
  rel : (Nat → Prop) → World → α → List Value → Prop
  fits : α → Prop
  len : ∀ {ok w x cs}, rel ok w x cs → cs.length = sz
  one : ∀ {ok w x cs}, rel ok w x cs → ∀ u ∈ cs, u.oneCell' = true
  move : ∀ {ok : Nat → Prop} {w w1 : World} {x cs}, (∀ k, ok k → w1.heap[k]? = w.heap[k]?) → rel ok w x cs → rel ok w1 x cs
  mono : ∀ {ok ok' : Nat → Prop} {w x cs}, (∀ k, ok k → ok' k) → rel ok w x cs → rel ok' w x cs

namespace Kd
def int (k : IntKind) : Kd Int where
  sz := 1
  rel := fun _ _ x cs => cs = [.int k x]
  fits := fun x => (Lit.int k x).wf = true
  len := by rintro _ _ _ _ rfl; rfl
  one := by rintro _ _ _ _ rfl u hu; simp at hu; subst hu; rfl
  move := fun _ h => h
  mono := fun _ h => h
def bool : Kd Bool where
  sz := 1
  rel := fun _ _ x cs => cs = [.bool x]
  fits := fun _ => True
  len := by rintro _ _ _ _ rfl; rfl
  one := by rintro _ _ _ _ rfl u hu; simp at hu; subst hu; rfl
  move := fun _ h => h
  mono := fun _ h => h
def str : Kd ByteArray where
  sz := 1
  rel := fun _ _ x cs => cs = [.string x]
  fits := fun x => x.size ≤ 140737488351232
  len := by rintro _ _ _ _ rfl; rfl
  one := by rintro _ _ _ _ rfl u hu; simp at hu; subst hu; rfl
  move := fun _ h => h
  mono := fun _ h => h
/-- A slice, of elements of so many bytes. -/
def slice {α : Type} (bytes : Nat) (d : Kd α) : Kd (List α) where
  sz := 1
  rel := fun ok w xs cs => ∃ A c cells, cs = [.slice A xs.length c] ∧ Rd ok w A xs.length c d.sz cells ∧ ∀ i x, xs[i]? = some x → d.rel ok w x ((cells.drop (i * d.sz)).take d.sz)
  fits := fun xs => xs.length * bytes ≤ 140737488351232 ∧ ∀ x ∈ xs, d.fits x
  len := by rintro _ _ _ _ ⟨A, c, cells, rfl, _⟩; rfl
  one := by rintro _ _ _ _ ⟨A, c, cells, rfl, _⟩ u hu; simp at hu; subst hu; rfl
  move := by
    rintro ok w w1 xs cs hm ⟨A, c, cells, rfl, hr, he⟩
    exact ⟨A, c, cells, rfl, hr.move hm, fun i x hx => d.move hm (he i x hx)⟩
  mono := by
    rintro ok ok' w xs cs ho ⟨A, c, cells, rfl, hr, he⟩
    exact ⟨A, c, cells, rfl, hr.mono ho, fun i x hx => d.mono ho (he i x hx)⟩
def unit : Kd Unit where
  sz := 0
  rel := fun _ _ _ cs => cs = []
  fits := fun _ => True
  len := by rintro _ _ _ _ rfl; rfl
  one := by rintro _ _ _ _ rfl u hu; cases hu
  move := fun _ h => h
  mono := fun _ h => h
def pair {α β : Type} (a : Kd α) (b : Kd β) : Kd (α × β) where
  sz := a.sz + b.sz
  rel := fun ok w x cs => ∃ c1 c2, cs = c1 ++ c2 ∧ a.rel ok w x.1 c1 ∧ b.rel ok w x.2 c2
  fits := fun x => a.fits x.1 ∧ b.fits x.2
  len := by rintro _ _ _ _ ⟨c1, c2, rfl, h1, h2⟩; rw [List.length_append, a.len h1, b.len h2]
  one := by
    rintro _ _ _ _ ⟨c1, c2, rfl, h1, h2⟩ u hu
    rcases List.mem_append.1 hu with hu | hu
    · exact a.one h1 u hu
    · exact b.one h2 u hu
  move := by rintro ok w w1 x cs hm ⟨c1, c2, rfl, h1, h2⟩; exact ⟨c1, c2, rfl, a.move hm h1, b.move hm h2⟩
  mono := by rintro ok ok' w x cs ho ⟨c1, c2, rfl, h1, h2⟩; exact ⟨c1, c2, rfl, a.mono ho h1, b.mono ho h2⟩
/-- The same under another type. -/
def iso {α β : Type} (d : Kd α) (f : β → α) : Kd β where
  sz := d.sz
  rel := fun ok w x cs => d.rel ok w (f x) cs
  fits := fun x => d.fits (f x)
  len := fun h => d.len h
  one := fun h => d.one h
  move := fun hm h => d.move hm h
  mono := fun ho h => d.mono ho h
end Kd

/-- What the form reads at type t is data of this kind. -/
def Opens {α : Type} (P : Program) (t : TypeId) (d : Kd α) : Prop :=
  ∀ {H : Type} (enc : TypeId × Value → H) (W : World) (fuel : Nat) (cs : List Value) (x : DataW H × List MemPlace), DataW.trod enc P W 0 (fun _ => true) true fuel t cs = some x → (∀ n ∈ x.1.weights P t, n ≤ reachBytes) →
    ∃ y, d.rel (fun k => k < W.heap.size) W y cs ∧ d.fits y

theorem opens_int {P : Program} {t : TypeId} {k : IntKind} (ht : P.underlying t = some (.int k)) : Opens P t (Kd.int k) := by
  intro H enc W fuel cs x h _
  obtain ⟨n, rfl, rfl, hw⟩ := DataW.trod_int ht h
  exact ⟨n, rfl, hw⟩
theorem opens_bool {P : Program} {t : TypeId} (ht : P.underlying t = some .bool) : Opens P t Kd.bool := by
  intro H enc W fuel cs x h _
  obtain ⟨n, rfl, rfl⟩ := DataW.trod_bool ht h
  exact ⟨n, rfl, trivial⟩
theorem opens_str {P : Program} {t : TypeId} (ht : P.underlying t = some .string) : Opens P t Kd.str := by
  intro H enc W fuel cs x h hs
  obtain ⟨s, rfl, rfl, _⟩ := DataW.trod_string ht h
  refine ⟨s, rfl, ?_⟩
  have := hs s.data.toList.length (by simp [DataW.weights])
  rw [Array.length_toList] at this
  exact this

theorem weights_all {H : Type} {P : Program} {e : TypeId} : ∀ {ds : List (DataW H)} {d : DataW H}, d ∈ ds → ∀ n ∈ d.weights P e, n ∈ DataW.weightsAll P e ds
  | _ :: _, _, .head _, n, hn => by simp only [DataW.weightsAll, List.mem_append]; exact .inl hn
  | _ :: _, _, .tail _ h, n, hn => by simp only [DataW.weightsAll, List.mem_append]; exact .inr (weights_all h n hn)

theorem choose_list {β : Type} {p : Nat → β → Prop} : ∀ (n : Nat), (∀ i, i < n → ∃ y, p i y) → ∃ ys : List β, ys.length = n ∧ ∀ i y, ys[i]? = some y → p i y
  | 0, _ => ⟨[], rfl, fun i y h => by simp at h⟩
  | n + 1, h => by
    obtain ⟨ys, hl, hp⟩ := choose_list n (fun i hi => h i (by omega))
    obtain ⟨y, hy⟩ := h n (by omega)
    refine ⟨ys ++ [y], by simp [hl], fun i z hz => ?_⟩
    rcases Nat.lt_or_ge i ys.length with hi | hi
    · rw [List.getElem?_append_left hi] at hz
      exact hp i z hz
    · rw [List.getElem?_append_right hi] at hz
      have : i - ys.length = 0 := by
        have := (List.getElem?_eq_some_iff.1 hz).1
        simp at this; omega
      rw [this] at hz
      simp at hz
      subst hz
      have : i = n := by omega
      subst this
      exact hy

theorem chunk {α : Type} {sz : Nat} : ∀ (L : List (List α)), (∀ c ∈ L, c.length = sz) → ∀ (i : Nat) (c : List α), L[i]? = some c → (L.flatten.drop (i * sz)).take sz = c
  | [], _, i, c, h => by simp at h
  | c0 :: L, hL, 0, c, h => by
    simp at h
    subst h
    have := hL c0 (.head _)
    simp [← this]
  | c0 :: L, hL, i + 1, c, h => by
    have h0 := hL c0 (.head _)
    rw [List.flatten_cons, Nat.succ_mul, Nat.add_comm, ← List.drop_drop, show List.drop sz (c0 ++ L.flatten) = L.flatten by rw [← h0]; simp]
    exact chunk L (fun c hc => hL c (.tail _ hc)) i c (by simpa using h)

theorem flatten_len {α : Type} {sz : Nat} : ∀ (L : List (List α)), (∀ c ∈ L, c.length = sz) → L.flatten.length = L.length * sz
  | [], _ => by simp
  | c0 :: L, hL => by
    rw [List.flatten_cons, List.length_append, hL c0 (.head _), flatten_len L (fun c hc => hL c (.tail _ hc)), List.length_cons, Nat.succ_mul, Nat.add_comm]

theorem opens_slice {α : Type} {P : Program} {t e : TypeId} {d : Kd α} {bytes : Nat} (ht : P.underlying t = some (.slice e)) (hc : P.cellsOf e = d.sz) (h0 : 0 < d.sz) (hb : P.bytesOf e = bytes) (he : Opens P e d) : Opens P t (Kd.slice bytes d) := by
  intro H enc W fuel cs x h hs
  rcases DataW.trod_slice ht h with ⟨rfl, rfl⟩ | ⟨a, len, cap, elems, rest, n, rfl, rfl, rfl, _, hle, _, hlen, hel, _, _⟩
  · exact ⟨[], ⟨none, 0, [], rfl, ⟨by simp, Nat.le_refl _, fun _ => rfl, fun h => absurd h (Nat.lt_irrefl _)⟩, fun i x h => by simp at h⟩, by simp, fun x h => by cases h⟩
  · have key : ∀ i, i < len → ∃ p : α × List Value, W.cells? 0 (a.add (i * d.sz)) d.sz = some p.2 ∧ d.rel (fun k => k < W.heap.size) W p.1 p.2 ∧ d.fits p.1 := by
      intro i hi
      have h1 := hel i hi
      rw [hc, List.getElem?_eq_getElem (by omega)] at h1
      obtain ⟨cs', h2, h3⟩ := Option.bind_eq_some_iff.1 h1
      obtain ⟨y, hy1, hy2⟩ := he enc W n cs' _ h3 (fun m hm => hs m (by
        simp only [DataW.weights, ht, List.mem_cons, List.mem_append]
        exact .inr (.inl (weights_all (List.mem_map.2 ⟨_, List.getElem_mem (by omega), rfl⟩) m hm))))
      exact ⟨(y, cs'), h2, hy1, hy2⟩
    obtain ⟨ps, hpl, hp⟩ := choose_list len key
    have hL : ∀ c ∈ ps.map (·.2), c.length = d.sz := by
      intro c hcm
      obtain ⟨p, hpm, rfl⟩ := List.mem_map.1 hcm
      obtain ⟨i, hi⟩ := List.mem_iff_getElem?.1 hpm
      exact (World.cells?_some (hp i p hi).1).2.1
    have hsz : len * bytes ≤ 140737488351232 := by
      have := hs ((elems.map (·.1)).length * bytes + (rest.map (·.1)).length * bytes) (by simp [DataW.weights, ht, hb, Nat.add_mul])
      simp only [List.length_map, hlen] at this
      exact Nat.le_trans (Nat.le_add_right _ _) this
    refine ⟨ps.map (·.1), ⟨some a, cap, (ps.map (·.2)).flatten, by simp [hpl], ⟨by rw [flatten_len _ hL]; simp, by simp [hpl, hle], (fun h => by cases h), fun hn => ?_⟩, fun i x hx => ?_⟩, by simpa [hpl] using hsz, fun x hx => ?_⟩
    · have hl0 : 0 < len := by simpa [hpl] using hn
      obtain ⟨p0, hp0⟩ : ∃ p, ps[0]? = some p := ⟨ps[0]'(by omega), List.getElem?_eq_getElem (by omega)⟩
      have hcell0 := (World.cells?_some (hp 0 p0 hp0).1).2.2 0 h0
      have hs0 : a.spot = none := by
        cases hsp : a.spot with
        | none => rfl
        | some q =>
          have hl := (World.cells?_some (hp 0 p0 hp0).1).2.1
          rw [List.getElem?_eq_getElem (by omega)] at hcell0
          have : (a.add (0 * d.sz)).add 0 = a := by simp [Addr.add]
          rw [this] at hcell0
          unfold World.cell? at hcell0
          split at hcell0
          · simp [hsp] at hcell0
          · cases hcell0
      obtain ⟨ab, ao, asp⟩ := a
      simp only at hs0
      subst hs0
      have hall : ∀ j u, (ps.map (·.2)).flatten[j]? = some u → W.cell? ⟨ab, ao + j, none⟩ = some u := by
        intro j u hu
        have hjl := (List.getElem?_eq_some_iff.1 hu).1
        rw [flatten_len _ hL, List.length_map, hpl] at hjl
        have hq : j / d.sz < len := (Nat.div_lt_iff_lt_mul h0).2 hjl
        obtain ⟨p, hpi⟩ : ∃ p, ps[j / d.sz]? = some p := ⟨ps[j / d.sz]'(by omega), List.getElem?_eq_getElem (by omega)⟩
        have hch := chunk (ps.map (·.2)) hL (j / d.sz) p.2 (by simp [hpi])
        have hcl := World.cells?_some (hp _ p hpi).1
        have h5 := hcl.2.2 (j % d.sz) (Nat.mod_lt _ h0)
        rw [add_off, add_off] at h5
        rw [show ao + j = ao + j / d.sz * d.sz + j % d.sz by have := Nat.div_add_mod j d.sz; rw [Nat.mul_comm] at this; omega, h5, ← hch, List.getElem?_take, if_pos (Nat.mod_lt _ h0), List.getElem?_drop]
        rw [show j / d.sz * d.sz + j % d.sz = j by rw [Nat.mul_comm]; exact Nat.div_add_mod j d.sz]
        exact hu
      refine ⟨ab, ao, rfl, ?_, hall⟩
      have hpos : 0 < ((ps.map (·.2)).flatten).length := by
        rw [flatten_len _ hL, List.length_map, hpl]; exact Nat.mul_pos hl0 h0
      exact World.block_lt_of_cell? W _ (hall 0 _ (List.getElem?_eq_getElem hpos))
    · rw [List.getElem?_map] at hx
      obtain ⟨p, hpi, rfl⟩ := Option.map_eq_some_iff.1 hx
      rw [chunk (ps.map (·.2)) hL i p.2 (by simp [hpi])]
      exact (hp i p hpi).2.1
    · obtain ⟨p, hpm, rfl⟩ := List.mem_map.1 hx
      obtain ⟨i, hi⟩ := List.mem_iff_getElem?.1 hpm
      exact (hp i p hi).2.2
/-- A struct's fields from a place on are data of this kind. -/
def OpensF {α : Type} (P : Program) (fs : List Field) (off : Nat) (d : Kd α) : Prop :=
  ∀ {H : Type} (enc : TypeId × Value → H) (W : World) (n : Nat) (cs : List Value) (xs : List (DataW H × List MemPlace)), cs.length = off + d.sz → xs.length = fs.length →
    (∀ (i : Nat) (f : Field), fs[i]? = some f → DataW.trod enc P W 0 (fun _ => true) true n f.type ((cs.drop f.offset).take (P.cellsOf f.type)) = xs[i]?) →
    (∀ m ∈ DataW.weightsEach P (fs.map (fun f : Field => f.type)) (xs.map (·.1)), m ≤ reachBytes) → ∃ y, d.rel (fun k => k < W.heap.size) W y (cs.drop off) ∧ d.fits y

theorem opensF_nil {P : Program} (off : Nat) : OpensF P [] off Kd.unit := by
  intro H enc W n cs xs hl _ _ _
  exact ⟨(), List.drop_of_length_le (by rw [hl]; exact Nat.le_refl _), trivial⟩
theorem opensF_cons {α β : Type} {P : Program} {f : Field} {fs : List Field} {off : Nat} {a : Kd α} {b : Kd β} (hoff : f.offset = off) (hsz : P.cellsOf f.type = a.sz) (ha : Opens P f.type a) (hb : OpensF P fs (off + a.sz) b) : OpensF P (f :: fs) off (Kd.pair a b) := by
  intro H enc W n cs xs hl hxl hx hw
  match xs, hxl with
  | x :: xs, hxl =>
    have h0 := hx 0 f rfl
    rw [hoff, hsz] at h0
    simp only [List.getElem?_cons_zero] at h0
    obtain ⟨y, hy1, hy2⟩ := ha enc W n _ x h0 (fun m hm => hw m (by simp only [List.map_cons, DataW.weightsEach, List.mem_append]; exact .inl hm))
    obtain ⟨z, hz1, hz2⟩ := hb enc W n cs xs (by rw [hl]; simp only [Kd.pair]; omega) (by simpa using hxl) (fun i g hg => by have := hx (i + 1) g (by simpa using hg); simpa using this)
      (fun m hm => hw m (by simp only [List.map_cons, DataW.weightsEach, List.mem_append]; exact .inr hm))
    refine ⟨(y, z), ⟨(cs.drop off).take a.sz, cs.drop (off + a.sz), ?_, hy1, hz1⟩, hy2, hz2⟩
    rw [← List.drop_drop, List.take_append_drop]
theorem opens_struct {α : Type} {P : Program} {t : TypeId} {fs : Array Field} {d : Kd α} (ht : P.underlying t = some (.struct fs)) (hc : P.cellsOf t = d.sz) (h : OpensF P fs.toList 0 d) : Opens P t d := by
  intro H enc W fuel cs x hx hs
  obtain ⟨xs, n, rfl, rfl, hl, hxl, hf⟩ := DataW.trod_struct ht hx
  obtain ⟨y, hy1, hy2⟩ := h enc W n cs xs (by rw [hl, hc]; omega) (by simpa using hxl) (fun i f hi => hf i f (by simpa using hi)) (fun m hm => hs m (by simpa [DataW.weights, ht] using hm))
  exact ⟨y, by simpa using hy1, hy2⟩
theorem opens_iso {α β : Type} {P : Program} {t : TypeId} {d : Kd α} (f : β → α) (g : α → β) (hfg : ∀ x, f (g x) = x) (h : Opens P t d) : Opens P t (Kd.iso d f) := by
  intro H enc W fuel cs x hx hs
  obtain ⟨y, h1, h2⟩ := h enc W fuel cs x hx hs
  exact ⟨g y, by simpa [Kd.iso, hfg] using h1, by simpa [Kd.iso, hfg] using h2⟩

/-- An argument of a row. -/
theorem open_arg {α : Type} {H : Type} {enc : TypeId × Value → H} {P : Program} {W : World} {t : TypeId} {v : Value} {dd : DataW H} {ps : List MemPlace} {d : Kd α} (ho : Opens P t d) {ts : List TypeId} {ds : List (DataW H)} (hsz : (DataW.weightsEach P ts ds).all (· ≤ reachBytes) = true)
    (j : Nat) (ht : ts[j]? = some t) (hd : ds[j]? = some dd) (h : DataW.Trod enc P W 0 (fun _ => true) true t v dd ps) : ∃ y, d.rel (fun k => k < W.heap.size) W y v.cells.toList ∧ d.fits y := by
  obtain ⟨fuel, hf⟩ := h
  exact ho enc W fuel _ _ hf (fun n hn => by
    have := List.all_eq_true.1 hsz n (DataW.weights_mem_each ht hd n hn)
    simpa using this)
end Go.Proofs.Ytecppcgleidhkaa.Rel
