/- Measure of a list; what a gauge has heard of it. Conditions: the list reads so. -/
import Derived.Test.YtecppcgleidhkaaGm
set_option linter.unusedVariables false
set_option linter.unusedSimpArgs false
set_option exponentiation.threshold 3000
namespace Go.Proofs.Ytecppcgleidhkaa.Gm
open Go.RowKit Go.Proofs.Ytecppcgleidhkaa.Lib1 Go.Proofs.Ytecppcgleidhkaa.Rel Go.Proofs.Ytecppcgleidhkaa.Own Go.Proofs.Ytecppcgleidhkaa.Fl Go.Proofs.Ytecppcgleidhkaa.Gp Go.Proofs.Ytecppcgleidhkaa.Gw

def hear1 (g : G) (h : Int × Int) : Option G := if takes g h.1 = true then some (g.hear h.1.toNat h.2) else none
def hears (g : G) (l : List (Int × Int)) : Option G := l.foldl (fun o h => o.bind (hear1 · h)) (some g)
theorem hears_snoc (g : G) (l : List (Int × Int)) (h : Int × Int) : hears g (l ++ [h]) = (hears g l).bind (hear1 · h) := by simp [hears]
theorem fold_none (l : List (Int × Int)) : l.foldl (fun o h => Option.bind o (hear1 · h)) none = none := by
  induction l with
  | nil => rfl
  | cons x l ih => simpa using ih
theorem hears_append (g : G) (l m : List (Int × Int)) : hears g (l ++ m) = (hears g l).bind (hears · m) := by
  unfold hears
  rw [List.foldl_append]
  cases h : l.foldl (fun o h => Option.bind o (hear1 · h)) (some g) with
  | none => rw [fold_none]; rfl
  | some g' => rfl
theorem hears_take {g : G} {l : List (Int × Int)} {k : Nat} (h : hears g (l.take k) = none) : hears g l = none := by
  have := hears_append g (l.take k) (l.drop k)
  rw [List.take_append_drop, h] at this
  exact this
def g0 (keep : Nat) : G := ⟨keep, [], []⟩
theorem good0 {keep : Nat} (h : keep < ONE) : (g0 keep).Good := ⟨h, (fun x hx => by cases hx), rfl, (by decide : 0 < 2 ^ 50)⟩
theorem takes_spec {g : G} {s : Int} (h : takes g s = true) : 0 ≤ s ∧ s ≤ 4611686018427387904 ∧ (g.last : Int) ≤ s := by
  unfold takes at h
  simp only [Bool.and_eq_true, decide_eq_true_eq] at h
  exact ⟨h.1.1, h.1.2, h.2⟩
/-- What it has heard. -/
structure Heard (g : G) (keep : Nat) (l : List (Int × Int)) : Prop where
  keep : g.keep = keep
  slots : g.slots = l.map (fun h => h.1.toNat)
  codes : g.codes = l.map (·.2)
  rise : ∀ i, i + 1 < l.length → (l.getD i (0, 0)).1 ≤ (l.getD (i + 1) (0, 0)).1
  ok : ∀ h ∈ l, 0 ≤ h.1 ∧ h.1 ≤ 4611686018427387904
theorem heard_any {keep : Nat} : ∀ {l : List (Int × Int)} {g : G}, hears (g0 keep) l = some g → Heard g keep l := by
  have key : ∀ n, ∀ (l : List (Int × Int)) (g : G), l.length = n → hears (g0 keep) l = some g → Heard g keep l := by
    intro n
    induction n with
    | zero =>
      intro l g hl h
      rw [List.eq_nil_of_length_eq_zero hl] at h ⊢
      cases h
      exact ⟨rfl, rfl, rfl, fun i hi => by simp at hi, fun h hh => by cases hh⟩
    | succ n ih =>
      intro l g hl h
      have hne : l ≠ [] := by intro e; subst e; simp at hl
      obtain ⟨m, x, rfl⟩ : ∃ m x, l = m ++ [x] := ⟨l.dropLast, l.getLast hne, (List.dropLast_concat_getLast hne).symm⟩
      have hm : m.length = n := by simpa using hl
      rw [hears_snoc] at h
      obtain ⟨g1, e1, e2⟩ := Option.bind_eq_some_iff.1 h
      have i1 := ih m g1 hm e1
      unfold hear1 at e2
      split at e2
      · rename_i ht
        cases e2
        obtain ⟨t1, t2, t3⟩ := takes_spec ht
        refine ⟨i1.keep, by simp [G.hear, i1.slots], by simp [G.hear, i1.codes], fun i hi => ?_, fun h hh => ?_⟩
        · simp only [List.length_append, List.length_cons, List.length_nil] at hi
          rcases Nat.lt_or_ge (i + 1) m.length with c | c
          · have := i1.rise i c
            simpa [List.getD_eq_getElem?_getD, List.getElem?_append, c, Nat.lt_of_succ_lt c] using this
          · have hil : i + 1 = m.length := by omega
            have hmne : m ≠ [] := by intro e; subst e; simp at hil
            have hlast : (g1.last : Int) = (m.getD i (0, 0)).1 := by
              have hii : i < m.length := by omega
              have he : g1.slots.getLast? = some ((m.getD i (0, 0)).1.toNat) := by
                rw [i1.slots, List.getLast?_map, List.getLast?_eq_getElem?]
                rw [show m.length - 1 = i by omega, List.getElem?_eq_getElem hii]
                simp [List.getD_eq_getElem?_getD, hii]
              unfold G.last
              rw [he]
              have := (i1.ok _ (show m.getD i (0, 0) ∈ m by rw [List.getD_eq_getElem?_getD, List.getElem?_eq_getElem hii]; exact List.getElem_mem hii)).1
              rw [Option.getD_some]; omega
            rw [hlast] at t3
            have e1 : (m ++ [x]).getD i (0, 0) = m.getD i (0, 0) := by
              simp [List.getD_eq_getElem?_getD, List.getElem?_append, show i < m.length by omega]
            have e2 : (m ++ [x]).getD (i + 1) (0, 0) = x := by
              rw [List.getD_eq_getElem?_getD, List.getElem?_append_right c, show i + 1 - m.length = 0 by omega]; rfl
            rw [e1, e2]; exact t3
        · rcases List.mem_append.1 hh with hh | hh
          · exact i1.ok h hh
          · obtain rfl : h = x := by simpa using hh
            exact ⟨t1, t2⟩
      · cases e2
  exact fun {l g} h => key l.length l g rfl h
theorem good_any {keep : Nat} (hk : keep < ONE) {l : List (Int × Int)} {g : G} (h : hears (g0 keep) l = some g) (hn : l.length < 2 ^ 50) : g.Good := by
  have hh := heard_any h
  refine ⟨by rw [hh.keep]; exact hk, fun x hx => ?_, by rw [hh.codes, hh.slots]; simp, by rw [hh.slots]; simpa using hn⟩
  rw [hh.slots] at hx
  obtain ⟨y, hy, rfl⟩ := List.mem_map.1 hx
  have := hh.ok y hy
  omega
/-- What New takes is between 0 and 1. -/
theorem keeps_lt {x : Nat} (hx : x < 2 ^ 64) (h : keeps x = true) : x < ONE := by
  unfold keeps at h
  simp only [Bool.and_eq_true] at h
  have ho := one_val.2
  have hr : rg x < INF := order_fin_of (by decide : 0 < INF) ho (by unfold ge; rw [h.1]; rfl) (by unfold le; rw [show Ieee.double.order x ONE == some .lt from h.2]; rfl)
  have o3 := Nat.lt_trans ho INF_lt
  have h1 := h.1
  have h2 : (Ieee.double.order x ONE == some .lt) = true := h.2
  rw [order_fin hr (by decide : rg 0 < INF), show sv 0 = 0 by decide] at h1
  rw [order_fin hr (by rw [rg_pos o3]; exact ho), sv_pos o3] at h2
  have p1 : 0 < sv x := by
    rcases Int.lt_trichotomy (sv x) 0 with c | c | c
    · rw [Int.compare_eq_lt.2 c] at h1; cases h1
    · rw [Int.compare_eq_eq.2 c] at h1; cases h1
    · exact c
  have p2 : sv x < (V ONE : Int) := by
    rcases Int.lt_trichotomy (sv x) (V ONE) with c | c | c
    · exact c
    · rw [Int.compare_eq_eq.2 c] at h2; cases h2
    · rw [Int.compare_eq_gt.2 c] at h2; cases h2
  have hs : sg x = false := by
    cases hh : sg x
    · rfl
    · unfold sv at p1; rw [hh] at p1; simp at p1; omega
  have hx3 := pos_of hx hs
  rw [sv_pos hx3] at p2
  exact V_lt (Int.ofNat_lt.1 p2)
/-- What Measure gives. -/
def measure (keep : Nat) (l : List (Int × Int)) : Option G := if keeps keep = true then hears (g0 keep) l else none
/-- How it answers. -/
def MRes (w : World) : Option G → Ending → World → Prop
  | some g, e, w' => ∃ b, e = .returned (.tuple #[.pointer (some ⟨b, 0, none⟩), .int .i64 0]) ∧ GV (fun k => w.heap.size ≤ k ∧ k < w'.heap.size) w' b g ∧ Chg (fun _ => False) w w'
  | none, e, w' => e = .returned (.tuple #[.pointer none, .int .i64 2]) ∧ Chg (fun _ => False) w w'
set_option maxRecDepth 100000 in
set_option maxHeartbeats 2000000 in
theorem measure_walk (keep : Nat) (hk64 : keep < 2 ^ 64) (hs : List (Int × Int)) (A : Option Addr) (n c : Nat) (w : World) (h : (Kd.slice 112 respK).rel (fun k => k < w.heap.size) w hs [.slice A n c]) (hn : n ≤ 1073741824) (hfit : ∀ x ∈ hs, (Lit.int .i64 x.1).wf = true ∧ (Lit.int .i64 x.2).wf = true) :
    Calls Try.prog 11 #[.float .f64 keep, .slice A n c] w fun e w' => MRes w (measure keep hs) e w' := by
  have HL : Hid (hs.length = n) := by
    obtain ⟨A', c', cells, he, -⟩ := h
    simp only [List.cons.injEq, Value.slice.injEq, and_true] at he
    exact he.2.1.symm
  have HH := Lib.hid h
  have HF := Lib.hid hfit
  have HN := new_walk keep w
  clear h hfit
  unfold measure
  by_cases hk : keeps keep = true
  · simp only [hk, if_true] at HN ⊢
    have HK := Lib.hid (keeps_lt hk64 hk)
    have HNN := Lib.hid HN
    clear HN hk
    go_enter Try.func11, Try.ntmps11
    go_wp2_with (go_at_call 17; refine HNN.out.mono ?_; rintro e w1 ⟨b, rfl, hg, hc⟩; have HG1 := Lib.hid hg; have HC1 := Lib.hid hc; clear hg hc)
    go_loopw [21] (fun i wr => ∃ (k : Nat) (g : G), k ≤ n ∧ i = .int .i64 k ∧ hears (g0 keep) (hs.take k) = some g ∧ GV (fun j => w.heap.size ≤ j ∧ j < wr.heap.size) wr b g ∧ Chg (fun _ => False) w wr) (fun i _ => n - (intOf i).toNat)
    case atStart => exact ⟨0, g0 keep, Nat.zero_le _, rfl, rfl, HG1.out, HC1.out⟩
    case round =>
      obtain ⟨w2, rfl⟩ : ∃ w2, w2 = wr := ⟨_, rfl⟩
      obtain ⟨k, g, hk, rfl, hh, hg, hc⟩ := hrel
      have HHS := Lib.hid hh
      have HGV := Lib.hid hg
      have HC := Lib.hid hc
      have HGD := Lib.hid (good_any HK.out hh (by rw [List.length_take]; omega))
      have hsz := hc.size
      clear hh hg hc
      by_cases hlt : k < n
      · obtain ⟨⟨s0, c0⟩, hx⟩ : ∃ x, hs[k]? = some x := ⟨_, List.getElem?_eq_getElem (by have := HL.out; omega)⟩
        obtain ⟨-, b2, off, rfl, hb, hcell⟩ := resp_at HH.out (by omega)
        have hcell2 : ∀ j u, (resp s0 c0)[j]? = some u → w2.cell? ⟨b2, off + k * 10 + j, none⟩ = some u := fun j u hu => (World.cell?_of_block (a := ⟨b2, off + k * 10 + j, none⟩) (HC.out.block b2 hb (fun h => h))).trans (hcell k s0 c0 hx j u hu)
        have y0 : w2.cell? ⟨b2, off + k * 10, none⟩ = some (.int .i64 s0) := hcell2 0 _ rfl
        have y1 : w2.cell? ⟨b2, off + k * 10 + 1, none⟩ = some (.int .i64 0) := hcell2 1 _ rfl
        have y2 : w2.cell? ⟨b2, off + k * 10 + 2, none⟩ = some (.int .i64 c0) := hcell2 2 _ rfl
        have y3 : w2.cell? ⟨b2, off + k * 10 + 3, none⟩ = some (.int .i64 0) := hcell2 3 _ rfl
        have y4 : w2.cell? ⟨b2, off + k * 10 + 4, none⟩ = some (.int .i64 0) := hcell2 4 _ rfl
        have y5 : w2.cell? ⟨b2, off + k * 10 + 5, none⟩ = some (.bool false) := hcell2 5 _ rfl
        have y6 : w2.cell? ⟨b2, off + k * 10 + 6, none⟩ = some (.slice none 0 0) := hcell2 6 _ rfl
        have y7 : w2.cell? ⟨b2, off + k * 10 + 7, none⟩ = some (.slice none 0 0) := hcell2 7 _ rfl
        have y8 : w2.cell? ⟨b2, off + k * 10 + 8, none⟩ = some (.bool false) := hcell2 8 _ rfl
        have y9 : w2.cell? ⟨b2, off + k * 10 + 9, none⟩ = some (.int .i64 0) := hcell2 9 _ rfl
        have HX := Lib.hid hx
        have hfx := HF.out (s0, c0) (List.mem_of_getElem? hx)
        have HW : Hid (∀ W, Chg (fun _ => False) w2 W → Calls Try.prog 22 #[.pointer (some ⟨b, 0, none⟩), .agg (resp s0 c0)] W fun e w' =>
            if takes g s0 = true then e = .returned (.int .i64 0) ∧ (∃ E', GV E' w' b (g.hear s0.toNat c0) ∧ (∀ k, E' k → (w.heap.size ≤ k ∧ k < w2.heap.size) ∨ W.heap.size ≤ k)) ∧ Chg (fun k => w.heap.size ≤ k ∧ k < w2.heap.size) W w'
            else e = .returned (.int .i64 2) ∧ Chg (fun _ => False) W w') := fun W hW => by
          refine hear_walk (HGV.out.chg hW (fun _ _ h => h)) HGD.out s0 c0 hfx.2 ?_ ?_
          · rw [(heard_any HHS.out).slots, List.length_map, List.length_take]; omega
          · have := hfx.1
            simp [Lit.wf, IntKind.min, IntKind.max, IntKind.bits, IntKind.signed] at this
            omega
        unfold resp at HW
        have HNX : Hid (hears (g0 keep) (hs.take (k + 1)) = hear1 g (s0, c0)) := by
          rw [take_snoc' hx, hears_snoc, HHS.out]; rfl
        clear hcell hcell2 hx hfx
        by_cases ht : takes g s0 = true
        · simp only [ht, if_true] at HW
          have HT := Lib.hid ht
          clear ht
          go_wp2_with (go_at_call 22; go_loud (refine (HW.out _ ((Chg.refl (fun _ => False) w2).alloc _)).mono ?_; rintro e w3 ⟨rfl, ⟨E', hg3, hE'⟩, hc3⟩; have HG3 := Lib.hid hg3; have HE3 := Lib.hid hE'; have HC3 := Lib.hid hc3; clear hg3 hE' hc3))
          go_roundw
          case rel =>
            have s1 := HC3.out.size
            simp only [World.size_alloc] at s1
            refine ⟨k + 1, g.hear s0.toNat c0, hlt, by go_num, by rw [HNX.out]; unfold hear1; rw [if_pos HT.out], HG3.out.mono (fun j hj => ?_) (fun j hj => hj.2), ?_⟩
            · have h1 := HG3.out.low j hj
              rcases HE3.out j hj with h | h
              · exact ⟨h.1, h1⟩
              · simp only [World.size_alloc] at h; exact ⟨by omega, h1⟩
            · exact (HC.out.alloc _).trans HC3.out (fun j hj h => by omega)
          case measure => simp [intOf]; omega
        · have ht' : takes g s0 = false := by simpa using ht
          simp only [ht', Bool.false_eq_true, if_false] at HW
          have HT := Lib.hid ht'
          clear ht ht'
          go_wp2_with (go_at_call 22; go_loud (refine (HW.out _ ((Chg.refl (fun _ => False) w2).alloc _)).mono ?_; rintro e w3 ⟨rfl, hc3⟩; have HC3 := Lib.hid hc3; clear hc3))
          go_ret2
          have hnone : hears (g0 keep) hs = none := hears_take (k := k + 1) (by rw [HNX.out]; unfold hear1; rw [HT.out]; rfl)
          rw [hnone]
          exact ⟨rfl, (HC.out.alloc _).trans HC3.out (fun _ _ h => h)⟩
      · go_wp2
        go_ret2
        have hkk : k = hs.length := by have := HL.out; omega
        have hh := HHS.out
        rw [hkk, List.take_length] at hh
        rw [hh]
        exact ⟨b, rfl, HGV.out, HC.out⟩
  · have hk' : keeps keep = false := by simpa using hk
    simp only [hk', Bool.false_eq_true, if_false] at HN ⊢
    have HNN := Lib.hid HN
    clear HN hk hk'
    go_enter Try.func11, Try.ntmps11
    go_wp2_with (go_at_call 17; refine HNN.out.mono ?_; rintro e w1 ⟨rfl, hc⟩; have HC1 := Lib.hid hc; clear hc)
    go_ret2
    exact ⟨rfl, HC1.out⟩
end Go.Proofs.Ytecppcgleidhkaa.Gm
