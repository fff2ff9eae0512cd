/- response, responses, same; Measure of a list. Conditions: the list reads so; at most 2 ^ 40 of them. -/
import Derived.Test.YtecppcgleidhkaaGr
import Derived.Test.YtecppcgleidhkaaGq
import Derived.Test.YtecppcgleidhkaaOwn
import Derived.Clock
set_option linter.unusedVariables false
set_option linter.unusedSimpArgs false
namespace Go.Proofs.Ytecppcgleidhkaa.Gm
open Go.RowKit Go.Proofs.Ytecppcgleidhkaa.Lib1 Go.Proofs.Ytecppcgleidhkaa.Rel Go.Proofs.Ytecppcgleidhkaa.Own Go.Proofs.Ytecppcgleidhkaa.Fl Go.Proofs.Ytecppcgleidhkaa.Gp Go.Proofs.Ytecppcgleidhkaa.Gw

theorem bits_run (x : Nat) (w : World) : (callFunc 32 #[.float .f64 x]).run Try.prog w = .ok (.value (.int .u64 x)) w := by
  rw [run_callFunc_extern Try.func32 (by kernel_rfl) (by kernel_rfl) (by kernel_rfl) (show Extern.find _ = some Extern.MathFloatBits.float64bits by kernel_rfl)]
  rfl
theorem same_walk (a b : Nat) (w : World) : Calls Try.prog 16 #[.float .f64 a, .float .f64 b] w fun e w' => e = .returned (.bool (decide (a = b))) ∧ w' = w := by
  have hb := bits_run
  go_enter Try.func16, Try.ntmps16
  go_wp2
  go_ret
  refine ⟨?_, rfl⟩
  show Ending.returned (.bool ((a : Int) == (b : Int))) = _
  congr 2
  by_cases h : a = b
  · subst h; simp
  · simp [h]; omega
theorem response_walk (s c : Int) (w : World) : Calls Try.prog 23 #[.agg #[.int .i64 s, .int .i64 c]] w fun e w' => e = .returned (.agg (resp s c)) ∧ Chg (fun _ => False) w w' := by
  go_enter Try.func23, Try.ntmps23
  go_wp2
  refine bodyPost_ret (v := .agg (resp s c)) (by simp [resp, results, Try.results23, go_sem]) rfl ?_
  exact ⟨rfl, by repeat (first | exact Chg.refl _ _ | apply Chg.alloc)⟩
/-! ### lists of what is heard -/
def heardK : Kd (Int × Int) := Kd.pair (Kd.int .i64) (Kd.int .i64)
/-- A response's cells. -/
def respK : Kd (Int × Int) where
  sz := 10
  rel := fun _ _ x cs => cs = (resp x.1 x.2).toList
  fits := fun x => (Lit.int .i64 x.1).wf = true ∧ (Lit.int .i64 x.2).wf = true
  len := by rintro _ _ _ _ rfl; rfl
  one := by
    rintro _ _ x _ rfl u hu
    simp only [resp, List.mem_cons, List.not_mem_nil, or_false] at hu
    rcases hu with rfl | rfl | rfl | rfl | rfl | rfl | rfl | rfl | rfl | rfl <;> rfl
  move := fun _ h => h
  mono := fun _ h => h
theorem respK_flat (ok ok' : Nat → Prop) (w w' : World) (x : Int × Int) (cs : List Value) (h : respK.rel ok w x cs) : respK.rel ok' w' x cs := h
theorem info_resp : ((Try.prog).info? 65).map (fun i => (i.zero, i.size, i.bytes)) = some (some (.agg #[.int .i64 0, .int .i64 0, .int .i64 0, .int .i64 0, .int .i64 0, .bool false, .slice none 0 0, .slice none 0 0, .bool false, .int .i64 0]), 10, 112) := by kernel_rfl
theorem take_snoc' {α : Type} {xs : List α} {k : Nat} {x : α} (h : xs[k]? = some x) : xs.take (k + 1) = xs.take k ++ [x] := by
  rw [List.take_add_one, h]; rfl
theorem take_len' {α : Type} {xs : List α} {k : Nat} (h : k ≤ xs.length) : (xs.take k).length = k := by simp [h]
theorem rest_ok {base : Nat} {w : World} {g : Nat} (e : TypeId) (hg : g = w.heap.size) (hb : base ≤ g) : OwnL respK e base (w.alloc (.cells #[] e)) (.slice (some ⟨g, 0, none⟩) 0 0) [] :=
  ⟨[], own_lit0 w g hg hb, fun i x h => by simp at h⟩
theorem heard_at {ok : Nat → Prop} {w : World} {A : Option Addr} {n c : Nat} {hs : List (Int × Int)} (h : (Kd.slice 16 heardK).rel ok w hs [.slice A n c]) (hn : 0 < n) :
    hs.length = n ∧ ∃ b off, A = some ⟨b, off, none⟩ ∧ ok b ∧ ∀ i s c, hs[i]? = some (s, c) → w.cell? ⟨b, off + i * 2, none⟩ = some (.int .i64 s) ∧ w.cell? ⟨b, off + i * 2 + 1, none⟩ = some (.int .i64 c) := by
  obtain ⟨hl, b, off, e, hb, he⟩ := range_of h hn
  refine ⟨hl, b, off, e, hb, fun i s c hi => ?_⟩
  obtain ⟨cs, ⟨c1, c2, rfl, e1, e2⟩, hr⟩ := he i (s, c) hi
  have e1' : c1 = [.int .i64 s] := e1
  have e2' : c2 = [.int .i64 c] := e2
  subst e1' e2'
  exact ⟨hr 0 _ rfl, hr 1 _ rfl⟩
theorem resp_at {ok : Nat → Prop} {w : World} {A : Option Addr} {n c : Nat} {hs : List (Int × Int)} (h : (Kd.slice 112 respK).rel ok w hs [.slice A n c]) (hn : 0 < n) :
    hs.length = n ∧ ∃ b off, A = some ⟨b, off, none⟩ ∧ ok b ∧ ∀ (i : Nat) (s c : Int), hs[i]? = some (s, c) → ∀ j u, (resp s c)[j]? = some u → w.cell? ⟨b, off + i * 10 + j, none⟩ = some u := by
  obtain ⟨hl, b, off, e, hb, he⟩ := range_of h hn
  refine ⟨hl, b, off, e, hb, fun i s c hi j u hu => ?_⟩
  obtain ⟨cs, e1, hr⟩ := he i (s, c) hi
  have e1' : cs = (resp s c).toList := e1
  subst e1'
  exact hr j u (by simpa using hu)
set_option maxRecDepth 100000 in
theorem responses_walk (hs : List (Int × Int)) (A : Option Addr) (n c : Nat) (w : World) (h : (Kd.slice 16 heardK).rel (fun k => k < w.heap.size) w hs [.slice A n c]) (hn : n ≤ 1073741824) :
    Calls Try.prog 12 #[.slice A n c] w fun e w' => ∃ v, e = .returned v ∧ OwnL respK 65 w.heap.size w' v hs ∧ Chg (fun _ => False) w w' := by
  have HL : Hid (hs.length = n) := by
    obtain ⟨A', c', cells, he, -⟩ := h
    simp only [List.cons.injEq, Value.slice.injEq, and_true] at he
    exact he.2.1.symm
  have HH := Lib.hid h
  have HR : Hid (∀ W (s c : Int), Calls Try.prog 23 #[.agg #[.int .i64 s, .int .i64 c]] W fun e w' => e = .returned (.agg #[.int .i64 s, .int .i64 0, .int .i64 c, .int .i64 0, .int .i64 0, .bool false, .slice none 0 0, .slice none 0 0, .bool false, .int .i64 0]) ∧ Chg (fun _ => False) W w') := fun W s c => response_walk s c W
  clear h
  go_enter Try.func12, Try.ntmps12
  go_wp2
  go_loopw [3, 9] (fun v i wr => ∃ k : Nat, k ≤ n ∧ i = .int .i64 k ∧ OwnL respK 65 w.heap.size wr v (hs.take k) ∧ Chg (fun _ => False) w wr) (fun _ i _ => n - (intOf i).toNat)
  case atStart => exact ⟨0, Nat.zero_le _, rfl, by rw [List.take_zero]; exact rest_ok _ rfl (Nat.le_refl _), (Chg.refl _ _).alloc _⟩
  case round =>
    obtain ⟨w2, rfl⟩ : ∃ w2, w2 = wr := ⟨_, rfl⟩
    obtain ⟨k, hk, rfl, ho, hc⟩ := hrel
    obtain ⟨Av, cv, e0⟩ := ho.form
    have hkl : k ≤ hs.length := by have := HL.out; omega
    rw [take_len' hkl] at e0
    subst e0
    have HO := Lib.hid ho
    have HC := Lib.hid hc
    have hsz := hc.size
    clear ho hc
    by_cases hlt : k < n
    · obtain ⟨⟨s0, c0⟩, hx⟩ : ∃ x, hs[k]? = some x := ⟨_, List.getElem?_eq_getElem (by have := HL.out; omega)⟩
      obtain ⟨-, b, off, rfl, hb, hcell⟩ := heard_at HH.out (by omega)
      obtain ⟨z0, z1⟩ := hcell k s0 c0 hx
      have y0 : w2.cell? ⟨b, off + k * 2, none⟩ = some (.int .i64 s0) := (World.cell?_of_block (a := ⟨b, off + k * 2, none⟩) (HC.out.block b hb (fun h => h))).trans z0
      have y1 : w2.cell? ⟨b, off + k * 2 + 1, none⟩ = some (.int .i64 c0) := (World.cell?_of_block (a := ⟨b, off + k * 2 + 1, none⟩) (HC.out.block b hb (fun h => h))).trans z1
      have HX := Lib.hid hx
      clear hcell z0 z1 hx
      go_wp2_with (first
        | (go_at_call 23; refine (HR.out _ _ _).mono ?_; rintro e w3 ⟨rfl, hc3⟩; have HC3 : Hid (Chg (fun _ => False) w2 w3) := ((Chg.refl (fun _ => False) w2).alloc _).trans hc3 (fun _ _ h => h); have hs3 := HC3.out.size; clear hc3)
        | (at_builtin; go_loud (refine ap_push rfl (.tmp 13) (.tmp 16) 29 rfl respK w.heap.size 65 112 _ Try.underlying29 info_resp rfl (by decide) (by decide) (.slice Av k cv) (hs.take k) rfl (HO.out.up HC3.out) (s0, c0) _ rfl ?bR ?bL ?bB ?_; (case bR => rfl); (case bL => rw [take_len' hkl]; omega); (case bB => omega); intro v3 w4 o3 g3; obtain ⟨A3, c3, e3⟩ := o3.form; subst e3)))
      go_roundw
      case rel => exact ⟨k + 1, hlt, by go_num, by rw [take_snoc' HX.out]; have o4 := o3; rw [List.length_append, take_len' hkl] at o4; exact o4, (HC.out.trans HC3.out (fun _ _ h => h)).trans g3 (fun j hj he => by have := (HO.out.low j he).1; omega)⟩
      case measure => simp [intOf]; omega
    · go_wp2
      go_ret
      have hkk : k = hs.length := by have := HL.out; omega
      have ho := HO.out
      rw [hkk, List.take_length] at ho
      exact ⟨_, rfl, by rw [hkk]; exact ho, HC.out⟩
end Go.Proofs.Ytecppcgleidhkaa.Gm
