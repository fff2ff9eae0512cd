/- head: answers that the document fixes. Conditions: none. -/
import Derived.Test.YtecppcgleidhkaaGn
set_option linter.unusedVariables false
set_option linter.unusedSimpArgs false
set_option exponentiation.threshold 3000
namespace Go.Proofs.Ytecppcgleidhkaa.Gm
open Go.RowKit Go.Proofs.Ytecppcgleidhkaa.Lib1 Go.Proofs.Ytecppcgleidhkaa.Rel Go.Proofs.Ytecppcgleidhkaa.Own Go.Proofs.Ytecppcgleidhkaa.Fl Go.Proofs.Ytecppcgleidhkaa.Gp Go.Proofs.Ytecppcgleidhkaa.Gw

def l4 : List (Int × Int) := [(3, 0), (5, 0), (5, 190), (11, 0)]
def g4 : G := ⟨4604930618986332160, [3, 5, 5, 11], [0, 0, 190, 0]⟩
theorem m4 : measure 4604930618986332160 l4 = some g4 := by
  have hk : keeps 4604930618986332160 = true := by decide
  unfold measure
  rw [if_pos hk]
  rfl
theorem gaps4 : g4.gaps = [4611686018427387904, 0, 4618441417868443648] := by decide
set_option maxRecDepth 100000 in
theorem sm4 : smooth g4.keep g4.gaps = 4613093393310941184 := by rw [gaps4]; decide
theorem q4 {x : Nat} (h : IsQ g4.gaps (wantOf 4602678819172646912 g4.gaps.length) x) : x = 4611686018427387904 := by
  refine h.unique ?_
  rw [gaps4]
  refine ⟨by simp, by decide, ?_⟩
  intro y hy
  simp only [List.mem_cons, List.not_mem_nil, or_false] at hy
  rcases hy with rfl | rfl | rfl
  · intro _; exact Nat.le_refl _
  · intro h; exact absurd h (by decide)
  · intro _; decide
theorem good4 : g4.Good := good_any (by decide : 4604930618986332160 < ONE) (show hears (g0 4604930618986332160) l4 = some g4 from rfl) (by decide)
theorem l4_rel (W : World) (b : Nat) (T : TypeId) (ok : Nat → Prop) (hb : W.heap[b]? = some (.cells #[.int .i64 3, .int .i64 0, .int .i64 5, .int .i64 0, .int .i64 5, .int .i64 190, .int .i64 11, .int .i64 0] T (0, 0))) (hok : ok b) : (Kd.slice 16 heardK).rel ok W l4 [.slice (some ⟨b, 0, none⟩) 4 4] := by
  refine ⟨some ⟨b, 0, none⟩, 4, [.int .i64 3, .int .i64 0, .int .i64 5, .int .i64 0, .int .i64 5, .int .i64 190, .int .i64 11, .int .i64 0], rfl, ⟨rfl, Nat.le_refl _, (fun h => by cases h), fun _ => ⟨b, 0, rfl, hok, fun j u hu => ?_⟩⟩, fun i x hx => ?_⟩
  · rw [Nat.zero_add]
    exact cell_at hb j (by simpa using hu)
  · have hi := (List.getElem?_eq_some_iff.1 hx).1
    have hi4 : i < 4 := hi
    rcases (show i = 0 ∨ i = 1 ∨ i = 2 ∨ i = 3 by omega) with rfl | rfl | rfl | rfl <;> (cases hx; exact ⟨_, _, rfl, rfl, rfl⟩)
set_option maxRecDepth 100000 in
set_option maxHeartbeats 2000000 in
theorem head_walk (w : World) : Calls Try.prog 10 #[] w fun e w' => e = .returned (.bool true) ∧ Chg (fun _ => False) w w' := by
  have HM : Hid (∀ (W : World) (A : Option Addr) (c : Nat), (Kd.slice 112 respK).rel (fun k => k < W.heap.size) W l4 [.slice A 4 c] → Calls Try.prog 11 #[.float .f64 4604930618986332160, .slice A 4 c] W fun e w' => ∃ b, e = .returned (.tuple #[.pointer (some ⟨b, 0, none⟩), .int .i64 0]) ∧ GV (fun k => W.heap.size ≤ k ∧ k < w'.heap.size) w' b g4 ∧ Chg (fun _ => False) W w') := fun W A c h => by
    refine (measure_walk 4604930618986332160 (by decide) l4 A 4 c W h (by decide) (by decide)).mono ?_
    intro e w' hr
    rw [m4] at hr
    exact hr
  go_enter Try.func10, Try.ntmps10
  go_wp2_with (first
    | (go_at_call 12; go_loud (refine (responses_walk l4 _ 4 4 _ (l4_rel _ _ _ _ (heap_new _ _) (by simp)) (by decide)).mono ?_; rintro e w1 ⟨v, rfl, ho, hc⟩; obtain ⟨A, c, e1⟩ := ho.form; subst e1; have HO := Lib.hid ho; have HC := Lib.hid ((((Chg.refl (fun _ => False) w).alloc _).trans hc (fun _ _ h => h))); clear ho hc))
    | (go_at_call 11; go_loud (refine (HM.out _ _ _ ((Kd.slice 112 respK).mono (fun k hk => hk.2) HO.out.reads)).mono ?_; rintro e w2 ⟨b, rfl, hg, hc2⟩; have HG := Lib.hid hg; have HC2 := Lib.hid hc2; clear hg hc2))
    | (go_at_call 28; go_loud (have hsm := smooth_walk HG.out good4; rw [sm4, show (!g4.gaps.isEmpty) = true by rw [gaps4]; rfl] at hsm; refine hsm.mono ?_; clear hsm; rintro e w3 ⟨rfl, hw3⟩; subst hw3))
    | (go_at_call 13; go_loud (refine (quantile_walk HG.out good4 4602678819172646912 (by decide) (by rw [gaps4]; simp) (by rw [gaps4]; decide)).mono ?_; rintro e w4 ⟨⟨x, rfl, hq⟩, hc4⟩; have HQ := Lib.hid (q4 hq); have HC4 := Lib.hid hc4; clear hq hc4; rw [HQ.out]))
    | (go_at_call 16; refine (same_walk _ _ _).mono ?_; rintro e w5 ⟨rfl, h5⟩; subst h5)
    | (go_at_call 24; go_loud (have hct := count_walk (HG.out.chg HC4.out (fun _ _ h => h)) good4 (c := 0) (by decide); rw [show g4.codes.count 0 = 3 from rfl] at hct; refine hct.mono ?_; clear hct; rintro e w6 ⟨rfl, h6⟩; subst h6)))
  go_ret
  exact ⟨rfl, (HC.out.trans HC2.out (fun _ _ h => h)).trans HC4.out (fun _ _ h => h)⟩
end Go.Proofs.Ytecppcgleidhkaa.Gm
