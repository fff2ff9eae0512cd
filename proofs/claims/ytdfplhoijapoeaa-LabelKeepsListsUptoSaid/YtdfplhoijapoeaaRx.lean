/- The walk of LabelCloses. Conditions: what comes in reads so. -/
import Derived.Test.YtdfplhoijapoeaaRc
import Derived.Test.YtdfplhoijapoeaaLwc
set_option linter.unusedVariables false
set_option linter.unusedSimpArgs false
namespace Go.Proofs.Ytdfplhoijapoeaa.Lrx
open Go.RowKit Go.Proofs.Ytdfplhoijapoeaa.Lib1 Go.Proofs.Ytdfplhoijapoeaa.Rel Go.Proofs.Ytdfplhoijapoeaa.Lat Go.Proofs.Ytdfplhoijapoeaa.Lbl Go.Proofs.Ytdfplhoijapoeaa.Lbw Go.Proofs.Ytdfplhoijapoeaa.Lck Go.Proofs.Ytdfplhoijapoeaa.Lcb Go.Proofs.Ytdfplhoijapoeaa.Lpl Go.Proofs.Ytdfplhoijapoeaa.Law Go.Proofs.Ytdfplhoijapoeaa.Lwc Go.Proofs.Ytdfplhoijapoeaa.Lcm Go.Proofs.Ytdfplhoijapoeaa.Lrc Go.Proofs.Ytdfplhoijapoeaa.Lsl

/-- What both Closes come to: one slice read as cs, and the number of the error. -/
def Cd (ls : List Nat) (cs : List Nat) (e : Nat) : Prop := (e = 10 ∧ cs = [] ∧ (ls = [] ∨ Big ls)) ∨ (e = 0 ∧ ls ≠ [] ∧ IsCl ls cs)
theorem Cd.unique {ls as1 bs1 : List Nat} {e f : Nat} (ha : Cd ls as1 e) (hb : Cd ls bs1 f) : as1 = bs1 ∧ e = f := by
  rcases ha with ⟨rfl, rfl, h1⟩ | ⟨rfl, h1, h2⟩ <;> rcases hb with ⟨rfl, rfl, g1⟩ | ⟨rfl, g1, g2⟩
  · exact ⟨rfl, rfl⟩
  · rcases h1 with h1 | h1
    · exact absurd h1 g1
    · exact (g2.not_big h1).elim
  · rcases g1 with g1 | g1
    · exact absurd g1 h1
    · exact (h2.not_big g1).elim
  · exact ⟨h2.unique g2, rfl⟩
theorem rd_none (w : World) (ok : Nat → Prop) : Rd ok w none 0 0 1 (us []) := ⟨rfl, Nat.le_refl _, fun _ => rfl, fun h => absurd h (Nat.lt_irrefl _)⟩
theorem rd_own {w' : World} {base : Nat} {T : TypeId} {B : Option Addr} {n d : Nat} {cs : List Nat} (h : w'.ownsRow base T 1 (.slice B n d) n (us cs)) : Rd (fun k => base ≤ k ∧ k < w'.heap.size) w' B n d 1 (us cs) := by
  obtain ⟨A, c, e, hr⟩ := Rd.of_own h
  simp only [Value.slice.injEq, true_and] at e
  obtain ⟨rfl, rfl⟩ := e
  exact hr.mono (fun k hk => h.lt k hk)
theorem close_own (ls : List Nat) (A : Option Addr) (n c : Nat) (w : World) (h : Rd (fun k => k < w.heap.size) w A n c 1 (us ls)) (hn : n * 8 ≤ 140737488351232) (hls : ∀ x ∈ ls, x < B64) :
    Calls Try.prog 36 #[.slice A n c] w fun e w' => ∃ B d cs z, e = .returned (.tuple #[.slice B cs.length d, .int .i64 (z : Nat)]) ∧ Cd ls cs z ∧ w'.ownsRow w.heap.size 23 1 (.slice B cs.length d) cs.length (us cs) ∧ Chg (fun _ => False) w w' :=
  (close_all ls A n c w h hn hls).mono (fun e w' h => by
    rcases h with ⟨rfl, h1, h2⟩ | ⟨g, c2, cs, rfl, h1, h2, h3, h5⟩
    · exact ⟨none, 0, [], 10, rfl, .inl ⟨rfl, rfl, h1⟩, World.ownsRow_nil _ _ _ _, h2⟩
    · exact ⟨_, c2, cs, 0, rfl, .inr ⟨rfl, h1, h2⟩, h3, h5⟩)
theorem close_cd (ls : List Nat) (A : Option Addr) (n c : Nat) (w : World) (h : Rd (fun k => k < w.heap.size) w A n c 1 (us ls)) (hn : n * 8 ≤ 140737488351232) (hls : ∀ x ∈ ls, x < B64) :
    Calls Try.prog 36 #[.slice A n c] w fun e w' => ∃ B d cs z, e = .returned (.tuple #[.slice B cs.length d, .int .i64 (z : Nat)]) ∧ Cd ls cs z ∧ Rd (fun k => w.heap.size ≤ k ∧ k < w'.heap.size) w' B cs.length d 1 (us cs) ∧ Chg (fun _ => False) w w' :=
  (close_own ls A n c w h hn hls).mono (fun e w' ⟨B, d, cs, z, h1, h2, h3, h4⟩ => ⟨B, d, cs, z, h1, h2, rd_own h3, h4⟩)
theorem rclose_cd (ls : List Nat) (A : Option Addr) (n c : Nat) (w : World) (ok : Nat → Prop) (h : Rd ok w A n c 1 (us ls)) (hok : ∀ k, ok k → k < w.heap.size) (hf : n * 8 ≤ 140737488351232) (hls : ∀ x ∈ ls, x < B64) :
    Calls Try.prog 37 #[.slice A n c] w fun e w' => ∃ B d cs z, e = .returned (.tuple #[.slice B cs.length d, .int .i64 (z : Nat)]) ∧ Cd ls cs z ∧ Rd (fun k => w.heap.size ≤ k ∧ k < w'.heap.size) w' B cs.length d 1 (us cs) ∧ Chg (fun _ => False) w w' :=
  (rclose_any ls A n c w ok h hok hf hls).mono (fun e w' h => by
    rcases h with ⟨rfl, h1, h2⟩ | ⟨B, c2, cs, rfl, h1, h2, h3, h4⟩
    · exact ⟨none, 0, [], 10, rfl, .inl ⟨rfl, rfl, h1⟩, rd_none _ _, h2⟩
    · exact ⟨B, c2, cs, 0, rfl, .inr ⟨rfl, h1, h2⟩, h3, h4⟩)

theorem same_eq (xs : List Nat) (A B : Option Addr) (n m c d : Nat) (w : World) (ok ok' : Nat → Prop) (ha : Rd ok w A n c 1 (us xs)) (hb : Rd ok' w B m d 1 (us xs)) (hn : n ≤ 9223372036854775807) (hm : m ≤ 9223372036854775807) :
    Calls Try.prog 38 #[.slice A n c, .slice B m d] w fun e w' => e = .returned (.bool true) ∧ ∃ q, w' = w.drewN q :=
  (same_any xs xs A B n m c d w ok ok' ha hb hn hm).mono (fun e w' h => ⟨h.1.trans (by simp), h.2⟩)
set_option maxRecDepth 100000 in
set_option maxHeartbeats 1600000 in
theorem closes_walk {ok : Nat → Prop} {w : World} (ls : List Nat) (A : Option Addr) (n c : Nat) (h : labsK.rel ok w ls [.slice A n c]) (hok : ∀ k, ok k → k < w.heap.size) (hf : labsK.fits ls) :
    Calls Try.prog 10 #[.slice A n c] w fun e w' => e = .returned (.bool true) ∧ Below w.heap.size w w' := by
  obtain ⟨hr, hn, hl⟩ := labs_rd h hf
  have HR : Hid (∀ w', Chg (fun _ => False) w w' → Rd ok w' A n c 1 (us ls)) := fun w' hc => hr.move (fun k hk => hc.block k (hok k hk) (fun h => h))
  have HK : Hid (∀ w', Chg (fun _ => False) w w' → ∀ k, ok k → k < w'.heap.size) := fun w' hc k hk => Nat.lt_of_lt_of_le (hok k hk) hc.size
  have HB := Lib.hid hl
  have H1 := Lib.hid (close_cd ls A n c w (hr.mono hok) hn hl)
  clear h hr hl hf hok
  go_enter Try.func10, Try.ntmps10
  go_wp2_with fail
  refine H1.out.mono ?_
  clear H1
  rintro e w1 ⟨A1, c1, cs1, z1, rfl, d1, r1, hc⟩
  have C1 := Lib.hid hc
  have D1 := Lib.hid d1
  have HP : Hid (∀ w', Chg (fun _ => False) w1 w' → Rd (fun k => k < w1.heap.size) w' A1 cs1.length c1 1 (us cs1)) := fun w' hc' => (r1.mono (fun k hk => hk.2)).move (fun k hk => hc'.block k hk (fun h => h))
  clear hc d1 r1
  have H2 := Lib.hid (plain_any ls A n c (HR.out _ C1.out) (HK.out _ C1.out) hn)
  go_wp2_with fail
  refine H2.out.mono ?_
  clear H2
  rintro e w2 ⟨v, rfl, ho, hc⟩
  obtain ⟨A2, c2, rfl, hr2⟩ := Rd.of_own ho
  have H3 := Lib.hid (rclose_cd ls A2 n c2 w2 _ hr2 (fun k hk => (ho.lt k hk).2) hn HB.out)
  have C12 := Lib.hid hc
  have C2 : Hid (Chg (fun _ => False) w w2) := C1.out.trans hc (fun _ _ h => h)
  clear ho hc hr2
  go_wp2_with fail
  refine H3.out.mono ?_
  clear H3
  rintro e w3 ⟨A3, c3, cs3, z3, rfl, d3, r3, hc⟩
  obtain ⟨rfl, rfl⟩ := D1.out.unique d3
  have hbz : ((z1 : Int) == (z1 : Int)) = true := by simp
  have C3 : Hid (Chg (fun _ => False) w w3) := C2.out.trans hc (fun _ _ h => h)
  have hNb : cs1.length ≤ 9223372036854775807 := by
    rcases d3 with ⟨_, h2, _⟩ | ⟨_, _, h2⟩
    · rw [h2]; decide
    · have := h2.few; omega
  have H4 := Lib.hid (same_eq cs1 A1 A3 cs1.length cs1.length c1 c3 w3 _ _ (HP.out w3 (C12.out.trans hc (fun _ _ h => h))) r3 hNb hNb)
  clear hc d3 r3 HP C12 C2 C1 D1
  go_wp2_with fail
  refine H4.out.mono ?_
  clear H4
  rintro e w4 ⟨rfl, q, hq⟩
  have C4 : Hid (Chg (fun _ => False) w w4) := by rw [hq]; exact C3.out.drewN _
  clear hq C3
  go_wp2_with fail
  refine (awake_any _).mono ?_
  rintro e w5 ⟨rfl, hc⟩
  have C5 : Hid (Chg (fun _ => False) w w5) := C4.out.trans hc (fun _ _ h => h)
  clear hc C4
  go_wp2
  go_ret
  exact ⟨rfl, C5.out.below⟩
end Go.Proofs.Ytdfplhoijapoeaa.Lrx
