/- Lists filtered step by step; the loop's relation. Conditions: none. -/
import Derived.Test.YtchlolgfahgdeaaEn
set_option linter.unusedVariables false
set_option linter.unusedSimpArgs false
namespace Go.Proofs.Ytchlolgfahgdeaa.Epf
open Go.RowKit Go.Proofs.Ytchlolgfahgdeaa.Lib1 Go.Proofs.Ytchlolgfahgdeaa.Rel Go.Proofs.Ytchlolgfahgdeaa.Own Go.Proofs.Ytchlolgfahgdeaa.Ev Go.Proofs.Ytchlolgfahgdeaa.Ek Go.Proofs.Ytchlolgfahgdeaa.Ec Go.Proofs.Ytchlolgfahgdeaa.Em Go.Proofs.Ytchlolgfahgdeaa.En Go.Proofs.Ytchlolgfahgdeaa.Lat Go.Proofs.Ytchlolgfahgdeaa.Lbl Go.Proofs.Ytchlolgfahgdeaa.Lbw Go.Proofs.Ytchlolgfahgdeaa.Lck Go.Proofs.Ytchlolgfahgdeaa.Lmay

theorem fm_none {α β : Type} {f : α → Option β} {s : List α} {k : Nat} {x : α} (hx : s[k]? = some x) (h : f x = none) : (s.take (k + 1)).filterMap f = (s.take k).filterMap f := by
  rw [take_snoc hx, List.filterMap_append]; simp [h]
theorem fm_some {α β : Type} {f : α → Option β} {s : List α} {k : Nat} {x : α} {y : β} (hx : s[k]? = some x) (h : f x = some y) : (s.take (k + 1)).filterMap f = (s.take k).filterMap f ++ [y] := by
  rw [take_snoc hx, List.filterMap_append]; simp [h]
theorem fm_len {α β : Type} (f : α → Option β) (s : List α) (k : Nat) (hk : k ≤ s.length) : ((s.take k).filterMap f).length ≤ k := by
  have := List.length_filterMap_le f (s.take k)
  rw [List.length_take] at this
  omega
theorem may_ses_bd {c : Cfg} (hm : mayB c = true) {i : Nat} (hi : i < c.sessions.length) : ∃ b : Nat, c.sessions.getD i 0 = (b : Int) ∧ b < c.labels.length := by
  have h : inR (c.sessions.getD i 0) ((c.labels.length : Int) - 1) = true := by
    cases hq : inR (c.sessions.getD i 0) ((c.labels.length : Int) - 1) with
    | true => rfl
    | false => rw [may_one hi hq] at hm; cases hm
  unfold inR at h
  simp only [Bool.and_eq_true, decide_eq_true_eq] at h
  exact ⟨(c.sessions.getD i 0).toNat, by omega, by omega⟩
theorem may_16 {c : Cfg} (hm : mayB c = true) : c.labels.length ≤ 16 := by
  have h : chk c.labels = 0 := by
    by_cases hq : chk c.labels = 0
    · exact hq
    · rw [may_chk hq] at hm; cases hm
  exact (chk_zero.1 h).2.1

theorem nil_rel {α : Type} {b : Nat} {d : Kd α} {ok : Nat → Prop} {w : World} : (Kd.slice b d).rel ok w [] [.slice none 0 0] := ⟨none, 0, [], rfl, ⟨by simp, Nat.le_refl _, fun _ => rfl, fun h => absurd h (Nat.lt_irrefl _)⟩, fun i x h => by simp at h⟩
def PuRel (w1 : World) (f : Ev → Option Ev) (s : List Ev) (v i : Value) (wr : World) : Prop := ∃ k : Nat, k ≤ s.length ∧ i = .int .i64 k ∧ OwnL evK 37 w1.heap.size wr v ((s.take k).filterMap f) ∧ Chg (fun _ => False) w1 wr

end Go.Proofs.Ytchlolgfahgdeaa.Epf
