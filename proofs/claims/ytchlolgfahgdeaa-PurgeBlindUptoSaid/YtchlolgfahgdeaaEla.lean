/- What the laws call, by contracts whose answers bear notes. Conditions: what comes in reads so. -/
import Derived.Test.YtchlolgfahgdeaaEak
import Derived.Test.YtchlolgfahgdeaaEvb
set_option linter.unusedVariables false
set_option linter.unusedSimpArgs false
namespace Go.Proofs.Ytchlolgfahgdeaa.Ela
open Go.RowKit Go.Proofs.Ytchlolgfahgdeaa.Lib1 Go.Proofs.Ytchlolgfahgdeaa.Rel Go.Proofs.Ytchlolgfahgdeaa.Own Go.Proofs.Ytchlolgfahgdeaa.Ev Go.Proofs.Ytchlolgfahgdeaa.Ek Go.Proofs.Ytchlolgfahgdeaa.Ec Go.Proofs.Ytchlolgfahgdeaa.Em Go.Proofs.Ytchlolgfahgdeaa.En Go.Proofs.Ytchlolgfahgdeaa.Lat Go.Proofs.Ytchlolgfahgdeaa.Lbl Go.Proofs.Ytchlolgfahgdeaa.Lbw Go.Proofs.Ytchlolgfahgdeaa.Lck Go.Proofs.Ytchlolgfahgdeaa.Lmay Go.Proofs.Ytchlolgfahgdeaa.Rgn Go.Proofs.Ytchlolgfahgdeaa.Rgs Go.Proofs.Ytchlolgfahgdeaa.Eaw Go.Proofs.Ytchlolgfahgdeaa.Esq Go.Proofs.Ytchlolgfahgdeaa.Epo Go.Proofs.Ytchlolgfahgdeaa.Ess Go.Proofs.Ytchlolgfahgdeaa.Ead Go.Proofs.Ytchlolgfahgdeaa.Eak

theorem agg_of {v a b c : Value} (h : v.cells.toList = [a, b, c]) : v = .agg #[a, b, c] := by
  cases v with
  | agg xs => obtain ⟨xs⟩ := xs; simp only [Value.cells] at h; subst h; rfl
  | _ => simp [Value.cells] at h
/-! ### What is answered fits -/
theorem may_n16 {c : Cfg} (h : mayB c = true) : c.labels.length ≤ 16 := by
  have h0 : chk c.labels = 0 := by
    by_cases hq : chk c.labels = 0
    · exact hq
    · rw [may_chk hq] at h; cases h
  exact (chk_zero.1 h0).2.1
theorem zero_fits : reqFits Req.zero := ⟨by decide, by decide, by decide, fun x h => by cases h⟩
theorem req_fits {q : Req} (h : reqFits q) : reqFits (Ev.req q) := by
  have z : reqFits { Req.zero with kind := q.kind } := ⟨zero_fits.1, zero_fits.2.1, zero_fits.2.2⟩
  unfold Ev.req
  split
  · exact z
  · split
    · exact ⟨zero_fits.1, zero_fits.2.1, zero_fits.2.2⟩
    · refine ⟨h.1, ?_, ?_⟩
      · show (if q.kind = 3 then q.to else ⟨#[]⟩).size ≤ _
        split
        · exact h.2.1
        · decide
      · show bytesK.fits (if q.kind = 4 then q.value else [])
        split
        · exact h.2.2
        · exact ⟨by decide, fun x h => by cases h⟩
theorem strikes_fits {c : Cfg} {a : Nat} {s : List (List Fate)} (hc : c.labels.length ≤ 16) (h : strikesK.fits s) : strikesK.fits (Ev.strikes c a s) := by
  refine ⟨by simpa [Ev.strikes] using h.1, fun x hx => ?_⟩
  obtain ⟨f, hf, rfl⟩ := List.mem_map.1 hx
  refine ⟨?_, fun x _ => trivial⟩
  rw [round_len]; omega
theorem nil_fits : strikesK.fits [] := ⟨by decide, fun x h => by cases h⟩
theorem fm_fits {f : Ev → Option Ev} {s : List Ev} (h : evsK.fits s) (hf : ∀ x y, evK.fits x → f x = some y → evK.fits y) : evsK.fits (s.filterMap f) := by
  refine ⟨?_, fun y hy => ?_⟩
  · have h1 := List.length_filterMap_le f s
    have h2 := h.1
    have h3 : (s.filterMap f).length * 144 ≤ s.length * 144 := Nat.mul_le_mul_right _ h1
    exact Nat.le_trans h3 h2
  · obtain ⟨x, hx, e⟩ := List.mem_filterMap.1 hy
    exact hf x y (h.2 x hx) e
theorem purge_fits {c : Cfg} {p : Int} {s : List Ev} (h : evsK.fits s) : evsK.fits (Ev.purge c p s) := by
  unfold Ev.purge
  split
  · rename_i hm
    have h16 := may_n16 hm.1
    refine fm_fits h (fun x y hx hy => ?_)
    unfold purge1 at hy
    split at hy
    · cases hy
    · split at hy
      · split at hy
        · cases hy; exact ⟨req_fits hx.1, nil_fits⟩
        · cases hy
      · split at hy
        · split at hy
          · cases hy; exact ⟨zero_fits, strikes_fits h16 hx.2⟩
          · cases hy; exact ⟨zero_fits, strikes_fits h16 hx.2⟩
        · cases hy; exact ⟨zero_fits, strikes_fits h16 hx.2⟩
  · exact ⟨by decide, fun x h => by cases h⟩
theorem still_fits {c : Cfg} {s : List Ev} (h : evsK.fits s) : evsK.fits (Ev.still c s) := by
  refine fm_fits h (fun x y hx hy => ?_)
  unfold still1 at hy
  split at hy
  · cases hy
  · split at hy
    · cases hy; exact ⟨zero_fits, hx.2⟩
    · cases hy; exact hx

/-! ### Notes -/
def CfgW (c : Cfg) (v : Value) (w : World) : Prop := ∃ A1 A2 A3 n1 n2 n3 c1 c2 c3, v = .agg #[.slice A1 n1 c1, .slice A2 n2 c2, .slice A3 n3 c3] ∧ CfgAt (fun k => k < w.heap.size) w A1 A2 A3 n1 n2 n3 c1 c2 c3 c
theorem CfgW.up {c : Cfg} {v : Value} {w w' : World} (h : CfgW c v w) (hc : Chg (fun _ => False) w w') : CfgW c v w' := by
  obtain ⟨A1, A2, A3, n1, n2, n3, c1, c2, c3, e, hC⟩ := h
  exact ⟨A1, A2, A3, n1, n2, n3, c1, c2, c3, e, (hC.move (fun k hk => hc.block k hk (fun h => h))).mono (size_up hc)⟩
theorem nEvs_up {l : List Ev} {v : Value} {w w' : World} (h : (nEvs l).f v w) (hc : Chg (fun _ => False) w w') : (nEvs l).f v w' := (nEvs l).st _ _ _ hc h
theorem nEvs_form {l : List Ev} {v : Value} {w : World} (h : (nEvs l).f v w) : ∃ A c, v = .slice A l.length c := by
  obtain ⟨A, c, e, -⟩ := slice_form (bytes := 144) h
  simp only [List.cons.injEq, and_true] at e
  exact ⟨A, c, e⟩
theorem nEvs_of {ok : Nat → Prop} {l : List Ev} {v : Value} {w : World} (h : evsK.rel ok w l [v]) (hok : ∀ k, ok k → k < w.heap.size) : (nEvs l).f v w := evsK.mono hok h
theorem CfgW_of {ok : Nat → Prop} {w : World} {A1 A2 A3 : Option Addr} {n1 n2 n3 c1 c2 c3 : Nat} {c : Cfg} (h : CfgAt ok w A1 A2 A3 n1 n2 n3 c1 c2 c3 c) (hok : ∀ k, ok k → k < w.heap.size) : CfgW c (.agg #[.slice A1 n1 c1, .slice A2 n2 c2, .slice A3 n3 c3]) w := ⟨A1, A2, A3, n1, n2, n3, c1, c2, c3, rfl, h.mono hok⟩

section
variable {w : World} {c : Cfg}
theorem d_awake : Calls Try.prog 14 #[] w fun e w' => ∃ v, e = .returned v ∧ Chg (fun _ => False) w w' ∧ v = .bool true := (awake_any w).mono fun e w' ⟨he, hc⟩ => ⟨_, he, hc, rfl⟩
theorem d_purge {V1 V2 : Value} {l : List Ev} (hcf : cfgFits c) (p : Int) (h1 : CfgW c V1 w) (h2 : (nEvs l).f V2 w) (hf : evsK.fits l) : Calls Try.prog 19 #[V1, .int .i64 p, V2] w fun e w' => ∃ v, e = .returned v ∧ Chg (fun _ => False) w w' ∧ (nEvs (Ev.purge c p l)).f v w' := by
  obtain ⟨A1, A2, A3, n1, n2, n3, c1, c2, c3, rfl, hC⟩ := h1
  obtain ⟨A, k, rfl⟩ := nEvs_form h2
  exact (ppurge_any hC (fun k hk => hk) hcf p l A _ k h2 hf).mono fun e w' ⟨v, he, ho, hc⟩ => ⟨v, he, hc, evsK.mono (fun k hk => hk.2) (ho.reads (bytes := 144))⟩
theorem d_rpurge {V1 V2 : Value} {l : List Ev} (hcf : cfgFits c) (p : Int) (h1 : CfgW c V1 w) (h2 : (nEvs l).f V2 w) (hf : evsK.fits l) : Calls Try.prog 21 #[V1, .int .i64 p, V2] w fun e w' => ∃ v, e = .returned v ∧ Chg (fun _ => False) w w' ∧ (nEvs (Ev.purge c p l)).f v w' := by
  obtain ⟨A1, A2, A3, n1, n2, n3, c1, c2, c3, rfl, hC⟩ := h1
  obtain ⟨A, k, rfl⟩ := nEvs_form h2
  exact (rpurge_any hC (fun k hk => hk) hcf p l A _ k h2 hf).mono fun e w' ⟨v, he, ho, hc⟩ => ⟨v, he, hc, evsK.mono (fun k hk => hk.2) (ho.reads (bytes := 144))⟩
theorem d_still {V1 V2 : Value} {l : List Ev} (hcf : cfgFits c) (h1 : CfgW c V1 w) (h2 : (nEvs l).f V2 w) (hf : evsK.fits l) : Calls Try.prog 22 #[V1, V2] w fun e w' => ∃ v, e = .returned v ∧ Chg (fun _ => False) w w' ∧ (nEvs (Ev.still c l)).f v w' := by
  obtain ⟨A1, A2, A3, n1, n2, n3, c1, c2, c3, rfl, hC⟩ := h1
  obtain ⟨A, k, rfl⟩ := nEvs_form h2
  exact (pstill_any hC (fun k hk => hk) hcf l A _ k h2 hf).mono fun e w' ⟨v, he, ho, hc⟩ => ⟨v, he, hc, evsK.mono (fun k hk => hk.2) (ho.reads (bytes := 144))⟩
theorem d_rstill {V1 V2 : Value} {l : List Ev} (hcf : cfgFits c) (h1 : CfgW c V1 w) (h2 : (nEvs l).f V2 w) (hf : evsK.fits l) : Calls Try.prog 23 #[V1, V2] w fun e w' => ∃ v, e = .returned v ∧ Chg (fun _ => False) w w' ∧ (nEvs (Ev.still c l)).f v w' := by
  obtain ⟨A1, A2, A3, n1, n2, n3, c1, c2, c3, rfl, hC⟩ := h1
  obtain ⟨A, k, rfl⟩ := nEvs_form h2
  exact (rstill_any hC (fun k hk => hk) hcf l A _ k h2 hf).mono fun e w' ⟨v, he, ho, hc⟩ => ⟨v, he, hc, evsK.mono (fun k hk => hk.2) (ho.reads (bytes := 144))⟩
theorem d_rsame {V1 V2 : Value} {l m : List Ev} (b : Bool) (h1 : (nEvs l).f V1 w) (h2 : (nEvs m).f V2 w) (hf : evsK.fits l) (hg : evsK.fits m) (hb : decide (l = m) = b) : Calls Try.prog 18 #[V1, V2] w fun e w' => ∃ v, e = .returned v ∧ Chg (fun _ => False) w w' ∧ v = .bool b := by
  subst hb; exact c_rsame h1 h2 hf hg
theorem d_psame {V1 V2 : Value} {l m : List Ev} (b : Bool) (h1 : (nEvs l).f V1 w) (h2 : (nEvs m).f V2 w) (hf : evsK.fits l) (hg : evsK.fits m) (hb : decide (l = m) = b) : Calls Try.prog 24 #[V1, V2] w fun e w' => ∃ v, e = .returned v ∧ Chg (fun _ => False) w w' ∧ v = .bool b := by
  subst hb; exact c_psame h1 h2 hf hg
theorem d_copies {V : Value} {l : List Ev} (h : (nEvs l).f V w) (hf : evsK.fits l) : Calls Try.prog 20 #[V] w fun e w' => ∃ v, e = .returned v ∧ Chg (fun _ => False) w w' ∧ (nEvs l).f v w' := c_copies h hf
theorem d_mayConfig {V : Value} (hcf : cfgFits c) (h : CfgW c V w) : Calls Try.prog 25 #[V] w fun e w' => ∃ v, e = .returned v ∧ Chg (fun _ => False) w w' ∧ v = .bool (mayB c) := by
  obtain ⟨A1, A2, A3, n1, n2, n3, c1, c2, c3, rfl, hC⟩ := h
  exact (mayConfig_any hC (fun k hk => hk) hcf).mono fun e w' ⟨he, hc⟩ => ⟨_, he, hc, rfl⟩
end
end Go.Proofs.Ytchlolgfahgdeaa.Ela
