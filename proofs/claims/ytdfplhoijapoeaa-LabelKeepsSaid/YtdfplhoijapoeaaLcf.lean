/- A config as the document's: config by contract. Conditions: what comes in reads so. -/
import Derived.Test.YtdfplhoijapoeaaLpl
import Derived.Test.YtdfplhoijapoeaaRgt
import Derived.Deep.Cut
set_option linter.unusedVariables false
set_option linter.unusedSimpArgs false
namespace Go.Proofs.Ytdfplhoijapoeaa.Lcf
open Go.RowKit Go.Proofs.Ytdfplhoijapoeaa.Lib1 Go.Proofs.Ytdfplhoijapoeaa.Lat Go.Proofs.Ytdfplhoijapoeaa.Lbl Go.Proofs.Ytdfplhoijapoeaa.Lbw Go.Proofs.Ytdfplhoijapoeaa.Lck Go.Proofs.Ytdfplhoijapoeaa.Lmay Go.Proofs.Ytdfplhoijapoeaa.Rgn Go.Proofs.Ytdfplhoijapoeaa.Rgs Go.Proofs.Ytdfplhoijapoeaa.Rgt Go.Proofs.Ytdfplhoijapoeaa.Lpl

theorem info_int : (Try.prog.info? 3).map (fun i => (i.zero, i.size, i.bytes)) = some (some (.int .i64 0), 1, 8) := by kernel_rfl
theorem info_acc : (Try.prog.info? 82).map (fun i => (i.zero, i.size, i.bytes)) = some (some (.agg #[.int .i64 0, .int .i64 0, .int .i64 0, .int .i64 0, .int .i64 0]), 5, 40) := by kernel_rfl
def cfgFits (c : Cfg) : Prop := c.labels.length * 8 ≤ 140737488351232 ∧ c.accounts.length * 40 ≤ 140737488351232 ∧ c.sessions.length * 8 ≤ 140737488351232
/-- A row is not a block of another type. -/
theorem own_type {w : World} {base e sz n : Nat} {v : Value} {xs : List Value} {b T : Nat} {cs : Array Value} {fr : Nat × Nat} (h : w.ownsRow base e sz v n xs) (hb : w.heap[b]? = some (.cells cs T fr)) (hne : T ≠ e) : v.ownBlock ≠ some b := by
  rcases h.2 with ⟨rfl, _⟩ | ⟨g, cap, cur, rfl, _, hg, _⟩
  · intro he; cases he
  · intro he
    have : g = b := Option.some.inj he
    subst this
    rw [hb] at hg
    simp only [Option.some.injEq, Obj.cells.injEq] at hg
    exact hne hg.2.1
def nRow (e sz n : Nat) (base : Nat) (xs : List Value) : Note := ⟨fun v w => w.ownsRow base e sz v n xs, fun v w w' hc h => own_chg hc h (fun _ _ h => h)⟩
def nCell (base T : Nat) (cs : Array Value) : Note := ⟨fun v w => ∃ b, v = .pointer (some ⟨b, 0, none⟩) ∧ base ≤ b ∧ w.heap[b]? = some (.cells cs T (0, 0)), fun v w w' hc h => by
  obtain ⟨b, e, hb, h⟩ := h
  exact ⟨b, e, hb, hc.at_ h (fun h => h)⟩⟩
def nOut (base n1 n3 : Nat) (xs ys : List Value) : Note := ⟨fun v w => ∃ B1 d1 B3 d3, v = .agg #[.slice B1 n1 d1, .slice none 0 0, .slice B3 n3 d3] ∧ w.ownsRow base 22 1 (.slice B1 n1 d1) n1 xs ∧ w.ownsRow base 3 1 (.slice B3 n3 d3) n3 ys, fun v w w' hc h => by
  obtain ⟨B1, d1, B3, d3, e, h1, h2⟩ := h
  exact ⟨B1, d1, B3, d3, e, own_chg hc h1 (fun _ _ h => h), own_chg hc h2 (fun _ _ h => h)⟩⟩
theorem append_row {P : Program} {ρ : Operand → Value} {o : Oper} {w : World} {xs : Array Operand} {ts : Array TypeId} (ho : o.op = .call { callee := .builtin .append, args := xs, argTypes := ts }) : ∀ row args w', (execOp ρ o).run P w ≠ .ok (.row row args) w' := by
  intro row args w' h
  obtain ⟨dst, op, ty, pos, after, guard⟩ := o
  simp only at ho
  subst ho
  rw [BigFrame.execOp_builtin, BigFrame.builtin_append] at h
  generalize Builtin.append_ ts ty (xs.map ρ) = m at h
  cases hm : m.run P w with
  | ok v w1 => simp [go_sem, hm] at h
  | halt x w1 => simp [go_sem, hm] at h
theorem acs_len (l : List Acc) : (acs l).length = l.length * 5 := by
  induction l with
  | nil => rfl
  | cons a l ih => simp only [acs, List.flatMap_cons, List.length_append, List.length_cons, List.length_nil] at *; omega
theorem acs_take {l : List Acc} {j : Nat} {x : Acc} (hx : l[j]? = some x) : acs (l.take (j + 1)) = acs (l.take j) ++ [.int .i64 x.quota, .int .i64 x.opn, .int .i64 x.queue, .int .i64 x.window, .int .i64 x.start] := by
  have h : l.take (j + 1) = l.take j ++ [x] := by
    obtain ⟨hk, rfl⟩ := List.getElem?_eq_some_iff.1 hx
    exact List.take_succ_eq_append_getElem hk
  rw [h]
  simp [acs, List.flatMap_append]
theorem ap_one' {P : Program} {ops : Array Oper} {rest : List Oper} {o : Oper} {a : Act} {Q : Exit → Act → World → Prop} {W : World} (hgd : o.guard = none) (s x : Operand) (t : TypeId) (ho : o.op = .call { callee := .builtin .append, args := #[s, x], argTypes := #[t, t] })
    (base e size bytes : Nat) (z : Value) (ht : P.underlying t = some (.slice e)) (hinfo : (P.info? e).map (fun i => (i.zero, i.size, i.bytes)) = some (some z, size, bytes)) (hzs : z.cells.size = size) (hsz : 0 < size) (hby : 0 < bytes)
    (v : Value) (n : Nat) (xs : List Value) (hs : a.eval s = v) (HO : W.ownsRow base e size v n xs)
    (ys : Array Value) (gx : Nat) (hx : a.eval x = .slice (some ⟨gx, 0, none⟩) 1 1) (hgx : gx = W.heap.size) (hy : ys.size = size) (h1 : ∀ u ∈ ys.toList, u.oneCell' = true)
    (hl : (n + 1) * bytes ≤ 140737488355328) (hbase : base ≤ W.heap.size)
    (h : ∀ v1 w1, w1.ownsRow base e size v1 (n + 1) (xs ++ ys.toList) → W.grownBy w1 v.ownBlock → (v1.ownBlock = v.ownBlock ∨ ∃ b, v1.ownBlock = some b ∧ W.heap.size ≤ b) → wpList P ops Q rest (a.put o.dst v1) w1) :
    wpList P ops Q (o :: rest) a (W.alloc (.cells ys e)) := by
  subst hgx
  exact ap_one hgd s x t ho base e size bytes z ht hinfo hzs hsz hby v n xs hs HO ys hx hy h1 hl hbase h
theorem rd_own {w : World} {base e sz n c : Nat} {A : Option Addr} {xs : List Value} (h : w.ownsRow base e sz (.slice A n c) n xs) : Rd (fun k => k < w.heap.size) w A n c sz xs := by
  obtain ⟨A', c', e', hr⟩ := Rd.of_own h
  simp only [Value.slice.injEq, true_and] at e'
  obtain ⟨rfl, rfl⟩ := e'
  exact hr.mono (fun k hk => (h.lt k hk).2)
/-- In the loop over the accounts. -/
def AccR (w5 : World) (b3 : Nat) (V1 V3 : Value) (c : Cfg) (i : Value) (wr : World) : Prop :=
  ∃ (j : Nat) (v : Value), j ≤ c.accounts.length ∧ i = .int .i64 j ∧ wr.heap[b3]? = some (.cells #[V1, v, V3] 40 (0, 0)) ∧ wr.ownsRow w5.heap.size 82 5 v j (acs (c.accounts.take j)) ∧ Chg (fun q => q = b3) w5 wr
set_option maxRecDepth 100000 in
set_option maxHeartbeats 3200000 in
theorem config_any {ok : Nat → Prop} {w : World} {A1 A2 A3 : Option Addr} {n1 n2 n3 c1 c2 c3 : Nat} {c : Cfg} (h : CfgAt ok w A1 A2 A3 n1 n2 n3 c1 c2 c3 c) (hok : ∀ k, ok k → k < w.heap.size) (hf : cfgFits c) :
    Calls Try.prog 25 #[.agg #[.slice A1 n1 c1, .slice A2 n2 c2, .slice A3 n3 c3]] w fun e w' => ∃ B1 B2 B3 d1 d2 d3, e = .returned (.agg #[.slice B1 n1 d1, .slice B2 n2 d2, .slice B3 n3 d3]) ∧ CfgAt (fun k => k < w'.heap.size) w' B1 B2 B3 n1 n2 n3 d1 d2 d3 c ∧ Chg (fun _ => False) w w' := by
  have HH : Hid (∀ w', Chg (fun _ => False) w w' → CfgAt ok w' A1 A2 A3 n1 n2 n3 c1 c2 c3 c) := fun w' hc => h.move (fun k hk => hc.block k (hok k hk) (fun h => h))
  have HOK := Lib.hid hok
  obtain ⟨f1, f2, f3⟩ := hf
  rw [h.l1] at f1
  rw [h.l2] at f2
  rw [h.l3] at f3
  have HL2 := Lib.hid h.l2
  have L1 := Lib.hid h.l1
  have L3 := Lib.hid h.l3
  have HBig := Lib.hid h.big
  have m1 := h.m1
  have m2 := h.m2
  have m3 := h.m3
  clear h hok
  obtain ⟨w0, hw0⟩ : ∃ w0, w0 = (w.alloc (.cells #[.slice A1 n1 c1, .slice A2 n2 c2, .slice A3 n3 c3] 32)).alloc (.cells #[.slice none 0 0, .slice none 0 0, .slice none 0 0] 40) := ⟨_, rfl⟩
  have HW0 := Lib.hid hw0
  have hs0 : w0.heap.size = w.heap.size + 1 + 1 := by rw [hw0]; simp only [World.size_alloc]
  have HBX : Hid (∀ w', Chg (fun _ => False) w0 w' → w'.heap[w.heap.size]? = some (.cells #[.slice A1 n1 c1, .slice A2 n2 c2, .slice A3 n3 c3] 32 (0, 0))) := fun w' hc => hc.at_ (by rw [hw0]; exact heap_old _ (heap_new w _)) (fun h => h)
  have HBY : Hid (∀ w', Chg (fun _ => False) w0 w' → w'.heap[w.heap.size + 1]? = some (.cells #[.slice none 0 0, .slice none 0 0, .slice none 0 0] 40 (0, 0))) := fun w' hc => hc.at_ (by rw [hw0]; exact heap_new' _ _ (World.size_alloc ..).symm) (fun h => h)
  have C0 : Hid (Chg (fun _ => False) w w0) := by show Chg _ _ _; rw [hw0]; exact ((Chg.refl _ w).alloc _).alloc _
  have HS0 := Lib.hid hs0
  clear hw0 hs0
  go_enter Try.func25, Try.ntmps25
  go_upto_region 1 with fail
  rw [← HW0.out]
  refine wp_region_soft_tail 8 (notes [Note.eq (.pointer (some ⟨w.heap.size, 0, none⟩)), Note.eq (.slice A1 n1 c1), nRow 22 1 n1 w.heap.size (us c.labels), Note.eq (.pointer (some ⟨w.heap.size, 2, none⟩)), Note.eq (.slice A3 n3 c3), nRow 3 1 n3 w.heap.size (is c.sessions), nOut w.heap.size n1 n3 (us c.labels) (is c.sessions), nCell w0.heap.size 40 #[.slice none 0 0, .slice none 0 0, .slice none 0 0]]) (by kernel_rfl) (by kernel_rfl) (by kernel_rfl) (notes_st _) ?_
  refine soft_one (some 6) rfl (Note.eq (.pointer (some ⟨w.heap.size, 0, none⟩))).f (by kernel_rfl) (by kernel_rfl) (fun w1 hc hk => ?_) (fun x1_0 w1 hc hv => ?_)
  · refine soft_at (w1 := w1) (u := .pointer (some ⟨w.heap.size, 0, none⟩)) (fun ρ => (∀ v, ρ (.const v) = v) ∧ ρ (.tmp 1) = .pointer (some ⟨w.heap.size, 0, none⟩)) ⟨fun v => rfl, by kernel_rfl⟩ (fun ρ hρ => ?_) (Chg.refl _ _) rfl; (obtain ⟨g0, g1⟩ := hρ; go_simp)
  obtain rfl : x1_0 = _ := hv
  clear hc w1
  refine soft_one (some 7) rfl (Note.eq (.slice A1 n1 c1)).f (by kernel_rfl) (by kernel_rfl) (fun w1 hc hk => ?_) (fun x1_1 w1 hc hv => ?_)
  · have k0 := cell_at (HBX.out _ hc) 0 rfl; refine soft_at (w1 := w1) (u := .slice A1 n1 c1) (fun ρ => ρ (.tmp 6) = .pointer (some ⟨w.heap.size, 0, none⟩)) (by kernel_rfl) (fun ρ hρ => ?_) (Chg.refl _ _) rfl; go_simp
  obtain rfl : x1_1 = _ := hv
  clear hc w1
  refine soft_one (some 8) rfl (nRow 22 1 n1 w.heap.size (us c.labels)).f (by kernel_rfl) (by kernel_rfl) (fun w1 hc hk => ?_) (fun x1_2 w1 hc hv => ?_)
  · exact soft_call (args := #[.slice A1 n1 c1]) Try.func29 (by kernel_rfl) (by kernel_rfl) rfl (by kernel_rfl) ((plain_any c.labels A1 n1 c1 (HH.out _ (C0.out.trans hc (fun _ _ h => h))).r1 (fun k hk => Nat.lt_of_lt_of_le (HOK.out k hk) (C0.out.trans hc (fun _ _ h => h)).size) f1).mono (fun e w' ⟨v, he, ho, hg⟩ => ⟨v, he, hg, own_base_le ho (fun k hk => Nat.le_trans (C0.out.trans hc (fun _ _ h => h)).size (ho.lt k hk).1)⟩))
  clear hv
  clear hc w1
  refine soft_one (some 9) rfl (Note.eq (.pointer (some ⟨w.heap.size, 2, none⟩))).f (by kernel_rfl) (by kernel_rfl) (fun w1 hc hk => ?_) (fun x1_3 w1 hc hv => ?_)
  · refine soft_at (w1 := w1) (u := .pointer (some ⟨w.heap.size, 2, none⟩)) (fun ρ => (∀ v, ρ (.const v) = v) ∧ ρ (.tmp 1) = .pointer (some ⟨w.heap.size, 0, none⟩)) ⟨fun v => rfl, by kernel_rfl⟩ (fun ρ hρ => ?_) (Chg.refl _ _) rfl; (obtain ⟨g0, g1⟩ := hρ; go_simp)
  obtain rfl : x1_3 = _ := hv
  clear hc w1
  refine soft_one (some 10) rfl (Note.eq (.slice A3 n3 c3)).f (by kernel_rfl) (by kernel_rfl) (fun w1 hc hk => ?_) (fun x1_4 w1 hc hv => ?_)
  · have k0 := cell_at (HBX.out _ hc) 2 rfl; refine soft_at (w1 := w1) (u := .slice A3 n3 c3) (fun ρ => ρ (.tmp 9) = .pointer (some ⟨w.heap.size, 2, none⟩)) (by kernel_rfl) (fun ρ hρ => ?_) (Chg.refl _ _) rfl; go_simp
  obtain rfl : x1_4 = _ := hv
  clear hc w1
  refine soft_one (some 11) rfl (nRow 3 1 n3 w.heap.size (is c.sessions)).f (by kernel_rfl) (by kernel_rfl) (fun w1 hc hk => ?_) (fun x1_5 w1 hc hv => ?_)
  · exact soft_of_list (ops := #[]) 11 rfl (Nat.lt_of_lt_of_eq (by decide : 11 < 42) (by kernel_rfl)) rfl (append_row rfl) (fun Q hQ => ap_src rfl (.const (.slice none 0 0)) (.tmp 10) 30 rfl w.heap.size 3 1 8 (.int .i64 0) Try.underlying30 info_int rfl (by decide) (by decide) (.slice none 0 0) 0 [] rfl (World.ownsRow_nil _ _ _ _) A3 n3 c3 (is c.sessions) (by kernel_rfl) (HH.out _ (C0.out.trans hc (fun _ _ h => h))).r3.any (fun u hu => by obtain ⟨x, -, rfl⟩ := List.mem_map.1 hu; rfl) (by omega) (C0.out.trans hc (fun _ _ h => h)).size (fun v1 w2 o1 g1 _ => wpList_nil (hQ v1 w2 ⟨g1.os, g1.tape, g1.output, g1.size, fun k hk _ => g1.block k hk (fun he => by cases he)⟩ (show w2.ownsRow w.heap.size 3 1 v1 n3 (is c.sessions) from by simpa using o1))))
  clear hv
  clear hc w1
  refine soft_one (some 12) rfl (nOut w.heap.size n1 n3 (us c.labels) (is c.sessions)).f (by kernel_rfl) (by kernel_rfl) (fun w1 hc hk => ?_) (fun x1_6 w1 hc hv => ?_)
  · have r2 : w1.ownsRow w.heap.size 22 1 x1_2 n1 (us c.labels) := known_at hk 2 (nRow 22 1 n1 w.heap.size (us c.labels)).f x1_2 (by kernel_rfl) (by kernel_rfl) (by kernel_rfl); have r5 : w1.ownsRow w.heap.size 3 1 x1_5 n3 (is c.sessions) := known_at hk 5 (nRow 3 1 n3 w.heap.size (is c.sessions)).f x1_5 (by kernel_rfl) (by kernel_rfl) (by kernel_rfl); obtain ⟨B1, d1, e1, -⟩ := Rd.of_own r2; obtain ⟨B3, d3, e3, -⟩ := Rd.of_own r5; subst e1 e3; refine soft_at (w1 := w1) (u := .agg #[.slice B1 n1 d1, .slice none 0 0, .slice B3 n3 d3]) (fun ρ => ρ (.tmp 8) = .slice B1 n1 d1 ∧ ρ (.tmp 11) = .slice B3 n3 d3) ⟨by kernel_rfl, by kernel_rfl⟩ (fun ρ hρ => ?_) (Chg.refl _ _) ⟨_, _, _, _, rfl, r2, r5⟩; (obtain ⟨g1, g2⟩ := hρ; go_simp)
  clear hv
  clear hc w1
  refine soft_one (some 3) rfl (nCell w0.heap.size 40 #[.slice none 0 0, .slice none 0 0, .slice none 0 0]).f (by kernel_rfl) (by kernel_rfl) (fun w1 hc hk => ?_) (fun x1_7 w1 hc hv => ?_)
  · refine soft_at (w1 := w1.alloc (.cells #[.slice none 0 0, .slice none 0 0, .slice none 0 0] 40)) (u := .pointer (some ⟨w1.heap.size, 0, none⟩)) (fun ρ => ∀ v, ρ (.const v) = v) (fun v => rfl) (fun ρ hρ => ?_) ((Chg.refl _ _).alloc _) ⟨_, rfl, hc.size, heap_new _ _⟩; go_simp
  clear hv
  clear hc w1
  intro w4 hc4 hn4
  obtain ⟨B1, d1, B3, d3, e6, g2, g5⟩ : ∃ B1 d1 B3 d3, x1_6 = .agg #[.slice B1 n1 d1, .slice none 0 0, .slice B3 n3 d3] ∧ w4.ownsRow w.heap.size 22 1 (.slice B1 n1 d1) n1 (us c.labels) ∧ w4.ownsRow w.heap.size 3 1 (.slice B3 n3 d3) n3 (is c.sessions) := note_at hn4 6 (nOut w.heap.size n1 n3 (us c.labels) (is c.sessions)).f x1_6 (by kernel_rfl) (by kernel_rfl) (by decide)
  obtain ⟨b3, e7, hb3, hcell⟩ : ∃ b, x1_7 = .pointer (some ⟨b, 0, none⟩) ∧ w0.heap.size ≤ b ∧ w4.heap[b]? = some (.cells #[.slice none 0 0, .slice none 0 0, .slice none 0 0] 40 (0, 0)) := note_at hn4 7 (nCell w0.heap.size 40 #[.slice none 0 0, .slice none 0 0, .slice none 0 0]).f x1_7 (by kernel_rfl) (by kernel_rfl) (by decide)
  subst e7 e6
  clear hn4
  have HG2 : Hid (w4.ownsRow w.heap.size 22 1 (.slice B1 n1 d1) n1 (us c.labels)) := g2
  have HG5 : Hid (w4.ownsRow w.heap.size 3 1 (.slice B3 n3 d3) n3 (is c.sessions)) := g5
  have HN2 : Hid ((Value.slice B1 n1 d1).ownBlock ≠ some b3) := own_type g2 hcell (by decide)
  have HN5 : Hid ((Value.slice B3 n3 d3).ownBlock ≠ some b3) := own_type g5 hcell (by decide)
  have H4 := Lib.hid hc4
  have hs4 := hc4.size
  have o0 := cell_at hcell 0 rfl
  have o1 := cell_at hcell 1 rfl
  have o2 := cell_at hcell 2 rfl
  have o3 := free_at hcell
  have HCell := Lib.hid hcell
  clear g2 g5 hcell hc4
  simp only [List.drop_succ_cons, List.drop_zero]
  simp only [Act.put, List.setIfInBounds_toArray, List.set_cons_succ, List.set_cons_zero]
  go_wp2
  obtain ⟨w5, hw5⟩ : ∃ w5, w5 = ((w4.setCell ⟨b3, 0, none⟩ (.slice B1 n1 d1)).setCell ⟨b3, 1, none⟩ (.slice none 0 0)).setCell ⟨b3, 2, none⟩ (.slice B3 n3 d3) := ⟨_, rfl⟩
  rw [← hw5]
  have c5 : Chg (fun q => q = b3) w4 w5 := by rw [hw5]; exact (((Chg.refl (fun q => q = b3) w4).set (.inr rfl)).set (.inr rfl)).set (.inr rfl)
  have h5 : w5.heap[b3]? = some (.cells #[.slice B1 n1 d1, .slice none 0 0, .slice B3 n3 d3] 40 (0, 0)) := by rw [hw5]; have := heap_set (heap_set (heap_set HCell.out 0 (.slice B1 n1 d1)) 1 (.slice none 0 0)) 2 (.slice B3 n3 d3); simpa using this
  have C5 : Hid (Chg (fun _ => False) w0 w5) := H4.out.trans c5 (fun k hk he => by omega)
  have R1 : Hid (w5.ownsRow w.heap.size 22 1 (.slice B1 n1 d1) n1 (us c.labels)) := own_chg c5 HG2.out (fun k hk he => HN2.out (by rw [hk, he]))
  have R3 : Hid (w5.ownsRow w.heap.size 3 1 (.slice B3 n3 d3) n3 (is c.sessions)) := own_chg c5 HG5.out (fun k hk he => HN5.out (by rw [hk, he]))
  have H5 := Lib.hid h5
  have hz5 : b3 < w5.heap.size := lt_of _ h5
  clear hw5 c5 h5 o0 o1 o2 o3
  go_loopw [4] (fun i wr => AccR w5 b3 (.slice B1 n1 d1) (.slice B3 n3 d3) c i wr) (fun i _ => n2 - (intOf i).toNat)
  case atStart => exact ⟨0, _, Nat.zero_le _, rfl, H5.out, World.ownsRow_nil _ _ _ _, Chg.refl _ _⟩
  case round =>
    obtain ⟨wo, rfl⟩ : ∃ wo : World, wo = wr := ⟨_, rfl⟩
    obtain ⟨j, v, hj, rfl, hb, ho, hc⟩ := hrel
    have hj2 : j ≤ n2 := by have := HL2.out; omega
    have HO := Lib.hid ho
    have HB := Lib.hid hb
    have HC := Lib.hid hc
    have hsz := hc.size
    have hc0 : Chg (fun _ => False) w0 wo := C5.out.trans hc (fun k hk he => by omega)
    have hbx := HBX.out _ hc0
    have hby := HBY.out _ hc0
    have k0 := cell_at hbx 0 rfl
    have k1 := cell_at hbx 1 rfl
    have k2 := cell_at hbx 2 rfl
    have o0 := cell_at hb 0 rfl
    have o1 := cell_at hb 1 rfl
    have o2 := cell_at hb 2 rfl
    have o3 := free_at hb
    have z0 := lt_of _ hb
    obtain ⟨Aw, cw, ew, -⟩ := Rd.of_own ho
    subst ew
    have HC0 := Lib.hid hc0
    have hwo : w.heap.size < wo.heap.size := by have := HS0.out; have := hc0.size; omega
    by_cases hlt : j < n2
    · have hjl : j < c.accounts.length := by have := HL2.out; omega
      have hx : c.accounts[j]? = some c.accounts[j] := List.getElem?_eq_getElem hjl
      obtain ⟨g, off, rfl, hg, hcell⟩ := rd_acs (HH.out _ (C0.out.trans hc0 (fun _ _ h => h))).r2 (by omega)
      obtain ⟨p0, p1, p2, p3, p4⟩ := hcell j hlt
      have hgd : c.accounts.getD j Acc.zero = c.accounts[j] := by rw [List.getD_eq_getElem?_getD, hx]; rfl
      rw [hgd] at p0 p1 p2 p3 p4
      have HX := Lib.hid hx
      generalize c.accounts[j] = x at *
      have hgl : g < wo.heap.size := by have := HOK.out g hg; omega
      clear hcell hx hg hgd hb ho hc hc0 hbx hby hjl
      have i1 : (j : Int) < (n2 : Int) := by omega
      go_wp2_with (at_builtin; refine ap_one' rfl (.tmp 26) (.tmp 38) 38 rfl w5.heap.size 82 5 40 _ Try.underlying38 info_acc rfl (by decide) (by decide) (.slice Aw j cw) j (acs (c.accounts.take j)) rfl ?aO _ _ rfl ?aG rfl ?aR ?aL ?aB ?_; (case aO => exact own_chg ((Chg.refl (fun _ => False) wo).alloc _) HO.out (fun _ _ h => h)); (case aG => simp only [World.size_alloc]); (case aR => intro u hu; simp at hu; rcases hu with rfl | rfl | rfl | rfl | rfl <;> rfl); (case aL => omega); (case aB => simp only [World.size_alloc]; omega); intro v6 w6 o6 g6 _; have cg : Chg (fun q => (Value.slice Aw j cw).ownBlock = some q) wo w6 := ((Chg.refl (fun q => (Value.slice Aw j cw).ownBlock = some q) wo).alloc _).trans ⟨g6.os, g6.tape, g6.output, g6.size, fun k hk hn => g6.block k hk (fun he => hn he.symm)⟩ (fun _ _ h => h); have hb6 := cg.at_ HB.out (fun he => own_type HO.out HB.out (by decide) he); have r1 := cell_at hb6 1 rfl; have r2 := free_at hb6; have z6 := lt_of _ hb6; have HCG := Lib.hid cg; have HB6 := Lib.hid hb6; have HO6 := Lib.hid o6; obtain ⟨A6, c6, e6, -⟩ := Rd.of_own o6; subst e6; clear cg hb6 o6)
      go_roundw
      case rel => exact ⟨j + 1, .slice A6 (j + 1) c6, by have := HL2.out; omega, by go_num, by have := heap_set HB6.out 1 (.slice A6 (j + 1) c6); simpa using this, by rw [acs_take HX.out]; exact own_chg ((Chg.refl (fun q => q = b3) w6).set (.inr rfl)) HO6.out (fun k hk he => own_type HO6.out HB6.out (by decide) (by rw [hk, he])), (HC.out.trans HCG.out (fun q h1 he => by have := (HO.out.lt q he).1; omega)).set (.inr rfl)⟩
      case measure => simp [intOf]; omega
    · have hjn : j = n2 := by omega
      have hby0 := cell_at hby 0 rfl
      have hby1 := cell_at hby 1 rfl
      have hby2 := cell_at hby 2 rfl
      have hbyf := free_at hby
      have HBy := Lib.hid hby
      have zy := lt_of _ hby
      have HF1 : Hid (wo.ownsRow w.heap.size 22 1 (.slice B1 n1 d1) n1 (us c.labels)) := own_chg hc R1.out (fun k hk he => own_type R1.out H5.out (by decide) (by rw [hk, he]))
      have HF3 : Hid (wo.ownsRow w.heap.size 3 1 (.slice B3 n3 d3) n3 (is c.sessions)) := own_chg hc R3.out (fun k hk he => own_type R3.out H5.out (by decide) (by rw [hk, he]))
      have HCf := Lib.hid (C0.out.trans hc0 (fun _ _ h => h))
      clear hb ho hc hc0 hbx hby
      subst hjn
      go_wp2
      refine bodyPost_ret (v := .agg #[.slice B1 n1 d1, .slice Aw j cw, .slice B3 n3 d3]) (by simp [results, Try.results25, go_sem, hby0, hby1, hby2, hbyf]) rfl ?_
      have key : ∀ wf, Chg (fun q => q = w.heap.size + 1) wo wf → CfgAt (fun k => k < wf.heap.size) wf B1 Aw B3 n1 j n3 d1 cw d3 c := by
        intro wf hf
        refine ⟨L1.out, HL2.out, L3.out, rd_own (own_chg hf HF1.out (fun k hk he => own_type HF1.out HBy.out (by decide) (by rw [hk, he]))), ?_, rd_own (own_chg hf HF3.out (fun k hk he => own_type HF3.out HBy.out (by decide) (by rw [hk, he]))), HBig.out, m1, m2, m3⟩
        have h2 := own_chg hf HO.out (fun k hk he => own_type HO.out HBy.out (by decide) (by rw [hk, he]))
        rw [List.take_of_length_le (by rw [HL2.out]; exact Nat.le_refl _)] at h2
        exact rd_own h2
      exact ⟨_, _, _, _, _, _, rfl, key _ ((((Chg.refl (fun q => q = w.heap.size + 1) wo).set (.inr rfl)).set (.inr rfl)).set (.inr rfl)), ((HCf.out.set (.inl (by omega))).set (.inl (by omega))).set (.inl (by omega))⟩
end Go.Proofs.Ytdfplhoijapoeaa.Lcf
