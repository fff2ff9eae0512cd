/- label.Close of labels within a lattice of at most twelve, by contract. Conditions: the row reads so, labels below 2^64. -/
import Derived.Test.YtdfplhoijapoeaaLcv
import Derived.Test.YtdfplhoijapoeaaLwt
set_option linter.unusedVariables false
set_option linter.unusedSimpArgs false
namespace Go.Proofs.Ytdfplhoijapoeaa.Lcl
open Go.RowKit Go.Maps Go.Sort Go.Proofs.Ytdfplhoijapoeaa.Lib1 Go.Proofs.Ytdfplhoijapoeaa.Lat Go.Proofs.Ytdfplhoijapoeaa.Lbl Go.Proofs.Ytdfplhoijapoeaa.Lbw Go.Proofs.Ytdfplhoijapoeaa.Lck Go.Proofs.Ytdfplhoijapoeaa.Ki Go.Proofs.Ytdfplhoijapoeaa.Kj Go.Proofs.Ytdfplhoijapoeaa.Lks Go.Proofs.Ytdfplhoijapoeaa.Lcb Go.Proofs.Ytdfplhoijapoeaa.Lis Go.Proofs.Ytdfplhoijapoeaa.Lcv Go.Proofs.Ytdfplhoijapoeaa.Lwt Go.Proofs.Ytdfplhoijapoeaa.Lkc

/-- The labels that the map has. -/
structure Has (D : DT) (T : List Nat) : Prop where
  tidy : Tidy D
  nodup : T.Nodup
  iff : ∀ x : Nat, has D (kl x) = true ↔ x ∈ T
  size : Maps.size D = T.length
  one : ∀ x ∈ T, ∀ z, D.atKey (kl x) z = o1
theorem has_nil : Has (.map []) [] := ⟨tidy_empty, List.nodup_nil, fun x => by simp [has], rfl, fun x hx => by cases hx⟩
theorem kl_ne {x y : Nat} (h : x ≠ y) : kl x ≠ kl y := fun e => h (by simp only [kl, Lit.int.injEq, true_and] at e; omega)
theorem Has.put {D : DT} {T : List Nat} (h : Has D T) {x : Nat} (hx : x ∉ T) : Has (D.put (kl x) o1) (T ++ [x]) := by
  have hno : has D (kl x) = false := by
    rw [Bool.eq_false_iff]; exact fun e => hx ((h.iff x).1 e)
  refine ⟨h.tidy.put (isKey_kl _) _, ?_, fun y => ?_, ?_, fun y hy z => ?_⟩
  · rw [List.nodup_append]
    exact ⟨h.nodup, by simp, fun a ha b hb e => by
      obtain rfl : b = x := by simpa using hb
      exact hx (e ▸ ha)⟩
  · rw [List.mem_append, List.mem_singleton]
    by_cases e : y = x
    · subst e; simp only [has_put_same h.tidy.isMap (isKey_kl _), or_true]
    · rw [has_put_other (kl_ne e), h.iff y]
      exact ⟨.inl, fun h' => h'.elim id (fun h' => absurd h' e)⟩
  · rw [size_put h.tidy, hno, h.size]; simp
  · by_cases e : y = x
    · subst e; exact atKey_put_same h.tidy.isMap (isKey_kl _) _ _
    · rw [atKey_put_other (kl_ne e)]
      exact h.one y ((List.mem_append.1 hy).elim id (fun h' => absurd (by simpa using h') e)) z

/-- Between two rounds: T is there, L waits. -/
structure Inv (C ls T L : List Nat) : Prop where
  subT : ∀ x ∈ T, x ∈ C
  subL : ∀ x ∈ L, x ∈ C
  cov : ∀ x ∈ ls, x ∈ T ∨ x ∈ L
  clo : ∀ x ∈ T, ∀ y ∈ T, ((x ||| y) ∈ T ∨ (x ||| y) ∈ L) ∧ ((x &&& y) ∈ T ∨ (x &&& y) ∈ L)
def Cl (C : List Nat) : Prop := ∀ x ∈ C, ∀ y ∈ C, (x ||| y) ∈ C ∧ (x &&& y) ∈ C
/-- What x brings with it. -/
def brings (x : Nat) (ss : List Nat) : List Nat := ss.flatMap fun y => [x ||| y, x &&& y]
theorem brings_len (x : Nat) (ss : List Nat) : (brings x ss).length = 2 * ss.length := by
  induction ss with
  | nil => rfl
  | cons y ss ih => simp only [brings, List.flatMap_cons, List.length_append, List.length_cons, List.length_nil] at ih ⊢; omega
theorem brings_snoc (x : Nat) (ss : List Nat) (y : Nat) : brings x (ss ++ [y]) = brings x ss ++ [x ||| y, x &&& y] := by simp [brings]
theorem Inv.skip {C ls T L : List Nat} {x : Nat} (h : Inv C ls T (x :: L)) (hx : x ∈ T) : Inv C ls T L := by
  have g : ∀ y, y ∈ T ∨ y ∈ x :: L → y ∈ T ∨ y ∈ L := fun y hy => by
    rcases hy with hy | hy
    · exact .inl hy
    · rcases List.mem_cons.1 hy with rfl | hy
      · exact .inl hx
      · exact .inr hy
  exact ⟨h.subT, fun y hy => h.subL y (List.mem_cons_of_mem _ hy), fun y hy => g y (h.cov y hy), fun y hy z hz => ⟨g _ (h.clo y hy z hz).1, g _ (h.clo y hy z hz).2⟩⟩
theorem Inv.take {C ls T L ss : List Nat} {x : Nat} (h : Inv C ls T (x :: L)) (hC : Cl C) (hs : ∀ y, y ∈ ss ↔ y ∈ T) : Inv C ls (T ++ [x]) (L ++ brings x ss) := by
  have hxC := h.subL x (List.mem_cons_self ..)
  have hb : ∀ y ∈ T, (x ||| y) ∈ brings x ss ∧ (x &&& y) ∈ brings x ss := fun y hy => by
    have := (hs y).2 hy
    unfold brings
    exact ⟨List.mem_flatMap.2 ⟨y, this, by simp⟩, List.mem_flatMap.2 ⟨y, this, by simp⟩⟩
  have g : ∀ y, y ∈ T ∨ y ∈ x :: L → y ∈ T ++ [x] ∨ y ∈ L ++ brings x ss := fun y hy => by
    rcases hy with hy | hy
    · exact .inl (List.mem_append_left _ hy)
    · rcases List.mem_cons.1 hy with rfl | hy
      · exact .inl (by simp)
      · exact .inr (List.mem_append_left _ hy)
  refine ⟨fun y hy => ?_, fun y hy => ?_, fun y hy => g y (h.cov y hy), fun y hy z hz => ?_⟩
  · rcases List.mem_append.1 hy with hy | hy
    · exact h.subT y hy
    · obtain rfl : y = x := by simpa using hy
      exact hxC
  · rcases List.mem_append.1 hy with hy | hy
    · exact h.subL y (List.mem_cons_of_mem _ hy)
    · unfold brings at hy
      obtain ⟨z, hz, hyz⟩ := List.mem_flatMap.1 hy
      have hzC := h.subT z ((hs z).1 hz)
      rcases List.mem_cons.1 hyz with rfl | hyz
      · exact (hC x hxC z hzC).1
      · obtain rfl : y = x &&& z := by simpa using hyz
        exact (hC x hxC z hzC).2
  · rcases List.mem_append.1 hy with hy1 | hy1 <;> rcases List.mem_append.1 hz with hz1 | hz1
    · exact ⟨g _ (h.clo y hy1 z hz1).1, g _ (h.clo y hy1 z hz1).2⟩
    · obtain rfl : z = x := by simpa using hz1
      rw [Nat.or_comm, Nat.and_comm]
      exact ⟨.inr (List.mem_append_right _ (hb y hy1).1), .inr (List.mem_append_right _ (hb y hy1).2)⟩
    · obtain rfl : y = x := by simpa using hy1
      exact ⟨.inr (List.mem_append_right _ (hb z hz1).1), .inr (List.mem_append_right _ (hb z hz1).2)⟩
    · obtain rfl : y = x := by simpa using hy1
      obtain rfl : z = y := by simpa using hz1
      rw [Nat.or_self, Nat.and_self]
      exact ⟨.inl (by simp), .inl (by simp)⟩
theorem len_le : ∀ (T C : List Nat), T.Nodup → (∀ x ∈ T, x ∈ C) → T.length ≤ C.length
  | [], C, _, _ => Nat.zero_le _
  | x :: T, C, hn, hs => by
    have hx := hs x (List.mem_cons_self ..)
    have h2 := List.nodup_cons.1 hn
    have ih := len_le T (C.erase x) h2.2 (fun y hy => (List.mem_erase_of_ne (fun e => by subst e; exact h2.1 hy)).2 (hs y (List.mem_cons_of_mem _ hy)))
    have := List.length_erase_of_mem hx
    have : 0 < C.length := List.length_pos_of_mem hx
    simp only [List.length_cons]
    omega

/-- How many keys the map in a block has; how long a slice is. -/
def msz (w : World) (b : Nat) : Nat := match w.heap[b]? with | some (.map es _) => es.size | _ => 0
def vlen : Value → Nat | .slice _ n _ => n | _ => 0
theorem msz_own {w : World} {k : TypeId} {R : Value → Option (DT × List MemPlace)} {b n : Nat} {D : DT} (h : w.ownsMap Try.prog k R b n D) : msz w b = Maps.size D := by
  obtain ⟨es, clock, hb, _, _, rfl⟩ := h
  simp [msz, hb, Maps.size, length_sorted]
theorem mem64 {C : List Nat} (h : ∀ x ∈ C, x < B64) {x : Nat} (hx : x ∈ C) : x < B64 := h x hx
set_option maxRecDepth 100000 in
set_option maxHeartbeats 4000000 in
theorem close_in (C ls : List Nat) (A : Option Addr) (n c : Nat) (w : World) (h : Rd (fun k => k < w.heap.size) w A n c 1 (us ls)) (h1 : 1 ≤ n) (hn : n ≤ 12) (hC : Cl C) (hC12 : C.length ≤ 12) (hC64 : ∀ x ∈ C, x < B64) (hls : ∀ x ∈ ls, x ∈ C) :
    Calls Try.prog 36 #[.slice A n c] w fun e w' => ∃ g c2 cs, e = .returned (.tuple #[.slice (some ⟨g, 0, none⟩) cs.length c2, .int .i64 0]) ∧ Srt cs cs.length ∧ cs.Nodup ∧ (∀ x ∈ ls, x ∈ cs) ∧ (∀ x ∈ cs, x ∈ C) ∧ Cl cs ∧ Rd (fun k => k = g) w' (some ⟨g, 0, none⟩) cs.length c2 1 (us cs) ∧ w.heap.size ≤ g ∧ Chg (fun _ => False) w w' := by
  have HL : Hid (ls.length = n) := by have := h.len; rw [us_len] at this; show _ = _; omega
  have hmm := @run_makeMap Try.prog
  obtain ⟨i0, hi0, hzz⟩ := Option.map_eq_some_iff.1 infoL
  simp only [Prod.mk.injEq] at hzz
  obtain ⟨b, off, rfl, hbs, hc⟩ := rd_us h (by omega)
  have hcap := h.cap
  have HR := Lib.hid h
  clear h hc
  have HC := Lib.hid hC
  have H64 := Lib.hid hC64
  have HLS := Lib.hid hls
  clear hC hC64 hls
  go_enter Try.func36, Try.ntmps36
  have hsrc : Hid (∀ j u, (us ls)[j]? = some u → (w.alloc (.map #[] 0)).cell? ((⟨b, off, none⟩ : Addr).add j) = some u) := fun j u hu => by
    have hn0 : 0 < n := by omega
    obtain ⟨b', off', e, hb', hcc⟩ := HR.out.at_ hn0
    cases e
    rw [add_off]
    exact (World.cell?_of_block (Below.heap_alloc _ _ _ hb')).trans (hcc j u hu)
  have hone : Hid (∀ u ∈ us ls, u.oneCell' = true) := fun u hu => by
    unfold us at hu
    obtain ⟨x, _, rfl⟩ := List.mem_map.1 hu
    rfl
  have hlen : Hid ((us ls).length = n) := by show _ = _; rw [us_len]; exact HL.out
  have hok0 : Hid (∀ k, (w.alloc (.map #[] 0)).heap.size ≤ k → w.heap.size < k) := fun k hk => by simp at hk; omega
  go_wp2_with (first
    | (at_builtin; refine wt_app rfl (Operand.const (.slice none 0 0)) (.tmp 9) 28 rfl 23 8 (.int .u64 0) Try.underlying28 infoL rfl (by decide) rfl (Wt.nil (fun k => w.heap.size < k) _) ⟨b, off, none⟩ n c (us ls) rfl (by omega) hlen.out hsrc.out hone.out (by omega) hok0.out ?_; intro A1 c1 w1 row1 hW1 hg1 hr1)
    | go_in)
  have hm0 : w1.ownsMap Try.prog KL RI w.heap.size 0 (.map []) := (World.ownsMap_made _ _ _ _).kept hg1 (fun e => absurd (hr1 _ e.symm) (Nat.lt_irrefl _))
  have hch1 : Chg (fun _ => False) w w1 := ((Chg.refl _ w).alloc _).of_grown hg1 (fun k hk => .inl (Nat.le_of_lt (hr1 k hk)))
  have HW1 := Lib.hid hW1
  clear hW1 hg1 hr1 hsrc hone hlen hok0
  go_wp2
  go_loopw [5] (fun v wr => ∃ (A' : Option Addr) (c' : Nat) (L T : List Nat) (D : DT), v = .slice A' L.length c' ∧ Wt (fun k => w.heap.size < k) wr A' L.length c' (us L) ∧ wr.ownsMap Try.prog KL RI w.heap.size T.length D ∧ Has D T ∧ Inv C ls T L ∧ Chg (fun _ => False) w wr ∧ L.length ≤ 12 + 24 * T.length)
    (fun v wr => (16 - msz wr w.heap.size) * 64 + vlen v)
  case atStart =>
    refine ⟨A1, c1, ls, [], _, by rw [HL.out], ?_, hm0, has_nil, ⟨fun x hx => (by cases hx), HLS.out, fun x hx => .inr hx, fun x hx => (by cases hx)⟩, hch1, by rw [HL.out]; omega⟩
    have := HW1.out
    rw [Nat.zero_add, List.nil_append] at this
    rw [HL.out]; exact this
  case round =>
    obtain ⟨A2, c2, L, T, D, rfl, hWt, hown, hH, hI, hch, hLb⟩ := hrel
    obtain ⟨wo, hwo⟩ : ∃ wo, wo = wr := ⟨_, rfl⟩
    subst hwo
    have HO := Lib.hid hown
    have HH := Lib.hid hH
    have HI := Lib.hid hI
    have HG := Lib.hid hch
    have HSZ : Hid (msz wo w.heap.size = T.length) := by show _ = _; rw [msz_own hown, hH.size]
    have hT12 : T.length ≤ 12 := by have := len_le T C hH.nodup hI.subT; omega
    clear hown hH hI hch hm0 hch1 HW1
    cases L with
    | nil =>
      have hLn := HL.out
      have hmT : ls.getD 0 0 ∈ T := by
        refine (HI.out.cov _ ?_).elim id (fun h => by cases h)
        rw [List.getD_eq_getElem?_getD, List.getElem?_eq_getElem (by omega)]; simp
      have hTp : 0 < T.length := List.length_pos_of_mem hmT
      have hz0 : (((Maps.size D : Nat) : Int) == 0) = false := by rw [beq_eq_false_iff_ne, HH.out.size]; omega
      obtain ⟨bm, hbm⟩ : ∃ bm, bm = wo.heap.size := ⟨_, rfl⟩
      have HS := Lib.hid (sorted_any bm w.heap.size T.length D (wo.alloc (.cells #[.map (some w.heap.size)] 87)) (by rw [hbm]; exact cell_at (heap_new wo _) 0 rfl) (HO.out.alloc _) (by have := HH.out.size; omega) (ls.getD 0 0) ((HH.out.iff _).2 hmT))
      unfold keysF at HS
      have HMT := Lib.hid hmT
      clear hmT hLn
      rw [List.length_nil]
      go_wp2_with (at_len; refine wpList_len_own _ rfl _ 87 rfl 23 3 Try.underlying87 _ w.heap.size T.length _ rfl HO.out ?_)
      refine (keys_any _ _).mono ?_
      rintro e w1 ⟨rfl, rfl⟩
      rw [← hbm]
      have hbw : w.heap.size ≤ bm := by rw [hbm]; exact HG.out.size
      clear hbm
      go_wp2_with fail
      refine HS.out.mono ?_
      clear HS
      rintro e w2 ⟨v, rfl, g, cg, cs, rfl, hk2, hs2, hr2, hg2, hch2⟩
      have hW : Chg (fun _ => False) w w2 := (HG.out.alloc _).trans hch2 (fun _ _ h => h)
      have hcs : ∀ x, x ∈ cs ↔ x ∈ T := fun x => (hk2.1.2 x).trans (HH.out.iff x)
      have hgw : w.heap.size ≤ g := by simp at hg2; have := HG.out.size; omega
      have HF := Lib.hid (⟨hs2, hk2.1.1, fun x hx => (hcs x).2 ((HI.out.cov x hx).elim id (fun h => by cases h)), fun x hx => HI.out.subT x ((hcs x).1 hx),
        fun x hx y hy => ⟨(hcs _).2 ((HI.out.clo x ((hcs x).1 hx) y ((hcs y).1 hy)).1.elim id (fun h => by cases h)), (hcs _).2 ((HI.out.clo x ((hcs x).1 hx) y ((hcs y).1 hy)).2.elim id (fun h => by cases h))⟩, hr2, hgw, hW⟩ :
        Srt cs cs.length ∧ cs.Nodup ∧ (∀ x ∈ ls, x ∈ cs) ∧ (∀ x ∈ cs, x ∈ C) ∧ Cl cs ∧ Rd (fun k => k = g) w2 (some ⟨g, 0, none⟩) cs.length cg 1 (us cs) ∧ w.heap.size ≤ g ∧ Chg (fun _ => False) w w2)
      clear hk2 hs2 hr2 hg2 hch2 hW hcs hgw
      go_wp2
      exact bodyPost_ret (v := .tuple #[.slice (some ⟨g, 0, none⟩) cs.length cg, .int .i64 0]) (by simp [results, Try.results36, go_sem]) rfl ⟨g, cg, cs, rfl, HF.out⟩
    | cons x L' =>
      have hWc : Wt (fun k => w.heap.size < k) wo A2 (L'.length + 1) c2 (.int .u64 (x : Int) :: us L') := hWt
      rw [List.length_cons]
      clear hWt
      obtain ⟨m, hm⟩ : ∃ m, m = L'.length := ⟨_, rfl⟩
      rw [← hm] at hWc ⊢
      have HM := Lib.hid hm
      clear hm
      obtain ⟨g, o', rfl, hx⟩ := hWc.head
      have hx64 : x < B64 := H64.out x (HI.out.subL x (List.mem_cons_self ..))
      obtain ⟨A3, hcut, hW3⟩ := hWc.cut (P := Try.prog) 28 23 .i64 Try.underlying28 hi0 hzz.2.1
      rw [Nat.add_sub_cancel] at hcut hW3
      have hcp := hWc.cap
      have i1 : decide ((0 : Int) < (m : Int) + 1) = true := decide_eq_true (by omega)
      have HW3 := Lib.hid hW3
      clear hW3 hWc
      obtain ⟨cc, hrun, hat, -⟩ := HO.out.lookup_int (int_keyed uL) Try.underlying87 uI (zeroI _) (key_of hx64)
      by_cases hxT : x ∈ T
      · have hcc : cc = 1 := by
          rw [HH.out.one x hxT] at hat
          simpa [o1] using hat.symm
        subst hcc
        clear hat
        have HXT := Lib.hid hxT
        clear hxT
        go_wp2
        go_roundw
        case rel => exact ⟨A3, c2 - 1, L', T, D, by rw [HM.out], by rw [← HM.out]; exact HW3.out, HO.out, HH.out, HI.out.skip HXT.out, HG.out, by simp only [List.length_cons] at hLb; omega⟩
        case measure => simp [vlen]
      · have hcc : cc = 0 := by
          have hno : has D (kl x) = false := by rw [Bool.eq_false_iff]; exact fun e => hxT ((HH.out.iff x).1 e)
          rw [atKey_of_not_has hno] at hat
          simpa using hat.symm
        subst hcc
        clear hat
        have HXT := Lib.hid hxT
        clear hxT
        go_wp2_with (first
          | (at_range; refine wpList_range_own _ rfl _ 87 rfl 23 3 (int_keyed uL) Try.underlying87 _ w.heap.size T.length _ rfl HO.out ?_; intro w0 hrg0 hg0 hs0)
          | go_in)
        go_frame
        obtain ⟨r, hr⟩ : ∃ r, wo.heap.size = r := ⟨_, rfl⟩
        rw [hr] at hrg0 ⊢
        have hwr : w.heap.size < r := by rw [← hr]; exact HO.out.lt
        have hW0 : Hid (Wt (fun k => w.heap.size < k ∧ k ≠ r) w0 A3 m (c2 - 1) (us L')) := (HW3.out.mono (fun k hk ho => ⟨ho, by rw [← hr]; omega⟩)).keep (fun k _ hk => hg0.block k hk (by simp))
        go_loopw [5] (fun v wr => ∃ (A' : Option Addr) (c' : Nat) (ss : List Nat) (left : Lit → Bool) (cnt : Nat), v = .slice A' (m + 2 * ss.length) c' ∧ Wt (fun k => w.heap.size < k ∧ k ≠ r) wr A' (m + 2 * ss.length) c' (us (L' ++ brings x ss)) ∧
            wr.ranges Try.prog KL RI w.heap.size r T.length D left cnt ∧ Come D left ss ∧ ss.length + cnt ≤ Maps.size D ∧ Chg (fun _ => False) w wr)
          (fun _ wr => wr.rangeLeft w.heap.size r)
        case atStart => exact ⟨A3, c2 - 1, [], _, _, rfl, by simpa [brings] using hW0.out, hrg0, come_nil D, by simp, HG.out.of_grown hg0 (fun k hk => by cases hk)⟩
        case round =>
          clear hW0 hrg0 hg0 hs0 hr HW3 hcut
          clear w0
          obtain ⟨A4, c4, ss, left, cnt, rfl, hWt, hrg, hCm, hcs, hch⟩ := hrel
          obtain ⟨wi, hwi⟩ : ∃ wi, wi = wr := ⟨_, rfl⟩
          subst hwi
          have hssl : ss.length ≤ 12 := by have := HH.out.size; omega
          have HWt := Lib.hid hWt
          have HRG := Lib.hid hrg
          have HCm := Lib.hid hCm
          have HCH := Lib.hid hch
          clear hWt hrg hCm hch
          go_wp2_with (first
            | (at_next; refine wpList_next_ranges _ rfl _ rfl 23 (int_keyed uL) RI lab id (fun key l hk => by obtain ⟨x, hx, _⟩ := key_lab uL hk; exact ⟨x, hx⟩) (fun v _ _ => ⟨v, rfl⟩) w.heap.size r T.length _ _ _ rfl HRG.out ?_ ?_)
            | go_in)
          · intro hc0 hl0
            have hCA := HCm.out.all hl0
            have hmm2 : ∀ y, y ∈ ss ↔ y ∈ T := fun y => (hCA.2 y).trans (HH.out.iff y)
            have HI2 := Lib.hid (HI.out.take HC.out hmm2)
            have HO2 := Lib.hid HRG.out.owns
            have HH2 := Lib.hid (HH.out.put HXT.out)
            obtain ⟨D2, hD2⟩ : ∃ D2, D2 = D.put (kl x) o1 := ⟨_, rfl⟩
            rw [← hD2] at HH2
            have hT2 : (T ++ [x]).length ≤ 12 := by have := len_le (T ++ [x]) C HH2.out.nodup HI2.out.subT; omega
            have hz : decide ((16 : Int) < ((Maps.size D2 : Nat) : Int)) = false := decide_eq_false (by rw [HH2.out.size]; omega)
            have HD2 := Lib.hid hD2
            have HT2 := Lib.hid hT2
            clear hCA hmm2 hD2 hT2
            go_wp2_with (first
              | (at_mapUpdate; refine wpList_mapUpdate_own _ rfl _ _ _ 87 rfl 23 3 (int_keyed uL) Try.underlying87 _ w.heap.size T.length _ rfl HO2.out (by unfold maxLen; omega) _ _ _ rfl rfl (key_of hx64) o1 [] (plainElem_int uI (by decide)) ?_; intro w3 hown3 hgrow3; rw [← HD2.out] at hown3)
              | (at_len; refine wpList_len_own _ rfl _ 87 rfl 23 3 Try.underlying87 _ w.heap.size (T.length + 1) _ rfl hown3 ?_)
              | go_in)
            go_roundw
            case rel => exact ⟨A4, c4, L' ++ brings x ss, T ++ [x], D2, by rw [List.length_append, brings_len, HM.out], by rw [List.length_append, brings_len, ← HM.out]; exact (HWt.out.keep (fun k ho hk => hgrow3.block k hk (fun e => by have := Option.some.inj e; omega))).mono (fun k _ ho => ho.1), by rw [List.length_append]; exact hown3, HH2.out, HI2.out, HCH.out.of_grown hgrow3 (fun k hk => by cases hk; exact .inl (Nat.le_refl _)), by simp only [List.length_cons] at hLb; rw [List.length_append, List.length_append, brings_len, List.length_cons, List.length_nil]; have := HH.out.size; omega⟩
            case measure =>
              have e1 := msz_own hown3
              have e2 := HSZ.out
              have e3 := HH2.out.size
              have e4 := HT2.out
              rw [List.length_append, List.length_cons, List.length_nil] at e3 e4
              simp only [vlen]
              rw [e1, e2, e3]
              omega
          · intro y cv l' yd yp w2 cnt2 hkey hlk hv hat hrg2 hlt hg2 hs2 hen
            obtain ⟨y', ey, rfl, hy64⟩ := key_lab uL hkey
            obtain rfl : y = y' := lab_inj ey
            have HC2 := Lib.hid (HCm.out.one hlk hat)
            have HRG2 := Lib.hid hrg2
            have HLT := Lib.hid hlt
            have HCH2 := Lib.hid (HCH.out.of_grown hg2 (fun k hk => by cases hk; exact .inl (by have := HG.out.size; omega)))
            have HWA : Hid (Wt (fun k => w.heap.size < k ∧ k ≠ r) (w2.alloc (.cells #[.int .u64 ((x ||| y : Nat) : Int), .int .u64 ((x &&& y : Nat) : Int)] 23)) A4 (m + 2 * ss.length) c4 (us (L' ++ brings x ss))) :=
              (HWt.out.keep (fun k ho hk => hg2.block k hk (fun e => ho.2 (Option.some.inj e)))).keep (fun k _ hk => Below.heap_alloc _ _ _ hk)
            have hrs : r < w2.heap.size := by rw [hs2]; exact HRG.out.lt
            have HSA : Hid (∀ j u, [Value.int .u64 ((x ||| y : Nat) : Int), .int .u64 ((x &&& y : Nat) : Int)][j]? = some u → (w2.alloc (.cells #[.int .u64 ((x ||| y : Nat) : Int), .int .u64 ((x &&& y : Nat) : Int)] 23)).cell? ((⟨w2.heap.size, 0, none⟩ : Addr).add j) = some u) := fun j u hu => by
              rw [add_off, Nat.zero_add]
              exact cell_at (heap_new w2 _) j (by simpa using hu)
            have HON : Hid (∀ u ∈ [Value.int .u64 ((x ||| y : Nat) : Int), .int .u64 ((x &&& y : Nat) : Int)], u.oneCell' = true) := fun u hu => by
              rcases List.mem_cons.1 hu with rfl | hu
              · rfl
              · obtain rfl : u = _ := by simpa using hu
                rfl
            have HOK : Hid (∀ k, (w2.alloc (.cells #[.int .u64 ((x ||| y : Nat) : Int), .int .u64 ((x &&& y : Nat) : Int)] 23)).heap.size ≤ k → w.heap.size < k ∧ k ≠ r) := fun k hk => by simp at hk; omega
            clear hkey hlk hv hat hrg2 hlt hg2 hs2 ey
            go_wp2_with fail
            refine (join_any x y _ hx64 hy64).mono ?_
            rintro e wj ⟨rfl, rfl⟩
            go_wp2_with fail
            refine (meet_any x y _ hx64 hy64).mono ?_
            rintro e wj ⟨rfl, rfl⟩
            go_wp2_with (first
              | (at_builtin; refine wt_app rfl (.tmp 29) (.tmp 36) 28 rfl 23 8 (.int .u64 0) Try.underlying28 infoL rfl (by decide) rfl HWA.out ⟨w2.heap.size, 0, none⟩ 2 2 _ rfl (by omega) rfl HSA.out HON.out (by simp only [List.length_cons] at hLb; have := HM.out; omega) HOK.out ?_; intro A5 c5 w5 row5 hW5 hg5 hr5)
              | go_in)
            have hgT := World.grownBy.trans (World.grownBy_alloc w2 (.cells #[.int .u64 ((x ||| y : Nat) : Int), .int .u64 ((x &&& y : Nat) : Int)] 23) row5) hg5
            have hrg5 := HRG2.out.kept hgT (fun e => absurd (hr5 _ e.symm).1 (Nat.lt_irrefl _)) (fun e => (hr5 _ e.symm).2 rfl)
            have hus : us (L' ++ brings x (ss ++ [y])) = us (L' ++ brings x ss) ++ [Value.int .u64 ((x ||| y : Nat) : Int), .int .u64 ((x &&& y : Nat) : Int)] := by
              rw [brings_snoc, ← List.append_assoc]
              simp [us]
            have hln : m + 2 * ss.length + 2 = m + 2 * (ss ++ [y]).length := by rw [List.length_append, List.length_cons, List.length_nil]; omega
            have HT5 := Lib.hid (⟨hrg5, hW5, hus, hln, HCH2.out.of_grown hgT (fun k hk => .inl (Nat.le_of_lt (hr5 k hk).1))⟩ : _ ∧ _ ∧ _ ∧ _ ∧ _)
            clear hrg5 hW5 hus hln hgT hg5 hr5
            go_roundw
            case rel => exact ⟨A5, c5, ss ++ [y], _, cnt2, by rw [← HT5.out.2.2.2.1], by rw [← HT5.out.2.2.2.1, HT5.out.2.2.1]; exact HT5.out.2.1, HT5.out.1, HC2.out, by rw [List.length_append, List.length_cons, List.length_nil]; have := HLT.out; omega, HT5.out.2.2.2.2⟩
            case measure => rw [HT5.out.1.left_eq, HRG.out.left_eq]; exact HLT.out
end Go.Proofs.Ytdfplhoijapoeaa.Lcl
