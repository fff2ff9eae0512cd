/- label.Close of every list, by contract. Conditions: the row reads so, labels below 2^64. -/
import Derived.Test.YtdfplhoijapoeaaSj
import Derived.Test.YtdfplhoijapoeaaLcl
set_option linter.unusedVariables false
set_option linter.unusedSimpArgs false
namespace Go.Proofs.Ytdfplhoijapoeaa.Lcm
open Go.RowKit Go.Maps Go.Sort Go.Proofs.Ytdfplhoijapoeaa.Lib1 Go.Proofs.Ytdfplhoijapoeaa.Lat Go.Proofs.Ytdfplhoijapoeaa.Lbl Go.Proofs.Ytdfplhoijapoeaa.Lbw Go.Proofs.Ytdfplhoijapoeaa.Lck Go.Proofs.Ytdfplhoijapoeaa.Ki Go.Proofs.Ytdfplhoijapoeaa.Kj Go.Proofs.Ytdfplhoijapoeaa.Lks Go.Proofs.Ytdfplhoijapoeaa.Lcb Go.Proofs.Ytdfplhoijapoeaa.Lis Go.Proofs.Ytdfplhoijapoeaa.Lcv Go.Proofs.Ytdfplhoijapoeaa.Lwt Go.Proofs.Ytdfplhoijapoeaa.Lkc Go.Proofs.Ytdfplhoijapoeaa.Lcl Go.Proofs.Ytdfplhoijapoeaa.Lsj

/-- x is in every lattice that has all of ls. -/
def Gen (ls : List Nat) (x : Nat) : Prop := ∀ C : Nat → Prop, (∀ y ∈ ls, C y) → (∀ a b, C a → C b → C (a ||| b) ∧ C (a &&& b)) → C x
theorem gen_base {ls : List Nat} {x : Nat} (h : x ∈ ls) : Gen ls x := fun C h1 _ => h1 x h
theorem gen_or {ls : List Nat} {x y : Nat} (h : Gen ls x) (g : Gen ls y) : Gen ls (x ||| y) := fun C h1 h2 => (h2 _ _ (h C h1 h2) (g C h1 h2)).1
theorem gen_and {ls : List Nat} {x y : Nat} (h : Gen ls x) (g : Gen ls y) : Gen ls (x &&& y) := fun C h1 h2 => (h2 _ _ (h C h1 h2) (g C h1 h2)).2
theorem gen_64 {ls : List Nat} {x : Nat} (hl : ∀ y ∈ ls, y < B64) (h : Gen ls x) : x < B64 := h (· < B64) hl (fun a b ha hb => ⟨lt_or a b ha hb, lt_and a b ha⟩)
/-- Seventeen of them. -/
def Big (ls : List Nat) : Prop := ∃ T : List Nat, T.Nodup ∧ 17 ≤ T.length ∧ ∀ x ∈ T, Gen ls x
/-- All of them, in order. -/
structure IsCl (ls cs : List Nat) : Prop where
  srt : Srt cs cs.length
  nodup : cs.Nodup
  iff : ∀ x, x ∈ cs ↔ Gen ls x
  few : cs.length ≤ 16
theorem IsCl.not_big {ls cs : List Nat} (h : IsCl ls cs) (hb : Big ls) : False := by
  obtain ⟨T, h1, h2, h3⟩ := hb
  have := len_le T cs h1 (fun x hx => (h.iff x).2 (h3 x hx))
  have := h.few
  omega
theorem srt_unique {ds es : List Nat} (ha : Srt ds ds.length) (hb : Srt es es.length) (na : ds.Nodup) (nb : es.Nodup) (h : ∀ x, x ∈ ds ↔ x ∈ es) : ds = es := by
  have pw : ∀ cs : List Nat, Srt cs cs.length → cs.Pairwise (fun a b => a ≤ b) := fun cs hs => by
    rw [List.pairwise_iff_getElem]
    intro i j hi hj hij
    have := hs i j hij hj
    rwa [List.getD_eq_getElem?_getD, List.getD_eq_getElem?_getD, List.getElem?_eq_getElem hi, List.getElem?_eq_getElem hj] at this
  exact List.Perm.eq_of_pairwise (le := fun a b => a ≤ b) (fun a b _ _ h h' => Nat.le_antisymm h h') (pw ds ha) (pw es hb) ((List.perm_ext_iff_of_nodup na nb).2 h)
theorem IsCl.unique {ls ds es : List Nat} (ha : IsCl ls ds) (hb : IsCl ls es) : ds = es :=
  srt_unique ha.srt hb.srt ha.nodup hb.nodup (fun x => (ha.iff x).trans (hb.iff x).symm)

/-- Between two rounds: T is there, L waits. -/
structure Inv (ls T L : List Nat) : Prop where
  genT : ∀ x ∈ T, Gen ls x
  genL : ∀ x ∈ L, Gen ls x
  cov : ∀ x ∈ ls, x ∈ T ∨ x ∈ L
  clo : ∀ x ∈ T, ∀ y ∈ T, ((x ||| y) ∈ T ∨ (x ||| y) ∈ L) ∧ ((x &&& y) ∈ T ∨ (x &&& y) ∈ L)
theorem Inv.skip {ls T L : List Nat} {x : Nat} (h : Inv ls T (x :: L)) (hx : x ∈ T) : Inv ls T L := by
  have g : ∀ y, y ∈ T ∨ y ∈ x :: L → y ∈ T ∨ y ∈ L := fun y hy => by
    rcases hy with hy | hy
    · exact .inl hy
    · rcases List.mem_cons.1 hy with rfl | hy
      · exact .inl hx
      · exact .inr hy
  exact ⟨h.genT, fun y hy => h.genL y (List.mem_cons_of_mem _ hy), fun y hy => g y (h.cov y hy), fun y hy z hz => ⟨g _ (h.clo y hy z hz).1, g _ (h.clo y hy z hz).2⟩⟩
theorem Inv.take {ls T L ss : List Nat} {x : Nat} (h : Inv ls T (x :: L)) (hs : ∀ y, y ∈ ss ↔ y ∈ T) : Inv ls (T ++ [x]) (L ++ brings x ss) := by
  have hxC := h.genL x (List.mem_cons_self ..)
  have hb : ∀ y ∈ T, (x ||| y) ∈ brings x ss ∧ (x &&& y) ∈ brings x ss := fun y hy => by
    have := (hs y).2 hy
    unfold brings
    exact ⟨List.mem_flatMap.2 ⟨y, this, by simp⟩, List.mem_flatMap.2 ⟨y, this, by simp⟩⟩
  have g : ∀ y, y ∈ T ∨ y ∈ x :: L → y ∈ T ++ [x] ∨ y ∈ L ++ brings x ss := fun y hy => by
    rcases hy with hy | hy
    · exact .inl (List.mem_append_left _ hy)
    · rcases List.mem_cons.1 hy with rfl | hy
      · exact .inl (by simp)
      · exact .inr (List.mem_append_left _ hy)
  refine ⟨fun y hy => ?_, fun y hy => ?_, fun y hy => g y (h.cov y hy), fun y hy z hz => ?_⟩
  · rcases List.mem_append.1 hy with hy | hy
    · exact h.genT y hy
    · obtain rfl : y = x := by simpa using hy
      exact hxC
  · rcases List.mem_append.1 hy with hy | hy
    · exact h.genL y (List.mem_cons_of_mem _ hy)
    · unfold brings at hy
      obtain ⟨z, hz, hyz⟩ := List.mem_flatMap.1 hy
      have hzC := h.genT z ((hs z).1 hz)
      rcases List.mem_cons.1 hyz with rfl | hyz
      · exact gen_or hxC hzC
      · obtain rfl : y = x &&& z := by simpa using hyz
        exact gen_and hxC hzC
  · rcases List.mem_append.1 hy with hy1 | hy1 <;> rcases List.mem_append.1 hz with hz1 | hz1
    · exact ⟨g _ (h.clo y hy1 z hz1).1, g _ (h.clo y hy1 z hz1).2⟩
    · obtain rfl : z = x := by simpa using hz1
      rw [Nat.or_comm, Nat.and_comm]
      exact ⟨.inr (List.mem_append_right _ (hb y hy1).1), .inr (List.mem_append_right _ (hb y hy1).2)⟩
    · obtain rfl : y = x := by simpa using hy1
      exact ⟨.inr (List.mem_append_right _ (hb z hz1).1), .inr (List.mem_append_right _ (hb z hz1).2)⟩
    · obtain rfl : y = x := by simpa using hy1
      obtain rfl : z = y := by simpa using hz1
      rw [Nat.or_self, Nat.and_self]
      exact ⟨.inl (by simp), .inl (by simp)⟩
theorem Inv.done {ls T : List Nat} (h : Inv ls T []) (x : Nat) : x ∈ T ↔ Gen ls x :=
  ⟨h.genT x, fun hg => hg (· ∈ T) (fun y hy => (h.cov y hy).elim id (fun h => by cases h)) (fun a b ha hb => ⟨(h.clo a ha b hb).1.elim id (fun h => by cases h), (h.clo a ha b hb).2.elim id (fun h => by cases h)⟩)⟩
/-- How many may wait. -/
def tri (t : Nat) : Nat := t * (t - 1)
theorem tri_succ (t : Nat) : tri (t + 1) = tri t + 2 * t := by
  unfold tri
  rcases t with _ | t
  · rfl
  · simp only [Nat.add_sub_cancel]
    rw [Nat.mul_comm, Nat.mul_add, Nat.add_mul]
    simp only [Nat.mul_add, Nat.add_mul]
    omega
theorem tri_16 {t : Nat} (h : t ≤ 16) : tri t ≤ 240 := by
  unfold tri
  exact Nat.le_trans (Nat.mul_le_mul h (show t - 1 ≤ 15 by omega)) (by decide)

/-- What Close comes to. -/
def CloseEnd (ls : List Nat) (w : World) (e : Ending) (w' : World) : Prop :=
  (e = .returned (.tuple #[.slice none 0 0, .int .i64 10]) ∧ (ls = [] ∨ Big ls) ∧ Chg (fun _ => False) w w') ∨
  (∃ g c2 cs, e = .returned (.tuple #[.slice (some ⟨g, 0, none⟩) cs.length c2, .int .i64 0]) ∧ ls ≠ [] ∧ IsCl ls cs ∧ w'.ownsRow w.heap.size 23 1 (.slice (some ⟨g, 0, none⟩) cs.length c2) cs.length (us cs) ∧ Chg (fun _ => False) w w')

set_option maxRecDepth 100000 in
set_option maxHeartbeats 4000000 in
theorem close_some (ls : List Nat) (A : Option Addr) (n c : Nat) (w : World) (h : Rd (fun k => k < w.heap.size) w A n c 1 (us ls)) (h1 : 1 ≤ n) (hn : n * 8 ≤ 140737488351232) (hls : ∀ x ∈ ls, x < B64) :
    Calls Try.prog 36 #[.slice A n c] w fun e w' => CloseEnd ls w e w' := by
  have HL : Hid (ls.length = n) := by have := h.len; rw [us_len] at this; show _ = _; omega
  have hmm := @run_makeMap Try.prog
  obtain ⟨i0, hi0, hzz⟩ := Option.map_eq_some_iff.1 infoL
  simp only [Prod.mk.injEq] at hzz
  obtain ⟨b, off, rfl, hbs, hc⟩ := rd_us h (by omega)
  have hcap := h.cap
  have HR := Lib.hid h
  clear h hc
  have H64 : Hid (∀ x, Gen ls x → x < B64) := fun x hx => gen_64 hls hx
  have hne : Hid (ls ≠ []) := fun e => by have := HL.out; subst e; simp at this; omega
  clear hls
  go_enter Try.func36, Try.ntmps36
  have hsrc : Hid (∀ j u, (us ls)[j]? = some u → (w.alloc (.map #[] 0)).cell? ((⟨b, off, none⟩ : Addr).add j) = some u) := fun j u hu => by
    have hn0 : 0 < n := by omega
    obtain ⟨b', off', e, hb', hcc⟩ := HR.out.at_ hn0
    cases e
    rw [add_off]
    exact (World.cell?_of_block (Below.heap_alloc _ _ _ hb')).trans (hcc j u hu)
  have hone : Hid (∀ u ∈ us ls, u.oneCell' = true) := fun u hu => by
    unfold us at hu
    obtain ⟨x, _, rfl⟩ := List.mem_map.1 hu
    rfl
  have hlen : Hid ((us ls).length = n) := by show _ = _; rw [us_len]; exact HL.out
  have hok0 : Hid (∀ k, (w.alloc (.map #[] 0)).heap.size ≤ k → w.heap.size < k) := fun k hk => by simp at hk; omega
  go_wp2_with (first
    | (at_builtin; refine wt_app rfl (Operand.const (.slice none 0 0)) (.tmp 9) 28 rfl 23 8 (.int .u64 0) Try.underlying28 infoL rfl (by decide) rfl (Wt.nil (fun k => w.heap.size < k) _) ⟨b, off, none⟩ n c (us ls) rfl (by omega) hlen.out hsrc.out hone.out (by omega) hok0.out ?_; intro A1 c1 w1 row1 hW1 hg1 hr1)
    | go_in)
  have hm0 : w1.ownsMap Try.prog KL RI w.heap.size 0 (.map []) := (World.ownsMap_made _ _ _ _).kept hg1 (fun e => absurd (hr1 _ e.symm) (Nat.lt_irrefl _))
  have hch1 : Chg (fun _ => False) w w1 := ((Chg.refl _ w).alloc _).of_grown hg1 (fun k hk => .inl (Nat.le_of_lt (hr1 k hk)))
  have HW1 := Lib.hid hW1
  clear hW1 hg1 hr1 hsrc hone hlen hok0
  go_wp2
  go_loopw [5] (fun v wr => ∃ (A' : Option Addr) (c' : Nat) (L T : List Nat) (D : DT), v = .slice A' L.length c' ∧ Wt (fun k => w.heap.size < k) wr A' L.length c' (us L) ∧ wr.ownsMap Try.prog KL RI w.heap.size T.length D ∧ Has D T ∧ Inv ls T L ∧ Chg (fun _ => False) w wr ∧ T.length ≤ 16 ∧ L.length ≤ n + tri T.length)
    (fun v wr => (17 - msz wr w.heap.size) * 64 + vlen v)
  case atStart =>
    refine ⟨A1, c1, ls, [], _, by rw [HL.out], ?_, hm0, has_nil, ⟨fun x hx => (by cases hx), fun x hx => gen_base hx, fun x hx => .inr hx, fun x hx => (by cases hx)⟩, hch1, by simp, by rw [HL.out]; omega⟩
    have := HW1.out
    rw [Nat.zero_add, List.nil_append] at this
    rw [HL.out]; exact this
  case round =>
    obtain ⟨A2, c2, L, T, D, rfl, hWt, hown, hH, hI, hch, hT12, hLb⟩ := hrel
    obtain ⟨wo, hwo⟩ : ∃ wo, wo = wr := ⟨_, rfl⟩
    subst hwo
    have HO := Lib.hid hown
    have HH := Lib.hid hH
    have HI := Lib.hid hI
    have HG := Lib.hid hch
    have HSZ : Hid (msz wo w.heap.size = T.length) := by show _ = _; rw [msz_own hown, hH.size]
    clear hown hH hI hch hm0 hch1 HW1
    cases L with
    | nil =>
      have hLn := HL.out
      have hmT : ls.getD 0 0 ∈ T := by
        refine (HI.out.cov _ ?_).elim id (fun h => by cases h)
        rw [List.getD_eq_getElem?_getD, List.getElem?_eq_getElem (by omega)]; simp
      have hTp : 0 < T.length := List.length_pos_of_mem hmT
      have hz0 : (((Maps.size D : Nat) : Int) == 0) = false := by rw [beq_eq_false_iff_ne, HH.out.size]; omega
      obtain ⟨bm, hbm⟩ : ∃ bm, bm = wo.heap.size := ⟨_, rfl⟩
      have HS := Lib.hid (sorted_own bm w.heap.size T.length D (wo.alloc (.cells #[.map (some w.heap.size)] 87)) (by rw [hbm]; exact cell_at (heap_new wo _) 0 rfl) (HO.out.alloc _) (by have := HH.out.size; omega) (ls.getD 0 0) ((HH.out.iff _).2 hmT))
      unfold keysF at HS
      have HMT := Lib.hid hmT
      clear hmT hLn
      rw [List.length_nil]
      go_wp2_with (at_len; refine wpList_len_own _ rfl _ 87 rfl 23 3 Try.underlying87 _ w.heap.size T.length _ rfl HO.out ?_)
      refine (keys_any _ _).mono ?_
      rintro e w1 ⟨rfl, rfl⟩
      rw [← hbm]
      have hbw : w.heap.size ≤ bm := by rw [hbm]; exact HG.out.size
      clear hbm
      go_wp2_with fail
      refine HS.out.mono ?_
      clear HS
      rintro e w2 ⟨g, cg, cs, rfl, hk2, hs2, hr2, hch2⟩
      have hW : Chg (fun _ => False) w w2 := (HG.out.alloc _).trans hch2 (fun _ _ h => h)
      have hcs : ∀ x, x ∈ cs ↔ x ∈ T := fun x => (hk2.1.2 x).trans (HH.out.iff x)
      have hfew : cs.length ≤ 16 := by have := len_le cs T hk2.1.1 (fun x hx => (hcs x).1 hx); omega
      have HF : Hid (CloseEnd ls w (.returned (.tuple #[.slice (some ⟨g, 0, none⟩) cs.length cg, .int .i64 0])) w2) := .inr ⟨g, cg, cs, rfl, hne.out, ⟨hs2, hk2.1.1, fun x => (hcs x).trans (HI.out.done x), hfew⟩, own_base_le hr2 (fun k hk => by have := (hr2.lt k hk).1; simp at this; have := HG.out.size; omega), hW⟩
      clear hk2 hs2 hr2 hch2 hW hcs hfew
      go_wp2
      exact bodyPost_ret (v := .tuple #[.slice (some ⟨g, 0, none⟩) cs.length cg, .int .i64 0]) (by simp [results, Try.results36, go_sem]) rfl HF.out
    | cons x L' =>
      have hWc : Wt (fun k => w.heap.size < k) wo A2 (L'.length + 1) c2 (.int .u64 (x : Int) :: us L') := hWt
      rw [List.length_cons]
      clear hWt
      obtain ⟨m, hm⟩ : ∃ m, m = L'.length := ⟨_, rfl⟩
      rw [← hm] at hWc ⊢
      have HM := Lib.hid hm
      clear hm
      obtain ⟨g, o', rfl, hx⟩ := hWc.head
      have hx64 : x < B64 := H64.out x (HI.out.genL x (List.mem_cons_self ..))
      obtain ⟨A3, hcut, hW3⟩ := hWc.cut (P := Try.prog) 28 23 .i64 Try.underlying28 hi0 hzz.2.1
      rw [Nat.add_sub_cancel] at hcut hW3
      have hcp := hWc.cap
      have i1 : decide ((0 : Int) < (m : Int) + 1) = true := decide_eq_true (by omega)
      have HW3 := Lib.hid hW3
      clear hW3 hWc
      obtain ⟨cc, hrun, hat, -⟩ := HO.out.lookup_int (int_keyed uL) Try.underlying87 uI (zeroI _) (key_of hx64)
      by_cases hxT : x ∈ T
      · have hcc : cc = 1 := by
          rw [HH.out.one x hxT] at hat
          simpa [o1] using hat.symm
        subst hcc
        clear hat
        have HXT := Lib.hid hxT
        clear hxT
        go_wp2
        go_roundw
        case rel => exact ⟨A3, c2 - 1, L', T, D, by rw [HM.out], by rw [← HM.out]; exact HW3.out, HO.out, HH.out, HI.out.skip HXT.out, HG.out, hT12, by simp only [List.length_cons] at hLb; omega⟩
        case measure => simp [vlen]
      · have hcc : cc = 0 := by
          have hno : has D (kl x) = false := by rw [Bool.eq_false_iff]; exact fun e => hxT ((HH.out.iff x).1 e)
          rw [atKey_of_not_has hno] at hat
          simpa using hat.symm
        subst hcc
        clear hat
        have HXT := Lib.hid hxT
        clear hxT
        go_wp2_with (first
          | (at_range; refine wpList_range_own _ rfl _ 87 rfl 23 3 (int_keyed uL) Try.underlying87 _ w.heap.size T.length _ rfl HO.out ?_; intro w0 hrg0 hg0 hs0)
          | go_in)
        go_frame
        obtain ⟨r, hr⟩ : ∃ r, wo.heap.size = r := ⟨_, rfl⟩
        rw [hr] at hrg0 ⊢
        have hwr : w.heap.size < r := by rw [← hr]; exact HO.out.lt
        have hW0 : Hid (Wt (fun k => w.heap.size < k ∧ k ≠ r) w0 A3 m (c2 - 1) (us L')) := (HW3.out.mono (fun k hk ho => ⟨ho, by rw [← hr]; omega⟩)).keep (fun k _ hk => hg0.block k hk (by simp))
        go_loopw [5] (fun v wr => ∃ (A' : Option Addr) (c' : Nat) (ss : List Nat) (left : Lit → Bool) (cnt : Nat), v = .slice A' (m + 2 * ss.length) c' ∧ Wt (fun k => w.heap.size < k ∧ k ≠ r) wr A' (m + 2 * ss.length) c' (us (L' ++ brings x ss)) ∧
            wr.ranges Try.prog KL RI w.heap.size r T.length D left cnt ∧ Come D left ss ∧ ss.length + cnt ≤ Maps.size D ∧ Chg (fun _ => False) w wr)
          (fun _ wr => wr.rangeLeft w.heap.size r)
        case atStart => exact ⟨A3, c2 - 1, [], _, _, rfl, by simpa [brings] using hW0.out, hrg0, come_nil D, by simp, HG.out.of_grown hg0 (fun k hk => by cases hk)⟩
        case round =>
          clear hW0 hrg0 hg0 hs0 hr HW3 hcut
          clear w0
          obtain ⟨A4, c4, ss, left, cnt, rfl, hWt, hrg, hCm, hcs, hch⟩ := hrel
          obtain ⟨wi, hwi⟩ : ∃ wi, wi = wr := ⟨_, rfl⟩
          subst hwi
          have hssl : ss.length ≤ T.length := by have := HH.out.size; omega
          have HWt := Lib.hid hWt
          have HRG := Lib.hid hrg
          have HCm := Lib.hid hCm
          have HCH := Lib.hid hch
          clear hWt hrg hCm hch
          go_wp2_with (first
            | (at_next; refine wpList_next_ranges _ rfl _ rfl 23 (int_keyed uL) RI lab id (fun key l hk => by obtain ⟨x, hx, _⟩ := key_lab uL hk; exact ⟨x, hx⟩) (fun v _ _ => ⟨v, rfl⟩) w.heap.size r T.length _ _ _ rfl HRG.out ?_ ?_)
            | go_in)
          · intro hc0 hl0
            have hCA := HCm.out.all hl0
            have hmm2 : ∀ y, y ∈ ss ↔ y ∈ T := fun y => (hCA.2 y).trans (HH.out.iff y)
            have HI2 := Lib.hid (HI.out.take hmm2)
            have HO2 := Lib.hid HRG.out.owns
            have HH2 := Lib.hid (HH.out.put HXT.out)
            obtain ⟨D2, hD2⟩ : ∃ D2, D2 = D.put (kl x) o1 := ⟨_, rfl⟩
            rw [← hD2] at HH2
            have HD2 := Lib.hid hD2
            have hT2 : (T ++ [x]).length = T.length + 1 := by simp
            have HT2 := Lib.hid hT2
            clear hCA hmm2 hD2 hT2
            by_cases hbig : T.length = 16
            · have hz1 : decide ((16 : Int) < ((Maps.size D2 : Nat) : Int)) = true := decide_eq_true (by rw [HH2.out.size, HT2.out, hbig]; decide)
              have HF : Hid (Big ls) := ⟨T ++ [x], HH2.out.nodup, by rw [HT2.out]; omega, HI2.out.genT⟩
              go_wp2_with (first
                | (at_mapUpdate; refine wpList_mapUpdate_own _ rfl _ _ _ 87 rfl 23 3 (int_keyed uL) Try.underlying87 _ w.heap.size T.length _ rfl HO2.out (by unfold maxLen; omega) _ _ _ rfl rfl (key_of hx64) o1 [] (plainElem_int uI (by decide)) ?_; intro w3 hown3 hgrow3; rw [← HD2.out] at hown3)
                | (at_len; refine wpList_len_own _ rfl _ 87 rfl 23 3 Try.underlying87 _ w.heap.size (T.length + 1) _ rfl hown3 ?_)
                | go_in)
              exact bodyPost_ret (v := .tuple #[.slice none 0 0, .int .i64 10]) (by simp [results, Try.results36, go_sem]) rfl (.inl ⟨rfl, .inr HF.out, HCH.out.of_grown hgrow3 (fun k hk => by cases hk; exact .inl (Nat.le_refl _))⟩)
            have hz : decide ((16 : Int) < ((Maps.size D2 : Nat) : Int)) = false := decide_eq_false (by rw [HH2.out.size, HT2.out]; omega)
            go_wp2_with (first
              | (at_mapUpdate; refine wpList_mapUpdate_own _ rfl _ _ _ 87 rfl 23 3 (int_keyed uL) Try.underlying87 _ w.heap.size T.length _ rfl HO2.out (by unfold maxLen; omega) _ _ _ rfl rfl (key_of hx64) o1 [] (plainElem_int uI (by decide)) ?_; intro w3 hown3 hgrow3; rw [← HD2.out] at hown3)
              | (at_len; refine wpList_len_own _ rfl _ 87 rfl 23 3 Try.underlying87 _ w.heap.size (T.length + 1) _ rfl hown3 ?_)
              | go_in)
            go_roundw
            case rel => exact ⟨A4, c4, L' ++ brings x ss, T ++ [x], D2, by rw [List.length_append, brings_len, HM.out], by rw [List.length_append, brings_len, ← HM.out]; exact (HWt.out.keep (fun k ho hk => hgrow3.block k hk (fun e => by have := Option.some.inj e; omega))).mono (fun k _ ho => ho.1), by rw [List.length_append]; exact hown3, HH2.out, HI2.out, HCH.out.of_grown hgrow3 (fun k hk => by cases hk; exact .inl (Nat.le_refl _)), by rw [HT2.out]; omega, by simp only [List.length_cons] at hLb; rw [List.length_append, HT2.out, brings_len, tri_succ]; omega⟩
            case measure =>
              have e1 := msz_own hown3
              have e2 := HSZ.out
              have e3 := HH2.out.size
              have e4 := HT2.out
              rw [List.length_append, List.length_cons, List.length_nil] at e3 e4
              simp only [vlen]
              rw [e1, e2, e3]
              omega
          · intro y cv l' yd yp w2 cnt2 hkey hlk hv hat hrg2 hlt hg2 hs2 hen
            obtain ⟨y', ey, rfl, hy64⟩ := key_lab uL hkey
            obtain rfl : y = y' := lab_inj ey
            have HC2 := Lib.hid (HCm.out.one hlk hat)
            have HRG2 := Lib.hid hrg2
            have HLT := Lib.hid hlt
            have HCH2 := Lib.hid (HCH.out.of_grown hg2 (fun k hk => by cases hk; exact .inl (by have := HG.out.size; omega)))
            have HWA : Hid (Wt (fun k => w.heap.size < k ∧ k ≠ r) (w2.alloc (.cells #[.int .u64 ((x ||| y : Nat) : Int), .int .u64 ((x &&& y : Nat) : Int)] 23)) A4 (m + 2 * ss.length) c4 (us (L' ++ brings x ss))) :=
              (HWt.out.keep (fun k ho hk => hg2.block k hk (fun e => ho.2 (Option.some.inj e)))).keep (fun k _ hk => Below.heap_alloc _ _ _ hk)
            have hrs : r < w2.heap.size := by rw [hs2]; exact HRG.out.lt
            have HSA : Hid (∀ j u, [Value.int .u64 ((x ||| y : Nat) : Int), .int .u64 ((x &&& y : Nat) : Int)][j]? = some u → (w2.alloc (.cells #[.int .u64 ((x ||| y : Nat) : Int), .int .u64 ((x &&& y : Nat) : Int)] 23)).cell? ((⟨w2.heap.size, 0, none⟩ : Addr).add j) = some u) := fun j u hu => by
              rw [add_off, Nat.zero_add]
              exact cell_at (heap_new w2 _) j (by simpa using hu)
            have HON : Hid (∀ u ∈ [Value.int .u64 ((x ||| y : Nat) : Int), .int .u64 ((x &&& y : Nat) : Int)], u.oneCell' = true) := fun u hu => by
              rcases List.mem_cons.1 hu with rfl | hu
              · rfl
              · obtain rfl : u = _ := by simpa using hu
                rfl
            have HOK : Hid (∀ k, (w2.alloc (.cells #[.int .u64 ((x ||| y : Nat) : Int), .int .u64 ((x &&& y : Nat) : Int)] 23)).heap.size ≤ k → w.heap.size < k ∧ k ≠ r) := fun k hk => by simp at hk; omega
            clear hkey hlk hv hat hrg2 hlt hg2 hs2 ey
            go_wp2_with fail
            refine (join_any x y _ hx64 hy64).mono ?_
            rintro e wj ⟨rfl, rfl⟩
            go_wp2_with fail
            refine (meet_any x y _ hx64 hy64).mono ?_
            rintro e wj ⟨rfl, rfl⟩
            go_wp2_with (first
              | (at_builtin; refine wt_app rfl (.tmp 29) (.tmp 36) 28 rfl 23 8 (.int .u64 0) Try.underlying28 infoL rfl (by decide) rfl HWA.out ⟨w2.heap.size, 0, none⟩ 2 2 _ rfl (by omega) rfl HSA.out HON.out (by simp only [List.length_cons] at hLb; have := HM.out; have := tri_16 hT12; omega) HOK.out ?_; intro A5 c5 w5 row5 hW5 hg5 hr5)
              | go_in)
            have hgT := World.grownBy.trans (World.grownBy_alloc w2 (.cells #[.int .u64 ((x ||| y : Nat) : Int), .int .u64 ((x &&& y : Nat) : Int)] 23) row5) hg5
            have hrg5 := HRG2.out.kept hgT (fun e => absurd (hr5 _ e.symm).1 (Nat.lt_irrefl _)) (fun e => (hr5 _ e.symm).2 rfl)
            have hus : us (L' ++ brings x (ss ++ [y])) = us (L' ++ brings x ss) ++ [Value.int .u64 ((x ||| y : Nat) : Int), .int .u64 ((x &&& y : Nat) : Int)] := by
              rw [brings_snoc, ← List.append_assoc]
              simp [us]
            have hln : m + 2 * ss.length + 2 = m + 2 * (ss ++ [y]).length := by rw [List.length_append, List.length_cons, List.length_nil]; omega
            have HT5 := Lib.hid (⟨hrg5, hW5, hus, hln, HCH2.out.of_grown hgT (fun k hk => .inl (Nat.le_of_lt (hr5 k hk).1))⟩ : _ ∧ _ ∧ _ ∧ _ ∧ _)
            clear hrg5 hW5 hus hln hgT hg5 hr5
            go_roundw
            case rel => exact ⟨A5, c5, ss ++ [y], _, cnt2, by rw [← HT5.out.2.2.2.1], by rw [← HT5.out.2.2.2.1, HT5.out.2.2.1]; exact HT5.out.2.1, HT5.out.1, HC2.out, by rw [List.length_append, List.length_cons, List.length_nil]; have := HLT.out; omega, HT5.out.2.2.2.2⟩
            case measure => rw [HT5.out.1.left_eq, HRG.out.left_eq]; exact HLT.out
set_option maxRecDepth 100000 in
set_option maxHeartbeats 4000000 in
theorem close_zero (A : Option Addr) (c : Nat) (w : World) (h : Rd (fun k => k < w.heap.size) w A 0 c 1 []) :
    Calls Try.prog 36 #[.slice A 0 c] w fun e w' => CloseEnd [] w e w' := by
  have hmm := @run_makeMap Try.prog
  have HR : Hid (Rd (fun _ => True) (w.alloc (.map #[] 0)) A 0 c 1 []) := ⟨rfl, Nat.zero_le _, h.nil, fun h => absurd h (Nat.lt_irrefl _)⟩
  clear h
  go_enter Try.func36, Try.ntmps36
  go_wp2_with (at_builtin; refine ap_src rfl (Operand.const (.slice none 0 0)) (.tmp 9) 28 rfl w.heap.size 23 1 8 (.int .u64 0) Try.underlying28 infoL rfl (by decide) (by decide) (.slice none 0 0) 0 [] rfl (World.ownsRow_nil _ _ _ _) A 0 c [] rfl HR.out (by simp) (by omega) (by simp) ?_; intro v1 w1 o1 g1 r1)
  obtain ⟨A1, c1, rfl, -⟩ := Rd.of_own o1
  have hm0 : w1.ownsMap Try.prog KL RI w.heap.size 0 (.map []) := (World.ownsMap_made _ _ _ _).kept g1 (fun e => by simp [Value.ownBlock] at e)
  have hch1 : Hid (Chg (fun _ => False) w w1) := ((Chg.refl _ w).alloc _).of_grown g1 (fun k hk => by simp [Value.ownBlock] at hk)
  have hz0 : (((Maps.size (.map [] : DT) : Nat) : Int) == 0) = true := rfl
  clear o1 g1 r1
  go_wp2
  refine wp_loop_rounds 1 ?_
  rw [rounds_succ]
  go_wp2_with (at_len; refine wpList_len_own _ rfl _ 87 rfl 23 3 Try.underlying87 _ w.heap.size 0 _ rfl hm0 ?_)
  exact bodyPost_ret (v := .tuple #[.slice none 0 0, .int .i64 10]) (by simp [results, Try.results36, go_sem]) rfl (.inl ⟨rfl, .inl rfl, hch1.out⟩)
theorem close_all (ls : List Nat) (A : Option Addr) (n c : Nat) (w : World) (h : Rd (fun k => k < w.heap.size) w A n c 1 (us ls)) (hn : n * 8 ≤ 140737488351232) (hls : ∀ x ∈ ls, x < B64) :
    Calls Try.prog 36 #[.slice A n c] w fun e w' => CloseEnd ls w e w' := by
  rcases Nat.eq_zero_or_pos n with h0 | h0
  · subst h0
    have : ls = [] := List.eq_nil_of_length_eq_zero (by have := h.len; rw [us_len] at this; omega)
    subst this
    exact close_zero A c w h
  · exact close_some ls A n c w h h0 hn hls
end Go.Proofs.Ytdfplhoijapoeaa.Lcm
