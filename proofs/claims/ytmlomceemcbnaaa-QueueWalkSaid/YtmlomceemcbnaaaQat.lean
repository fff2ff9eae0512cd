/- The queue of strings, there or not there (QAt), and the reference's queue: one contract each. Conditions: as told. -/
import Derived.Test.YtmlomceemcbnaaaQclear
import Derived.Test.YtmlomceemcbnaaaQref
import Derived.Test.YtmlomceemcbnaaaQWstr
import Derived.Test.YtmlomceemcbnaaaQEstr
set_option linter.unusedVariables false
set_option linter.unusedSimpArgs false
namespace Go.Proofs.Ytmlomceemcbnaaa.Qat
open Go.RowKit Go.Proofs.Ytmlomceemcbnaaa.Lib1 Go.Proofs.Ytmlomceemcbnaaa.Q Go.Proofs.Ytmlomceemcbnaaa.Qstr
attribute [local go_sem] Oper.semAt_some

abbrev enc (ss : List ByteArray) : List Value := ss.map fun x => (Value.string x)
def hd (ss : List ByteArray) : ByteArray := ss.headD ⟨#[]⟩
def some? (ss : List ByteArray) : Bool := !ss.isEmpty

def Mine (p : Option Addr) (l : Option Nat) (k : Nat) : Prop := p = some ⟨k, 0, none⟩ ∨ some k = l
def QAt (w : World) (p : Option Addr) (l : Option Nat) (most : Int) (xs : List Value) : Prop :=
  (p = none ∧ l = none ∧ xs = []) ∨ ∃ b, p = some ⟨b, 0, none⟩ ∧ IsQ QT ET w b l most xs
def Fresh (w : World) (l l' : Option Nat) : Prop := l' = l ∨ ∀ g, l' = some g → w.heap.size ≤ g

section
variable {w w' : World} {p : Option Addr} {l : Option Nat} {most : Int} {xs : List Value}
theorem QAt.lt (h : QAt w p l most xs) : ∀ k, Mine p l k → k < w.heap.size := by
  rintro k hk
  rcases h with ⟨rfl, rfl, _⟩ | ⟨b, rfl, h⟩
  · rcases hk with hk | hk <;> cases hk
  · rcases hk with hk | hk
    · cases hk; exact h.lt
    · exact (h.row_lt k hk.symm).1
theorem QAt.kept {S : Nat → Prop} (h : QAt w p l most xs) (c : Chg S w w') (hS : ∀ k, Mine p l k → ¬ S k) : QAt w' p l most xs := by
  rcases h with h | ⟨b, rfl, h⟩
  · exact .inl h
  · exact .inr ⟨b, rfl, h.kept c (hS b (.inl rfl)) (fun k hk => hS k (.inr hk.symm))⟩
theorem Chg.draws (w : World) (S : Nat → Prop) (m : Nat) : Chg S w (w.drewN m) := (Chg.refl S w).drewN m
end

theorem first_at (w : World) (p : Option Addr) (l : Option Nat) (most : Int) (ss : List ByteArray) (h : QAt w p l most (enc ss)) :
    Calls Try.prog 50 #[.pointer p] w fun e w' => e = .returned (.tuple #[.string (hd ss), .bool (some? ss)]) ∧ Chg (fun _ => False) w w' := by
  rcases h with ⟨rfl, rfl, hx⟩ | ⟨b, rfl, h⟩
  · obtain rfl : ss = [] := by simpa using hx
    refine (first_nil w).mono ?_
    rintro e w' ⟨rfl, rfl⟩
    exact ⟨rfl, Chg.refl _ _⟩
  · cases ss with
    | nil =>
      refine (first_none w h).mono ?_
      rintro e w' ⟨rfl, rfl⟩
      exact ⟨rfl, Chg.refl _ _⟩
    | cons s ss =>
      rcases h with ⟨_, hx, _⟩ | ⟨g, n, first, arr, rfl, hq⟩
      · cases hx
      · refine (first_some s w hq rfl).mono ?_
        rintro e w' ⟨rfl, m, rfl⟩
        exact ⟨rfl, Chg.draws _ _ _⟩
theorem pop_at (w : World) (p : Option Addr) (l : Option Nat) (most : Int) (ss : List ByteArray) (h : QAt w p l most (enc ss)) :
    Calls Try.prog 48 #[.pointer p] w fun e w' => e = .returned (.tuple #[.string (hd ss), .bool (some? ss)]) ∧ QAt w' p l most (enc ss.tail) ∧ Chg (Mine p l) w w' := by
  rcases h with ⟨rfl, rfl, hx⟩ | ⟨b, rfl, h⟩
  · obtain rfl : ss = [] := by simpa using hx
    refine (pop_nil w).mono ?_
    rintro e w' ⟨rfl, rfl⟩
    exact ⟨rfl, .inl ⟨rfl, rfl, rfl⟩, Chg.refl _ _⟩
  · cases ss with
    | nil =>
      refine (pop_none w h).mono ?_
      rintro e w' ⟨rfl, rfl⟩
      exact ⟨rfl, .inr ⟨b, rfl, h⟩, Chg.refl _ _⟩
    | cons s ss =>
      rcases h with ⟨_, hx, _⟩ | ⟨g, n, first, arr, rfl, hq⟩
      · cases hx
      · refine (pop_some s w hq rfl).mono ?_
        rintro e w' ⟨rfl, h1, h2⟩
        refine ⟨rfl, .inr ⟨b, rfl, h1⟩, h2.mono (fun k _ hk => ?_)⟩
        rcases hk with rfl | rfl
        · exact .inl rfl
        · exact .inr rfl
theorem len_at (w : World) (p : Option Addr) (l : Option Nat) (most : Int) (ss : List ByteArray) (h : QAt w p l most (enc ss)) :
    Calls Try.prog 17 #[.pointer p] w fun e w' => e = .returned (.int .i64 (ss.length : Int)) ∧ w = w' := by
  rcases h with ⟨rfl, rfl, hx⟩ | ⟨b, rfl, h⟩
  · obtain rfl : ss = [] := by simpa using hx
    exact len_nil w
  · have := len_any w h
    rwa [List.length_map] at this
theorem clear_at (w : World) (p : Option Addr) (l : Option Nat) (most : Int) (ss : List ByteArray) (h : QAt w p l most (enc ss)) :
    Calls Try.prog 51 #[.pointer p] w fun e w' => e = .returned (.tuple #[]) ∧ QAt w' p none most [] ∧ Chg (Mine p l) w w' := by
  rcases h with ⟨rfl, rfl, hx⟩ | ⟨b, rfl, h⟩
  · refine (clear_nil w).mono ?_
    rintro e w' ⟨rfl, rfl⟩
    exact ⟨rfl, .inl ⟨rfl, rfl, rfl⟩, Chg.refl _ _⟩
  · refine (clear_any w h).mono ?_
    rintro e w' ⟨rfl, h1, h2⟩
    exact ⟨rfl, .inr ⟨b, rfl, h1⟩, h2.mono (fun k _ hk => .inl (by rw [hk]))⟩
theorem push_at (w : World) (b : Nat) (l : Option Nat) (most : Int) (ss : List ByteArray) (s : ByteArray) (h : QAt w (some ⟨b, 0, none⟩) l most (enc ss)) :
    Calls Try.prog 16 #[.pointer (some ⟨b, 0, none⟩), .string s] w fun e w' => e = .returned (.int .i64 (if (ss.length : Int) < most then 0 else 50)) ∧
      ∃ l', QAt w' (some ⟨b, 0, none⟩) l' most (enc (if (ss.length : Int) < most then ss ++ [s] else ss)) ∧ Fresh w l l' ∧ Chg (Mine (some ⟨b, 0, none⟩) l) w w' := by
  rcases h with ⟨h, _⟩ | ⟨b', hb, h⟩
  · cases h
  · cases hb
    by_cases hm : (ss.length : Int) < most
    · simp only [if_pos hm]
      refine (push_room s w h (by simpa using hm) (fun v hv => by obtain ⟨x, _, rfl⟩ := List.mem_map.1 hv; exact ⟨x, rfl⟩)).mono ?_
      rintro e w' ⟨rfl, l', h1, h2, h3⟩
      refine ⟨rfl, l', .inr ⟨b, rfl, by simpa [enc] using h1⟩, ?_, h3.mono (fun k _ hk => ?_)⟩
      · rcases h2 with h2 | ⟨g, rfl, hg⟩
        · exact .inl h2
        · exact .inr (fun g' e => by cases e; exact hg)
      · rcases hk with rfl | hk
        · exact .inl rfl
        · exact .inr hk
    · simp only [if_neg hm]
      refine (push_full s w h (by simpa using hm)).mono ?_
      rintro e w' ⟨rfl, m, rfl⟩
      exact ⟨rfl, l, .inr ⟨b, rfl, h.moved rfl (fun _ _ => rfl)⟩, .inl rfl, Chg.draws _ _ _⟩

theorem walked_at (w : World) (p : Option Addr) (l : Option Nat) (most : Int) (ss : List ByteArray) (h : QAt w p l most (enc ss)) :
    Calls Try.prog 34 #[.pointer p] w fun e w' => ∃ v, e = .returned (.tuple #[v, .bool true]) ∧ w'.ownsRow w.heap.size ET 1 v ss.length (enc ss) ∧ Chg (fun _ => False) w w' := by
  rcases h with ⟨rfl, rfl, hx⟩ | ⟨b, rfl, h⟩
  · obtain rfl : ss = [] := by simpa using hx
    exact QAstr.walked_nil w
  · exact QAstr.walked_any b l most ss w h

/-! ### The reference -/
theorem ref_pop (sz : Int) (v : Value) (ss : List ByteArray) (w : World) (base : Nat) (HO : w.ownsRow base ET 1 v ss.length (enc ss)) (hn : ss.length ≤ 65536) :
    Calls Try.prog 47 #[.agg #[.int .i64 sz, v]] w fun e w' => ∃ v', e = .returned (.tuple #[.string (hd ss), .bool (some? ss), .agg #[.int .i64 sz, v']]) ∧ (∃ base, w'.ownsRow base ET 1 v' ss.tail.length (enc ss.tail)) ∧ Fresh w v.ownBlock v'.ownBlock ∧ Chg (fun _ => False) w w' := by
  cases ss with
  | nil =>
    refine (Qref.pop_none sz v w base HO).mono ?_
    rintro e w' ⟨rfl, h⟩
    exact ⟨_, rfl, ⟨base, own_chg h HO (fun _ _ h => h)⟩, .inl rfl, h⟩
  | cons s ss =>
    refine (Qref.pop_some sz v _ s _ w base HO (fun u hu => by obtain ⟨x, _, rfl⟩ := List.mem_map.1 hu; rfl) hn).mono ?_
    rintro e w' ⟨v', rfl, h1, h2⟩
    exact ⟨_, rfl, ⟨_, h1⟩, .inr (fun g hg => (h1.lt g hg).1), h2⟩
theorem ref_first (sz : Int) (v : Value) (ss : List ByteArray) (w : World) (base : Nat) (HO : w.ownsRow base ET 1 v ss.length (enc ss)) :
    Calls Try.prog 49 #[.agg #[.int .i64 sz, v]] w fun e w' => e = .returned (.tuple #[.string (hd ss), .bool (some? ss)]) ∧ Chg (fun _ => False) w w' := by
  cases ss with
  | nil => exact Qref.first_none sz v w base HO
  | cons s ss => exact Qref.first_some sz v _ s _ w base HO
theorem ref_push (sz : Int) (v : Value) (ss : List ByteArray) (x : ByteArray) (w : World) (base : Nat) (HO : w.ownsRow base ET 1 v ss.length (enc ss)) (hn : (ss.length : Int) ≤ sz) (hz : sz ≤ 65536) :
    Calls Try.prog 15 #[.agg #[.int .i64 sz, v], .string x] w fun e w' => ∃ v', e = .returned (.tuple #[.agg #[.int .i64 sz, v'], .int .i64 (if (ss.length : Int) < sz then 0 else 50)]) ∧
      (∃ base, w'.ownsRow base ET 1 v' (if (ss.length : Int) < sz then ss ++ [x] else ss).length (enc (if (ss.length : Int) < sz then ss ++ [x] else ss))) ∧ Fresh w v.ownBlock v'.ownBlock ∧ Chg (fun _ => False) w w' := by
  by_cases hm : (ss.length : Int) < sz
  · simp only [if_pos hm]
    refine (Qref.push_room sz v _ _ x w base HO (by simpa using (by omega : ¬ (ss.length : Int) = sz)) (fun u hu => by obtain ⟨x, _, rfl⟩ := List.mem_map.1 hu; rfl) (by omega)).mono ?_
    rintro e w' ⟨v', rfl, h1, h2⟩
    exact ⟨_, rfl, ⟨_, by simpa [enc] using h1⟩, .inr (fun g hg => (h1.lt g hg).1), h2⟩
  · simp only [if_neg hm]
    refine (Qref.push_full sz v _ _ x w base HO (by simpa using (by omega : (ss.length : Int) = sz))).mono ?_
    rintro e w' ⟨rfl, h⟩
    exact ⟨_, rfl, ⟨base, own_chg h HO (fun _ _ h => h)⟩, .inl rfl, h⟩
theorem ref_clear (sz : Int) (v : Value) (ss : List ByteArray) (w : World) (base : Nat) (HO : w.ownsRow base ET 1 v ss.length (enc ss)) :
    Calls Try.prog 52 #[.agg #[.int .i64 sz, v]] w fun e w' => e = .returned (.agg #[.int .i64 sz, .slice none 0 0]) ∧ Chg (fun _ => False) w w' :=
  Qref.clear_any sz v _ _ w base HO
end Go.Proofs.Ytmlomceemcbnaaa.Qat
