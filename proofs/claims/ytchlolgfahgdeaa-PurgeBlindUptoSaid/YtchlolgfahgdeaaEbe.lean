/- Bytes as a string; bytes.Equal by contract. Conditions: the bytes read so. -/
import Derived.Test.YtchlolgfahgdeaaEpe
import Derived.Laws.BytesArg
set_option linter.unusedVariables false
set_option linter.unusedSimpArgs false
namespace Go.Proofs.Ytchlolgfahgdeaa.Ebe
open Go.RowKit Go.Proofs.Ytchlolgfahgdeaa.Lib1 Go.Proofs.Ytchlolgfahgdeaa.Rel Go.Proofs.Ytchlolgfahgdeaa.Own Go.Proofs.Ytchlolgfahgdeaa.Ev Go.Proofs.Ytchlolgfahgdeaa.Ek Go.Proofs.Ytchlolgfahgdeaa.Ec Go.Proofs.Ytchlolgfahgdeaa.Efe Go.Proofs.Ytchlolgfahgdeaa.Em Go.Proofs.Ytchlolgfahgdeaa.En Go.Proofs.Ytchlolgfahgdeaa.Lbw

theorem nums_back (v : List UInt8) : strOfNums (v.map fun x => (x.toNat : Int)) = ⟨v.toArray⟩ := by
  unfold strOfNums
  congr 1
  simp [List.map_map, Function.comp_def]
theorem conv_bytes {ok : Nat → Prop} {w : World} (v : List UInt8) (A : Option Addr) (n c : Nat) (h : bytesK.rel ok w v [.slice A n c]) : (convert 32 9 (.slice A n c)).run Try.prog w = .ok (.string ⟨v.toArray⟩) w := by
  obtain ⟨A0, c0, e0, -⟩ := slice_form h
  simp only [List.cons.injEq, Value.slice.injEq, and_true] at e0
  obtain ⟨rfl, rfl, rfl⟩ := e0
  by_cases hn : v.length = 0
  · have hv : v = [] := List.length_eq_zero_iff.1 hn
    subst hv
    cases A with
    | none => exact run_convert_bytes_nil w _ _ Try.underlying32 (by kernel_rfl) _ _ _ (by kernel_rfl)
    | some a =>
      rw [run_convert_bytes_string w _ _ _ _ _ _ Try.underlying32 (by kernel_rfl) (by kernel_rfl)]
      exact run_bytesToString (P := Try.prog) w a 0 c [] (run_loadCells_list (P := Try.prog) w a [] (by simp))
  · have hx : v[0]? = some v[0] := List.getElem?_eq_getElem (by omega)
    obtain ⟨g, off, cs, rfl, hg, hr, ra⟩ := elem_of _ _ h hx
    rw [run_convert_bytes_arg w _ _ Try.underlying32 (by kernel_rfl) g off v.length c (v.map fun x => (x.toNat : Int)) (by simp) (fun i hi => ?_) _ (by kernel_rfl), nums_back]
    have hxi : v[i]? = some v[i] := List.getElem?_eq_getElem hi
    obtain ⟨g2, off2, cs2, e2, hg2, hr2, ra2⟩ := elem_of _ _ h hxi
    simp only [Option.some.injEq, Addr.mk.injEq, and_true] at e2
    obtain ⟨rfl, rfl⟩ := e2
    replace hr2 : cs2 = [.int .u8 (v[i].toNat : Int)] := hr2
    subst hr2
    have := ra2 0 _ rfl
    simp only [Nat.add_zero] at this
    rw [show off + i = off + i * 1 by omega]
    refine this.trans ?_
    simp [List.getD_eq_getElem?_getD, hxi]
theorem bytes_beq (u v : List UInt8) : (u == v) = decide (u = v) := by
  rw [Bool.eq_iff_iff]
  simp
theorem bytes_equal {ok : Nat → Prop} {w : World} (u v : List UInt8) (A B : Option Addr) (n m c d : Nat) (hu : bytesK.rel ok w u [.slice A n c]) (hv : bytesK.rel ok w v [.slice B m d]) :
    Calls Try.prog 63 #[.slice A n c, .slice B m d] w fun e w' => e = .returned (.bool (decide (u = v))) ∧ w = w' := by
  have h1 := conv_bytes u A n c hu
  have h2 := conv_bytes v B m d hv
  have HB := Lib.hid (bytes_beq u v)
  clear hu hv
  go_enter Try.func63, Try.ntmps63
  go_wp2
  go_ret
  exact ⟨ret_bool HB.out, rfl⟩
end Go.Proofs.Ytchlolgfahgdeaa.Ebe
