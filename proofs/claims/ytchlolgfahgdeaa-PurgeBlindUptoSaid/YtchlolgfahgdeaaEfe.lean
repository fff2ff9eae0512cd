/- Two fates compared as structs. Conditions: none. -/
import Derived.Test.YtchlolgfahgdeaaEc
import Derived.Laws.StructEq
set_option linter.unusedVariables false
set_option linter.unusedSimpArgs false
namespace Go.Proofs.Ytchlolgfahgdeaa.Efe
open Go.RowKit Go.Proofs.Ytchlolgfahgdeaa.Lib1 Go.Proofs.Ytchlolgfahgdeaa.Rel Go.Proofs.Ytchlolgfahgdeaa.Own Go.Proofs.Ytchlolgfahgdeaa.Ev Go.Proofs.Ytchlolgfahgdeaa.Ek Go.Proofs.Ytchlolgfahgdeaa.Ec

theorem guard_fate (op : BinOp) (x y : Operand) (xs ys : Array Value) (W : World) : (eqGuard op 76 x y (.agg xs) (.agg ys)).run Try.prog W = .ok () W := run_eqGuard_agg W op _ x y xs ys (by kernel_rfl)
set_option maxRecDepth 100000 in
theorem neq_fate (a b : Int) (c : Int) (a' b' c' : Int) (W : World) : (binOp .neq 76 (.agg #[.int .i64 a, .int .i64 b, .int .u8 c]) (.agg #[.int .i64 a', .int .i64 b', .int .u8 c'])).run Try.prog W = .ok (.bool (!(a == a' && b == b' && c == c'))) W := by
  rw [run_neq_struct, run_equalIn_agg W _ _ _ _ (by kernel_rfl) (by kernel_rfl)]
  go_simp
  by_cases h1 : a = a' <;> by_cases h2 : b = b' <;> by_cases h3 : c = c' <;> simp [h1, h2, h3]
theorem fate_beq (x y : Fate) : (x.done == y.done && x.keep == y.keep && (x.torn.toNat : Int) == (y.torn.toNat : Int)) = decide (x = y) := by
  obtain ⟨a, b, c⟩ := x
  obtain ⟨a', b', c'⟩ := y
  have hc : ((c.toNat : Int) = (c'.toNat : Int)) ↔ c = c' := ⟨fun h => UInt8.toNat_inj.1 (by omega), fun h => by rw [h]⟩
  rw [Bool.eq_iff_iff]
  simp [hc, and_assoc]
end Go.Proofs.Ytchlolgfahgdeaa.Efe
