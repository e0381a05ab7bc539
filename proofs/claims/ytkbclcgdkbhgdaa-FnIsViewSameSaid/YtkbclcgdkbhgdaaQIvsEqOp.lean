/-
  Operations are compared field by field.
-/
import Derived.Test.YtkbclcgdkbhgdaaPkOrdX1
namespace Go.Proofs.Ytkbclcgdkbhgdaa
open Go.RowKit
set_option linter.unusedVariables false

theorem op_struct : Try.prog.underlying 32 = some (.struct (Try.prog.fieldsOf 32)) := by kernel_rfl
theorem op_held : Try.prog.stoodInHeld 32 = false := by kernel_rfl
theorem op_guard : Try.prog.eqGuardType Try.prog.depth 32 = false := by kernel_rfl

theorem eql_op (w : World) (a b c a' b' c' : Int) :
    (binOp .eql 32 (.agg #[.int .i64 a, .int .i64 b, .int .i64 c]) (.agg #[.int .i64 a', .int .i64 b', .int .i64 c'])).run Try.prog w = .ok (.bool (a == a' && b == b' && c == c')) w := by
  rw [run_eql_struct, show (10000 : Nat) = 9999 + 1 from rfl, run_equalIn_agg w 9999 32 _ _ op_struct op_held]
  cases h1 : (a == a') <;> cases h2 : (b == b') <;> cases h3 : (c == c') <;> simp [go_sem, Try.underlying32, h1, h2, h3]
end Go.Proofs.Ytkbclcgdkbhgdaa
