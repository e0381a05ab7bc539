/-
  Operations are compared field by field.
-/
import Derived.Test.YtofcpfabjfhjoaaBase
namespace Go.Proofs.Ytofcpfabjfhjoaa
open Go.RowKit
set_option linter.unusedVariables false

theorem op_struct : Try.prog.underlying 46 = some (.struct (Try.prog.fieldsOf 46)) := by kernel_rfl
theorem op_held : Try.prog.stoodInHeld 46 = false := by kernel_rfl
theorem op_guard : Try.prog.eqGuardType Try.prog.depth 46 = false := by kernel_rfl

theorem eql_op (w : World) (a b c a' b' c' : Int) :
    (binOp .eql 46 (.agg #[.int .i64 a, .int .i64 b, .int .i64 c]) (.agg #[.int .i64 a', .int .i64 b', .int .i64 c'])).run Try.prog w = .ok (.bool (a == a' && b == b' && c == c')) w := by
  rw [run_eql_struct, show (10000 : Nat) = 9999 + 1 from rfl, run_equalIn_agg w 9999 46 _ _ op_struct op_held]
  cases h1 : (a == a') <;> cases h2 : (b == b') <;> cases h3 : (c == c') <;> simp [go_sem, Try.underlying46, h1, h2, h3]
end Go.Proofs.Ytofcpfabjfhjoaa
