/-
  Operations are compared field by field.
-/
import Derived.Test.YtddkjbibjjehjaaDoorBase
namespace Go.Proofs.YtddkjbibjjehjaaDoor
open Go.RowKit
set_option linter.unusedVariables false

theorem op_struct : Tryd.prog.underlying 38 = some (.struct (Tryd.prog.fieldsOf 38)) := by kernel_rfl
theorem op_held : Tryd.prog.stoodInHeld 38 = false := by kernel_rfl
theorem op_guard : Tryd.prog.eqGuardType Tryd.prog.depth 38 = false := by kernel_rfl

theorem eql_op (w : World) (a b c a' b' c' : Int) :
    (binOp .eql 38 (.agg #[.int .i64 a, .int .i64 b, .int .i64 c]) (.agg #[.int .i64 a', .int .i64 b', .int .i64 c'])).run Tryd.prog w = .ok (.bool (a == a' && b == b' && c == c')) w := by
  rw [run_eql_struct, show (10000 : Nat) = 9999 + 1 from rfl, run_equalIn_agg w 9999 38 _ _ op_struct op_held]
  cases h1 : (a == a') <;> cases h2 : (b == b') <;> cases h3 : (c == c') <;> simp [go_sem, Tryd.underlying38, h1, h2, h3]
end Go.Proofs.YtddkjbibjjehjaaDoor
