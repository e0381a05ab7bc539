/-
  slices.Backward of steps: it boxes the slice and hands back the closure over the box.
-/
import Derived.Test.YtcakjhappchlmaaQWLkR0
namespace Go.Proofs.Ytcakjhappchlmaa
open Go.RowKit Go.BigFrame
set_option linter.unusedVariables false

set_option maxHeartbeats 1000000 in
theorem Backward_any (A : Option Addr) (n c : Nat) (w : World) :
    Calls Try.prog 85 #[.slice A n c] w fun e w' =>
      e = .returned (.func (.func 124) #[] #[.pointer (some ⟨w.heap.size, 0, none⟩)]) ∧ w' = w.alloc (.cells #[.slice A n c] 23) := by
  go_enter Try.func85, Try.ntmps85
  go_wp2_with fail
  go_ret
  exact ⟨rfl, rfl⟩
end Go.Proofs.Ytcakjhappchlmaa
