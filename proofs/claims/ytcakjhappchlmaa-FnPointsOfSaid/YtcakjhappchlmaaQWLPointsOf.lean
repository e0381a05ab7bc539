/-
  The walk of the law FnPointsOf: whatever the input, it returns true and changes nothing.
-/
import Derived.Test.YtcakjhappchlmaaQWLPoints0
import Derived.Test.YtcakjhappchlmaaQWLkR4
namespace Go.Proofs.Ytcakjhappchlmaa
open Go.RowKit Go.BigFrame
set_option linter.unusedVariables false

theorem law_pointsOf (A : Option Addr) (n c : Nat) (w : World) (hin : BytesIn w A n c) :
    Calls Try.prog 6 #[.slice A n c] w fun e w' => e = .returned (.bool true) ∧ Below w.heap.size w w' :=
  law_pointsOf0 PointsOf_any A n c w hin
end Go.Proofs.Ytcakjhappchlmaa
