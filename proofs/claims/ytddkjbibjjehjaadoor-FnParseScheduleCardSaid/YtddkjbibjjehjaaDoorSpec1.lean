/-
  The reference: validOp, validSchedule, stampOf, commitAt, touches, meets.
-/
import Derived.Test.YtddkjbibjjehjaaDoorSurv2
import Derived.Test.YtddkjbibjjehjaaDoorSpV0
import Derived.Test.YtddkjbibjjehjaaDoorSpS0
namespace Go.Proofs.YtddkjbibjjehjaaDoor
open Go.RowKit Go.BigFrame
set_option linter.unusedVariables false
end Go.Proofs.YtddkjbibjjehjaaDoor
