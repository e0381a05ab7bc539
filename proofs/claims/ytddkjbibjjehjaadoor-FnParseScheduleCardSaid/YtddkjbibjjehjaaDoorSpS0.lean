/-
  The reference: the stamp of a transaction.
-/
import Derived.Test.YtddkjbibjjehjaaDoorStP0
namespace Go.Proofs.YtddkjbibjjehjaaDoor
open Go.RowKit Go.BigFrame
set_option linter.unusedVariables false

end Go.Proofs.YtddkjbibjjehjaaDoor
