/-
  What the program keeps of a schedule: txsOf, opsOf, committedOf and their exported faces; IsSerial.
-/
import Derived.Test.YtddkjbibjjehjaaDoorKept
namespace Go.Proofs.YtddkjbibjjehjaaDoor
open Go.RowKit Go.BigFrame
set_option linter.unusedVariables false

def opsOf (s : List OpV) (t : Int) : List OpV := s.filter fun o => o.tx == t
def committed (s : List OpV) : List OpV := s.filter fun o => endOf s o.tx == 2
def hasTx (s : List OpV) (t : Int) : Bool := s.any fun o => o.tx == t
def txsOf (s : List OpV) : List Int := [0, 1, 2, 3].filter fun t => hasTx s t


end Go.Proofs.YtddkjbibjjehjaaDoor
