/-
  slices.Clip.
-/
import Derived.Test.YtddkjbibjjehjaaDoorBase
namespace Go.Proofs.YtddkjbibjjehjaaDoor
open Go.RowKit Go.BigFrame
set_option linter.unusedVariables false


set_option maxHeartbeats 400000 in
theorem ClipOps_any (A : Option Addr) (n c : Nat) (w : World) (hn : n ≤ 1099511627776) (hnc : n ≤ c) :
    Calls Tryd.prog 20 #[.slice A n c] w fun e w' => e = .returned (.slice A n n) ∧ w = w' := by
  go_enter Tryd.func20, Tryd.ntmps20
  go_wp2_with fail
  go_ret
  exact ⟨rfl, rfl⟩
end Go.Proofs.YtddkjbibjjehjaaDoor
