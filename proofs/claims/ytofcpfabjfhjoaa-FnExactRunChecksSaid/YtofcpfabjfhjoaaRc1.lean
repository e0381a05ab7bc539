/-
  slices.Repeat of one number thrice, slices.Clip, runnable; rows that stand beside each other.
-/
import Derived.Test.YtofcpfabjfhjoaaRc0
import Derived.Test.YtofcpfabjfhjoaaRows0
import Derived.Test.YtofcpfabjfhjoaaKept3
import Derived.Test.YtofcpfabjfhjoaaGen2
namespace Go.Proofs.Ytofcpfabjfhjoaa
open Go.RowKit Go.BigFrame
set_option linter.unusedVariables false

set_option maxHeartbeats 400000 in
theorem ClipOps_any (A : Option Addr) (n c : Nat) (w : World) (hn : n ≤ 1099511627776) (hnc : n ≤ c) :
    Calls Try.prog 105 #[.slice A n c] w fun e w' => e = .returned (.slice A n n) ∧ w = w' := by
  go_enter Try.func105, Try.ntmps105
  go_wp2_with fail
  go_ret
  exact ⟨rfl, rfl⟩
set_option maxHeartbeats 400000 in
theorem ClipInts_any (A : Option Addr) (n c : Nat) (w : World) (hn : n ≤ 1099511627776) (hnc : n ≤ c) :
    Calls Try.prog 106 #[.slice A n c] w fun e w' => e = .returned (.slice A n n) ∧ w = w' := by
  go_enter Try.func106, Try.ntmps106
  go_wp2_with fail
  go_ret
  exact ⟨rfl, rfl⟩
set_option maxHeartbeats 400000 in
theorem runnable_any (A : Option Addr) (n c : Nat) (s : List OpV) (w : World) (hx : ROps w A n s) (hnc : n ≤ c) :
    Calls Try.prog 100 #[.slice A n c] w fun e w' => e = .returned (.bool (runB s)) ∧ Below w.heap.size w w' := by
  have hl := hx.1
  have HX := Lib.hid hx
  have hr : Hid (runB s = (validS s && decide (s.length ≤ 12))) := rfl
  clear hx
  go_enter Try.func100, Try.ntmps100
  go_wp2_with fail
  refine (ValidSchedule_any A n c s w HX.out hnc).mono ?_
  rintro e w1 ⟨rfl, hb1⟩
  obtain ⟨bv, hv⟩ : ∃ b, validS s = b := ⟨_, rfl⟩
  rw [hv] at hr ⊢
  clear hv
  cases bv
  · go_wp2_with fail
    go_ret
    exact ⟨ret_bool (by rw [hr.out]; rfl), hb1⟩
  · go_wp2_with fail
    go_ret
    exact ⟨ret_bool (by rw [hr.out, hl, Bool.true_and]; exact decide_eq_decide.2 (by omega)), hb1⟩

set_option maxHeartbeats 1000000 in
theorem mul64_any (w : World) : Calls Try.prog 162 #[.int .u64 1, .int .u64 3] w fun e w' => e = .returned (.tuple #[.int .u64 0, .int .u64 3]) ∧ w = w' := by
  go_enter Try.func162, Try.ntmps162
  go_wp2_with fail
  go_ret2
  exact ⟨rfl, rfl⟩
set_option maxHeartbeats 1000000 in
theorem mul_any (w : World) : Calls Try.prog 144 #[.int .u64 1, .int .u64 3] w fun e w' => e = .returned (.tuple #[.int .u64 0, .int .u64 3]) ∧ w = w' := by
  go_enter Try.func144, Try.ntmps144
  go_wp2_with fail
  refine (mul64_any w).mono ?_
  rintro e w' ⟨rfl, rfl⟩
  go_wp2_with fail
  go_ret2
  exact ⟨rfl, rfl⟩

end Go.Proofs.Ytofcpfabjfhjoaa
