/-
  The helpers of the statements that compare the program with the reference: sizes, copies, comparisons, and marks.
-/
import Derived.Test.YtddkjbibjjehjaaDoorRows0
namespace Go.Proofs.YtddkjbibjjehjaaDoor
open Go.RowKit Go.BigFrame
set_option linter.unusedVariables false

set_option maxHeartbeats 400000 in
theorem eqOp_any (o p : OpV) (w : World) :
    Calls Tryd.prog 21 #[o.val, p.val] w fun e w' => e = .returned (.bool (o == p)) ∧ Below w.heap.size w w' := by
  obtain ⟨t, k, x⟩ := o
  obtain ⟨t', k', x'⟩ := p
  unfold OpV.val
  have hq : Hid (((⟨t, k, x⟩ : OpV) == ⟨t', k', x'⟩) = (t == t' && k == k' && x == x')) := by
    show _ = _
    rw [Bool.eq_iff_iff]; simp [and_assoc]
  by_cases h1 : t = t' <;> by_cases h2 : k = k' <;> by_cases h3 : x = x'
  all_goals
    go_enter Tryd.func21, Tryd.ntmps21
    go_wp2_with fail
    go_ret
    exact ⟨ret_bool (by rw [hq.out]; simp [h1, h2, h3]), by (repeat (first | exact Below.refl _ _ | assumption | refine B_alloc ?_ (Nat.le_refl _) _ | refine Below.drew ?_ | refine B_drewN ?_ _ | refine B_after (by assumption) ?_ | (refine B_set ?_ ?_; rotate_left; (first | exact Nat.le_refl _ | (simp; done) | (simp at *; omega)))))⟩

end Go.Proofs.YtddkjbibjjehjaaDoor
