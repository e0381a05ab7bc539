/-
  Integers in new memory and a bool.
-/
import Derived.Test.YtkbclcgdkbhgdaaPkOrdX1
namespace Go.Proofs.Ytkbclcgdkbhgdaa
open Go.RowKit Go.BigFrame
set_option linter.unusedVariables false

/-- The call hands back these integers in new memory and a bool, and changes nothing. -/
def RetIntsB (w0 : World) (xs : List Int) (b : Bool) (e : Ending) (w : World) : Prop :=
  ∃ A c, e = .returned (.tuple #[.slice A xs.length c, .bool b]) ∧ xs.length ≤ c ∧ FreshInts w0 w A xs.length xs ∧ Below w0.heap.size w0 w
theorem RetIntsB.nil {w0 w : World} {b : Bool} (h : Below w0.heap.size w0 w) : RetIntsB w0 [] b (.returned (.tuple #[.slice none 0 0, .bool b])) w := ⟨none, 0, rfl, Nat.le_refl _, FreshInts.none_, h⟩
theorem RetIntsB.lit {w0 w : World} {H : Nat} (hH : w.heap.size = H) (h : Below w0.heap.size w0 w) (xs : List Int) (hl : xs.length ≤ 64) {b : Bool} : RetIntsB w0 xs b (.returned (.tuple #[.slice (some ⟨H, 0, none⟩) xs.length xs.length, .bool b])) (w.alloc (.cells (intCells xs).toArray 3)) := by
  subst hH
  refine ⟨_, _, rfl, Nat.le_refl _, ⟨RInts.lit w xs _ (by omega), fun ad had => ?_⟩, h.alloc h.size _⟩
  injection had with had
  subst had
  exact ⟨_, _, rfl, h.size, heap_alloc_new w _, by simp [intCells]⟩
end Go.Proofs.Ytkbclcgdkbhgdaa
