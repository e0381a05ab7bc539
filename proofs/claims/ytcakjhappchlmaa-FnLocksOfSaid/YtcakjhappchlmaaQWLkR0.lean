/-
  slices.Reverse of integers: the row swaps its ends, round by round.
-/
import Derived.Test.YtcakjhappchlmaaPkLkG
import Derived.Test.YtcakjhappchlmaaQWLkP1
namespace Go.Proofs.Ytcakjhappchlmaa
open Go.RowKit Go.BigFrame
set_option linter.unusedVariables false

/-- What stands behind k swaps: the first k and the last k have changed places. -/
def swapTo (xs : List Int) : Nat → List Int
  | 0 => xs
  | k + 1 => ((swapTo xs k).set k (xs.getD (xs.length - 1 - k) 0)).set (xs.length - 1 - k) (xs.getD k 0)
theorem swapTo_len (xs : List Int) (k : Nat) : (swapTo xs k).length = xs.length := by
  induction k with
  | zero => rfl
  | succ k ih => simp only [swapTo, List.length_set, ih]
theorem swapTo_get (xs : List Int) : ∀ k, 2 * k ≤ xs.length → ∀ i, i < xs.length → (swapTo xs k)[i]? = if i < k ∨ xs.length ≤ i + k then xs[xs.length - 1 - i]? else xs[i]? := by
  intro k
  induction k with
  | zero => intro _ i hi; rw [if_neg (by omega)]; rfl
  | succ k ih =>
    intro h2 i hi
    have hg : ∀ j, j < xs.length → xs[j]? = some (xs.getD j 0) := fun j hj => by
      rw [List.getElem?_eq_getElem hj, List.getD_eq_getElem?_getD, List.getElem?_eq_getElem hj]; rfl
    simp only [swapTo]
    rw [List.getElem?_set, List.getElem?_set]
    simp only [List.length_set, swapTo_len]
    by_cases h1 : xs.length - 1 - k = i
    · rw [if_pos h1, if_pos (by omega), if_pos (by omega), hg _ (by omega)]
      congr 2
      omega
    · rw [if_neg h1]
      by_cases h3 : k = i
      · rw [if_pos h3, if_pos (by omega), if_pos (by omega), hg _ (by omega), h3]
      · rw [if_neg h3, ih (by omega) i hi]
        by_cases h4 : i < k ∨ xs.length ≤ i + k
        · rw [if_pos h4, if_pos (by omega)]
        · rw [if_neg h4, if_neg (by omega)]
theorem swapTo_end (xs : List Int) {k : Nat} (h1 : 2 * k ≤ xs.length) (h2 : xs.length ≤ 2 * k + 1) : swapTo xs k = xs.reverse := by
  apply List.ext_getElem?
  intro i
  by_cases hi : i < xs.length
  · rw [swapTo_get xs k h1 i hi, List.getElem?_reverse hi]
    split
    · rfl
    · congr 1; omega
  · rw [List.getElem?_eq_none (by rw [swapTo_len]; omega), List.getElem?_eq_none (by rw [List.length_reverse]; omega)]
end Go.Proofs.Ytcakjhappchlmaa
