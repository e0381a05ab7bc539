/-
  Powers of two and bits; whether a list has a number, and where.
-/
import Derived.Test.YtddkjbibjjehjaaDoorSched
namespace Go.Proofs.YtddkjbibjjehjaaDoor
open Go.RowKit Go.BigFrame
set_option linter.unusedVariables false

/-- The place of a number in a list, -1 if it is not there. -/
def idxZ (xs : List Int) (x : Int) : Int := if xs.any (fun y => y == x) then (xs.findIdx (fun y => y == x) : Int) else -1
theorem idxZ_hit {xs : List Int} {x y : Int} {k : Nat} (ho : xs[k]? = some y) (h : (y == x) = true) (hno : ∀ j, j < k → ∀ y, xs[j]? = some y → (y == x) = false) : idxZ xs x = (k : Int) := by
  obtain ⟨hk, he⟩ := List.getElem?_eq_some_iff.1 ho
  have h1 : xs.any (fun y => y == x) = true := List.any_eq_true.2 ⟨y, List.mem_of_getElem? ho, h⟩
  have h2 : xs.findIdx (fun y => y == x) = k := by
    rw [List.findIdx_eq hk]
    exact ⟨by rw [he]; exact h, fun j hj => by have := hno j hj _ (List.getElem?_eq_getElem (by omega)); exact this⟩
  unfold idxZ
  rw [h1, h2]; rfl
theorem idxZ_none {xs : List Int} {x : Int} (hno : ∀ j, j < xs.length → ∀ y, xs[j]? = some y → (y == x) = false) : idxZ xs x = -1 := by
  unfold idxZ
  have : xs.any (fun y => y == x) = false := by
    rw [List.any_eq_false]
    intro o ho
    obtain ⟨j, hj⟩ := List.mem_iff_getElem?.1 ho
    have hl : j < xs.length := (List.getElem?_eq_some_iff.1 hj).1
    simp [hno j hl o hj]
  rw [this]; rfl
theorem idxZ_any (xs : List Int) (x : Int) : if (xs.any fun y => y == x) = true then 0 ≤ idxZ xs x else idxZ xs x = -1 := by
  unfold idxZ
  split
  · omega
  · rfl


end Go.Proofs.YtddkjbibjjehjaaDoor
