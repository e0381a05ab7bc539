/-
  survivorsOf and SurvivorsOf of the program.
-/
import Derived.Test.YtddkjbibjjehjaaDoorSurv
namespace Go.Proofs.YtddkjbibjjehjaaDoor
open Go.RowKit Go.BigFrame
set_option linter.unusedVariables false

/-- u is against t: it commits behind t's first operation, and both write an item. -/
def agI (s : List OpV) (t u : Int) : Bool := decide (firstI s t < commitI s u) && ((wI s u &&& wI s t) != 0)
def survStep (s : List OpV) (out : List Int) (o : OpV) : List Int := if o.kind == 2 && !(out.any (agI s o.tx)) then out ++ [o.tx] else out
def survTo (s : List OpV) (k : Nat) : List Int := (s.take k).foldl (survStep s) []
def survI (s : List OpV) : List Int := s.foldl (survStep s) []
theorem survTo_succ {s : List OpV} {k : Nat} {o : OpV} (h : s[k]? = some o) : survTo s (k + 1) = survStep s (survTo s k) o := by
  unfold survTo
  rw [take_snoc h, List.foldl_append]; rfl
theorem survTo_all {s : List OpV} {k : Nat} (h : s.length ≤ k) : survTo s k = survI s := by
  unfold survTo survI
  rw [List.take_of_length_le h]
theorem survTo_len (s : List OpV) (k : Nat) : (survTo s k).length ≤ k := by
  induction k with
  | zero => exact Nat.le_refl _
  | succ k ih =>
    cases h : s[k]? with
    | some o => rw [survTo_succ h]; unfold survStep; split <;> (try simp) <;> omega
    | none =>
      have : s.take (k + 1) = s.take k := by
        have hl : s.length ≤ k := by
          rcases Nat.lt_or_ge k s.length with h' | h'
          · rw [List.getElem?_eq_getElem h'] at h; cases h
          · exact h'
        rw [List.take_of_length_le (by omega), List.take_of_length_le hl]
      unfold survTo at *
      rw [this]; omega

theorem validS_items {s : List OpV} (h : validS s = true) : itemsOk s := by
  intro o ho h1
  have := validS_ops h o ho
  simp [validOp, isAcc, isEnd, inR, h1] at this
  omega
end Go.Proofs.YtddkjbibjjehjaaDoor
