/-
  commitOf, writesOf, survivorsOf of the program.
-/
import Derived.Test.YtddkjbibjjehjaaDoorSpan
import Derived.Test.YtddkjbibjjehjaaDoorRw0
namespace Go.Proofs.YtddkjbibjjehjaaDoor
open Go.RowKit Go.BigFrame
set_option linter.unusedVariables false

def commitI (s : List OpV) (t : Int) : Int := idxI s ⟨t, 2, 0⟩
/-- The items that a transaction writes, as bits. -/
def wTo (s : List OpV) (t : Int) : Nat → Nat
  | 0 => 0
  | k + 1 => match s[k]? with | some o => if o.tx == t && o.kind == 1 then wTo s t k ||| (1 <<< o.item.toNat) else wTo s t k | none => wTo s t k
def wI (s : List OpV) (t : Int) : Nat := wTo s t s.length
def itemsOk (s : List OpV) : Prop := ∀ o ∈ s, o.kind = 1 → 0 ≤ o.item ∧ o.item ≤ 2
theorem wTo_lt (s : List OpV) (t : Int) (h : itemsOk s) (k : Nat) : wTo s t k < 8 := by
  induction k with
  | zero => simp [wTo]
  | succ k ih =>
    simp only [wTo]
    split
    · rename_i o ho
      split
      · rename_i hc
        have hm := List.mem_of_getElem? ho
        simp only [Bool.and_eq_true, beq_iff_eq] at hc
        have := h o hm hc.2
        have h3 : o.item.toNat ≤ 2 := by omega
        have h4 : (1 <<< o.item.toNat) < 2 ^ 3 := by
          rcases (by omega : o.item.toNat = 0 ∨ o.item.toNat = 1 ∨ o.item.toNat = 2) with e | e | e <;> rw [e] <;> decide
        exact Nat.or_lt_two_pow (n := 3) ih h4
      · exact ih
    · exact ih
end Go.Proofs.YtddkjbibjjehjaaDoor
