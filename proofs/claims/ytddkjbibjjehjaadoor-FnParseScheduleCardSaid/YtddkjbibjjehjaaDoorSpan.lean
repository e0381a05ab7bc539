/-
  span, firstOf, commitOf, writesOf of the program.
-/
import Derived.Test.YtddkjbibjjehjaaDoorSerial
import Derived.Test.YtddkjbibjjehjaaDoorEqOp
namespace Go.Proofs.YtddkjbibjjehjaaDoor
open Go.RowKit Go.BigFrame
set_option linter.unusedVariables false

def isAt (s : List OpV) (k : Nat) (t : Int) : Bool := match s[k]? with | some o => o.tx == t | none => false
def firstTo (s : List OpV) (t : Int) : Nat → Int
  | 0 => -1
  | k + 1 => if firstTo s t k < 0 ∧ isAt s k t = true then (k : Int) else firstTo s t k
def lastTo (s : List OpV) (t : Int) : Nat → Int
  | 0 => -1
  | k + 1 => if isAt s k t = true then (k : Int) else lastTo s t k
def firstI (s : List OpV) (t : Int) : Int := firstTo s t s.length
def lastI (s : List OpV) (t : Int) : Int := lastTo s t s.length
theorem firstTo_ge (s : List OpV) (t : Int) (k : Nat) : -1 ≤ firstTo s t k ∧ firstTo s t k ≤ k := by
  induction k with
  | zero => simp [firstTo]
  | succ k ih => simp only [firstTo]; split <;> omega

/-- The place of an operation in a list, -1 if it is not there. -/
def idxTo (s : List OpV) (q : OpV) (k : Nat) : Prop := ∀ j, j < k → ∀ o, s[j]? = some o → (o == q) = false
def idxI (s : List OpV) (q : OpV) : Int := if s.any (fun o => o == q) then (s.findIdx (fun o => o == q) : Int) else -1
theorem idxI_hit {s : List OpV} {q o : OpV} {k : Nat} (ho : s[k]? = some o) (h : (o == q) = true) (hno : ∀ j, j < k → ∀ o, s[j]? = some o → (o == q) = false) : idxI s q = (k : Int) := by
  obtain ⟨hk, he⟩ := List.getElem?_eq_some_iff.1 ho
  have h1 : s.any (fun o => o == q) = true := List.any_eq_true.2 ⟨o, List.mem_of_getElem? ho, h⟩
  have h2 : s.findIdx (fun o => o == q) = k := by
    rw [List.findIdx_eq hk]
    exact ⟨by rw [he]; exact h, fun j hj => by have := hno j hj _ (List.getElem?_eq_getElem (by omega)); exact this⟩
  unfold idxI
  rw [h1, h2]; rfl
theorem idxI_none {s : List OpV} {q : OpV} (hno : ∀ j, j < s.length → ∀ o, s[j]? = some o → (o == q) = false) : idxI s q = -1 := by
  unfold idxI
  rw [find_none_all hno]; rfl

theorem beq_op (a b c a' b' c' : Int) : (a == a' && b == b' && c == c') = ((⟨a', b', c'⟩ : OpV) == ⟨a, b, c⟩) := by
  rw [Bool.eq_iff_iff]
  simp only [Bool.and_eq_true, beq_iff_eq, OpV.mk.injEq]
  constructor
  · rintro ⟨⟨rfl, rfl⟩, rfl⟩; exact ⟨rfl, rfl, rfl⟩
  · rintro ⟨rfl, rfl, rfl⟩; exact ⟨⟨rfl, rfl⟩, rfl⟩

end Go.Proofs.YtddkjbibjjehjaaDoor
