/-
  The library's IndexFunc and ContainsFunc at operations and at integers, and the program's 'kept', over whatever closure that only looks.
-/
import Derived.Test.YtddkjbibjjehjaaDoorSched
import Derived.Test.YtddkjbibjjehjaaDoorApp
namespace Go.Proofs.YtddkjbibjjehjaaDoor
open Go.RowKit Go.BigFrame
set_option linter.unusedVariables false

/-- Function F is entered by a call. -/
def Runs (F : FuncId) : Prop := ∀ args w, (callFunc F args).run Tryd.prog w = .ok (.enter F args) w
theorem runs_of {f : FuncId} {fn : Func} {c : Code} (hf : Tryd.prog.funcs[f]? = some fn) (hname : (fn.name == "runtime.NumGoroutine") = false) (hb : fn.body = some c) : Runs f :=
  by
  intro args w
  have h1 : fn.name ≠ "runtime.NumGoroutine" := by simpa using hname
  simp [callFunc, hf, h1, hb]

/-- A closure that answers p of each of the operations s, in whatever the world may become. -/
def ClosOp (w : World) (F : FuncId) (caps : Array Value) (s : List OpV) (p : OpV → Bool) : Prop := Runs F ∧
  ∀ (W : World) (o : OpV), Below w.heap.size w W → o ∈ s → Calls Tryd.prog F (#[o.val] ++ caps) W fun e w' => e = .returned (.bool (p o)) ∧ Below W.heap.size W w'
def ClosInt (w : World) (F : FuncId) (caps : Array Value) (s : List Int) (p : Int → Bool) : Prop := Runs F ∧
  ∀ (W : World) (x : Int), Below w.heap.size w W → x ∈ s → Calls Tryd.prog F (#[.int .i64 x] ++ caps) W fun e w' => e = .returned (.bool (p x)) ∧ Below W.heap.size W w'

theorem find_none_all {α : Type} {s : List α} {p : α → Bool} (h : ∀ j, j < s.length → ∀ o, s[j]? = some o → p o = false) : s.any p = false := by
  rw [List.any_eq_false]
  intro o ho
  obtain ⟨j, hj⟩ := List.mem_iff_getElem?.1 ho
  have hl : j < s.length := by
    rcases Nat.lt_or_ge j s.length with h | h
    · exact h
    · rw [List.getElem?_eq_none h] at hj; cases hj
  simp [h j hl o hj]

def IdxPost {α : Type} (s : List α) (p : α → Bool) (w : World) (e : Ending) (w' : World) : Prop :=
  Below w.heap.size w w' ∧ ((s.any p = false ∧ e = .returned (.int .i64 (-1))) ∨ (s.any p = true ∧ ∃ k : Nat, k < s.length ∧ (∃ o, s[k]? = some o ∧ p o = true) ∧ (∀ j, j < k → ∀ o, s[j]? = some o → p o = false) ∧ e = .returned (.int .i64 k)))


end Go.Proofs.YtddkjbibjjehjaaDoor
