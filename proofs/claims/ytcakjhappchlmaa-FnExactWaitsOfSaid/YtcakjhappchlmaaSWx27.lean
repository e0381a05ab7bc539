/-
  Texts that the proof rests on, joined: part 27.
-/
import Derived.Deep.CutRange
import Derived.Test.YtcakjhappchlmaaSWx26
namespace Go.Proofs.Ytcakjhappchlmaa
open Go.RowKit Go.BigFrame
set_option linter.unusedVariables false

section
variable {w : World} {ops : Array Oper} {o : Oper} {a : Act} {K : Act → World → Prop} {Q : Exit → Act → World → Prop} {E : Prop}
theorem step_steps (s x : Operand) {base : Nat} {v : Value} {n : Nat} {xs : List OpV} (hown : w.ownsRow base 31 3 v n (opCells xs)) (hbase : base ≤ w.heap.size)
    {A : Option Addr} {m c : Nat} {ys : List OpV} (hr : ROps w A m ys) (hn : n ≤ 1099511627776)
    (hgd : o.guard = none) (ho : o.op = .call { callee := .builtin .append, args := #[s, x], argTypes := #[23, 23] }) (hs : a.eval s = v) (hx : a.eval x = .slice A m c)
    (h : ∀ v' w', w'.ownsRow base 31 3 v' (n + m) (opCells (xs ++ ys)) → w.grownBy w' v.ownBlock → (v'.ownBlock = v.ownBlock ∨ v'.ownBlock = some w.heap.size) → K (a.put o.dst v') w') :
    if Region.wanted o (yielded ops a.tmps) = true then Oper.wp Try.prog o a w K Q else E := by
  obtain ⟨i0, hi, hz0, hz1, hz2⟩ := info_parts stepInfo
  have hm := hr.2.1
  refine step_app hgd s x _ ho base _ i0 _ 3 24 Try.underlying23 hi hz0 hz1 hz2 rfl (by decide) v n _ hs hown A m c _ hx hr.src (by simp only [maxLen]; omega) (by omega) hbase ?_
  intro v' w' h1 h2 h3
  rw [← opCells_append] at h1
  exact h v' w' h1 h2 h3
end
end Go.Proofs.Ytcakjhappchlmaa
