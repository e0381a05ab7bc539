/-
  Texts that the proof rests on, joined: part 26.
-/
import Derived.IntWalk
import Derived.Test.YtncebpmckbcabaaSKp19
import Derived.Test.YtncebpmckbcabaaSKp20
import Derived.Test.YtncebpmckbcabaaSKp25
namespace Go.Proofs.Ytncebpmckbcabaa
open Go.RowKit Go.BigFrame
set_option linter.unusedVariables false

section
variable {w : World} {ops : Array Oper} {o : Oper} {a : Act} {K : Act → World → Prop} {Q : Exit → Act → World → Prop} {E : Prop}
theorem step_ops (s x : Operand) {base : Nat} {v : Value} {n : Nat} {xs : List OpV} (hown : w.ownsRow base 62 3 v n (opCells xs)) (hbase : base ≤ w.heap.size)
    {A : Option Addr} {m c : Nat} {ys : List OpV} (hr : ROps w A m ys) (hn : n ≤ 1099511627776)
    (hgd : o.guard = none) (ho : o.op = .call { callee := .builtin .append, args := #[s, x], argTypes := #[24, 24] }) (hs : a.eval s = v) (hx : a.eval x = .slice A m c)
    (h : ∀ v' w', w'.ownsRow base 62 3 v' (n + m) (opCells (xs ++ ys)) → w.grownBy w' v.ownBlock → (v'.ownBlock = v.ownBlock ∨ v'.ownBlock = some w.heap.size) → K (a.put o.dst v') w') :
    if Region.wanted o (yielded ops a.tmps) = true then Oper.wp Try.prog o a w K Q else E := by
  obtain ⟨i0, hi, hz0, hz1, hz2⟩ := info_parts opInfo
  have hm := hr.2.1
  refine step_app hgd s x _ ho base _ i0 _ 3 24 Try.underlying24 hi hz0 hz1 hz2 rfl (by decide) v n _ hs hown A m c _ hx hr.src (by simp only [maxLen]; omega) (by omega) hbase ?_
  intro v' w' h1 h2 h3
  rw [← opCells_append] at h1
  exact h v' w' h1 h2 h3
end
/-- The boxes of resume. -/
theorem resume_start {B : Nat} {V : DV} {D : Dsk} {w W : World} (hd : DeskAt w B V D) (hW : W = (w.alloc (.cells V.list.toArray 28)).alloc (.cells DV.nil.list.toArray 28)) :
    Pk w V B w.heap.size (w.heap.size + 1) W V D := by
  have hR0 : Boxed W (w.heap.size + 1) DV.nil := by
    rw [hW]
    have := Boxed.new (w.alloc (.cells V.list.toArray 28)) DV.nil
    rw [show (w.alloc (.cells V.list.toArray 28)).heap.size = w.heap.size + 1 by simp] at this
    exact this
  exact ⟨by rw [hW]; exact (hd.alloc _).alloc _, by rw [hW]; exact ((DStep.refl w V).alloc _).alloc _, by rw [hW]; exact (Boxed.new w V).alloc _, hR0, by omega, Nat.le_refl _, by omega⟩
theorem OB.made {w : World} {B : Nat} {U : DV} {D : Dsk} (hd : DeskAt w B U D) (o : OpV) : OB (w.alloc (.cells o.cells.toArray 62)) U w.heap.size o := ⟨OBox.new w o, hd.far (Nat.le_refl _)⟩

end Go.Proofs.Ytncebpmckbcabaa
