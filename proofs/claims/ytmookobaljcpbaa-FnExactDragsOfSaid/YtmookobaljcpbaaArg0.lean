/-
  Literal slices of integers in a region that draws its order.
-/
import Derived.Test.YtmookobaljcpbaaTop0
namespace Go.Proofs.Ytmookobaljcpbaa
open Go.RowKit Go.BigFrame
set_option linter.unusedVariables false

/-- The literal slice of one number and the empty one, as they lie when the orders begin. -/
theorem lit1_own (w : World) : (w.alloc (.cells #[] 3)).ownsRow w.heap.size 3 1 (.slice (some ⟨w.heap.size, 0, none⟩) 0 0) 0 (intCells []) := World.ownsRow_made w #[] 0 (Nat.le_refl _) (by decide) rfl
theorem RInts.grownAt {w w' : World} {g n : Nat} {xs : List Int} {row : Option Nat} (h : RInts w (some ⟨g, 0, none⟩) n xs) (hg : w.grownBy w' row) (hlt : g < w.heap.size) (hne : row ≠ some g) : RInts w' (some ⟨g, 0, none⟩) n xs := by
  have hk := hg.block g hlt hne.symm
  refine ⟨h.1, h.2.1, fun hn => ?_⟩
  obtain ⟨b, off, hA, hl, hc⟩ := h.2.2 hn
  injection hA with hA
  injection hA with e1 e2 _
  subst e1; subst e2
  have hs := World.grownBy.size hg
  exact ⟨g, 0, rfl, by omega, fun i x hx => (World.cell?_of_block (w := w) (a := ⟨g, 0 + i, none⟩) hk).trans (hc i x hx)⟩
/-- The first append of a call's argument, however the region draws. -/
structure Arg1 (wi Wa : World) (ob lb : Nat) (t : Int) : Prop where
  row : Wa.ownsRow wi.heap.size 3 1 (.slice (some ⟨ob, 0, none⟩) 0 0) 0 (intCells [])
  lit : RInts Wa (some ⟨lb, 0, none⟩) 1 [t]
  ne : some ob ≠ some lb
  lt : lb < Wa.heap.size
  below : Below wi.heap.size wi Wa
theorem arg1_b (wi : World) (t : Int) : Arg1 wi ((wi.alloc (.cells #[] 3)).alloc (.cells #[.int .i64 t] 3)).drew wi.heap.size (wi.heap.size + 1) t := by
  refine ⟨((lit1_own wi).alloc _).drew, ?_, by simp, by simp, (((Below.refl _ wi).alloc (Nat.le_refl _) _).alloc (by simp) _).drew⟩
  have h := lit1 (w := wi.alloc (.cells #[] 3)) (H := wi.heap.size + 1) (by simp) t
  exact h
theorem arg1_c (wi : World) (t : Int) : Arg1 wi ((wi.alloc (.cells #[.int .i64 t] 3)).alloc (.cells #[] 3)).drew (wi.heap.size + 1) wi.heap.size t := by
  refine ⟨?_, ?_, by simp, by simp; omega, (((Below.refl _ wi).alloc (Nat.le_refl _) _).alloc (by simp) _).drew⟩
  · have h := World.ownsRow_made (base := wi.heap.size) (e := 3) (size := 1) (wi.alloc (.cells #[.int .i64 t] 3)) #[] 0 (by simp) (by decide) rfl
    rw [World.size_alloc] at h
    exact h.drew
  · have h := (lit1 (w := wi) rfl t).below ((Below.refl _ (wi.alloc (.cells #[.int .i64 t] 3))).alloc (Nat.le_refl _) (.cells #[] 3)) (Nat.le_refl _)
    exact h
end Go.Proofs.Ytmookobaljcpbaa
