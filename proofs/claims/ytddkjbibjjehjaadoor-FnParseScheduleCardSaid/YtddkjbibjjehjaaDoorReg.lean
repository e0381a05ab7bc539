/-
  A region that draws its order, whose calls make memory but change none: one walk in the order of the text serves every order.
-/
import Derived.Test.YtddkjbibjjehjaaDoorBase
namespace Go.Proofs.YtddkjbibjjehjaaDoor
open Go.RowKit Go.BigFrame
set_option linter.unusedVariables false

/-- The worlds that a world may have become: below its size nothing has changed. -/
def Later (W : World) : Type := {u : World // Below W.heap.size W u}
instance (W : World) : Nonempty (Later W) := ⟨⟨W, Below.refl _ _⟩⟩
theorem Later.cell {W : World} {b o : Nat} {v : Value} (h : W.cell? ⟨b, o, none⟩ = some v) : ∀ u : Later W, u.1.cell? ⟨b, o, none⟩ = some v := fun u =>
  (u.2.cell (p := ⟨b, o, none⟩) (block_lt_of_cell h)).trans h
theorem Later.below_ {W : World} {B : Nat} (u : Later W) (h : B ≤ W.heap.size) : Below B W u.1 := u.2.mono h
theorem Later.size {W : World} (u : Later W) : W.heap.size ≤ u.1.heap.size := u.2.size

section
variable {P : Program}
theorem region_later {id : Nat} {Q : Exit → Act → World → Prop} {a : Act} {w : World} {l : List Oper} (hm : P.follows .mixedOrders = true) (hB : Region.lexB .any l.toArray = true)
    (h : wpQuiet P l.toArray (fun w' => ∃ u : Later w, w' = u.1) (fun a' => ∀ w', (∃ u : Later w, w' = u.1) → Q .normal a' w') l a) : (Code.region id l.toArray true).wp P Q a w :=
  wp_region_quiet (C := fun w' => ∃ u : Later w, w' = u.1) hm hB ⟨⟨w.drew, (Below.refl _ _).drew⟩, rfl⟩ (by simpa using h)

/-- A call that hands back v and makes memory. -/
theorem later_call {f : FuncId} {args : Array Value} {W : World} {v : Value} (u : Later W) (h : Calls P f args u.1 fun e w' => e = .returned v ∧ Below u.1.heap.size u.1 w') :
    Calls P f args u.1 fun e w' => e = .returned v ∧ ∃ u' : Later W, w' = u'.1 :=
  h.mono fun _ _ ⟨he, hb⟩ => ⟨he, ⟨_, u.2.trans (hb.mono u.2.size)⟩, rfl⟩
theorem later_same {f : FuncId} {args : Array Value} {W : World} {v : Value} (u : Later W) (h : Calls P f args u.1 fun e w' => e = .returned v ∧ u.1 = w') :
    Calls P f args u.1 fun e w' => e = .returned v ∧ ∃ u' : Later W, w' = u'.1 :=
  h.mono fun _ _ ⟨he, hb⟩ => ⟨he, u, hb.symm⟩
theorem ROps.later {W : World} {A : Option Addr} {n : Nat} {xs : List OpV} (h : ROps W A n xs) (u : Later W) : ROps u.1 A n xs := h.below u.2 (Nat.le_refl _)
theorem RInts.later {W : World} {A : Option Addr} {n : Nat} {xs : List Int} (h : RInts W A n xs) (u : Later W) : RInts u.1 A n xs := h.below u.2 (Nat.le_refl _)
end

theorem box_at (w : World) (cs : Array Value) (T : TypeId) (i : Nat) (v : Value) (h : cs[i]? = some v) : (w.alloc (.cells cs T)).cell? ⟨w.heap.size, i, none⟩ = some v := by
  rw [cell_of_row _ _ _ _ _ (0, 0) (heap_alloc_new w _)]; exact h
/-- A new box of an operation: its cells in whatever the world may become. -/
theorem op_box {W wr : World} {t k i : Int} {T : TypeId} (hW : W = wr.alloc (.cells #[.int .i64 t, .int .i64 k, .int .i64 i] T)) :
    (∀ u : Later W, u.1.cell? ⟨wr.heap.size, 0, none⟩ = some (.int .i64 t)) ∧ (∀ u : Later W, u.1.cell? ⟨wr.heap.size, 1, none⟩ = some (.int .i64 k)) ∧ (∀ u : Later W, u.1.cell? ⟨wr.heap.size, 2, none⟩ = some (.int .i64 i)) ∧
    Below wr.heap.size wr W ∧ wr.heap.size < W.heap.size := by
  subst hW
  exact ⟨Later.cell (box_at _ _ _ _ _ rfl), Later.cell (box_at _ _ _ _ _ rfl), Later.cell (box_at _ _ _ _ _ rfl), (Below.refl _ _).alloc (Nat.le_refl _) _, by simp⟩
theorem Later.trans {w wr W : World} (h : Below w.heap.size w wr) (h1 : Below wr.heap.size wr W) (u : Later W) : Below w.heap.size w u.1 := (h.trans (h1.mono h.size)).trans (u.2.mono (Nat.le_trans h.size h1.size))
end Go.Proofs.YtddkjbibjjehjaaDoor
