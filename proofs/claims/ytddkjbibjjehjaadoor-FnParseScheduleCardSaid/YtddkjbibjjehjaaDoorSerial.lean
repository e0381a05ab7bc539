/-
  IsSerial of the program.
-/
import Derived.Test.YtddkjbibjjehjaaDoorKept3
import Derived.Deep.LoopGhost
namespace Go.Proofs.YtddkjbibjjehjaaDoor
open Go.RowKit Go.BigFrame
set_option linter.unusedVariables false

/-- At index i the program finds that a transaction comes again. -/
def serBad (s : List OpV) (i : Nat) : Bool := match s[i]?, s[i - 1]? with | some o, some q => (o.tx != q.tx) && hasTx (s.take i) o.tx | _, _ => false
def isSer (s : List OpV) : Bool := (List.range s.length).all fun i => i == 0 || !serBad s i
def isSerV (s : List OpV) : Bool := isSer s && validS s

theorem isSer_bad {s : List OpV} {k : Nat} (hk : k + 1 < s.length) (h : serBad s (k + 1) = true) : isSer s = false := by
  unfold isSer
  rw [List.all_eq_false]
  exact ⟨k + 1, List.mem_range.2 hk, by simp [h]⟩
theorem isSer_end {s : List OpV} {k : Nat} (hk : s.length ≤ k + 1) (h : ∀ j, j < k → serBad s (j + 1) = false) : isSer s = true := by
  unfold isSer
  rw [List.all_eq_true]
  intro j hj
  have hj := List.mem_range.1 hj
  cases j with
  | zero => rfl
  | succ j => simp [h j (by omega)]

/-- What the loop of IsSerial carries. -/
def SerInv (w : World) (A : Option Addr) (n c : Nat) (s : List OpV) (k bi : Nat) (wr : World) : Prop :=
  Below w.heap.size w wr ∧ wr.cell? ⟨w.heap.size, 0, none⟩ = some (.slice A n c) ∧ wr.cell? ⟨bi, 0, none⟩ = some (.int .i64 ((k : Int) + 1)) ∧ wr.frozen? ⟨bi, 0, none⟩ = false ∧ w.heap.size < bi ∧ (∀ j, j < k → serBad s (j + 1) = false)

theorem SerInv.next {w wr W : World} {A : Option Addr} {n c k bi : Nat} {s : List OpV} (h : SerInv w A n c s k bi wr) (hb : Below wr.heap.size wr W) (hg : serBad s (k + 1) = false) :
    SerInv w A n c s (k + 1) W.heap.size ((W.alloc (.cells #[.int .i64 ((k : Int) + 1)] 3)).setCell ⟨W.heap.size, 0, none⟩ (.int .i64 ((k : Int) + 1 + 1))) ∧
    SerInv w A n c s (k + 1) W.heap.size (W.alloc (.cells #[.int .i64 ((k : Int) + 1 + 1)] 3)) := by
  obtain ⟨h1, h2, h3, h4, h5, h6⟩ := h
  have e : (((k + 1 : Nat) : Int) + 1) = (k : Int) + 1 + 1 := by omega
  have hlt := block_lt_of_cell h2
  have hlt3 := block_lt_of_cell h3
  have hs := hb.size
  have hbw : Below w.heap.size w W := h1.trans (hb.mono h1.size)
  simp only at hlt hlt3
  have h7 : ∀ j, j < k + 1 → serBad s (j + 1) = false := fun j hj => by
    by_cases e : j = k
    · subst e; exact hg
    · exact h6 j (by omega)
  have hc0 : W.cell? ⟨w.heap.size, 0, none⟩ = some (.slice A n c) := (hb.cell (p := ⟨w.heap.size, 0, none⟩) (by simpa using hlt)).trans h2
  unfold SerInv
  rw [e]
  refine ⟨⟨B_set (B_alloc hbw (Nat.le_refl _) _) (by omega), ?_, ?_, ?_, by omega, h7⟩, ⟨B_alloc hbw (Nat.le_refl _) _, ?_, box_at _ _ _ _ _ rfl, ?_, by omega, h7⟩⟩
  · rw [World.cell?_setCell_other _ _ _ _ (by simp <;> omega), World.cell?_alloc_lt _ _ _ (by simp <;> omega)]; exact hc0
  · have : ((W.alloc (.cells #[.int .i64 ((k : Int) + 1)] 3)).setCell ⟨W.heap.size, 0, none⟩ (.int .i64 ((k : Int) + 1 + 1))).heap[W.heap.size]? = some (.cells #[.int .i64 ((k : Int) + 1 + 1)] 3 (0, 0)) := one_setCell (heap_alloc_new W _)
    exact cell_of_one this
  · have : ((W.alloc (.cells #[.int .i64 ((k : Int) + 1)] 3)).setCell ⟨W.heap.size, 0, none⟩ (.int .i64 ((k : Int) + 1 + 1))).heap[W.heap.size]? = some (.cells #[.int .i64 ((k : Int) + 1 + 1)] 3 (0, 0)) := one_setCell (heap_alloc_new W _)
    exact free_of_one this
  · rw [World.cell?_alloc_lt _ _ _ (by simp <;> omega)]; exact hc0
  · exact free_of_one (v := .int .i64 ((k : Int) + 1 + 1)) (t := 3) (heap_alloc_new W _)

end Go.Proofs.YtddkjbibjjehjaaDoor
