/-
  What the program keeps of a schedule: txsOf and the exported faces TxsOf, EndOf, CommittedOf.
-/
import Derived.Test.YtddkjbibjjehjaaDoorKept2
namespace Go.Proofs.YtddkjbibjjehjaaDoor
open Go.RowKit Go.BigFrame
set_option linter.unusedVariables false

def txsTo (s : List OpV) (k : Nat) : List Int := ((List.range k).map fun i : Nat => (i : Int)).filter fun t => hasTx s t
theorem txsTo_succ (s : List OpV) (k : Nat) : txsTo s (k + 1) = txsTo s k ++ if hasTx s (k : Int) = true then [(k : Int)] else [] := by
  unfold txsTo
  rw [List.range_succ, List.map_append, List.filter_append]
  simp [List.filter_cons]
theorem txsTo_four (s : List OpV) : txsTo s 4 = txsOf s := rfl

def orNil {α : Type} (b : Bool) (xs : List α) : List α := if b then xs else []
def endOfV (s : List OpV) (t : Int) : Int := if validS s then endOf s t else -1
theorem RetInts.later {w W w' : World} {xs : List Int} {e : Ending} (hb : Below w.heap.size w W) (h : RetInts W xs e w') : RetInts w xs e w' := by
  obtain ⟨A', c', rfl, hc', ⟨h1, h2⟩, hb'⟩ := h
  have hs := hb.size
  exact ⟨A', c', rfl, hc', ⟨h1, fun ad had => by obtain ⟨b, cur, h3, h4, h5⟩ := h2 ad had; exact ⟨b, cur, h3, by omega, h5⟩⟩, hb.trans (hb'.mono hs)⟩
theorem RetOps.later {w W w' : World} {xs : List OpV} {e : Ending} (hb : Below w.heap.size w W) (h : RetOps W xs e w') : RetOps w xs e w' := by
  obtain ⟨A', c', rfl, hc', ⟨h1, h2⟩, hb'⟩ := h
  have hs := hb.size
  exact ⟨A', c', rfl, hc', ⟨h1, fun ad had => by obtain ⟨b, cur, h3, h4, h5⟩ := h2 ad had; exact ⟨b, cur, h3, by omega, h5⟩⟩, hb.trans (hb'.mono hs)⟩


end Go.Proofs.YtddkjbibjjehjaaDoor
