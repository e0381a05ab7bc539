/-
  slices.Sort of a slice of integers that begins anywhere in its block.
-/
import Derived.Test.YtmookobaljcpbaaKept3
import Derived.Test.YtmookobaljcpbaaRows0
import Derived.Test.YtmookobaljcpbaaSort0
import Derived.Shelf.SortM.SortNone
import Derived.Sort.OwnSortedInts
namespace Go.Proofs.Ytmookobaljcpbaa
open Go.RowKit Go.BigFrame Go.Shelf Go.Sort
set_option linter.unusedVariables false

/-- The slice is sorted in place. -/
theorem SortI_any (b off n c : Nat) (xs : List Int) (w : World) {cur : Array Value} {T : TypeId} (hx : RInts w (some ⟨b, off, none⟩) n xs) (hblk : w.heap[b]? = some (.cells cur T (0, 0))) :
    Calls Try.prog 66 #[.slice (some ⟨b, off, none⟩) n c] w fun e w' =>
      e = .returned (.tuple #[]) ∧ RInts w' (some ⟨b, off, none⟩) n (xs.mergeSort fun x y => decide (x ≤ y)) ∧ Below b w w' := by
  obtain ⟨h1, h2, h3⟩ := hx
  have hbl : b < w.heap.size := lt_of_block hblk
  have hH : Sort.Holds (Value.int .i64) w b off xs.toArray := by
    intro j hj
    have hj' : j < xs.length := by simpa using hj
    obtain ⟨b', off', e, _, hc⟩ := h3 (by omega)
    injection e with e; injection e with e1 e2 _; subst e1; subst e2
    refine ⟨?_, by simp [World.frozen?, hblk]⟩
    rw [hc j xs[j] (List.getElem?_eq_getElem hj')]
    simp [hj']
  have := AnyM.slices_Sort_int mSort b off c xs w hH hbl (by omega)
  rw [h1] at this
  refine this.mono ?_
  rintro e w' ⟨rfl, k, os, rfl⟩
  have hsl : (xs.mergeSort fun x y => decide (x ≤ y)).length = n := by rw [List.length_mergeSort]; exact h1
  refine ⟨rfl, ⟨hsl, h2, fun hn => ⟨b, off, rfl, by simp; omega, fun i x hx => ?_⟩⟩, ?_⟩
  · have hi := (List.getElem?_eq_some_iff.1 hx).1
    rw [cell?_grow _ _ _ (by simpa using hbl), cell?_putRow (Value.int .i64) (Sort.ahead w k) b off xs.toArray _ (holds_ahead _ _ _ _ _ _ hH) (by simp) i (by simpa using hi)]
    simp [hx]
  · refine ⟨rfl, rfl, rfl, by simp, fun k' hk' => ?_⟩
    rw [heap_grow_old _ _ (by simp; omega)]
    have : b ≠ k' := by omega
    simp [putRow, mapBlock, Sort.ahead, Array.getElem?_modify, this]
end Go.Proofs.Ytmookobaljcpbaa
