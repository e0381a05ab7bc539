/-
  Ascending lists; what sorting gives.
-/
import Derived.Test.YtmookobaljcpbaaPerm0
import Derived.Test.YtmookobaljcpbaaKept
namespace Go.Proofs.Ytmookobaljcpbaa
open Go.RowKit Go.BigFrame
set_option linter.unusedVariables false


theorem FreshInts.blk {w0 w : World} {A : Option Addr} {n : Nat} {xs : List Int} (h : FreshInts w0 w A n xs) : ∀ ad, A = some ad → ad.block < w.heap.size := fun ad had => by
  obtain ⟨b, cur, e, _, h2, _⟩ := h.2 ad had
  rw [e]; exact lt_of_block h2
theorem asc_unique : ∀ {l1 l2 : List Int}, l1.Pairwise (fun a b => a < b) → l2.Pairwise (fun a b => a < b) → (∀ x, x ∈ l1 ↔ x ∈ l2) → l1 = l2 := by
  intro l1
  induction l1 with
  | nil =>
    intro l2 _ _ h
    cases l2 with
    | nil => rfl
    | cons y r => exact absurd ((h y).2 (by simp)) (by simp)
  | cons x r ih =>
    intro l2 h1 h2 h
    cases l2 with
    | nil => exact absurd ((h x).1 (by simp)) (by simp)
    | cons y q =>
      rw [List.pairwise_cons] at h1 h2
      have hxy : x = y := by
        rcases List.mem_cons.1 ((h x).1 (by simp)) with e | hx
        · exact e
        · rcases List.mem_cons.1 ((h y).2 (by simp)) with e | hy
          · exact e.symm
          · have := h2.1 x hx; have := h1.1 y hy; omega
      subst hxy
      rw [ih h1.2 h2.2 (fun z => ?_)]
      constructor
      · intro hz
        rcases List.mem_cons.1 ((h z).1 (by simp [hz])) with e | hq
        · have := h1.1 z hz; omega
        · exact hq
      · intro hz
        rcases List.mem_cons.1 ((h z).2 (by simp [hz])) with e | hq
        · have := h2.1 z hz; omega
        · exact hq
/-- The transactions of a list, ascending. -/
def ascOf (L : List Int) : List Int := [(0 : Int), 1, 2, 3].filter fun t => L.any fun y => y == t
theorem ascOf_asc (L : List Int) : (ascOf L).Pairwise (fun a b => a < b) := List.Pairwise.filter _ (by decide)
theorem ascOf_mem {L : List Int} (h : ∀ u ∈ L, 0 ≤ u ∧ u ≤ 3) (t : Int) : t ∈ ascOf L ↔ t ∈ L := by
  unfold ascOf
  rw [List.mem_filter, any_mem_iff]
  refine ⟨fun h => h.2, fun ht => ⟨?_, ht⟩⟩
  have := h t ht
  have : t = 0 ∨ t = 1 ∨ t = 2 ∨ t = 3 := by omega
  rcases this with rfl | rfl | rfl | rfl <;> simp
theorem ascOf_nodup (L : List Int) : (ascOf L).Nodup := (ascOf_asc L).imp (fun h => by omega)
theorem ascOf_rng (L : List Int) : ∀ t ∈ ascOf L, 0 ≤ t ∧ t ≤ 3 := by
  intro t ht
  have := (List.mem_filter.1 ht).1
  simp at this
  omega
theorem ascOf_len (L : List Int) : (ascOf L).length ≤ 4 := Nat.le_trans (List.length_filter_le _ _) (by simp)
theorem sort_asc {L : List Int} (hd : L.Nodup) (h : ∀ u ∈ L, 0 ≤ u ∧ u ≤ 3) : (L.mergeSort fun x y => decide (x ≤ y)) = ascOf L := by
  have hp : (L.mergeSort fun x y => decide (x ≤ y)).Perm L := List.mergeSort_perm _ _
  have hs : (L.mergeSort fun x y => decide (x ≤ y)).Pairwise (fun a b => decide (a ≤ b) = true) := List.pairwise_mergeSort (by intro a b c; simp; omega) (by intro a b; simp; omega) L
  have hn : (L.mergeSort fun x y => decide (x ≤ y)).Nodup := hp.nodup_iff.2 hd
  refine asc_unique ?_ (ascOf_asc L) (fun x => ?_)
  · refine (hs.and hn).imp ?_
    intro a b ⟨h1, h2⟩
    have : a ≤ b := by simpa using h1
    omega
  · rw [hp.mem_iff, ascOf_mem h]
end Go.Proofs.Ytmookobaljcpbaa
