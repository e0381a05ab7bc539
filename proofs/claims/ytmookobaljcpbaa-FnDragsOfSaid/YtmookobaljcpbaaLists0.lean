/-
  Lists of lists of integers in memory.
-/
import Derived.Test.YtmookobaljcpbaaLaw0
import Derived.Test.YtmookobaljcpbaaRows0
namespace Go.Proofs.Ytmookobaljcpbaa
open Go.RowKit Go.BigFrame
set_option linter.unusedVariables false

/-- The slice value reads as a list of lists. -/
def RLists (w : World) (A : Option Addr) (n : Nat) (xss : List (List Int)) : Prop :=
  xss.length = n ∧ n ≤ 1099511627776 ∧ (0 < n → ∃ b off, A = some ⟨b, off, none⟩ ∧ b < w.heap.size ∧ ∀ i xs, xss[i]? = some xs →
    ∃ B m c, w.cell? ⟨b, off + i, none⟩ = some (.slice B m c) ∧ m ≤ c ∧ RInts w B m xs)
theorem RLists.nil {w : World} {A : Option Addr} : RLists w A 0 [] := ⟨rfl, by omega, fun h => absurd h (by omega)⟩
theorem RLists.below {w w' : World} {A : Option Addr} {n : Nat} {xss : List (List Int)} (h : RLists w A n xss) {B : Nat} (hb : Below B w w') (hB : w.heap.size ≤ B) : RLists w' A n xss := by
  obtain ⟨h1, h2, h3⟩ := h
  refine ⟨h1, h2, fun hn => ?_⟩
  obtain ⟨b, off, hA, hlt, hc⟩ := h3 hn
  have hs := hb.size
  refine ⟨b, off, hA, by omega, fun i xs hi => ?_⟩
  obtain ⟨C, m, c, e, hmc, hr⟩ := hc i xs hi
  exact ⟨C, m, c, (hb.cell (p := ⟨b, _, none⟩) (by simp; omega)).trans e, hmc, hr.below hb hB⟩
theorem RLists.at_ {w : World} {A : Option Addr} {n : Nat} {xss : List (List Int)} (h : RLists w A n xss) {k : Nat} (hk : k < n) : ∃ b off xs B m c, A = some ⟨b, off, none⟩ ∧ b < w.heap.size ∧ xss[k]? = some xs ∧
    w.cell? ⟨b, off + k, none⟩ = some (.slice B m c) ∧ m ≤ c ∧ RInts w B m xs := by
  obtain ⟨h1, h2, h3⟩ := h
  obtain ⟨b, off, hA, hlt, hc⟩ := h3 (by omega)
  have e : xss[k]? = some (xss[k]'(by omega)) := List.getElem?_eq_getElem (by omega)
  obtain ⟨B, m, c, r⟩ := hc k _ e
  exact ⟨b, off, _, B, m, c, hA, hlt, e, r⟩
theorem RLists.lit1 {w : World} {H : Nat} (hH : w.heap.size = H) {T : TypeId} {B : Option Addr} {m c : Nat} {xs : List Int} (hmc : m ≤ c) (hr : RInts w B m xs) : RLists (w.alloc (.cells #[.slice B m c] T)) (some ⟨H, 0, none⟩) 1 [xs] := by
  subst hH
  refine ⟨rfl, by omega, fun _ => ⟨w.heap.size, 0, rfl, by simp, fun i xs' hi => ?_⟩⟩
  match i, hi with
  | 0, hi =>
    simp only [List.getElem?_cons_zero, Option.some.injEq] at hi
    subst hi
    exact ⟨B, m, c, box_at _ _ _ _ _ (by simp), hmc, hr.below ((Below.refl _ w).alloc (Nat.le_refl _) _) (Nat.le_refl _)⟩
  | i + 1, hi => simp at hi

end Go.Proofs.Ytmookobaljcpbaa
