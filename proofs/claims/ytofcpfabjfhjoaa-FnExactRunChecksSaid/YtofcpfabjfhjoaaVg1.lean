/-
  Rows of bits of the graph of versions: what both the program and the reference compute.
-/
import Derived.Test.YtofcpfabjfhjoaaVg0
namespace Go.Proofs.Ytofcpfabjfhjoaa
open Go.RowKit Go.BigFrame
set_option linter.unusedVariables false

def fB (s : List OpV) (L : List Int) (t u : Int) : Bool := behB L u t && ((wI s t &&& wI s u) != 0)
def vgOut (f : Int → Int → Bool) (L M : List Int) (rows : List Nat) : List Nat := M.foldl (fun r t => agIn (f t) t L r) rows
theorem vgOut_snoc {f : Int → Int → Bool} {L M : List Int} {rows : List Nat} {j : Nat} {t : Int} (h : M[j]? = some t) : vgOut f L (M.take (j + 1)) rows = agIn (f t) t L (vgOut f L (M.take j) rows) := by
  unfold vgOut
  rw [take_snoc h, List.foldl_append]; rfl
theorem vgOut_ok {f : Int → Int → Bool} {L : List Int} (hl : ∀ u ∈ L, 0 ≤ u ∧ u ≤ 3) : ∀ {M : List Int} {rows : List Nat}, Rows4 rows → Rows4 (vgOut f L M rows) := by
  intro M
  induction M with
  | nil => intro rows h; exact h
  | cons x r ih =>
    intro rows h
    exact ih (agIn_ok hl h)
def vgStep (ver : Nat → OpV → Int) (L : List Int) (rows : List Nat) (k : Nat) (o : OpV) : List Nat :=
  if o.kind == 0 && (L.any fun y => y == o.tx) && decide (0 ≤ ver k o) && (ver k o != o.tx) then rowSet rows (ver k o) o.tx else rows
def vgTo (ver : Nat → OpV → Int) (L : List Int) (s : List OpV) (rows : List Nat) : Nat → List Nat
  | 0 => rows
  | k + 1 => match s[k]? with | some o => vgStep ver L (vgTo ver L s rows k) k o | none => vgTo ver L s rows k
theorem vgTo_succ {ver : Nat → OpV → Int} {L : List Int} {s : List OpV} {rows : List Nat} {k : Nat} {o : OpV} (h : s[k]? = some o) : vgTo ver L s rows (k + 1) = vgStep ver L (vgTo ver L s rows k) k o := by simp only [vgTo, h]
theorem vgTo_ok {ver : Nat → OpV → Int} {L : List Int} {s : List OpV} {rows : List Nat} (h : Rows4 rows) (hs : ∀ o ∈ s, 0 ≤ o.tx ∧ o.tx ≤ 3) (k : Nat) : Rows4 (vgTo ver L s rows k) := by
  induction k with
  | zero => exact h
  | succ k ih =>
    simp only [vgTo]
    split
    · rename_i o ho
      unfold vgStep
      split
      · exact rowSet_ok ih (hs o (List.mem_of_getElem? ho))
      · exact ih
    · exact ih
def vgI (s : List OpV) : List Nat := vgTo (verI s (survI s)) (survI s) s (vgOut (fB s (survI s)) (survI s) (survI s) (agI4 s)) s.length
end Go.Proofs.Ytofcpfabjfhjoaa
