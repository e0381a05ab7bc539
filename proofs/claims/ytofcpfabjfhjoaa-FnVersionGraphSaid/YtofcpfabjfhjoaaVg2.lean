/-
  versionGraph of the program: the walk.
-/
import Derived.Test.YtofcpfabjfhjoaaVg1
namespace Go.Proofs.Ytofcpfabjfhjoaa
open Go.RowKit Go.BigFrame
set_option linter.unusedVariables false

/-- What the walk keeps: the rows of bits in block g, the list of survivors. -/
structure VgInv (w : World) (LA : Option Addr) (L : List Int) (g : Nat) (rows : List Nat) (rest : List Value) (wr : World) : Prop where
  below : Below w.heap.size w wr
  row : RowIs wr g 3 (intCells (rowsI rows) ++ rest)
  list : RInts wr LA L.length L
theorem VgInv.later {w wr W : World} {LA : Option Addr} {g : Nat} {L : List Int} {rows : List Nat} {rest : List Value} (h : VgInv w LA L g rows rest wr) (hb : Below wr.heap.size wr W) : VgInv w LA L g rows rest W :=
  ⟨h.below.trans (hb.mono h.below.size), h.row.below hb (Nat.le_refl _), h.list.below hb (Nat.le_refl _)⟩
theorem VgInv.drew {w wr : World} {LA : Option Addr} {g : Nat} {L : List Int} {rows : List Nat} {rest : List Value} (h : VgInv w LA L g rows rest wr) : VgInv w LA L g rows rest wr.drew := ⟨h.below.drew, h.row, h.list⟩
theorem VgInv.set {w wr : World} {LA : Option Addr} {g : Nat} {L : List Int} {rows : List Nat} {rest : List Value} {T : Nat} {u : Int} (h : VgInv w LA L g rows rest wr) (hge : w.heap.size ≤ g) (hne : ∀ ad, LA = some ad → g ≠ ad.block) (hT : T ≤ 3) (h4 : Rows4 rows) {v : Int}
    (hv : v = ((rows.getD T 0 ||| (1 <<< u.toNat) : Nat) : Int)) : VgInv w LA L g (rowSet rows T u) rest (wr.setCell ⟨g, T, none⟩ (.int .i64 v)) := by
  subst hv
  refine ⟨h.below.setCell (by simpa using hge) _, ?_, h.list.grown grown_set (fun b hb e => hne b hb (by injection e))⟩
  rw [rowsI_set]
  exact row_setInt h.row (by simp [rowsI, h4.1]; omega)
theorem VgInv.at_ {w wr : World} {LA : Option Addr} {g : Nat} {L : List Int} {rows : List Nat} {rest : List Value} (h : VgInv w LA L g rows rest wr) (h4 : Rows4 rows) {T : Nat} (hT : T ≤ 3) : wr.cell? ⟨g, T, none⟩ = some (.int .i64 ((rows.getD T 0 : Nat) : Int)) ∧ wr.frozen? ⟨g, T, none⟩ = false ∧ rows.getD T 0 < 16 := by
  obtain ⟨h1, h2⟩ := rowsI_at h4 hT
  refine ⟨h.row.cell ?_, h.row.frozen T, h2⟩
  have hl : T < (intCells (rowsI rows)).length := by simp [intCells, rowsI, h4.1]; omega
  rw [List.getElem?_append_left hl]
  exact h1
end Go.Proofs.Ytofcpfabjfhjoaa
