/-
  runChecks of the reference: the walk.
-/
import Derived.Test.YtofcpfabjfhjoaaRc0
import Derived.Test.YtofcpfabjfhjoaaRows1
import Derived.Test.YtofcpfabjfhjoaaSpec3
namespace Go.Proofs.Ytofcpfabjfhjoaa
open Go.RowKit Go.BigFrame
set_option linter.unusedVariables false

theorem rcTo_items (s : List OpV) (k : Nat) : ∀ c ∈ (rcTo s k).2.2, ∃ j : Nat, j < k ∧ c.item = (j : Int) := by
  induction k with
  | zero => intro c hc; cases hc
  | succ k ih =>
    have hold : ∀ c ∈ (rcTo s k).2.2, ∃ j : Nat, j < k + 1 ∧ c.item = (j : Int) := fun c hc => by
      obtain ⟨j, hj, e⟩ := ih c hc; exact ⟨j, by omega, e⟩
    simp only [rcTo]
    cases s[k]? with
    | none => exact hold
    | some o =>
      simp only [rcStep]
      split
      · exact hold
      · split
        · split
          · exact hold
          · intro c hc
            simp only [List.mem_append, List.mem_singleton] at hc
            rcases hc with hc | rfl
            · exact hold c hc
            · exact ⟨k, by omega, rfl⟩
        · exact hold
def rcHit (s : List OpV) (i : Nat) (o c : OpV) (x : Int) : Bool := decide ((stampN s o.tx : Int) < c.item) && touchB s i o.tx 0 x && touchB s c.item.toNat c.tx 1 x
def rcOne (s : List OpV) (i : Nat) (o c : OpV) : Bool := [(0 : Int), 1, 2].any (rcHit s i o c)
def rcUp (s : List OpV) (i : Nat) (o c : OpV) : Nat → Bool
  | 0 => false
  | x + 1 => rcUp s i o c x || rcHit s i o c (x : Int)
theorem rcUp_three (s : List OpV) (i : Nat) (o c : OpV) : rcUp s i o c 3 = rcOne s i o c := by
  unfold rcOne
  simp [rcUp, Bool.or_assoc]
theorem rcBad_snoc {s C : List OpV} {i : Nat} {o c : OpV} {q : Nat} (h : C[q]? = some c) : rcBad s (C.take (q + 1)) i o = (rcBad s (C.take q) i o || rcOne s i o c) := by
  unfold rcBad
  rw [take_snoc h, List.any_append]
  congr 1
  simp [rcOne, rcHit]

/-- What the walk keeps. -/
structure RcS (w : World) (D : List OpV) (K : List Int) (C : List OpV) (dv kv cv : Value) (nd nk nc : Nat) (wr : World) : Prop where
  below : Below w.heap.size w wr
  done : wr.ownsRow w.heap.size 46 3 dv nd (opCells D)
  dead : wr.ownsRow w.heap.size 3 1 kv nk (intCells K)
  comm : wr.ownsRow w.heap.size 46 3 cv nc (opCells C)
  sep : ∀ b, dv.ownBlock = some b → cv.ownBlock ≠ some b
section
variable {w wr w' : World} {nd nk nc : Nat} {D C : List OpV} {K : List Int} {dv kv cv : Value}
theorem RcS.later (h : RcS w D K C dv kv cv nd nk nc wr) (hb : Below wr.heap.size wr w') : RcS w D K C dv kv cv nd nk nc w' :=
  ⟨h.below.trans (hb.mono h.below.size), own_below h.done hb, own_below h.dead hb, own_below h.comm hb, h.sep⟩
theorem RcS.grownDone (h : RcS w D K C dv kv cv nd nk nc wr) {D' : List OpV} {dv' : Value} {nd' M : Nat} (hg : wr.grownBy w' dv.ownBlock) (ho : w'.ownsRow w.heap.size 46 3 dv' nd' (opCells D')) (hat : dv'.ownBlock = dv.ownBlock ∨ dv'.ownBlock = some M) (hM : wr.heap.size ≤ M) : RcS w D' K C dv' kv cv nd' nk nc w' :=
  ⟨Below.own h.below h.done (Nat.le_refl _) hg, ho, own_apart h.dead h.done (fun e => op_ne_int e.symm) hg, own_grown h.comm hg (fun b e => h.sep b e), by
    intro b hb
    rcases hat with e | e
    · rw [e] at hb; exact h.sep b hb
    · rw [e] at hb; injection hb with hb; subst hb; exact own_lt h.comm hM⟩
theorem RcS.grownDead (h : RcS w D K C dv kv cv nd nk nc wr) {K' : List Int} {kv' : Value} {nk' : Nat} (hg : wr.grownBy w' kv.ownBlock) (ho : w'.ownsRow w.heap.size 3 1 kv' nk' (intCells K')) : RcS w D K' C dv kv' cv nd nk' nc w' :=
  ⟨Below.own h.below h.dead (Nat.le_refl _) hg, own_apart h.done h.dead op_ne_int hg, ho, own_apart h.comm h.dead op_ne_int hg, h.sep⟩
theorem RcS.grownComm (h : RcS w D K C dv kv cv nd nk nc wr) {C' : List OpV} {cv' : Value} {nc' M : Nat} (hg : wr.grownBy w' cv.ownBlock) (ho : w'.ownsRow w.heap.size 46 3 cv' nc' (opCells C')) (hat : cv'.ownBlock = cv.ownBlock ∨ cv'.ownBlock = some M) (hM : wr.heap.size ≤ M) : RcS w D K C' dv kv cv' nd nk nc' w' :=
  ⟨Below.own h.below h.comm (Nat.le_refl _) hg, own_grown h.done hg (fun b e e2 => h.sep b e2 e), own_apart h.dead h.comm (fun e => op_ne_int e.symm) hg, ho, by
    intro b hb
    rcases hat with e | e
    · rw [e]; exact h.sep b hb
    · rw [e]; intro e2; injection e2 with e2; subst e2; exact own_lt h.done hM hb⟩
end
end Go.Proofs.Ytofcpfabjfhjoaa
