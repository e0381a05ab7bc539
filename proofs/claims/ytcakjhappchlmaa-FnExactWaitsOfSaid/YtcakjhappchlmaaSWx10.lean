/-
  Texts that the proof rests on, joined: part 10.
-/
import Derived.Deep.LoopGhost
import Derived.Lib.SliceRun
import Derived.LoopIn
import Derived.LoopNIn
import Derived.Maps.AppendAt
import Derived.OwnWalkIn
import Derived.RangeFuncBound
import Derived.RangeFuncBox
import Derived.RangeFuncCalls
import Derived.RangeFuncLeaves
import Derived.RangeFuncNested
import Derived.RangeFuncWrites
import Derived.Shelf.Abstract
import Derived.Shelf.RegionOpen
import Derived.Shelf.SortM.Plain
import Derived.Shelf.SortM.SortNone
import Derived.Sort.OwnSortedInts
import Derived.TacticsInMore
import Derived.Test.YtcakjhappchlmaaRows
import Derived.WalkKit
import Derived.Test.YtcakjhappchlmaaSWx5
import Derived.Test.YtcakjhappchlmaaSWx7
import Derived.Test.YtcakjhappchlmaaSWx8
import Derived.Test.YtcakjhappchlmaaSWx9
namespace Go.Proofs.Ytcakjhappchlmaa
open Go.RowKit
set_option linter.unusedVariables false

/-- The program's search from t, behind a path. -/
def cirF (R : List Nat) : Nat → List Int → List Int → Int → List Int
  | 0, _, best, _ => best
  | m + 1, path, best, t =>
    [0, 1, 2, 3].foldl (fun b u => if edgeB R t u && decide ((path ++ [t]).headD 0 < u) && !((path ++ [t]).any fun y => y == u) then cirF R m (path ++ [t]) b u else b)
      (if edgeB R t ((path ++ [t]).headD 0) && (best.isEmpty || decide ((path ++ [t]).length < best.length)) then path ++ [t] else best)
def cirT (R : List Nat) : List Int := [0, 1, 2, 3].foldl (fun b t => cirF R 4 [] b t) []
/-- The first that is not empty. -/
def firstNE : List (List Int) → List Int
  | [] => []
  | x :: r => if x.isEmpty then firstNE r else x
/-- The reference's search: m more to come. -/
def cyF (R : List Nat) : Nat → List Int → List Int
  | 0, head => if edgeB R (head.getLastD 0) (head.headD 0) then head else []
  | m + 1, head => firstNE ([0, 1, 2, 3].map fun t => if decide (head.headD 0 < t) && !(head.any fun y => y == t) && edgeB R (head.getLastD 0) t then cyF R m (head ++ [t]) else [])
def cycT (R : List Nat) : List Int := firstNE ([1, 2, 3].flatMap fun m => [0, 1, 2, 3].map fun t => cyF R m [t])
/-- Whether a list goes round, the least one first, none twice. -/
def roundB (R : List Nat) (c : List Int) : Bool := decide (2 ≤ c.length) && (List.range c.length).all fun i =>
  edgeB R (c.getD i 0) (c.getD ((i + 1) % c.length) 0) && decide (c.headD 0 ≤ c.getD i 0) && !((c.take i).any fun y => y == c.getD i 0) && decide (0 ≤ c.getD i 0) && decide (c.getD i 0 ≤ 3)
/-- Each set of the four has one that none of it is ahead of. -/
def srcB (R : List Nat) : Bool := (List.range 15).all fun m => (List.range 4).any fun t => (m + 1).testBit t && (List.range 4).all fun v => !((m + 1).testBit v) || !edgeB R (v : Int) (t : Int)
def cycOk (R : List Nat) : Bool := (cirT R == cycT R) && (if (cycT R).isEmpty then srcB R else roundB R (cycT R)) && decide ((cycT R).length ≤ 4)
def allB (a : Nat) : Bool := (List.range 16).all fun b => b.testBit 1 || (List.range 16).all fun c => c.testBit 2 || (List.range 16).all fun d => d.testBit 3 || cycOk [a, b, c, d]
set_option maxRecDepth 100000 in
theorem cyc0 : allB 0 = true := by decide +kernel
set_option maxRecDepth 100000 in
theorem cyc2 : allB 2 = true := by decide +kernel
set_option maxRecDepth 100000 in
theorem cyc4 : allB 4 = true := by decide +kernel
set_option maxRecDepth 100000 in
theorem cyc6 : allB 6 = true := by decide +kernel
set_option maxRecDepth 100000 in
theorem cyc8 : allB 8 = true := by decide +kernel
set_option maxRecDepth 100000 in
theorem cyc10 : allB 10 = true := by decide +kernel
set_option maxRecDepth 100000 in
theorem cyc12 : allB 12 = true := by decide +kernel
set_option maxRecDepth 100000 in
theorem cyc14 : allB 14 = true := by decide +kernel

theorem all16 {f : Nat → Bool} (h : (List.range 16).all f = true) {a : Nat} (ha : a < 16) : f a = true := List.all_eq_true.1 h a (List.mem_range.2 ha)
theorem cyc_ok {R : List Nat} (h4 : Rows4 R) (hd : ∀ t : Nat, t < 4 → (R.getD t 0).testBit t = false) : cycOk R = true := by
  obtain ⟨hl, hr⟩ := h4
  match R, hl with
  | [a, b, c, d], _ =>
    have ha := hr a (by simp)
    have hb := hr b (by simp)
    have hc := hr c (by simp)
    have hdd := hr d (by simp)
    have da := hd 0 (by omega)
    have db := hd 1 (by omega)
    have dc := hd 2 (by omega)
    have de := hd 3 (by omega)
    simp only [List.getD_cons_zero, List.getD_cons_succ] at da db dc de
    have hA : allB a = true := by
      have ha2 : a % 2 = 0 := by
        rw [Nat.testBit_zero] at da
        simp at da
        omega
      rcases (by omega : a = 0 ∨ a = 2 ∨ a = 4 ∨ a = 6 ∨ a = 8 ∨ a = 10 ∨ a = 12 ∨ a = 14) with rfl | rfl | rfl | rfl | rfl | rfl | rfl | rfl
      · exact cyc0
      · exact cyc2
      · exact cyc4
      · exact cyc6
      · exact cyc8
      · exact cyc10
      · exact cyc12
      · exact cyc14
    unfold allB at hA
    have h1 := all16 hA hb
    rw [db, Bool.false_or] at h1
    have h2 := all16 h1 hc
    rw [dc, Bool.false_or] at h2
    have h3 := all16 h2 hdd
    rw [de, Bool.false_or] at h3
    exact h3
theorem diag_bit {R : List Nat} (hd : ∀ t : Int, 0 ≤ t → edgeB R t t = false) : ∀ t : Nat, t < 4 → (R.getD t 0).testBit t = false := fun t _ => by
  have := hd (t : Int) (by omega)
  unfold edgeB at this
  rw [Int.toNat_natCast] at this
  exact this
theorem cir_eq {R : List Nat} (h4 : Rows4 R) (hd : ∀ t : Int, 0 ≤ t → edgeB R t t = false) : cirT R = cycT R := by
  have := cyc_ok h4 (diag_bit hd)
  unfold cycOk at this
  simp only [Bool.and_eq_true, beq_iff_eq] at this
  exact this.1.1
theorem cyc_len {R : List Nat} (h4 : Rows4 R) (hd : ∀ t : Int, 0 ≤ t → edgeB R t t = false) : (cycT R).length ≤ 4 := by
  have := cyc_ok h4 (diag_bit hd)
  unfold cycOk at this
  simp only [Bool.and_eq_true, decide_eq_true_eq] at this
  exact this.2
theorem cyc_round {R : List Nat} (h4 : Rows4 R) (hd : ∀ t : Int, 0 ≤ t → edgeB R t t = false) (h : cycT R ≠ []) : roundB R (cycT R) = true := by
  have := cyc_ok h4 (diag_bit hd)
  unfold cycOk at this
  simp only [Bool.and_eq_true] at this
  have := this.1.2
  rw [if_neg (by simpa using h)] at this
  exact this
theorem cyc_at {R : List Nat} (h4 : Rows4 R) (hd : ∀ t : Int, 0 ≤ t → edgeB R t t = false) (h : cycT R ≠ []) {i : Nat} (hi : i < (cycT R).length) :
    2 ≤ (cycT R).length ∧ edgeB R ((cycT R).getD i 0) ((cycT R).getD ((i + 1) % (cycT R).length) 0) = true ∧ (cycT R).headD 0 ≤ (cycT R).getD i 0 ∧ (((cycT R).take i).any fun y => y == (cycT R).getD i 0) = false ∧ 0 ≤ (cycT R).getD i 0 ∧ (cycT R).getD i 0 ≤ 3 := by
  have hb := cyc_round h4 hd h
  generalize cycT R = c at *
  unfold roundB at hb
  rw [Bool.and_eq_true, decide_eq_true_eq, List.all_eq_true] at hb
  have h3 := hb.2 i (List.mem_range.2 hi)
  simp only [Bool.and_eq_true, decide_eq_true_eq, Bool.not_eq_true'] at h3
  exact ⟨hb.1, h3.1.1.1.1, h3.1.1.1.2, h3.1.1.2, h3.1.2, h3.2⟩
end Go.Proofs.Ytcakjhappchlmaa
