/-
  The first fault of a schedule, and the list of the program's rules.
-/
import Derived.Test.YtcakjhappchlmaaPkLkA
import Derived.Laws.EntriesVeiled
namespace Go.Proofs.Ytcakjhappchlmaa
open Go.RowKit Go.BigFrame
set_option linter.unusedVariables false

def faultZ (B : Nat → Bool) (n : Nat) : Int := match (List.range n).find? B with | some i => (i : Int) | none => -1
theorem faultZ_hit {B : Nat → Bool} {n k : Nat} (hk : k < n) (h : B k = true) (hno : ∀ j, j < k → B j = false) : faultZ B n = (k : Int) := by
  have : (List.range n).find? B = some k := by
    rw [List.find?_eq_some_iff_getElem]
    exact ⟨h, k, by simpa using hk, by simp, fun j hj => by simp [hno j hj]⟩
  unfold faultZ; rw [this]
theorem faultZ_none {B : Nat → Bool} {n : Nat} (hno : ∀ j, j < n → B j = false) : faultZ B n = -1 := by
  have : (List.range n).find? B = none := by
    rw [List.find?_eq_none]
    intro x hx
    rw [hno x (List.mem_range.1 hx)]; simp
  unfold faultZ; rw [this]
def FaultP (s : List OpV) (w : World) (z : Int) (e : Ending) (w' : World) : Prop := e = .returned (.tuple #[.int .i64 (if validS s then z else -1), .bool (validS s)]) ∧ Below w.heap.size w w'
theorem FaultP.no {s : List OpV} {w w' : World} {z : Int} (hv : validS s = false) (hb : Below w.heap.size w w') : FaultP s w z (.returned (.tuple #[.int .i64 (-1), .bool false])) w' := ⟨by rw [hv]; rfl, hb⟩
theorem FaultP.yes {s : List OpV} {w w' : World} {z i : Int} (hv : validS s = true) (hz : z = i) (hb : Below w.heap.size w w') : FaultP s w z (.returned (.tuple #[.int .i64 i, .bool true])) w' := ⟨by rw [hv, hz]; rfl, hb⟩
set_option maxHeartbeats 1000000 in
theorem rules_any (w : World) : Calls Try.prog 140 #[] w fun e w' => e = .returned (.slice (some ⟨w.heap.size, 0, none⟩) 5 5) ∧ w' = w.alloc (.cells #[.string { data := #[114, 101, 99, 111, 118, 101, 114, 97, 98, 108, 101] }, .func (.func 156) #[] #[], .string { data := #[99, 97, 115, 99, 97, 100, 101, 115] }, .func (.func 158) #[] #[], .string { data := #[115, 116, 114, 105, 99, 116] }, .func (.func 159) #[] #[], .string { data := #[114, 105, 103, 111, 114, 111, 117, 115] }, .func (.func 162) #[] #[], .string { data := #[99, 111, 109, 109, 105, 116, 115] }, .func (.func 163) #[] #[]] 136) := by
  go_enter Try.func140, Try.ntmps140
  go_wp2_with fail
  go_ret
  exact ⟨rfl, rfl⟩
end Go.Proofs.Ytcakjhappchlmaa
