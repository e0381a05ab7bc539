/-
  Powers of two and bits; whether a list has a number, and where.
-/
import Derived.Test.YtmookobaljcpbaaSched
namespace Go.Proofs.Ytmookobaljcpbaa
open Go.RowKit Go.BigFrame
set_option linter.unusedVariables false

/-- The place of a number in a list, -1 if it is not there. -/
def idxZ (xs : List Int) (x : Int) : Int := if xs.any (fun y => y == x) then (xs.findIdx (fun y => y == x) : Int) else -1
theorem idxZ_hit {xs : List Int} {x y : Int} {k : Nat} (ho : xs[k]? = some y) (h : (y == x) = true) (hno : ∀ j, j < k → ∀ y, xs[j]? = some y → (y == x) = false) : idxZ xs x = (k : Int) := by
  obtain ⟨hk, he⟩ := List.getElem?_eq_some_iff.1 ho
  have h1 : xs.any (fun y => y == x) = true := List.any_eq_true.2 ⟨y, List.mem_of_getElem? ho, h⟩
  have h2 : xs.findIdx (fun y => y == x) = k := by
    rw [List.findIdx_eq hk]
    exact ⟨by rw [he]; exact h, fun j hj => by have := hno j hj _ (List.getElem?_eq_getElem (by omega)); exact this⟩
  unfold idxZ
  rw [h1, h2]; rfl
theorem idxZ_none {xs : List Int} {x : Int} (hno : ∀ j, j < xs.length → ∀ y, xs[j]? = some y → (y == x) = false) : idxZ xs x = -1 := by
  unfold idxZ
  have : xs.any (fun y => y == x) = false := by
    rw [List.any_eq_false]
    intro o ho
    obtain ⟨j, hj⟩ := List.mem_iff_getElem?.1 ho
    have hl : j < xs.length := (List.getElem?_eq_some_iff.1 hj).1
    simp [hno j hl o hj]
  rw [this]; rfl
theorem idxZ_any (xs : List Int) (x : Int) : if (xs.any fun y => y == x) = true then 0 ≤ idxZ xs x else idxZ xs x = -1 := by
  unfold idxZ
  split
  · omega
  · rfl


set_option maxHeartbeats 400000 in
theorem hasInt_any (A : Option Addr) (n c : Nat) (xs : List Int) (x : Int) (w : World) (hx : RInts w A n xs) :
    Calls Try.prog 61 #[.slice A n c, .int .i64 x] w fun e w' => e = .returned (.bool (xs.any fun y => y == x)) ∧ Below w.heap.size w w' := by
  have hn := hx.2.1
  have hl := hx.1
  have HX := Lib.hid hx
  clear hx
  go_enter Try.func61, Try.ntmps61
  go_wp2_with fail
  go_loop [5] (fun i => ∃ k : Nat, k ≤ n ∧ i = .int .i64 k ∧ ((xs.take k).any fun y => y == x) = false) (fun i => n - (intOf i).toNat)
  case atStart => exact ⟨0, Nat.zero_le _, rfl, by simp⟩
  case round =>
    obtain ⟨k, hk, rfl, hno⟩ := hrel
    by_cases hlt : k < n
    · obtain ⟨b, off, y, rfl, hbl, ho, c0⟩ := HX.out.at_ hlt
      have hst : ((xs.take (k + 1)).any fun y => y == x) = ((xs.take k).any (fun y => y == x) || y == x) := by
        rw [List.take_add_one, ho, List.any_append]; simp
      rw [hno, Bool.false_or] at hst
      have HS := Lib.hid hst
      have HM := Lib.hid (List.mem_of_getElem? ho)
      clear hst ho hno
      by_cases h1 : y = x
      · have ht : Hid ((xs.any fun y => y == x) = true) := List.any_eq_true.2 ⟨y, HM.out, by simpa using h1⟩
        go_wp2_with fail
        go_ret
        exact ⟨ret_bool ht.out.symm, Below.refl _ _⟩
      · have h1' : (y == x) = false := by simpa using h1
        go_wp2_with fail
        go_round
        case rel => exact ⟨k + 1, by omega, by go_num, by rw [HS.out]; exact h1'⟩
        case measure => simp [intOf]; omega
    · rw [List.take_of_length_le (by omega)] at hno
      have HN := Lib.hid hno
      clear hno
      go_wp2_with fail
      go_ret
      exact ⟨ret_bool HN.out.symm, Below.refl _ _⟩


end Go.Proofs.Ytmookobaljcpbaa
