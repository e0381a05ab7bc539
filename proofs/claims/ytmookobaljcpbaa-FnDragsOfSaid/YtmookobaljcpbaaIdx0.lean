/-
  slices.Index and slices.Contains of integers.
-/
import Derived.Test.YtmookobaljcpbaaBits
import Derived.Test.YtmookobaljcpbaaKept3
namespace Go.Proofs.Ytmookobaljcpbaa
open Go.RowKit Go.BigFrame
set_option linter.unusedVariables false


set_option maxHeartbeats 400000 in
theorem IndexS_any (A : Option Addr) (n c : Nat) (xs : List Int) (x : Int) (w : World) (hx : RInts w A n xs) :
    Calls Try.prog 84 #[.slice A n c, .int .i64 x] w fun e w' => e = .returned (.int .i64 (idxZ xs x)) ∧ Below w.heap.size w w' := by
  have hn := hx.2.1
  have hl := hx.1
  have HX := Lib.hid hx
  clear hx
  go_enter Try.func84, Try.ntmps84
  go_wp2_with fail
  go_loopw [8] (fun i wr => ∃ k : Nat, k ≤ n ∧ i = .int .i64 k ∧ Below w.heap.size w wr ∧ (∀ j, j < k → ∀ y, xs[j]? = some y → (y == x) = false)) (fun i _ => n - (intOf i).toNat)
  case atStart => exact ⟨0, Nat.zero_le _, rfl, Below.refl _ _, by omega⟩
  case round =>
    obtain ⟨k, hk, rfl, hb, hno⟩ := hrel
    by_cases hlt : k < n
    · obtain ⟨b, off, y, rfl, hbl, ho, c0⟩ := (HX.out.below hb (Nat.le_refl _)).at_ hlt
      have HN : Hid ((y == x) = false → ∀ j, j < k + 1 → ∀ y, xs[j]? = some y → (y == x) = false) := fun h => no_snoc ho hno h
      have HT : Hid ((y == x) = true → idxZ xs x = (k : Int)) := fun h => idxZ_hit ho h hno
      have L0 := Later.cell c0
      clear hno ho
      by_cases h1 : y = x
      · have hs := Lib.hid (HT.out (by simpa using h1))
        have h1' : (x == y) = true := by simpa using h1.symm
        go_wp2_with fail
        try (refine region_later (by kernel_rfl) (by kernel_rfl) ?_; repeat (go_big_quiet_step (fail)); refine wpQuiet_nil ?_; rintro _ ⟨u, rfl⟩; go_wp2_with fail)
        go_ret
        exact ⟨ret_int hs.out.symm, by first | exact hb | exact hb.trans (u.2.mono hb.size)⟩
      · have hs := Lib.hid (HN.out (by simpa using h1))
        have h1' : (x == y) = false := by simpa using fun h => h1 h.symm
        go_wp2_with fail
        try (refine region_later (by kernel_rfl) (by kernel_rfl) ?_; repeat (go_big_quiet_step (fail)); refine wpQuiet_nil ?_; rintro _ ⟨u, rfl⟩; go_wp2_with fail)
        go_roundw
        case rel => exact ⟨k + 1, by omega, by go_num, by first | exact hb | exact hb.trans (u.2.mono hb.size), hs.out⟩
        case measure => simp [intOf]; omega
    · have HE := Lib.hid (idxZ_none (xs := xs) (x := x) (fun j hj => hno j (by omega)))
      clear hno
      go_wp2_with fail
      go_ret
      exact ⟨ret_int HE.out.symm, hb⟩


set_option maxHeartbeats 400000 in
theorem ContainsS_any (A : Option Addr) (n c : Nat) (xs : List Int) (x : Int) (w : World) (hx : RInts w A n xs) :
    Calls Try.prog 53 #[.slice A n c, .int .i64 x] w fun e w' => e = .returned (.bool (xs.any fun y => y == x)) ∧ Below w.heap.size w w' := by
  have HI := Lib.hid (IndexS_any A n c xs x w hx)
  have hz := idxZ_any xs x
  clear hx
  go_enter Try.func53, Try.ntmps53
  go_wp2_with fail
  refine HI.out.mono ?_
  rintro e w1 ⟨rfl, hb⟩
  generalize idxZ xs x = z at *
  cases ha : (xs.any fun y => y == x)
  · rw [ha] at hz
    have hz2 : z = -1 := by simpa using hz
    subst hz2
    have HA := Lib.hid ha
    clear ha hz
    go_wp2_with fail
    go_ret
    exact ⟨ret_bool HA.out.symm, hb⟩
  · rw [ha] at hz
    have hz2 : 0 ≤ z := by simpa using hz
    have HA := Lib.hid ha
    clear ha hz
    go_wp2_with fail
    go_ret
    exact ⟨ret_bool HA.out.symm, hb⟩

end Go.Proofs.Ytmookobaljcpbaa
