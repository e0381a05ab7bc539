/-
  The walk of the law FnValidSteps: whatever the input, it returns true and changes nothing.
-/
import Derived.Test.YtcakjhappchlmaaPkLkG
import Derived.Test.YtcakjhappchlmaaPkLkA
namespace Go.Proofs.Ytcakjhappchlmaa
open Go.RowKit Go.BigFrame
set_option linter.unusedVariables false

set_option maxRecDepth 100000 in
set_option maxHeartbeats 2000000 in
theorem law_validSteps (A : Option Addr) (n c : Nat) (w : World) (hin : BytesIn w A n c) :
    Calls Try.prog 3 #[.slice A n c] w fun e w' => e = .returned (.bool true) ∧ Below w.heap.size w w' := by
  obtain ⟨hx, hnc⟩ := hin
  have hn := hx.1
  by_cases hbig : 1048576 < n
  · clear hx
    go_enter Try.func3, Try.ntmps3
    go_wp2_with fail
    go_ret
    exact ⟨rfl, Below.refl _ _⟩
  · have HD := Lib.hid (DrawValidSteps_any A n c w hx hnc)
    clear hx
    go_enter Try.func3, Try.ntmps3
    go_wp2_with fail
    refine HD.out.mono ?_
    rintro e w1 ⟨S, m, d, st, rfl, hS, hm, hmd, hb1⟩
    have HS := Lib.hid hS
    obtain ⟨bv, hbv⟩ : ∃ b, validL st = b := ⟨_, rfl⟩
    have c1 : ∀ W : World, Below w1.heap.size w1 W → Calls Try.prog 16 #[.slice S m d] W fun e w' => e = .returned (.bool bv) ∧ Below W.heap.size W w' := fun W h => by
      have := ValidSteps_any S m d st W (HS.out.below h (Nat.le_refl _)); rw [hbv] at this; exact this
    have c2 : ∀ W : World, Below w1.heap.size w1 W → Calls Try.prog 17 #[.slice S m d] W fun e w' => e = .returned (.bool bv) ∧ Below W.heap.size W w' := fun W h => by
      have := sValidSteps_any S m d st W (HS.out.below h (Nat.le_refl _)); rw [hbv] at this; exact this
    have hcut : bv = true → validL (st.take (m - 1)) = true := fun h => validL_take (by rw [hbv, h]) _
    have c3 : ∀ W : World, Below w1.heap.size w1 W → bv = true → Calls Try.prog 16 #[.slice S (m - 1) d] W fun e w' => e = .returned (.bool true) ∧ Below W.heap.size W w' := fun W h hv => by
      have := ValidSteps_any S (m - 1) d (st.take (m - 1)) W ((HS.out.below h (Nat.le_refl _)).take (by omega)); rw [hcut hv] at this; exact this
    have C1 := Lib.hid c1
    have C2 := Lib.hid c2
    have C3 := Lib.hid c3
    have hs1 := hb1.size
    clear HD c1 c2 c3 hbv hS hcut
    go_wp2_with fail
    refine (C1.out w1 (Below.refl _ _)).mono ?_
    rintro e w2 ⟨rfl, hb2⟩
    have hs2 := hb2.size
    go_wp2_with fail
    refine (C2.out w2 hb2).mono ?_
    rintro e w3 ⟨rfl, hb3'⟩
    have hb3 := hb2.trans (hb3'.mono hs2)
    have hs3 := hb3.size
    have hbb : (bv == bv) = true := by simp
    cases bv
    · go_wp2_with fail
      refine (C2.out w3 hb3).mono ?_
      rintro e w4 ⟨rfl, hb4⟩
      go_wp2_with fail
      go_ret
      exact ⟨rfl, hb1.trans ((hb3.trans (hb4.mono hs3)).mono hs1)⟩
    · by_cases hm0 : m = 0
      · subst hm0
        go_wp2_with fail
        go_ret
        exact ⟨rfl, hb1.trans (hb3.mono hs1)⟩
      · have hmi : ((m - 1 : Nat) : Int) = (m : Int) - 1 := by omega
        have ht : ((m : Int) - 1).toNat = m - 1 := by omega
        have hbz : ((m : Int) == 0) = false := by simp; omega
        have hle : (m : Int) - 1 ≤ (d : Int) := by omega
        have hge : 0 ≤ (m : Int) - 1 := by omega
        go_wp2_with fail
        refine (C3.out w3 hb3 (by first | rfl | trivial)).mono ?_
        rintro e w4 ⟨rfl, hb4⟩
        go_wp2_with fail
        go_ret
        exact ⟨rfl, hb1.trans ((hb3.trans (hb4.mono hs3)).mono hs1)⟩
end Go.Proofs.Ytcakjhappchlmaa
