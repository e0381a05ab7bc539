/-
  The walk of the law FnAccessesOf: whatever the input, it returns true and changes nothing.
-/
import Derived.Test.YtcakjhappchlmaaQAccLkA1
import Derived.Test.YtcakjhappchlmaaPkLkA
namespace Go.Proofs.Ytcakjhappchlmaa
open Go.RowKit Go.BigFrame
set_option linter.unusedVariables false

theorem orNilT {α : Type} {b : Bool} {xs : List α} (h : b = true) : orNil b xs = xs := by subst h; rfl
set_option maxRecDepth 100000 in
set_option maxHeartbeats 4000000 in
theorem law_accessesOf (A : Option Addr) (n c : Nat) (w : World) (hin : BytesIn w A n c) :
    Calls Try.prog 7 #[.slice A n c] w fun e w' => e = .returned (.bool true) ∧ Below w.heap.size w w' := by
  obtain ⟨hx, hnc⟩ := hin
  have hn := hx.1
  by_cases hbig : 1048576 < n
  · clear hx
    go_enter Try.func7, Try.ntmps7
    go_wp2_with fail
    go_ret
    exact ⟨rfl, Below.refl _ _⟩
  · have HD := Lib.hid (DrawAccessesOf_any A n c w hx hnc)
    clear hx
    go_enter Try.func7, Try.ntmps7
    go_wp2_with fail
    refine HD.out.mono ?_
    rintro e w1 ⟨S, m, d, st, rfl, hS, hm, hmd, hb1⟩
    have HS := Lib.hid hS
    obtain ⟨bv, hbv⟩ : ∃ b, accOK st = b := ⟨_, rfl⟩
    obtain ⟨xs, hxs⟩ : ∃ xs, orNil bv (accI st) = xs := ⟨_, rfl⟩
    have c1 : ∀ W : World, Below w1.heap.size w1 W → Calls Try.prog 30 #[.slice S m d] W fun e w' => ∃ A c, e = .returned (.tuple #[.slice A xs.length c, .bool bv]) ∧ xs.length ≤ c ∧ ROps w' A xs.length xs ∧ Below W.heap.size W w' := fun W h => by
      have := AccessesOf_any S m d st W (HS.out.below h (Nat.le_refl _)); unfold AccPost at this; rw [hbv, hxs] at this; exact this
    have c2 : ∀ W : World, Below w1.heap.size w1 W → Calls Try.prog 31 #[.slice S m d] W fun e w' => ∃ A c, e = .returned (.tuple #[.slice A xs.length c, .bool bv]) ∧ xs.length ≤ c ∧ ROps w' A xs.length xs ∧ Below W.heap.size W w' := fun W h => by
      have := sAccessesOf_any S m d st W (HS.out.below h (Nat.le_refl _)); unfold AccPost at this; rw [hbv, hxs] at this; exact this
    have C1 := Lib.hid c1
    have C2 := Lib.hid c2
    have HBV := Lib.hid hbv
    have HXS := Lib.hid hxs
    have hs1 := hb1.size
    clear HD c1 c2 hbv hS hxs
    go_wp2_with fail
    refine (C1.out w1 (Below.refl _ _)).mono ?_
    rintro e w2 ⟨O2, c2, rfl, hc2, hr2, hb2⟩
    have hs2 := hb2.size
    have HR2 := Lib.hid hr2
    clear hr2
    go_wp2_with fail
    refine (C2.out w2 hb2).mono ?_
    rintro e w3 ⟨O3, c3, rfl, hc3, hr3, hb3'⟩
    have hb3 := hb2.trans (hb3'.mono hs2)
    have hs3 := hb3.size
    have HR23 := Lib.hid (HR2.out.below hb3' (Nat.le_refl _))
    have HR3 := Lib.hid hr3
    clear hr3
    have he : ∀ W : World, Below w3.heap.size w3 W → Calls Try.prog 32 #[.slice O2 xs.length c2, .slice O3 xs.length c3] W fun e w' => e = .returned (.bool true) ∧ Below W.heap.size W w' := fun W hW => by
      have := equalOps_any O2 O3 _ _ c2 c3 xs xs W (HR23.out.below hW (Nat.le_refl _)) (HR3.out.below hW (Nat.le_refl _))
      rw [beq_self_eq_true] at this
      exact this
    have HE := Lib.hid he
    clear he
    go_wp2_with fail
    refine (HE.out w3 (Below.refl _ _)).mono ?_
    rintro e w4 ⟨rfl, hb4'⟩
    have hb4 := hb3.trans (hb4'.mono hs3)
    have hs4 := hb4.size
    cases bv
    · go_wp2_with fail
      refine (HE.out w4 hb4').mono ?_
      rintro e w5 ⟨rfl, hb5'⟩
      have hb5 := hb4.trans (hb5'.mono hs4)
      go_wp2_with fail
      go_ret
      exact ⟨rfl, hb1.trans (hb5.mono hs1)⟩
    · have hac := HBV.out
      unfold accOK at hac
      rw [Bool.and_eq_true, decide_eq_true_eq] at hac
      have hok := (validL_iff.1 hac.1).2
      have hxa : accI st = xs := HXS.out
      have hv : validS xs = true := by rw [← hxa]; exact accI_valid hok hac.2
      have hcm : committed xs = xs := by rw [← hxa]; exact accI_comm hok hac.2
      have d1 : ∀ W : World, Below w3.heap.size w3 W → Calls Try.prog 33 #[.slice O2 xs.length c2] W fun e w' => e = .returned (.bool true) ∧ Below W.heap.size W w' := fun W hW => by
        have := ValidSchedule_any O2 xs.length c2 xs W (HR23.out.below hW (Nat.le_refl _)) hc2
        rw [hv] at this
        exact this
      have d2 : ∀ W : World, Below w3.heap.size w3 W → Calls Try.prog 34 #[.slice O2 xs.length c2] W (RetOps W xs) := fun W hW => by
        have := CommittedOf_any O2 xs.length c2 xs W (HR23.out.below hW (Nat.le_refl _)) hc2
        rw [orNilT hv, hcm] at this
        exact this
      have D1 := Lib.hid d1
      have D2 := Lib.hid d2
      clear hac hok hxa hv hcm d1 d2
      go_wp2_with fail
      refine (D1.out w4 hb4').mono ?_
      rintro e w5 ⟨rfl, hb5'⟩
      have hb5 := hb4.trans (hb5'.mono hs4)
      have hs5 := hb5.size
      have hb35 := hb4'.trans (hb5'.mono hb4'.size)
      go_wp2_with fail
      refine (D2.out w5 hb35).mono ?_
      rintro e w6 ⟨O6, c6, rfl, hc6, ⟨hr6, _⟩, hb6'⟩
      have hb6 := hb5.trans (hb6'.mono hs5)
      have hs6 := hb6.size
      have hb36 := hb35.trans (hb6'.mono hb35.size)
      have HE6 := Lib.hid (equalOps_any O6 O2 _ _ c6 c2 xs xs w6 hr6 (HR23.out.below hb36 (Nat.le_refl _)))
      rw [beq_self_eq_true] at HE6
      clear hr6
      go_wp2_with fail
      refine HE6.out.mono ?_
      rintro e w7 ⟨rfl, hb7'⟩
      have hb7 := hb6.trans (hb7'.mono hs6)
      go_wp2_with fail
      go_ret
      exact ⟨rfl, hb1.trans (hb7.mono hs1)⟩
end Go.Proofs.Ytcakjhappchlmaa
