/-
  The walk of the law FnIsTreeLocked: whatever the input, it returns true and changes nothing.
-/
import Derived.Test.YtcakjhappchlmaaQWLkU2
import Derived.Test.YtcakjhappchlmaaQWLkU3
import Derived.Test.YtcakjhappchlmaaQWLkTP
import Derived.Test.YtcakjhappchlmaaQWLkA1
import Derived.Test.YtcakjhappchlmaaQWLkT5
import Derived.Test.YtcakjhappchlmaaQWLkP2
import Derived.Test.YtcakjhappchlmaaPkLkB2
import Derived.Test.YtcakjhappchlmaaPkLkA
namespace Go.Proofs.Ytcakjhappchlmaa
open Go.RowKit Go.BigFrame
set_option linter.unusedVariables false

set_option maxRecDepth 100000 in
set_option maxHeartbeats 4000000 in
theorem law_isTreeLocked (A : Option Addr) (n c : Nat) (w : World) (hin : BytesIn w A n c) :
    Calls Try.prog 9 #[.slice A n c] w fun e w' => e = .returned (.bool true) ∧ Below w.heap.size w w' := by
  obtain ⟨hx, hnc⟩ := hin
  have hn := hx.1
  by_cases hbig : 1048576 < n
  · clear hx
    go_enter Try.func9, Try.ntmps9
    go_wp2_with fail
    go_ret
    exact ⟨rfl, Below.refl _ _⟩
  · have HD := Lib.hid (DrawIsTreeLocked_any A n c w hx hnc)
    clear hx
    go_enter Try.func9, Try.ntmps9
    go_wp2_with fail
    refine HD.out.mono ?_
    rintro e w1 ⟨S, m, d, st, B, pd, ps, rfl, hS, hm, hmd, hPP, hb1⟩
    have HPP := Lib.hid hPP
    have HS := Lib.hid hS
    have hlen := hS.1
    obtain ⟨bv, hbv⟩ : ∃ b, validL st = b := ⟨_, rfl⟩
    obtain ⟨bo, hbo⟩ : ∃ b, (bv && parB ps && treeB ps st) = b := ⟨_, rfl⟩
    have c1 : Calls Try.prog 42 #[.slice S m d, .slice B 3 pd] w1 fun e w' => e = .returned (.bool bo) ∧ Below w1.heap.size w1 w' := by
      have := IsTreeLocked_any S B m d 3 pd st ps w1 hS hPP; rw [hbv, hbo] at this; exact this
    have c2 : ∀ W : World, Below w1.heap.size w1 W → Calls Try.prog 43 #[.slice S m d, .slice B 3 pd] W fun e w' => e = .returned (.bool bo) ∧ Below W.heap.size W w' := fun W h => by
      have := sIsTreeLocked_any S B m d 3 pd st ps W (HS.out.below h (Nat.le_refl _)) (HPP.out.below h (Nat.le_refl _)); rw [hbv, hbo] at this; exact this
    have c3 : ∀ W : World, Below w1.heap.size w1 W → Calls Try.prog 16 #[.slice S m d] W fun e w' => e = .returned (.bool bv) ∧ Below W.heap.size W w' := fun W h => by
      have := ValidSteps_any S m d st W (HS.out.below h (Nat.le_refl _)); rw [hbv] at this; exact this
    have C1 := Lib.hid c1
    have C2 := Lib.hid c2
    have C3 := Lib.hid c3
    have HBV := Lib.hid hbv
    have HBO := Lib.hid hbo
    have hs1 := hb1.size
    have e1 : (bo != bo) = false := by simp
    have e2 : (bo == bo) = true := by simp
    clear HD c1 c2 c3 hbv hbo hS hPP
    go_wp2_with fail
    refine C1.out.mono ?_
    rintro e w2 ⟨rfl, hb2⟩
    have hs2 := hb2.size
    go_wp2_with fail
    refine (C2.out w2 hb2).mono ?_
    rintro e w3 ⟨rfl, hb3'⟩
    have hb3 := hb2.trans (hb3'.mono hs2)
    have hs3 := hb3.size
    go_wp2_with fail
    refine (C3.out w3 hb3).mono ?_
    rintro e w4 ⟨rfl, hb4'⟩
    have hb4 := hb3.trans (hb4'.mono hs3)
    have hs4 := hb4.size
    clear hb2 hb3 hb3' hb4' hs2 hs3
    cases bv
    · go_wp2_with fail
      refine (C2.out w4 hb4).mono ?_
      rintro e w5 ⟨rfl, hb5'⟩
      go_wp2_with fail
      go_ret
      exact ⟨rfl, hb1.trans ((hb4.trans (hb5'.mono hs4)).mono hs1)⟩
    · obtain ⟨z, hz⟩ : ∃ z, illI st = z := ⟨_, rfl⟩
      have c4 : Calls Try.prog 22 #[.slice S m d] w4 fun e w' => e = .returned (.tuple #[.int .i64 z, .bool true]) ∧ Below w4.heap.size w4 w' := by
        have := IllegalAt_any S m d st w4 (HS.out.below hb4 (Nat.le_refl _)); unfold IllPost illV at this; rw [HBV.out, if_pos rfl, hz] at this; exact this
      obtain ⟨ba, hba⟩ : ∃ b, accOK st = b := ⟨_, rfl⟩
      obtain ⟨xs, hxs⟩ : ∃ xs, orNil ba (accI st) = xs := ⟨_, rfl⟩
      have c5 : ∀ W : World, Below w1.heap.size w1 W → Calls Try.prog 30 #[.slice S m d] W fun e w' => ∃ A c, e = .returned (.tuple #[.slice A xs.length c, .bool ba]) ∧ xs.length ≤ c ∧ ROps w' A xs.length xs ∧ Below W.heap.size W w' := fun W h => by
        have := AccessesOf_any S m d st W (HS.out.below h (Nat.le_refl _)); unfold AccPost at this; rw [hba, hxs] at this; exact this
      have C4 := Lib.hid c4
      have C5 := Lib.hid c5
      have HZ := Lib.hid hz
      have HBA := Lib.hid hba
      have HXS := Lib.hid hxs
      clear c4 c5 hz hba hxs
      go_wp2_with fail
      refine C4.out.mono ?_
      rintro e w5 ⟨rfl, hb5'⟩
      have hb5 := hb4.trans (hb5'.mono hs4)
      have hs5 := hb5.size
      go_wp2_with fail
      refine (C5.out w5 hb5).mono ?_
      rintro e w6 ⟨O6, c6, rfl, hc6, hr6, hb6'⟩
      have hb6 := hb5.trans (hb6'.mono hs5)
      have hs6 := hb6.size
      have HR6 := Lib.hid hr6
      clear hr6 hb5' hb6'
      cases bo
      · go_wp2_with fail
        go_ret
        exact ⟨rfl, hb1.trans (hb6.mono hs1)⟩
      · by_cases hz0 : 0 ≤ z
        · have hz0d : decide (0 ≤ z) = true := by simpa using hz0
          go_wp2_with fail
          go_ret
          exact ⟨rfl, hb1.trans (hb6.mono hs1)⟩
        · have hz0d : decide (0 ≤ z) = false := by simpa using hz0
          cases ba
          · go_wp2_with fail
            go_ret
            exact ⟨rfl, hb1.trans (hb6.mono hs1)⟩
          · have hbb := HBO.out
            simp only [Bool.true_and, Bool.and_eq_true] at hbb
            have HPB := Lib.hid hbb.1
            have HTB := Lib.hid hbb.2
            have hac := HBA.out
            unfold accOK at hac
            rw [Bool.and_eq_true, decide_eq_true_eq] at hac
            have hok := (validL_iff.1 hac.1).2
            have hxa : accI st = xs := HXS.out
            have hvx : validS xs = true := by rw [← hxa]; exact accI_valid hok hac.2
            have hleg : ∀ j, j < st.length → illAtB st j = false := by
              rcases illI_spec st with ⟨_, h⟩ | ⟨k, _, h, _⟩
              · exact h
              · have := HZ.out; omega
            have hlaw := tree_law hok hleg HPB.out HTB.out hac.2
            rw [hxa] at hlaw
            have hser := IsSerializable_any O6 xs.length c6 xs w6 HR6.out hc6
            rw [hvx, decide_eq_true hlaw] at hser
            have HSR := Lib.hid hser
            clear hac hok hxa hvx hleg hlaw hser hbb
            go_wp2_with fail
            refine HSR.out.mono ?_
            rintro e w7 ⟨rfl, hb7'⟩
            go_wp2_with fail
            go_ret
            exact ⟨rfl, hb1.trans ((hb6.trans (hb7'.mono hs6)).mono hs1)⟩
end Go.Proofs.Ytcakjhappchlmaa
