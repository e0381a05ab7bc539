/-
  The walk of the law FnLocksOf: whatever the input, it returns true and changes nothing.
-/
import Derived.Test.YtcakjhappchlmaaQWLkL2
import Derived.Test.YtcakjhappchlmaaQWLkLd
import Derived.Test.YtcakjhappchlmaaQWLkLe
import Derived.Test.YtcakjhappchlmaaQWLkV2
import Derived.Test.YtcakjhappchlmaaQWLkT5
import Derived.Test.YtcakjhappchlmaaQWRig0
import Derived.Test.YtcakjhappchlmaaPkLkA
namespace Go.Proofs.Ytcakjhappchlmaa
open Go.RowKit Go.BigFrame
set_option linter.unusedVariables false

set_option maxRecDepth 100000 in
set_option maxHeartbeats 4000000 in
theorem law_locksOf (A : Option Addr) (n c : Nat) (w : World) (hin : BytesIn w A n c) :
    Calls Try.prog 8 #[.slice A n c] w fun e w' => e = .returned (.bool true) ∧ Below w.heap.size w w' := by
  obtain ⟨hx, hnc⟩ := hin
  have hn := hx.1
  by_cases hbig : 1048576 < n
  · clear hx
    go_enter Try.func8, Try.ntmps8
    go_wp2_with fail
    go_ret
    exact ⟨rfl, Below.refl _ _⟩
  · have HD := Lib.hid (DrawLocksOf_any A n c w hx hnc)
    clear hx
    go_enter Try.func8, Try.ntmps8
    go_wp2_with fail
    refine HD.out.mono ?_
    rintro e w1 ⟨S, m, d, s, rfl, hmd, hS, hm, hb1⟩
    have HS := Lib.hid hS
    have hlen := hS.1
    have hs1 := hb1.size
    obtain ⟨xs, hxs⟩ : ∃ xs, orNil (validS s && decide (s.length ≤ 12)) (locksS s) = xs := ⟨_, rfl⟩
    have c1 : Calls Try.prog 36 #[.slice S m d] w1 (StepsRet w1 xs) := by
      have := LocksOf_any S m d s w1 hS hmd; rw [hxs] at this; exact this
    have c2 : ∀ W : World, Below w1.heap.size w1 W → Calls Try.prog 38 #[.slice S m d] W (StepsRet W xs) := fun W h => by
      refine (sLocksOf_any S m d s W (HS.out.below h (Nat.le_refl _))).mono ?_
      rw [hxs]
      rintro e w' ⟨v, rfl, hown, hb⟩
      obtain ⟨Ax, cx, rfl, hc⟩ := own_form2 hown
      have hle : xs.length ≤ 1099511627776 := by rw [← hxs]; have := locks_len s; omega
      exact ⟨Ax, cx, rfl, hc, ROps.of_own hown hle, hb⟩
    obtain ⟨bv, hbv⟩ : ∃ b, validS s = b := ⟨_, rfl⟩
    have c3 : ∀ W : World, Below w1.heap.size w1 W → Calls Try.prog 33 #[.slice S m d] W fun e w' => e = .returned (.bool bv) ∧ Below W.heap.size W w' := fun W h => by
      have := ValidSchedule_any S m d s W (HS.out.below h (Nat.le_refl _)) hmd; rw [hbv] at this; exact this
    have C1 := Lib.hid c1
    have C2 := Lib.hid c2
    have C3 := Lib.hid c3
    have HBV := Lib.hid hbv
    have HXS := Lib.hid hxs
    have HLEN := Lib.hid hlen
    clear HD c1 c2 c3 hbv hS hxs hlen
    go_wp2_with fail
    refine C1.out.mono ?_
    rintro e w2 ⟨O2, c2, rfl, hc2, hr2, hb2⟩
    have hs2 := hb2.size
    have HR2 := Lib.hid hr2
    have hle : xs.length ≤ 1099511627776 := hr2.2.1
    obtain ⟨q, hq⟩ : ∃ q, xs.length = q := ⟨_, rfl⟩
    have HQ := Lib.hid hq
    rw [hq] at HR2 hc2 hle ⊢
    have he : ∀ (W W' : World) (O3 : Option Addr) (c3 : Nat), Below w2.heap.size w2 W → ROps W O3 q xs → Calls Try.prog 37 #[.slice O2 q c2, .slice O3 q c3] W fun e w' => e = .returned (.bool true) ∧ Below W.heap.size W w' := fun W W' O3 c3 h h3 => by
      have := equalSteps_any O2 O3 q q c2 c3 xs xs W (HR2.out.below h (Nat.le_refl _)) h3
      rw [beq_self_eq_true] at this
      exact this
    have HE := Lib.hid he
    clear hr2 hq he
    go_wp2_with fail
    refine (C2.out w2 hb2).mono ?_
    rintro e w3 ⟨O3, c3, rfl, hc3, hr3, hb3'⟩
    have hb3 := hb2.trans (hb3'.mono hs2)
    have hs3 := hb3.size
    rw [HQ.out] at hr3 hc3 ⊢
    have HR3 := Lib.hid hr3
    have HB3 := Lib.hid hb3'
    clear hr3 hb3'
    go_wp2_with fail
    refine (HE.out w3 w3 O3 c3 HB3.out HR3.out).mono ?_
    rintro e w4 ⟨rfl, hb4'⟩
    have hb4 := hb3.trans (hb4'.mono hs3)
    have hb24 := HB3.out.trans (hb4'.mono HB3.out.size)
    have hs4 := hb4.size
    clear hb3 hb4' HR3 HB3 hs3
    go_wp2_with fail
    refine (C3.out w4 hb4).mono ?_
    rintro e w5 ⟨rfl, hb5'⟩
    have hb5 := hb4.trans (hb5'.mono hs4)
    have hb25 := hb24.trans (hb5'.mono hb24.size)
    have hs5 := hb5.size
    clear hb4 hb5' hb24 hs4
    cases bv
    · go_wp2_with fail
      refine (C2.out w5 hb5).mono ?_
      rintro e w6 ⟨O6, c6, rfl, hc6, hr6, hb6'⟩
      have hb6 := hb5.trans (hb6'.mono hs5)
      have hb26 := hb25.trans (hb6'.mono hb25.size)
      have hs6 := hb6.size
      rw [HQ.out] at hr6 hc6 ⊢
      have HR6 := Lib.hid hr6
      clear hr6 hb6'
      go_wp2_with fail
      refine (HE.out w6 w6 O6 c6 hb26 HR6.out).mono ?_
      rintro e w7 ⟨rfl, hb7'⟩
      go_wp2_with fail
      go_ret
      exact ⟨rfl, hb1.trans ((hb6.trans (hb7'.mono hs6)).mono hs1)⟩
    · by_cases h12 : 12 < m
      · have h12i : (12 : Int) < (m : Int) := by omega
        go_wp2_with fail
        refine (C2.out w5 hb5).mono ?_
        rintro e w6 ⟨O6, c6, rfl, hc6, hr6, hb6'⟩
        have hb6 := hb5.trans (hb6'.mono hs5)
        have hb26 := hb25.trans (hb6'.mono hb25.size)
        have hs6 := hb6.size
        rw [HQ.out] at hr6 hc6 ⊢
        have HR6 := Lib.hid hr6
        clear hr6 hb6'
        go_wp2_with fail
        refine (HE.out w6 w6 O6 c6 hb26 HR6.out).mono ?_
        rintro e w7 ⟨rfl, hb7'⟩
        go_wp2_with fail
        go_ret
        exact ⟨rfl, hb1.trans ((hb6.trans (hb7'.mono hs6)).mono hs1)⟩
      · have h12i : ¬ (12 : Int) < (m : Int) := by omega
        have hxs' : xs = locksS s := by rw [← HXS.out, HBV.out, decide_eq_true (by have := HLEN.out; omega : s.length ≤ 12)]; rfl
        obtain ⟨hv1, hv2⟩ := locks_ok HBV.out (by have := HLEN.out; omega : s.length ≤ 12)
        have hlaw := locks_law HBV.out
        rw [← hxs'] at hv1 hv2 hlaw
        obtain ⟨z, hz⟩ : ∃ z, illI xs = z := ⟨_, rfl⟩
        rw [hz] at hlaw
        obtain ⟨kb, hkb⟩ : ∃ b, (validS s && faultZ (opnB isAcc s) s.length == -1) = b := ⟨_, rfl⟩
        have hzk : decide (z < 0) = kb := by
          rw [← hkb, HBV.out, Bool.true_and, Bool.eq_iff_iff, decide_eq_true_eq, beq_iff_eq, faultZ_iff]
          exact hlaw
        have c4 : Calls Try.prog 22 #[.slice O2 q c2] w5 fun e w' => e = .returned (.tuple #[.int .i64 z, .bool true]) ∧ Below w5.heap.size w5 w' := by
          have := IllegalAt_any O2 q c2 xs w5 (HR2.out.below hb25 (Nat.le_refl _)); unfold IllPost illV at this; rw [hv1, if_pos rfl, hz] at this; exact this
        have c5 : ∀ W : World, Below w2.heap.size w2 W → Calls Try.prog 39 #[.slice O2 q c2] W fun e w' => e = .returned (.bool true) ∧ Below W.heap.size W w' := fun W h => by
          have := IsTwoPhase_any O2 q c2 xs W (HR2.out.below h (Nat.le_refl _)); rw [hv1, hv2] at this; exact this
        have c6 : ∀ W : World, Below w1.heap.size w1 W → Calls Try.prog 40 #[.string { data := #[114, 105, 103, 111, 114, 111, 117, 115] }, .slice S m d] W fun e w' => e = .returned (.bool kb) ∧ Below W.heap.size W w' := fun W h => by
          have := keepsRigor_any S m d s W (HS.out.below h (Nat.le_refl _)) hmd; rw [hkb] at this; exact this
        have C4 := Lib.hid c4
        have C5 := Lib.hid c5
        have C6 := Lib.hid c6
        clear c4 c5 c6 hkb hz hlaw hv1 hv2 hxs' C1 C2 C3 HE HXS HBV HLEN
        go_wp2_with fail
        refine C4.out.mono ?_
        rintro e w6 ⟨rfl, hb6'⟩
        have hb6 := hb5.trans (hb6'.mono hs5)
        have hb26 := hb25.trans (hb6'.mono hb25.size)
        have hs6 := hb6.size
        clear hb5 hb6' hb25 hs5 C4
        go_wp2_with fail
        refine (C5.out w6 hb26).mono ?_
        rintro e w7 ⟨rfl, hb7'⟩
        have hb7 := hb6.trans (hb7'.mono hs6)
        have hs7 := hb7.size
        clear hb6 hb7' hb26 hs6 C5
        go_wp2_with fail
        refine (C6.out w7 hb7).mono ?_
        rintro e w8 ⟨rfl, hb8'⟩
        have hb8 := hb7.trans (hb8'.mono hs7)
        clear hb7 hb8' C6
        cases kb
        · go_wp2_with fail
          go_ret
          exact ⟨rfl, hb1.trans (hb8.mono hs1)⟩
        · go_wp2_with fail
          go_ret
          exact ⟨rfl, hb1.trans (hb8.mono hs1)⟩
end Go.Proofs.Ytcakjhappchlmaa
