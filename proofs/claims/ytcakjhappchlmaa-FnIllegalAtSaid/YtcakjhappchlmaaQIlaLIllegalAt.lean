/-
  The walk of the law FnIllegalAt: whatever the input, it returns true and changes nothing.
-/
import Derived.Test.YtcakjhappchlmaaQIlaLkT5
import Derived.Test.YtcakjhappchlmaaPkLkA
namespace Go.Proofs.Ytcakjhappchlmaa
open Go.RowKit Go.BigFrame
set_option linter.unusedVariables false

set_option maxRecDepth 100000 in
set_option maxHeartbeats 4000000 in
theorem law_illegalAt (A : Option Addr) (n c : Nat) (w : World) (hin : BytesIn w A n c) :
    Calls Try.prog 5 #[.slice A n c] w fun e w' => e = .returned (.bool true) ∧ Below w.heap.size w w' := by
  obtain ⟨hx, hnc⟩ := hin
  have hn := hx.1
  by_cases hbig : 1048576 < n
  · clear hx
    go_enter Try.func5, Try.ntmps5
    go_wp2_with fail
    go_ret
    exact ⟨rfl, Below.refl _ _⟩
  · have HD := Lib.hid (DrawIllegalAt_any A n c w hx hnc)
    clear hx
    go_enter Try.func5, Try.ntmps5
    go_wp2_with fail
    refine HD.out.mono ?_
    rintro e w1 ⟨S, m, d, st, rfl, hS, hm, hmd, hb1⟩
    have HS := Lib.hid hS
    have hlen := hS.1
    obtain ⟨bv, hbv⟩ : ∃ b, validL st = b := ⟨_, rfl⟩
    obtain ⟨v, hv⟩ : ∃ v, illV st = v := ⟨_, rfl⟩
    have c1 : ∀ W : World, Below w1.heap.size w1 W → Calls Try.prog 22 #[.slice S m d] W fun e w' => e = .returned (.tuple #[.int .i64 v, .bool bv]) ∧ Below W.heap.size W w' := fun W hW => by
      have := IllegalAt_any S m d st W (HS.out.below hW (Nat.le_refl _)); unfold IllPost at this; rw [hv, hbv] at this; exact this
    have c2 : ∀ W : World, Below w1.heap.size w1 W → Calls Try.prog 23 #[.slice S m d] W fun e w' => e = .returned (.tuple #[.int .i64 v, .bool bv]) ∧ Below W.heap.size W w' := fun W hW => by
      have := sIllegalAt_any S m d st W (HS.out.below hW (Nat.le_refl _)); unfold IllPost at this; rw [hv, hbv] at this; exact this
    have c3 : ∀ (W : World) (k : Nat), k ≤ m → Below w1.heap.size w1 W → Calls Try.prog 22 #[.slice S k d] W (IllPost W (st.take k)) := fun W k hk hW =>
      IllegalAt_any S k d (st.take k) W ((HS.out.below hW (Nat.le_refl _)).take hk)
    have C1 := Lib.hid c1
    have C2 := Lib.hid c2
    have C3 := Lib.hid c3
    have HBV := Lib.hid hbv
    have HVV := Lib.hid hv
    have hs1 := hb1.size
    clear HD c1 c2 c3 hbv hS hv
    go_wp2_with fail
    refine (C1.out w1 (Below.refl _ _)).mono ?_
    rintro e w2 ⟨rfl, hb2⟩
    have hs2 := hb2.size
    go_wp2_with fail
    refine (C2.out w2 hb2).mono ?_
    rintro e w3 ⟨rfl, hb3'⟩
    have hb3 := hb2.trans (hb3'.mono hs2)
    have hs3 := hb3.size
    have hvv : (v == v) = true := by simp
    have hbb : (bv == bv) = true := by simp
    cases bv
    · go_wp2_with fail
      go_ret
      exact ⟨rfl, hb1.trans (hb3.mono hs1)⟩
    · have hvi : illI st = v := by have := HVV.out; unfold illV at this; rw [HBV.out] at this; exact this
      by_cases hneg : v < 0
      · have hm1 : v = -1 := by
          rcases illI_spec st with ⟨h, _⟩ | ⟨k, _, h, _⟩
          · omega
          · omega
        subst hm1
        go_wp2_with fail
        go_ret
        exact ⟨rfl, hb1.trans (hb3.mono hs1)⟩
      · obtain ⟨k, rfl⟩ := Int.eq_ofNat_of_zero_le (show 0 ≤ v by omega)
        obtain ⟨h1, h2, h3⟩ := illegal_law hvi
        have hkm : k < m := by omega
        have e1 : illV (st.take k) = -1 := by unfold illV; rw [validL_take HBV.out]; exact h2
        have e2 : illV (st.take (k + 1)) = (k : Int) := by unfold illV; rw [validL_take HBV.out]; exact h3
        have d1 := C3.out w3 k (by omega) hb3
        unfold IllPost at d1
        rw [e1, validL_take HBV.out] at d1
        have D1 := Lib.hid d1
        have d2 : ∀ W, Below w1.heap.size w1 W → Calls Try.prog 22 #[.slice S (k + 1) d] W fun e w' => e = .returned (.tuple #[.int .i64 (k : Int), .bool true]) ∧ Below W.heap.size W w' := fun W hW => by
          have := C3.out W (k + 1) (by omega) hW
          unfold IllPost at this
          rw [e2, validL_take HBV.out] at this
          exact this
        have D2 := Lib.hid d2
        have hkd : (k : Int) ≤ (d : Int) := by omega
        have hk0 : (0 : Int) ≤ (k : Int) := by omega
        have hkd1 : (k : Int) + 1 ≤ (d : Int) := by omega
        have hk01 : (0 : Int) ≤ (k : Int) + 1 := by omega
        have hkt : ((k : Int) + 1).toNat = k + 1 := by omega
        have hkw : IntKind.i64.wrap ((k : Int) + 1) = (k : Int) + 1 := IntWalk.i64_in _ (by omega)
        have hkl : decide ((k : Int) < (m : Int)) = true := by simp; omega
        have hkk : ((k : Int) == (k : Int)) = true := by simp
        clear h1 h2 h3 e1 e2 d1 d2 hvi
        go_wp2_with fail
        refine D1.out.mono ?_
        rintro e w4 ⟨rfl, hb4'⟩
        have hb4 := hb3.trans (hb4'.mono hs3)
        have hs4 := hb4.size
        go_wp2_with fail
        refine (D2.out w4 hb4).mono ?_
        rintro e w5 ⟨rfl, hb5'⟩
        have hb5 := hb4.trans (hb5'.mono hs4)
        go_wp2_with fail
        go_ret
        exact ⟨by first | rfl | (exact ret_bool (by simp)), hb1.trans (hb5.mono hs1)⟩
end Go.Proofs.Ytcakjhappchlmaa
