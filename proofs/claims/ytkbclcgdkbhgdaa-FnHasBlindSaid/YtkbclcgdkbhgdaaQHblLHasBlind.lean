/-
  The walk of the law FnHasBlind: whatever the input, it returns true and changes nothing.
-/
import Derived.Test.YtkbclcgdkbhgdaaQHblBlind1
import Derived.Test.YtkbclcgdkbhgdaaQHblXViewOrders
import Derived.Test.YtkbclcgdkbhgdaaPkOrdX3
import Derived.Test.YtkbclcgdkbhgdaaQHblLawL0
import Derived.Test.YtkbclcgdkbhgdaaQHblLaw1
import Derived.Test.YtkbclcgdkbhgdaaQHblDraws3
import Derived.Test.YtkbclcgdkbhgdaaPkOrdX1
namespace Go.Proofs.Ytkbclcgdkbhgdaa
open Go.RowKit Go.BigFrame
set_option linter.unusedVariables false

set_option maxRecDepth 100000 in
set_option maxHeartbeats 2000000 in
theorem law_hasBlind (A : Option Addr) (n c : Nat) (w : World) (hin : BytesIn w A n c) :
    Calls Try.prog 10 #[.slice A n c] w fun e w' => e = .returned (.bool true) ∧ Below w.heap.size w w' := by
  obtain ⟨hx, hnc⟩ := hin
  have hn := hx.1
  by_cases hbig : 1048576 < n
  · clear hx
    go_enter Try.func10, Try.ntmps10
    go_wp2_with fail
    go_ret
    exact ⟨rfl, Below.refl _ _⟩
  have HD := Lib.hid (DrawHasBlind_any A n c w hx hnc)
  clear hx
  go_enter Try.func10, Try.ntmps10
  go_wp2_with fail
  refine HD.out.mono ?_
  rintro e w1 ⟨S, m, d, s, rfl, hown, hm, hb1⟩
  have hmd : m ≤ d := by obtain ⟨A', c', he, h⟩ := own_form2 hown; injection he with _ _ he; omega
  have hR : ∀ W, Below w1.heap.size w1 W → ROps W S m s := fun W h => (ROps.of_own hown (by omega)).below h (Nat.le_refl _)
  obtain ⟨V, hV⟩ : ∃ V, validS s = V := ⟨_, rfl⟩
  obtain ⟨B, hB⟩ : ∃ B, blindB (committed s) = B := ⟨_, rfl⟩
  obtain ⟨K, hK⟩ : ∃ K, committed s = K := ⟨_, rfl⟩
  obtain ⟨tb, htb⟩ : ∃ tb, twiceB K = tb := ⟨_, rfl⟩
  obtain ⟨T, hT⟩ : ∃ T, vwO s = T := ⟨_, rfl⟩
  have c1 : ∀ W : World, Below w1.heap.size w1 W → Calls Try.prog 48 #[.slice S m d] W fun e w' => e = .returned (.bool (V && B)) ∧ Below W.heap.size W w' := fun W h => by
    have := HasBlind_any S m d s W (hR W h) hmd; rw [hV, hB] at this; exact this
  have c2 : ∀ W : World, Below w1.heap.size w1 W → Calls Try.prog 49 #[.slice S m d] W fun e w' => e = .returned (.bool (V && B)) ∧ Below W.heap.size W w' := fun W h => by
    have := sHasBlind_any S m d s W (hR W h); rw [hV, hB] at this; exact this
  have c3 : ∀ W : World, Below w1.heap.size w1 W → Calls Try.prog 22 #[.slice S m d] W fun e w' => e = .returned (.bool V) ∧ Below W.heap.size W w' := fun W h => by
    have := ValidSchedule_any S m d s W (hR W h) hmd; rw [hV] at this; exact this
  have c4 : V = true → ∀ W : World, Below w1.heap.size w1 W → Calls Try.prog 44 #[.slice S m d] W (RetOps W K) := fun hv W h => by
    have := CommittedOf_any S m d s W (hR W h) hmd; rw [hV, hv, hK] at this; exact this
  have c5 : ∀ (W : World) (C : Option Addr) (k cc : Nat), ROps W C k K → Calls Try.prog 50 #[.slice C k cc] W fun e w' => e = .returned (.bool tb) ∧ Below W.heap.size W w' := fun W C k cc h => by
    have := twice_any C k cc K W h; rw [htb] at this; exact this
  have c6 : V = true → ∀ W : World, Below w1.heap.size w1 W → Calls Try.prog 51 #[.slice S m d] W (RetListsA W T) := fun hv W h => by
    have := ViewOrders_any S m d s W (hR W h) hmd; rw [hV, hv, hT] at this; exact this
  have c7 : V = true → B = false → tb = false → ∀ W : World, Below w1.heap.size w1 W → Calls Try.prog 23 #[.slice S m d] W (RetListsA W T) := fun hv hb ht W h => by
    have := OrdersOf_any S m d s W (hR W h) hmd
    rw [hV, hv, ← view_ord (hV.trans hv) (blind_no (hB.trans hb)) (by rw [hK]; exact twice_no (htb.trans ht)), hT] at this
    exact this
  have hT1 : T.length ≤ 256 := by rw [← hT]; exact vwL_len _
  have C1 := Lib.hid c1
  have C2 := Lib.hid c2
  have C3 := Lib.hid c3
  have C4' := Lib.hid c4
  have C5 := Lib.hid c5
  have C6' := Lib.hid c6
  have C7' := Lib.hid c7
  clear hown HD hR c1 c2 c3 c4 c5 c6 c7 hV hB hK htb hT
  obtain ⟨N, hN⟩ : ∃ N, T.length = N := ⟨_, rfl⟩
  have HN := Lib.hid hN
  have hN1 : N ≤ 256 := by omega
  obtain ⟨vb, hvb⟩ : ∃ vb, (V && B) = vb := ⟨_, rfl⟩
  rw [hvb] at C1 C2
  have HVB := Lib.hid hvb
  have hne : (vb != vb) = false := by simp
  have heq : (vb == vb) = true := by simp
  clear hN hT1 hvb
  go_wp2_with fail
  refine (C1.out w1 (Below.refl _ _)).mono ?_
  rintro e w2 ⟨rfl, hb2⟩
  go_wp2_with fail
  refine (C2.out w2 hb2).mono ?_
  rintro e w3 ⟨rfl, hb3'⟩
  have hb3 := hb2.trans (hb3'.mono hb2.size)
  clear hb2 hb3'
  go_wp2_with fail
  refine (C3.out w3 hb3).mono ?_
  rintro e w4 ⟨rfl, hb4'⟩
  have hb4 := hb3.trans (hb4'.mono hb3.size)
  clear hb3 hb4'
  cases V
  · go_wp2_with fail
    refine (C2.out w4 hb4).mono ?_
    rintro e w5 ⟨rfl, hb5⟩
    go_wp2_with fail
    go_ret
    exact ⟨rfl, hb1.trans ((hb4.trans (hb5.mono hb4.size)).mono hb1.size)⟩
  have C4 := Lib.hid (C4'.out (by trivial))
  have C6 := Lib.hid (C6'.out (by trivial))
  have C7 := Lib.hid (C7'.out (by trivial))
  have HB : Hid (B = vb) := by have := HVB.out; show B = vb; simpa using this
  clear C4' C6' C7' HVB
  cases vb
  rotate_left
  · go_wp2_with fail
    go_ret
    exact ⟨rfl, hb1.trans (hb4.mono hb1.size)⟩
  go_wp2_with fail
  refine (C4.out w4 hb4).mono ?_
  rintro e w5 ⟨C, cc, rfl, hcc, hfc, hb5'⟩
  have hb5 := hb4.trans (hb5'.mono hb4.size)
  have H5 := Lib.hid (C5.out w5 C _ cc hfc.1)
  clear hb4 hb5' hfc
  go_wp2_with fail
  refine H5.out.mono ?_
  rintro e w6 ⟨rfl, hb6'⟩
  have hb6 := hb5.trans (hb6'.mono hb5.size)
  clear hb5 hb6' H5
  cases tb
  rotate_left
  · go_wp2_with fail
    go_ret
    exact ⟨rfl, hb1.trans (hb6.mono hb1.size)⟩
  go_wp2_with fail
  refine (C6.out w6 hb6).mono ?_
  rintro e w7 ⟨P, pc, rv, rfl, hpc, hou, hro, _, hb7'⟩
  rw [HN.out] at hpc hou ⊢
  have HP : Hid (LstsAt w7 P N T) := LstsAt.of hou hro HN.out (by omega)
  have hb7 := hb6.trans (hb7'.mono hb6.size)
  clear hou hro hb6 hb7'
  go_wp2_with fail
  refine (C7.out HB.out (by trivial) w7 hb7).mono ?_
  rintro e w8 ⟨Y, yc, ry, rfl, hyc, houy, hroy, _, hb8⟩
  rw [HN.out] at hyc houy ⊢
  have hb18 := hb7.trans (hb8.mono hb7.size)
  have HEQ := Lib.hid (equalLists_any P Y N pc yc T w8 (HP.out.below hb8) (LstsAt.of houy hroy HN.out (by omega)))
  clear houy hroy hb8
  go_wp2_with fail
  refine HEQ.out.mono ?_
  rintro e w9 ⟨rfl, hb9⟩
  go_wp2_with fail
  go_ret
  exact ⟨rfl, hb1.trans ((hb18.trans (hb9.mono hb18.size)).mono hb1.size)⟩
end Go.Proofs.Ytkbclcgdkbhgdaa
