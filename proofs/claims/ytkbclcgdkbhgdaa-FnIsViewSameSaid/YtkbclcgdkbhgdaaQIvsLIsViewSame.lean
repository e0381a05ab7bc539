/-
  The walk of the law FnIsViewSame: whatever the input, it returns true and changes nothing.
-/
import Derived.Test.YtkbclcgdkbhgdaaQIvsTwo1
import Derived.Test.YtkbclcgdkbhgdaaQIvsView14
import Derived.Test.YtkbclcgdkbhgdaaQIvsView11
import Derived.Test.YtkbclcgdkbhgdaaQIvsXViewOrders
import Derived.Test.YtkbclcgdkbhgdaaPkOrdX3
import Derived.Test.YtkbclcgdkbhgdaaQIvsLawL0
import Derived.Test.YtkbclcgdkbhgdaaQIvsLaw1
import Derived.Test.YtkbclcgdkbhgdaaPkOrdX1
namespace Go.Proofs.Ytkbclcgdkbhgdaa
open Go.RowKit Go.BigFrame
set_option linter.unusedVariables false

set_option maxRecDepth 100000 in
set_option maxHeartbeats 2000000 in
theorem law_isViewSame (A : Option Addr) (n c : Nat) (w : World) (hin : BytesIn w A n c) :
    Calls Try.prog 11 #[.slice A n c] w fun e w' => e = .returned (.bool true) ∧ Below w.heap.size w w' := by
  obtain ⟨hx, hnc⟩ := hin
  have hn := hx.1
  by_cases hbig : 1048576 < n
  · clear hx
    go_enter Try.func11, Try.ntmps11
    go_wp2_with fail
    go_ret
    exact ⟨rfl, Below.refl _ _⟩
  have HD := Lib.hid (DrawIsViewSame_any A n c w hx hnc)
  clear hx
  go_enter Try.func11, Try.ntmps11
  go_wp2_with fail
  refine HD.out.mono ?_
  rintro e w1 ⟨P, p, pc, a, Q, q, qc, b, rfl, hpc, hqc, hp64, hq64, hxa, hyb, hb1⟩
  have hRa : ∀ W, Below w1.heap.size w1 W → ROps W P p a := fun W h => hxa.below h (Nat.le_refl _)
  have hRb : ∀ W, Below w1.heap.size w1 W → ROps W Q q b := fun W h => hyb.below h (Nat.le_refl _)
  obtain ⟨Va, hVa⟩ : ∃ V, validS a = V := ⟨_, rfl⟩
  obtain ⟨Vb, hVb⟩ : ∃ V, validS b = V := ⟨_, rfl⟩
  obtain ⟨sb, hsb⟩ : ∃ s, viewB (committed a) (committed b) = s := ⟨_, rfl⟩
  have c1 : ∀ W : World, Below w1.heap.size w1 W → Calls Try.prog 17 #[.slice P p pc, .slice Q q qc] W fun e w' => e = .returned (.bool (Va && Vb && sb)) ∧ Below W.heap.size W w' := fun W h => by
    have := IsViewSame_any P Q p q pc qc a b W (hRa W h) (hRb W h) hpc hqc; rw [hVa, hVb, hsb] at this; exact this
  have c2 : ∀ W : World, Below w1.heap.size w1 W → Calls Try.prog 15 #[.slice P p pc, .slice Q q qc] W fun e w' => e = .returned (.bool (Va && Vb && sb)) ∧ Below W.heap.size W w' := fun W h => by
    have := sIsViewSame_any P Q p q pc qc a b W (hRa W h) (hRb W h); rw [hVa, hVb, hsb] at this; exact this
  have c3 : ∀ W : World, Below w1.heap.size w1 W → Calls Try.prog 22 #[.slice P p pc] W fun e w' => e = .returned (.bool Va) ∧ Below W.heap.size W w' := fun W h => by
    have := ValidSchedule_any P p pc a W (hRa W h) hpc; rw [hVa] at this; exact this
  have c4 : ∀ W : World, Below w1.heap.size w1 W → Calls Try.prog 22 #[.slice Q q qc] W fun e w' => e = .returned (.bool Vb) ∧ Below W.heap.size W w' := fun W h => by
    have := ValidSchedule_any Q q qc b W (hRb W h) hqc; rw [hVb] at this; exact this
  have c5 : Va = true → Vb = true → ∀ W : World, Below w1.heap.size w1 W → Calls Try.prog 17 #[.slice Q q qc, .slice P p pc] W fun e w' => e = .returned (.bool sb) ∧ Below W.heap.size W w' := fun ha hb W h => by
    have := IsViewSame_any Q P q p qc pc b a W (hRb W h) (hRa W h) hqc hpc; rw [hVa, hVb, ha, hb, viewB_symm (committed b) (committed a), hsb] at this; exact this
  have c6 : Va = true → ∀ W : World, Below w1.heap.size w1 W → Calls Try.prog 17 #[.slice P p pc, .slice P p pc] W fun e w' => e = .returned (.bool true) ∧ Below W.heap.size W w' := fun ha W h => by
    have := IsViewSame_any P P p p pc pc a a W (hRa W h) (hRa W h) hpc hpc; rw [hVa, ha, viewB_iff.2 (ViewEq.refl (committed a))] at this; exact this
  obtain ⟨T, hT⟩ : ∃ T, vwO a = T := ⟨_, rfl⟩
  have c7 : Va = true → ∀ W : World, Below w1.heap.size w1 W → Calls Try.prog 51 #[.slice P p pc] W (RetListsA W T) := fun ha W h => by
    have := ViewOrders_any P p pc a W (hRa W h) hpc; rw [hVa, ha, hT] at this; exact this
  have c8 : Va = true → Vb = true → sb = true → ∀ W : World, Below w1.heap.size w1 W → Calls Try.prog 51 #[.slice Q q qc] W (RetListsA W T) := fun ha hb hs W h => by
    have := ViewOrders_any Q q qc b W (hRb W h) hqc; rw [hVb, hb, ← view_same_orders (viewB_iff.1 (hsb.trans hs)), hT] at this; exact this
  have hT1 : T.length ≤ 256 := by rw [← hT]; exact vwL_len _
  have C1 := Lib.hid c1
  have C2 := Lib.hid c2
  have C3 := Lib.hid c3
  have C4 := Lib.hid c4
  have C5' := Lib.hid c5
  have C6' := Lib.hid c6
  have C7' := Lib.hid c7
  have C8' := Lib.hid c8
  obtain ⟨N, hN⟩ : ∃ N, T.length = N := ⟨_, rfl⟩
  have HN := Lib.hid hN
  have hN1 : N ≤ 256 := by omega
  clear hRa hRb hxa hyb HD c1 c2 c3 c4 c5 c6 hVa hVb hsb hT c7 c8 hT1 hN
  obtain ⟨vb, hvb⟩ : ∃ vb, (Va && Vb && sb) = vb := ⟨_, rfl⟩
  rw [hvb] at C1 C2
  have HVB := Lib.hid hvb
  have hne : (vb != vb) = false := by simp
  have heq : (vb == vb) = true := by simp
  clear hvb
  go_wp2_with fail
  refine (C1.out w1 (Below.refl _ _)).mono ?_
  rintro e w2 ⟨rfl, hb2⟩
  go_wp2_with fail
  refine (C2.out w2 hb2).mono ?_
  rintro e w3 ⟨rfl, hb3'⟩
  have hb3 := hb2.trans (hb3'.mono hb2.size)
  clear hb2 hb3'
  go_wp2_with fail
  refine (C3.out w3 hb3).mono ?_
  rintro e w4 ⟨rfl, hb4'⟩
  have hb4 := hb3.trans (hb4'.mono hb3.size)
  clear hb3 hb4'
  cases Va
  · go_wp2_with fail
    refine (C2.out w4 hb4).mono ?_
    rintro e w5 ⟨rfl, hb5⟩
    go_wp2_with fail
    go_ret
    exact ⟨rfl, hb1.trans ((hb4.trans (hb5.mono hb4.size)).mono hb1.size)⟩
  go_wp2_with fail
  refine (C4.out w4 hb4).mono ?_
  rintro e w5 ⟨rfl, hb5'⟩
  have hb5 := hb4.trans (hb5'.mono hb4.size)
  clear hb4 hb5'
  cases Vb
  · go_wp2_with fail
    refine (C2.out w5 hb5).mono ?_
    rintro e w6 ⟨rfl, hb6⟩
    go_wp2_with fail
    go_ret
    exact ⟨rfl, hb1.trans ((hb5.trans (hb6.mono hb5.size)).mono hb1.size)⟩
  have C5 := Lib.hid (C5'.out (by trivial) (by trivial))
  have C6 := Lib.hid (C6'.out (by trivial))
  have C7 := Lib.hid (C7'.out (by trivial))
  have HB : Hid (sb = vb) := by have := HVB.out; show sb = vb; simpa using this
  have hsv := HB.out
  subst hsv
  clear HVB HB C5' C6' C7'
  go_wp2_with fail
  refine (C5.out w5 hb5).mono ?_
  rintro e w6 ⟨rfl, hb6'⟩
  have hb6 := hb5.trans (hb6'.mono hb5.size)
  clear hb5 hb6'
  go_wp2_with fail
  refine (C6.out w6 hb6).mono ?_
  rintro e w7 ⟨rfl, hb7'⟩
  have hb7 := hb6.trans (hb7'.mono hb6.size)
  clear hb6 hb7'
  cases sb
  · go_wp2_with fail
    go_ret
    exact ⟨rfl, hb1.trans (hb7.mono hb1.size)⟩
  have C8 := Lib.hid (C8'.out (by trivial) (by trivial) (by trivial))
  clear C8'
  go_wp2_with fail
  refine (C7.out w7 hb7).mono ?_
  rintro e w8 ⟨X, xc, rx, rfl, hxc, hox, hrx, _, hb8'⟩
  rw [HN.out] at hxc hox ⊢
  have hb8 := hb7.trans (hb8'.mono hb7.size)
  have HX : Hid (LstsAt w8 X N T) := LstsAt.of hox hrx HN.out (by omega)
  clear hb8' hox hrx hb7
  go_wp2_with fail
  refine (C8.out w8 hb8).mono ?_
  rintro e w9 ⟨Y, yc, ry, rfl, hyc, hoy, hry, _, hb9'⟩
  rw [HN.out] at hyc hoy ⊢
  have hb9 := hb8.trans (hb9'.mono hb8.size)
  have HEQ := Lib.hid (equalLists_any X Y N xc yc T w9 (HX.out.below hb9') (LstsAt.of hoy hry HN.out (by omega)))
  clear hb9' hoy hry hb8
  go_wp2_with fail
  refine HEQ.out.mono ?_
  rintro e w10 ⟨rfl, hb10⟩
  go_wp2_with fail
  go_ret
  exact ⟨rfl, hb1.trans ((hb9.trans (hb10.mono hb9.size)).mono hb1.size)⟩
end Go.Proofs.Ytkbclcgdkbhgdaa
