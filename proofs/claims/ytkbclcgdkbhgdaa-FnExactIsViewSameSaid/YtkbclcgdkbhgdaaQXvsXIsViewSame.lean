/-
  The walk of FnExactIsViewSame: whatever the operations, the program's IsViewSame and the reference's agree.
-/
import Derived.Test.YtkbclcgdkbhgdaaQXvsView14
import Derived.Test.YtkbclcgdkbhgdaaQXvsView11
import Derived.Test.YtkbclcgdkbhgdaaPkOrdX3
import Derived.Test.YtkbclcgdkbhgdaaPkOrdX1
namespace Go.Proofs.Ytkbclcgdkbhgdaa
open Go.RowKit Go.BigFrame
set_option linter.unusedVariables false

set_option maxRecDepth 100000 in
set_option maxHeartbeats 1500000 in
theorem exact_isViewSame (A : Option Addr) (n c : Nat) (B : Option Addr) (m d : Nat) (w : World) (hin : OpsIn w A n c) (hin2 : OpsIn w B m d) :
    Calls Try.prog 3 #[.slice A n c, .slice B m d] w fun e w' => e = .returned (.bool true) ∧ Below w.heap.size w w' := by
  obtain ⟨hnc, hcm, hx0⟩ := hin
  obtain ⟨hmd, hdm, hy0⟩ := hin2
  unfold maxLen at hcm hdm
  by_cases hbig : 1048576 < n
  · clear hx0 hy0
    go_enter Try.func3, Try.ntmps3
    go_wp2_with fail
    refine (szOpS_any A n c 1048576 w (by omega) (by omega) (by omega)).mono ?_
    rw [if_pos (by omega)]
    rintro e w1 ⟨rfl, rfl⟩
    go_wp2_with fail
    go_ret
    exact ⟨rfl, Below.refl _ _⟩
  by_cases hbig2 : (1048576 : Int) - n < m
  · clear hx0 hy0
    have hl0 : ¬ ((1048576 : Int) - (n : Int) < 0) := by omega
    go_enter Try.func3, Try.ntmps3
    go_wp2_with fail
    refine (szOpS_any A n c 1048576 w (by omega) (by omega) (by omega)).mono ?_
    rw [if_neg (by omega)]
    rintro e w1 ⟨rfl, rfl⟩
    go_wp2_with fail
    refine (szOpS_any B m d (1048576 - n) w (by omega) (by omega) (by omega)).mono ?_
    rw [if_pos (by omega)]
    rintro e w1 ⟨rfl, rfl⟩
    go_wp2_with fail
    go_ret
    exact ⟨rfl, Below.refl _ _⟩
  obtain ⟨a, hx⟩ := hx0 (by omega)
  obtain ⟨b, hy⟩ := hy0 (by omega)
  have HX := Lib.hid hx
  have HY := Lib.hid hy
  obtain rfl : n = a.length := hx.1.symm
  obtain rfl : m = b.length := hy.1.symm
  clear hx0 hx hy0 hy
  obtain ⟨vb, hvb⟩ : ∃ vb, (validS a && validS b && viewB (committed a) (committed b)) = vb := ⟨_, rfl⟩
  have c1 : ∀ (W : World) (P Q : Option Addr) (p q : Nat), ROps W P a.length a → ROps W Q b.length b → a.length ≤ p → b.length ≤ q → Calls Try.prog 17 #[.slice P a.length p, .slice Q b.length q] W fun e w' => e = .returned (.bool vb) ∧ Below W.heap.size W w' := fun W P Q p q h h2 hp hq => by
    have := IsViewSame_any P Q _ _ p q a b W h h2 hp hq; rw [hvb] at this; exact this
  have c2 : ∀ (W : World) (P Q : Option Addr) (p q : Nat), ROps W P a.length a → ROps W Q b.length b → Calls Try.prog 15 #[.slice P a.length p, .slice Q b.length q] W fun e w' => e = .returned (.bool vb) ∧ Below W.heap.size W w' := fun W P Q p q h h2 => by
    have := sIsViewSame_any P Q _ _ p q a b W h h2; rw [hvb] at this; exact this
  have c3 : ∀ (W : World), Below w.heap.size w W → Calls Try.prog 16 #[.slice A a.length c] W (RetOps W a) := fun W h => toOpS_any A a.length c a W (HX.out.below h (Nat.le_refl _)) (by omega)
  have c4 : ∀ (W : World), Below w.heap.size w W → Calls Try.prog 16 #[.slice B b.length d] W (RetOps W b) := fun W h => toOpS_any B b.length d b W (HY.out.below h (Nat.le_refl _)) (by omega)
  have C1 := Lib.hid c1
  have C2 := Lib.hid c2
  have C3 := Lib.hid c3
  have C4 := Lib.hid c4
  have hl0 : ¬ ((1048576 : Int) - (a.length : Int) < 0) := by omega
  have hl1 : ¬ ((1048576 : Int) - (a.length : Int) - (b.length : Int) < 0) := by omega
  clear c1 c2 c3 c4 hvb
  go_enter Try.func3, Try.ntmps3
  go_wp2_with fail
  refine (szOpS_any A a.length c 1048576 w (by omega) (by omega) (by omega)).mono ?_
  rw [if_neg (by omega)]
  rintro e w0 ⟨rfl, rfl⟩
  go_wp2_with fail
  refine (szOpS_any B b.length d (1048576 - a.length) w (by omega) (by omega) (by omega)).mono ?_
  rw [if_neg (by omega)]
  rintro e w0 ⟨rfl, rfl⟩
  go_wp2_with fail
  refine (C3.out w (Below.refl _ _)).mono ?_
  rintro e w1 ⟨P1, p1, rfl, hp1, ⟨hr1, _⟩, hbw1⟩
  have ra1 := Lib.hid hr1
  clear hr1
  go_wp2_with fail
  refine (C4.out w1 hbw1).mono ?_
  rintro e w2 ⟨Q1, q1, rfl, hq1, ⟨hr2, _⟩, hb2⟩
  have ra2 := Lib.hid (ra1.out.below hb2 (Nat.le_refl _))
  have rb2 := Lib.hid hr2
  have hbw2 := hbw1.trans (hb2.mono hbw1.size)
  clear hr2 hb2 hbw1 ra1
  go_wp2_with fail
  refine (C2.out w2 P1 Q1 p1 q1 ra2.out rb2.out).mono ?_
  rintro e w3 ⟨rfl, hb3⟩
  have hbw3 := hbw2.trans (hb3.mono hbw2.size)
  clear hb3 hbw2 ra2 rb2
  go_wp2_with fail
  refine (C3.out w3 hbw3).mono ?_
  rintro e w4 ⟨P2, p2, rfl, hp2, ⟨hr4, _⟩, hb4⟩
  have ra4 := Lib.hid hr4
  have hbw4 := hbw3.trans (hb4.mono hbw3.size)
  clear hr4 hb4 hbw3
  go_wp2_with fail
  refine (C4.out w4 hbw4).mono ?_
  rintro e w5 ⟨Q2, q2, rfl, hq2, ⟨hr5, _⟩, hb5⟩
  have ra5 := Lib.hid (ra4.out.below hb5 (Nat.le_refl _))
  have rb5 := Lib.hid hr5
  have hbw5 := hbw4.trans (hb5.mono hbw4.size)
  clear hr5 hb5 hbw4 ra4
  go_wp2_with fail
  refine (C1.out w5 P2 Q2 p2 q2 ra5.out rb5.out hp2 hq2).mono ?_
  rintro e w6 ⟨rfl, hb6⟩
  have hbw6 := hbw5.trans (hb6.mono hbw5.size)
  have ra6 := Lib.hid (ra5.out.below hb6 (Nat.le_refl _))
  have rb6 := Lib.hid (rb5.out.below hb6 (Nat.le_refl _))
  have hvv : (vb != vb) = false := by simp
  clear hb6 hbw5 ra5 rb5
  go_wp2_with fail
  refine (C3.out w6 hbw6).mono ?_
  rintro e w7 ⟨P3, p3, rfl, hp3, ⟨hr7, _⟩, hb7⟩
  have hbw7 := hbw6.trans (hb7.mono hbw6.size)
  have rb7 := Lib.hid (rb6.out.below hb7 (Nat.le_refl _))
  have ra7 := Lib.hid (ra6.out.below hb7 (Nat.le_refl _))
  have rc7 := Lib.hid hr7
  clear hb7 hbw6 ra6 rb6 hr7
  go_wp2_with fail
  refine (eqOpS_any P2 P3 _ _ p2 p3 a a w7 ra7.out rc7.out).mono ?_
  rw [beq_self_eq_true]
  rintro e w8 ⟨rfl, hb8⟩
  have hbw8 := hbw7.trans (hb8.mono hbw7.size)
  have rb8 := Lib.hid (rb7.out.below hb8 (Nat.le_refl _))
  clear hb8 hbw7 ra7 rb7 rc7
  go_wp2_with fail
  refine (C4.out w8 hbw8).mono ?_
  rintro e w9 ⟨Q3, q3, rfl, hq3, ⟨hr9, _⟩, hb9⟩
  have hbw9 := hbw8.trans (hb9.mono hbw8.size)
  have rb9 := Lib.hid (rb8.out.below hb9 (Nat.le_refl _))
  have rc9 := Lib.hid hr9
  clear hb9 hbw8 rb8 hr9
  go_wp2_with fail
  refine (eqOpS_any Q2 Q3 _ _ q2 q3 b b w9 rb9.out rc9.out).mono ?_
  rw [beq_self_eq_true]
  rintro e w10 ⟨rfl, hb10⟩
  go_wp2_with fail
  go_ret
  exact ⟨rfl, hbw9.trans (hb10.mono hbw9.size)⟩
end Go.Proofs.Ytkbclcgdkbhgdaa
