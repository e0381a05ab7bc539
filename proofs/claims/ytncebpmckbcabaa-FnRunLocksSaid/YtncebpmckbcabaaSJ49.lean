/-
  Texts that the proof rests on, joined: part 49.
-/
import Derived.Test.YtncebpmckbcabaaSJ23
import Derived.Test.YtncebpmckbcabaaSJ45
import Derived.Test.YtncebpmckbcabaaSJ48
namespace Go.Proofs.Ytncebpmckbcabaa
open Go.RowKit Go.BigFrame
set_option linter.unusedVariables false

set_option maxRecDepth 100000 in
set_option maxHeartbeats 2000000 in
theorem equalDesk_any (D : Dsk) (V U : DV) (w : World) (h : RDesk w D V) (h' : RDesk w D U) :
    Calls Try.prog 24 #[V.val, U.val] w fun e w' => e = .returned (.bool true) ∧ Below w.heap.size w w' := by
  obtain ⟨Ad, Aw, Al, Ak, nd, nw, nl, nk, cd, cw, cl, ck, rfl, h1, h2, h3, h4⟩ := h
  obtain ⟨Bd, Bw, Bl, Bk, md, mw, ml, mk, dd, dw, dl, dk, rfl, g1, g2, g3, g4⟩ := h'
  obtain ⟨W, hW⟩ : ∃ W : World, W = (w.alloc (.cells #[.slice Ad nd cd, .slice Aw nw cw, .slice Al nl cl, .slice Ak nk ck] 28)).alloc (.cells #[.slice Bd md dd, .slice Bw mw dw, .slice Bl ml dl, .slice Bk mk dk] 28) := ⟨_, rfl⟩
  obtain ⟨hx, hy, hbW⟩ := two_boxes (V := ⟨.slice Ad nd cd, .slice Aw nw cw, .slice Al nl cl, .slice Ak nk ck⟩) (U := ⟨.slice Bd md dd, .slice Bw mw dw, .slice Bl ml dl, .slice Bk mk dk⟩) hW
  have HB := Lib.hid hbW
  have HX := Lib.hid hx
  have HY := Lib.hid hy
  have H1 := Lib.hid (And.intro (h1.below hbW (Nat.le_refl _)) (g1.below hbW (Nat.le_refl _)))
  have H2 := Lib.hid (And.intro (h2.below hbW (Nat.le_refl _)) (g2.below hbW (Nat.le_refl _)))
  have H3 := Lib.hid (And.intro (h3.below hbW (Nat.le_refl _)) (g3.below hbW (Nat.le_refl _)))
  have H4 := Lib.hid (And.intro (h4.below hbW (Nat.le_refl _)) (g4.below hbW (Nat.le_refl _)))
  obtain ⟨p0, p1, p2, p3⟩ := hx.cells
  obtain ⟨q0, q1, q2, q3⟩ := hy.cells
  simp only at p0 p1 p2 p3 q0 q1 q2 q3
  have r0 := p0
  have r1 := q0
  rw [hW] at r0 r1
  have HW := Lib.hid hW
  clear h1 h2 h3 h4 g1 g2 g3 g4 hx hy hbW hW
  unfold DV.val
  simp only
  go_enter Try.func24, Try.ntmps24
  go_wp2_with fail
  rw [← HW.out]
  clear r0 r1
  refine (equalOps_any Ad Bd nd md cd dd D.done D.done W H1.out.1 H1.out.2).mono ?_
  rw [beq_self_eq_true]
  rintro e w1 ⟨rfl, hb1⟩
  have HB1 := Lib.hid (hb1)
  clear hb1
  obtain ⟨p0, p1, p2, p3⟩ := (HX.out.below HB1.out).cells
  obtain ⟨q0, q1, q2, q3⟩ := (HY.out.below HB1.out).cells
  simp only at p0 p1 p2 p3 q0 q1 q2 q3
  go_wp2_with fail
  refine (equalOps_any Aw Bw nw mw cw dw D.wait D.wait w1 (H2.out.1.below HB1.out (Nat.le_refl _)) (H2.out.2.below HB1.out (Nat.le_refl _))).mono ?_
  rw [beq_self_eq_true]
  rintro e w2 ⟨rfl, hb2⟩
  have HB2 := Lib.hid (HB1.out.trans (hb2.mono HB1.out.size))
  clear hb2
  obtain ⟨p0, p1, p2, p3⟩ := (HX.out.below HB2.out).cells
  obtain ⟨q0, q1, q2, q3⟩ := (HY.out.below HB2.out).cells
  simp only at p0 p1 p2 p3 q0 q1 q2 q3
  go_wp2_with fail
  refine (equalSteps_any Al Bl nl ml cl dl D.locks D.locks w2 (H3.out.1.below HB2.out (Nat.le_refl _)) (H3.out.2.below HB2.out (Nat.le_refl _))).mono ?_
  rw [beq_self_eq_true]
  rintro e w3 ⟨rfl, hb3⟩
  have HB3 := Lib.hid (HB2.out.trans (hb3.mono HB2.out.size))
  clear hb3
  obtain ⟨p0, p1, p2, p3⟩ := (HX.out.below HB3.out).cells
  obtain ⟨q0, q1, q2, q3⟩ := (HY.out.below HB3.out).cells
  simp only at p0 p1 p2 p3 q0 q1 q2 q3
  go_wp2_with fail
  refine (equalInts_any Ak Bk nk mk ck dk D.dead D.dead w3 (H4.out.1.below HB3.out (Nat.le_refl _)) (H4.out.2.below HB3.out (Nat.le_refl _))).mono ?_
  rw [beq_self_eq_true]
  rintro e w4 ⟨rfl, hb4⟩
  have HB4 := Lib.hid (HB3.out.trans (hb4.mono HB3.out.size))
  clear hb4
  have hbF := HB.out.trans (HB4.out.mono HB.out.size)
  go_wp2_with fail
  go_ret
  exact ⟨rfl, hbF⟩
end Go.Proofs.Ytncebpmckbcabaa
