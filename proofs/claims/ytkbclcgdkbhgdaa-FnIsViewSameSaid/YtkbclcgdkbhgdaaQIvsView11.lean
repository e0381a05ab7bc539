/-
  IsViewSame of the reference: the walk.
-/
import Derived.Test.YtkbclcgdkbhgdaaQIvsView10
namespace Go.Proofs.Ytkbclcgdkbhgdaa
open Go.RowKit Go.BigFrame
set_option linter.unusedVariables false

set_option maxRecDepth 100000 in
set_option maxHeartbeats 1000000 in
theorem sIsViewSame_any (A B : Option Addr) (n m c d : Nat) (a b : List OpV) (w : World) (hx : ROps w A n a) (hy : ROps w B m b) :
    Calls Try.prog 15 #[.slice A n c, .slice B m d] w fun e w' => e = .returned (.bool (validS a && validS b && viewB (committed a) (committed b))) ∧ Below w.heap.size w w' := by
  have HX := Lib.hid hx
  have HY := Lib.hid hy
  have HV := Lib.hid (svalid_any A n c a w hx)
  clear hx hy
  go_enter Try.func15, Try.ntmps15
  go_wp2_with fail
  refine HV.out.mono ?_
  rintro e w1 ⟨rfl, hb1⟩
  clear HV
  cases hva : validS a
  · have HVA := Lib.hid hva
    clear hva
    go_wp2_with fail
    go_ret
    exact ⟨ret_bool (by rw [HVA.out]; rfl), hb1⟩
  have HV2 := Lib.hid (svalid_any B m d b w1 (HY.out.below hb1 (Nat.le_refl _)))
  have HVA := Lib.hid hva
  clear hva
  go_wp2_with fail
  refine HV2.out.mono ?_
  rintro e w2 ⟨rfl, hb2'⟩
  have hb2 := hb1.trans (hb2'.mono hb1.size)
  clear HV2 hb2'
  cases hvb : validS b
  · have HVB := Lib.hid hvb
    clear hvb
    go_wp2_with fail
    go_ret
    exact ⟨ret_bool (by rw [HVA.out, HVB.out]; rfl), hb2⟩
  have HVB := Lib.hid hvb
  have HC1 := Lib.hid (scommitted_any A n c a w2 (HX.out.below hb2 (Nat.le_refl _)))
  clear hvb
  go_wp2_with fail
  refine HC1.out.mono ?_
  rintro e w3 ⟨C, cc, rfl, hcc, ⟨hfc, _⟩, hb3'⟩
  have hb3 := hb2.trans (hb3'.mono hb2.size)
  have HFC := Lib.hid hfc
  have HC2 := Lib.hid (scommitted_any B m d b w3 (HY.out.below hb3 (Nat.le_refl _)))
  clear hfc HC1 hb3'
  go_wp2_with fail
  refine HC2.out.mono ?_
  rintro e w4 ⟨C2, cc2, rfl, hcc2, ⟨hfc2, _⟩, hb4'⟩
  have hb4 := hb3.trans (hb4'.mono hb3.size)
  have HVS := Lib.hid (sviewSame_any C C2 _ _ cc cc2 (committed a) (committed b) w4 (HFC.out.below hb4' (Nat.le_refl _)) hfc2 (validS_committed HVA.out) (validS_committed HVB.out))
  obtain ⟨vb, hvb⟩ : ∃ vb, viewB (committed a) (committed b) = vb := ⟨_, rfl⟩
  rw [hvb] at HVS
  have HVBB := Lib.hid hvb
  clear hfc2 HC2 hb4' hvb
  go_wp2_with fail
  refine HVS.out.mono ?_
  rintro e w5 ⟨rfl, hb5⟩
  go_wp2_with fail
  go_ret
  exact ⟨ret_bool (by rw [HVA.out, HVB.out, HVBB.out]; rfl), hb4.trans (hb5.mono hb4.size)⟩
end Go.Proofs.Ytkbclcgdkbhgdaa
