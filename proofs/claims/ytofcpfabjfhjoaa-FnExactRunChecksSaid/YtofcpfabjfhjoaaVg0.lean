/-
  behind of the program; rows of bits that are written further.
-/
import Derived.Test.YtofcpfabjfhjoaaVer3
namespace Go.Proofs.Ytofcpfabjfhjoaa
open Go.RowKit Go.BigFrame
set_option linter.unusedVariables false

def behB (L : List Int) (x y : Int) : Bool := decide (idxZ L y < idxZ L x)
set_option maxHeartbeats 400000 in
theorem behind_any (A : Option Addr) (n c : Nat) (L : List Int) (x y : Int) (w : World) (hx : RInts w A n L) :
    Calls Try.prog 136 #[.slice A n c, .int .i64 x, .int .i64 y] w fun e w' => e = .returned (.bool (behB L x y)) ∧ Below w.heap.size w w' := by
  have HX := Lib.hid hx
  have hres : Hid (behB L x y = decide (idxZ L y < idxZ L x)) := rfl
  clear hx
  obtain ⟨a, ha⟩ : ∃ z, idxZ L x = z := ⟨_, rfl⟩
  obtain ⟨b, hb⟩ : ∃ z, idxZ L y = z := ⟨_, rfl⟩
  rw [ha, hb] at hres
  have HA := Lib.hid ha
  have HB := Lib.hid hb
  clear ha hb
  go_enter Try.func136, Try.ntmps136
  go_wp2_with fail
  refine (IndexL_any A n c L x w HX.out).mono ?_
  rw [HA.out]
  rintro e w1 ⟨rfl, hb1⟩
  go_wp2_with fail
  refine (IndexL_any A n c L y w1 (HX.out.below hb1 (Nat.le_refl _))).mono ?_
  rw [HB.out]
  rintro e w2 ⟨rfl, hb2⟩
  go_wp2_with fail
  go_ret
  exact ⟨ret_bool hres.out.symm, hb1.trans (hb2.mono hb1.size)⟩
end Go.Proofs.Ytofcpfabjfhjoaa
