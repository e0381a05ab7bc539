/-
  AgainstOf of the program and of the reference.
-/
import Derived.Test.YtofcpfabjfhjoaaAg1
import Derived.Test.YtofcpfabjfhjoaaAg2
namespace Go.Proofs.Ytofcpfabjfhjoaa
open Go.RowKit Go.BigFrame
set_option linter.unusedVariables false


set_option maxHeartbeats 400000 in
theorem AgainstOf_any (A : Option Addr) (n c : Nat) (s : List OpV) (w : World) (hx : ROps w A n s) (hnc : n ≤ c) :
    Calls Try.prog 37 #[.slice A n c] w (RetInts w (orNil (validS s) (rowsI (agI4 s)))) := by
  have HX := Lib.hid hx
  clear hx
  go_enter Try.func37, Try.ntmps37
  go_wp2_with fail
  refine (ValidSchedule_any A n c s w HX.out hnc).mono ?_
  rintro e w1 ⟨rfl, hb⟩
  cases hv : validS s
  · have HV := Lib.hid hv
    clear hv
    go_wp2_with fail
    go_ret
    rw [HV.out]
    exact RetInts.nil hb
  · have HV := Lib.hid hv
    clear hv
    go_wp2_with fail
    refine (againstOf_any A n c s w1 (HX.out.below hb (Nat.le_refl _)) hnc HV.out).mono ?_
    rintro e w2 hr
    obtain ⟨A', c', rfl, hr'⟩ := hr
    have HR : Hid (RetInts w1 (rowsI (agI4 s)) (.returned (.slice A' ((rowsI (agI4 s))).length c')) w2) := ⟨A', c', rfl, hr'⟩
    clear hr'
    go_wp2_with fail
    go_ret
    rw [HV.out]
    exact RetInts.later hb HR.out


set_option maxHeartbeats 400000 in
theorem sAgainstOf_any (A : Option Addr) (n c : Nat) (s : List OpV) (w : World) (hx : ROps w A n s) (hnc : n ≤ c) :
    Calls Try.prog 40 #[.slice A n c] w (RetInts w (orNil (validS s) (rowsI (agS4 s)))) := by
  have HX := Lib.hid hx
  clear hx
  go_enter Try.func40, Try.ntmps40
  go_wp2_with fail
  refine (svalid'_any A n c s w HX.out hnc).mono ?_
  rintro e w1 ⟨rfl, hb⟩
  cases hv : validS s
  · have HV := Lib.hid hv
    clear hv
    go_wp2_with fail
    go_ret
    rw [HV.out]
    exact RetInts.nil hb
  · have HV := Lib.hid hv
    clear hv
    go_wp2_with fail
    refine (against_any A n c s w1 (HX.out.below hb (Nat.le_refl _)) HV.out).mono ?_
    rintro e w2 hr
    obtain ⟨A', c', rfl, hr'⟩ := hr
    have HR : Hid (RetInts w1 (rowsI (agS4 s)) (.returned (.slice A' ((rowsI (agS4 s))).length c')) w2) := ⟨A', c', rfl, hr'⟩
    clear hr'
    go_wp2_with fail
    go_ret
    rw [HV.out]
    exact RetInts.later hb HR.out

end Go.Proofs.Ytofcpfabjfhjoaa
