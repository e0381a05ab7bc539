/-
  The walk of the law FnParseSchedule.
-/
import Derived.Test.YtddkjbibjjehjaaDoorTx6
import Derived.Test.YtddkjbibjjehjaaDoorDrawsP
import Derived.Test.YtddkjbibjjehjaaDoorEqOp
import Derived.Test.YtddkjbibjjehjaaDoorLaw1
import Derived.Test.YtddkjbibjjehjaaDoorOpen0
namespace Go.Proofs.YtddkjbibjjehjaaDoor
open Go.RowKit Go.BigFrame
set_option linter.unusedVariables false

set_option maxRecDepth 100000 in
set_option maxHeartbeats 2000000 in
theorem law_parseSchedule (A : Option Addr) (n c : Nat) (w : World) (hin : BytesIn w A n c) :
    Calls Tryd.prog 5 #[.slice A n c] w fun e w' => e = .returned (.bool true) ∧ Below w.heap.size w w' := by
  obtain ⟨hx, hnc⟩ := hin
  have hn := hx.1
  by_cases hbig : 1048576 < n
  · clear hx
    go_enter Tryd.func5, Tryd.ntmps5
    go_wp2_with fail
    go_ret
    exact ⟨rfl, Below.refl _ _⟩
  · have HD := Lib.hid (DrawParseSchedule_any A n c w hx hnc)
    clear hx
    go_enter Tryd.func5, Tryd.ntmps5
    go_wp2_with fail
    refine HD.out.mono ?_
    rintro e w1 ⟨T, rfl, hT, hb1⟩
    have hll : T.data.toList.length ≤ 1073741824 := by
      have : T.data.toList.length = T.size := (Lib.size_eq T).symm
      omega
    have HA : Hid (∀ W, Calls Tryd.prog 7 #[.string T] W (RetOB W (orNil (validS (parL T.data.toList)) (parL T.data.toList)) (validS (parL T.data.toList)))) := fun W => Parse_any T.data.toList W hll
    have HB : Hid (∀ W, Calls Tryd.prog 6 #[.string T] W (RetOB W (orNil (validS (parL T.data.toList)) (parL T.data.toList)) (validS (parL T.data.toList)))) := fun W => sParse_any T.data.toList W hll
    have HSC : Hid (validS (parL T.data.toList) = true → txtOf (parL T.data.toList) = T.data.toList) := fun h => by unfold txtOf; rw [if_pos h]; exact sched_par h
    generalize hp : parL T.data.toList = xs at *
    clear hll hp HD
    obtain ⟨V, hV⟩ : ∃ V, validS xs = V := ⟨_, rfl⟩
    rw [hV] at HA HB HSC
    have HV := Lib.hid hV
    clear hV
    cases V
    · have hXs : (orNil false xs) = [] := rfl
      rw [hXs] at HA HB
      go_wp2_with fail
      refine (HA.out w1).mono ?_
      rintro e w2 ⟨R, r, rfl, hr, hf2, hb2⟩
      have hb02 : Below w.heap.size w w2 := hb1.trans (hb2.mono hb1.size)
      have HR2 := Lib.hid hf2.1
      clear hf2 hb2
      go_wp2_with fail
      refine (HB.out w2).mono ?_
      rintro e w3 ⟨Y, y, rfl, hy, hf3, hb3⟩
      have hb03 : Below w.heap.size w w3 := hb02.trans (hb3.mono hb02.size)
      have HE : Hid (∀ W, Below w3.heap.size w3 W → Calls Tryd.prog 15 #[.slice R ([] : List OpV).length r, .slice Y ([] : List OpV).length y] W fun e w' => e = .returned (.bool true) ∧ Below W.heap.size W w') := fun W hW => by
        have := equalOps_any R Y _ _ r y [] [] W ((HR2.out.below hb3 (Nat.le_refl _)).below hW (Nat.le_refl _)) (hf3.1.below hW (Nat.le_refl _))
        rw [beq_self_eq_true] at this
        exact this
      clear hf3 hb3
      go_wp2_with fail
      refine (HE.out w3 (Below.refl _ _)).mono ?_
      rintro e w4 ⟨rfl, hb4⟩
      have hb04 : Below w.heap.size w w4 := hb03.trans (hb4.mono hb03.size)
      go_wp2_with fail
      refine (HE.out w4 hb4).mono ?_
      rintro e w5 ⟨rfl, hb5⟩
      go_wp2_with fail
      go_ret
      exact ⟨rfl, hb04.trans (hb5.mono hb04.size)⟩
    · have hXs : (orNil true xs) = xs := rfl
      rw [hXs] at HA HB
      go_wp2_with fail
      refine (HA.out w1).mono ?_
      rintro e w2 ⟨R, r, rfl, hr, hf2, hb2⟩
      have hb02 : Below w.heap.size w w2 := hb1.trans (hb2.mono hb1.size)
      have HR2 := Lib.hid hf2.1
      clear hf2 hb2
      go_wp2_with fail
      refine (HB.out w2).mono ?_
      rintro e w3 ⟨Y, y, rfl, hy, hf3, hb3⟩
      have hb03 : Below w.heap.size w w3 := hb02.trans (hb3.mono hb02.size)
      have HR3 := Lib.hid (HR2.out.below hb3 (Nat.le_refl _))
      have HE : Hid (Calls Tryd.prog 15 #[.slice R xs.length r, .slice Y xs.length y] w3 fun e w' => e = .returned (.bool true) ∧ Below w3.heap.size w3 w') := by
        have := equalOps_any R Y _ _ r y xs xs w3 HR3.out hf3.1
        rw [beq_self_eq_true] at this
        exact this
      have HSX : Hid (∀ W, Below w3.heap.size w3 W → Calls Tryd.prog 12 #[.slice R xs.length r] W fun e w' => e = .returned (.string T) ∧ Below W.heap.size W w') := fun W hW => by
        have := ScheduleText_any R _ r xs W (HR3.out.below hW (Nat.le_refl _)) hr
        rw [HSC.out (by trivial)] at this
        exact this
      have HVS : Hid (∀ W, Below w3.heap.size w3 W → Calls Tryd.prog 14 #[.slice R xs.length r] W fun e w' => e = .returned (.bool true) ∧ Below W.heap.size W w') := fun W hW => by
        have := ValidSchedule_any R _ r xs W (HR3.out.below hW (Nat.le_refl _)) hr
        rw [HV.out] at this
        exact this
      have hT2 : (T.toList == T.toList) = true := by simp
      clear hf3 hb3 hXs
      go_wp2_with fail
      refine HE.out.mono ?_
      rintro e w4 ⟨rfl, hb4⟩
      have hb04 : Below w.heap.size w w4 := hb03.trans (hb4.mono hb03.size)
      go_wp2_with fail
      refine (HSX.out w4 hb4).mono ?_
      rintro e w5 ⟨rfl, hb5⟩
      have hb05 : Below w.heap.size w w5 := hb04.trans (hb5.mono hb04.size)
      have hb35 : Below w3.heap.size w3 w5 := hb4.trans (hb5.mono hb4.size)
      go_wp2_with fail
      refine (HVS.out w5 hb35).mono ?_
      rintro e w6 ⟨rfl, hb6⟩
      go_wp2_with fail
      go_ret
      exact ⟨by first | rfl | simp, hb05.trans (hb6.mono hb05.size)⟩
end Go.Proofs.YtddkjbibjjehjaaDoor
