/-
  The walk of the law FnScheduleText.
-/
import Derived.Test.YtddkjbibjjehjaaDoorTx6
import Derived.Test.YtddkjbibjjehjaaDoorTx7
import Derived.Test.YtddkjbibjjehjaaDoorDrawsT
import Derived.Test.YtddkjbibjjehjaaDoorEqOp
import Derived.Test.YtddkjbibjjehjaaDoorLaw1
import Derived.Test.YtddkjbibjjehjaaDoorOpen0
namespace Go.Proofs.YtddkjbibjjehjaaDoor
open Go.RowKit Go.BigFrame
set_option linter.unusedVariables false

set_option maxRecDepth 100000 in
set_option maxHeartbeats 2000000 in
theorem law_scheduleText (A : Option Addr) (n c : Nat) (w : World) (hin : BytesIn w A n c) :
    Calls Tryd.prog 4 #[.slice A n c] w fun e w' => e = .returned (.bool true) ∧ Below w.heap.size w w' := by
  obtain ⟨hx, hnc⟩ := hin
  have hn := hx.1
  by_cases hbig : 1048576 < n
  · clear hx
    go_enter Tryd.func4, Tryd.ntmps4
    go_wp2_with fail
    go_ret
    exact ⟨rfl, Below.refl _ _⟩
  · have HD := Lib.hid (DrawScheduleText_any A n c w hx hnc)
    clear hx
    go_enter Tryd.func4, Tryd.ntmps4
    go_wp2_with fail
    refine HD.out.mono ?_
    rintro e w1 ⟨S, m, d, s, rfl, hown, hm, hb1⟩
    have hmd : m ≤ d := by obtain ⟨A', c', he, h⟩ := own_form2 hown; injection he with _ _ he; omega
    have HS := Lib.hid (ROps.of_own hown (by omega))
    obtain ⟨T, hT⟩ : ∃ T : ByteArray, T = ⟨⟨txtOf s⟩⟩ := ⟨_, rfl⟩
    have hT1 : (T.toList != T.toList) = false := by simp
    have hT2 : (T.toList == T.toList) = true := by simp
    have c1 : ∀ W : World, ROps W S m s → Calls Tryd.prog 12 #[.slice S m d] W fun e w' => e = .returned (.string T) ∧ Below W.heap.size W w' := fun W h => by
      rw [hT]; exact ScheduleText_any S m d s W h hmd
    have c2 : ∀ W : World, ROps W S m s → Calls Tryd.prog 13 #[.slice S m d] W fun e w' => e = .returned (.string T) ∧ Below W.heap.size W w' := fun W h => by
      rw [hT]; exact sScheduleText_any S m d s W h
    obtain ⟨bv, hbv⟩ : ∃ bv, validS s = bv := ⟨_, rfl⟩
    have c3 : ∀ W : World, ROps W S m s → Calls Tryd.prog 14 #[.slice S m d] W fun e w' => e = .returned (.bool bv) ∧ Below W.heap.size W w' := fun W h => by
      have := ValidSchedule_any S m d s W h hmd; rw [hbv] at this; exact this
    have C1 := Lib.hid c1
    have C2 := Lib.hid c2
    have C3 := Lib.hid c3
    have HV := Lib.hid hbv
    have HT := Lib.hid hT
    clear hown HD c1 c2 c3 hbv hT
    go_wp2_with fail
    refine (C1.out w1 HS.out).mono ?_
    rintro e w2 ⟨rfl, hb2⟩
    have hb02 : Below w.heap.size w w2 := hb1.trans (hb2.mono hb1.size)
    have HS2 := Lib.hid (HS.out.below hb2 (Nat.le_refl _))
    clear hb2
    go_wp2_with fail
    refine (C2.out w2 HS2.out).mono ?_
    rintro e w3 ⟨rfl, hb3⟩
    have hb03 : Below w.heap.size w w3 := hb02.trans (hb3.mono hb02.size)
    have HS3 := Lib.hid (HS2.out.below hb3 (Nat.le_refl _))
    clear hb3
    cases bv
    · go_wp2_with fail
      refine (C3.out w3 HS3.out).mono ?_
      rintro e w4 ⟨rfl, hb4⟩
      have hb04 : Below w.heap.size w w4 := hb03.trans (hb4.mono hb03.size)
      have HS4 := Lib.hid (HS3.out.below hb4 (Nat.le_refl _))
      clear hb4
      go_wp2_with fail
      refine (C2.out w4 HS4.out).mono ?_
      rintro e w5 ⟨rfl, hb5⟩
      go_wp2_with fail
      go_ret
      exact ⟨by first | rfl | simp, hb04.trans (hb5.mono hb04.size)⟩
    · have HP : Hid (∀ W, Calls Tryd.prog 7 #[.string T] W (RetOB W s true)) := fun W => by
        have e : txtOf s = schedL s := by unfold txtOf; rw [if_pos HV.out]
        have hp : parL (txtOf s) = s := by rw [e]; exact par_sched HV.out
        have h := Parse_any (txtOf s) W (by rw [e]; have h1 := schedL_len s; have h2 := ((validS_iff s).1 HV.out).1; omega)
        rw [hp, HV.out] at h
        rw [HT.out]
        exact h
      go_wp2_with fail
      refine (C3.out w3 HS3.out).mono ?_
      rintro e w4 ⟨rfl, hb4⟩
      have hb04 : Below w.heap.size w w4 := hb03.trans (hb4.mono hb03.size)
      have HS4 := Lib.hid (HS3.out.below hb4 (Nat.le_refl _))
      clear hb4
      go_wp2_with fail
      refine (HP.out w4).mono ?_
      rintro e w5 ⟨R, r, rfl, hr, hf, hb5⟩
      have hb05 : Below w.heap.size w w5 := hb04.trans (hb5.mono hb04.size)
      have HE6 := Lib.hid (equalOps_any R S s.length m r d s s w5 hf.1 (HS4.out.below hb5 (Nat.le_refl _)))
      rw [beq_self_eq_true] at HE6
      clear hf hb5
      go_wp2_with fail
      refine HE6.out.mono ?_
      rintro e w6 ⟨rfl, hb6⟩
      go_wp2_with fail
      go_ret
      exact ⟨rfl, hb05.trans (hb6.mono hb05.size)⟩
end Go.Proofs.YtddkjbibjjehjaaDoor
