/-
  The walk of the law FnVersionGraph: whatever the input, it returns true and changes nothing.
-/
import Derived.Test.YtofcpfabjfhjoaaVg5
import Derived.Test.YtofcpfabjfhjoaaTurns0
import Derived.Test.YtofcpfabjfhjoaaAg3
import Derived.Test.YtofcpfabjfhjoaaDraws1
import Derived.Test.YtofcpfabjfhjoaaOpen0
import Derived.Test.YtofcpfabjfhjoaaSerial
namespace Go.Proofs.Ytofcpfabjfhjoaa
open Go.RowKit Go.BigFrame
set_option linter.unusedVariables false

set_option maxRecDepth 100000 in
set_option maxHeartbeats 4000000 in
theorem law_versionGraph (A : Option Addr) (n c : Nat) (w : World) (hin : BytesIn w A n c) :
    Calls Try.prog 9 #[.slice A n c] w fun e w' => e = .returned (.bool true) ∧ Below w.heap.size w w' := by
  obtain ⟨hx, hnc⟩ := hin
  have hn := hx.1
  by_cases hbig : 1048576 < n
  · clear hx
    go_enter Try.func9, Try.ntmps9
    go_wp2_with fail
    go_ret
    exact ⟨rfl, Below.refl _ _⟩
  · have HD := Lib.hid (DrawVersionGraph_any A n c w hx hnc)
    clear hx
    go_enter Try.func9, Try.ntmps9
    go_wp2_with fail
    refine HD.out.mono ?_
    rintro e w1 ⟨S, m, d, s, rfl, hown, hm, hb1⟩
    have hmd : m ≤ d := by obtain ⟨A', c', he, h⟩ := own_form2 hown; injection he with _ _ he; omega
    have HS := Lib.hid (ROps.of_own hown (by omega))
    have hI : orNil (validS s) (rowsI (vgI s)) = orNil (validS s) (rowsI (vgS s)) := by
      cases hv : validS s
      · rfl
      · rw [vg_eq hv]
    obtain ⟨ys, hys⟩ : ∃ ys, orNil (validS s) (rowsI (vgS s)) = ys := ⟨_, rfl⟩
    obtain ⟨bv, hbv⟩ : ∃ bv, validS s = bv := ⟨_, rfl⟩
    have c1 : ∀ W : World, ROps W S m s → Calls Try.prog 35 #[.slice S m d] W (RetInts W ys) := fun W h => by
      have := VersionGraph_any S m d s W h hmd; rw [hI, hys] at this; exact this
    have c2 : ∀ W : World, ROps W S m s → Calls Try.prog 34 #[.slice S m d] W (RetInts W ys) := fun W h => by
      have := sVersionGraph_any S m d s W h hmd; rw [hys] at this; exact this
    have c3 : ∀ W : World, ROps W S m s → Calls Try.prog 19 #[.slice S m d] W fun e w' => e = .returned (.bool bv) ∧ Below W.heap.size W w' := fun W h => by
      have := ValidSchedule_any S m d s W h hmd; rw [hbv] at this; exact this
    have C1 := Lib.hid c1
    have C2 := Lib.hid c2
    have C3 := Lib.hid c3
    have HY := Lib.hid hys
    have HV := Lib.hid hbv
    clear hown HD c1 c2 c3 hI hys hbv
    go_wp2_with fail
    refine (C1.out w1 HS.out).mono ?_
    rintro e w2 ⟨O, oc, rfl, hoc, ⟨hro, _⟩, hb2⟩
    have hb12 : Below w.heap.size w w2 := hb1.trans (hb2.mono hb1.size)
    have HS2 := Lib.hid (HS.out.below hb2 (Nat.le_refl _))
    have HRO := Lib.hid hro
    clear hro
    go_wp2_with fail
    refine (C2.out w2 HS2.out).mono ?_
    rintro e w3 ⟨O3, c3, rfl, hc3, ⟨hr3, _⟩, hb3⟩
    go_wp2_with fail
    refine (equalInts_any O O3 _ _ oc c3 ys ys w3 (HRO.out.below hb3 (Nat.le_refl _)) hr3).mono ?_
    rw [beq_self_eq_true]
    rintro e w4 ⟨rfl, hb4⟩
    have hb24 : Below w2.heap.size w2 w4 := hb3.trans (hb4.mono hb3.size)
    clear hr3 hb3 hb4
    go_wp2_with fail
    refine (C3.out w4 (HS2.out.below hb24 (Nat.le_refl _))).mono ?_
    rintro e w5 ⟨rfl, hb5⟩
    have hb25 : Below w2.heap.size w2 w5 := hb24.trans (hb5.mono hb24.size)
    clear hb24 hb5
    cases bv
    · go_wp2_with fail
      refine (C2.out w5 (HS2.out.below hb25 (Nat.le_refl _))).mono ?_
      rintro e w6 ⟨O6, c6, rfl, hc6, ⟨hr6, _⟩, hb6⟩
      go_wp2_with fail
      refine (equalInts_any O O6 _ _ oc c6 ys ys w6 ((HRO.out.below hb25 (Nat.le_refl _)).below hb6 (Nat.le_refl _)) hr6).mono ?_
      rw [beq_self_eq_true]
      rintro e w7 ⟨rfl, hb7⟩
      go_wp2_with fail
      go_ret
      exact ⟨rfl, hb12.trans ((hb25.trans ((hb6.trans (hb7.mono hb6.size)).mono hb25.size)).mono hb12.size)⟩
    · have hV : validS s = true := HV.out
      have hyv : ys = rowsI (vgS s) := by rw [← HY.out, hV]; rfl
      have hok4 : Rows4 (vgS s) := vgS_ok hV
      have hlen : (rowsI (vgS s)).length = 4 := by simp [rowsI, hok4.1]
      subst hyv
      rw [hlen] at HRO hoc
      have hag : orNil (validS s) (rowsI (agI4 s)) = rowsI (agS4 s) := by rw [orN_true hV, ag_eq hV]
      have hAok : Rows4 (agS4 s) := agS_ok hV
      have hAl : (rowsI (agS4 s)).length = 4 := by simp [rowsI, hAok.1]
      have HSUB : Hid (∀ t, (agS4 s).getD t 0 &&& (vgS s).getD t 0 = (agS4 s).getD t 0) := vg_sub hV
      have HDI : Hid (∀ t, ((vgS s).getD t 0).testBit t = false) := vg_diag hV
      have HTU : Hid (isSerV s = true → turnB (vgS s) = false) := fun h => by
        unfold isSerV at h
        simp only [Bool.and_eq_true] at h
        exact vg_turns hV h.1
      have HAG := Lib.hid (AgainstOf_any S m d s w5 (HS2.out.below hb25 (Nat.le_refl _)) hmd)
      rw [hag] at HAG
      have hIS : Hid (∀ W, ROps W S m s → Calls Try.prog 22 #[.slice S m d] W fun e w' => e = .returned (.bool (isSerV s)) ∧ Below W.heap.size W w') := fun W h => IsSerial_any S m d s W h hmd
      have HOK := Lib.hid hok4
      have HAK := Lib.hid hAok
      generalize vgS s = R at *
      generalize agS4 s = Q at *
      generalize isSerV s = bs at *
      clear hok4 hAok HY HV C1 C2 C3 hV hag
      go_wp2_with fail
      refine HAG.out.mono ?_
      rintro e w6 ⟨G, gc, rfl, hgc, ⟨hrg, _⟩, hb6⟩
      rw [hAl] at hrg hgc
      rw [hAl]
      have hb26 := hb25.trans (hb6.mono hb25.size)
      have HG := Lib.hid hrg
      have HO := Lib.hid (HRO.out.below hb26 (Nat.le_refl _))
      have HS6 := Lib.hid (HS2.out.below hb26 (Nat.le_refl _))
      have hb16 := hb12.trans (hb26.mono hb12.size)
      clear hrg hb6 hb26 hb25 HS2 HRO HS HAG hb12
      go_wp2_with fail
      go_loopw [6] (fun i wr => ∃ t : Nat, t ≤ 4 ∧ i = .int .i64 t ∧ Below w6.heap.size w6 wr) (fun i _ => 4 - (intOf i).toNat)
      case atStart => exact ⟨0, by omega, rfl, Below.refl _ _⟩
      case round =>
        obtain ⟨wo, rfl⟩ : ∃ wo : World, wo = wr := ⟨_, rfl⟩
        obtain ⟨t, ht, rfl, hbo⟩ := hrel
        by_cases hlt : t < 4
        · have hdt : decide ((t : Int) < 4) = true := by simp; omega
          have ht4 : (t : Int) < 4 := by omega
          have ht0 : (0 : Int) ≤ (t : Int) := by omega
          obtain ⟨bo, offo, x, hOe, hblo, hox, c0⟩ := (HO.out.below hbo (Nat.le_refl _)).at_ (k := t) hlt
          obtain ⟨bg, offg, y, hGe, hblg, hgx, d0⟩ := (HG.out.below hbo (Nat.le_refl _)).at_ (k := t) hlt
          subst hOe
          subst hGe
          have hget : ∀ R : List Nat, Rows4 R → (rowsI R)[t]? = some ((R.getD t 0 : Nat) : Int) := fun R h => by
            have hk' : t < R.length := by rw [h.1]; exact hlt
            simp [rowsI, List.getElem?_map, List.getElem?_eq_getElem hk', List.getD_eq_getElem?_getD]
          rw [hget R HOK.out] at hox
          rw [hget Q HAK.out] at hgx
          injection hox with hox
          injection hgx with hgx
          subst hox
          subst hgx
          have hr16 := (rowsI_at HOK.out (T := t) (by omega)).2
          have hq16 := (rowsI_at HAK.out (T := t) (by omega)).2
          have hand : bits .and .i64 ((Q.getD t 0 : Nat) : Int) ((R.getD t 0 : Nat) : Int) = ((Q.getD t 0 : Nat) : Int) := by
            rw [and_nat _ _ (by omega) (by omega), HSUB.out t]
          have hB : ∀ z : Later wo, Calls Try.prog 38 #[.int .i64 ((R.getD t 0 : Nat) : Int), .int .i64 (t : Int)] z.1 fun e w' => e = .returned (.int .i64 0) ∧ z.1 = w' := fun z => by
            have := lbit_any (R.getD t 0) t z.1 (by omega) (by omega); rw [HDI.out t, if_neg (by simp)] at this; exact this
          generalize R.getD t 0 = r at *
          generalize Q.getD t 0 = q at *
          have HB := Lib.hid hB
          have L0 := Later.cell c0
          have M0 := Later.cell d0
          clear hB hget hr16 hq16 c0 d0
          go_wp2_with fail
          refine region_later (by kernel_rfl) (by kernel_rfl) ?_
          repeat (go_big_quiet_step ((go_at_call 38; exact later_same _ (HB.out _))))
          refine wpQuiet_nil ?_
          rintro _ ⟨z, rfl⟩
          have hbz := hbo.trans (z.2.mono hbo.size)
          go_wp2_with fail
          go_roundw
          case rel => exact ⟨t + 1, by omega, by go_num, hbz⟩
          case measure => simp [intOf]; omega
        · go_wp2_with fail
          refine (hIS.out wo (HS6.out.below hbo (Nat.le_refl _))).mono ?_
          rintro e w7 ⟨rfl, hb7⟩
          have hb67 := hbo.trans (hb7.mono hbo.size)
          cases bs
          · go_wp2_with fail
            go_ret
            exact ⟨rfl, hb16.trans (hb67.mono hb16.size)⟩
          · have htu := HTU.out rfl
            have HT := Lib.hid (turns_any O oc R w7 (HO.out.below hb67 (Nat.le_refl _)) HOK.out)
            rw [htu] at HT
            clear htu
            go_wp2_with fail
            refine HT.out.mono ?_
            rintro e w8 ⟨rfl, hb8⟩
            have hb68 := hb67.trans (hb8.mono hb67.size)
            go_wp2_with fail
            go_ret
            exact ⟨rfl, hb16.trans (hb68.mono hb16.size)⟩
end Go.Proofs.Ytofcpfabjfhjoaa
