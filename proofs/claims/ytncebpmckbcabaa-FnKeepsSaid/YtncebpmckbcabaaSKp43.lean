/-
  Texts that the proof rests on, joined: part 43.
-/
import Derived.Test.YtncebpmckbcabaaSKp1
import Derived.Test.YtncebpmckbcabaaSKp25
import Derived.Test.YtncebpmckbcabaaSKp42
namespace Go.Proofs.Ytncebpmckbcabaa
open Go.RowKit Go.BigFrame
set_option linter.unusedVariables false

theorem fz_eq {B : Nat → Bool} {n : Nat} : (faultZ B n == -1) = true ↔ ∀ j, j < n → B j = false := by rw [beq_iff_eq, faultZ_iff]
theorem keeps_chain {s : List OpV} (hv : validS s = true) :
    ((faultZ (opnB isAcc s) s.length == -1) = true → (faultZ (openB isWr s) s.length == -1) = true ∧ (faultZ (commB s) s.length == -1) = true) ∧
    ((faultZ (openB isWr s) s.length == -1) = true → (faultZ (casB s) s.length == -1) = true) ∧
    ((faultZ (casB s) s.length == -1) = true → (faultZ (recB s) s.length == -1) = true) ∧
    ((faultZ (commB s) s.length == -1) = true → decide (0 < (ordO s).length) = true) :=
  ⟨fun h => ⟨fz_eq.2 (rig_strict (fz_eq.1 h)), fz_eq.2 (rig_commits hv (fz_eq.1 h))⟩, fun h => fz_eq.2 (strict_cas (fz_eq.1 h)), fun h => fz_eq.2 (cas_rec (fz_eq.1 h)), fun h => decide_eq_true (commits_iser hv (fz_eq.1 h))⟩
set_option maxRecDepth 100000 in
set_option maxHeartbeats 4000000 in
theorem law_keeps (A : Option Addr) (n c : Nat) (w : World) (hin : BytesIn w A n c) :
    Calls Try.prog 6 #[.slice A n c] w fun e w' => e = .returned (.bool true) ∧ Below w.heap.size w w' := by
  obtain ⟨hx, hnc⟩ := hin
  have hn := hx.1
  by_cases hbig : 1048576 < n
  · clear hx
    go_enter Try.func6, Try.ntmps6
    go_wp2_with fail
    go_ret
    exact ⟨rfl, Below.refl _ _⟩
  · have HDR := Lib.hid (DrawKeeps_any A n c w hx hnc)
    clear hx
    go_enter Try.func6, Try.ntmps6
    go_wp2_with fail
    refine HDR.out.mono ?_
    rintro e w1 ⟨b, S, m, d, s, hbR, rfl, hmd, hS, hm, hb1⟩
    obtain ⟨kv, hk1, hk2⟩ := keeps_both hbR s
    have HB1 := Lib.hid hb1
    have HK1 : Hid (∀ W, Below w1.heap.size w1 W → Calls Try.prog 29 #[.string b, .slice S m d] W fun e w' => e = .returned (.bool kv) ∧ Below W.heap.size W w') := fun W hW => hk1 S m d W (hS.below hW (Nat.le_refl _)) hmd
    have HK2 : Hid (∀ W, Below w1.heap.size w1 W → Calls Try.prog 32 #[.string b, .slice S m d] W fun e w' => e = .returned (.bool kv) ∧ Below W.heap.size W w') := fun W hW => hk2 S m d W (hS.below hW (Nat.le_refl _))
    have HS := Lib.hid hS
    have hkk : (kv != kv) = false := by simp
    clear HDR hS hb1 hk1 hk2 hbR
    go_wp2_with fail
    refine (HK1.out w1 (Below.refl _ _)).mono ?_
    rintro e w2 ⟨rfl, hb2⟩
    have HB2 := Lib.hid hb2
    clear hb2
    go_wp2_with fail
    refine (HK2.out w2 HB2.out).mono ?_
    rintro e w3 ⟨rfl, hb3⟩
    have HB3 := Lib.hid (HB2.out.trans (hb3.mono HB2.out.size))
    clear hb3 HB2
    cases hv : validS s
    · have hV : ∀ W, Below w1.heap.size w1 W → Calls Try.prog 28 #[.slice S m d] W fun e w' => e = .returned (.bool false) ∧ Below W.heap.size W w' := fun W hW => by
        have := ValidSchedule_any S m d s W (HS.out.below hW (Nat.le_refl _)) hmd; rw [hv] at this; exact this
      have HV := Lib.hid hV
      clear hV hv
      go_wp2_with fail
      refine (HV.out w3 HB3.out).mono ?_
      rintro e w4 ⟨rfl, hb4⟩
      have HB4 := Lib.hid (HB3.out.trans (hb4.mono HB3.out.size))
      clear hb4 HB3
      go_wp2_with fail
      refine (HK2.out w4 HB4.out).mono ?_
      rintro e w5 ⟨rfl, hb5⟩
      have hbF := HB1.out.trans ((HB4.out.trans (hb5.mono HB4.out.size)).mono HB1.out.size)
      clear hb5 HB4
      go_wp2_with fail
      go_ret
      exact ⟨ret_bool (by simp), hbF⟩
    · have hV : ∀ W, Below w1.heap.size w1 W → Calls Try.prog 28 #[.slice S m d] W fun e w' => e = .returned (.bool true) ∧ Below W.heap.size W w' := fun W hW => by
        have := ValidSchedule_any S m d s W (HS.out.below hW (Nat.le_refl _)) hmd; rw [hv] at this; exact this
      have HV := Lib.hid hV
      obtain ⟨i1, i2, i3, i4⟩ := keeps_chain hv
      have cA : ∀ W, Below w1.heap.size w1 W → Calls Try.prog 29 #[.string { data := #[114, 105, 103, 111, 114, 111, 117, 115] }, .slice S m d] W fun e w' => e = .returned (.bool (faultZ (opnB isAcc s) s.length == -1)) ∧ Below W.heap.size W w' := fun W hW => by
        have := keepsRigor_any S m d s W (HS.out.below hW (Nat.le_refl _)) hmd; rw [hv, Bool.true_and] at this; exact this
      have cB : ∀ W, Below w1.heap.size w1 W → Calls Try.prog 29 #[.string { data := #[115, 116, 114, 105, 99, 116] }, .slice S m d] W fun e w' => e = .returned (.bool (faultZ (openB isWr s) s.length == -1)) ∧ Below W.heap.size W w' := fun W hW => by
        have := keepsStrict_any S m d s W (HS.out.below hW (Nat.le_refl _)) hmd; rw [hv, Bool.true_and] at this; exact this
      have cC : ∀ W, Below w1.heap.size w1 W → Calls Try.prog 29 #[.string { data := #[99, 97, 115, 99, 97, 100, 101, 115] }, .slice S m d] W fun e w' => e = .returned (.bool (faultZ (casB s) s.length == -1)) ∧ Below W.heap.size W w' := fun W hW => by
        have := keepsCas_any S m d s W (HS.out.below hW (Nat.le_refl _)) hmd; rw [hv, Bool.true_and] at this; exact this
      have cD : ∀ W, Below w1.heap.size w1 W → Calls Try.prog 29 #[.string { data := #[99, 111, 109, 109, 105, 116, 115] }, .slice S m d] W fun e w' => e = .returned (.bool (faultZ (commB s) s.length == -1)) ∧ Below W.heap.size W w' := fun W hW => by
        have := keepsCommits_any S m d s W (HS.out.below hW (Nat.le_refl _)) hmd; rw [hv, Bool.true_and] at this; exact this
      have cR : ∀ W, Below w1.heap.size w1 W → Calls Try.prog 29 #[.string { data := #[114, 101, 99, 111, 118, 101, 114, 97, 98, 108, 101] }, .slice S m d] W fun e w' => e = .returned (.bool (faultZ (recB s) s.length == -1)) ∧ Below W.heap.size W w' := fun W hW => by
        have := keepsRec_any S m d s W (HS.out.below hW (Nat.le_refl _)) hmd; rw [hv, Bool.true_and] at this; exact this
      have cS : ∀ W, Below w1.heap.size w1 W → Calls Try.prog 33 #[.slice S m d] W fun e w' => e = .returned (.bool (decide (0 < (ordO s).length))) ∧ Below W.heap.size W w' := fun W hW => by
        have := IsSerializable_any S m d s W (HS.out.below hW (Nat.le_refl _)) hmd; rw [hv, Bool.true_and] at this; exact this
      obtain ⟨ka, ha⟩ : ∃ z, (faultZ (opnB isAcc s) s.length == -1) = z := ⟨_, rfl⟩
      obtain ⟨kb, hkb⟩ : ∃ z, (faultZ (openB isWr s) s.length == -1) = z := ⟨_, rfl⟩
      obtain ⟨kc, hkc⟩ : ∃ z, (faultZ (casB s) s.length == -1) = z := ⟨_, rfl⟩
      obtain ⟨kd, hkd⟩ : ∃ z, (faultZ (commB s) s.length == -1) = z := ⟨_, rfl⟩
      obtain ⟨kr, hkr⟩ : ∃ z, (faultZ (recB s) s.length == -1) = z := ⟨_, rfl⟩
      obtain ⟨ki, hki⟩ : ∃ z, decide (0 < (ordO s).length) = z := ⟨_, rfl⟩
      rw [ha, hkb, hkd] at i1
      rw [hkb, hkc] at i2
      rw [hkc, hkr] at i3
      rw [hkd, hki] at i4
      rw [ha] at cA
      rw [hkb] at cB
      rw [hkc] at cC
      rw [hkd] at cD
      rw [hkr] at cR
      rw [hki] at cS
      have CA := Lib.hid cA
      have CB := Lib.hid cB
      have CC := Lib.hid cC
      have CD := Lib.hid cD
      have CR := Lib.hid cR
      have CS := Lib.hid cS
      have I1 := Lib.hid i1
      have I2 := Lib.hid i2
      have I3 := Lib.hid i3
      have I4 := Lib.hid i4
      clear hV hv cA cB cC cD cR cS i1 i2 i3 i4 ha hkb hkc hkd hkr hki HK1 HK2
      go_wp2_with fail
      refine (HV.out w3 HB3.out).mono ?_
      rintro e w4 ⟨rfl, hb4⟩
      have HB4 := Lib.hid (HB3.out.trans (hb4.mono HB3.out.size))
      clear hb4 HB3
      go_wp2_with fail
      refine (CA.out w4 HB4.out).mono ?_
      rintro e w5 ⟨rfl, hb5⟩
      have HB5 := Lib.hid (HB4.out.trans (hb5.mono HB4.out.size))
      clear hb5 HB4
      go_wp2_with fail
      refine (CB.out w5 HB5.out).mono ?_
      rintro e w6 ⟨rfl, hb6⟩
      have HB6 := Lib.hid (HB5.out.trans (hb6.mono HB5.out.size))
      clear hb6 HB5
      go_wp2_with fail
      refine (CC.out w6 HB6.out).mono ?_
      rintro e w7 ⟨rfl, hb7⟩
      have HB7 := Lib.hid (HB6.out.trans (hb7.mono HB6.out.size))
      clear hb7 HB6
      go_wp2_with fail
      refine (CD.out w7 HB7.out).mono ?_
      rintro e w8 ⟨rfl, hb8⟩
      have HB8 := Lib.hid (HB7.out.trans (hb8.mono HB7.out.size))
      clear hb8 HB7
      have hbF := HB1.out.trans (HB8.out.mono HB1.out.size)
      have HBF := Lib.hid hbF
      clear hbF
      cases kd
      · have a0 : ka = false := by
          cases ka
          · rfl
          · exact absurd (I1.out rfl).2 (by decide)
        subst a0
        cases kc
        · have b0 : kb = false := by
            cases kb
            · rfl
            · exact absurd (I2.out rfl) (by decide)
          subst b0
          go_wp2_with fail
          go_ret
          exact ⟨rfl, HBF.out⟩
        · have r0 : kr = true := I3.out rfl
          subst r0
          cases kb
          · go_wp2_with fail
            refine (CR.out w8 HB8.out).mono ?_
            rintro e w9 ⟨rfl, hb9⟩
            have hbE := HBF.out.trans (hb9.mono HBF.out.size)
            go_wp2_with fail
            go_ret
            exact ⟨rfl, hbE⟩
          · go_wp2_with fail
            refine (CR.out w8 HB8.out).mono ?_
            rintro e w9 ⟨rfl, hb9⟩
            have hbE := HBF.out.trans (hb9.mono HBF.out.size)
            go_wp2_with fail
            go_ret
            exact ⟨rfl, hbE⟩
      · have s0 : ki = true := I4.out rfl
        subst s0
        cases kc
        · have b0 : kb = false := by
            cases kb
            · rfl
            · exact absurd (I2.out rfl) (by decide)
          subst b0
          have a0 : ka = false := by
            cases ka
            · rfl
            · exact absurd (I1.out rfl).1 (by decide)
          subst a0
          go_wp2_with fail
          refine (CS.out w8 HB8.out).mono ?_
          rintro e w9 ⟨rfl, hb9⟩
          have hbE := HBF.out.trans (hb9.mono HBF.out.size)
          go_wp2_with fail
          go_ret
          exact ⟨rfl, hbE⟩
        · have r0 : kr = true := I3.out rfl
          subst r0
          have key : ka = false ∨ kb = true := by
            cases ka
            · exact .inl rfl
            · exact .inr (I1.out rfl).1
          cases ka
          · cases kb
            · go_wp2_with fail
              refine (CR.out w8 HB8.out).mono ?_
              rintro e w9 ⟨rfl, hb9⟩
              have HB9 := Lib.hid (HB8.out.trans (hb9.mono HB8.out.size))
              have HE := Lib.hid (HBF.out.trans (hb9.mono HBF.out.size))
              clear hb9
              go_wp2_with fail
              refine (CS.out w9 HB9.out).mono ?_
              rintro e wa ⟨rfl, hba⟩
              have hbE := HE.out.trans (hba.mono HE.out.size)
              go_wp2_with fail
              go_ret
              exact ⟨rfl, hbE⟩
            · go_wp2_with fail
              refine (CR.out w8 HB8.out).mono ?_
              rintro e w9 ⟨rfl, hb9⟩
              have HB9 := Lib.hid (HB8.out.trans (hb9.mono HB8.out.size))
              have HE := Lib.hid (HBF.out.trans (hb9.mono HBF.out.size))
              clear hb9
              go_wp2_with fail
              refine (CS.out w9 HB9.out).mono ?_
              rintro e wa ⟨rfl, hba⟩
              have hbE := HE.out.trans (hba.mono HE.out.size)
              go_wp2_with fail
              go_ret
              exact ⟨rfl, hbE⟩
          · have b0 : kb = true := key.resolve_left (by decide)
            subst b0
            go_wp2_with fail
            refine (CR.out w8 HB8.out).mono ?_
            rintro e w9 ⟨rfl, hb9⟩
            have HB9 := Lib.hid (HB8.out.trans (hb9.mono HB8.out.size))
            have HE := Lib.hid (HBF.out.trans (hb9.mono HBF.out.size))
            clear hb9
            go_wp2_with fail
            refine (CS.out w9 HB9.out).mono ?_
            rintro e wa ⟨rfl, hba⟩
            have hbE := HE.out.trans (hba.mono HE.out.size)
            go_wp2_with fail
            go_ret
            exact ⟨rfl, hbE⟩
end Go.Proofs.Ytncebpmckbcabaa
