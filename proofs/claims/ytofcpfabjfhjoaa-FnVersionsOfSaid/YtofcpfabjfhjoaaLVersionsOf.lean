/-
  The walk of the law FnVersionsOf: whatever the input, it returns true and changes nothing.
-/
import Derived.Test.YtofcpfabjfhjoaaVer3
import Derived.Test.YtofcpfabjfhjoaaReads0
import Derived.Test.YtofcpfabjfhjoaaLaw1
import Derived.Test.YtofcpfabjfhjoaaOnly0
import Derived.Test.YtofcpfabjfhjoaaDraws1
import Derived.Test.YtofcpfabjfhjoaaOpen0
import Derived.Test.YtofcpfabjfhjoaaSerial
namespace Go.Proofs.Ytofcpfabjfhjoaa
open Go.RowKit Go.BigFrame
set_option linter.unusedVariables false

set_option maxRecDepth 100000 in
set_option maxHeartbeats 4000000 in
theorem law_versionsOf (A : Option Addr) (n c : Nat) (w : World) (hin : BytesIn w A n c) :
    Calls Try.prog 8 #[.slice A n c] w fun e w' => e = .returned (.bool true) ∧ Below w.heap.size w w' := by
  obtain ⟨hx, hnc⟩ := hin
  have hn := hx.1
  by_cases hbig : 1048576 < n
  · clear hx
    go_enter Try.func8, Try.ntmps8
    go_wp2_with fail
    go_ret
    exact ⟨rfl, Below.refl _ _⟩
  · have HD := Lib.hid (DrawVersionsOf_any A n c w hx hnc)
    clear hx
    go_enter Try.func8, Try.ntmps8
    go_wp2_with fail
    refine HD.out.mono ?_
    rintro e w1 ⟨S, m, d, s, rfl, hown, hm, hb1⟩
    have hmd : m ≤ d := by obtain ⟨A', c', he, h⟩ := own_form2 hown; injection he with _ _ he; omega
    have HS := Lib.hid (ROps.of_own hown (by omega))
    have hI : orNil (validS s) (versI s) = orNil (validS s) (versS s) := by
      cases hv : validS s
      · rfl
      · rw [vers_eq hv]
    obtain ⟨ys, hys⟩ : ∃ ys, orNil (validS s) (versS s) = ys := ⟨_, rfl⟩
    obtain ⟨bv, hbv⟩ : ∃ bv, validS s = bv := ⟨_, rfl⟩
    have c1 : ∀ W : World, ROps W S m s → Calls Try.prog 45 #[.slice S m d] W (RetInts W ys) := fun W h => by
      have := VersionsOf_any S m d s W h hmd; rw [hI, hys] at this; exact this
    have c2 : ∀ W : World, ROps W S m s → Calls Try.prog 46 #[.slice S m d] W (RetInts W ys) := fun W h => by
      have := sVersionsOf_any S m d s W h hmd; rw [hys] at this; exact this
    have c3 : ∀ W : World, ROps W S m s → Calls Try.prog 19 #[.slice S m d] W fun e w' => e = .returned (.bool bv) ∧ Below W.heap.size W w' := fun W h => by
      have := ValidSchedule_any S m d s W h hmd; rw [hbv] at this; exact this
    have C1 := Lib.hid c1
    have C2 := Lib.hid c2
    have C3 := Lib.hid c3
    have HY := Lib.hid hys
    have HV := Lib.hid hbv
    clear hown HD c1 c2 c3 hI hys hbv
    go_wp2_with fail
    refine (C1.out w1 HS.out).mono ?_
    rintro e w2 ⟨O, oc, rfl, hoc, ⟨hro, _⟩, hb2⟩
    have hb12 : Below w.heap.size w w2 := hb1.trans (hb2.mono hb1.size)
    have HS2 := Lib.hid (HS.out.below hb2 (Nat.le_refl _))
    have HRO := Lib.hid hro
    clear hro
    go_wp2_with fail
    refine (C2.out w2 HS2.out).mono ?_
    rintro e w3 ⟨O3, c3, rfl, hc3, ⟨hr3, _⟩, hb3⟩
    go_wp2_with fail
    refine (equalInts_any O O3 _ _ oc c3 ys ys w3 (HRO.out.below hb3 (Nat.le_refl _)) hr3).mono ?_
    rw [beq_self_eq_true]
    rintro e w4 ⟨rfl, hb4⟩
    have hb24 : Below w2.heap.size w2 w4 := hb3.trans (hb4.mono hb3.size)
    clear hr3 hb3 hb4
    go_wp2_with fail
    refine (C3.out w4 (HS2.out.below hb24 (Nat.le_refl _))).mono ?_
    rintro e w5 ⟨rfl, hb5⟩
    have hb25 : Below w2.heap.size w2 w5 := hb24.trans (hb5.mono hb24.size)
    clear hb24 hb5
    cases bv
    · go_wp2_with fail
      refine (C2.out w5 (HS2.out.below hb25 (Nat.le_refl _))).mono ?_
      rintro e w6 ⟨O6, c6, rfl, hc6, ⟨hr6, _⟩, hb6⟩
      go_wp2_with fail
      refine (equalInts_any O O6 _ _ oc c6 ys ys w6 ((HRO.out.below hb25 (Nat.le_refl _)).below hb6 (Nat.le_refl _)) hr6).mono ?_
      rw [beq_self_eq_true]
      rintro e w7 ⟨rfl, hb7⟩
      go_wp2_with fail
      go_ret
      exact ⟨rfl, hb12.trans ((hb25.trans ((hb6.trans (hb7.mono hb6.size)).mono hb25.size)).mono hb12.size)⟩
    · have hV : validS s = true := HV.out
      have hyv : ys = versS s := by rw [← HY.out, hV]; rfl
      subst hyv
      have hsu : orNil (validS s) (survI s) = survS s := by rw [orN_true hV, surv_eq hV]
      have HCs := Lib.hid (SurvivorsOf_any S m d s w5 (HS2.out.below hb25 (Nat.le_refl _)) hmd)
      rw [hsu] at HCs
      have hml : s.length = m := HS.out.1
      have hall : Hid (∀ k o, s[k]? = some o → o.kind = 0 → (versTo (verS s (survS s)) s k).length < (versS s).length ∧ (versS s)[(versTo (verS s (survS s)) s k).length]? = some (verS s (survS s) k o)) := by
        intro k o ho hk
        have := versTo_at (f := verS s (survS s)) ho hk (n := s.length) (List.getElem?_eq_some_iff.1 ho).1
        exact ⟨(List.getElem?_eq_some_iff.1 this).1, this⟩
      have hend : Hid ((versTo (verS s (survS s)) s s.length).length = (versS s).length) := rfl
      have hrd : Hid (isSerV s = true → committed s = s → versS s = readsI s) := fun h hc => by
        unfold isSerV at h
        simp only [Bool.and_eq_true] at h
        exact vers_reads hV h.1 hc
      have hco : orNil (validS s) (committed s) = committed s := orN_true hV
      have hro : orNil (validS s) (readsI s) = readsI s := orN_true hV
      have hIS : Hid (∀ W, ROps W S m s → Calls Try.prog 22 #[.slice S m d] W fun e w' => e = .returned (.bool (isSerV s)) ∧ Below W.heap.size W w') := fun W h => IsSerial_any S m d s W h hmd
      have hCO : Hid (∀ W, ROps W S m s → Calls Try.prog 24 #[.slice S m d] W (RetOps W (committed s))) := fun W h => by
        have := CommittedOf_any S m d s W h hmd; rw [hco] at this; exact this
      have hRD : Hid (∀ W, ROps W S m s → Calls Try.prog 48 #[.slice S m d] W (RetInts W (readsI s))) := fun W h => by
        have := ReadsOf_any S m d s W h hmd; rw [hro] at this; exact this
      have hvc := Lib.hid (fun k o => verS_cases s (survS s) k o)
      have hYl : (versS s).length ≤ 1099511627776 := HRO.out.2.1
      generalize hLg : survS s = L at *
      generalize hYg : versS s = Y at *
      generalize hZg : readsI s = Z at *
      generalize isSerV s = bs at *
      clear hsu hco hro HY HV C1 C2 C3 hLg hYg hZg
      go_wp2_with fail
      refine HCs.out.mono ?_
      rintro e w6 ⟨LA, lc, rfl, hlc, ⟨hL, _⟩, hb6⟩
      have hb26 := hb25.trans (hb6.mono hb25.size)
      have HL := Lib.hid hL
      have HO := Lib.hid (HRO.out.below hb26 (Nat.le_refl _))
      have HS6 := Lib.hid (HS2.out.below hb26 (Nat.le_refl _))
      have hb16 := hb12.trans (hb26.mono hb12.size)
      clear hL hb6 hb26 hb25 HS2 HRO HS HCs hb12
      go_wp2_with fail
      go_loopw [6, 7] (fun q i wr => ∃ k : Nat, k ≤ m ∧ i = .int .i64 k ∧ q = .int .i64 ((versTo (verS s L) s k).length : Nat) ∧ Below w6.heap.size w6 wr) (fun _ i _ => m - (intOf i).toNat)
      case atStart => exact ⟨0, by omega, rfl, rfl, Below.refl _ _⟩
      case round =>
        obtain ⟨wo, rfl⟩ : ∃ wo : World, wo = wr := ⟨_, rfl⟩
        obtain ⟨k, hk, rfl, rfl, hbo⟩ := hrel
        by_cases hlt : k < m
        · obtain ⟨b, off, o, hA, hbl, ho, c0, c1, c2⟩ := (HS6.out.below hbo (Nat.le_refl _)).at_ hlt
          subst hA
          have hkm : (k : Int) < (m : Int) := by omega
          have hk0 : (0 : Int) ≤ (k : Int) := by omega
          have hstep := versTo_succ (f := verS s L) ho
          have hcase := hvc.out k o
          have hal := hall.out k o ho
          obtain ⟨tx, kd, it⟩ := o
          simp only at c0 c1 c2 hstep hal hcase
          by_cases h0 : kd = 0
          · subst h0
            obtain ⟨hq1, hq2⟩ := hal rfl
            obtain ⟨q, hq⟩ : ∃ q, (versTo (verS s L) s k).length = q := ⟨_, rfl⟩
            obtain ⟨V, hVe⟩ : ∃ V, verS s L k ⟨tx, 0, it⟩ = V := ⟨_, rfl⟩
            rw [hVe] at hq2 hcase hstep
            rw [hq] at hq1 hq2
            rw [hq]
            have hnext : Hid ((versTo (verS s L) s (k + 1)).length = q + 1) := by
              show _ = _
              rw [hstep, if_pos (by simp), List.length_append, hq]; rfl
            obtain ⟨bo, offo, x, hOe, hblo, hox, d0⟩ := (HO.out.below hbo (Nat.le_refl _)).at_ (k := q) hq1
            subst hOe
            rw [hq2] at hox
            injection hox with hox
            subst hox
            have hqi : (q : Int) < (Y.length : Int) := by omega
            have hq0 : (0 : Int) ≤ (q : Int) := by omega
            have hqn : ¬ (Y.length : Int) ≤ (q : Int) := by omega
            have hqn2 : ¬ Y.length ≤ q := by omega
            obtain ⟨b1, hb1⟩ : ∃ z, (V != -1) = z := ⟨_, rfl⟩
            obtain ⟨b2, hb2⟩ : ∃ z, (V != tx) = z := ⟨_, rfl⟩
            obtain ⟨b3, hb3⟩ : ∃ z, (L.any fun y => y == V) = z := ⟨_, rfl⟩
            have hok : (b1 && b2 && !b3) = false := by
              rcases hcase with e | e | ⟨e, _⟩
              · subst e; rw [← hb1]; rfl
              · subst e; rw [← hb2]; simp
              · rw [any_eq_iff.2 e] at hb3; rw [← hb3]; simp
            have hI : ∀ u : Later wo, Calls Try.prog 21 #[.slice LA L.length lc, .int .i64 V] u.1 fun e w' => e = .returned (.bool b3) ∧ Below u.1.heap.size u.1 w' := fun u => by
              have := isIn_any LA L.length lc L V u.1 ((HL.out.below hbo (Nat.le_refl _)).later u); rw [hb3] at this; exact this
            have HI := Lib.hid hI
            have L0 := Later.cell c0
            have M0 := Later.cell d0
            clear hI hb3 hcase hal hq2 hVe hstep ho c0 c2 d0 hq
            cases b1
            · go_wp2_with fail
              refine region_later (by kernel_rfl) (by kernel_rfl) ?_
              repeat (go_big_quiet_step ((go_at_call 21; exact later_call _ (HI.out _))))
              refine wpQuiet_nil ?_
              rintro _ ⟨u, rfl⟩
              have hbu := hbo.trans (u.2.mono hbo.size)
              go_wp2_with fail
              go_roundw
              case rel => exact ⟨k + 1, by omega, by go_num, by rw [hnext.out]; go_num, hbu⟩
              case measure => simp [intOf]; omega
            · cases b2
              · go_wp2_with fail
                refine region_later (by kernel_rfl) (by kernel_rfl) ?_
                repeat (go_big_quiet_step ((go_at_call 21; exact later_call _ (HI.out _))))
                refine wpQuiet_nil ?_
                rintro _ ⟨u, rfl⟩
                have hbu := hbo.trans (u.2.mono hbo.size)
                go_wp2_with fail
                go_roundw
                case rel => exact ⟨k + 1, by omega, by go_num, by rw [hnext.out]; go_num, hbu⟩
                case measure => simp [intOf]; omega
              · cases b3
                · cases hok
                · go_wp2_with fail
                  refine region_later (by kernel_rfl) (by kernel_rfl) ?_
                  repeat (go_big_quiet_step ((go_at_call 21; exact later_call _ (HI.out _))))
                  refine wpQuiet_nil ?_
                  rintro _ ⟨u, rfl⟩
                  have hbu := hbo.trans (u.2.mono hbo.size)
                  go_wp2_with fail
                  go_roundw
                  case rel => exact ⟨k + 1, by omega, by go_num, by rw [hnext.out]; go_num, hbu⟩
                  case measure => simp [intOf]; omega
          · have h0' : (kd == 0) = false := by simpa using h0
            have hnext : Hid ((versTo (verS s L) s (k + 1)).length = (versTo (verS s L) s k).length) := by
              show _ = _
              rw [hstep, if_neg (by simp [h0'])]
            generalize (versTo (verS s L) s k).length = q at *
            clear hstep hal hcase ho
            go_wp2_with fail
            go_roundw
            case rel => exact ⟨k + 1, by omega, by go_num, by rw [hnext.out], hbo⟩
            case measure => simp [intOf]; omega
        · have hq : (versTo (verS s L) s k).length = Y.length := by
            have : k = s.length := by omega
            rw [this]; exact hend.out
          rw [hq]
          clear hq
          go_wp2_with fail
          refine (hIS.out wo (HS6.out.below hbo (Nat.le_refl _))).mono ?_
          rintro e w7 ⟨rfl, hb7⟩
          have hb67 := hbo.trans (hb7.mono hbo.size)
          clear hb7
          cases bs
          · go_wp2_with fail
            go_ret
            exact ⟨rfl, hb16.trans (hb67.mono hb16.size)⟩
          · go_wp2_with fail
            refine (hCO.out w7 (HS6.out.below hb67 (Nat.le_refl _))).mono ?_
            rintro e w8 ⟨CA, cc, rfl, hcc, ⟨hC, _⟩, hb8⟩
            have hb68 := hb67.trans (hb8.mono hb67.size)
            have HE := Lib.hid (equalOps_any CA S _ m cc d (committed s) s w8 hC (HS6.out.below hb68 (Nat.le_refl _)))
            obtain ⟨be, hbe⟩ : ∃ b, (committed s == s) = b := ⟨_, rfl⟩
            rw [hbe] at HE
            have HBE := Lib.hid hbe
            clear hb8 hC hbe
            go_wp2_with fail
            refine HE.out.mono ?_
            rintro e w9 ⟨rfl, hb9⟩
            have hb69 := hb68.trans (hb9.mono hb68.size)
            clear hb9
            cases be
            · go_wp2_with fail
              go_ret
              exact ⟨rfl, hb16.trans (hb69.mono hb16.size)⟩
            · have hYZ : Y = Z := hrd.out (by first | rfl | trivial) (by have := HBE.out; simpa using this)
              subst hYZ
              go_wp2_with fail
              refine (hRD.out w9 (HS6.out.below hb69 (Nat.le_refl _))).mono ?_
              rintro e w10 ⟨ZA, zc, rfl, hzc, ⟨hZ, _⟩, hb10⟩
              have hb60 := hb69.trans (hb10.mono hb69.size)
              go_wp2_with fail
              refine (equalInts_any O ZA _ _ oc zc Y Y w10 (HO.out.below hb60 (Nat.le_refl _)) hZ).mono ?_
              rw [beq_self_eq_true]
              rintro e w11 ⟨rfl, hb11⟩
              have hb611 := hb60.trans (hb11.mono hb60.size)
              go_wp2_with fail
              go_ret
              exact ⟨rfl, hb16.trans (hb611.mono hb16.size)⟩
end Go.Proofs.Ytofcpfabjfhjoaa
