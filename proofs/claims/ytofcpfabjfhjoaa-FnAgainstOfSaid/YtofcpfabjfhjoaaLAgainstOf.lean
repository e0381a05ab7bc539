/-
  The walk of the law FnAgainstOf: whatever the input, it returns true and changes nothing.
-/
import Derived.Test.YtofcpfabjfhjoaaSt0
import Derived.Test.YtofcpfabjfhjoaaPlain7
import Derived.Test.YtofcpfabjfhjoaaAg3
import Derived.Test.YtofcpfabjfhjoaaLists0
import Derived.Test.YtofcpfabjfhjoaaOnly0
import Derived.Test.YtofcpfabjfhjoaaDraws1
import Derived.Test.YtofcpfabjfhjoaaOpen0
import Derived.Test.YtofcpfabjfhjoaaSerial
namespace Go.Proofs.Ytofcpfabjfhjoaa
open Go.RowKit Go.BigFrame
set_option linter.unusedVariables false

theorem lit2 {w : World} {H : Nat} (hH : w.heap.size = H) (a b : Int) : RInts (w.alloc (.cells #[.int .i64 a, .int .i64 b] 3)) (some ⟨H, 0, none⟩) 2 [a, b] := by subst hH; exact RInts.lit w [a, b] _ (by simp)
theorem only_two {s : List OpV} {t u : Int} (ht : ∃ o ∈ s, o.tx = t) (hu : ∃ o ∈ s, o.tx = u) (h : stampN s t < stampN s u) : (stI s).filter (fun x => [t, u].any fun y => y == x) = [t, u] := by
  refine Eq.trans ?_ (filter_two h (stI_sorted s) (mem_stI.2 ht) (mem_stI.2 hu))
  refine List.filter_congr fun x _ => ?_
  show ([t, u].any fun y => y == x) = (x == t || x == u)
  rw [Bool.eq_iff_iff]
  simp only [List.any_cons, List.any_nil, Bool.or_false, Bool.or_eq_true, beq_iff_eq]
  constructor
  · rintro (h | h)
    · exact .inl h.symm
    · exact .inr h.symm
  · rintro (h | h)
    · exact .inl h.symm
    · exact .inr h.symm

set_option maxRecDepth 100000 in
set_option maxHeartbeats 4000000 in
theorem law_againstOf (A : Option Addr) (n c : Nat) (w : World) (hin : BytesIn w A n c) :
    Calls Try.prog 7 #[.slice A n c] w fun e w' => e = .returned (.bool true) ∧ Below w.heap.size w w' := by
  obtain ⟨hx, hnc⟩ := hin
  have hn := hx.1
  by_cases hbig : 1048576 < n
  · clear hx
    go_enter Try.func7, Try.ntmps7
    go_wp2_with fail
    go_ret
    exact ⟨rfl, Below.refl _ _⟩
  · have HD := Lib.hid (DrawAgainstOf_any A n c w hx hnc)
    clear hx
    go_enter Try.func7, Try.ntmps7
    go_wp2_with fail
    refine HD.out.mono ?_
    rintro e w1 ⟨S, m, d, s, rfl, hown, hm, hb1⟩
    have hmd : m ≤ d := by obtain ⟨A', c', he, h⟩ := own_form2 hown; injection he with _ _ he; omega
    have HS := Lib.hid (ROps.of_own hown (by omega))
    have hI : orNil (validS s) (rowsI (agI4 s)) = orNil (validS s) (rowsI (agS4 s)) := by
      cases hv : validS s
      · rfl
      · rw [ag_eq hv]
    obtain ⟨ys, hys⟩ : ∃ ys, orNil (validS s) (rowsI (agS4 s)) = ys := ⟨_, rfl⟩
    obtain ⟨bv, hbv⟩ : ∃ bv, validS s = bv := ⟨_, rfl⟩
    have c1 : ∀ W : World, ROps W S m s → Calls Try.prog 37 #[.slice S m d] W (RetInts W ys) := fun W h => by
      have := AgainstOf_any S m d s W h hmd; rw [hI, hys] at this; exact this
    have c2 : ∀ W : World, ROps W S m s → Calls Try.prog 40 #[.slice S m d] W (RetInts W ys) := fun W h => by
      have := sAgainstOf_any S m d s W h hmd; rw [hys] at this; exact this
    have c3 : ∀ W : World, ROps W S m s → Calls Try.prog 19 #[.slice S m d] W fun e w' => e = .returned (.bool bv) ∧ Below W.heap.size W w' := fun W h => by
      have := ValidSchedule_any S m d s W h hmd; rw [hbv] at this; exact this
    have C1 := Lib.hid c1
    have C2 := Lib.hid c2
    have C3 := Lib.hid c3
    have HY := Lib.hid hys
    have HV := Lib.hid hbv
    clear hown HD c1 c2 c3 hI hys hbv
    go_wp2_with fail
    refine (C1.out w1 HS.out).mono ?_
    rintro e w2 ⟨O, oc, rfl, hoc, ⟨hro, _⟩, hb2⟩
    have hb12 : Below w.heap.size w w2 := hb1.trans (hb2.mono hb1.size)
    have HS2 := Lib.hid (HS.out.below hb2 (Nat.le_refl _))
    have HRO := Lib.hid hro
    clear hro
    go_wp2_with fail
    refine (C2.out w2 HS2.out).mono ?_
    rintro e w3 ⟨O3, c3, rfl, hc3, ⟨hr3, _⟩, hb3⟩
    go_wp2_with fail
    refine (equalInts_any O O3 _ _ oc c3 ys ys w3 (HRO.out.below hb3 (Nat.le_refl _)) hr3).mono ?_
    rw [beq_self_eq_true]
    rintro e w4 ⟨rfl, hb4⟩
    have hb24 : Below w2.heap.size w2 w4 := hb3.trans (hb4.mono hb3.size)
    clear hr3 hb3 hb4
    go_wp2_with fail
    refine (C3.out w4 (HS2.out.below hb24 (Nat.le_refl _))).mono ?_
    rintro e w5 ⟨rfl, hb5⟩
    have hb25 : Below w2.heap.size w2 w5 := hb24.trans (hb5.mono hb24.size)
    clear hb24 hb5
    cases bv
    · go_wp2_with fail
      refine (C2.out w5 (HS2.out.below hb25 (Nat.le_refl _))).mono ?_
      rintro e w6 ⟨O6, c6, rfl, hc6, ⟨hr6, _⟩, hb6⟩
      go_wp2_with fail
      refine (equalInts_any O O6 _ _ oc c6 ys ys w6 ((HRO.out.below hb25 (Nat.le_refl _)).below hb6 (Nat.le_refl _)) hr6).mono ?_
      rw [beq_self_eq_true]
      rintro e w7 ⟨rfl, hb7⟩
      go_wp2_with fail
      go_ret
      exact ⟨rfl, hb12.trans ((hb25.trans ((hb6.trans (hb7.mono hb6.size)).mono hb25.size)).mono hb12.size)⟩
    · have hV : validS s = true := HV.out
      have hyv : ys = rowsI (agS4 s) := by rw [← HY.out, hV]; rfl
      have hok4 : Rows4 (agS4 s) := agS_ok hV
      have hlen : (rowsI (agS4 s)).length = 4 := by simp [rowsI, hok4.1]
      subst hyv
      rw [hlen] at HRO hoc
      have hsu : orNil (validS s) (survI s) = survS s := by rw [orN_true hV, surv_eq hV]
      have hst : orNil (validS s) (stI s) = stI s := orN_true hV
      have hedge : ∀ t u : Nat, ((agS4 s).getD t 0).testBit u = true → t ≠ u ∧ ((survS s).any fun y => y == (t : Int)) = true ∧ ((survS s).any fun y => y == (u : Int)) = true ∧ (isSerV s = true → (stI s).filter (fun x => [(t : Int), (u : Int)].any fun y => y == x) = [(t : Int), (u : Int)]) := by
        intro t u hb
        obtain ⟨h1, h2, h3, h4⟩ := ag_edge hV hb
        refine ⟨h1, any_eq_iff.2 h2, any_eq_iff.2 h3, fun hs => ?_⟩
        unfold isSerV at hs
        simp only [Bool.and_eq_true] at hs
        obtain ⟨o, ho, e1, _⟩ := surv_commit hV h2
        obtain ⟨q, hq, e2, _⟩ := surv_commit hV h3
        exact only_two ⟨o, ho, e1⟩ ⟨q, hq, e2⟩ (ser_edge (t := (t : Int)) (u := (u : Int)) hV hs.1 (fun e => h1 (by omega)) h2 h3 h4).1
      have HE := Lib.hid hedge
      have HCs := Lib.hid (SurvivorsOf_any S m d s w5 (HS2.out.below hb25 (Nat.le_refl _)) hmd)
      rw [hsu] at HCs
      have HSt : Hid (∀ W, ROps W S m s → Calls Try.prog 41 #[.slice S m d] W (RetInts W (stI s))) := fun W h => by
        have := StampsOf_any S m d s W h hmd; rw [hst] at this; exact this
      have hIS : Hid (∀ W, ROps W S m s → Calls Try.prog 22 #[.slice S m d] W fun e w' => e = .returned (.bool (isSerV s)) ∧ Below W.heap.size W w') := fun W h => IsSerial_any S m d s W h hmd
      have HOK := Lib.hid hok4
      generalize agS4 s = R at *
      generalize survS s = L at *
      generalize stI s = Z at *
      generalize isSerV s = bs at *
      clear hedge hsu hst hok4 HY HV C1 C2 C3 hV
      go_wp2_with fail
      refine HCs.out.mono ?_
      rintro e w6 ⟨LA, lc, rfl, hlc, ⟨hL, _⟩, hb6⟩
      have hb26 := hb25.trans (hb6.mono hb25.size)
      go_wp2_with fail
      refine (HSt.out w6 (HS2.out.below hb26 (Nat.le_refl _))).mono ?_
      rintro e w7 ⟨ZA, zc, rfl, hzc, ⟨hZ, _⟩, hb7⟩
      have hb27 := hb26.trans (hb7.mono hb26.size)
      have HL := Lib.hid (hL.below hb7 (Nat.le_refl _))
      have HZ := Lib.hid hZ
      have HO7 := Lib.hid (HRO.out.below hb27 (Nat.le_refl _))
      have HS7 := Lib.hid (HS2.out.below hb27 (Nat.le_refl _))
      have hb17 := hb12.trans (hb27.mono hb12.size)
      have hzl : Z.length ≤ 1099511627776 := hZ.2.1
      clear hL hZ hb6 hb7 hb26 hb25 HS2 HRO HS HCs hb27 hb12
      go_wp2_with fail
      go_loopw [7] (fun i wr => ∃ t : Nat, t ≤ 4 ∧ i = .int .i64 t ∧ Below w7.heap.size w7 wr) (fun i _ => 4 - (intOf i).toNat)
      case atStart => exact ⟨0, by omega, rfl, Below.refl _ _⟩
      case round =>
        obtain ⟨wo, rfl⟩ : ∃ wo : World, wo = wr := ⟨_, rfl⟩
        obtain ⟨t, ht, rfl, hbo⟩ := hrel
        by_cases hlt : t < 4
        · have hdt : decide ((t : Int) < 4) = true := by simp; omega
          have ht4 : (t : Int) < 4 := by omega
          have ht0 : (0 : Int) ≤ (t : Int) := by omega
          go_wp2_with fail
          go_loopw [8] (fun i wr => ∃ u : Nat, u ≤ 4 ∧ i = .int .i64 u ∧ Below w7.heap.size w7 wr) (fun i _ => 4 - (intOf i).toNat)
          case atStart => exact ⟨0, by omega, rfl, hbo⟩
          case round =>
            obtain ⟨wi, rfl⟩ : ∃ wi : World, wi = wr := ⟨_, rfl⟩
            obtain ⟨u, hu, rfl, hbi⟩ := hrel
            by_cases hlt2 : u < 4
            · have hdu : decide ((u : Int) < 4) = true := by simp; omega
              have hO := HO7.out.below hbi (Nat.le_refl _)
              obtain ⟨bo, offo, x, hOe, hblo, hox, c0⟩ := hO.at_ (k := t) hlt
              subst hOe
              have hox2 : (rowsI R)[t]? = some ((R.getD t 0 : Nat) : Int) := by
                have hk' : t < R.length := by rw [HOK.out.1]; exact hlt
                simp [rowsI, List.getElem?_map, List.getElem?_eq_getElem hk', List.getD_eq_getElem?_getD]
              rw [hox2] at hox
              injection hox with hox
              subst hox
              have hr16 := (rowsI_at HOK.out (T := t) (by omega)).2
              obtain ⟨bb, hbb⟩ : ∃ b, (R.getD t 0).testBit u = b := ⟨_, rfl⟩
              have hB : Calls Try.prog 38 #[.int .i64 ((R.getD t 0 : Nat) : Int), .int .i64 (u : Int)] wi fun e w' => e = .returned (.int .i64 (if bb then 1 else 0)) ∧ wi = w' := by
                have := lbit_any (R.getD t 0) u wi (by omega) (by omega); rw [hbb] at this; exact this
              have HB := Lib.hid hB
              have HEB : Hid (bb = true → t ≠ u ∧ (L.any fun y => y == (t : Int)) = true ∧ (L.any fun y => y == (u : Int)) = true ∧ (bs = true → Z.filter (fun x => [(t : Int), (u : Int)].any fun y => y == x) = [(t : Int), (u : Int)])) := fun h => HE.out t u (by rw [hbb, h])
              generalize R.getD t 0 = r at *
              clear hO hbb hB hox2
              cases bb
              · go_wp2_with fail
                refine HB.out.mono ?_
                rintro e w8 ⟨rfl, rfl⟩
                go_wp2_with fail
                go_roundw
                case rel => exact ⟨u + 1, by omega, by go_num, hbi⟩
                case measure => simp [intOf]; omega
              · obtain ⟨hne, hm1, hm2, hf⟩ := HEB.out rfl
                have hne' : ¬ (t : Int) = (u : Int) := by omega
                have HF := Lib.hid hf
                have hI1 : ∀ W, Below w7.heap.size w7 W → Calls Try.prog 21 #[.slice LA L.length lc, .int .i64 (t : Int)] W fun e w' => e = .returned (.bool true) ∧ Below W.heap.size W w' := fun W h => by
                  have := isIn_any LA L.length lc L t W (HL.out.below h (Nat.le_refl _)); rw [hm1] at this; exact this
                have hI2 : ∀ W, Below w7.heap.size w7 W → Calls Try.prog 21 #[.slice LA L.length lc, .int .i64 (u : Int)] W fun e w' => e = .returned (.bool true) ∧ Below W.heap.size W w' := fun W h => by
                  have := isIn_any LA L.length lc L u W (HL.out.below h (Nat.le_refl _)); rw [hm2] at this; exact this
                have HI1 := Lib.hid hI1
                have HI2 := Lib.hid hI2
                clear hI1 hI2 hf HEB hm1 hm2
                go_wp2_with fail
                refine HB.out.mono ?_
                rintro e w8 ⟨rfl, rfl⟩
                go_wp2_with fail
                refine (HI1.out _ hbi).mono ?_
                rintro e w9 ⟨rfl, hb9⟩
                have hb79 := hbi.trans (hb9.mono hbi.size)
                go_wp2_with fail
                refine (HI2.out _ hb79).mono ?_
                rintro e w10 ⟨rfl, hb10⟩
                have hb70 := hb79.trans (hb10.mono hb79.size)
                clear hb9 hb10 hb79
                go_wp2_with fail
                refine (hIS.out w10 (HS7.out.below hb70 (Nat.le_refl _))).mono ?_
                rintro e w11 ⟨rfl, hb11⟩
                have hb7 := hb70.trans (hb11.mono hb70.size)
                clear hb11 hb70
                cases bs
                · go_wp2_with fail
                  go_roundw
                  case rel => exact ⟨u + 1, by omega, by go_num, hb7⟩
                  case measure => simp [intOf]; omega
                · have hfe := HF.out rfl
                  obtain ⟨wa, hwa⟩ : ∃ wa : World, wa = w11.alloc (.cells #[.int .i64 (t : Int), .int .i64 (u : Int)] 3) := ⟨_, rfl⟩
                  obtain ⟨wb, hwb⟩ : ∃ wb : World, wb = wa.alloc (.cells #[.slice (some ⟨w11.heap.size, 0, none⟩) 2 2] 25) := ⟨_, rfl⟩
                  obtain ⟨wc, hwc⟩ : ∃ wc : World, wc = wb.alloc (.cells #[.int .i64 (t : Int), .int .i64 (u : Int)] 3) := ⟨_, rfl⟩
                  have ra : RInts wa (some ⟨w11.heap.size, 0, none⟩) 2 [(t : Int), (u : Int)] := by rw [hwa]; exact lit2 rfl _ _
                  have sa : wa.heap.size = w11.heap.size + 1 := by rw [hwa]; simp
                  have sb : wb.heap.size = w11.heap.size + 2 := by rw [hwb]; simp [sa]
                  have hba : Below w11.heap.size w11 wa := by rw [hwa]; exact (Below.refl _ _).alloc (Nat.le_refl _) _
                  have hbb : Below w11.heap.size w11 wb := by rw [hwb]; exact hba.alloc hba.size _
                  have hbc : Below w11.heap.size w11 wc := by rw [hwc]; exact hbb.alloc hbb.size _
                  have hbbc : Below wb.heap.size wb wc := by rw [hwc]; exact (Below.refl _ _).alloc (Nat.le_refl _) _
                  have rb : RLists wb (some ⟨w11.heap.size + 1, 0, none⟩) 1 [[(t : Int), (u : Int)]] := by rw [hwb]; exact RLists.lit1 sa (Nat.le_refl _) ra
                  have rc : RInts wc (some ⟨w11.heap.size + 2, 0, none⟩) 2 [(t : Int), (u : Int)] := by rw [hwc]; exact lit2 sb _ _
                  have rbc := rb.below hbbc (Nat.le_refl _)
                  have hb7c := hb7.trans (hbc.mono hb7.size)
                  have HON := Lib.hid (only_any ZA (some ⟨w11.heap.size + 2, 0, none⟩) Z.length 2 zc 2 Z [(t : Int), (u : Int)] wc (HZ.out.below hb7c (Nat.le_refl _)) rc)
                  rw [hfe] at HON
                  have HRB := Lib.hid rbc
                  have HWC : Hid (((w11.alloc (.cells #[.int .i64 (t : Int), .int .i64 (u : Int)] 3)).alloc (.cells #[.slice (some ⟨w11.heap.size, 0, none⟩) 2 2] 25)).alloc (.cells #[.int .i64 (t : Int), .int .i64 (u : Int)] 3) = wc) := by show _ = _; rw [hwc, hwb, hwa]
                  clear ra rb rc rbc hwa hwb hwc hba hbb hbc hbbc hfe HF sa sb
                  go_wp2_with fail
                  rw [HWC.out]
                  refine HON.out.mono ?_
                  rintro e wd ⟨N, nc, rfl, hnc2, ⟨hN, _⟩, hbd⟩
                  have hb7d := hb7c.trans (hbd.mono hb7c.size)
                  have HHL := Lib.hid (holdsList_any (some ⟨w11.heap.size + 1, 0, none⟩) N 1 2 1 nc [[(t : Int), (u : Int)]] [(t : Int), (u : Int)] wd (HRB.out.below hbd (Nat.le_refl _)) hN)
                  clear hN hbd HON HRB
                  go_wp2_with fail
                  refine HHL.out.mono ?_
                  rw [List.any_cons, beq_self_eq_true, Bool.true_or]
                  rintro e we ⟨rfl, hbe⟩
                  have hb7e := hb7d.trans (hbe.mono hb7d.size)
                  go_wp2_with fail
                  go_roundw
                  case rel => exact ⟨u + 1, by omega, by go_num, hb7e⟩
                  case measure => simp [intOf]; omega
            · go_wp2_with fail
              go_roundw
              case rel => exact ⟨t + 1, by omega, by go_num, hbi⟩
              case measure => simp [intOf]; omega
        · go_wp2_with fail
          go_ret
          exact ⟨rfl, hb17.trans (hbo.mono hb17.size)⟩
end Go.Proofs.Ytofcpfabjfhjoaa
