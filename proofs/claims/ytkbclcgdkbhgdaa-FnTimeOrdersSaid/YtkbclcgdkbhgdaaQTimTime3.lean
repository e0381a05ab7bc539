/-
  TimeOrders of the program: the walk.
-/
import Derived.Test.YtkbclcgdkbhgdaaQTimTime1
import Derived.IntWalk
import Derived.WalkMore
namespace Go.Proofs.Ytkbclcgdkbhgdaa
open Go.RowKit Go.BigFrame
set_option linter.unusedVariables false

set_option maxRecDepth 100000 in
set_option maxHeartbeats 4000000 in
theorem TimeOrders_any (A : Option Addr) (n c : Nat) (s : List OpV) (w : World) (hx : ROps w A n s) (hnc : n ≤ c) :
    Calls Try.prog 38 #[.slice A n c] w (RetListsA w (orNil (validS s) (timeI s))) := by
  have HX := Lib.hid hx
  clear hx
  go_enter Try.func38, Try.ntmps38
  go_wp2_with fail
  go_step3
  go_wp2_with fail
  refine (ValidSchedule_any A n c s w HX.out hnc).mono ?_
  rintro e w1 ⟨rfl, hb⟩
  cases hv : validS s
  · have HV := Lib.hid hv
    clear hv
    go_wp2_with fail
    try rw [Exit.noGoto_ret]
    go_ret
    rw [HV.out]
    exact RetListsA.nil hb
  · have HV := Lib.hid hv
    have hb1 := hb.size
    obtain ⟨w2, hw2⟩ : ∃ w2, w2 = w1.alloc (.cells #[] 40) := ⟨_, rfl⟩
    have hb12 : Below w1.heap.size w1 w2 := by rw [hw2]; exact (Below.refl _ _).alloc (Nat.le_refl _) _
    have hsz2 : w2.heap.size = w1.heap.size + 1 := by rw [hw2]; simp
    have hb02 := hb.trans (hb12.mono hb.size)
    have HO := Lib.hid (ordersOf_any A n c s w2 (HX.out.below hb02 (Nat.le_refl _)) hv)
    have hob := ordO_bd hv
    have HBD : Hid ((ordO s).length ≤ 1024 ∧ ∀ xs ∈ ordO s, xs.length ≤ 4) := hob
    have hown0 : w2.ownsRow w.heap.size 40 1 (.slice (some ⟨w1.heap.size, 0, none⟩) 0 0) 0 [] := by
      rw [hw2]; exact World.ownsRow_made (base := w.heap.size) (e := 40) (size := 1) w1 #[] 0 (by omega) (by decide) rfl
    have HOWN := Lib.hid hown0
    have HTI : Hid (timeI s = (ordO s).filter (okT s)) := rfl
    generalize timeI s = res at *
    rw [hw2] at HO
    clear hv hob hown0
    go_wp2_with fail
    go_step3
    go_wp2_with fail
    rw [← hw2] at HO ⊢
    refine HO.out.mono ?_
    rintro e V ⟨A6, c6, rv, rfl, hc6, hou, hro, hap, hb2⟩
    clear hw2
    have hbV := hb02.trans (hb2.mono hb02.size)
    have hsV := hb2.size
    have HG : Hid (GLists w2 V A6 (ordO s).length rv (ordO s)) := ⟨hou, hro⟩
    have HAP := Lib.hid hap
    have HST : Hid (TmInv s w w2 V w1.heap.size rv (ordO s) 0 (.slice (some ⟨w1.heap.size, 0, none⟩) 0 0) V) := by
      refine ⟨hbV, Nat.le_refl _, fun _ _ _ => rfl, ⟨[], ?_, RowsR.nil, ApartR.nil, fun i a m d h => by simp at h⟩, fun g hg => ?_⟩
      · exact own_below HOWN.out hb2
      · simp [Value.ownBlock] at hg; exact .inl hg.symm
    generalize ordO s = xss at *
    obtain ⟨N, hN⟩ : ∃ N, xss.length = N := ⟨_, rfl⟩
    rw [hN] at HG hc6 ⊢
    have HN := Lib.hid hN
    have hN1 : N ≤ 1024 := by have := HBD.out.1; omega
    clear hN hou hro hap HO hb2 HOWN
    go_wp2_with fail
    go_loopw [3, 21] (fun o i wr => ∃ (q : Nat) (ov : Value), q ≤ N ∧ i = .int .i64 q ∧ o = ov ∧ TmInv s w w2 V w1.heap.size rv xss q ov wr) (fun _ i _ => N - (intOf i).toNat)
    case atStart => exact ⟨0, _, Nat.zero_le _, rfl, rfl, HST.out⟩
    case round =>
      clear HST
      obtain ⟨wo, rfl⟩ : ∃ wo : World, wo = wr := ⟨_, rfl⟩
      obtain ⟨q, ov, hq, rfl, hov, hI⟩ := hrel
      have hov2 := hov.symm
      clear hov
      subst hov2
      have HI := Lib.hid hI
      by_cases hlt : q < N
      · have hGo := HG.out.turned hI.sz hI.keep
        obtain ⟨bA, rfl, hbA, hbA2, hcell⟩ := hGo.outer.cells (by omega)
        obtain ⟨xs, hxs⟩ : ∃ xs, xss[q]? = some xs := ⟨_, List.getElem?_eq_getElem (by rw [HN.out]; exact hlt)⟩
        obtain ⟨B, d, hrv, hmd, hfr⟩ := hGo.rows.2 q xs hxs
        have hcq := hcell q _ hrv
        rw [Nat.zero_add] at hcq
        have hxr := hfr.1
        have hm4 := HBD.out.2 xs (List.mem_of_getElem? hxs)
        obtain ⟨m, hm⟩ : ∃ m, xs.length = m := ⟨_, rfl⟩
        rw [hm] at hrv hmd hxr hcq hm4
        have HPUSH : Hid (okT s xs = true → ∀ W, Below wo.heap.size wo W → ∃ N0 rv', N0 ≤ N ∧ W.ownsRow w.heap.size 40 1 ov N0 rv' ∧ w.heap.size ≤ W.heap.size ∧ ∀ (t : TypeId) (v' : Value) (w3 : World), w3.ownsRow w.heap.size 40 1 v' (N0 + 1) (rv' ++ [.slice B m d]) → (W.alloc (.cells #[.slice B m d] t)).grownBy w3 ov.ownBlock →
            (v'.ownBlock = ov.ownBlock ∨ v'.ownBlock = some (W.alloc (.cells #[.slice B m d] t)).heap.size) → TmInv s w w2 V w1.heap.size rv xss (q + 1) v' w3) := fun ho W hW => by
          have := (HI.out.later hW).push HG.out HAP.out (by omega) (by omega) hxs ho hm hrv
          rw [HN.out] at this
          exact this
        have HSKIP : Hid (okT s xs = false → ∀ W, Below wo.heap.size wo W → TmInv s w w2 V w1.heap.size rv xss (q + 1) ov W) := fun ho W hW => (HI.out.skip hxs ho).later hW
        have HXR := Lib.hid hxr
        have HM := Lib.hid hm
        have hqi : (q : Int) < (N : Int) := by omega
        clear hI hGo hcell hxs hrv hfr hxr hm
        go_wp2_with fail
        go_loopw [27] (fun i wr => ∃ k : Nat, k ≤ m ∧ i = .int .i64 k ∧ Below wo.heap.size wo wr ∧ okPre s xs k) (fun i _ => m - (intOf i).toNat)
        case atStart => exact ⟨0, Nat.zero_le _, rfl, Below.refl _ _, okPre_zero⟩
        case round =>
          obtain ⟨wi, rfl⟩ : ∃ wi : World, wi = wr := ⟨_, rfl⟩
          obtain ⟨k, hk, rfl, hbi, hpre⟩ := hrel
          have HPRE := Lib.hid hpre
          by_cases hltk : k < m
          · obtain ⟨b, off, t, rfl, hbl, ht, hct⟩ := (HXR.out.below hbi (Nat.le_refl _)).at_ hltk
            have HT := Lib.hid ht
            have hboi := HI.out.below.trans (hbi.mono HI.out.below.size)
            have HS := Lib.hid (span_any A n c s t wi (HX.out.below hboi (Nat.le_refl _)))
            have hjw : IntKind.i64.wrap ((k : Int) + 1) = (k : Int) + 1 := IntWalk.i64_in _ (by omega)
            have hjt : ((k : Int) + 1).toNat = k + 1 := by omega
            obtain ⟨M, hM⟩ : ∃ M : Nat, M = m - (k + 1) := ⟨_, rfl⟩
            have hMi : (m : Int) - ((k : Int) + 1) = (M : Int) := by omega
            have HMM := Lib.hid hM
            obtain ⟨F, hF⟩ : ∃ F, firstI s t = F := ⟨_, rfl⟩
            obtain ⟨La, hLa⟩ : ∃ F, lastI s t = F := ⟨_, rfl⟩
            rw [hF, hLa] at HS
            have HF := Lib.hid hF
            clear hpre ht hM hF hLa
            have hjd : (k : Int) + 1 ≤ (d : Int) := by omega
            have hjm : (k : Int) + 1 ≤ (m : Int) := by omega
            go_wp2_with fail
            refine HS.out.mono ?_
            rintro e wj ⟨rfl, hbj⟩
            have hbij := hbi.trans (hbj.mono hbi.size)
            by_cases hkc : k + 1 = d
            · have hmk : Hid (m = k + 1) := by show _ = _; omega
              have HN2 : Hid (okPre s xs (k + 1)) := okPre_succ HPRE.out HT.out (by rw [HM.out, hmk.out]; exact okRow_zero)
              have hjc2 : (k : Int) + 1 = (d : Int) := by omega
              have hjc3 : d ≤ k + 1 := by omega
              have HM0 : Hid (M = 0) := by show _ = _; have := HMM.out; omega
              clear hkc
              go_wp2_with fail
              go_loopw [43] (fun i wr2 => i = .int .i64 0 ∧ Below wo.heap.size wo wr2) (fun _ _ => 0)
              case atStart => exact ⟨rfl, hbij⟩
              case round =>
                obtain ⟨rfl, hb2⟩ := hrel
                have hM0 : ¬ (0 : Int) < (M : Int) := by have := HM0.out; omega
                go_wp2_with fail
                go_roundw
                case rel => exact ⟨k + 1, by omega, by go_num, hb2, HN2.out⟩
                case measure => simp [intOf] <;> omega
            · have hjc2 : ¬ ((k : Int) + 1 = (d : Int)) := by omega
              have hjc3 : ¬ (d ≤ k + 1) := by omega
              go_wp2_with fail
              go_loopw [43] (fun i wr2 => ∃ p : Nat, p ≤ M ∧ i = .int .i64 p ∧ Below wo.heap.size wo wr2 ∧ okRow s xs k t (k + 1 + p)) (fun i _ => M - (intOf i).toNat)
              case atStart => exact ⟨0, Nat.zero_le _, rfl, hbij, okRow_zero⟩
              case round =>
                obtain ⟨wl, rfl⟩ : ∃ wi : World, wi = wr := ⟨_, rfl⟩
                obtain ⟨p, hp, rfl, hbl2, hrow⟩ := hrel
                have HROW := Lib.hid hrow
                by_cases hltp : p < M
                · obtain ⟨b', off', u, hBe, hbl3, hu, hcu⟩ := (HXR.out.below hbl2 (Nat.le_refl _)).at_ (k := k + 1 + p) (by omega)
                  injection hBe with hBe
                  injection hBe with q1 q2 _
                  subst q1; subst q2
                  have eo : off + (k + 1 + p) = off + (k + 1) + p := by omega
                  rw [eo] at hcu
                  have hboj := HI.out.below.trans (hbl2.mono HI.out.below.size)
                  have HS2 := Lib.hid (span_any A n c s u wl (HX.out.below hboj (Nat.le_refl _)))
                  obtain ⟨F2, hF2⟩ : ∃ F, firstI s u = F := ⟨_, rfl⟩
                  obtain ⟨L2, hL2⟩ : ∃ F, lastI s u = F := ⟨_, rfl⟩
                  rw [hF2, hL2] at HS2
                  have HU := Lib.hid hu
                  have HL2 := Lib.hid hL2
                  have hpi : (p : Int) < (M : Int) := by omega
                  clear hrow hu hF2 hL2
                  go_wp2_with fail
                  refine HS2.out.mono ?_
                  rintro e wm ⟨rfl, hbm⟩
                  have hbmo := hbl2.trans (hbm.mono hbl2.size)
                  by_cases hlf : L2 < F
                  · have HSK := Lib.hid (HSKIP.out (okT_not (by omega) HT.out HU.out (by rw [HL2.out, HF.out]; exact hlf)) wm hbmo)
                    go_wp2_with fail
                    go_roundw
                    case rel => exact ⟨q + 1, _, by omega, by go_num, rfl, HSK.out⟩
                    case measure => simp [intOf]; omega
                  · have HRN := Lib.hid (okRow_succ HROW.out HU.out (by rw [HL2.out, HF.out]; exact hlf))
                    go_wp2_with fail
                    go_roundw
                    case rel => exact ⟨p + 1, by omega, by go_num, hbmo, HRN.out⟩
                    case measure => simp [intOf]; omega
                · have HN2 : Hid (okPre s xs (k + 1)) := okPre_succ HPRE.out HT.out (by
                    have e : xs.length = k + 1 + p := by have := HM.out; have := HMM.out; omega
                    rw [e]; exact HROW.out)
                  clear hrow
                  go_wp2_with fail
                  go_roundw
                  case rel => exact ⟨k + 1, by omega, by go_num, hbl2, HN2.out⟩
                  case measure => simp [intOf]; omega
          · obtain rfl : k = m := by omega
            have ho : okT s xs = true := okT_of (by rw [HM.out]; exact HPRE.out)
            obtain ⟨N0, rv', hN0, hown, hwz, hnext⟩ := HPUSH.out ho wi hbi
            have HNX := Lib.hid hnext
            clear hpre hnext
            go_wp2_with (at_builtin; refine app_rows (.tmp 58) (.tmp 60) (hown.alloc _) (by simp; omega) (Src.one _ (.slice B k d) _ rfl) (by omega) rfl rfl rfl rfl ?_; intro v3 w3 hown3 hg3 hat3)
            have HNN := Lib.hid (HNX.out _ v3 w3 hown3 hg3 hat3)
            clear HNX hown3 hg3 hat3 hown
            go_wp2_with fail
            go_roundw
            case rel => exact ⟨q + 1, _, by omega, by go_num, rfl, HNN.out⟩
            case measure => simp [intOf]; omega
      · obtain rfl : q = N := by omega
        have hI2 := hI
        rw [← HN.out] at hI2
        obtain ⟨Ao, co, N2, rfl, hco, hN2, hret⟩ := hI2.done HG.out (by omega)
        have HRET := Lib.hid hret
        have HCL := Lib.hid (ClipL_any Ao N2 co wo (by rw [HN.out] at hN2; omega) hco)
        clear hI hI2 hret HI
        go_wp2_with fail
        refine HCL.out.mono ?_
        rintro e w5 ⟨rfl, rfl⟩
        go_wp2_with fail
        try rw [Exit.noGoto_ret]
        go_ret
        rw [HV.out]
        show RetListsA w res _ _
        rw [HTI.out]
        exact HRET.out
end Go.Proofs.Ytkbclcgdkbhgdaa
