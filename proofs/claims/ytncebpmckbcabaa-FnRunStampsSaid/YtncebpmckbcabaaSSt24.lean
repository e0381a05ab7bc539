/-
  Texts that the proof rests on, joined: part 24.
-/
import Derived.Test.YtncebpmckbcabaaSSt1
import Derived.Test.YtncebpmckbcabaaSSt8
import Derived.Test.YtncebpmckbcabaaSSt20
import Derived.Test.YtncebpmckbcabaaSSt23
namespace Go.Proofs.Ytncebpmckbcabaa
open Go.RowKit Go.BigFrame
set_option linter.unusedVariables false

theorem txs_le4 (s : List OpV) : (txsOf s).length ≤ 4 := by unfold txsOf; exact List.length_filter_le _ _
theorem ordO_le256 (s : List OpV) : (ordO s).length ≤ 256 := by
  unfold ordO ordI
  refine Nat.le_trans (List.length_filter_le _ _) (Nat.le_trans (permF_len (txs_le4 _) _ []) ?_)
  exact Nat.pow_le_pow_right (by omega) (txs_le4 _)
theorem orNil_tt {α : Type} {b : Bool} {xs : List α} (h : b = true) : orNil b xs = xs := by subst h; rfl
set_option maxRecDepth 100000 in
set_option maxHeartbeats 4000000 in
theorem law_runStamps (A : Option Addr) (n c : Nat) (w : World) (hin : BytesIn w A n c) :
    Calls Try.prog 7 #[.slice A n c] w fun e w' => e = .returned (.bool true) ∧ Below w.heap.size w w' := by
  obtain ⟨hx, hnc⟩ := hin
  have hn := hx.1
  by_cases hbig : 1048576 < n
  · clear hx
    go_enter Try.func7, Try.ntmps7
    go_wp2_with fail
    go_ret
    exact ⟨rfl, Below.refl _ _⟩
  · have HD := Lib.hid (DrawRunStamps_any A n c w hx hnc)
    clear hx
    go_enter Try.func7, Try.ntmps7
    go_wp2_with fail
    refine HD.out.mono ?_
    rintro e w1 ⟨S, m, d, s, skip, rfl, hmd, hS, hm, hb1⟩
    have HS := Lib.hid hS
    have hml : s.length = m := hS.1
    obtain ⟨xs, hxs⟩ : ∃ xs, orNil (runB s) (stRun s skip s.length).done = xs := ⟨_, rfl⟩
    obtain ⟨ys, hys⟩ : ∃ ys, orNil (runB s) (stRun s skip s.length).dead = ys := ⟨_, rfl⟩
    have c1 : ∀ W : World, ROps W S m s → Calls Try.prog 35 #[.slice S m d, .bool skip] W (RetOI W xs ys) := fun W h => by
      have := RunStamps_any S m d s skip W h hmd; rw [hxs, hys] at this; exact this
    have c2 : ∀ W : World, ROps W S m s → Calls Try.prog 36 #[.slice S m d, .bool skip] W (RetOI W xs ys) := fun W h => by
      have := sRunStamps_any S m d s skip W h; rw [hxs, hys] at this; exact this
    obtain ⟨bv, hbv⟩ : ∃ bv, validS s = bv := ⟨_, rfl⟩
    have c3 : ∀ W : World, ROps W S m s → Calls Try.prog 28 #[.slice S m d] W fun e w' => e = .returned (.bool bv) ∧ Below W.heap.size W w' := fun W h => by
      have := ValidSchedule_any S m d s W h hmd; rw [hbv] at this; exact this
    have C1 := Lib.hid c1
    have C2 := Lib.hid c2
    have C3 := Lib.hid c3
    have HXS := Lib.hid hxs
    have HYS := Lib.hid hys
    have HV := Lib.hid hbv
    have HML := Lib.hid hml
    clear hS HD c1 c2 c3 hxs hys hbv hml
    go_wp2_with fail
    refine (C1.out w1 HS.out).mono ?_
    rintro e w2 ⟨O, oc, P, pc, rfl, hoc, hpc, ⟨hro, _⟩, ⟨hrp, _⟩, hb2⟩
    have hb12 : Below w.heap.size w w2 := hb1.trans (hb2.mono hb1.size)
    have HS2 := Lib.hid (HS.out.below hb2 (Nat.le_refl _))
    have HRO := Lib.hid hro
    have HRP := Lib.hid hrp
    have hxl : xs.length ≤ 1099511627776 := hro.2.1
    have hyl : ys.length ≤ 1099511627776 := hrp.2.1
    clear hro hrp
    go_wp2_with fail
    refine (C2.out w2 HS2.out).mono ?_
    rintro e w3 ⟨O3, c3, P3, d3, rfl, hc3, hd3, ⟨hr3, _⟩, ⟨hq3, _⟩, hb3⟩
    have HR3 := Lib.hid hr3
    have HQ3 := Lib.hid hq3
    clear hr3 hq3
    go_wp2_with fail
    refine (equalOps_any O O3 _ _ oc c3 xs xs w3 (HRO.out.below hb3 (Nat.le_refl _)) HR3.out).mono ?_
    rw [beq_self_eq_true]
    rintro e w4 ⟨rfl, hb4⟩
    have hb24 : Below w2.heap.size w2 w4 := hb3.trans (hb4.mono hb3.size)
    go_wp2_with fail
    refine (equalInts_any P P3 _ _ pc d3 ys ys w4 (HRP.out.below hb24 (Nat.le_refl _)) (HQ3.out.below hb4 (Nat.le_refl _))).mono ?_
    rw [beq_self_eq_true]
    rintro e w5 ⟨rfl, hb5⟩
    have hb35 : Below w3.heap.size w3 w5 := hb4.trans (hb5.mono hb4.size)
    have hb25 : Below w2.heap.size w2 w5 := hb24.trans (hb5.mono hb24.size)
    clear hb24 hb4 hb5
    go_wp2_with fail
    refine (C3.out w5 (HS2.out.below hb25 (Nat.le_refl _))).mono ?_
    rintro e w6 ⟨rfl, hb6⟩
    have hb26 : Below w2.heap.size w2 w6 := hb25.trans (hb6.mono hb25.size)
    have hb36 : Below w3.heap.size w3 w6 := hb35.trans (hb6.mono hb35.size)
    clear hb6 hb25 hb35
    cases bv
    · go_wp2_with fail
      refine (equalOps_any O O3 _ _ oc c3 xs xs w6 (HRO.out.below hb26 (Nat.le_refl _)) (HR3.out.below hb36 (Nat.le_refl _))).mono ?_
      rw [beq_self_eq_true]
      rintro e w7 ⟨rfl, hb7⟩
      have hb27 := hb26.trans (hb7.mono hb26.size)
      have hb37 := hb36.trans (hb7.mono hb36.size)
      go_wp2_with fail
      refine (equalInts_any P P3 _ _ pc d3 ys ys w7 (HRP.out.below hb27 (Nat.le_refl _)) (HQ3.out.below hb37 (Nat.le_refl _))).mono ?_
      rw [beq_self_eq_true]
      rintro e w8 ⟨rfl, hb8⟩
      go_wp2_with fail
      go_ret
      exact ⟨rfl, hb12.trans ((hb27.trans (hb8.mono hb27.size)).mono hb12.size)⟩
    · by_cases h12 : 12 < m
      · have h12i : (12 : Int) < (m : Int) := by omega
        go_wp2_with fail
        refine (equalOps_any O O3 _ _ oc c3 xs xs w6 (HRO.out.below hb26 (Nat.le_refl _)) (HR3.out.below hb36 (Nat.le_refl _))).mono ?_
        rw [beq_self_eq_true]
        rintro e w7 ⟨rfl, hb7⟩
        have hb27 := hb26.trans (hb7.mono hb26.size)
        have hb37 := hb36.trans (hb7.mono hb36.size)
        go_wp2_with fail
        refine (equalInts_any P P3 _ _ pc d3 ys ys w7 (HRP.out.below hb27 (Nat.le_refl _)) (HQ3.out.below hb37 (Nat.le_refl _))).mono ?_
        rw [beq_self_eq_true]
        rintro e w8 ⟨rfl, hb8⟩
        go_wp2_with fail
        go_ret
        exact ⟨rfl, hb12.trans ((hb27.trans (hb8.mono hb27.size)).mono hb12.size)⟩
      · have hV : validS s = true := HV.out
        have hml := HML.out
        have hrb : runB s = true := by unfold runB; rw [hV]; simp; omega
        have hx' : xs = (stRun s skip s.length).done := by rw [← HXS.out, hrb]; rfl
        have hy' : ys = (stRun s skip s.length).dead := by rw [← HYS.out, hrb]; rfl
        have hinv := stRun_inv hV skip s.length (Nat.le_refl _)
        have hxv : Hid (validS xs = true) := by show _ = _; rw [hx']; exact hinv.valid hV (Nat.le_refl _)
        have hdead : Hid (∀ t ∈ ys, endOfV xs t = 3) := fun t ht => by
          unfold endOfV
          rw [hxv.out, if_pos rfl, hx']
          rw [hy'] at ht
          exact hinv.aborts hV (Nat.le_refl _) ht
        have hlaw : (stI s).filter (fun t => (txsOf (committed xs)).any fun y => y == t) ∈ ordO xs := by rw [hx']; exact hinv.order hV (Nat.le_refl _)
        have HO6 := Lib.hid (HRO.out.below hb26 (Nat.le_refl _))
        have HP6 := Lib.hid (HRP.out.below hb26 (Nat.le_refl _))
        have HS6 := Lib.hid (HS2.out.below hb26 (Nat.le_refl _))
        have hb16 := hb12.trans (hb26.mono hb12.size)
        have h12i : ¬ (12 : Int) < (m : Int) := by omega
        obtain ⟨Q, hQ⟩ : ∃ Q, ordO xs = Q := ⟨_, rfl⟩
        obtain ⟨P0, hP⟩ : ∃ P0, stI s = P0 := ⟨_, rfl⟩
        obtain ⟨K, hK⟩ : ∃ K, committed xs = K := ⟨_, rfl⟩
        obtain ⟨T, hT⟩ : ∃ T, txsOf K = T := ⟨_, rfl⟩
        have hvK : validS K = true := by rw [← hK]; exact validS_committed hxv.out
        have hol0 : (ordO xs).length ≤ 256 := ordO_le256 xs
        rw [hQ] at hol0
        have HOL := Lib.hid hol0
        rw [hQ, hP, hK, hT] at hlaw
        have d1 : ∀ W : World, Below w6.heap.size w6 W → Calls Try.prog 38 #[.slice O xs.length oc] W (RetListsA W Q) := fun W h => by
          have := OrdersOf_any O xs.length oc xs W (HO6.out.below h (Nat.le_refl _)) hoc; rw [orNil_tt hxv.out, hQ] at this; exact this
        have d2 : ∀ W : World, Below w6.heap.size w6 W → Calls Try.prog 40 #[.slice S m d] W (RetInts W P0) := fun W h => by
          have := StampsOf_any S m d s W (HS6.out.below h (Nat.le_refl _)) hmd; rw [orNil_tt hV, hP] at this; exact this
        have d3 : ∀ W : World, Below w6.heap.size w6 W → Calls Try.prog 41 #[.slice O xs.length oc] W (RetOps W K) := fun W h => by
          have := CommittedOf_any O xs.length oc xs W (HO6.out.below h (Nat.le_refl _)) hoc; rw [orNil_tt hxv.out, hK] at this; exact this
        have d4 : ∀ (W : World) (B : Option Addr) (bc : Nat), ROps W B K.length K → K.length ≤ bc → Calls Try.prog 27 #[.slice B K.length bc] W (RetInts W T) := fun W B bc h hbc => by
          have := TxsOf_any B K.length bc K W h hbc; rw [orNil_tt hvK, hT] at this; exact this
        obtain ⟨p, hp⟩ : ∃ p, (P0.filter fun x => T.any fun y => y == x) = p := ⟨_, rfl⟩
        rw [hp] at hlaw
        have hany : (Q.any fun q => q == p) = true := List.any_eq_true.2 ⟨p, hlaw, by simp⟩
        have HAN := Lib.hid hany
        have HP := Lib.hid hp
        have D1 := Lib.hid d1
        have D2 := Lib.hid d2
        have D3 := Lib.hid d3
        have D4 := Lib.hid d4
        clear hx' hy' hrb hV HXS HYS HV C1 C2 C3 HR3 HQ3 HRO HRP HS2 HS hb26 hb36 hb12 hinv hlaw hQ hP hK hT hvK hol0 d1 d2 d3 d4 hany hp HS6 hml HML
        go_wp2_with fail
        go_loopw [9] (fun i wr => ∃ k : Nat, k ≤ ys.length ∧ i = .int .i64 k ∧ Below w6.heap.size w6 wr) (fun i _ => ys.length - (intOf i).toNat)
        case atStart => exact ⟨0, by omega, rfl, Below.refl _ _⟩
        case round =>
          obtain ⟨wo, rfl⟩ : ∃ wo : World, wo = wr := ⟨_, rfl⟩
          obtain ⟨k, hk, rfl, hbo⟩ := hrel
          by_cases hlt : k < ys.length
          · obtain ⟨b, off, x, hPe, hbl, hox, c0⟩ := (HP6.out.below hbo (Nat.le_refl _)).at_ hlt
            subst hPe
            have he := hdead.out x (List.mem_of_getElem? hox)
            have hE : Calls Try.prog 26 #[.slice O xs.length oc, .int .i64 x] wo fun e w' => e = .returned (.int .i64 3) ∧ Below wo.heap.size wo w' := by
              have := EndOf_any O _ oc xs x wo (HO6.out.below hbo (Nat.le_refl _)) hoc; rw [he] at this; exact this
            have HE := Lib.hid hE
            have hki : (k : Int) < (ys.length : Int) := by omega
            have hk0 : (0 : Int) ≤ (k : Int) := by omega
            clear hE he hox
            go_wp2_with fail
            refine HE.out.mono ?_
            rintro e w7 ⟨rfl, hb7⟩
            go_wp2_with fail
            go_roundw
            case rel => exact ⟨k + 1, by omega, by go_num, hbo.trans (hb7.mono hbo.size)⟩
            case measure => simp [intOf]; omega
          · have hVx : Calls Try.prog 28 #[.slice O xs.length oc] wo fun e w' => e = .returned (.bool true) ∧ Below wo.heap.size wo w' := by
              have := ValidSchedule_any O _ oc xs wo (HO6.out.below hbo (Nat.le_refl _)) hoc; rw [hxv.out] at this; exact this
            have HVx := Lib.hid hVx
            clear hVx hxv hdead
            go_wp2_with fail
            refine HVx.out.mono ?_
            rintro e w7 ⟨rfl, hb7⟩
            have hb67 := hbo.trans (hb7.mono hbo.size)
            have hs7 := hb67.size
            go_wp2_with fail
            refine (D1.out w7 hb67).mono ?_
            rintro e w8 ⟨QA, qc, rv, rfl, hqc, hou, hro, _, hb8⟩
            have hol : Q.length ≤ 1099511627776 := by have := HOL.out; omega
            have HQ := Lib.hid (RLists.of hou hro rfl hol)
            have hb68 := hb67.trans (hb8.mono hs7)
            have hs8 := hb68.size
            clear hou hro hb8 hb7
            go_wp2_with fail
            refine (D2.out w8 hb68).mono ?_
            rintro e w9 ⟨PA, pc2, rfl, hpc2, ⟨hrp, _⟩, hb9⟩
            have HRP := Lib.hid hrp
            have HQ9 := Lib.hid (HQ.out.below hb9 (Nat.le_refl _))
            have hb69 := hb68.trans (hb9.mono hs8)
            have hs9 := hb69.size
            clear hrp hb9 HQ
            go_wp2_with fail
            refine (D3.out w9 hb69).mono ?_
            rintro e wa ⟨KA, kc, rfl, hkc, ⟨hrk, _⟩, hba⟩
            have HRK := Lib.hid hrk
            have HQa := Lib.hid (HQ9.out.below hba (Nat.le_refl _))
            have HPa := Lib.hid (HRP.out.below hba (Nat.le_refl _))
            have hb6a := hb69.trans (hba.mono hs9)
            have hsa := hb6a.size
            clear hrk hba HQ9 HRP
            go_wp2_with fail
            refine (D4.out wa KA kc HRK.out hkc).mono ?_
            rintro e wb ⟨TA, tc, rfl, htc, ⟨hrt, _⟩, hbb⟩
            have hon := only_any PA TA _ _ pc2 tc P0 T wb (HPa.out.below hbb (Nat.le_refl _)) hrt
            rw [HP.out] at hon
            have HON := Lib.hid hon
            have HQb := Lib.hid (HQa.out.below hbb (Nat.le_refl _))
            have hb6b := hb6a.trans (hbb.mono hsa)
            have hsb := hb6b.size
            clear hrt hon hbb HQa HPa
            go_wp2_with fail
            refine HON.out.mono ?_
            rintro e wx ⟨XA, xc, rfl, hxc, ⟨hrx, _⟩, hbx⟩
            have hhl := holdsList_any QA XA _ _ qc xc Q p wx (HQb.out.below hbx (Nat.le_refl _)) hrx
            rw [HAN.out] at hhl
            have HHL := Lib.hid hhl
            have hb6x := hb6b.trans (hbx.mono hsb)
            clear hrx hhl hbx HQb
            go_wp2_with fail
            refine HHL.out.mono ?_
            rintro e wz ⟨rfl, hbz⟩
            have hbF := hb16.trans ((hb6x.trans (hbz.mono hb6x.size)).mono hb16.size)
            go_wp2_with fail
            go_ret
            exact ⟨rfl, hbF⟩
end Go.Proofs.Ytncebpmckbcabaa
