/-
  The walk of the law FnSurvivorsOf: whatever the input, it returns true and changes nothing.
-/
import Derived.Test.YtcbconfnggolpaaPlain2
import Derived.Test.YtcbconfnggolpaaLaw0
import Derived.Test.YtcbconfnggolpaaGen3
namespace Go.Proofs.Ytcbconfnggolpaa
open Go.RowKit Go.BigFrame
set_option linter.unusedVariables false

theorem orNil_true {α : Type} {b : Bool} {xs : List α} (h : b = true) : orNil b xs = xs := by subst h; rfl
theorem orNil_false {α : Type} {b : Bool} {xs : List α} (h : b = false) : orNil b xs = [] := by subst h; rfl

theorem nodup_take {ys : List Int} {k : Nat} {x : Int} (h : ys.Nodup) (hx : ys[k]? = some x) : ((ys.take k).any fun y => y == x) = false := by
  rw [List.any_eq_false]
  intro y hy hyx
  simp only [beq_iff_eq] at hyx
  subst hyx
  obtain ⟨j, hj⟩ := List.mem_iff_getElem?.1 hy
  rw [List.getElem?_take] at hj
  split at hj
  · obtain ⟨hl1, h1⟩ := List.getElem?_eq_some_iff.1 hx
    obtain ⟨hl2, h2⟩ := List.getElem?_eq_some_iff.1 hj
    have := (List.pairwise_iff_getElem.1 h) j k hl2 hl1 (by omega)
    rw [h1, h2] at this
    exact this rfl
  · cases hj

set_option maxRecDepth 100000 in
set_option maxHeartbeats 2000000 in
theorem law_survivorsOf (A : Option Addr) (n c : Nat) (w : World) (hx : RBytes w A n) (hnc : n ≤ c) :
    Calls Try.prog 3 #[.slice A n c] w fun e w' => e = .returned (.bool true) ∧ Below w.heap.size w w' := by
  have hn := hx.1
  by_cases hbig : 1048576 < n
  · clear hx
    go_enter Try.func3, Try.ntmps3
    go_wp2_with fail
    go_ret
    exact ⟨rfl, Below.refl _ _⟩
  · have HD := Lib.hid (DrawSurvivorsOf_any A n c w hx hnc)
    clear hx
    go_enter Try.func3, Try.ntmps3
    go_wp2_with fail
    refine HD.out.mono ?_
    rintro e w1 ⟨S, m, d, s, rfl, hown, hm, hb1⟩
    have hmd : m ≤ d := by obtain ⟨A', c', he, h⟩ := own_form2 hown; injection he with _ _ he; omega
    have HS := Lib.hid (ROps.of_own hown (by omega))
    have hI : orNil (validS s) (survI s) = orNil (validS s) (survS s) := by
      cases hv : validS s
      · rfl
      · rw [surv_eq hv]
    obtain ⟨ys, hys⟩ : ∃ ys, orNil (validS s) (survS s) = ys := ⟨_, rfl⟩
    obtain ⟨bv, hbv⟩ : ∃ bv, validS s = bv := ⟨_, rfl⟩
    have c1 : ∀ W : World, ROps W S m s → Calls Try.prog 7 #[.slice S m d] W (RetInts W ys) := fun W h => by
      have := SurvivorsOf_any S m d s W h hmd; rw [hI, hys] at this; exact this
    have c2 : ∀ W : World, ROps W S m s → Calls Try.prog 9 #[.slice S m d] W (RetInts W ys) := fun W h => by
      have := sSurvivorsOf_any S m d s W h hmd; rw [hys] at this; exact this
    have c3 : ∀ W : World, ROps W S m s → Calls Try.prog 10 #[.slice S m d] W fun e w' => e = .returned (.bool bv) ∧ Below W.heap.size W w' := fun W h => by
      have := ValidSchedule_any S m d s W h hmd; rw [hbv] at this; exact this
    have C1 := Lib.hid c1
    have C2 := Lib.hid c2
    have C3 := Lib.hid c3
    have HY := Lib.hid hys
    have HV := Lib.hid hbv
    clear hown HD c1 c2 c3 hI hys hbv
    go_wp2_with fail
    refine (C1.out w1 HS.out).mono ?_
    rintro e w2 ⟨O, oc, rfl, hoc, ⟨hro, _⟩, hb2⟩
    have hb12 : Below w.heap.size w w2 := hb1.trans (hb2.mono hb1.size)
    have HS2 := Lib.hid (HS.out.below hb2 (Nat.le_refl _))
    have HRO := Lib.hid hro
    clear hro
    go_wp2_with fail
    refine (C2.out w2 HS2.out).mono ?_
    rintro e w3 ⟨O3, c3, rfl, hc3, ⟨hr3, _⟩, hb3⟩
    go_wp2_with fail
    refine (equalInts_any O O3 _ _ oc c3 ys ys w3 (HRO.out.below hb3 (Nat.le_refl _)) hr3).mono ?_
    rw [beq_self_eq_true]
    rintro e w4 ⟨rfl, hb4⟩
    have hb24 : Below w2.heap.size w2 w4 := hb3.trans (hb4.mono hb3.size)
    clear hr3 hb3 hb4
    go_wp2_with fail
    refine (C3.out w4 (HS2.out.below hb24 (Nat.le_refl _))).mono ?_
    rintro e w5 ⟨rfl, hb5⟩
    have hb25 : Below w2.heap.size w2 w5 := hb24.trans (hb5.mono hb24.size)
    clear hb24 hb5
    cases bv
    · go_wp2_with fail
      refine (C2.out w5 (HS2.out.below hb25 (Nat.le_refl _))).mono ?_
      rintro e w6 ⟨O6, c6, rfl, hc6, ⟨hr6, _⟩, hb6⟩
      go_wp2_with fail
      refine (equalInts_any O O6 _ _ oc c6 ys ys w6 ((HRO.out.below hb25 (Nat.le_refl _)).below hb6 (Nat.le_refl _)) hr6).mono ?_
      rw [beq_self_eq_true]
      rintro e w7 ⟨rfl, hb7⟩
      go_wp2_with fail
      go_ret
      exact ⟨rfl, hb12.trans ((hb25.trans ((hb6.trans (hb7.mono hb6.size)).mono hb25.size)).mono hb12.size)⟩
    · have hyv : Hid (ys = survS s) := by show _ = _; rw [← HY.out, HV.out]; rfl
      have hyl : ys.length ≤ 1099511627776 := HRO.out.2.1
      go_wp2_with fail
      go_loopw [5] (fun i wr => ∃ k : Nat, k ≤ ys.length ∧ i = .int .i64 k ∧ Below w2.heap.size w2 wr) (fun i _ => ys.length - (intOf i).toNat)
      case atStart => exact ⟨0, by omega, rfl, hb25⟩
      case round =>
        clear hb25
        obtain ⟨k, hk, rfl, hb⟩ := hrel
        by_cases hlt : k < ys.length
        · obtain ⟨b, off, x, rfl, hbl, hox, c0⟩ := (HRO.out.below hb (Nat.le_refl _)).at_ hlt
          have hxm : x ∈ survS s := by rw [← hyv.out]; exact List.mem_of_getElem? hox
          have hend : endOfV s x = 2 := by unfold endOfV; rw [HV.out, if_pos rfl]; exact surv_end HV.out hxm
          have hno : ((ys.take k).any fun y => y == x) = false := by
            have hnd : ys.Nodup := by rw [hyv.out]; exact (surv_known HV.out).2
            exact nodup_take hnd hox
          have cE : ∀ u : Later wr, Calls Try.prog 11 #[.slice S m d, .int .i64 x] u.1 fun e w' => e = .returned (.int .i64 2) ∧ Below u.1.heap.size u.1 w' := fun u => by
            have := EndOf_any S m d s x u.1 ((HS2.out.below hb (Nat.le_refl _)).later u) hmd; rw [hend] at this; exact this
          have cI : ∀ u : Later wr, Calls Try.prog 12 #[.slice (some ⟨b, off, none⟩) k oc, .int .i64 x] u.1 fun e w' => e = .returned (.bool false) ∧ Below u.1.heap.size u.1 w' := fun u => by
            have := isIn_any (some ⟨b, off, none⟩) k oc (ys.take k) x u.1 (((HRO.out.below hb (Nat.le_refl _)).take hk).later u); rw [hno] at this; exact this
          have CE := Lib.hid cE
          have CI := Lib.hid cI
          have L0 := Later.cell c0
          have hki : (k : Int) < (ys.length : Int) := by omega
          have hkc : k ≤ oc := by omega
          clear cE cI hend hno hxm hox c0
          go_wp2_with fail
          refine region_later (by kernel_rfl) (by kernel_rfl) ?_
          repeat (go_big_quiet_step ((first | (go_at_call 11; exact later_call _ (CE.out _)) | (go_at_call 12; exact later_call _ (CI.out _)))))
          refine wpQuiet_nil ?_
          rintro _ ⟨u, rfl⟩
          have hbu := hb.trans (u.2.mono hb.size)
          go_wp2_with fail
          go_roundw
          case rel => exact ⟨k + 1, by omega, by go_num, hbu⟩
          case measure => simp [intOf]; omega
        · go_wp2_with fail
          refine (IsSerial_any S m d s wr (HS2.out.below hb (Nat.le_refl _)) hmd).mono ?_
          rintro e w6 ⟨rfl, hb6⟩
          have hb26 : Below w2.heap.size w2 w6 := hb.trans (hb6.mono hb.size)
          obtain ⟨bs, hbs⟩ : ∃ bs, isSerV s = bs := ⟨_, rfl⟩
          rw [hbs]
          have HBS := Lib.hid hbs
          clear hbs
          cases bs
          · go_wp2_with fail
            go_ret
            exact ⟨rfl, hb12.trans (hb26.mono hb12.size)⟩
          · have hlen : Hid ((orNil (validS (committed s)) (txsOf (committed s))).length = ys.length) := by
              show _ = _
              have h1 := HBS.out
              unfold isSerV at h1
              simp only [Bool.and_eq_true] at h1
              rw [orNil_true (validS_committed HV.out), hyv.out, ser_all HV.out h1.1]
            go_wp2_with fail
            refine (CommittedOf_any S m d s w6 (HS2.out.below hb26 (Nat.le_refl _)) hmd).mono ?_
            rw [orNil_true HV.out]
            rintro e w7 ⟨O7, c7, rfl, hc7, ⟨hr7, _⟩, hb7⟩
            go_wp2_with fail
            refine (TxsOf_any O7 _ c7 (committed s) w7 hr7 hc7).mono ?_
            rintro e w8 ⟨O8, c8, rfl, hc8, ⟨hr8, _⟩, hb8⟩
            rw [hlen.out]
            go_wp2_with fail
            go_ret
            exact ⟨rfl, hb12.trans ((hb26.trans ((hb7.trans (hb8.mono hb7.size)).mono hb26.size)).mono hb12.size)⟩
end Go.Proofs.Ytcbconfnggolpaa
