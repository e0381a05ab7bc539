/-
  The walk of the law FnIsTwoPhase: whatever the input, it returns true and changes nothing.
-/
import Derived.Test.YtcakjhappchlmaaQWLkR4
import Derived.Test.YtcakjhappchlmaaQWLkV1
import Derived.Test.YtcakjhappchlmaaQWLkV2
import Derived.Test.YtcakjhappchlmaaQWLkA1
import Derived.Test.YtcakjhappchlmaaQWLkT5
import Derived.Test.YtcakjhappchlmaaQWLkP2
import Derived.Test.YtcakjhappchlmaaPkLkB2
import Derived.Test.YtcakjhappchlmaaPkLkA
import Derived.Test.YtcakjhappchlmaaQWOnly0
import Derived.Test.YtcakjhappchlmaaPkLkB
import Derived.Test.YtcakjhappchlmaaQWTimeL0
namespace Go.Proofs.Ytcakjhappchlmaa
open Go.RowKit Go.BigFrame
set_option linter.unusedVariables false

theorem txs_le (s : List OpV) : (txsOf s).length ≤ 4 := by unfold txsOf; exact List.length_filter_le _ _
theorem ordO_le (s : List OpV) : (ordO s).length ≤ 256 := by
  unfold ordO ordI
  refine Nat.le_trans (List.length_filter_le _ _) (Nat.le_trans (permF_len (txs_le _) _ []) ?_)
  exact Nat.pow_le_pow_right (by omega) (txs_le _)
theorem orNil_t {α : Type} {b : Bool} {xs : List α} (h : b = true) : orNil b xs = xs := by subst h; rfl
set_option maxRecDepth 100000 in
set_option maxHeartbeats 4000000 in
theorem law_isTwoPhase (A : Option Addr) (n c : Nat) (w : World) (hin : BytesIn w A n c) :
    Calls Try.prog 10 #[.slice A n c] w fun e w' => e = .returned (.bool true) ∧ Below w.heap.size w w' := by
  obtain ⟨hx, hnc⟩ := hin
  have hn := hx.1
  by_cases hbig : 1048576 < n
  · clear hx
    go_enter Try.func10, Try.ntmps10
    go_wp2_with fail
    go_ret
    exact ⟨rfl, Below.refl _ _⟩
  · have HD := Lib.hid (DrawIsTwoPhase_any A n c w hx hnc)
    clear hx
    go_enter Try.func10, Try.ntmps10
    go_wp2_with fail
    refine HD.out.mono ?_
    rintro e w1 ⟨S, m, d, st, rfl, hS, hm, hmd, hb1⟩
    have HS := Lib.hid hS
    have hlen := hS.1
    obtain ⟨bv, hbv⟩ : ∃ b, validL st = b := ⟨_, rfl⟩
    obtain ⟨bt, hbt⟩ : ∃ b, twoPB st = b := ⟨_, rfl⟩
    obtain ⟨bo, hbo⟩ : ∃ b, (bv && bt) = b := ⟨_, rfl⟩
    have c1 : Calls Try.prog 39 #[.slice S m d] w1 fun e w' => e = .returned (.bool bo) ∧ Below w1.heap.size w1 w' := by
      have := IsTwoPhase_any S m d st w1 hS; rw [hbv, hbt, hbo] at this; exact this
    have c2 : ∀ W : World, Below w1.heap.size w1 W → Calls Try.prog 46 #[.slice S m d] W fun e w' => e = .returned (.bool bo) ∧ Below W.heap.size W w' := fun W h => by
      have := sIsTwoPhase_any S m d st W (HS.out.below h (Nat.le_refl _)); rw [hbv, hbt, hbo] at this; exact this
    have c3 : ∀ W : World, Below w1.heap.size w1 W → Calls Try.prog 16 #[.slice S m d] W fun e w' => e = .returned (.bool bv) ∧ Below W.heap.size W w' := fun W h => by
      have := ValidSteps_any S m d st W (HS.out.below h (Nat.le_refl _)); rw [hbv] at this; exact this
    have C1 := Lib.hid c1
    have C2 := Lib.hid c2
    have C3 := Lib.hid c3
    have HBV := Lib.hid hbv
    have HBT := Lib.hid hbt
    have HBO := Lib.hid hbo
    have hs1 := hb1.size
    have e1 : (bo != bo) = false := by simp
    have e2 : (bo == bo) = true := by simp
    clear HD c1 c2 c3 hbv hbt hbo hS
    go_wp2_with fail
    refine C1.out.mono ?_
    rintro e w2 ⟨rfl, hb2⟩
    have hs2 := hb2.size
    go_wp2_with fail
    refine (C2.out w2 hb2).mono ?_
    rintro e w3 ⟨rfl, hb3'⟩
    have hb3 := hb2.trans (hb3'.mono hs2)
    have hs3 := hb3.size
    go_wp2_with fail
    refine (C3.out w3 hb3).mono ?_
    rintro e w4 ⟨rfl, hb4'⟩
    have hb4 := hb3.trans (hb4'.mono hs3)
    have hs4 := hb4.size
    clear hb2 hb3 hb3' hb4' hs2 hs3
    cases bv
    · go_wp2_with fail
      refine (C2.out w4 hb4).mono ?_
      rintro e w5 ⟨rfl, hb5'⟩
      go_wp2_with fail
      go_ret
      exact ⟨rfl, hb1.trans ((hb4.trans (hb5'.mono hs4)).mono hs1)⟩
    · obtain rfl : bt = bo := by have := HBO.out; simpa using this
      obtain ⟨z, hz⟩ : ∃ z, illI st = z := ⟨_, rfl⟩
      have c4 : Calls Try.prog 22 #[.slice S m d] w4 fun e w' => e = .returned (.tuple #[.int .i64 z, .bool true]) ∧ Below w4.heap.size w4 w' := by
        have := IllegalAt_any S m d st w4 (HS.out.below hb4 (Nat.le_refl _)); unfold IllPost illV at this; rw [HBV.out, if_pos rfl, hz] at this; exact this
      obtain ⟨ba, hba⟩ : ∃ b, accOK st = b := ⟨_, rfl⟩
      obtain ⟨xs, hxs⟩ : ∃ xs, orNil ba (accI st) = xs := ⟨_, rfl⟩
      have c5 : ∀ W : World, Below w1.heap.size w1 W → Calls Try.prog 30 #[.slice S m d] W fun e w' => ∃ A c, e = .returned (.tuple #[.slice A xs.length c, .bool ba]) ∧ xs.length ≤ c ∧ ROps w' A xs.length xs ∧ Below W.heap.size W w' := fun W h => by
        have := AccessesOf_any S m d st W (HS.out.below h (Nat.le_refl _)); unfold AccPost at this; rw [hba, hxs] at this; exact this
      have C4 := Lib.hid c4
      have C5 := Lib.hid c5
      have HZ := Lib.hid hz
      have HBA := Lib.hid hba
      have HXS := Lib.hid hxs
      clear c4 c5 hz hba hxs
      go_wp2_with fail
      refine C4.out.mono ?_
      rintro e w5 ⟨rfl, hb5'⟩
      have hb5 := hb4.trans (hb5'.mono hs4)
      have hs5 := hb5.size
      go_wp2_with fail
      refine (C5.out w5 hb5).mono ?_
      rintro e w6 ⟨O6, c6, rfl, hc6, hr6, hb6'⟩
      have hb6 := hb5.trans (hb6'.mono hs5)
      have hs6 := hb6.size
      have HR6 := Lib.hid hr6
      clear hr6 hb5' hb6'
      cases bt
      · go_wp2_with fail
        go_ret
        exact ⟨rfl, hb1.trans (hb6.mono hs1)⟩
      · by_cases hz0 : 0 ≤ z
        · have hz0d : decide (0 ≤ z) = true := by simpa using hz0
          go_wp2_with fail
          go_ret
          exact ⟨rfl, hb1.trans (hb6.mono hs1)⟩
        · have hz0d : decide (0 ≤ z) = false := by simpa using hz0
          cases ba
          · go_wp2_with fail
            go_ret
            exact ⟨rfl, hb1.trans (hb6.mono hs1)⟩
          · have hac := HBA.out
            unfold accOK at hac
            rw [Bool.and_eq_true, decide_eq_true_eq] at hac
            have hok := (validL_iff.1 hac.1).2
            have hxa : accI st = xs := HXS.out
            have hvx : validS xs = true := by rw [← hxa]; exact accI_valid hok hac.2
            have hleg : ∀ j, j < st.length → illAtB st j = false := by
              rcases illI_spec st with ⟨_, h⟩ | ⟨k, _, h, _⟩
              · exact h
              · have := HZ.out; omega
            have hlaw := twoPhase_law hok hleg HBT.out hac.2
            rw [hxa] at hlaw
            obtain ⟨O, hO⟩ : ∃ O, ordO xs = O := ⟨_, rfl⟩
            obtain ⟨P, hP⟩ : ∃ P, ptI st = P := ⟨_, rfl⟩
            obtain ⟨T, hT⟩ : ∃ T, txsOf xs = T := ⟨_, rfl⟩
            have hol0 : (ordO xs).length ≤ 256 := ordO_le xs
            rw [hO] at hol0
            have HOL := Lib.hid hol0
            clear hol0
            rw [hO, hP, hT] at hlaw
            have d1 : Calls Try.prog 48 #[.slice O6 xs.length c6] w6 (RetListsA w6 O) := by
              have := OrdersOf_any O6 xs.length c6 xs w6 HR6.out hc6; rw [orNil_t hvx, hO] at this; exact this
            have d2 : ∀ W : World, Below w6.heap.size w6 W → Calls Try.prog 25 #[.slice S m d] W (RetInts W P) := fun W h => by
              have := PointsOf_any S m d st W (HS.out.below (hb6.trans (h.mono hs6)) (Nat.le_refl _)); rw [orNil_t HBV.out, hP] at this; exact this
            have d3 : ∀ W : World, Below w6.heap.size w6 W → Calls Try.prog 50 #[.slice O6 xs.length c6] W (RetInts W T) := fun W h => by
              have := TxsOf_any O6 xs.length c6 xs W (HR6.out.below h (Nat.le_refl _)) hc6; rw [orNil_t hvx, hT] at this; exact this
            obtain ⟨p, hp⟩ : ∃ p, (P.filter fun x => T.any fun y => y == x) = p := ⟨_, rfl⟩
            rw [hp] at hlaw
            have hany : (O.any fun q => q == p) = true := List.any_eq_true.2 ⟨p, hlaw, by simp⟩
            have HAN := Lib.hid hany
            have HP := Lib.hid hp
            have D1 := Lib.hid d1
            have D2 := Lib.hid d2
            have D3 := Lib.hid d3
            clear hac hok hxa hvx hleg hlaw hO hP hT d1 d2 d3 hany hp
            go_wp2_with fail
            refine D1.out.mono ?_
            rintro e w7 ⟨QA, qc, rv, rfl, hqc, hou, hro, _, hb7⟩
            have hol : O.length ≤ 1099511627776 := by have := HOL.out; omega
            have HQ := Lib.hid (RLists.of hou hro rfl hol)
            have hs7 := hb7.size
            clear hou hro
            go_wp2_with fail
            refine (D2.out w7 hb7).mono ?_
            rintro e w8 ⟨PA, pc, rfl, hpc, ⟨hrp, _⟩, hb8'⟩
            have HRP := Lib.hid hrp
            have hb8 := hb7.trans (hb8'.mono hs7)
            have hs8 := hb8.size
            clear hrp
            go_wp2_with fail
            refine (D3.out w8 hb8).mono ?_
            rintro e w9 ⟨TA, tc, rfl, htc, ⟨hrt, _⟩, hb9'⟩
            have hb9 := hb8.trans (hb9'.mono hs8)
            have hs9 := hb9.size
            have hon := only_any PA TA _ _ pc tc P T w9 (HRP.out.below hb9' (Nat.le_refl _)) hrt
            rw [HP.out] at hon
            have HON := Lib.hid hon
            have hb79 := hb8'.trans (hb9'.mono hb8'.size)
            clear hrt hon
            go_wp2_with fail
            refine HON.out.mono ?_
            rintro e wa ⟨XA, xc, rfl, hxc, ⟨hrx, _⟩, hba'⟩
            have hhl := holdsList_any QA XA _ _ qc xc O p wa ((HQ.out.below hb79 (Nat.le_refl _)).below hba' (Nat.le_refl _)) hrx
            rw [HAN.out] at hhl
            have HHL := Lib.hid hhl
            have hba := hb9.trans (hba'.mono hs9)
            clear hrx hhl
            go_wp2_with fail
            refine HHL.out.mono ?_
            rintro e wb ⟨rfl, hbb'⟩
            go_wp2_with fail
            go_ret
            exact ⟨rfl, hb1.trans ((hb6.trans ((hba.trans (hbb'.mono hba.size)).mono hs6)).mono hs1)⟩
end Go.Proofs.Ytcakjhappchlmaa
