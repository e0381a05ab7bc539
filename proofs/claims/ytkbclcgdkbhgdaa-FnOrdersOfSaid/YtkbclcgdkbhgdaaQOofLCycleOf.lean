/-
  The walk of the law FnCycleOf: whatever the input, it returns true and changes nothing.
-/
import Derived.Test.YtkbclcgdkbhgdaaQOofCyc1
import Derived.Test.YtkbclcgdkbhgdaaQOofIserP0
import Derived.Test.YtkbclcgdkbhgdaaQOofOnly0
import Derived.Test.YtkbclcgdkbhgdaaQOofDraws3
import Derived.Test.YtkbclcgdkbhgdaaPkOrdX1
import Derived.IntWalk
namespace Go.Proofs.Ytkbclcgdkbhgdaa
open Go.RowKit Go.BigFrame
set_option linter.unusedVariables false

/-- A circle's facts, for the law. -/
theorem cycL_facts {s : List OpV} (hv : validS s = true) (h : cycL s ≠ []) : 2 ≤ (cycL s).length ∧ (cycL s).length ≤ 4 ∧ decide (0 < (ordO s).length) = false ∧
    ∀ (i : Nat) (x y x0 : Int), (cycL s)[i]? = some x → (cycL s)[(i + 1) % (cycL s).length]? = some y → (cycL s)[0]? = some x0 → edgeB (grI (committed s)) x y = true ∧ x0 ≤ x ∧ (((cycL s).take i).any fun z => z == x) = false ∧ 0 ≤ x ∧ x ≤ 3 := by
  have h4 : Rows4 (grI (committed s)) := grI_ok (comm_tx4 hv)
  have hd := gr_diag' hv
  have hat : ∀ i, i < (cycL s).length → _ := fun i hi => cyc_at h4 hd h hi
  have hpos : 0 < (cycL s).length := List.length_pos_iff.2 h
  have hgd : ∀ (j : Nat) (z : Int), (cycL s)[j]? = some z → (cycL s).getD j 0 = z := fun j z hz => by rw [List.getD_eq_getElem?_getD, hz]; rfl
  refine ⟨(hat 0 hpos).1, cyc_len h4 hd, ?_, fun i x y x0 hx hy h0 => ?_⟩
  · cases hc : decide (0 < (ordO s).length)
    · rfl
    · exfalso
      have hs := (ordO_src hv).1 (len_pos.1 hc)
      refine cyc_bad h4 hd h (list := txsOf (committed s)) (fun t ht => ?_) hs
      obtain ⟨i, hi⟩ := List.mem_iff_getElem?.1 ht
      have hil := (List.getElem?_eq_some_iff.1 hi).1
      obtain ⟨h2, he, _, _, hr0, hr3⟩ := hat i hil
      have hj : (i + 1) % (cycT (grI (committed s))).length < (cycT (grI (committed s))).length := Nat.mod_lt _ hpos
      obtain ⟨_, _, _, _, hn0, _⟩ := hat _ hj
      have hcf := (gr_edge (comm_tx4 hv) hr0 hn0).1 he
      have e : (cycT (grI (committed s))).getD i 0 = t := hgd i t hi
      rw [e] at hcf
      exact (mem_txsOf (validS_committed hv)).2 hcf.mem.1
  · have hil := (List.getElem?_eq_some_iff.1 hx).1
    obtain ⟨_, he, hh, hn, hr0, hr3⟩ := hat i hil
    have e1 : (cycT (grI (committed s))).getD i 0 = x := hgd i x hx
    have e2 : (cycT (grI (committed s))).getD ((i + 1) % (cycT (grI (committed s))).length) 0 = y := hgd _ y hy
    have e3 : (cycT (grI (committed s))).headD 0 = x0 := by
      show (cycL s).headD 0 = x0
      cases hc : cycL s with
      | nil => exact absurd hc h
      | cons a b => rw [hc] at h0; simpa using h0
    rw [e1] at he hh hn hr0 hr3
    rw [e2] at he
    rw [e3] at hh
    exact ⟨he, hh, hn, hr0, hr3⟩

set_option maxRecDepth 100000 in
set_option maxHeartbeats 2000000 in
theorem law_cycleOf (A : Option Addr) (n c : Nat) (w : World) (hin : BytesIn w A n c) :
    Calls Try.prog 6 #[.slice A n c] w fun e w' => e = .returned (.bool true) ∧ Below w.heap.size w w' := by
  obtain ⟨hx, hnc⟩ := hin
  have hn := hx.1
  by_cases hbig : 1048576 < n
  · clear hx
    go_enter Try.func6, Try.ntmps6
    go_wp2_with fail
    go_ret
    exact ⟨rfl, Below.refl _ _⟩
  · have HD := Lib.hid (DrawCycleOf_any A n c w hx hnc)
    clear hx
    go_enter Try.func6, Try.ntmps6
    go_wp2_with fail
    refine HD.out.mono ?_
    rintro e w1 ⟨S, m, d, s, rfl, hown, hm, hb1⟩
    have hmd : m ≤ d := by obtain ⟨A', c', he, h⟩ := own_form2 hown; injection he with _ _ he; omega
    have hR : ∀ W, Below w1.heap.size w1 W → ROps W S m s := fun W h => (ROps.of_own hown (by omega)).below h (Nat.le_refl _)
    have HR := Lib.hid hR
    obtain ⟨ys, hys⟩ : ∃ ys, orNil (validS s) (cycL s) = ys := ⟨_, rfl⟩
    obtain ⟨bb, hbb⟩ : ∃ bb, (validS s && !(cycL s).isEmpty) = bb := ⟨_, rfl⟩
    have c1 : ∀ W : World, Below w1.heap.size w1 W → Calls Try.prog 31 #[.slice S m d] W (RetIntsB W ys bb) := fun W h => by
      have := CycleOf_any S m d s W (hR W h) hmd; rw [hys, hbb] at this; exact this
    have c2 : ∀ W : World, Below w1.heap.size w1 W → Calls Try.prog 32 #[.slice S m d] W (RetRdB W ys bb) := fun W h => by
      have := sCycleOf_any S m d s W (hR W h) hmd; rw [hys, hbb] at this; exact this
    have C1 := Lib.hid c1
    have C2 := Lib.hid c2
    have HY := Lib.hid hys
    have HB := Lib.hid hbb
    clear hown HD c1 c2 hys hbb hR
    go_wp2_with fail
    refine (C1.out w1 (Below.refl _ _)).mono ?_
    rintro e w2 ⟨O, oc, rfl, hoc, ⟨hro, _⟩, hb2⟩
    have hO : ∀ W, Below w2.heap.size w2 W → RInts W O ys.length ys := fun W h => hro.below h (Nat.le_refl _)
    have HO := Lib.hid hO
    clear hro hO
    go_wp2_with fail
    refine (C2.out w2 hb2).mono ?_
    rintro e w3 ⟨O3, c3, rfl, hc3, hr3, hb3⟩
    have hb13 := hb2.trans (hb3.mono hb2.size)
    have hE : ∀ W, Below w3.heap.size w3 W → Calls Try.prog 33 #[.slice O ys.length oc, .slice O3 ys.length c3] W fun e w' => e = .returned (.bool true) ∧ Below W.heap.size W w' := fun W h => by
      have := equalInts_any O O3 _ _ oc c3 ys ys W (HO.out W (hb3.trans (h.mono hb3.size))) (hr3.below h (Nat.le_refl _))
      rw [beq_self_eq_true] at this; exact this
    have HE := Lib.hid hE
    clear hE hr3
    go_wp2_with fail
    refine (HE.out w3 (Below.refl _ _)).mono ?_
    rintro e w4 ⟨rfl, hb4⟩
    have hb14 := hb13.trans (hb4.mono hb13.size)
    cases bb
    · go_wp2_with fail
      refine (HE.out w4 hb4).mono ?_
      rintro e w5 ⟨rfl, hb5⟩
      go_wp2_with fail
      go_ret
      exact ⟨rfl, hb1.trans ((hb14.trans (hb5.mono hb14.size)).mono hb1.size)⟩
    · have hV : validS s = true := by have := HB.out; simp only [Bool.and_eq_true] at this; exact this.1
      have hne : cycL s ≠ [] := by have := HB.out; simp only [Bool.and_eq_true] at this; simpa using this.2
      have hye : ys = cycL s := by have := HY.out; rw [hV] at this; exact this.symm
      obtain ⟨h2, hq4, hser, hat⟩ := cycL_facts hV hne
      rw [← hye] at h2 hq4 hat
      have hG : ∀ W, Below w1.heap.size w1 W → Calls Try.prog 34 #[.slice S m d] W (RetInts W (rowsI (grI (committed s)))) := fun W h => by
        have := GraphOf_any S m d s W (HR.out W h) hmd; rw [hV] at this; exact this
      have hI : ∀ W, Below w1.heap.size w1 W → Calls Try.prog 20 #[.slice S m d] W fun e w' => e = .returned (.bool false) ∧ Below W.heap.size W w' := fun W h => by
        have := IsSerializable_any S m d s W (HR.out W h) hmd; rw [hV, hser] at this; exact this
      have h4 : Rows4 (grI (committed s)) := grI_ok (comm_tx4 hV)
      have HG := Lib.hid hG
      have HI := Lib.hid hI
      have H4 := Lib.hid h4
      have HAT := Lib.hid hat
      have hlen : (rowsI (grI (committed s))).length = 4 := by simp [rowsI, h4.1]
      have HLEN := Lib.hid hlen
      obtain ⟨q, hq⟩ : ∃ q, ys.length = q := ⟨_, rfl⟩
      rw [hq] at h2 hq4 hoc HO HAT
      have hb24 := hb3.trans (hb4.mono hb3.size)
      clear hG hI h4 hat hlen hser hne hye hV HE C1 C2 HY HB
      generalize grI (committed s) = R at *
      rw [hq]
      have HQ := Lib.hid hq
      clear hq hb2 hb3 hb4 hb13
      go_wp2_with fail
      refine (HG.out w4 hb14).mono ?_
      rintro e w5 ⟨G, gc, rfl, hgc, ⟨hg5, _⟩, hb5⟩
      rw [HLEN.out] at hg5 hgc ⊢
      have HG5 := Lib.hid hg5
      have hb15 := hb14.trans (hb5.mono hb14.size)
      have hb25 := hb24.trans (hb5.mono hb24.size)
      clear hg5 HG hb5
      go_wp2_with fail
      go_loopw [9] (fun i wr => ∃ k : Nat, k ≤ q ∧ i = .int .i64 k ∧ Below w5.heap.size w5 wr) (fun i _ => q - (intOf i).toNat)
      case atStart => exact ⟨0, by omega, rfl, Below.refl _ _⟩
      case round =>
        obtain ⟨k, hk, rfl, hb⟩ := hrel
        have hb2r := hb25.trans (hb.mono hb25.size)
        have hb1r := hb15.trans (hb.mono hb15.size)
        by_cases hlt : k < q
        · obtain ⟨j, hj⟩ : ∃ j, (k + 1) % q = j := ⟨_, rfl⟩
          have hjq : j < q := by rw [← hj]; exact Nat.mod_lt _ (by omega)
          have hor := HO.out wr hb2r
          obtain ⟨bo, offo, x, rfl, hbo, hx, cx⟩ := hor.at_ (k := k) hlt
          obtain ⟨bo1, offo1, y, hA1, _, hy, cy⟩ := hor.at_ (k := j) hjq
          injection hA1 with hA1; injection hA1 with q1 q2 _; subst q1; subst q2
          obtain ⟨bo2, offo2, x0, hA2, _, hx0, c0⟩ := hor.at_ (k := 0) (by omega)
          injection hA2 with hA2; injection hA2 with q1 q2 _; subst q1; subst q2
          have hf := HAT.out k x y x0 hx (by rw [hj]; exact hy) hx0
          have hfy := HAT.out j y
          obtain ⟨he, hle, hnot, hx0r, hx3⟩ := hf
          have hy0 : 0 ≤ y := by
            have hjj : (j + 1) % q < q := Nat.mod_lt _ (by omega)
            obtain ⟨_, _, z, _, _, hz, _⟩ := hor.at_ (k := (j + 1) % q) hjj
            exact (hfy z x0 hy hz hx0).2.2.2.1
          have hy3 : y ≤ 3 := by
            have hjj : (j + 1) % q < q := Nat.mod_lt _ (by omega)
            obtain ⟨_, _, z, _, _, hz, _⟩ := hor.at_ (k := (j + 1) % q) hjj
            exact (hfy z x0 hy hz hx0).2.2.2.2
          obtain ⟨X, rfl⟩ := Int.eq_ofNat_of_zero_le hx0r
          obtain ⟨Y, rfl⟩ := Int.eq_ofNat_of_zero_le hy0
          obtain ⟨bG, offG, hGe, hbG, cg, hr16⟩ := rowsI_at3 H4.out (HG5.out.below hb (Nat.le_refl _)) (t := X) (by omega)
          subst hGe
          obtain ⟨r, hr0⟩ : ∃ r, R.getD X 0 = r := ⟨_, rfl⟩
          rw [hr0] at cg hr16
          have hbt : r.testBit Y = true := by unfold edgeB at he; rw [Int.toNat_natCast, Int.toNat_natCast, hr0] at he; exact he
          have cB : ∀ z : Later wr, Calls Try.prog 35 #[.int .i64 (r : Int), .int .i64 (Y : Int)] z.1 fun e w' => e = .returned (.int .i64 1) ∧ z.1 = w' := fun z => by
            have := lbit_any r Y z.1 (by omega) (by omega); rw [if_pos hbt] at this; exact this
          have cI : ∀ z : Later wr, Calls Try.prog 36 #[.slice (some ⟨bo, offo, none⟩) k oc, .int .i64 (X : Int)] z.1 fun e w' => e = .returned (.bool false) ∧ Below z.1.heap.size z.1 w' := fun z => by
            have := isIn_any (some ⟨bo, offo, none⟩) k oc (ys.take k) (X : Int) z.1 ((hor.take (by omega)).later z); rw [hnot] at this; exact this
          have CB := Lib.hid cB
          have CI := Lib.hid cI
          have D0 := Later.cell cx
          simp only [Nat.add_zero] at c0
          have D2 := Later.cell c0
          have G0 := Later.cell cg
          have hmod : ((k : Int) + 1) % (q : Int) = (j : Int) := by rw [← hj]; simp
          have hmodt : ((k : Int) + 1).tmod (q : Int) = (j : Int) := by rw [Int.tmod_eq_emod_of_nonneg (by omega)]; exact hmod
          have hki : (k : Int) < (q : Int) := by omega
          have hk0 : (0 : Int) ≤ (k : Int) := by omega
          have hji : (j : Int) < (q : Int) := by omega
          have hj0 : (0 : Int) ≤ (j : Int) := by omega
          have hX4 : (X : Int) < 4 := by omega
          have hX0 : (0 : Int) ≤ (X : Int) := by omega
          have hlt2 : decide ((X : Int) < x0) = false := by simp; omega
          have hkoc : (k : Int) ≤ (oc : Int) := by omega
          have hqz : ((q : Int) == 0) = false := by rw [beq_eq_false_iff_ne]; omega
          have hqz2 : ¬ (q : Int) = 0 := by omega
          clear cB cI cx c0 cg hor hx hy hx0 hfy he hle hnot hx0r hx3 hy0 hy3 hr0 hbt
          go_wp2_with fail
          refine region_later (by kernel_rfl) (by kernel_rfl) ?_
          repeat (go_big_quiet_step ((first | (go_at_call 35; exact later_same _ (CB.out _)) | (go_at_call 36; exact later_call _ (CI.out _)))))
          refine wpQuiet_nil ?_
          rintro _ ⟨z, rfl⟩
          have hbz := hb.trans (z.2.mono hb.size)
          go_wp2_with fail
          go_roundw
          case rel => exact ⟨k + 1, by omega, by go_num, hbz⟩
          case measure => simp [intOf]; omega
        · have hq2 : (2 : Int) ≤ (q : Int) := by omega
          go_wp2_with fail
          refine (HI.out wr hb1r).mono ?_
          rintro e w6 ⟨rfl, hb6⟩
          go_wp2_with fail
          go_ret
          exact ⟨rfl, hb1.trans ((hb1r.trans (hb6.mono hb1r.size)).mono hb1.size)⟩
end Go.Proofs.Ytkbclcgdkbhgdaa
