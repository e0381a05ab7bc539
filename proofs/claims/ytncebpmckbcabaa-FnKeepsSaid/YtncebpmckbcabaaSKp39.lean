/-
  Texts that the proof rests on, joined: part 39.
-/
import Derived.IntWalk
import Derived.Test.YtncebpmckbcabaaSKp26
import Derived.Test.YtncebpmckbcabaaSKp36
namespace Go.Proofs.Ytncebpmckbcabaa
open Go.RowKit Go.BigFrame
set_option linter.unusedVariables false

set_option maxRecDepth 100000 in
set_option maxHeartbeats 16000000 in
theorem resume_wound (N : Nat) (hN : N ≤ 1000) : ∀ (n B : Nat) (V : DV) (D : Dsk) (w : World), DeskAt w B V D → Bnd D N → msr D < n → ItemsOk D.wait →
    Calls Try.prog 92 #[.string Rul.wound.str, V.val] w (DRet w B V (settleD .wound D)) := by
  intro n
  induction n with
  | zero => intro B V D w _ _ h _; omega
  | succ n ih =>
    intro B V D w hd hbn hmn hit
    have HIT := Lib.hid hit
    clear hit
    have hb1 := hbn.done
    have hb2 := hbn.locks
    have hb3 := hbn.dead
    have hb4 := hbn.wait
    obtain ⟨W, hW⟩ : ∃ W : World, W = (w.alloc (.cells V.list.toArray 28)).alloc (.cells DV.nil.list.toArray 28) := ⟨_, rfl⟩
    have hP0 := resume_start hd hW
    obtain ⟨Ad, Aw, Al, Ak, nd, nw, nl, nk, cd, cw, cl, ck, rfl, hcs, h1, h2, h3, h4⟩ := hd.forms
    have hbd : nd ≤ 1000 ∧ nl ≤ 3000 ∧ nw ≤ 1000 ∧ nk ≤ 1000 := by omega
    have H1 := Lib.hid h1
    have H2 := Lib.hid h2
    have H3 := Lib.hid h3
    have H4 := Lib.hid h4
    have HP0 := Lib.hid hP0
    have HBN := Lib.hid hbn
    unfold DV.list DV.nil at hW
    simp only at hW
    change W = (w.alloc (.cells #[.slice Ad nd cd, .slice Aw nw cw, .slice Al nl cl, .slice Ak nk ck] _)).alloc (.cells #[.slice none 0 0, .slice none 0 0, .slice none 0 0, .slice none 0 0] _) at hW
    have HW3 := Lib.hid hW
    clear hP0 hd h1 h2 h3 h4 hW hbn hb1 hb2 hb3 hb4
    unfold DV.val Rul.str
    simp only
    go_enter Try.func92, Try.ntmps92
    go_wp2_with fail
    rw [← HW3.out]
    clear HW3
    go_loopw [5] (fun i wr => ∃ k : Nat, k ≤ nw ∧ i = .int .i64 k ∧ Pk w ⟨.slice Ad nd cd, .slice Aw nw cw, .slice Al nl cl, .slice Ak nk ck⟩ B w.heap.size (w.heap.size + 1) wr ⟨.slice Ad nd cd, .slice Aw nw cw, .slice Al nl cl, .slice Ak nk ck⟩ D ∧ ∀ j, j < k → freeB D j = false) (fun i _ => nw - (intOf i).toNat)
    case atStart => exact ⟨0, Nat.zero_le _, rfl, HP0.out, by omega⟩
    case round =>
      clear HP0
      obtain ⟨k, hk, rfl, hP, hno⟩ := hrel
      have HNO := Lib.hid hno
      have HP := Lib.hid hP
      clear hno
      obtain ⟨b0, b1, b2, b3⟩ := hP.box.cells
      simp only at b0 b1 b2 b3
      have hgr := hP.lts
      by_cases hlt : k < nw
      · have hro : ROps wr Aw nw D.wait := ROps.of_own (hP.desk.waitN H2.out) (by omega)
        obtain ⟨bw, ow, o, hA, hbl, ho, c0, c1, c2⟩ := hro.at_ hlt
        subst hA
        have HO := Lib.hid ho
        obtain ⟨bf, hbf⟩ : ∃ b, frstB D.wait k = b := ⟨_, rfl⟩
        have HBF := Lib.hid hbf
        have hOB := OB.made hP.desk o
        obtain ⟨tx, kd, it⟩ := o
        unfold OpV.cells at hOB
        simp only at hOB c0 c1 c2
        obtain ⟨W2, hW2⟩ : ∃ W2 : World, W2 = wr.alloc (.cells #[.int .i64 tx, .int .i64 kd, .int .i64 it] 62) := ⟨_, rfl⟩
        have hP2 := hP.alloc (.cells #[.int .i64 tx, .int .i64 kd, .int .i64 it] 62)
        change OB (wr.alloc (.cells #[.int .i64 tx, .int .i64 kd, .int .i64 it] 62)) _ _ _ at hOB
        rw [← hW2] at hOB hP2
        have hro2 : ROps W2 (some ⟨bw, ow, none⟩) nw D.wait := ROps.of_own (hP2.desk.waitN H2.out) (by omega)
        have HFO := Lib.hid (firstOf_any (some ⟨bw, ow, none⟩) nw cw D.wait k W2 hro2 hlt)
        have HP2 := Lib.hid hP2
        have HOB := Lib.hid hOB
        have HW2 := Lib.hid hW2
        obtain ⟨be, hbe⟩ : ∃ b, isEnd ⟨tx, kd, it⟩ = b := ⟨_, rfl⟩
        have HBE := Lib.hid hbe
        clear hP hro ho hbf hOB hP2 hro2 hW2 hbe
        cases bf
        · go_wp2_with (go_at_call 125; go_loud (rw [← HW2.out]; refine HFO.out.mono ?_; rintro e w3 ⟨rfl, hb3⟩; rw [HBF.out]; have HP3 := Lib.hid (HP2.out.below hb3); have HO3 := Lib.hid (HOB.out.below hb3); obtain ⟨d0x, d1x, d2x, d3x⟩ := HP3.out.box.cells; obtain ⟨p0x, p1x, p2x⟩ := HO3.out.box.cells; simp only at d0x d1x d2x d3x p0x p1x p2x; clear HP2 HOB HFO HW2 hb3 b0 b1 b2 b3 c0 c1 c2))
          go_roundw
          case rel => exact ⟨k + 1, by omega, by go_num, HP3.out, snoc_no HNO.out (by rw [free_eq HO.out, HBF.out]; rfl)⟩
          case measure => simp [intOf]; omega
        · cases be
          · obtain ⟨XS, hXS⟩ : ∃ XS, inWayI D.locks tx it kd = XS := ⟨_, rfl⟩
            obtain ⟨m, hm⟩ : ∃ m, XS.length = m := ⟨_, rfl⟩
            have HXS := Lib.hid hXS
            have HM := Lib.hid hm
            have HWY : Hid (wayO D.locks ⟨tx, kd, it⟩ = XS) := by show _ = _; rw [way_acc HBE.out]; exact hXS
            clear hXS hm
            by_cases hm0 : m = 0
            · have HWE : Hid ((wayO D.locks ⟨tx, kd, it⟩).isEmpty = true) := by show _ = _; rw [HWY.out, List.eq_nil_of_length_eq_zero (HM.out.trans hm0)]; rfl
              subst hm0
              go_wp2_with (first
                | (go_at_call 125; go_loud (rw [← HW2.out]; refine HFO.out.mono ?_; rintro e w3 ⟨rfl, hb3⟩; rw [HBF.out]; have HP3 := Lib.hid (HP2.out.below hb3); have HO3 := Lib.hid (HOB.out.below hb3); obtain ⟨d0x, d1x, d2x, d3x⟩ := HP3.out.box.cells; obtain ⟨p0x, p1x, p2x⟩ := HO3.out.box.cells; simp only at d0x d1x d2x d3x p0x p1x p2x; clear HP2 HOB HFO HW2 hb3 b0 b1 b2 b3 c0 c1 c2))
                | (go_at_call 89; go_loud (refine (sends_any ⟨tx, kd, it⟩ _).mono ?_; rintro e w4 ⟨rfl, hb4⟩; rw [HBE.out]; have HP4 := Lib.hid (HP3.out.below hb4); have HO4 := Lib.hid (HO3.out.below hb4); clear HP3 HO3 hb4 d0x d1x d2x d3x p0x p1x p2x; obtain ⟨d0, d1, d2, d3⟩ := HP4.out.box.cells; obtain ⟨p0, p1, p2⟩ := HO4.out.box.cells; simp only at d0 d1 d2 d3 p0 p1 p2))
                | (go_at_call 101; go_loud (refine (inWay_any Al nl cl D.locks tx it kd w4 (ROps.of_own (HP4.out.desk.locksN (n := nl) H3.out) (by omega))).mono ?_; rw [HXS.out]; rintro e w5 ⟨LA, lc, rfl, hlc, hFL, hb5⟩; rw [HM.out] at hlc hFL ⊢; have HFL := Lib.hid hFL; have HP5 := Lib.hid (HP4.out.below hb5); have HO5 := Lib.hid (HO4.out.below hb5); clear hFL hb5 HP4 HO4 d0 d1 d2 d3 p0 p1 p2; obtain ⟨d0, d1, d2, d3⟩ := HP5.out.box.cells; obtain ⟨p0, p1, p2⟩ := HO5.out.box.cells; simp only at d0 d1 d2 d3 p0 p1 p2)))
              have HNX : Hid (nextD .wound D = some (grantD ⟨D.done, D.wait.take k ++ D.wait.drop (k + 1), D.locks, D.dead⟩ ⟨tx, kd, it⟩)) := next_free _ HO.out (by rw [free_eq HO.out, HBF.out, HWE.out]; rfl) HNO.out
              have hcw : nw ≤ cw := hcs.2.1
              have hro5 : ROps w5 (some ⟨bw, ow, none⟩) nw D.wait := ROps.of_own (HP5.out.desk.waitN H2.out) (by omega)
              have HPT : Hid (∀ W, Below w5.heap.size w5 W → ROps W (some ⟨bw, ow, none⟩) k (D.wait.take k)) := fun W hW => (hro5.take (by omega)).below hW (Nat.le_refl _)
              have HPD : Hid (∀ W, Below w5.heap.size w5 W → ROps W (if cw = k + 1 then some ⟨bw, ow, none⟩ else (some (⟨bw, ow, none⟩ : Addr)).map (·.add ((k + 1) * 3))) (nw - (k + 1)) (D.wait.drop (k + 1))) := fun W hW => (hro5.drop (by omega) hcw).below hW (Nat.le_refl _)
              have HBA : Hid (Below w5.heap.size w5 (w5.alloc (.cells #[] 62)).drew) := ((Below.refl _ w5).alloc (Nat.le_refl _) _).drew
              have HEA : Hid ((w5.alloc (.cells #[] 62)).drew.ownsRow w5.heap.size 62 3 (.slice (some ⟨w5.heap.size, 0, none⟩) 0 0) 0 (opCells [])) := World.ownsRow_made w5 #[] 0 (Nat.le_refl _) (by decide) rfl
              obtain ⟨a0, a1, a2, a3⟩ := HP5.out.box.cells
              simp only at a0 a1 a2 a3
              have a1a := (HBA.out.cell (p := ⟨w.heap.size, 1, none⟩) (show w.heap.size < w5.heap.size from HP5.out.lts.1)).trans a1
              have hgx : w.heap.size < w5.heap.size := HP5.out.lts.1
              have j1 : IntKind.i64.wrap ((k : Int) + 1) = (k : Int) + 1 := IntWalk.i64_in _ (by omega)
              have j2 : ((k : Int) + 1).toNat = k + 1 := by omega
              have j3 : (k : Int) ≤ (cw : Int) := by omega
              have j4 : (k : Int) + 1 ≤ (nw : Int) := by omega
              have j5 : (0 : Int) ≤ (k : Int) := by omega
              have j6 : (nw : Int) ≤ (cw : Int) := by omega
              have j7 : (0 : Int) ≤ (k : Int) + 1 := by omega
              clear hro5
              try go_wp2_with fail
              go_region_law (first
                | (refine step_ops (.tmp 46) (.tmp 50) (c := cw) (HEA.out) (HBA.out.size) (HPT.out _ HBA.out) ?_ ?_ ?_ ?_ ?_ ?_; (· omega); (· rfl); (· rfl); (· rfl); (· rfl); intro v1 w1' hown1 hg1 hat1; rw [List.nil_append, Nat.zero_add] at hown1; have hb1' := Below.own HBA.out HEA.out (Nat.le_refl _) hg1; have z1 := (hb1'.cell (p := ⟨w.heap.size, 1, none⟩) hgx).trans a1)
                | (refine step_ops (.tmp 51) (.tmp 56) (c := cw - (k + 1)) (hown1) (hb1'.size) (HPD.out _ hb1') ?_ ?_ ?_ ?_ ?_ ?_; (· omega); (· rfl); (· rfl); (· rfl); (· rfl); intro v2 w2' hown2 hg2 hat2; have hb2' := Below.own hb1' hown1 (Nat.le_refl _) hg2; obtain ⟨A7, c7, rfl, hc7⟩ := own_form2 hown2; have z2 := (hb2'.cell (p := ⟨w.heap.size, 1, none⟩) hgx).trans a1; have z3 := (HP5.out.below hb2').box.soft 1))
              all_goals
                have hpa := HP5.out.below hb2'
                have hoa := HO5.out.below hb2'
                obtain ⟨d0, d1, d2, d3⟩ := hpa.box.cells
                obtain ⟨p0, p1, p2⟩ := hoa.box.cells
                simp only at d0 d1 d2 d3 p0 p1 p2
                have hp7 := hpa.waitNew hown2 HP5.out.desk.base HP5.out.size (fun b hb => HP5.out.desk.far hb)
                have hg7 := grant_any B _ _ ⟨tx, kd, it⟩ _ hp7.desk (show D.locks.length ≤ 9000 by have := H3.out; omega) (show D.done.length ≤ 9000 by have := H1.out; omega)
                simp only [DV.val, OpV.val] at hg7
                have HG7 := Lib.hid hg7
                have HP7 := Lib.hid hp7
                have hlx := HO5.out.lt
                have hne7 : w.heap.size ≠ wr.heap.size := by omega
                clear hpa hoa hp7 hg7 hown1 hg1 hat1 hb1' hown2 hg2 hat2 hb2' z1 z2 z3 a0 a1 a2 a3 a1a
                go_wp2_with (first
                  | (go_at_call 126; go_loud (refine HG7.out.mono ?_; rintro e w8 ⟨V8, rfl, hD8, hS8⟩; have hlt8 := next_less ((fun _ => HIT.out)) HNX.out; have hbn8 := Bnd.next ((fun _ => HIT.out)) HBN.out HNX.out; have hih := ih B V8 _ w8 hD8 hbn8 (by omega) (next_items HNX.out HIT.out); obtain ⟨Ad8, Aw8, Al8, Ak8, nd8, nw8, nl8, nk8, cd8, cw8, cl8, ck8, rfl, _⟩ := hD8.forms; simp only [DV.val] at hih; have HIH := Lib.hid hih; have HS8 := Lib.hid hS8; clear hih hS8 hD8 hlt8 hbn8; unfold DV.val; simp only))
                  | (go_at_call 92; go_loud (refine HIH.out.mono ?_; rintro e w9 ⟨V9, rfl, hD9, hS9⟩; obtain ⟨Ad9, Aw9, Al9, Ak9, nd9, nw9, nl9, nk9, cd9, cw9, cl9, ck9, rfl, _⟩ := hD9.forms; have hS9t := HS8.out.trans hS9; obtain ⟨_, hR9, _⟩ := HP7.out.mid hS9t; obtain ⟨y0, y1, y2, y3⟩ := hR9.cells; unfold DV.nil at y0 y1 y2 y3; simp only at y0 y1 y2 y3; have s0 := hR9.soft 0; have s1 := hR9.soft 1; have s2 := hR9.soft 2; have s3 := hR9.soft 3; have hF := HP7.out.out hD9 hS9t; simp only [putDesk] at hF; have HF := Lib.hid hF; clear hF hS9 hS9t hD9 hR9; unfold DV.val; simp only)))
                all_goals
                  try (have hck : cw = k + 1 := (by assumption); subst hck)
                  obtain ⟨d0, d1, d2, d3⟩ := HF.out.2.2.cells
                  simp only at d0 d1 d2 d3
                  refine bodyPost_ret (v := .agg #[.slice Ad9 nd9 cd9, .slice Aw9 nw9 cw9, .slice Al9 nl9 cl9, .slice Ak9 nk9 ck9]) (by simp [results, Try.results92, go_sem, d0, d1, d2, d3]) rfl ?_
                  refine ⟨⟨.slice Ad9 nd9 cd9, .slice Aw9 nw9 cw9, .slice Al9 nl9 cl9, .slice Ak9 nk9 ck9⟩, rfl, ?_, HF.out.2.1⟩
                  have e2 : settleD .wound D = _ := settle_some ((fun _ => HIT.out)) HNX.out
                  rw [e2]
                  exact HF.out.1
            · have HWE : Hid ((wayO D.locks ⟨tx, kd, it⟩).isEmpty = false) := by
                show _ = _
                rw [HWY.out]
                cases XS with
                | nil => exact absurd HM.out.symm hm0
                | cons _ _ => rfl
              go_wp2_with (first
                | (go_at_call 125; go_loud (rw [← HW2.out]; refine HFO.out.mono ?_; rintro e w3 ⟨rfl, hb3⟩; rw [HBF.out]; have HP3 := Lib.hid (HP2.out.below hb3); have HO3 := Lib.hid (HOB.out.below hb3); obtain ⟨d0x, d1x, d2x, d3x⟩ := HP3.out.box.cells; obtain ⟨p0x, p1x, p2x⟩ := HO3.out.box.cells; simp only at d0x d1x d2x d3x p0x p1x p2x; clear HP2 HOB HFO HW2 hb3 b0 b1 b2 b3 c0 c1 c2))
                | (go_at_call 89; go_loud (refine (sends_any ⟨tx, kd, it⟩ _).mono ?_; rintro e w4 ⟨rfl, hb4⟩; rw [HBE.out]; have HP4 := Lib.hid (HP3.out.below hb4); have HO4 := Lib.hid (HO3.out.below hb4); clear HP3 HO3 hb4 d0x d1x d2x d3x p0x p1x p2x; obtain ⟨d0, d1, d2, d3⟩ := HP4.out.box.cells; obtain ⟨p0, p1, p2⟩ := HO4.out.box.cells; simp only at d0 d1 d2 d3 p0 p1 p2))
                | (go_at_call 101; go_loud (refine (inWay_any Al nl cl D.locks tx it kd w4 (ROps.of_own (HP4.out.desk.locksN (n := nl) H3.out) (by omega))).mono ?_; rw [HXS.out]; rintro e w5 ⟨LA, lc, rfl, hlc, hFL, hb5⟩; rw [HM.out] at hlc hFL ⊢; have HFL := Lib.hid hFL; have HP5 := Lib.hid (HP4.out.below hb5); have HO5 := Lib.hid (HO4.out.below hb5); clear hFL hb5 HP4 HO4 d0 d1 d2 d3 p0 p1 p2; obtain ⟨d0, d1, d2, d3⟩ := HP5.out.box.cells; obtain ⟨p0, p1, p2⟩ := HO5.out.box.cells; simp only at d0 d1 d2 d3 p0 p1 p2)))
              go_roundw
              case rel => exact ⟨k + 1, by omega, by go_num, HP5.out, snoc_no HNO.out (by rw [free_eq HO.out, HBF.out, HWE.out]; rfl)⟩
              case measure => simp [intOf]; omega
          · have HWE : Hid ((wayO D.locks ⟨tx, kd, it⟩).isEmpty = true) := by show _ = _; rw [way_end HBE.out]; rfl
            go_wp2_with (first
              | (go_at_call 125; go_loud (rw [← HW2.out]; refine HFO.out.mono ?_; rintro e w3 ⟨rfl, hb3⟩; rw [HBF.out]; have HP3 := Lib.hid (HP2.out.below hb3); have HO3 := Lib.hid (HOB.out.below hb3); obtain ⟨d0x, d1x, d2x, d3x⟩ := HP3.out.box.cells; obtain ⟨p0x, p1x, p2x⟩ := HO3.out.box.cells; simp only at d0x d1x d2x d3x p0x p1x p2x; clear HP2 HOB HFO HW2 hb3 b0 b1 b2 b3 c0 c1 c2))
              | (go_at_call 89; go_loud (refine (sends_any ⟨tx, kd, it⟩ _).mono ?_; rintro e w4 ⟨rfl, hb4⟩; rw [HBE.out]; have HP4 := Lib.hid (HP3.out.below hb4); have HO4 := Lib.hid (HO3.out.below hb4); clear HP3 HO3 hb4 d0x d1x d2x d3x p0x p1x p2x; obtain ⟨d0, d1, d2, d3⟩ := HP4.out.box.cells; obtain ⟨p0, p1, p2⟩ := HO4.out.box.cells; simp only at d0 d1 d2 d3 p0 p1 p2)))
            have HNX : Hid (nextD .wound D = some (grantD ⟨D.done, D.wait.take k ++ D.wait.drop (k + 1), D.locks, D.dead⟩ ⟨tx, kd, it⟩)) := next_free _ HO.out (by rw [free_eq HO.out, HBF.out, HWE.out]; rfl) HNO.out
            have hcw : nw ≤ cw := hcs.2.1
            have hro5 : ROps w4 (some ⟨bw, ow, none⟩) nw D.wait := ROps.of_own (HP4.out.desk.waitN H2.out) (by omega)
            have HPT : Hid (∀ W, Below w4.heap.size w4 W → ROps W (some ⟨bw, ow, none⟩) k (D.wait.take k)) := fun W hW => (hro5.take (by omega)).below hW (Nat.le_refl _)
            have HPD : Hid (∀ W, Below w4.heap.size w4 W → ROps W (if cw = k + 1 then some ⟨bw, ow, none⟩ else (some (⟨bw, ow, none⟩ : Addr)).map (·.add ((k + 1) * 3))) (nw - (k + 1)) (D.wait.drop (k + 1))) := fun W hW => (hro5.drop (by omega) hcw).below hW (Nat.le_refl _)
            have HBA : Hid (Below w4.heap.size w4 (w4.alloc (.cells #[] 62)).drew) := ((Below.refl _ w4).alloc (Nat.le_refl _) _).drew
            have HEA : Hid ((w4.alloc (.cells #[] 62)).drew.ownsRow w4.heap.size 62 3 (.slice (some ⟨w4.heap.size, 0, none⟩) 0 0) 0 (opCells [])) := World.ownsRow_made w4 #[] 0 (Nat.le_refl _) (by decide) rfl
            obtain ⟨a0, a1, a2, a3⟩ := HP4.out.box.cells
            simp only at a0 a1 a2 a3
            have a1a := (HBA.out.cell (p := ⟨w.heap.size, 1, none⟩) (show w.heap.size < w4.heap.size from HP4.out.lts.1)).trans a1
            have hgx : w.heap.size < w4.heap.size := HP4.out.lts.1
            have j1 : IntKind.i64.wrap ((k : Int) + 1) = (k : Int) + 1 := IntWalk.i64_in _ (by omega)
            have j2 : ((k : Int) + 1).toNat = k + 1 := by omega
            have j3 : (k : Int) ≤ (cw : Int) := by omega
            have j4 : (k : Int) + 1 ≤ (nw : Int) := by omega
            have j5 : (0 : Int) ≤ (k : Int) := by omega
            have j6 : (nw : Int) ≤ (cw : Int) := by omega
            have j7 : (0 : Int) ≤ (k : Int) + 1 := by omega
            clear hro5
            try go_wp2_with fail
            go_region_law (first
              | (refine step_ops (.tmp 46) (.tmp 50) (c := cw) (HEA.out) (HBA.out.size) (HPT.out _ HBA.out) ?_ ?_ ?_ ?_ ?_ ?_; (· omega); (· rfl); (· rfl); (· rfl); (· rfl); intro v1 w1' hown1 hg1 hat1; rw [List.nil_append, Nat.zero_add] at hown1; have hb1' := Below.own HBA.out HEA.out (Nat.le_refl _) hg1; have z1 := (hb1'.cell (p := ⟨w.heap.size, 1, none⟩) hgx).trans a1)
              | (refine step_ops (.tmp 51) (.tmp 56) (c := cw - (k + 1)) (hown1) (hb1'.size) (HPD.out _ hb1') ?_ ?_ ?_ ?_ ?_ ?_; (· omega); (· rfl); (· rfl); (· rfl); (· rfl); intro v2 w2' hown2 hg2 hat2; have hb2' := Below.own hb1' hown1 (Nat.le_refl _) hg2; obtain ⟨A7, c7, rfl, hc7⟩ := own_form2 hown2; have z2 := (hb2'.cell (p := ⟨w.heap.size, 1, none⟩) hgx).trans a1; have z3 := (HP4.out.below hb2').box.soft 1))
            all_goals
              have hpa := HP4.out.below hb2'
              have hoa := HO4.out.below hb2'
              obtain ⟨d0, d1, d2, d3⟩ := hpa.box.cells
              obtain ⟨p0, p1, p2⟩ := hoa.box.cells
              simp only at d0 d1 d2 d3 p0 p1 p2
              have hp7 := hpa.waitNew hown2 HP4.out.desk.base HP4.out.size (fun b hb => HP4.out.desk.far hb)
              have hg7 := grant_any B _ _ ⟨tx, kd, it⟩ _ hp7.desk (show D.locks.length ≤ 9000 by have := H3.out; omega) (show D.done.length ≤ 9000 by have := H1.out; omega)
              simp only [DV.val, OpV.val] at hg7
              have HG7 := Lib.hid hg7
              have HP7 := Lib.hid hp7
              have hlx := HO4.out.lt
              have hne7 : w.heap.size ≠ wr.heap.size := by omega
              clear hpa hoa hp7 hg7 hown1 hg1 hat1 hb1' hown2 hg2 hat2 hb2' z1 z2 z3 a0 a1 a2 a3 a1a
              go_wp2_with (first
                | (go_at_call 126; go_loud (refine HG7.out.mono ?_; rintro e w8 ⟨V8, rfl, hD8, hS8⟩; have hlt8 := next_less ((fun _ => HIT.out)) HNX.out; have hbn8 := Bnd.next ((fun _ => HIT.out)) HBN.out HNX.out; have hih := ih B V8 _ w8 hD8 hbn8 (by omega) (next_items HNX.out HIT.out); obtain ⟨Ad8, Aw8, Al8, Ak8, nd8, nw8, nl8, nk8, cd8, cw8, cl8, ck8, rfl, _⟩ := hD8.forms; simp only [DV.val] at hih; have HIH := Lib.hid hih; have HS8 := Lib.hid hS8; clear hih hS8 hD8 hlt8 hbn8; unfold DV.val; simp only))
                | (go_at_call 92; go_loud (refine HIH.out.mono ?_; rintro e w9 ⟨V9, rfl, hD9, hS9⟩; obtain ⟨Ad9, Aw9, Al9, Ak9, nd9, nw9, nl9, nk9, cd9, cw9, cl9, ck9, rfl, _⟩ := hD9.forms; have hS9t := HS8.out.trans hS9; obtain ⟨_, hR9, _⟩ := HP7.out.mid hS9t; obtain ⟨y0, y1, y2, y3⟩ := hR9.cells; unfold DV.nil at y0 y1 y2 y3; simp only at y0 y1 y2 y3; have s0 := hR9.soft 0; have s1 := hR9.soft 1; have s2 := hR9.soft 2; have s3 := hR9.soft 3; have hF := HP7.out.out hD9 hS9t; simp only [putDesk] at hF; have HF := Lib.hid hF; clear hF hS9 hS9t hD9 hR9; unfold DV.val; simp only)))
              all_goals
                try (have hck : cw = k + 1 := (by assumption); subst hck)
                obtain ⟨d0, d1, d2, d3⟩ := HF.out.2.2.cells
                simp only at d0 d1 d2 d3
                refine bodyPost_ret (v := .agg #[.slice Ad9 nd9 cd9, .slice Aw9 nw9 cw9, .slice Al9 nl9 cl9, .slice Ak9 nk9 ck9]) (by simp [results, Try.results92, go_sem, d0, d1, d2, d3]) rfl ?_
                refine ⟨⟨.slice Ad9 nd9 cd9, .slice Aw9 nw9 cw9, .slice Al9 nl9 cl9, .slice Ak9 nk9 ck9⟩, rfl, ?_, HF.out.2.1⟩
                have e2 : settleD .wound D = _ := settle_some ((fun _ => HIT.out)) HNX.out
                rw [e2]
                exact HF.out.1
      · have hfr : ∀ j, j < D.wait.length → freeB D j = false := fun j hj => HNO.out j (by have := H2.out; omega)
        have HFR := Lib.hid hfr
        clear hP hfr HNO
        go_wp2_with fail
        go_loopw [7] (fun i wr => ∃ k : Nat, k ≤ nw ∧ i = .int .i64 k ∧ Pk w ⟨.slice Ad nd cd, .slice Aw nw cw, .slice Al nl cl, .slice Ak nk ck⟩ B w.heap.size (w.heap.size + 1) wr ⟨.slice Ad nd cd, .slice Aw nw cw, .slice Al nl cl, .slice Ak nk ck⟩ D ∧ ∀ j, j < k → woundB D j = false) (fun i _ => nw - (intOf i).toNat)
        case atStart => exact ⟨0, Nat.zero_le _, rfl, HP.out, by omega⟩
        case round =>
          clear HP hgr b0 b1 b2 b3 hlt
          rename_i k0 _ _ _ _
          obtain ⟨k, hk, rfl, hP, hno⟩ := hrel
          have HNO := Lib.hid hno
          have HP := Lib.hid hP
          clear hno
          obtain ⟨b0, b1, b2, b3⟩ := hP.box.cells
          simp only at b0 b1 b2 b3
          have hgr := hP.lts
          by_cases hlt : k < nw
          · have hro : ROps wr Aw nw D.wait := ROps.of_own (hP.desk.waitN H2.out) (by omega)
            obtain ⟨bw, ow, o, hA, hbl, ho, c0, c1, c2⟩ := hro.at_ hlt
            subst hA
            have HO := Lib.hid ho
            obtain ⟨bf, hbf⟩ : ∃ b, frstB D.wait k = b := ⟨_, rfl⟩
            have HBF := Lib.hid hbf
            have hOB := OB.made hP.desk o
            obtain ⟨tx, kd, it⟩ := o
            unfold OpV.cells at hOB
            simp only at hOB c0 c1 c2
            obtain ⟨W2, hW2⟩ : ∃ W2 : World, W2 = wr.alloc (.cells #[.int .i64 tx, .int .i64 kd, .int .i64 it] 62) := ⟨_, rfl⟩
            have hP2 := hP.alloc (.cells #[.int .i64 tx, .int .i64 kd, .int .i64 it] 62)
            change OB (wr.alloc (.cells #[.int .i64 tx, .int .i64 kd, .int .i64 it] 62)) _ _ _ at hOB
            rw [← hW2] at hOB hP2
            have hro2 : ROps W2 (some ⟨bw, ow, none⟩) nw D.wait := ROps.of_own (hP2.desk.waitN H2.out) (by omega)
            have HP2 := Lib.hid hP2
            have HOB := Lib.hid hOB
            have HW2 := Lib.hid hW2
            have HRO2 := Lib.hid hro2
            clear hP hro ho hbf hOB hP2 hro2 hW2
            obtain ⟨XS, hXS⟩ : ∃ XS, inWayI D.locks tx it kd = XS := ⟨_, rfl⟩
            obtain ⟨m, hm⟩ : ∃ m, XS.length = m := ⟨_, rfl⟩
            have HXS := Lib.hid hXS
            have HM := Lib.hid hm
            clear hXS hm
            cases bf
            · go_wp2_with (go_at_call 101; go_loud (rw [← HW2.out]; refine (inWay_any Al nl cl D.locks tx it kd W2 (ROps.of_own (HP2.out.desk.locksN (n := nl) H3.out) (by omega))).mono ?_; rw [HXS.out]; rintro e w3 ⟨LA, lc, rfl, hlc, hFL, hb3⟩; rw [HM.out] at hlc hFL ⊢; have HFL := Lib.hid hFL; have HP3 := Lib.hid (HP2.out.below hb3); have HO3 := Lib.hid (HOB.out.below hb3); clear hFL hb3 HP2 HOB HW2 HRO2 b0 b1 b2 b3 c0 c1 c2))
              obtain ⟨d0, d1, d2, d3⟩ := HP3.out.box.cells
              obtain ⟨p0, p1, p2⟩ := HO3.out.box.cells
              simp only at d0 d1 d2 d3 p0 p1 p2
              have L1 := Later.cell d1
              have P0 := Later.cell p0
              have hro3 : ROps w3 (some ⟨bw, ow, none⟩) nw D.wait := ROps.of_own (HP3.out.desk.waitN H2.out) (by omega)
              have HRO3 := Lib.hid hro3
              have hfo : ∀ u : Later w3, Calls Try.prog 125 #[.slice (some ⟨bw, ow, none⟩) nw cw, .int .i64 (k : Int)] u.1 fun e w' => e = .returned (.bool false) ∧ Below u.1.heap.size u.1 w' := fun u => by
                have := firstOf_any (some ⟨bw, ow, none⟩) nw cw D.wait k u.1 (HRO3.out.later u) hlt
                rw [HBF.out] at this
                exact this
              have HFO := Lib.hid hfo
              clear hfo hro3 d0 d1 d2 d3 p0 p1 p2
              try go_wp2_with fail
              refine region_later (by kernel_rfl) (by kernel_rfl) ?_
              repeat (go_big_quiet_step ((go_at_call 125; exact later_call _ (HFO.out _))))
              refine wpQuiet_nil ?_
              rintro _ ⟨u, rfl⟩
              have HP4 := Lib.hid (HP3.out.below u.2)
              have HO4 := Lib.hid (HO3.out.below u.2)
              
              obtain ⟨w4, hwm⟩ : ∃ w4 : World, u.1 = w4 := ⟨_, rfl⟩
              rw [hwm] at HP4 HO4  ⊢
              clear hwm L1 P0 HFO HRO3 HP3 HO3
              obtain ⟨d0, d1, d2, d3⟩ := HP4.out.box.cells
              obtain ⟨p0, p1, p2⟩ := HO4.out.box.cells
              simp only at d0 d1 d2 d3 p0 p1 p2
              have L1 := Later.cell d1
              have P0 := Later.cell p0
              have hro4 : ROps w4 (some ⟨bw, ow, none⟩) nw D.wait := ROps.of_own (HP4.out.desk.waitN H2.out) (by omega)
              have HRO4 := Lib.hid hro4
              have hfo : ∀ u : Later w4, Calls Try.prog 125 #[.slice (some ⟨bw, ow, none⟩) nw cw, .int .i64 (k : Int)] u.1 fun e w' => e = .returned (.bool false) ∧ Below u.1.heap.size u.1 w' := fun u => by
                have := firstOf_any (some ⟨bw, ow, none⟩) nw cw D.wait k u.1 (HRO4.out.later u) hlt
                rw [HBF.out] at this
                exact this
              have HFO := Lib.hid hfo
              clear hfo hro4 d0 d1 d2 d3 p0 p1 p2
              try go_wp2_with fail
              refine region_later (by kernel_rfl) (by kernel_rfl) ?_
              repeat (go_big_quiet_step ((go_at_call 125; exact later_call _ (HFO.out _))))
              refine wpQuiet_nil ?_
              rintro _ ⟨u, rfl⟩
              have HP5 := Lib.hid (HP4.out.below u.2)
              have HO5 := Lib.hid (HO4.out.below u.2)
              
              obtain ⟨w5, hwm⟩ : ∃ w5 : World, u.1 = w5 := ⟨_, rfl⟩
              rw [hwm] at HP5 HO5  ⊢
              clear hwm L1 P0 HFO HRO4 HP4 HO4
              go_wp2_with fail
              go_roundw
              case rel => exact ⟨k + 1, by omega, by go_num, HP5.out, snoc_no HNO.out (by rw [wound_eq HO.out, HBF.out]; rfl)⟩
              case measure => simp [intOf]; omega
            · obtain ⟨hbe, hwy, hwne⟩ := blocked HO.out HBF.out (HFR.out k (by have := H2.out; omega))
              have hwy2 : wayO D.locks ⟨tx, kd, it⟩ = XS := hwy.trans HXS.out
              have HWY := Lib.hid hwy2
              have hm0 : 0 < m := by rw [← HM.out]; rw [hwy2] at hwne; exact List.length_pos_iff.2 hwne
              clear hbe hwy hwne hwy2
              go_wp2_with (go_at_call 101; go_loud (rw [← HW2.out]; refine (inWay_any Al nl cl D.locks tx it kd W2 (ROps.of_own (HP2.out.desk.locksN (n := nl) H3.out) (by omega))).mono ?_; rw [HXS.out]; rintro e w3 ⟨LA, lc, rfl, hlc, hFL, hb3⟩; rw [HM.out] at hlc hFL ⊢; have HFL := Lib.hid hFL; have HP3 := Lib.hid (HP2.out.below hb3); have HO3 := Lib.hid (HOB.out.below hb3); clear hFL hb3 HP2 HOB HW2 HRO2 b0 b1 b2 b3 c0 c1 c2))
              obtain ⟨bL, oL, X, hLA, hbL, hXX, z0⟩ := HFL.out.1.at_ (k := m - 1) (by omega)
              subst hLA
              have hhd : XS.getLastD 0 = X := by
                have hl := HM.out
                rw [List.getLastD_eq_getLast?, List.getLast?_eq_getElem?, hl, hXX]; rfl
              have HHD := Lib.hid hhd
              have HZZ := Lib.hid z0
              have j1 : IntKind.i64.wrap ((m : Int) - 1) = (m : Int) - 1 := IntWalk.i64_in _ (by have := HFL.out.1.2.1; omega)
              have j2 : ((m : Int) - 1).toNat = m - 1 := by omega
              have j3 : (0 : Int) ≤ (m : Int) - 1 := by omega
              have j4 : (m : Int) - 1 < (m : Int) := by omega
              clear hXX hhd z0
              by_cases hx : tx < X
              · have hxb : decide (tx < X) = true := by simp [hx]
                have hnx0 := next_wound HFR.out HO.out (by rw [wound_eq HO.out, HBF.out, HWY.out, HHD.out]; simpa using hx) HNO.out
                rw [HWY.out, HHD.out] at hnx0
                have HNX : Hid (nextD .wound D = some (killD D X)) := hnx0
                clear hnx0
                obtain ⟨d0, d1, d2, d3⟩ := HP3.out.box.cells
                obtain ⟨p0, p1, p2⟩ := HO3.out.box.cells
                simp only at d0 d1 d2 d3 p0 p1 p2
                have L1 := Later.cell d1
                have P0 := Later.cell p0
                have ZZ := Later.cell HZZ.out
                have hro3 : ROps w3 (some ⟨bw, ow, none⟩) nw D.wait := ROps.of_own (HP3.out.desk.waitN H2.out) (by omega)
                have HRO3 := Lib.hid hro3
                have hfo : ∀ u : Later w3, Calls Try.prog 125 #[.slice (some ⟨bw, ow, none⟩) nw cw, .int .i64 (k : Int)] u.1 fun e w' => e = .returned (.bool true) ∧ Below u.1.heap.size u.1 w' := fun u => by
                  have := firstOf_any (some ⟨bw, ow, none⟩) nw cw D.wait k u.1 (HRO3.out.later u) hlt
                  rw [HBF.out] at this
                  exact this
                have HFO := Lib.hid hfo
                clear hfo hro3 d0 d1 d2 d3 p0 p1 p2
                try go_wp2_with fail
                refine region_later (by kernel_rfl) (by kernel_rfl) ?_
                repeat (go_big_quiet_step ((go_at_call 125; exact later_call _ (HFO.out _))))
                refine wpQuiet_nil ?_
                rintro _ ⟨u, rfl⟩
                have HP4 := Lib.hid (HP3.out.below u.2)
                have HO4 := Lib.hid (HO3.out.below u.2)
                
                have hz9 := ZZ u
                obtain ⟨w4, hwm⟩ : ∃ w4 : World, u.1 = w4 := ⟨_, rfl⟩
                rw [hwm] at HP4 HO4 hz9 ⊢
                clear HZZ
                have HZZ := Lib.hid hz9
                clear hz9 hwm ZZ L1 P0 HFO HRO3 HP3 HO3
                obtain ⟨d0, d1, d2, d3⟩ := HP4.out.box.cells
                obtain ⟨p0, p1, p2⟩ := HO4.out.box.cells
                simp only at d0 d1 d2 d3 p0 p1 p2
                have L1 := Later.cell d1
                have P0 := Later.cell p0
                have ZZ := Later.cell HZZ.out
                have hro4 : ROps w4 (some ⟨bw, ow, none⟩) nw D.wait := ROps.of_own (HP4.out.desk.waitN H2.out) (by omega)
                have HRO4 := Lib.hid hro4
                have hfo : ∀ u : Later w4, Calls Try.prog 125 #[.slice (some ⟨bw, ow, none⟩) nw cw, .int .i64 (k : Int)] u.1 fun e w' => e = .returned (.bool true) ∧ Below u.1.heap.size u.1 w' := fun u => by
                  have := firstOf_any (some ⟨bw, ow, none⟩) nw cw D.wait k u.1 (HRO4.out.later u) hlt
                  rw [HBF.out] at this
                  exact this
                have HFO := Lib.hid hfo
                clear hfo hro4 d0 d1 d2 d3 p0 p1 p2
                try go_wp2_with fail
                refine region_later (by kernel_rfl) (by kernel_rfl) ?_
                repeat (go_big_quiet_step ((go_at_call 125; exact later_call _ (HFO.out _))))
                refine wpQuiet_nil ?_
                rintro _ ⟨u, rfl⟩
                have HP5 := Lib.hid (HP4.out.below u.2)
                have HO5 := Lib.hid (HO4.out.below u.2)
                
                have hz9 := ZZ u
                obtain ⟨w5, hwm⟩ : ∃ w5 : World, u.1 = w5 := ⟨_, rfl⟩
                rw [hwm] at HP5 HO5 hz9 ⊢
                clear HZZ
                have HZZ := Lib.hid hz9
                clear hz9 hwm ZZ L1 P0 HFO HRO4 HP4 HO4
                obtain ⟨d0, d1, d2, d3⟩ := HP5.out.box.cells
                simp only at d0 d1 d2 d3
                have z5 := HZZ.out
                have j5 : (1 : Int) ≤ (m : Int) := by omega
                have j6 : 1 ≤ m := by omega
                have j7 : ¬ m = 0 := by omega
                obtain ⟨wd, hwd⟩ : ∃ wd : World, wd = w5.drew := ⟨_, rfl⟩
                have HPD : Hid (Pk w ⟨.slice Ad nd cd, .slice (some ⟨bw, ow, none⟩) nw cw, .slice Al nl cl, .slice Ak nk ck⟩ B w.heap.size (w.heap.size + 1) wd ⟨.slice Ad nd cd, .slice (some ⟨bw, ow, none⟩) nw cw, .slice Al nl cl, .slice Ak nk ck⟩ D) := by show Pk _ _ _ _ _ _ _ _; rw [hwd]; exact HP5.out.drew
                obtain ⟨e0, e1, e2, e3⟩ := HPD.out.box.cells
                simp only at e0 e1 e2 e3
                have ze : wd.cell? ⟨bL, oL + (m - 1), none⟩ = some (.int .i64 X) := by rw [hwd]; exact z5
                have hk7 := kill_any B _ _ X wd HPD.out.desk (show D.locks.length ≤ 9000 by have := H3.out; omega) (show D.done.length ≤ 9000 ∧ D.wait.length ≤ 9000 ∧ D.dead.length ≤ 9000 by have := H1.out; have := H2.out; have := H4.out; omega)
                simp only [DV.val] at hk7
                have HK7 := Lib.hid hk7
                have HWD := Lib.hid hwd
                clear hk7 hwd
                go_wp2_with fail
                refine wp_region_any (by kernel_rfl) ?_
                change wpAny _ _ _ _ _ _ _ (World.drew _)
                rw [← HWD.out]
                refine wpAny_take (i := 0) (v := ?_) rfl (by kernel_rfl) (by kernel_rfl) (by kernel_rfl) (fun _ _ _ h => h) (Or.inl ⟨by kernel_rfl, ?_⟩) ?_
                rotate_left
                · intro w; go_simp; try with_reducible rfl
                refine wpAny_take (i := 2) (v := ?_) rfl (by kernel_rfl) (by kernel_rfl) (by kernel_rfl) (fun _ _ _ h => h) (Or.inl ⟨by kernel_rfl, ?_⟩) ?_
                rotate_left
                · intro w; go_simp; try with_reducible rfl
                refine wpAny_take (i := 3) (v := ?_) rfl (by kernel_rfl) (by kernel_rfl) (by kernel_rfl) (fun _ _ _ h => h) (Or.inl ⟨by kernel_rfl, ?_⟩) ?_
                rotate_left
                · intro w; go_simp; try with_reducible rfl
                refine wpAny_take (i := 4) (v := ?_) rfl (by kernel_rfl) (by kernel_rfl) (by kernel_rfl) (fun _ _ _ h => h) (Or.inl ⟨by kernel_rfl, ?_⟩) ?_
                rotate_left
                · intro w; go_simp; try with_reducible rfl
                refine wpAny_take (i := 5) (v := ?_) rfl (by kernel_rfl) (by kernel_rfl) (by kernel_rfl) (fun _ _ _ h => h) (Or.inl ⟨by kernel_rfl, ?_⟩) ?_
                rotate_left
                · intro w; go_simp; try with_reducible rfl
                refine wpAny_take (i := 6) (v := ?_) rfl (by kernel_rfl) (by kernel_rfl) (by kernel_rfl) (fun _ _ _ h => h) (Or.inl ⟨by kernel_rfl, ?_⟩) ?_
                rotate_left
                · intro w; go_simp; try with_reducible rfl
                refine wpAny_ready (rs := [1, 7]) (by kernel_rfl) (by simp) ?_
                refine AllReady.cons rfl (fun K hK => ?_) (AllReady.cons rfl (fun K hK => ?_) (AllReady.nil))
                · go_simp
                  try (refine hK _ _ ?_; clear hK K)
                  refine wpAny_ready (rs := [7]) (by kernel_rfl) (by simp) ?_
                  refine AllReady.cons rfl (fun K hK => ?_) AllReady.nil
                  go_simp
                  try (refine hK _ _ ?_; clear hK K)
                  refine wpAny_ready (rs := [8]) (by kernel_rfl) (by simp) ?_
                  refine AllReady.cons rfl (fun K hK => ?_) AllReady.nil
                  go_simp
                  go_wp2_with (go_at_call 127; go_loud (refine HK7.out.mono ?_; rintro e w8 ⟨V8, rfl, hD8, hS8⟩; have hlt8 := next_less ((fun _ => HIT.out)) HNX.out; have hbn8 := Bnd.next ((fun _ => HIT.out)) HBN.out HNX.out; have hih := ih B V8 _ w8 hD8 hbn8 (by omega) (next_items HNX.out HIT.out); obtain ⟨Ad8, Aw8, Al8, Ak8, nd8, nw8, nl8, nk8, cd8, cw8, cl8, ck8, rfl, _⟩ := hD8.forms; simp only [DV.val] at hih; have HIH := Lib.hid hih; have HS8 := Lib.hid hS8; clear hih hS8 hD8 hlt8 hbn8; unfold DV.val; simp only))
                  try (refine hK _ _ ?_; clear hK K)
                  refine wpAny_ready (rs := [9]) (by kernel_rfl) (by simp) ?_
                  refine AllReady.cons rfl (fun K hK => ?_) AllReady.nil
                  go_simp
                  go_wp2_with (go_at_call 92; go_loud (refine HIH.out.mono ?_; rintro e w9 ⟨V9, rfl, hD9, hS9⟩; obtain ⟨Ad9, Aw9, Al9, Ak9, nd9, nw9, nl9, nk9, cd9, cw9, cl9, ck9, rfl, _⟩ := hD9.forms; have hS9t := HS8.out.trans hS9; obtain ⟨_, hR9, _⟩ := HPD.out.mid hS9t; obtain ⟨y0, y1, y2, y3⟩ := hR9.cells; unfold DV.nil at y0 y1 y2 y3; simp only at y0 y1 y2 y3; have s0 := hR9.soft 0; have s1 := hR9.soft 1; have s2 := hR9.soft 2; have s3 := hR9.soft 3; have hF := HPD.out.out hD9 hS9t; simp only [putDesk] at hF; have HF := Lib.hid hF; clear hF hS9 hS9t hD9 hR9; unfold DV.val; simp only))
                  try (refine hK _ _ ?_; clear hK K)
                  refine wpAny_ready (rs := [10]) (by kernel_rfl) (by simp) ?_
                  refine AllReady.cons rfl (fun K hK => ?_) AllReady.nil
                  go_simp
                  try (refine hK _ _ ?_; clear hK K)
                  refine wpAny_done (by kernel_rfl) ?_ _
                  try go_simp
                  go_wp2_with fail
                  obtain ⟨d0, d1, d2, d3⟩ := HF.out.2.2.cells
                  simp only at d0 d1 d2 d3
                  refine bodyPost_ret (v := .agg #[.slice Ad9 nd9 cd9, .slice Aw9 nw9 cw9, .slice Al9 nl9 cl9, .slice Ak9 nk9 ck9]) (by simp [results, Try.results92, go_sem, d0, d1, d2, d3]) rfl ?_
                  refine ⟨⟨.slice Ad9 nd9 cd9, .slice Aw9 nw9 cw9, .slice Al9 nl9 cl9, .slice Ak9 nk9 ck9⟩, rfl, ?_, HF.out.2.1⟩
                  have e2 : settleD .wound D = _ := settle_some ((fun _ => HIT.out)) HNX.out
                  rw [e2]
                  exact HF.out.1
                · go_simp
                  try (refine hK _ _ ?_; clear hK K)
                  refine wpAny_ready (rs := [1]) (by kernel_rfl) (by simp) ?_
                  refine AllReady.cons rfl (fun K hK => ?_) AllReady.nil
                  go_simp
                  try (refine hK _ _ ?_; clear hK K)
                  refine wpAny_ready (rs := [8]) (by kernel_rfl) (by simp) ?_
                  refine AllReady.cons rfl (fun K hK => ?_) AllReady.nil
                  go_simp
                  go_wp2_with (go_at_call 127; go_loud (refine HK7.out.mono ?_; rintro e w8 ⟨V8, rfl, hD8, hS8⟩; have hlt8 := next_less ((fun _ => HIT.out)) HNX.out; have hbn8 := Bnd.next ((fun _ => HIT.out)) HBN.out HNX.out; have hih := ih B V8 _ w8 hD8 hbn8 (by omega) (next_items HNX.out HIT.out); obtain ⟨Ad8, Aw8, Al8, Ak8, nd8, nw8, nl8, nk8, cd8, cw8, cl8, ck8, rfl, _⟩ := hD8.forms; simp only [DV.val] at hih; have HIH := Lib.hid hih; have HS8 := Lib.hid hS8; clear hih hS8 hD8 hlt8 hbn8; unfold DV.val; simp only))
                  try (refine hK _ _ ?_; clear hK K)
                  refine wpAny_ready (rs := [9]) (by kernel_rfl) (by simp) ?_
                  refine AllReady.cons rfl (fun K hK => ?_) AllReady.nil
                  go_simp
                  go_wp2_with (go_at_call 92; go_loud (refine HIH.out.mono ?_; rintro e w9 ⟨V9, rfl, hD9, hS9⟩; obtain ⟨Ad9, Aw9, Al9, Ak9, nd9, nw9, nl9, nk9, cd9, cw9, cl9, ck9, rfl, _⟩ := hD9.forms; have hS9t := HS8.out.trans hS9; obtain ⟨_, hR9, _⟩ := HPD.out.mid hS9t; obtain ⟨y0, y1, y2, y3⟩ := hR9.cells; unfold DV.nil at y0 y1 y2 y3; simp only at y0 y1 y2 y3; have s0 := hR9.soft 0; have s1 := hR9.soft 1; have s2 := hR9.soft 2; have s3 := hR9.soft 3; have hF := HPD.out.out hD9 hS9t; simp only [putDesk] at hF; have HF := Lib.hid hF; clear hF hS9 hS9t hD9 hR9; unfold DV.val; simp only))
                  try (refine hK _ _ ?_; clear hK K)
                  refine wpAny_ready (rs := [10]) (by kernel_rfl) (by simp) ?_
                  refine AllReady.cons rfl (fun K hK => ?_) AllReady.nil
                  go_simp
                  try (refine hK _ _ ?_; clear hK K)
                  refine wpAny_done (by kernel_rfl) ?_ _
                  try go_simp
                  go_wp2_with fail
                  obtain ⟨d0, d1, d2, d3⟩ := HF.out.2.2.cells
                  simp only at d0 d1 d2 d3
                  refine bodyPost_ret (v := .agg #[.slice Ad9 nd9 cd9, .slice Aw9 nw9 cw9, .slice Al9 nl9 cl9, .slice Ak9 nk9 ck9]) (by simp [results, Try.results92, go_sem, d0, d1, d2, d3]) rfl ?_
                  refine ⟨⟨.slice Ad9 nd9 cd9, .slice Aw9 nw9 cw9, .slice Al9 nl9 cl9, .slice Ak9 nk9 ck9⟩, rfl, ?_, HF.out.2.1⟩
                  have e2 : settleD .wound D = _ := settle_some ((fun _ => HIT.out)) HNX.out
                  rw [e2]
                  exact HF.out.1
              · have hxb : decide (tx < X) = false := by simp; omega
                obtain ⟨d0, d1, d2, d3⟩ := HP3.out.box.cells
                obtain ⟨p0, p1, p2⟩ := HO3.out.box.cells
                simp only at d0 d1 d2 d3 p0 p1 p2
                have L1 := Later.cell d1
                have P0 := Later.cell p0
                have ZZ := Later.cell HZZ.out
                have hro3 : ROps w3 (some ⟨bw, ow, none⟩) nw D.wait := ROps.of_own (HP3.out.desk.waitN H2.out) (by omega)
                have HRO3 := Lib.hid hro3
                have hfo : ∀ u : Later w3, Calls Try.prog 125 #[.slice (some ⟨bw, ow, none⟩) nw cw, .int .i64 (k : Int)] u.1 fun e w' => e = .returned (.bool true) ∧ Below u.1.heap.size u.1 w' := fun u => by
                  have := firstOf_any (some ⟨bw, ow, none⟩) nw cw D.wait k u.1 (HRO3.out.later u) hlt
                  rw [HBF.out] at this
                  exact this
                have HFO := Lib.hid hfo
                clear hfo hro3 d0 d1 d2 d3 p0 p1 p2
                try go_wp2_with fail
                refine region_later (by kernel_rfl) (by kernel_rfl) ?_
                repeat (go_big_quiet_step ((go_at_call 125; exact later_call _ (HFO.out _))))
                refine wpQuiet_nil ?_
                rintro _ ⟨u, rfl⟩
                have HP4 := Lib.hid (HP3.out.below u.2)
                have HO4 := Lib.hid (HO3.out.below u.2)
                
                have hz9 := ZZ u
                obtain ⟨w4, hwm⟩ : ∃ w4 : World, u.1 = w4 := ⟨_, rfl⟩
                rw [hwm] at HP4 HO4 hz9 ⊢
                clear HZZ
                have HZZ := Lib.hid hz9
                clear hz9 hwm ZZ L1 P0 HFO HRO3 HP3 HO3
                obtain ⟨d0, d1, d2, d3⟩ := HP4.out.box.cells
                obtain ⟨p0, p1, p2⟩ := HO4.out.box.cells
                simp only at d0 d1 d2 d3 p0 p1 p2
                have L1 := Later.cell d1
                have P0 := Later.cell p0
                have ZZ := Later.cell HZZ.out
                have hro4 : ROps w4 (some ⟨bw, ow, none⟩) nw D.wait := ROps.of_own (HP4.out.desk.waitN H2.out) (by omega)
                have HRO4 := Lib.hid hro4
                have hfo : ∀ u : Later w4, Calls Try.prog 125 #[.slice (some ⟨bw, ow, none⟩) nw cw, .int .i64 (k : Int)] u.1 fun e w' => e = .returned (.bool true) ∧ Below u.1.heap.size u.1 w' := fun u => by
                  have := firstOf_any (some ⟨bw, ow, none⟩) nw cw D.wait k u.1 (HRO4.out.later u) hlt
                  rw [HBF.out] at this
                  exact this
                have HFO := Lib.hid hfo
                clear hfo hro4 d0 d1 d2 d3 p0 p1 p2
                try go_wp2_with fail
                refine region_later (by kernel_rfl) (by kernel_rfl) ?_
                repeat (go_big_quiet_step ((go_at_call 125; exact later_call _ (HFO.out _))))
                refine wpQuiet_nil ?_
                rintro _ ⟨u, rfl⟩
                have HP5 := Lib.hid (HP4.out.below u.2)
                have HO5 := Lib.hid (HO4.out.below u.2)
                
                have hz9 := ZZ u
                obtain ⟨w5, hwm⟩ : ∃ w5 : World, u.1 = w5 := ⟨_, rfl⟩
                rw [hwm] at HP5 HO5 hz9 ⊢
                clear HZZ
                have HZZ := Lib.hid hz9
                clear hz9 hwm ZZ L1 P0 HFO HRO4 HP4 HO4
                go_wp2_with fail
                go_roundw
                case rel => exact ⟨k + 1, by omega, by go_num, HP5.out, snoc_no HNO.out (by rw [wound_eq HO.out, HBF.out, HWY.out, HHD.out]; simpa using hx)⟩
                case measure => simp [intOf]; omega
          · have hdn : ∀ j, j < D.wait.length → woundB D j = false := fun j hj => HNO.out j (by have := H2.out; omega)
            have HDN := Lib.hid hdn
            clear hdn HNO
            have hwt := waits_any B _ D wr hP.desk (show D.locks.length ≤ 9000 by have := H3.out; omega) (show D.wait.length ≤ 9000 by have := H2.out; omega)
            simp only [DV.val] at hwt
            have HWT := Lib.hid hwt
            obtain ⟨CS, hCS⟩ : ∃ C, cycT (waitsR D) = C := ⟨_, rfl⟩
            obtain ⟨q, hq⟩ : ∃ q, CS.length = q := ⟨_, rfl⟩
            have HCS := Lib.hid hCS
            have HQ := Lib.hid hq
            have hq4 : q ≤ 4 := by rw [← hq, ← hCS]; exact cyc_len (waitsR_ok D) (waits_diag D)
            clear hwt hCS hq hP
            go_wp2_with (first
              | (go_at_call 63; go_loud (refine HWT.out.mono ?_; rintro e w4 ⟨G, gc, rfl, hG, hb4⟩; have HP4 := Lib.hid (HP.out.below hb4); have hcy := cycle_any (waitsR D) (waitsR_ok D) G gc w4 hG; rw [HCS.out] at hcy; have HCY := Lib.hid hcy; clear hcy hG hb4 HP HWT))
              | (go_at_call 128; go_loud (refine HCY.out.mono ?_; rintro e w5 ⟨CA, cc, rfl, hcc, hrc, hb5⟩; rw [HQ.out] at hcc hrc ⊢; have HP5 := Lib.hid (HP4.out.below hb5); have HRC := Lib.hid hrc; clear hrc hb5 HP4 b0 b1 b2 b3; obtain ⟨d0, d1, d2, d3⟩ := HP5.out.box.cells; simp only at d0 d1 d2 d3; have hR0 := HP5.out.res; obtain ⟨y0, y1, y2, y3⟩ := hR0.cells; unfold DV.nil at y0 y1 y2 y3; simp only at y0 y1 y2 y3; have s0 := hR0.soft 0; have s1 := hR0.soft 1; have s2 := hR0.soft 2; have s3 := hR0.soft 3; have hF := HP5.out.outSame; simp only [putDesk] at hF; have HF := Lib.hid hF; clear hF hR0)))
            obtain ⟨d0, d1, d2, d3⟩ := HF.out.2.2.cells
            simp only at d0 d1 d2 d3
            refine bodyPost_ret (v := .agg #[.slice Ad nd cd, .slice Aw nw cw, .slice Al nl cl, .slice Ak nk ck]) (by simp [results, Try.results92, go_sem, d0, d1, d2, d3]) rfl ?_
            refine ⟨⟨.slice Ad nd cd, .slice Aw nw cw, .slice Al nl cl, .slice Ak nk ck⟩, rfl, ?_, HF.out.2.1⟩
            have e2 : settleD .wound D = D := settle_none (next_wound_no HFR.out HDN.out)
            rw [e2]
            exact HF.out.1
end Go.Proofs.Ytncebpmckbcabaa
