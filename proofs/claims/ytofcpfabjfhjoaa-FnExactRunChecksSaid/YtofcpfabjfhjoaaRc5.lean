/-
  runChecks of the reference: the walk, joined.
-/
import Derived.Test.YtofcpfabjfhjoaaRc4
namespace Go.Proofs.Ytofcpfabjfhjoaa
open Go.RowKit Go.BigFrame
set_option linter.unusedVariables false

set_option maxRecDepth 100000 in
set_option maxHeartbeats 8000000 in
theorem runChecks_any (A : Option Addr) (n c : Nat) (s : List OpV) (w : World) (hx : ROps w A n s) (hn12 : n ≤ 12) (hv : validS s = true) :
    Calls Try.prog 99 #[.slice A n c] w (RetOI w (rcTo s s.length).1 (rcTo s s.length).2.1) := by
  have hn := hx.2.1
  have hl := hx.1
  have HX := Lib.hid hx
  have HV := Lib.hid hv
  clear hx hv
  obtain ⟨Wa, hWa⟩ : ∃ Wa : World, Wa = ((w.alloc (.cells #[] 46)).alloc (.cells #[] 3)).alloc (.cells #[] 46) := ⟨_, rfl⟩
  have hown1 : Wa.ownsRow w.heap.size 46 3 (.slice (some ⟨w.heap.size, 0, none⟩) 0 0) 0 (opCells []) := by
    rw [hWa]; exact ((World.ownsRow_made w #[] 0 (Nat.le_refl _) (by decide) rfl).alloc _).alloc _
  have hown2 : Wa.ownsRow w.heap.size 3 1 (.slice (some ⟨w.heap.size + 1, 0, none⟩) 0 0) 0 (intCells []) := by
    have := (World.ownsRow_made (base := w.heap.size) (e := 3) (size := 1) (w.alloc (.cells #[] 46)) #[] 0 (by simp) (by decide) rfl).alloc (.cells #[] 46)
    rw [hWa]
    show World.ownsRow _ _ _ _ _ _ []
    simpa using this
  have hown3 : Wa.ownsRow w.heap.size 46 3 (.slice (some ⟨w.heap.size + 2, 0, none⟩) 0 0) 0 (opCells []) := by
    have := (World.ownsRow_made (base := w.heap.size) (e := 46) (size := 3) ((w.alloc (.cells #[] 46)).alloc (.cells #[] 3)) #[] 0 (by simp <;> omega) (by decide) rfl)
    rw [hWa]
    show World.ownsRow _ _ _ _ _ _ []
    simpa using this
  have hba : Below w.heap.size w Wa := by
    rw [hWa]
    exact (((Below.refl _ w).alloc (Nat.le_refl _) _).alloc (by simp) _).alloc (by simp <;> omega) _
  have HI0 : Hid (RcS w (rcTo s 0).1 (rcTo s 0).2.1 (rcTo s 0).2.2 (.slice (some ⟨w.heap.size, 0, none⟩) 0 0) (.slice (some ⟨w.heap.size + 1, 0, none⟩) 0 0) (.slice (some ⟨w.heap.size + 2, 0, none⟩) 0 0) 0 0 0 Wa) :=
    ⟨hba, hown1, hown2, hown3, fun b hb e => by simp [Value.ownBlock] at hb e; omega⟩
  have HWa := Lib.hid hWa
  clear hown1 hown2 hown3 hba hWa
  go_enter Try.func99, Try.ntmps99
  go_wp2_with fail
  rw [← HWa.out]
  go_loopw [4, 5, 6, 7] (fun dv kv cv i wr => ∃ (k nd nk nc : Nat), k ≤ n ∧ nd ≤ 14 * k ∧ nk ≤ k ∧ nc ≤ k ∧ i = .int .i64 k ∧ RcS w (rcTo s k).1 (rcTo s k).2.1 (rcTo s k).2.2 dv kv cv nd nk nc wr) (fun _ _ _ i _ => n - (intOf i).toNat)
  case atStart => exact ⟨0, 0, 0, 0, Nat.zero_le _, by omega, by omega, by omega, rfl, HI0.out⟩
  case round =>
    clear HI0 HWa
    obtain ⟨wo, rfl⟩ : ∃ wo : World, wo = wr := ⟨_, rfl⟩
    obtain ⟨dv, rfl⟩ : ∃ z : Value, z = u4 := ⟨_, rfl⟩
    obtain ⟨kv, rfl⟩ : ∃ z : Value, z = u5 := ⟨_, rfl⟩
    obtain ⟨cv, rfl⟩ : ∃ z : Value, z = u6 := ⟨_, rfl⟩
    obtain ⟨k, nd, nk, nc, hk, hnd, hnk, hnc, rfl, hI⟩ := hrel
    by_cases hlt : k < n
    · have hxr := HX.out.below hI.below (Nat.le_refl _)
      obtain ⟨b, off, o, hA, hbl, ho, c0, c1, c2⟩ := hxr.at_ hlt
      subst hA
      have hom := List.mem_of_getElem? ho
      have hkd := ((validS_iff s).1 HV.out).2.1 o hom
      have hstep := rcTo_succ ho
      have hCit := rcTo_items s k
      generalize hst : rcTo s k = st at *
      obtain ⟨D, K, C⟩ := st
      simp only at hI hCit
      have hse := hI.below.size
      have HI := Lib.hid hI
      have HXR := Lib.hid hxr
      have HO := Lib.hid ho
      clear hxr ho hom hI
      obtain ⟨tx, kd, it⟩ := o
      simp only at c0 c1 c2 hkd
      have hki : (k : Int) < (n : Int) := by omega
      have hk0 : (0 : Int) ≤ (k : Int) := by omega
      obtain ⟨W, hW⟩ : ∃ W : World, W = wo.alloc (.cells #[.int .i64 tx, .int .i64 kd, .int .i64 it] 46) := ⟨_, rfl⟩
      obtain ⟨L0, L1, L2, hbW, hWs⟩ := op_box hW
      have x0 := L0 ⟨W, Below.refl _ _⟩
      have x1 := L1 ⟨W, Below.refl _ _⟩
      have x2 := L2 ⟨W, Below.refl _ _⟩
      simp only at x0 x1 x2
      have hIW := HI.out.later hbW
      have HIW := Lib.hid hIW
      have hWsz := hIW.below.size
      have hdW := hIW.done
      have HW := Lib.hid hW
      have hdb8 : dv.ownBlock ≠ some wo.heap.size := own_lt HI.out.done (Nat.le_refl _)
      have hcb8 : cv.ownBlock ≠ some wo.heap.size := own_lt HI.out.comm (Nat.le_refl _)
      clear hW hIW
      have hkk : kd = 0 ∨ kd = 1 ∨ kd = 2 ∨ kd = 3 := by
        unfold validOp isAcc isEnd at hkd
        simp only [Bool.and_eq_true, Bool.or_eq_true, beq_iff_eq] at hkd
        rcases hkd.2 with ⟨h | h, _⟩ | ⟨h | h, _⟩ <;> omega
      clear hkd
      rcases hkk with rfl | rfl | rfl | rfl
      · have hst1 : rcTo s (k + 1) = (D ++ [⟨tx, 0, it⟩], K, C) := by rw [hstep]; unfold rcStep; simp
        have HS := Lib.hid hst1
        clear hst1 hstep
        obtain rfl := HW.out
        go_wp2_with (at_builtin; refine app_ops (.tmp 30) (.tmp 32) (hdW.alloc _) (by simp; omega) (ROps.litH (by simp) ⟨_, _, _⟩ _) (by omega) rfl rfl rfl rfl ?_; intro v5 w5 hown5 hg5 hat5; have hg5' := World.grownBy.trans (World.grownBy_alloc _ _ _) hg5; have hI5 := HIW.out.grownDone hg5' hown5 hat5 (by simp); have y1 := (hg5'.cell (a := ⟨wo.heap.size, 1, none⟩) x1 (fun e => hdb8 e.symm)); have HI5 := Lib.hid hI5; clear hI5)
        go_roundw
        case rel => exact ⟨k + 1, nd + 1, nk, nc, by omega, by omega, by omega, by omega, by go_num, by rw [HS.out]; exact HI5.out⟩
        case measure => simp [intOf]; omega
      · have hst1 : rcTo s (k + 1) = (D, K, C) := by rw [hstep]; unfold rcStep; simp
        have HS := Lib.hid hst1
        clear hst1 hstep
        go_wp2_with fail
        rw [← HW.out]
        go_wp2_with fail
        go_roundw
        case rel => exact ⟨k + 1, nd, nk, nc, by omega, by omega, by omega, by omega, by go_num, by rw [HS.out]; exact HIW.out⟩
        case measure => simp [intOf]; omega
      · obtain ⟨bb, hbb⟩ : ∃ z, rcBad s C k ⟨tx, 2, it⟩ = z := ⟨_, rfl⟩
        have hst1 : rcTo s (k + 1) = if bb then (D ++ [⟨tx, 3, 0⟩], K ++ [tx], C) else (D ++ rcWrites s k tx ++ [⟨tx, 2, it⟩], K, C ++ [⟨tx, 0, (k : Int)⟩]) := by
          rw [hstep]; unfold rcStep; simp [hbb]
        have HS := Lib.hid hst1
        have HBB := Lib.hid hbb
        clear hst1 hstep hbb
        obtain ⟨CA, cc, rfl, hcc⟩ := own_form2 HI.out.comm
        have hrC := ROps.of_own HIW.out.comm (by omega)
        have hlC : C.length = nc := hrC.1
        have HRC := Lib.hid hrC
        clear hrC
        go_wp2_with fail
        rw [← HW.out]
        go_wp2_with fail
        go_loopw [9, 10] (fun bv i wr => ∃ q : Nat, q ≤ nc ∧ i = .int .i64 q ∧ bv = .bool (rcBad s (C.take q) k ⟨tx, 2, it⟩) ∧ Below W.heap.size W wr) (fun _ i _ => nc - (intOf i).toNat)
        case atStart => exact ⟨0, Nat.zero_le _, rfl, rfl, Below.refl _ _⟩
        case round =>
          obtain ⟨wq, rfl⟩ : ∃ wq : World, wq = wr := ⟨_, rfl⟩
          obtain ⟨q, hq, rfl, rfl, hbq⟩ := hrel
          by_cases hltq : q < nc
          · obtain ⟨bc, offc, cm, hAc, hblc, hcm, e0, e1, e2⟩ := (HRC.out.below hbq (Nat.le_refl _)).at_ hltq
            subst hAc
            obtain ⟨J, hJk, hJe⟩ := hCit cm (List.mem_of_getElem? hcm)
            have hsn := rcBad_snoc (s := s) (i := k) (o := ⟨tx, 2, it⟩) hcm
            obtain ⟨ct, ck, ci⟩ := cm
            simp only at hJe e0 e1 e2
            subst hJe
            obtain ⟨B0, hB0⟩ : ∃ z, rcBad s (C.take q) k ⟨tx, 2, it⟩ = z := ⟨_, rfl⟩
            rw [hB0] at hsn ⊢
            have HSN := Lib.hid hsn
            obtain ⟨W2, hW2⟩ : ∃ W : World, W = wq.alloc (.cells #[.int .i64 ct, .int .i64 ck, .int .i64 (J : Int)] 46) := ⟨_, rfl⟩
            obtain ⟨M0, M1, M2, hbW2, hWs2⟩ := op_box hW2
            have HW2 := Lib.hid hW2
            have HXW := Lib.hid (HXR.out.below (hbW.trans (hbq.mono hbW.size)) (Nat.le_refl _))
            have hbqW := hbq.trans (hbW2.mono hbq.size)
            clear hW2 hsn hcm hB0
            go_wp2_with fail
            rw [← HW2.out]
            clear e0 e1 e2
            try go_wp2_with fail
            go_loopw [9, 12] (fun bv i wr => ∃ x : Nat, x ≤ 3 ∧ i = .int .i64 x ∧ Below W2.heap.size W2 wr ∧ bv = .bool (B0 || rcUp s k ⟨tx, 2, it⟩ ⟨ct, ck, (J : Int)⟩ x)) (fun _ i _ => 3 - (intOf i).toNat)
            case atStart => exact ⟨0, Nat.zero_le _, rfl, Below.refl _ _, by simp [rcUp]⟩
            case round =>
              obtain ⟨wx, rfl⟩ : ∃ wx : World, wx = wr := ⟨_, rfl⟩
              obtain ⟨x, hx3, rfl, hbx, rfl⟩ := hrel
              by_cases hltx : x < 3
              · have hdx : decide ((x : Int) < 3) = true := by simp; omega
                have hup : (B0 || rcUp s k ⟨tx, 2, it⟩ ⟨ct, ck, (J : Int)⟩ (x + 1)) = ((B0 || rcUp s k ⟨tx, 2, it⟩ ⟨ct, ck, (J : Int)⟩ x) || rcHit s k ⟨tx, 2, it⟩ ⟨ct, ck, (J : Int)⟩ (x : Int)) := by
                  simp only [rcUp]; rw [Bool.or_assoc]
                obtain ⟨bp, hbp⟩ : ∃ z, (B0 || rcUp s k ⟨tx, 2, it⟩ ⟨ct, ck, (J : Int)⟩ x) = z := ⟨_, rfl⟩
                rw [hbp] at hup ⊢
                obtain ⟨St, hSt⟩ : ∃ z, stampN s tx = z := ⟨_, rfl⟩
                obtain ⟨b1, hb1⟩ : ∃ z, decide (St < J) = z := ⟨_, rfl⟩
                obtain ⟨b2, hb2⟩ : ∃ z, touchB s k tx 0 (x : Int) = z := ⟨_, rfl⟩
                obtain ⟨b3, hb3⟩ : ∃ z, touchB s J ct 1 (x : Int) = z := ⟨_, rfl⟩
                have hb1' : decide ((St : Int) < (J : Int)) = b1 := by rw [← hb1]; exact decide_eq_decide.2 (by omega)
                have hhit : rcHit s k ⟨tx, 2, it⟩ ⟨ct, ck, (J : Int)⟩ (x : Int) = (b1 && b2 && b3) := by
                  unfold rcHit
                  simp only [Int.toNat_natCast]
                  rw [hSt, hb1', hb2, hb3]
                rw [hhit] at hup
                have HU := Lib.hid hup
                have hXx := HXW.out.below (hbW2.trans (hbx.mono hbW2.size)) (Nat.le_refl _)
                have hT0 : ∀ u : Later wx, Calls Try.prog 123 #[.slice (some ⟨b, off, none⟩) n c, .int .i64 tx] u.1 fun e w' => e = .returned (.int .i64 (St : Nat)) ∧ Below u.1.heap.size u.1 w' := fun u => by
                  have := stampOf_any (some ⟨b, off, none⟩) n c s tx u.1 (hXx.later u); rw [hSt] at this; exact this
                have hT1 : ∀ (u : Later wx) (j : Nat) (t kd : Int), j ≤ n → Calls Try.prog 132 #[.slice (some ⟨b, off, none⟩) n c, .int .i64 (j : Int), .int .i64 t, .int .i64 kd, .int .i64 (x : Int)] u.1 fun e w' => e = .returned (.bool (touchB s j t kd (x : Int))) ∧ Below u.1.heap.size u.1 w' := fun u j t kd hj =>
                  touches_any (some ⟨b, off, none⟩) n c j s t kd (x : Int) u.1 (hXx.later u) hj
                have hJn : J ≤ n := by omega
                have HSt := Lib.hid hT0
                have HT1 := Lib.hid hT1
                have hbWx := hbqW.trans (hbx.mono hbqW.size)
                have P0 : ∀ u : Later wx, u.1.cell? ⟨wo.heap.size, 0, none⟩ = some (.int .i64 tx) := fun u => L0 ⟨u.1, hbWx.trans (u.2.mono hbWx.size)⟩
                have Q0 : ∀ u : Later wx, u.1.cell? ⟨wq.heap.size, 0, none⟩ = some (.int .i64 ct) := fun u => M0 ⟨u.1, hbx.trans (u.2.mono hbx.size)⟩
                have Q2 : ∀ u : Later wx, u.1.cell? ⟨wq.heap.size, 2, none⟩ = some (.int .i64 (J : Int)) := fun u => M2 ⟨u.1, hbx.trans (u.2.mono hbx.size)⟩
                clear hup hbp hSt hhit hXx hT0 hT1
                clear HI HIW HW HS HBB HRC HXR hWsz hse HSN HXW L0 L1 L2 M0 M1 M2 hbWx x0 x1 x2 hdb8 hcb8 hdW hCit
                cases bp
                · cases b1
                  · go_wp2_with fail
                    refine region_later (by kernel_rfl) (by kernel_rfl) ?_
                    repeat (go_big_quiet_step ((first | (go_at_call 123; exact later_call _ (HSt.out _)) | (go_at_call 132; refine later_call _ (HT1.out _ _ _ _ ?_); first | exact hk | exact hJn))))
                    refine wpQuiet_nil ?_
                    rintro _ ⟨u, rfl⟩
                    have hbu := hbx.trans (u.2.mono hbx.size)
                    go_wp2_with fail
                    go_roundw
                    case rel => exact ⟨x + 1, by omega, by go_num, hbu, by rw [HU.out]; first | rfl | simp⟩
                    case measure => simp [intOf]; omega
                  · cases b2
                    · go_wp2_with fail
                      refine region_later (by kernel_rfl) (by kernel_rfl) ?_
                      repeat (go_big_quiet_step ((first | (go_at_call 123; exact later_call _ (HSt.out _)) | (go_at_call 132; refine later_call _ (HT1.out _ _ _ _ ?_); first | exact hk | exact hJn))))
                      refine wpQuiet_nil ?_
                      rintro _ ⟨u, rfl⟩
                      have hbu := hbx.trans (u.2.mono hbx.size)
                      go_wp2_with fail
                      go_roundw
                      case rel => exact ⟨x + 1, by omega, by go_num, hbu, by rw [HU.out]; first | rfl | simp⟩
                      case measure => simp [intOf]; omega
                    · cases b3
                      · go_wp2_with fail
                        refine region_later (by kernel_rfl) (by kernel_rfl) ?_
                        repeat (go_big_quiet_step ((first | (go_at_call 123; exact later_call _ (HSt.out _)) | (go_at_call 132; refine later_call _ (HT1.out _ _ _ _ ?_); first | exact hk | exact hJn))))
                        refine wpQuiet_nil ?_
                        rintro _ ⟨u, rfl⟩
                        have hbu := hbx.trans (u.2.mono hbx.size)
                        go_wp2_with fail
                        go_roundw
                        case rel => exact ⟨x + 1, by omega, by go_num, hbu, by rw [HU.out]; first | rfl | simp⟩
                        case measure => simp [intOf]; omega
                      · go_wp2_with fail
                        refine region_later (by kernel_rfl) (by kernel_rfl) ?_
                        repeat (go_big_quiet_step ((first | (go_at_call 123; exact later_call _ (HSt.out _)) | (go_at_call 132; refine later_call _ (HT1.out _ _ _ _ ?_); first | exact hk | exact hJn))))
                        refine wpQuiet_nil ?_
                        rintro _ ⟨u, rfl⟩
                        have hbu := hbx.trans (u.2.mono hbx.size)
                        go_wp2_with fail
                        go_roundw
                        case rel => exact ⟨x + 1, by omega, by go_num, hbu, by rw [HU.out]; first | rfl | simp⟩
                        case measure => simp [intOf]; omega
                · go_wp2_with fail
                  refine region_later (by kernel_rfl) (by kernel_rfl) ?_
                  repeat (go_big_quiet_step ((first | (go_at_call 123; exact later_call _ (HSt.out _)) | (go_at_call 132; refine later_call _ (HT1.out _ _ _ _ ?_); first | exact hk | exact hJn))))
                  refine wpQuiet_nil ?_
                  rintro _ ⟨u, rfl⟩
                  have hbu := hbx.trans (u.2.mono hbx.size)
                  go_wp2_with fail
                  go_roundw
                  case rel => exact ⟨x + 1, by omega, by go_num, hbu, by rw [HU.out]; first | rfl | simp⟩
                  case measure => simp [intOf]; omega
              · have hfin : Hid ((B0 || rcUp s k ⟨tx, 2, it⟩ ⟨ct, ck, (J : Int)⟩ x) = rcBad s (C.take (q + 1)) k ⟨tx, 2, it⟩) := by
                  show _ = _
                  have : x = 3 := by omega
                  rw [this, rcUp_three, HSN.out]
                obtain ⟨bp, hbp⟩ : ∃ z, (B0 || rcUp s k ⟨tx, 2, it⟩ ⟨ct, ck, (J : Int)⟩ x) = z := ⟨_, rfl⟩
                rw [hbp] at hfin ⊢
                have hdx : decide ((x : Int) < 3) = false := by simp; omega
                clear hbp
                go_wp2_with fail
                go_roundw
                case rel => exact ⟨q + 1, by omega, by go_num, by rw [hfin.out], hbqW.trans (hbx.mono hbqW.size)⟩
                case measure => simp [intOf]; omega
          · have hfin : rcBad s (C.take q) k ⟨tx, 2, it⟩ = bb := by
              rw [List.take_of_length_le (by omega)]; exact HBB.out
            rw [hfin]
            clear hfin
            have hIq := HIW.out.later hbq
            have r0 := L0 ⟨wq, hbq⟩
            have r1 := L1 ⟨wq, hbq⟩
            have r2 := L2 ⟨wq, hbq⟩
            simp only at r0 r1 r2
            have hszq := hIq.below.size
            have hdoq := hIq.done
            have HIq := Lib.hid hIq
            have hb8l := block_lt_of_cell r0
            clear hIq
            cases bb
            · have HS1 := HS.out
              rw [if_neg (by simp)] at HS1
              have HS2 := Lib.hid HS1
              clear HS1 HS
              have hlc2 : nc ≤ k := hnc
              have hIq0 : RcS w (D ++ ((s.take 0).filter fun p => p.tx == tx && p.kind == 1)) K C dv kv (.slice CA nc cc) nd nk nc wq := by simpa using HIq.out
              have HQ0 := Lib.hid hIq0
              clear hIq0
              go_wp2_with fail
              go_loopw [4, 13] (fun dv' i wr => ∃ (p nd' : Nat), p ≤ k ∧ nd' ≤ nd + p ∧ i = .int .i64 p ∧ RcS w (D ++ ((s.take p).filter fun p => p.tx == tx && p.kind == 1)) K C dv' kv (.slice CA nc cc) nd' nk nc wr ∧ dv'.ownBlock ≠ some wo.heap.size ∧ wq.heap.size ≤ wr.heap.size ∧ wr.cell? ⟨wo.heap.size, 0, none⟩ = some (.int .i64 tx) ∧ wr.cell? ⟨wo.heap.size, 1, none⟩ = some (.int .i64 2) ∧ wr.cell? ⟨wo.heap.size, 2, none⟩ = some (.int .i64 it)) (fun _ i _ => k - (intOf i).toNat)
              case atStart => exact ⟨0, nd, Nat.zero_le _, by omega, rfl, HQ0.out, hdb8, Nat.le_refl _, r0, r1, r2⟩
              case round =>
                clear HQ0 r0 r1 r2 hdoq hdb8
                obtain ⟨wp, rfl⟩ : ∃ wp : World, wp = wr := ⟨_, rfl⟩
                obtain ⟨dv', rfl⟩ : ∃ z : Value, z = u4 := ⟨_, rfl⟩
                obtain ⟨p, nd', hp, hnd', rfl, hIp, hdb8, hszp, r0, r1, r2⟩ := hrel
                have hszw := hIp.below.size
                by_cases hltp : p < k
                · obtain ⟨b', off', e, hA', _, he, e0, e1, e2⟩ := (HX.out.below hIp.below (Nat.le_refl _)).at_ (k := p) (by omega)
                  injection hA' with hA'; injection hA' with q1 q2 _; subst q1; subst q2
                  have hfs : (s.take (p + 1)).filter (fun p => p.tx == tx && p.kind == 1) = (s.take p).filter (fun p => p.tx == tx && p.kind == 1) ++ if (e.tx == tx && e.kind == 1) then [e] else [] := by
                    rw [take_snoc he, List.filter_append, List.filter_cons, List.filter_nil]
                  obtain ⟨et, ek, ei⟩ := e
                  simp only at e0 e1 e2 hfs
                  obtain ⟨b1, hb1⟩ : ∃ z, (et == tx) = z := ⟨_, rfl⟩
                  obtain ⟨b2, hb2⟩ : ∃ z, (ek == 1) = z := ⟨_, rfl⟩
                  rw [hb1, hb2] at hfs
                  have HF := Lib.hid hfs
                  have HIp := Lib.hid hIp
                  have E0 := Later.cell e0
                  have E1 := Later.cell e1
                  have E2 := Later.cell e2
                  have R0 := Later.cell r0
                  have R1 := Later.cell r1
                  have R2 := Later.cell r2
                  have hpn : (p : Int) < (n : Int) := by omega
                  have hp0 : (0 : Int) ≤ (p : Int) := by omega
                  have hpk : decide (p < k) = true := by simp; omega
                  clear hfs he hIp e0 e1 e2 r0 r1 r2
                  cases b1
                  · go_wp2_with fail
                    refine region_later (by kernel_rfl) (by kernel_rfl) ?_
                    repeat (go_big_quiet_step (fail))
                    refine wpQuiet_nil ?_
                    rintro _ ⟨u, rfl⟩
                    have hus := u.2.size
                    go_wp2_with fail
                    go_roundw
                    case rel => exact ⟨p + 1, nd', by omega, by omega, by go_num, by rw [HF.out]; simpa using HIp.out.later u.2, hdb8, by omega, R0 u, R1 u, R2 u⟩
                    case measure => simp [intOf]; omega
                  · cases b2
                    · go_wp2_with fail
                      refine region_later (by kernel_rfl) (by kernel_rfl) ?_
                      repeat (go_big_quiet_step (fail))
                      refine wpQuiet_nil ?_
                      rintro _ ⟨u, rfl⟩
                      have hus := u.2.size
                      go_wp2_with fail
                      go_roundw
                      case rel => exact ⟨p + 1, nd', by omega, by omega, by go_num, by rw [HF.out]; simpa using HIp.out.later u.2, hdb8, by omega, R0 u, R1 u, R2 u⟩
                      case measure => simp [intOf]; omega
                    · go_wp2_with fail
                      refine region_later (by kernel_rfl) (by kernel_rfl) ?_
                      repeat (go_big_quiet_step (fail))
                      refine wpQuiet_nil ?_
                      rintro _ ⟨u, rfl⟩
                      have hIu := HIp.out.later u.2
                      have hdou := hIu.done
                      have HIu := Lib.hid hIu
                      have f0 := E0 u
                      have f1 := E1 u
                      have f2 := E2 u
                      have g0 := R0 u
                      have g1 := R1 u
                      have g2 := R2 u
                      obtain ⟨ui, hui⟩ : ∃ ui : World, u.1 = ui := ⟨_, rfl⟩
                      have hus := u.2.size
                      rw [hui] at hdou HIu f0 f1 f2 g0 g1 g2 hus
                      rw [hui]
                      have hszu := HIu.out.below.size
                      clear hui E0 E1 E2 R0 R1 R2 hIu
                      go_wp2_with (at_builtin; refine app_ops (.tmp 118) (.tmp 123) (hdou.alloc _) (by simp; omega) (ROps.lit1 _ ⟨_, _, _⟩ _) (by omega) rfl rfl rfl rfl ?_; intro v6 w6 hown6 hg6 hat6)
                      have hg6' := World.grownBy.trans (World.grownBy_alloc ui _ _) hg6
                      have hI6 := HIu.out.grownDone hg6' hown6 hat6 (by simp)
                      have hs6 := hg6'.size
                      go_roundw
                      case rel => exact ⟨p + 1, nd' + 1, by omega, by omega, by go_num, by rw [HF.out, if_pos (by first | rfl | trivial), ← List.append_assoc]; exact hI6, nb_app hdb8 hat6 (by have := block_lt_of_cell g0; simp; omega), by omega, hg6'.cell (a := ⟨wo.heap.size, 0, none⟩) g0 (fun e => hdb8 e.symm), hg6'.cell (a := ⟨wo.heap.size, 1, none⟩) g1 (fun e => hdb8 e.symm), hg6'.cell (a := ⟨wo.heap.size, 2, none⟩) g2 (fun e => hdb8 e.symm)⟩
                      case measure => simp [intOf]; omega
                · have hdoq := hIp.done
                  have HIp := Lib.hid hIp
                  have ep : p = k := by omega
                  have hpk : decide (p < k) = false := by simp; omega
                  clear hIp
                  go_wp2_with (first
                    | (at_builtin; refine app_ops (.tmp 125) (.tmp 127) (hdoq.alloc _) (by simp; omega) (ROps.lit1 _ ⟨_, _, _⟩ _) (by omega) rfl rfl rfl rfl ?_; intro v6 w6 hown6 hg6 hat6; have hg6' := World.grownBy.trans (World.grownBy_alloc wp _ _) hg6; have hI6 := HIp.out.grownDone hg6' hown6 hat6 (by simp); have hcm6 := hI6.comm; have s0 := (hg6'.cell (a := ⟨wo.heap.size, 0, none⟩) r0 (fun e => hdb8 e.symm)); have hsz6 := hI6.below.size; have HI6 := Lib.hid hI6; clear hI6)
                    | (at_builtin; refine app_ops (.tmp 129) (.tmp 134) (hcm6.alloc _) (by simp; omega) (ROps.lit1 _ ⟨_, _, _⟩ _) (by omega) rfl rfl rfl rfl ?_; intro v7 w7 hown7 hg7 hat7))
                  have hg7' := World.grownBy.trans (World.grownBy_alloc w6 _ _) hg7
                  have hI7 := HI6.out.grownComm hg7' hown7 hat7 (by simp)
                  rw [ep] at hI7
                  go_roundw
                  case rel => exact ⟨k + 1, nd' + 1, nk, nc + 1, by omega, by omega, by omega, by omega, by go_num, by rw [HS2.out]; exact hI7⟩
                  case measure => simp [intOf]; omega
            · have HS1 := HS.out
              rw [if_pos (by first | rfl | trivial)] at HS1
              have HS2 := Lib.hid HS1
              clear HS1 HS
              go_wp2_with (first
                | (at_builtin; refine app_ops (.tmp 86) (.tmp 90) (hdoq.alloc _) (by simp; omega) (ROps.lit1 _ ⟨_, _, _⟩ _) (by omega) rfl rfl rfl rfl ?_; intro v6 w6 hown6 hg6 hat6; have hg6' := World.grownBy.trans (World.grownBy_alloc wq _ _) hg6; have hI6 := HIq.out.grownDone hg6' hown6 hat6 (by simp); have hka6 := hI6.dead; have s0 := (hg6'.cell (a := ⟨wo.heap.size, 0, none⟩) r0 (fun e => hdb8 e.symm)); have hsz6 := hI6.below.size; have HI6 := Lib.hid hI6; clear hI6)
                | (at_builtin; refine app_ints (.tmp 92) (.tmp 95) (hka6.alloc _) (by simp; omega) (lit1 rfl _) (by omega) rfl rfl rfl rfl ?_; intro v7 w7 hown7 hg7 hat7))
              have hg7' := World.grownBy.trans (World.grownBy_alloc w6 _ _) hg7
              have hI7 := HI6.out.grownDead hg7' hown7
              go_roundw
              case rel => exact ⟨k + 1, nd + 1, nk + 1, nc, by omega, by omega, by omega, by omega, by go_num, by rw [HS2.out]; exact hI7⟩
              case measure => simp [intOf]; omega
      · have hst1 : rcTo s (k + 1) = (D ++ [⟨tx, 3, it⟩], K, C) := by rw [hstep]; unfold rcStep; simp
        have HS := Lib.hid hst1
        clear hst1 hstep
        obtain rfl := HW.out
        go_wp2_with (at_builtin; refine app_ops (.tmp 37) (.tmp 39) (hdW.alloc _) (by simp; omega) (ROps.litH (by simp) ⟨_, _, _⟩ _) (by omega) rfl rfl rfl rfl ?_; intro v5 w5 hown5 hg5 hat5; have hg5' := World.grownBy.trans (World.grownBy_alloc _ _ _) hg5; have hI5 := HIW.out.grownDone hg5' hown5 hat5 (by simp); have y1 := (hg5'.cell (a := ⟨wo.heap.size, 1, none⟩) x1 (fun e => hdb8 e.symm)); have HI5 := Lib.hid hI5; clear hI5)
        go_roundw
        case rel => exact ⟨k + 1, nd + 1, nk, nc, by omega, by omega, by omega, by omega, by go_num, by rw [HS.out]; exact HI5.out⟩
        case measure => simp [intOf]; omega
    · have e : k = s.length := by omega
      obtain ⟨DA, dc, rfl, hdc⟩ := own_form2 hI.done
      obtain ⟨KA, kc, rfl, hkc⟩ := own_form2 hI.dead
      rw [e] at hI
      have HO := Lib.hid (RetOI.mk (own_lenOps hI.done) (own_lenInts hI.dead) hdc hkc (FreshOps.of_own hI.done (Nat.le_refl _) (by omega)) (FreshInts.of_own hI.dead (Nat.le_refl _) (by omega)) hI.below)
      clear hI e
      go_wp2_with fail
      go_ret2
      exact HO.out
end Go.Proofs.Ytofcpfabjfhjoaa
