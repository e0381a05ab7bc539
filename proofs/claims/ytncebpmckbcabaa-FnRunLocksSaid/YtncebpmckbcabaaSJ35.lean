/-
  Texts that the proof rests on, joined: part 35.
-/
import Derived.ScopeJumps
import Derived.Test.YtncebpmckbcabaaSJ33
import Derived.Test.YtncebpmckbcabaaSJ34
namespace Go.Proofs.Ytncebpmckbcabaa
open Go.RowKit Go.BigFrame
set_option linter.unusedVariables false

set_option maxRecDepth 100000 in
set_option maxHeartbeats 8000000 in
theorem settle_run (r : Rul) (N : Nat) (hN : N ≤ 1000) (B R tg : Nat) (V : DV) (D : Dsk) (w : World) (h : RunAt w B R tg (mannerV r) V D) (hg : Fair N D) :
    Calls Try.prog 96 #[.pointer (some ⟨R, 0, none⟩)] w fun e w' => RPost B R tg (mannerV r) V w (settleD r D) e w' ∧ Fair N (settleD r D) := by
  go_enter Try.func96, Try.ntmps96
  refine wp_scope_jumps 0 (fun a' w' => ∃ (u1 u2 u3 u4 u5 u6 u7 u8 u9 u10 u11 u12 u13 u14 u15 u16 u17 u18 u19 u20 u21 u22 u23 u24 u25 u26 u27 u28 u29 u30 u31 u32 u33 u34 u35 u36 u37 u38 u39 u40 u41 u42 u43 u44 u45 u46 u47 u48 u49 : Value) (V' : DV) (D' : Dsk), a' = { tmps := #[.pointer (some ⟨R, 0, none⟩), u1, u2, u3, u4, u5, u6, u7, u8, u9, u10, u11, u12, u13, u14, u15, u16, u17, u18, u19, u20, u21, u22, u23, u24, u25, u26, u27, u28, u29, u30, u31, u32, u33, u34, u35, u36, u37, u38, u39, u40, u41, u42, u43, u44, u45, u46, u47, u48, u49], defers := [] } ∧ RunAt w' B R tg (mannerV r) V' D' ∧ RSt R tg w V w' V' ∧ Fair N D' ∧ settleD r D' = settleD r D) (fun _ w' => muW R tg w') rfl ?_ ?_
  · obtain ⟨Ad, Aw, Al, Ak, nd, n, nl, nk, cd, cw, cl, ck, hVe, hcs, f1, f2, f3, f4⟩ := h.forms
    have HH : Hid (∀ W, Below w.heap.size w W → RunAt W B R tg (mannerV r) ⟨.slice Ad nd cd, .slice Aw n cw, .slice Al nl cl, .slice Ak nk ck⟩ D) := fun W hW => by rw [← hVe]; exact h.lat hW
    have HX : Hid (∀ W, Below w.heap.size w W → ROps W Aw n D.wait) := fun W hW => by
      have h1 := (h.lat hW).desk.waitN f2
      rw [hVe] at h1
      exact ROps.of_own h1 (by have := hg.lens hN; omega)
    have HG := Lib.hid hg
    have HN0 : Hid (D.wait.length = n) := f2
    have HLN := Lib.hid (hg.lens hN)
    have hn9 : n ≤ 1000 := by have := hg.lens hN; omega
    have hcw : n ≤ cw := hcs.2.1
    have HS : Hid (RSt R tg w V w ⟨.slice Ad nd cd, .slice Aw n cw, .slice Al nl cl, .slice Ak nk ck⟩) := by show RSt _ _ _ _ _ _; rw [← hVe]; exact RSt.refl _ _ _ _
    clear h hg hVe hcs f1 f2 f3 f4
    go_wp2_with fail
    go_step3
    have hhd := heads_run B R tg _ _ D w (HH.out w (Below.refl _ _)) HG.out.val (by have := HLN.out; omega)
    have HHD := Lib.hid hhd
    clear hhd
    go_wp2_with fail
    refine HHD.out.mono ?_
    rintro e w2 ⟨HA, hac, rfl, hhc, hfr, hb2⟩
    obtain ⟨q, hq⟩ : ∃ q, (headsL D.wait).length = q := ⟨_, rfl⟩
    have HQ := Lib.hid hq
    rw [hq] at hhc hfr ⊢
    have hq9 := hfr.1.2.1
    have HST : Hid (Below w.heap.size w w2 ∧ RInts w2 HA q (headsL D.wait)) := ⟨hb2, hfr.1⟩
    clear HHD hb2 hfr hq
    go_wp2_with fail
    go_loopw [9] (fun i wr => ∃ k : Nat, k ≤ q ∧ i = .int .i64 k ∧ Below w.heap.size w wr ∧ RInts wr HA q (headsL D.wait) ∧ ∀ j x, j < k → (headsL D.wait)[j]? = some x → freeB D x.toNat = false) (fun i _ => q - (intOf i).toNat)
    case atStart => exact ⟨0, Nat.zero_le _, rfl, HST.out.1, HST.out.2, fun j x hj => by omega⟩
    case round =>
      clear HST
      obtain ⟨wo, rfl⟩ : ∃ z : World, z = wr := ⟨_, rfl⟩
      obtain ⟨k, hk, rfl, hbo, hH, hno⟩ := hrel
      have hbs := hbo.size
      by_cases hlt0 : k < q
      · obtain ⟨bh, offh, x0, hHA, hbl, hx, ch⟩ := hH.at_ hlt0
        subst hHA
        obtain ⟨X, o, ho, hfx, rfl⟩ := mem_heads.1 (List.mem_of_getElem? hx)
        have hXn : X < n := by have := (List.getElem?_eq_some_iff.1 ho).1; have := HN0.out; omega
        obtain ⟨b, off, o', hA', hbl', ho', c0, c1, c2⟩ := (HX.out wo hbo).at_ hXn
        rw [ho] at ho'
        injection ho' with ho'
        subst ho'
        subst hA'
        have hvo := HG.out.val o (List.mem_of_getElem? ho)
        have hA := HH.out wo hbo
        have r1 : wo.cell? ⟨R, 1, none⟩ = some (.slice (some ⟨b, off, none⟩) n cw) := hA.cells.2.1
        have hfar := (HH.out w (Below.refl _ _)).far hbs
        obtain ⟨W, hW⟩ : ∃ W : World, W = wo.alloc (.cells #[.int .i64 o.tx, .int .i64 o.kind, .int .i64 o.item] 62) := ⟨_, rfl⟩
        have hbW : Below wo.heap.size wo W := by rw [hW]; exact (Below.refl _ _).alloc (Nat.le_refl _) _
        have hbx : RowIs W wo.heap.size 62 [.int .i64 o.tx, .int .i64 o.kind, .int .i64 o.item] := by rw [hW]; exact heap_alloc_new wo _
        have hbw := hbo.trans (hbW.mono hbs)
        have hiw := inWay_run B R tg _ _ D o W (HH.out W hbw) hvo HG.out.comp
        have hfe : freeB D X = (wayO D.locks o).isEmpty := by rw [free_eq ho, hfx, Bool.true_and]
        have hnx : freeB D X = true → nextD r D = some (grantD ⟨D.done, D.wait.take X ++ D.wait.drop (X + 1), D.locks, D.dead⟩ o) := fun hd => next_free r ho hd (fun j hj => heads_low hx hj (hf := fun p y hp hy => hno p y hp hy) (fun hfj => by unfold freeB; cases D.wait[j]? with | none => rfl | some p => simp only; rw [hfj]; rfl))
        have HW := Lib.hid hW
        have HBX := Lib.hid hbx
        have HIW := Lib.hid hiw
        have HNO := Lib.hid hno
        have HBW := Lib.hid hbw
        have HHL := Lib.hid (hH.below hbW (Nat.le_refl _))
        have HNXT := Lib.hid hnx
        have HXK := Lib.hid hx
        have HVO := Lib.hid hvo
        have HFE := Lib.hid hfe
        obtain ⟨L, hL⟩ : ∃ z, wayO D.locks o = z := ⟨_, rfl⟩
        rw [hL] at HIW HFE
        obtain ⟨tx, kd, it⟩ := o
        unfold OpV.val at HIW
        simp only at c0 c1 c2 HW HBX HIW
        have hki : (k : Int) < (q : Int) := by omega
        have hk0 : (0 : Int) ≤ (k : Int) := by omega
        have hXi : (X : Int) < (n : Int) := by omega
        have hX0 : (0 : Int) ≤ (X : Int) := by omega
        clear hbo hH hA hx ho hfx hvo hW hbx hbW hiw hno hnx hL hbw hfe
        go_wp2_with fail
        rw [← HW.out]
        refine HIW.out.mono ?_
        rintro e w4 ⟨WA, wc, rfl, hwc, hwf, hb4⟩
        obtain ⟨z, hz⟩ : ∃ z, L.length = z := ⟨_, rfl⟩
        have HZ := Lib.hid hz
        rw [hz] at hwc ⊢
        have hbw4 := HBW.out.trans (hb4.mono HBW.out.size)
        clear hwf hz c0 c1 c2 r1 ch
        by_cases hz0 : z = 0
        · subst hz0
          have HNX := Lib.hid (HNXT.out (by rw [HFE.out, List.isEmpty_iff]; exact List.length_eq_zero_iff.1 HZ.out))
          have hA4 := HH.out w4 hbw4
          have r1 : w4.cell? ⟨R, 1, none⟩ = some (.slice (some ⟨b, off, none⟩) n cw) := hA4.cells.2.1
          have hde := Delete_run B (some ⟨b, off, none⟩) n cw X D.wait w4 (hA4.desk.waitN HN0.out) (by omega) hXn
          have HDE := Lib.hid hde
          have HA4 := Lib.hid hA4
          have HB4 := Lib.hid hb4
          have HBW4 := Lib.hid hbw4
          have hXw : IntKind.i64.wrap ((X : Int) + 1) = (X : Int) + 1 := IntWalk.i64_in _ (by omega)
          clear hde hA4 hb4 hbw4
          go_wp2_with fail
          refine HDE.out.mono ?_
          rintro e w5 ⟨rfl, ho5, hg5⟩
          obtain ⟨⟨e0, e1⟩, hA5, hS5⟩ := HA4.out.growW hg5 ho5 (.inl rfl)
          have hbx5 := ((RSt.of_below R tg _ HB4.out).trans hS5).row HBX.out hfar.1 hfar.2.1 hfar.2.2
          have hfc := HG.out.next (HH.out w (Below.refl _ _)).ok HNX.out
          have hms := HG.out.less HNX.out
          have hse := HG.out.settle HNX.out
          obtain ⟨m2, hm2⟩ : ∃ z, (D.wait.take X ++ D.wait.drop (X + 1)).length = z := ⟨_, rfl⟩
          rw [hm2] at hA5 hS5 hbx5 ⊢
          simp only at e0
          obtain ⟨w6, hw6⟩ : ∃ w6 : World, w6 = w5.setCell ⟨R, 1, none⟩ (.slice (some ⟨b, off, none⟩) m2 cw) := ⟨_, rfl⟩
          rw [← hw6] at hA5 hS5 hbx5
          have hdo := do_run B R tg _ _ _ ⟨tx, kd, it⟩ w6 hA5 HVO.out (by have := HLN.out; simp only; omega) (by have := HLN.out; simp only; omega)
          unfold OpV.val at hdo
          simp only at hdo
          obtain ⟨q0, q1, q2⟩ : w6.cell? ⟨wo.heap.size, 0, none⟩ = some (.int .i64 tx) ∧ w6.cell? ⟨wo.heap.size, 1, none⟩ = some (.int .i64 kd) ∧ w6.cell? ⟨wo.heap.size, 2, none⟩ = some (.int .i64 it) := ⟨RowIs.cell hbx5 rfl, RowIs.cell hbx5 rfl, RowIs.cell hbx5 rfl⟩
          obtain ⟨D2, hD2⟩ : ∃ z, grantD ⟨D.done, D.wait.take X ++ D.wait.drop (X + 1), D.locks, D.dead⟩ ⟨tx, kd, it⟩ = z := ⟨_, rfl⟩
          rw [hD2] at hfc hms hse hdo
          have HDO := Lib.hid hdo
          have HS6 : Hid (RSt R tg w V w6 _) := (HS.out.trans (RSt.of_below R tg _ HBW4.out)).trans hS5
          have HFC := Lib.hid hfc
          have HMS := Lib.hid hms
          have HSE := Lib.hid hse
          have HW6 := Lib.hid hw6
          rw [hw6] at q0 q1 q2
          clear hdo hA5 hS5 hbx5 hfc hms hse hD2 hw6 ho5 hg5 hm2 HNX
          go_wp2_with fail
          rw [← HW6.out]
          refine HDO.out.mono ?_
          rintro e w7 ⟨rfl, V7, hA7, hS7⟩
          have HA7 := Lib.hid hA7
          have HS7 := Lib.hid (HS6.out.trans hS7)
          clear hA7 hS7 q0 q1 q2 e0 e1
          go_wp2_with fail
          go_step3
          exact ⟨rfl, _, _, _, _, _, _, _, _, _, _, _, _, _, _, _, _, _, _, _, _, _, _, _, _, _, _, _, _, _, _, _, _, _, _, _, _, _, _, _, _, _, _, _, _, _, _, _, _, _, V7, _, rfl, HA7.out, HS7.out, HFC.out, HSE.out.symm⟩
        · have HNF : Hid (freeB D X = false) := by
            show _ = _
            rw [HFE.out]
            cases hq : L with
            | nil => have := HZ.out; rw [hq] at this; simp at this; omega
            | cons a r => rfl
          have hzb : ((z : Int) == 0) = false := by simp; omega
          have HB4 := Lib.hid hbw4
          have HH4 := Lib.hid (HHL.out.below hb4 (Nat.le_refl _))
          clear hb4 hbw4
          go_wp2_with fail
          go_roundw
          case rel => exact ⟨k + 1, by omega, by go_num, HB4.out, HH4.out, fun j y hj hy => by
            by_cases e : j = k
            · subst e
              rw [HXK.out] at hy
              injection hy with hy
              subst hy
              rw [Int.toNat_natCast]
              exact HNF.out
            · exact HNO.out j y (by omega) hy⟩
          case measure => simp [intOf]; omega
      · obtain rfl : k = q := by omega
        have hfa : ∀ j, j < D.wait.length → freeB D j = false := fun j hj => heads_all HQ.out (hf := fun p y hp hy => hno p y hp hy) hj (fun hfj => by unfold freeB; cases D.wait[j]? with | none => rfl | some p => simp only; rw [hfj]; rfl)
        have hvc := victim_run r B R tg _ D wo (HH.out wo hbo) HG.out.val HG.out.comp (by have := HLN.out; omega) hfa
        have HVC := Lib.hid hvc
        have HBO := Lib.hid hbo
        clear hbo hH hno hvc hfa
        go_wp2_with fail
        refine HVC.out.mono ?_
        rintro e w3 ⟨v, rfl, hb3, hvi⟩
        have HB3 := Lib.hid (HBO.out.trans (hb3.mono HBO.out.size))
        have HVI := Lib.hid hvi
        clear hb3 hvi HVC
        by_cases hv0 : 0 ≤ v
        · have hvd : decide (0 ≤ v) = true := by simpa using hv0
          obtain ⟨T, rfl⟩ := Int.eq_ofNat_of_zero_le hv0
          have hvi : (T : Int) ≤ 3 ∧ nextD r D = some (killD D (T : Int)) := by
            rcases HVI.out with ⟨h1, _⟩ | ⟨_, h2, h3⟩
            · omega
            · exact ⟨h2, h3⟩
          have hT3 : T ≤ 3 := by omega
          have HFC := Lib.hid (HG.out.next (HH.out w (Below.refl _ _)).ok hvi.2)
          have HMS := Lib.hid (HG.out.less hvi.2)
          have HSE := Lib.hid (HG.out.settle hvi.2)
          have hab := abort_run B R tg _ _ D T w3 (HH.out w3 HB3.out) hT3 (by have := HLN.out; omega) (by have := HLN.out; omega)
          have HAB := Lib.hid hab
          clear hab hvi
          go_wp2_with fail
          refine HAB.out.mono ?_
          rintro e w7 ⟨rfl, V7, hA7, hS7⟩
          have HA7 := Lib.hid hA7
          have HS7 := Lib.hid ((HS.out.trans (RSt.of_below R tg _ HB3.out)).trans hS7)
          clear hA7 hS7
          go_wp2_with fail
          go_step3
          exact ⟨rfl, _, _, _, _, _, _, _, _, _, _, _, _, _, _, _, _, _, _, _, _, _, _, _, _, _, _, _, _, _, _, _, _, _, _, _, _, _, _, _, _, _, _, _, _, _, _, _, _, _, V7, _, rfl, HA7.out, HS7.out, HFC.out, HSE.out.symm⟩
        · have hvd : decide (0 ≤ v) = false := by simpa using hv0
          have hnn : nextD r D = none := by
            rcases HVI.out with ⟨_, h⟩ | ⟨h, _⟩
            · exact h
            · omega
          have HNN := Lib.hid (settle_none hnn)
          have HAF := Lib.hid (HH.out w3 HB3.out)
          have HSF := Lib.hid (HS.out.trans (RSt.of_below R tg _ HB3.out))
          clear hnn
          go_wp2_with fail
          simp only [Exit.jump]
          go_end0
          exact ⟨⟨rfl, _, by rw [HNN.out]; exact HAF.out, HSF.out⟩, by rw [HNN.out]; exact HG.out⟩
  · rintro a' wp ⟨u1, u2, u3, u4, u5, u6, u7, u8, u9, u10, u11, u12, u13, u14, u15, u16, u17, u18, u19, u20, u21, u22, u23, u24, u25, u26, u27, u28, u29, u30, u31, u32, u33, u34, u35, u36, u37, u38, u39, u40, u41, u42, u43, u44, u45, u46, u47, u48, u49, Vp, Dp, rfl, hAp, hSp, hg, hEp⟩
    obtain ⟨Ad, Aw, Al, Ak, nd, n, nl, nk, cd, cw, cl, ck, hVe, hcs, f1, f2, f3, f4⟩ := hAp.forms
    have HH : Hid (∀ W, Below wp.heap.size wp W → RunAt W B R tg (mannerV r) ⟨.slice Ad nd cd, .slice Aw n cw, .slice Al nl cl, .slice Ak nk ck⟩ Dp) := fun W hW => by rw [← hVe]; exact hAp.lat hW
    have HX : Hid (∀ W, Below wp.heap.size wp W → ROps W Aw n Dp.wait) := fun W hW => by
      have h1 := (hAp.lat hW).desk.waitN f2
      rw [hVe] at h1
      exact ROps.of_own h1 (by have := hg.lens hN; omega)
    have HG := Lib.hid hg
    have HN0 : Hid (Dp.wait.length = n) := f2
    have HLN := Lib.hid (hg.lens hN)
    have hn9 : n ≤ 1000 := by have := hg.lens hN; omega
    have hcw : n ≤ cw := hcs.2.1
    have HE := Lib.hid hEp
    have HMU := Lib.hid hAp.mu
    have HS : Hid (RSt R tg w V wp ⟨.slice Ad nd cd, .slice Aw n cw, .slice Al nl cl, .slice Ak nk ck⟩) := by show RSt _ _ _ _ _ _; rw [← hVe]; exact hSp
    clear h hg hVe hcs f1 f2 f3 f4 hAp hSp hEp
    have hhd := heads_run B R tg _ _ Dp wp (HH.out wp (Below.refl _ _)) HG.out.val (by have := HLN.out; omega)
    have HHD := Lib.hid hhd
    clear hhd
    go_wp2_with fail
    refine HHD.out.mono ?_
    rintro e w2 ⟨HA, hac, rfl, hhc, hfr, hb2⟩
    obtain ⟨q, hq⟩ : ∃ q, (headsL Dp.wait).length = q := ⟨_, rfl⟩
    have HQ := Lib.hid hq
    rw [hq] at hhc hfr ⊢
    have hq9 := hfr.1.2.1
    have HST : Hid (Below wp.heap.size wp w2 ∧ RInts w2 HA q (headsL Dp.wait)) := ⟨hb2, hfr.1⟩
    clear HHD hb2 hfr hq
    go_wp2_with fail
    go_loopw [9] (fun i wr => ∃ k : Nat, k ≤ q ∧ i = .int .i64 k ∧ Below wp.heap.size wp wr ∧ RInts wr HA q (headsL Dp.wait) ∧ ∀ j x, j < k → (headsL Dp.wait)[j]? = some x → freeB Dp x.toNat = false) (fun i _ => q - (intOf i).toNat)
    case atStart => exact ⟨0, Nat.zero_le _, rfl, HST.out.1, HST.out.2, fun j x hj => by omega⟩
    case round =>
      clear HST
      obtain ⟨wo, rfl⟩ : ∃ z : World, z = wr := ⟨_, rfl⟩
      obtain ⟨k, hk, rfl, hbo, hH, hno⟩ := hrel
      have hbs := hbo.size
      by_cases hlt0 : k < q
      · obtain ⟨bh, offh, x0, hHA, hbl, hx, ch⟩ := hH.at_ hlt0
        subst hHA
        obtain ⟨X, o, ho, hfx, rfl⟩ := mem_heads.1 (List.mem_of_getElem? hx)
        have hXn : X < n := by have := (List.getElem?_eq_some_iff.1 ho).1; have := HN0.out; omega
        obtain ⟨b, off, o', hA', hbl', ho', c0, c1, c2⟩ := (HX.out wo hbo).at_ hXn
        rw [ho] at ho'
        injection ho' with ho'
        subst ho'
        subst hA'
        have hvo := HG.out.val o (List.mem_of_getElem? ho)
        have hA := HH.out wo hbo
        have r1 : wo.cell? ⟨R, 1, none⟩ = some (.slice (some ⟨b, off, none⟩) n cw) := hA.cells.2.1
        have hfar := (HH.out wp (Below.refl _ _)).far hbs
        obtain ⟨W, hW⟩ : ∃ W : World, W = wo.alloc (.cells #[.int .i64 o.tx, .int .i64 o.kind, .int .i64 o.item] 62) := ⟨_, rfl⟩
        have hbW : Below wo.heap.size wo W := by rw [hW]; exact (Below.refl _ _).alloc (Nat.le_refl _) _
        have hbx : RowIs W wo.heap.size 62 [.int .i64 o.tx, .int .i64 o.kind, .int .i64 o.item] := by rw [hW]; exact heap_alloc_new wo _
        have hbw := hbo.trans (hbW.mono hbs)
        have hiw := inWay_run B R tg _ _ Dp o W (HH.out W hbw) hvo HG.out.comp
        have hfe : freeB Dp X = (wayO Dp.locks o).isEmpty := by rw [free_eq ho, hfx, Bool.true_and]
        have hnx : freeB Dp X = true → nextD r Dp = some (grantD ⟨Dp.done, Dp.wait.take X ++ Dp.wait.drop (X + 1), Dp.locks, Dp.dead⟩ o) := fun hd => next_free r ho hd (fun j hj => heads_low hx hj (hf := fun p y hp hy => hno p y hp hy) (fun hfj => by unfold freeB; cases Dp.wait[j]? with | none => rfl | some p => simp only; rw [hfj]; rfl))
        have HW := Lib.hid hW
        have HBX := Lib.hid hbx
        have HIW := Lib.hid hiw
        have HNO := Lib.hid hno
        have HBW := Lib.hid hbw
        have HHL := Lib.hid (hH.below hbW (Nat.le_refl _))
        have HNXT := Lib.hid hnx
        have HXK := Lib.hid hx
        have HVO := Lib.hid hvo
        have HFE := Lib.hid hfe
        obtain ⟨L, hL⟩ : ∃ z, wayO Dp.locks o = z := ⟨_, rfl⟩
        rw [hL] at HIW HFE
        obtain ⟨tx, kd, it⟩ := o
        unfold OpV.val at HIW
        simp only at c0 c1 c2 HW HBX HIW
        have hki : (k : Int) < (q : Int) := by omega
        have hk0 : (0 : Int) ≤ (k : Int) := by omega
        have hXi : (X : Int) < (n : Int) := by omega
        have hX0 : (0 : Int) ≤ (X : Int) := by omega
        clear hbo hH hA hx ho hfx hvo hW hbx hbW hiw hno hnx hL hbw hfe
        go_wp2_with fail
        rw [← HW.out]
        refine HIW.out.mono ?_
        rintro e w4 ⟨WA, wc, rfl, hwc, hwf, hb4⟩
        obtain ⟨z, hz⟩ : ∃ z, L.length = z := ⟨_, rfl⟩
        have HZ := Lib.hid hz
        rw [hz] at hwc ⊢
        have hbw4 := HBW.out.trans (hb4.mono HBW.out.size)
        clear hwf hz c0 c1 c2 r1 ch
        by_cases hz0 : z = 0
        · subst hz0
          have HNX := Lib.hid (HNXT.out (by rw [HFE.out, List.isEmpty_iff]; exact List.length_eq_zero_iff.1 HZ.out))
          have hA4 := HH.out w4 hbw4
          have r1 : w4.cell? ⟨R, 1, none⟩ = some (.slice (some ⟨b, off, none⟩) n cw) := hA4.cells.2.1
          have hde := Delete_run B (some ⟨b, off, none⟩) n cw X Dp.wait w4 (hA4.desk.waitN HN0.out) (by omega) hXn
          have HDE := Lib.hid hde
          have HA4 := Lib.hid hA4
          have HB4 := Lib.hid hb4
          have HBW4 := Lib.hid hbw4
          have hXw : IntKind.i64.wrap ((X : Int) + 1) = (X : Int) + 1 := IntWalk.i64_in _ (by omega)
          clear hde hA4 hb4 hbw4
          go_wp2_with fail
          refine HDE.out.mono ?_
          rintro e w5 ⟨rfl, ho5, hg5⟩
          obtain ⟨⟨e0, e1⟩, hA5, hS5⟩ := HA4.out.growW hg5 ho5 (.inl rfl)
          have hbx5 := ((RSt.of_below R tg _ HB4.out).trans hS5).row HBX.out hfar.1 hfar.2.1 hfar.2.2
          have hfc := HG.out.next (HH.out wp (Below.refl _ _)).ok HNX.out
          have hms := HG.out.less HNX.out
          have hse := HG.out.settle HNX.out
          obtain ⟨m2, hm2⟩ : ∃ z, (Dp.wait.take X ++ Dp.wait.drop (X + 1)).length = z := ⟨_, rfl⟩
          rw [hm2] at hA5 hS5 hbx5 ⊢
          simp only at e0
          obtain ⟨w6, hw6⟩ : ∃ w6 : World, w6 = w5.setCell ⟨R, 1, none⟩ (.slice (some ⟨b, off, none⟩) m2 cw) := ⟨_, rfl⟩
          rw [← hw6] at hA5 hS5 hbx5
          have hdo := do_run B R tg _ _ _ ⟨tx, kd, it⟩ w6 hA5 HVO.out (by have := HLN.out; simp only; omega) (by have := HLN.out; simp only; omega)
          unfold OpV.val at hdo
          simp only at hdo
          obtain ⟨q0, q1, q2⟩ : w6.cell? ⟨wo.heap.size, 0, none⟩ = some (.int .i64 tx) ∧ w6.cell? ⟨wo.heap.size, 1, none⟩ = some (.int .i64 kd) ∧ w6.cell? ⟨wo.heap.size, 2, none⟩ = some (.int .i64 it) := ⟨RowIs.cell hbx5 rfl, RowIs.cell hbx5 rfl, RowIs.cell hbx5 rfl⟩
          obtain ⟨D2, hD2⟩ : ∃ z, grantD ⟨Dp.done, Dp.wait.take X ++ Dp.wait.drop (X + 1), Dp.locks, Dp.dead⟩ ⟨tx, kd, it⟩ = z := ⟨_, rfl⟩
          rw [hD2] at hfc hms hse hdo
          have HDO := Lib.hid hdo
          have HS6 : Hid (RSt R tg w V w6 _) := (HS.out.trans (RSt.of_below R tg _ HBW4.out)).trans hS5
          have HFC := Lib.hid hfc
          have HMS := Lib.hid hms
          have HSE := Lib.hid hse
          have HW6 := Lib.hid hw6
          rw [hw6] at q0 q1 q2
          clear hdo hA5 hS5 hbx5 hfc hms hse hD2 hw6 ho5 hg5 hm2 HNX
          go_wp2_with fail
          rw [← HW6.out]
          refine HDO.out.mono ?_
          rintro e w7 ⟨rfl, V7, hA7, hS7⟩
          have HA7 := Lib.hid hA7
          have HS7 := Lib.hid (HS6.out.trans hS7)
          clear hA7 hS7 q0 q1 q2 e0 e1
          go_wp2_with fail
          go_step3
          refine ⟨rfl, ⟨_, _, _, _, _, _, _, _, _, _, _, _, _, _, _, _, _, _, _, _, _, _, _, _, _, _, _, _, _, _, _, _, _, _, _, _, _, _, _, _, _, _, _, _, _, _, _, _, _, V7, _, rfl, HA7.out, HS7.out, HFC.out, HSE.out.symm.trans HE.out⟩, ?_⟩
          show muW R tg w7 < muW R tg wp
          rw [HA7.out.mu, HMU.out]
          exact HMS.out
        · have HNF : Hid (freeB Dp X = false) := by
            show _ = _
            rw [HFE.out]
            cases hq : L with
            | nil => have := HZ.out; rw [hq] at this; simp at this; omega
            | cons a r => rfl
          have hzb : ((z : Int) == 0) = false := by simp; omega
          have HB4 := Lib.hid hbw4
          have HH4 := Lib.hid (HHL.out.below hb4 (Nat.le_refl _))
          clear hb4 hbw4
          go_wp2_with fail
          go_roundw
          case rel => exact ⟨k + 1, by omega, by go_num, HB4.out, HH4.out, fun j y hj hy => by
            by_cases e : j = k
            · subst e
              rw [HXK.out] at hy
              injection hy with hy
              subst hy
              rw [Int.toNat_natCast]
              exact HNF.out
            · exact HNO.out j y (by omega) hy⟩
          case measure => simp [intOf]; omega
      · obtain rfl : k = q := by omega
        have hfa : ∀ j, j < Dp.wait.length → freeB Dp j = false := fun j hj => heads_all HQ.out (hf := fun p y hp hy => hno p y hp hy) hj (fun hfj => by unfold freeB; cases Dp.wait[j]? with | none => rfl | some p => simp only; rw [hfj]; rfl)
        have hvc := victim_run r B R tg _ Dp wo (HH.out wo hbo) HG.out.val HG.out.comp (by have := HLN.out; omega) hfa
        have HVC := Lib.hid hvc
        have HBO := Lib.hid hbo
        clear hbo hH hno hvc hfa
        go_wp2_with fail
        refine HVC.out.mono ?_
        rintro e w3 ⟨v, rfl, hb3, hvi⟩
        have HB3 := Lib.hid (HBO.out.trans (hb3.mono HBO.out.size))
        have HVI := Lib.hid hvi
        clear hb3 hvi HVC
        by_cases hv0 : 0 ≤ v
        · have hvd : decide (0 ≤ v) = true := by simpa using hv0
          obtain ⟨T, rfl⟩ := Int.eq_ofNat_of_zero_le hv0
          have hvi : (T : Int) ≤ 3 ∧ nextD r Dp = some (killD Dp (T : Int)) := by
            rcases HVI.out with ⟨h1, _⟩ | ⟨_, h2, h3⟩
            · omega
            · exact ⟨h2, h3⟩
          have hT3 : T ≤ 3 := by omega
          have HFC := Lib.hid (HG.out.next (HH.out wp (Below.refl _ _)).ok hvi.2)
          have HMS := Lib.hid (HG.out.less hvi.2)
          have HSE := Lib.hid (HG.out.settle hvi.2)
          have hab := abort_run B R tg _ _ Dp T w3 (HH.out w3 HB3.out) hT3 (by have := HLN.out; omega) (by have := HLN.out; omega)
          have HAB := Lib.hid hab
          clear hab hvi
          go_wp2_with fail
          refine HAB.out.mono ?_
          rintro e w7 ⟨rfl, V7, hA7, hS7⟩
          have HA7 := Lib.hid hA7
          have HS7 := Lib.hid ((HS.out.trans (RSt.of_below R tg _ HB3.out)).trans hS7)
          clear hA7 hS7
          go_wp2_with fail
          go_step3
          refine ⟨rfl, ⟨_, _, _, _, _, _, _, _, _, _, _, _, _, _, _, _, _, _, _, _, _, _, _, _, _, _, _, _, _, _, _, _, _, _, _, _, _, _, _, _, _, _, _, _, _, _, _, _, _, V7, _, rfl, HA7.out, HS7.out, HFC.out, HSE.out.symm.trans HE.out⟩, ?_⟩
          show muW R tg w7 < muW R tg wp
          rw [HA7.out.mu, HMU.out]
          exact HMS.out
        · have hvd : decide (0 ≤ v) = false := by simpa using hv0
          have hnn : nextD r Dp = none := by
            rcases HVI.out with ⟨_, h⟩ | ⟨h, _⟩
            · exact h
            · omega
          have HNN := Lib.hid (settle_none hnn)
          have HAF := Lib.hid (HH.out w3 HB3.out)
          have HSF := Lib.hid (HS.out.trans (RSt.of_below R tg _ HB3.out))
          clear hnn
          go_wp2_with fail
          simp only [Exit.jump]
          go_end0
          exact ⟨⟨rfl, _, by rw [← HE.out, HNN.out]; exact HAF.out, HSF.out⟩, by rw [← HE.out, HNN.out]; exact HG.out⟩
end Go.Proofs.Ytncebpmckbcabaa
