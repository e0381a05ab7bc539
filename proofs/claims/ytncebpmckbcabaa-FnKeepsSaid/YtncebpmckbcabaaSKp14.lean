/-
  Texts that the proof rests on, joined: part 14.
-/
import Derived.Test.YtncebpmckbcabaaSKp13
namespace Go.Proofs.Ytncebpmckbcabaa
open Go.RowKit Go.BigFrame
set_option linter.unusedVariables false

set_option maxRecDepth 100000 in
set_option maxHeartbeats 2000000 in
theorem drop_any (B : Nat) (V : DV) (D : Dsk) (t : Int) (w : World) (hd : DeskAt w B V D) (hL : D.locks.length ≤ 10000) :
    Calls Try.prog 155 #[V.val, .int .i64 t] w (DRet w B V ⟨D.done, D.wait, dropL D.locks t, D.dead⟩) := by
  obtain ⟨W, hW⟩ : ∃ W : World, W = (w.alloc (.cells V.list.toArray 28)).alloc (.cells DV.nil.list.toArray 28) := ⟨_, rfl⟩
  have hD0 : DeskAt W B V D := by rw [hW]; exact (hd.alloc _).alloc _
  have hS0 : DStep w V W V := by rw [hW]; exact ((DStep.refl w V).alloc _).alloc _
  have hB0 : Boxed W w.heap.size V := by rw [hW]; exact (Boxed.new w V).alloc _
  have hR0 : Boxed W (w.heap.size + 1) DV.nil := by
    rw [hW]
    have := Boxed.new (w.alloc (.cells V.list.toArray 28)) DV.nil
    rw [show (w.alloc (.cells V.list.toArray 28)).heap.size = w.heap.size + 1 by simp] at this
    exact this
  have HST := Lib.hid (And.intro hD0 (And.intro hS0 (And.intro hB0 hR0)))
  obtain ⟨Ad, Aw, Al, Ak, nd, nw, nl, nk, cd, cw, cl, ck, rfl, _, _⟩ := hd.forms
  have HW := Lib.hid hW
  clear hD0 hS0 hB0 hR0 hW hd
  unfold DV.val
  simp only
  go_enter Try.func155, Try.ntmps155
  go_wp2_with fail
  have HW2 := HW.out
  change W = (w.alloc (.cells #[.slice Ad nd cd, .slice Aw nw cw, .slice Al nl cl, .slice Ak nk ck] _)).alloc (.cells #[.slice none 0 0, .slice none 0 0, .slice none 0 0, .slice none 0 0] _) at HW2
  rw [← HW2]
  clear HW HW2
  go_loopw [5] (fun i wr => ∃ (k : Nat) (U : DV), k ≤ 3 ∧ i = .int .i64 k ∧ DeskAt wr B U ⟨D.done, D.wait, dropTo D.locks t k, D.dead⟩ ∧ DStep w ⟨.slice Ad nd cd, .slice Aw nw cw, .slice Al nl cl, .slice Ak nk ck⟩ wr U ∧ Boxed wr w.heap.size U ∧ Boxed wr (w.heap.size + 1) DV.nil) (fun i _ => 3 - (intOf i).toNat)
  case atStart => exact ⟨0, _, by omega, rfl, HST.out.1, HST.out.2.1, HST.out.2.2.1, HST.out.2.2.2⟩
  case round =>
    clear HST
    obtain ⟨k, U, hk, rfl, hDk, hSk, hBk, hRk⟩ := hrel
    obtain ⟨Ad', Aw', Al', Ak', nd', nw', nl', nk', cd', cw', cl', ck', rfl, _, h1, h2, h3, h4⟩ := hDk.forms
    have hlen := (dropTo_len D.locks t k).2
    have hsc := dropTo_succ D.locks t k
    simp only at h1 h2 h3 h4
    obtain ⟨M, hM⟩ : ∃ M, dropTo D.locks t k = M := ⟨_, rfl⟩
    rw [hM] at hDk h3 hlen hsc
    have hnl : nl' ≤ 10003 := by omega
    have hsz := hSk.size
    obtain ⟨b0, b1, b2, b3⟩ := hBk.cells
    obtain ⟨r0, r1, r2, r3⟩ := hRk.cells
    simp only at b0 b1 b2 b3
    unfold DV.nil at r0 r1 r2 r3
    simp only at r0 r1 r2 r3
    by_cases hlt : k < 3
    · have hro : ROps wr Al' nl' M := ROps.of_own (by have := hDk.locks; simp only [h3] at this; exact this) (by omega)
      obtain ⟨h, hh⟩ : ∃ h, heldI M t (k : Int) = h := ⟨_, rfl⟩
      have HE : Hid (heldI (M.take nl') t (k : Int) = h) := by show _ = _; rw [List.take_of_length_le (by omega)]; exact hh
      rw [hh] at hsc
      have HI := Lib.hid (And.intro hDk (And.intro hSk (And.intro hBk hRk)))
      have H3 := Lib.hid h3
      have HRO := Lib.hid hro
      clear hh hM hlen h1 h2 h3 h4 hro hDk hSk hBk hRk
      by_cases hp : 0 ≤ h
      · rw [if_pos hp] at hsc
        have HS2 := Lib.hid hsc
        clear hsc
        go_wp2_with (first
          | (go_at_call 135; refine (held_any Al' nl' cl' M nl' t (k : Int) wr HRO.out (Nat.le_refl _)).mono ?_; rintro e w2 ⟨rfl, hb2⟩; rw [HE.out]; have hD2 := HI.out.1.below hb2; have hS2 := HI.out.2.1.below hb2; have hB2 := HI.out.2.2.1.below hb2; have hR2 := HI.out.2.2.2.below hb2; have hlo : w2.ownsRow B 73 3 (.slice Al' nl' cl') nl' (opCells M) := (by have := hD2.locks; simp only [H3.out] at this; exact this); obtain ⟨c0, c1, c2, c3⟩ := hB2.cells; simp only at c0 c1 c2 c3; have hsz2 := hS2.size; have hbase := hD2.base; have hne2 := hB2.notIn hD2; have hner := hR2.notIn hD2; have HI2 := Lib.hid (And.intro hD2 (And.intro hS2 (And.intro hB2 hR2))); clear hD2 hS2 hB2 hR2)
          | (at_builtin; refine app_steps (.tmp 20) (.tmp 24) (hlo.alloc _) (by simp; omega) (ROps.lit1 _ ⟨_, _, _⟩ _) (by omega) rfl rfl rfl rfl ?_; intro v3 w3 hown3 hg3 hat3; obtain ⟨A3, c3', rfl, hc3⟩ := own_form2 hown3; have hB3 := Lib.hid ((HI2.out.2.2.1.alloc (.cells #[.int .i64 t, .int .i64 2, .int .i64 (k : Int)] 73)).grown hg3 hne2.2.2.1); have d2 := hB3.out.cells.2.2.1; have f2 := hB3.out.soft 2; simp only at d2))
        go_roundw
        case rel =>
          refine ⟨k + 1, ⟨.slice Ad' nd' cd', .slice Aw' nw' cw', .slice A3 (nl' + 1) c3', .slice Ak' nk' ck'⟩, by omega, by go_num, ?_, ?_, hB3.out.setL _, ?_⟩
          · have := (HI2.out.1.alloc (.cells #[.int .i64 t, .int .i64 2, .int .i64 (k : Int)] 73)).growL (L := M ++ [⟨t, 2, (k : Int)⟩]) hg3 hown3
            rw [HS2.out]
            exact this.set (hB3.out.notIn this) 2 _
          · exact ((HI2.out.2.1.alloc _).growL hg3 hat3).set (Nat.le_refl _) 2 _
          · exact ((HI2.out.2.2.2.alloc _).grown hg3 hner.2.2.1).other (by omega) 2 _
        case measure => simp [intOf]; omega
      · rw [if_neg hp] at hsc
        have HS2 := Lib.hid hsc
        clear hsc
        go_wp2_with (go_at_call 135; refine (held_any Al' nl' cl' M nl' t (k : Int) wr HRO.out (Nat.le_refl _)).mono ?_; rintro e w2 ⟨rfl, hb2⟩; rw [HE.out]; have hD2 := HI.out.1.below hb2; have hS2 := HI.out.2.1.below hb2; have hB2 := HI.out.2.2.1.below hb2; have hR2 := HI.out.2.2.2.below hb2; have hlo : w2.ownsRow B 73 3 (.slice Al' nl' cl') nl' (opCells M) := (by have := hD2.locks; simp only [H3.out] at this; exact this); obtain ⟨c0, c1, c2, c3⟩ := hB2.cells; simp only at c0 c1 c2 c3; have hsz2 := hS2.size; have hbase := hD2.base; have hne2 := hB2.notIn hD2; have hner := hR2.notIn hD2; have HI2 := Lib.hid (And.intro hD2 (And.intro hS2 (And.intro hB2 hR2))); clear hD2 hS2 hB2 hR2)
        go_roundw
        case rel => exact ⟨k + 1, _, by omega, by go_num, by rw [HS2.out]; exact HI2.out.1, HI2.out.2.1, HI2.out.2.2.1, HI2.out.2.2.2⟩
        case measure => simp [intOf]; omega
    · have hk3 : k = 3 := by omega
      subst hk3
      have hfz := fun i => hRk.soft i
      have hne := hRk.notIn hDk
      have HI := Lib.hid (And.intro hDk (And.intro hSk (And.intro hBk hRk)))
      have HM := Lib.hid hM
      clear hDk hSk hBk hRk hM h1 h2 h3 h4 hsc
      go_wp2_with fail
      have hF := (HI.out.2.2.2.setAll ⟨.slice Ad' nd' cd', .slice Aw' nw' cw', .slice Al' nl' cl', .slice Ak' nk' ck'⟩)
      obtain ⟨d0, d1, d2, d3⟩ := hF.cells
      simp only at d0 d1 d2 d3
      refine bodyPost_ret (v := .agg #[.slice Ad' nd' cd', .slice Aw' nw' cw', .slice Al' nl' cl', .slice Ak' nk' ck']) (by simp [results, Try.results155, go_sem, d0, d1, d2, d3]) rfl ?_
      refine ⟨⟨.slice Ad' nd' cd', .slice Aw' nw' cw', .slice Al' nl' cl', .slice Ak' nk' ck'⟩, rfl, ?_, ?_⟩
      · have : (⟨D.done, D.wait, dropL D.locks t, D.dead⟩ : Dsk) = ⟨D.done, D.wait, M, D.dead⟩ := by rw [← HM.out]; rfl
        rw [this]
        exact (((HI.out.1.set hne 0 _).set hne 1 _).set hne 2 _).set hne 3 _
      · exact (((HI.out.2.1.set (by omega) 0 _).set (by omega) 1 _).set (by omega) 2 _).set (by omega) 3 _

theorem filter_snoc {s : List OpV} {k : Nat} {o : OpV} (ho : s[k]? = some o) (p : OpV → Bool) : (s.take (k + 1)).filter p = (s.take k).filter p ++ if p o = true then [o] else [] := by
  rw [take_snoc ho, List.filter_append]; simp [List.filter_cons]
set_option maxRecDepth 100000 in
set_option maxHeartbeats 400000 in
theorem kill_any (B : Nat) (V : DV) (D : Dsk) (t : Int) (w : World) (hd : DeskAt w B V D) (hL : D.locks.length ≤ 9000) (hN : D.done.length ≤ 9000 ∧ D.wait.length ≤ 9000 ∧ D.dead.length ≤ 9000) :
    Calls Try.prog 127 #[V.val, .int .i64 t] w (DRet w B V (killD D t)) := by
  obtain ⟨W, hW⟩ : ∃ W : World, W = (w.alloc (.cells V.list.toArray 28)).alloc (.cells DV.nil.list.toArray 28) := ⟨_, rfl⟩
  have hD0 : DeskAt W B V D := by rw [hW]; exact (hd.alloc _).alloc _
  have hS0 : DStep w V W V := by rw [hW]; exact ((DStep.refl w V).alloc _).alloc _
  have hB0 : Boxed W w.heap.size V := by rw [hW]; exact (Boxed.new w V).alloc _
  have hR0 : Boxed W (w.heap.size + 1) DV.nil := by
    rw [hW]
    have := Boxed.new (w.alloc (.cells V.list.toArray 28)) DV.nil
    rw [show (w.alloc (.cells V.list.toArray 28)).heap.size = w.heap.size + 1 by simp] at this
    exact this
  have HB := Lib.hid hd.base
  obtain ⟨Ad, Aw, Al, Ak, nd, nw, nl, nk, cd, cw, cl, ck, rfl, _, _⟩ := hd.forms
  have hDR := drop_any B _ D t W hD0 (by omega)
  have HST := Lib.hid (And.intro hD0 (And.intro hS0 (And.intro hB0 hR0)))
  have HW := Lib.hid hW
  have HDR := Lib.hid hDR
  clear hD0 hS0 hB0 hR0 hW hd hDR
  unfold DV.val
  simp only
  go_enter Try.func127, Try.ntmps127
  go_wp2_with fail
  have HW2 := HW.out
  change W = (w.alloc (.cells #[.slice Ad nd cd, .slice Aw nw cw, .slice Al nl cl, .slice Ak nk ck] _)).alloc (.cells #[.slice none 0 0, .slice none 0 0, .slice none 0 0, .slice none 0 0] _) at HW2
  rw [← HW2]
  clear HW HW2
  refine HDR.out.mono ?_
  rintro e w1 ⟨V1, rfl, hD1, hS1⟩
  have hS := HST.out.2.1.trans hS1
  have hB1 := HST.out.2.2.1.step hS1 (HST.out.2.2.1.notIn HST.out.1)
  have hR1 := HST.out.2.2.2.step hS1 (HST.out.2.2.2.notIn HST.out.1)
  have nB := hB1.notIn hD1
  have nR := hR1.notIn hD1
  obtain ⟨Ad1, Aw1, Al1, Ak1, nd1, nw1, nl1, nk1, cd1, cw1, cl1, ck1, rfl, hcs, h1, h2, h3, h4⟩ := hD1.forms
  simp only at h1 h2 h3 h4
  have hbd : nd1 ≤ 9000 ∧ nw1 ≤ 9000 ∧ nk1 ≤ 9000 := by omega
  have H1 := Lib.hid h1
  have H2 := Lib.hid h2
  have H4 := Lib.hid h4
  have hsW := HST.out.2.1.size
  have hlB := RowIs.lt hB1
  have hlR := RowIs.lt hR1
  obtain ⟨b0, b1, b2, b3⟩ := hB1.cells
  simp only at b0 b1 b2 b3
  have f0 := hB1.soft 0
  have f1 := hB1.soft 1
  have f2 := hB1.soft 2
  have f3 := hB1.soft 3
  obtain ⟨Wb, hWb⟩ : ∃ u : World, u = (((w1.setCell ⟨w.heap.size, 0, none⟩ (.slice Ad1 nd1 cd1)).setCell ⟨w.heap.size, 1, none⟩ (.slice Aw1 nw1 cw1)).setCell ⟨w.heap.size, 2, none⟩ (.slice Al1 nl1 cl1)).setCell ⟨w.heap.size, 3, none⟩ (.slice Ak1 nk1 ck1) := ⟨_, rfl⟩
  have hDb := hD1.setAll nB (.slice Ad1 nd1 cd1) (.slice Aw1 nw1 cw1) (.slice Al1 nl1 cl1) (.slice Ak1 nk1 ck1)
  rw [← hWb] at hDb
  have hSb := hS.setAll (Nat.le_refl _) (.slice Ad1 nd1 cd1) (.slice Aw1 nw1 cw1) (.slice Al1 nl1 cl1) (.slice Ak1 nk1 ck1)
  rw [← hWb] at hSb
  have hBb := hB1.set4 (.slice Ad1 nd1 cd1) (.slice Aw1 nw1 cw1) (.slice Al1 nl1 cl1) (.slice Ak1 nk1 ck1)
  rw [← hWb] at hBb
  have hRb := hR1.otherAll (show w.heap.size ≠ w.heap.size + 1 by omega) (.slice Ad1 nd1 cd1) (.slice Aw1 nw1 cw1) (.slice Al1 nl1 cl1) (.slice Ak1 nk1 ck1)
  rw [← hWb] at hRb
  have hszb : Wb.heap.size = w1.heap.size := (congrArg (fun u : World => u.heap.size) hWb).trans (setAll_size _ _ _ _ _ _)
  have HWB := Lib.hid hWb
  have HB := Lib.hid (And.intro hDb (And.intro hSb (And.intro hBb hRb)))
  clear HST HDR hS1 hS hB1 hR1 nB nR h1 h2 h3 h4 hD1 hDb hSb hBb hRb hWb
  unfold DV.val
  simp only
  go_wp2_with (first
    | (at_builtin; go_loud (rw [← HWB.out]; refine app_ops (.tmp 11) (.tmp 14) ((HB.out.1.doneN H1.out).alloc _) (Nat.le_trans HB.out.1.base (by simp)) (ROps.litH hszb ⟨_, _, _⟩ _) (by omega) rfl rfl rfl rfl ?_; intro v3 w3 hown3 hg3 hat3; obtain ⟨A3, c3, rfl, hc3⟩ := own_form2 hown3; have hB3 := (HB.out.2.2.1.alloc (.cells #[.int .i64 t, .int .i64 3, .int .i64 0] 62)).grown hg3 (HB.out.2.2.1.notIn HB.out.1).1; have hR3 := (HB.out.2.2.2.alloc (.cells #[.int .i64 t, .int .i64 3, .int .i64 0] 62)).grown hg3 (HB.out.2.2.2.notIn HB.out.1).1; have hD3 := (HB.out.1.alloc _).growD (L := D.done ++ [⟨t, 3, 0⟩]) hg3 hown3 hat3; have hS3 := (HB.out.2.1.alloc _).growD hg3 hat3; obtain ⟨c0, c1, c2, c3'⟩ := hB3.cells; simp only at c0 c1 c2 c3'; have g0 := hB3.soft 0; have g3 := hB3.soft 3; have nB3 := hB3.notIn hD3; obtain ⟨Wc, hWc⟩ : ∃ u : World, u = w3.setCell ⟨w.heap.size, 0, none⟩ (.slice A3 (nd1 + 1) c3) := ⟨_, rfl⟩; have hDc := hD3.set nB3 0 (.slice A3 (nd1 + 1) c3); rw [← hWc] at hDc; have hSc := hS3.set (Nat.le_refl _) 0 (.slice A3 (nd1 + 1) c3); rw [← hWc] at hSc; have hBc := hB3.setD (.slice A3 (nd1 + 1) c3); rw [← hWc] at hBc; have hRc := hR3.other (show w.heap.size ≠ w.heap.size + 1 by omega) 0 (.slice A3 (nd1 + 1) c3); rw [← hWc] at hRc; have HC := Lib.hid (And.intro hDc (And.intro hSc (And.intro hBc hRc))); have HWC := Lib.hid hWc; have hszc : Wc.heap.size = w3.heap.size := (congrArg (fun u : World => u.heap.size) hWc).trans (by simp [World.setCell]); clear hB3 hR3 hD3 hS3 nB3 hDc hSc hBc hRc hWc HB HWB))
    | (at_builtin; go_loud (rw [← HWC.out]; refine app_ints (.tmp 18) (.tmp 20) ((HC.out.1.deadN H4.out).alloc _) (Nat.le_trans HC.out.1.base (by simp)) (Go.Proofs.Ytncebpmckbcabaa.lit1 hszc _) (by omega) rfl rfl rfl rfl ?_; intro v4 w4 hown4 hg4 hat4; obtain ⟨A4, c4, rfl, hc4⟩ := own_form2 hown4; have hB4 := (HC.out.2.2.1.alloc (.cells #[.int .i64 t] 3)).grown hg4 (HC.out.2.2.1.notIn HC.out.1).2.2.2; have hR4 := (HC.out.2.2.2.alloc (.cells #[.int .i64 t] 3)).grown hg4 (HC.out.2.2.2.notIn HC.out.1).2.2.2; have hD4 := (HC.out.1.alloc _).growK (K := D.dead ++ [t]) hg4 hown4; have hS4 := (HC.out.2.1.alloc _).growK hg4 hat4; obtain ⟨e0, e1, e2, e3⟩ := hB4.cells; simp only at e0 e1 e2 e3; have i3 := hB4.soft 3; have nB4 := hB4.notIn hD4; obtain ⟨Wd, hWd⟩ : ∃ u : World, u = w4.setCell ⟨w.heap.size, 3, none⟩ (.slice A4 (nk1 + 1) c4) := ⟨_, rfl⟩; have hDd := hD4.set nB4 3 (.slice A4 (nk1 + 1) c4); rw [← hWd] at hDd; have hSd := hS4.set (Nat.le_refl _) 3 (.slice A4 (nk1 + 1) c4); rw [← hWd] at hSd; have hBd := hB4.setK (.slice A4 (nk1 + 1) c4); rw [← hWd] at hBd; have hRd := hR4.other (show w.heap.size ≠ w.heap.size + 1 by omega) 3 (.slice A4 (nk1 + 1) c4); rw [← hWd] at hRd; have HD := Lib.hid (And.intro hDd (And.intro hSd (And.intro hBd hRd))); have HWD := Lib.hid hWd; have hszd : Wd.heap.size = w4.heap.size := (congrArg (fun u : World => u.heap.size) hWd).trans (by simp [World.setCell]); clear hB4 hR4 hD4 hS4 nB4 hDd hSd hBd hRd hWd HC HWC)))
  rw [← HWD.out]
  obtain ⟨hDd, hSd, hBd, hRd⟩ := HD.out
  have hfar : ∀ b, Wd.heap.size ≤ b → NotIn _ b := fun b hb => hDd.far hb
  have hgl := RowIs.lt hBd
  have hrl := RowIs.lt hRd
  have hbs := hDd.base
  have HFAR := Lib.hid hfar
  have hownE := World.ownsRow_made (base := Wd.heap.size) (e := 62) (size := 3) Wd #[] 0 (Nat.le_refl _) (by decide) rfl
  have HST : Hid (_ ∧ _ ∧ _ ∧ _ ∧ _) := And.intro (hDd.alloc (.cells #[] 62)) (And.intro (hSd.alloc (.cells #[] 62)) (And.intro (hBd.alloc (.cells #[] 62)) (And.intro (hRd.alloc (.cells #[] 62)) hownE)))
  have hsd := hSd.size
  have HSZ : Hid (w4.heap.size ≤ (Wd.alloc (.cells #[] 62)).heap.size) := by show _ ≤ _; rw [← hszd]; simp
  clear HD HWD hDd hSd hBd hRd hfar hownE
  rw [hszd] at hgl hrl hbs HFAR HST hsd
  clear hg3 hown3 hat3 c0 c1 c2 c3' g0 g3 hszc hg4 hown4 hat4 e0 e1 e2 e3 i3 hszd b0 b1 b2 b3 f0 f1 f2 f3 hszb
  go_loopw [5, 6] (fun ov i wr => ∃ k m : Nat, k ≤ nw1 ∧ m ≤ k ∧ i = .int .i64 k ∧ DeskAt wr B ⟨.slice A3 (nd1 + 1) c3, .slice Aw1 nw1 cw1, .slice Al1 nl1 cl1, .slice A4 (nk1 + 1) c4⟩ ⟨D.done ++ [⟨t, 3, 0⟩], D.wait, dropL D.locks t, D.dead ++ [t]⟩ ∧ DStep w ⟨.slice Ad nd cd, .slice Aw nw cw, .slice Al nl cl, .slice Ak nk ck⟩ wr ⟨.slice A3 (nd1 + 1) c3, .slice Aw1 nw1 cw1, .slice Al1 nl1 cl1, .slice A4 (nk1 + 1) c4⟩ ∧ Boxed wr w.heap.size ⟨.slice A3 (nd1 + 1) c3, .slice Aw1 nw1 cw1, .slice Al1 nl1 cl1, .slice A4 (nk1 + 1) c4⟩ ∧ Boxed wr (w.heap.size + 1) DV.nil ∧ w4.heap.size ≤ wr.heap.size ∧ wr.ownsRow w4.heap.size 62 3 ov m (opCells ((D.wait.take k).filter fun o => o.tx != t))) (fun _ i _ => nw1 - (intOf i).toNat)
  case atStart => exact ⟨0, 0, Nat.zero_le _, Nat.le_refl _, rfl, HST.out.1, HST.out.2.1, HST.out.2.2.1, HST.out.2.2.2.1, HSZ.out, by simpa [opCells] using HST.out.2.2.2.2⟩
  case round =>
    clear HST
    obtain ⟨k, m, hk, hmk, rfl, hDk, hSk, hBk, hRk, hwr, hown⟩ := hrel
    obtain ⟨x0, x1, x2, x3⟩ := hBk.cells
    simp only at x0 x1 x2 x3
    have hsk := hSk.size
    have hbk := hDk.base
    by_cases hlt : k < nw1
    · have hro : ROps wr Aw1 nw1 D.wait := ROps.of_own (hDk.waitN H2.out) (by omega)
      obtain ⟨b, off, o, hA, hbl, ho, c0, c1, c2⟩ := hro.at_ hlt
      subst hA
      have HT := Lib.hid (filter_snoc ho fun o => o.tx != t)
      have HI := Lib.hid (And.intro hDk (And.intro hSk (And.intro hBk hRk)))
      clear hDk hSk hBk hRk hro ho
      obtain ⟨tx, kd, it⟩ := o
      by_cases e1 : tx = t
      · go_wp2_with fail
        go_roundw
        case rel => exact ⟨k + 1, m, by omega, by omega, by go_num, HI.out.1, HI.out.2.1, HI.out.2.2.1, HI.out.2.2.2, hwr, by rw [HT.out]; simpa [e1] using hown⟩
        case measure => simp [intOf]; omega
      · go_wp2_with (at_builtin; refine app_ops (.tmp 39) (.tmp 45) (hown.alloc _) (by simp; omega) (ROps.lit1 _ ⟨_, _, _⟩ _) (by omega) rfl rfl rfl rfl ?_; intro v5 w5 hown5 hg5 hat5)
        have hfb : ∀ b, u5.ownBlock = some b → w4.heap.size ≤ b := fun b hb => (World.ownsRow.lt hown b hb).1
        go_roundw
        case rel =>
          refine ⟨k + 1, m + 1, by omega, by omega, by go_num, (HI.out.1.alloc _).apart hg5 fun b hb => HFAR.out b (hfb b hb), (HI.out.2.1.alloc _).apart hg5 fun b hb => Nat.le_trans hsd (hfb b hb), (HI.out.2.2.1.alloc _).grown hg5 fun e => ?_, (HI.out.2.2.2.alloc _).grown hg5 fun e => ?_, by have := hg5.size; simp at this; omega, by rw [HT.out]; simpa [e1] using hown5⟩
          · have := hfb _ e; omega
          · have := hfb _ e; omega
        case measure => simp [intOf]; omega
    · have hkn : k = nw1 := by omega
      have e : D.wait.take k = D.wait := List.take_of_length_le (by have := H2.out; omega)
      rw [e] at hown
      obtain ⟨A6, c6, rfl, hc6⟩ := own_form2 hown
      have f1 := hBk.soft 1
      have hnB := hBk.notIn hDk
      have hnR := hRk.notIn hDk
      have hfb : ∀ b, (Value.slice A6 m c6).ownBlock = some b → w4.heap.size ≤ b := fun b hb => (World.ownsRow.lt hown b hb).1
      have hnv : (Value.slice A6 m c6).ownBlock ≠ some w.heap.size := fun e => by have := hfb _ e; omega
      have hnr : (Value.slice A6 m c6).ownBlock ≠ some (w.heap.size + 1) := fun e => by have := hfb _ e; omega
      have hD6 := hDk.newW (own_base hown (show B ≤ w4.heap.size by omega)) (fun b hb e => by have := HFAR.out b (hfb b e); exact this.1 hb)
      have hS6 := hSk.newW (v := .slice A6 m c6) (fun b hb => by have := hfb b hb; omega)
      have hnB6 := hBk.notIn hD6
      have hnR6 := hRk.notIn hD6
      have hD7 := (hD6.set hnB6 1 (.slice A6 m c6)).setAll hnR6 (.slice A3 (nd1 + 1) c3) (.slice A6 m c6) (.slice Al1 nl1 cl1) (.slice A4 (nk1 + 1) c4)
      have hS7 := (hS6.set (Nat.le_refl _) 1 (.slice A6 m c6)).setAll (show w.heap.size ≤ w.heap.size + 1 by omega) (.slice A3 (nd1 + 1) c3) (.slice A6 m c6) (.slice Al1 nl1 cl1) (.slice A4 (nk1 + 1) c4)
      have hR7 := hRk.other (show w.heap.size ≠ w.heap.size + 1 by omega) 1 (.slice A6 m c6)
      obtain ⟨y0, y1, y2, y3⟩ := hRk.cells
      have s0 := hRk.soft 0
      have s1 := hRk.soft 1
      have s2 := hRk.soft 2
      have s3 := hRk.soft 3
      have HF := Lib.hid (And.intro hD7 (And.intro hS7 hR7))
      clear hD6 hS6 hD7 hS7 hR7 hDk hSk hBk hRk e hown
      unfold DV.nil at y0 y1 y2 y3
      simp only at y0 y1 y2 y3
      go_wp2_with fail
      have hF := (HF.out.2.2).setAll ⟨.slice A3 (nd1 + 1) c3, .slice A6 m c6, .slice Al1 nl1 cl1, .slice A4 (nk1 + 1) c4⟩
      obtain ⟨d0, d1, d2, d3⟩ := hF.cells
      simp only at d0 d1 d2 d3
      refine bodyPost_ret (v := .agg #[.slice A3 (nd1 + 1) c3, .slice A6 m c6, .slice Al1 nl1 cl1, .slice A4 (nk1 + 1) c4]) (by simp [results, Try.results127, go_sem, d0, d1, d2, d3]) rfl ?_
      refine ⟨⟨.slice A3 (nd1 + 1) c3, .slice A6 m c6, .slice Al1 nl1 cl1, .slice A4 (nk1 + 1) c4⟩, rfl, ?_, ?_⟩
      · exact HF.out.1
      · exact HF.out.2.1
end Go.Proofs.Ytncebpmckbcabaa
