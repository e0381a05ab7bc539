/-
  Texts that the proof rests on, joined: part 16.
-/
import Derived.Test.YtncebpmckbcabaaSKp15
namespace Go.Proofs.Ytncebpmckbcabaa
open Go.RowKit Go.BigFrame
set_option linter.unusedVariables false

def Rul.str : Rul → ByteArray
  | .wait => { data := #[119, 97, 105, 116] }
  | .die => { data := #[100, 105, 101] }
  | .wound => { data := #[119, 111, 117, 110, 100] }

/-- The boxes of ask. -/
theorem ask_start {B : Nat} {V : DV} {D : Dsk} {o : OpV} {w W : World} (hd : DeskAt w B V D) (hW : W = ((w.alloc (.cells V.list.toArray 28)).alloc (.cells o.cells.toArray 62)).alloc (.cells DV.nil.list.toArray 28)) :
    Pk w V B w.heap.size (w.heap.size + 1 + 1) W V D ∧ OB W V (w.heap.size + 1) o ∧ W.heap.size = w.heap.size + 1 + 1 + 1 := by
  have hD0 : DeskAt W B V D := by rw [hW]; exact ((hd.alloc _).alloc _).alloc _
  have hS0 : DStep w V W V := by rw [hW]; exact (((DStep.refl w V).alloc _).alloc _).alloc _
  have hB0 : Boxed W w.heap.size V := by rw [hW]; exact ((Boxed.new w V).alloc _).alloc _
  have hO0 : OBox W (w.heap.size + 1) o := by
    rw [hW]
    have := OBox.new (w.alloc (.cells V.list.toArray 28)) o
    rw [show (w.alloc (.cells V.list.toArray 28)).heap.size = w.heap.size + 1 by simp] at this
    exact this.alloc _
  have hR0 : Boxed W (w.heap.size + 1 + 1) DV.nil := by
    rw [hW]
    have := Boxed.new ((w.alloc (.cells V.list.toArray 28)).alloc (.cells o.cells.toArray 62)) DV.nil
    rw [show ((w.alloc (.cells V.list.toArray 28)).alloc (.cells o.cells.toArray 62)).heap.size = w.heap.size + 1 + 1 by simp] at this
    exact this
  exact ⟨⟨hD0, hS0, hB0, hR0, by omega, Nat.le_refl _, by omega⟩, ⟨hO0, hd.far (by omega)⟩, by rw [hW]; simp⟩

set_option maxRecDepth 100000 in
set_option maxHeartbeats 1000000 in
theorem ask_wait (B : Nat) (V : DV) (D : Dsk) (o : OpV) (w : World) (hd : DeskAt w B V D) (hL : D.locks.length ≤ 9000) (hN : D.done.length ≤ 9000) (hWt : D.wait.length ≤ 9000) (hDd : D.dead.length ≤ 9000) :
    Calls Try.prog 93 #[.string Rul.wait.str, V.val, o.val] w (DRet w B V (askD .wait D o)) := by
  obtain ⟨W, hW⟩ : ∃ W : World, W = ((w.alloc (.cells V.list.toArray 28)).alloc (.cells o.cells.toArray 62)).alloc (.cells DV.nil.list.toArray 28) := ⟨_, rfl⟩
  obtain ⟨hP0, hO0, hszW⟩ := ask_start hd hW
  obtain ⟨tx, kd, it⟩ := o
  obtain ⟨Ad, Aw, Al, Ak, nd, nw, nl, nk, cd, cw, cl, ck, rfl, hcs, h1, h2, h3, h4⟩ := hd.forms
  have H1 := Lib.hid h1
  have H2 := Lib.hid h2
  have H3 := Lib.hid h3
  have H4 := Lib.hid h4
  have HP0 := Lib.hid hP0
  have HO0 := Lib.hid hO0
  have HSZ := Lib.hid hszW
  have hbd : nd ≤ 9000 ∧ nl ≤ 9000 ∧ nw ≤ 9000 := by omega
  unfold OpV.cells DV.list DV.nil at hW
  simp only at hW
  change W = ((w.alloc (.cells #[.slice Ad nd cd, .slice Aw nw cw, .slice Al nl cl, .slice Ak nk ck] _)).alloc (.cells #[.int .i64 tx, .int .i64 kd, .int .i64 it] _)).alloc (.cells #[.slice none 0 0, .slice none 0 0, .slice none 0 0, .slice none 0 0] _) at hW
  have HW3 := Lib.hid hW
  clear hP0 hO0 hszW hd h1 h2 h3 h4 hW
  unfold DV.val OpV.val Rul.str
  simp only
  obtain ⟨be, hbe⟩ : ∃ b, isEnd ⟨tx, kd, it⟩ = b := ⟨_, rfl⟩
  have HBE := Lib.hid hbe
  clear hbe
  cases be
  · have hway : wayO D.locks ⟨tx, kd, it⟩ = inWayI D.locks tx it kd := by unfold wayO; rw [if_neg (by rw [HBE.out]; simp)]
    obtain ⟨XS, hXS⟩ : ∃ XS, inWayI D.locks tx it kd = XS := ⟨_, rfl⟩
    rw [hXS] at hway
    obtain ⟨m, hm⟩ : ∃ m, XS.length = m := ⟨_, rfl⟩
    have HXS := Lib.hid hXS
    have HM := Lib.hid hm
    have HWAY := Lib.hid hway
    clear hXS hm hway
    by_cases hm0 : m = 0
    · subst hm0
      go_enter Try.func93, Try.ntmps93
      go_wp2_with (first
        | (go_at_call 89; go_loud (rw [← HW3.out]; refine (sends_any ⟨tx, kd, it⟩ _).mono ?_; rintro e w1 ⟨rfl, hb1⟩; rw [HBE.out]; have HP1 := Lib.hid ((HP0.out.alloc (.cells #[] 3)).below hb1); have HO1 := Lib.hid ((HO0.out.below ((Below.refl _ _).alloc (Nat.le_refl _) (.cells #[] 3))).below hb1); have hbase1 := HP1.out.desk.base; have hlt1 := HP1.out.lts; obtain ⟨d0, d1, d2, d3⟩ := HP1.out.box.cells; obtain ⟨p0, p1, p2⟩ := HO1.out.box.cells; simp only at d0 d1 d2 d3 p0 p1 p2; clear HP0 HO0 HW3 hb1))
        | (go_at_call 101; go_loud (refine (inWay_any Al nl cl D.locks tx it kd w1 (ROps.of_own (HP1.out.desk.locksN (n := nl) H3.out) (by omega))).mono ?_; rw [HXS.out]; rintro e w2 ⟨LA, lc, rfl, hlc, hFL, hb2⟩; rw [HM.out] at hlc hFL ⊢; have HFL := Lib.hid hFL; have HP2 := Lib.hid (HP1.out.below hb2); have HO2 := Lib.hid (HO1.out.below hb2); have hbase2 := HP2.out.desk.base; have hlt2 := HP2.out.lts; have hg2 := grant_any B _ _ ⟨tx, kd, it⟩ w2 HP2.out.desk (show D.locks.length ≤ 9000 by omega) (show D.done.length ≤ 9000 by omega); simp only [DV.val, OpV.val] at hg2; have HG2 := Lib.hid hg2; have HB2 := Lib.hid hb2; clear hFL hg2 hb2 d0 d1 d2 d3 p0 p1 p2; obtain ⟨d0, d1, d2, d3⟩ := HP2.out.box.cells; obtain ⟨p0, p1, p2⟩ := HO2.out.box.cells; simp only at d0 d1 d2 d3 p0 p1 p2))
        | (go_at_call 126; go_loud (refine HG2.out.mono ?_; rintro e w5 ⟨V5, rfl, hD5, hS5⟩; obtain ⟨Ad5, Aw5, Al5, Ak5, nd5, nw5, nl5, nk5, cd5, cw5, cl5, ck5, rfl, _⟩ := hD5.forms; obtain ⟨_, hR5, _⟩ := HP2.out.mid hS5; obtain ⟨y0, y1, y2, y3⟩ := hR5.cells; unfold DV.nil at y0 y1 y2 y3; simp only at y0 y1 y2 y3; have s0 := hR5.soft 0; have s1 := hR5.soft 1; have s2 := hR5.soft 2; have s3 := hR5.soft 3; have hF := HP2.out.out hD5 hS5; simp only [putDesk] at hF; have HF := Lib.hid hF; clear hF hS5 hD5 hR5; unfold DV.val; simp only)))
      obtain ⟨d0, d1, d2, d3⟩ := HF.out.2.2.cells
      simp only at d0 d1 d2 d3
      refine bodyPost_ret (v := .agg #[.slice Ad5 nd5 cd5, .slice Aw5 nw5 cw5, .slice Al5 nl5 cl5, .slice Ak5 nk5 ck5]) (by simp [results, Try.results93, go_sem, d0, d1, d2, d3]) rfl ?_
      refine ⟨⟨.slice Ad5 nd5 cd5, .slice Aw5 nw5 cw5, .slice Al5 nl5 cl5, .slice Ak5 nk5 ck5⟩, rfl, ?_, HF.out.2.1⟩
      have e : askD .wait D ⟨tx, kd, it⟩ = grantD D ⟨tx, kd, it⟩ := by
        unfold askD
        simp only
        rw [HWAY.out, if_pos (by first | rfl | (rw [List.eq_nil_of_length_eq_zero HM.out]; rfl))]
      rw [e]
      exact HF.out.1
    · go_enter Try.func93, Try.ntmps93
      go_wp2_with (first
        | (go_at_call 89; go_loud (rw [← HW3.out]; refine (sends_any ⟨tx, kd, it⟩ _).mono ?_; rintro e w1 ⟨rfl, hb1⟩; rw [HBE.out]; have HP1 := Lib.hid ((HP0.out.alloc (.cells #[] 3)).below hb1); have HO1 := Lib.hid ((HO0.out.below ((Below.refl _ _).alloc (Nat.le_refl _) (.cells #[] 3))).below hb1); have hbase1 := HP1.out.desk.base; have hlt1 := HP1.out.lts; obtain ⟨d0, d1, d2, d3⟩ := HP1.out.box.cells; obtain ⟨p0, p1, p2⟩ := HO1.out.box.cells; simp only at d0 d1 d2 d3 p0 p1 p2; clear HP0 HO0 HW3 hb1))
        | (go_at_call 101; go_loud (refine (inWay_any Al nl cl D.locks tx it kd w1 (ROps.of_own (HP1.out.desk.locksN (n := nl) H3.out) (by omega))).mono ?_; rw [HXS.out]; rintro e w2 ⟨LA, lc, rfl, hlc, hFL, hb2⟩; rw [HM.out] at hlc hFL ⊢; have HFL := Lib.hid hFL; have HP2 := Lib.hid (HP1.out.below hb2); have HO2 := Lib.hid (HO1.out.below hb2); have hbase2 := HP2.out.desk.base; have hlt2 := HP2.out.lts; have hg2 := grant_any B _ _ ⟨tx, kd, it⟩ w2 HP2.out.desk (show D.locks.length ≤ 9000 by omega) (show D.done.length ≤ 9000 by omega); simp only [DV.val, OpV.val] at hg2; have HG2 := Lib.hid hg2; have HB2 := Lib.hid hb2; clear hFL hg2 hb2 d0 d1 d2 d3 p0 p1 p2; obtain ⟨d0, d1, d2, d3⟩ := HP2.out.box.cells; obtain ⟨p0, p1, p2⟩ := HO2.out.box.cells; simp only at d0 d1 d2 d3 p0 p1 p2)))
      have e : XS.isEmpty = false := by
        cases XS with
        | nil => exact absurd HM.out.symm hm0
        | cons _ _ => rfl
      obtain ⟨bL, oL, X, hLA, hbL, hX, z0⟩ := HFL.out.1.at_ (k := 0) (by omega)
      subst hLA
      have hhd : XS.headD 0 = X := by
        cases XS with
        | nil => cases hX
        | cons a r => simp at hX; exact hX
      have HHD := Lib.hid hhd
      rw [Nat.add_zero] at z0
      have L0 := Later.cell p0
      have Z0 := Later.cell z0
      clear d0 d1 d2 d3 p0 p1 p2 z0 hX hhd
      refine region_later (by kernel_rfl) (by kernel_rfl) ?_
      repeat (go_big_quiet_step (fail))
      refine wpQuiet_nil ?_
      rintro _ ⟨u, rfl⟩
      have HP5 := Lib.hid (HP2.out.below u.2)
      have HO5 := Lib.hid (HO2.out.below u.2)
      obtain ⟨w5, hw5⟩ : ∃ w5 : World, u.1 = w5 := ⟨_, rfl⟩
      rw [hw5] at HP5 HO5 ⊢
      clear hw5 L0 Z0
      have hbase5 := HP5.out.desk.base
      obtain ⟨d0, d1, d2, d3⟩ := HP5.out.box.cells
      obtain ⟨p0, p1, p2⟩ := HO5.out.box.cells
      simp only at d0 d1 d2 d3 p0 p1 p2
      go_wp2_with (at_builtin; go_loud (refine app_ops (.tmp 74) (.tmp 76) ((HP5.out.desk.waitN (n := nw) H2.out).alloc _) (Nat.le_trans HP5.out.desk.base (by simp)) (ROps.lit1 _ ⟨_, _, _⟩ _) (by omega) rfl rfl rfl rfl ?_; intro v8 w8 hown8 hg8 hat8; obtain ⟨A8, c8, rfl, hc8⟩ := own_form2 hown8; obtain ⟨hB8, hR8, hP8⟩ := (HP5.out.alloc (.cells #[.int .i64 tx, .int .i64 kd, .int .i64 it] 62)).waitGrown hg8 hown8 hat8; obtain ⟨q0, q1, q2, q3⟩ := hB8.cells; obtain ⟨y0, y1, y2, y3⟩ := hR8.cells; unfold DV.nil at y0 y1 y2 y3; simp only at q0 q1 q2 q3 y0 y1 y2 y3; have f1 := hB8.soft 1; have s0 := hR8.soft 0; have s1 := hR8.soft 1; have s2 := hR8.soft 2; have s3 := hR8.soft 3; have hF := hP8.outSame; simp only [putDesk] at hF; have HF := Lib.hid hF; clear hF hB8 hR8 hP8 hg8 hown8 hat8))
      obtain ⟨d0, d1, d2, d3⟩ := HF.out.2.2.cells
      simp only at d0 d1 d2 d3
      refine bodyPost_ret (v := .agg #[.slice Ad nd cd, .slice A8 (nw + 1) c8, .slice Al nl cl, .slice Ak nk ck]) (by simp [results, Try.results93, go_sem, d0, d1, d2, d3]) rfl ?_
      refine ⟨⟨.slice Ad nd cd, .slice A8 (nw + 1) c8, .slice Al nl cl, .slice Ak nk ck⟩, rfl, ?_, HF.out.2.1⟩
      have e2 : askD .wait D ⟨tx, kd, it⟩ = ⟨D.done, D.wait ++ [⟨tx, kd, it⟩], D.locks, D.dead⟩ := by
        unfold askD waitD
        simp only
        rw [HWAY.out, if_neg (by rw [e]; simp)]
      rw [e2]
      exact HF.out.1
  · have hway : wayO D.locks ⟨tx, kd, it⟩ = [] := by unfold wayO; rw [if_pos HBE.out]
    have HWAY := Lib.hid hway
    have HM : Hid (([] : List Int).length = 0) := rfl
    clear hway
    go_enter Try.func93, Try.ntmps93
    go_wp2_with (first
      | (go_at_call 89; go_loud (rw [← HW3.out]; refine (sends_any ⟨tx, kd, it⟩ _).mono ?_; rintro e w1 ⟨rfl, hb1⟩; rw [HBE.out]; have HP1 := Lib.hid ((HP0.out.alloc (.cells #[] 3)).below hb1); have HO1 := Lib.hid ((HO0.out.below ((Below.refl _ _).alloc (Nat.le_refl _) (.cells #[] 3))).below hb1); have hbase1 := HP1.out.desk.base; have hlt1 := HP1.out.lts; obtain ⟨d0, d1, d2, d3⟩ := HP1.out.box.cells; obtain ⟨p0, p1, p2⟩ := HO1.out.box.cells; simp only at d0 d1 d2 d3 p0 p1 p2; clear HP0 HO0 HW3 hb1; have hg2 := grant_any B _ _ ⟨tx, kd, it⟩ w1 HP1.out.desk (show D.locks.length ≤ 9000 by omega) (show D.done.length ≤ 9000 by omega); simp only [DV.val, OpV.val] at hg2; have HG2 := Lib.hid hg2; clear hg2))
      | (go_at_call 126; go_loud (refine HG2.out.mono ?_; rintro e w5 ⟨V5, rfl, hD5, hS5⟩; obtain ⟨Ad5, Aw5, Al5, Ak5, nd5, nw5, nl5, nk5, cd5, cw5, cl5, ck5, rfl, _⟩ := hD5.forms; obtain ⟨_, hR5, _⟩ := HP1.out.mid hS5; obtain ⟨y0, y1, y2, y3⟩ := hR5.cells; unfold DV.nil at y0 y1 y2 y3; simp only at y0 y1 y2 y3; have s0 := hR5.soft 0; have s1 := hR5.soft 1; have s2 := hR5.soft 2; have s3 := hR5.soft 3; have hF := HP1.out.out hD5 hS5; simp only [putDesk] at hF; have HF := Lib.hid hF; clear hF hS5 hD5 hR5; unfold DV.val; simp only)))
    obtain ⟨d0, d1, d2, d3⟩ := HF.out.2.2.cells
    simp only at d0 d1 d2 d3
    refine bodyPost_ret (v := .agg #[.slice Ad5 nd5 cd5, .slice Aw5 nw5 cw5, .slice Al5 nl5 cl5, .slice Ak5 nk5 ck5]) (by simp [results, Try.results93, go_sem, d0, d1, d2, d3]) rfl ?_
    refine ⟨⟨.slice Ad5 nd5 cd5, .slice Aw5 nw5 cw5, .slice Al5 nl5 cl5, .slice Ak5 nk5 ck5⟩, rfl, ?_, HF.out.2.1⟩
    have e : askD .wait D ⟨tx, kd, it⟩ = grantD D ⟨tx, kd, it⟩ := by
      unfold askD
      simp only
      rw [HWAY.out, if_pos (by first | rfl | (rw [List.eq_nil_of_length_eq_zero HM.out]; rfl))]
    rw [e]
    exact HF.out.1

set_option maxRecDepth 100000 in
set_option maxHeartbeats 1000000 in
theorem ask_die (B : Nat) (V : DV) (D : Dsk) (o : OpV) (w : World) (hd : DeskAt w B V D) (hL : D.locks.length ≤ 9000) (hN : D.done.length ≤ 9000) (hWt : D.wait.length ≤ 9000) (hDd : D.dead.length ≤ 9000) :
    Calls Try.prog 93 #[.string Rul.die.str, V.val, o.val] w (DRet w B V (askD .die D o)) := by
  obtain ⟨W, hW⟩ : ∃ W : World, W = ((w.alloc (.cells V.list.toArray 28)).alloc (.cells o.cells.toArray 62)).alloc (.cells DV.nil.list.toArray 28) := ⟨_, rfl⟩
  obtain ⟨hP0, hO0, hszW⟩ := ask_start hd hW
  obtain ⟨tx, kd, it⟩ := o
  obtain ⟨Ad, Aw, Al, Ak, nd, nw, nl, nk, cd, cw, cl, ck, rfl, hcs, h1, h2, h3, h4⟩ := hd.forms
  have H1 := Lib.hid h1
  have H2 := Lib.hid h2
  have H3 := Lib.hid h3
  have H4 := Lib.hid h4
  have HP0 := Lib.hid hP0
  have HO0 := Lib.hid hO0
  have HSZ := Lib.hid hszW
  have hbd : nd ≤ 9000 ∧ nl ≤ 9000 ∧ nw ≤ 9000 := by omega
  unfold OpV.cells DV.list DV.nil at hW
  simp only at hW
  change W = ((w.alloc (.cells #[.slice Ad nd cd, .slice Aw nw cw, .slice Al nl cl, .slice Ak nk ck] _)).alloc (.cells #[.int .i64 tx, .int .i64 kd, .int .i64 it] _)).alloc (.cells #[.slice none 0 0, .slice none 0 0, .slice none 0 0, .slice none 0 0] _) at hW
  have HW3 := Lib.hid hW
  clear hP0 hO0 hszW hd h1 h2 h3 h4 hW
  unfold DV.val OpV.val Rul.str
  simp only
  obtain ⟨be, hbe⟩ : ∃ b, isEnd ⟨tx, kd, it⟩ = b := ⟨_, rfl⟩
  have HBE := Lib.hid hbe
  clear hbe
  cases be
  · have hway : wayO D.locks ⟨tx, kd, it⟩ = inWayI D.locks tx it kd := by unfold wayO; rw [if_neg (by rw [HBE.out]; simp)]
    obtain ⟨XS, hXS⟩ : ∃ XS, inWayI D.locks tx it kd = XS := ⟨_, rfl⟩
    rw [hXS] at hway
    obtain ⟨m, hm⟩ : ∃ m, XS.length = m := ⟨_, rfl⟩
    have HXS := Lib.hid hXS
    have HM := Lib.hid hm
    have HWAY := Lib.hid hway
    clear hXS hm hway
    by_cases hm0 : m = 0
    · subst hm0
      go_enter Try.func93, Try.ntmps93
      go_wp2_with (first
        | (go_at_call 89; go_loud (rw [← HW3.out]; refine (sends_any ⟨tx, kd, it⟩ _).mono ?_; rintro e w1 ⟨rfl, hb1⟩; rw [HBE.out]; have HP1 := Lib.hid ((HP0.out.alloc (.cells #[] 3)).below hb1); have HO1 := Lib.hid ((HO0.out.below ((Below.refl _ _).alloc (Nat.le_refl _) (.cells #[] 3))).below hb1); have hbase1 := HP1.out.desk.base; have hlt1 := HP1.out.lts; obtain ⟨d0, d1, d2, d3⟩ := HP1.out.box.cells; obtain ⟨p0, p1, p2⟩ := HO1.out.box.cells; simp only at d0 d1 d2 d3 p0 p1 p2; clear HP0 HO0 HW3 hb1))
        | (go_at_call 101; go_loud (refine (inWay_any Al nl cl D.locks tx it kd w1 (ROps.of_own (HP1.out.desk.locksN (n := nl) H3.out) (by omega))).mono ?_; rw [HXS.out]; rintro e w2 ⟨LA, lc, rfl, hlc, hFL, hb2⟩; rw [HM.out] at hlc hFL ⊢; have HFL := Lib.hid hFL; have HP2 := Lib.hid (HP1.out.below hb2); have HO2 := Lib.hid (HO1.out.below hb2); have hbase2 := HP2.out.desk.base; have hlt2 := HP2.out.lts; have hg2 := grant_any B _ _ ⟨tx, kd, it⟩ w2 HP2.out.desk (show D.locks.length ≤ 9000 by omega) (show D.done.length ≤ 9000 by omega); simp only [DV.val, OpV.val] at hg2; have HG2 := Lib.hid hg2; have HB2 := Lib.hid hb2; clear hFL hg2 hb2 d0 d1 d2 d3 p0 p1 p2; obtain ⟨d0, d1, d2, d3⟩ := HP2.out.box.cells; obtain ⟨p0, p1, p2⟩ := HO2.out.box.cells; simp only at d0 d1 d2 d3 p0 p1 p2))
        | (go_at_call 126; go_loud (refine HG2.out.mono ?_; rintro e w5 ⟨V5, rfl, hD5, hS5⟩; obtain ⟨Ad5, Aw5, Al5, Ak5, nd5, nw5, nl5, nk5, cd5, cw5, cl5, ck5, rfl, _⟩ := hD5.forms; obtain ⟨_, hR5, _⟩ := HP2.out.mid hS5; obtain ⟨y0, y1, y2, y3⟩ := hR5.cells; unfold DV.nil at y0 y1 y2 y3; simp only at y0 y1 y2 y3; have s0 := hR5.soft 0; have s1 := hR5.soft 1; have s2 := hR5.soft 2; have s3 := hR5.soft 3; have hF := HP2.out.out hD5 hS5; simp only [putDesk] at hF; have HF := Lib.hid hF; clear hF hS5 hD5 hR5; unfold DV.val; simp only)))
      obtain ⟨d0, d1, d2, d3⟩ := HF.out.2.2.cells
      simp only at d0 d1 d2 d3
      refine bodyPost_ret (v := .agg #[.slice Ad5 nd5 cd5, .slice Aw5 nw5 cw5, .slice Al5 nl5 cl5, .slice Ak5 nk5 ck5]) (by simp [results, Try.results93, go_sem, d0, d1, d2, d3]) rfl ?_
      refine ⟨⟨.slice Ad5 nd5 cd5, .slice Aw5 nw5 cw5, .slice Al5 nl5 cl5, .slice Ak5 nk5 ck5⟩, rfl, ?_, HF.out.2.1⟩
      have e : askD .die D ⟨tx, kd, it⟩ = grantD D ⟨tx, kd, it⟩ := by
        unfold askD
        simp only
        rw [HWAY.out, if_pos (by first | rfl | (rw [List.eq_nil_of_length_eq_zero HM.out]; rfl))]
      rw [e]
      exact HF.out.1
    · go_enter Try.func93, Try.ntmps93
      go_wp2_with (first
        | (go_at_call 89; go_loud (rw [← HW3.out]; refine (sends_any ⟨tx, kd, it⟩ _).mono ?_; rintro e w1 ⟨rfl, hb1⟩; rw [HBE.out]; have HP1 := Lib.hid ((HP0.out.alloc (.cells #[] 3)).below hb1); have HO1 := Lib.hid ((HO0.out.below ((Below.refl _ _).alloc (Nat.le_refl _) (.cells #[] 3))).below hb1); have hbase1 := HP1.out.desk.base; have hlt1 := HP1.out.lts; obtain ⟨d0, d1, d2, d3⟩ := HP1.out.box.cells; obtain ⟨p0, p1, p2⟩ := HO1.out.box.cells; simp only at d0 d1 d2 d3 p0 p1 p2; clear HP0 HO0 HW3 hb1))
        | (go_at_call 101; go_loud (refine (inWay_any Al nl cl D.locks tx it kd w1 (ROps.of_own (HP1.out.desk.locksN (n := nl) H3.out) (by omega))).mono ?_; rw [HXS.out]; rintro e w2 ⟨LA, lc, rfl, hlc, hFL, hb2⟩; rw [HM.out] at hlc hFL ⊢; have HFL := Lib.hid hFL; have HP2 := Lib.hid (HP1.out.below hb2); have HO2 := Lib.hid (HO1.out.below hb2); have hbase2 := HP2.out.desk.base; have hlt2 := HP2.out.lts; have hg2 := grant_any B _ _ ⟨tx, kd, it⟩ w2 HP2.out.desk (show D.locks.length ≤ 9000 by omega) (show D.done.length ≤ 9000 by omega); simp only [DV.val, OpV.val] at hg2; have HG2 := Lib.hid hg2; have HB2 := Lib.hid hb2; clear hFL hg2 hb2 d0 d1 d2 d3 p0 p1 p2; obtain ⟨d0, d1, d2, d3⟩ := HP2.out.box.cells; obtain ⟨p0, p1, p2⟩ := HO2.out.box.cells; simp only at d0 d1 d2 d3 p0 p1 p2)))
      have e : XS.isEmpty = false := by
        cases XS with
        | nil => exact absurd HM.out.symm hm0
        | cons _ _ => rfl
      obtain ⟨bL, oL, X, hLA, hbL, hX, z0⟩ := HFL.out.1.at_ (k := 0) (by omega)
      subst hLA
      have hhd : XS.headD 0 = X := by
        cases XS with
        | nil => cases hX
        | cons a r => simp at hX; exact hX
      have HHD := Lib.hid hhd
      rw [Nat.add_zero] at z0
      have L0 := Later.cell p0
      have Z0 := Later.cell z0
      clear d0 d1 d2 d3 p0 p1 p2 z0 hX hhd
      by_cases hx : X < tx
      · have hxb : decide (X < tx) = true := by simp [hx]
        refine region_later (by kernel_rfl) (by kernel_rfl) ?_
        repeat (go_big_quiet_step (fail))
        refine wpQuiet_nil ?_
        rintro _ ⟨u, rfl⟩
        have HP5 := Lib.hid (HP2.out.below u.2)
        have HO5 := Lib.hid (HO2.out.below u.2)
        obtain ⟨w5, hw5⟩ : ∃ w5 : World, u.1 = w5 := ⟨_, rfl⟩
        rw [hw5] at HP5 HO5 ⊢
        clear hw5 L0 Z0
        have hbase5 := HP5.out.desk.base
        obtain ⟨d0, d1, d2, d3⟩ := HP5.out.box.cells
        obtain ⟨p0, p1, p2⟩ := HO5.out.box.cells
        simp only at d0 d1 d2 d3 p0 p1 p2
        have hk2 := kill_any B _ _ tx w5 HP5.out.desk (show D.locks.length ≤ 9000 by omega) (show D.done.length ≤ 9000 ∧ D.wait.length ≤ 9000 ∧ D.dead.length ≤ 9000 by omega)
        simp only [DV.val] at hk2
        have HK2 := Lib.hid hk2
        clear hk2
        go_wp2_with (go_at_call 127; go_loud (refine HK2.out.mono ?_; rintro e w5 ⟨V5, rfl, hD5, hS5⟩; obtain ⟨Ad5, Aw5, Al5, Ak5, nd5, nw5, nl5, nk5, cd5, cw5, cl5, ck5, rfl, _⟩ := hD5.forms; obtain ⟨_, hR5, _⟩ := HP5.out.mid hS5; obtain ⟨y0, y1, y2, y3⟩ := hR5.cells; unfold DV.nil at y0 y1 y2 y3; simp only at y0 y1 y2 y3; have s0 := hR5.soft 0; have s1 := hR5.soft 1; have s2 := hR5.soft 2; have s3 := hR5.soft 3; have hF := HP5.out.out hD5 hS5; simp only [putDesk] at hF; have HF := Lib.hid hF; clear hF hS5 hD5 hR5; unfold DV.val; simp only))
        obtain ⟨d0, d1, d2, d3⟩ := HF.out.2.2.cells
        simp only at d0 d1 d2 d3
        refine bodyPost_ret (v := .agg #[.slice Ad5 nd5 cd5, .slice Aw5 nw5 cw5, .slice Al5 nl5 cl5, .slice Ak5 nk5 ck5]) (by simp [results, Try.results93, go_sem, d0, d1, d2, d3]) rfl ?_
        refine ⟨⟨.slice Ad5 nd5 cd5, .slice Aw5 nw5 cw5, .slice Al5 nl5 cl5, .slice Ak5 nk5 ck5⟩, rfl, ?_, HF.out.2.1⟩
        have e2 : askD .die D ⟨tx, kd, it⟩ = killD D tx := by
          unfold askD
          simp only
          rw [HWAY.out, if_neg (by rw [e]; simp), HHD.out, if_pos hx]
        rw [e2]
        exact HF.out.1
      · have hxb : decide (X < tx) = false := by simp; omega
        refine region_later (by kernel_rfl) (by kernel_rfl) ?_
        repeat (go_big_quiet_step (fail))
        refine wpQuiet_nil ?_
        rintro _ ⟨u, rfl⟩
        have HP5 := Lib.hid (HP2.out.below u.2)
        have HO5 := Lib.hid (HO2.out.below u.2)
        obtain ⟨w5, hw5⟩ : ∃ w5 : World, u.1 = w5 := ⟨_, rfl⟩
        rw [hw5] at HP5 HO5 ⊢
        clear hw5 L0 Z0
        have hbase5 := HP5.out.desk.base
        obtain ⟨d0, d1, d2, d3⟩ := HP5.out.box.cells
        obtain ⟨p0, p1, p2⟩ := HO5.out.box.cells
        simp only at d0 d1 d2 d3 p0 p1 p2
        go_wp2_with (at_builtin; go_loud (refine app_ops (.tmp 74) (.tmp 76) ((HP5.out.desk.waitN (n := nw) H2.out).alloc _) (Nat.le_trans HP5.out.desk.base (by simp)) (ROps.lit1 _ ⟨_, _, _⟩ _) (by omega) rfl rfl rfl rfl ?_; intro v8 w8 hown8 hg8 hat8; obtain ⟨A8, c8, rfl, hc8⟩ := own_form2 hown8; obtain ⟨hB8, hR8, hP8⟩ := (HP5.out.alloc (.cells #[.int .i64 tx, .int .i64 kd, .int .i64 it] 62)).waitGrown hg8 hown8 hat8; obtain ⟨q0, q1, q2, q3⟩ := hB8.cells; obtain ⟨y0, y1, y2, y3⟩ := hR8.cells; unfold DV.nil at y0 y1 y2 y3; simp only at q0 q1 q2 q3 y0 y1 y2 y3; have f1 := hB8.soft 1; have s0 := hR8.soft 0; have s1 := hR8.soft 1; have s2 := hR8.soft 2; have s3 := hR8.soft 3; have hF := hP8.outSame; simp only [putDesk] at hF; have HF := Lib.hid hF; clear hF hB8 hR8 hP8 hg8 hown8 hat8))
        obtain ⟨d0, d1, d2, d3⟩ := HF.out.2.2.cells
        simp only at d0 d1 d2 d3
        refine bodyPost_ret (v := .agg #[.slice Ad nd cd, .slice A8 (nw + 1) c8, .slice Al nl cl, .slice Ak nk ck]) (by simp [results, Try.results93, go_sem, d0, d1, d2, d3]) rfl ?_
        refine ⟨⟨.slice Ad nd cd, .slice A8 (nw + 1) c8, .slice Al nl cl, .slice Ak nk ck⟩, rfl, ?_, HF.out.2.1⟩
        have e2 : askD .die D ⟨tx, kd, it⟩ = ⟨D.done, D.wait ++ [⟨tx, kd, it⟩], D.locks, D.dead⟩ := by
          unfold askD waitD
          simp only
          rw [HWAY.out, if_neg (by rw [e]; simp), HHD.out, if_neg (by omega)]
        rw [e2]
        exact HF.out.1
  · have hway : wayO D.locks ⟨tx, kd, it⟩ = [] := by unfold wayO; rw [if_pos HBE.out]
    have HWAY := Lib.hid hway
    have HM : Hid (([] : List Int).length = 0) := rfl
    clear hway
    go_enter Try.func93, Try.ntmps93
    go_wp2_with (first
      | (go_at_call 89; go_loud (rw [← HW3.out]; refine (sends_any ⟨tx, kd, it⟩ _).mono ?_; rintro e w1 ⟨rfl, hb1⟩; rw [HBE.out]; have HP1 := Lib.hid ((HP0.out.alloc (.cells #[] 3)).below hb1); have HO1 := Lib.hid ((HO0.out.below ((Below.refl _ _).alloc (Nat.le_refl _) (.cells #[] 3))).below hb1); have hbase1 := HP1.out.desk.base; have hlt1 := HP1.out.lts; obtain ⟨d0, d1, d2, d3⟩ := HP1.out.box.cells; obtain ⟨p0, p1, p2⟩ := HO1.out.box.cells; simp only at d0 d1 d2 d3 p0 p1 p2; clear HP0 HO0 HW3 hb1; have hg2 := grant_any B _ _ ⟨tx, kd, it⟩ w1 HP1.out.desk (show D.locks.length ≤ 9000 by omega) (show D.done.length ≤ 9000 by omega); simp only [DV.val, OpV.val] at hg2; have HG2 := Lib.hid hg2; clear hg2))
      | (go_at_call 126; go_loud (refine HG2.out.mono ?_; rintro e w5 ⟨V5, rfl, hD5, hS5⟩; obtain ⟨Ad5, Aw5, Al5, Ak5, nd5, nw5, nl5, nk5, cd5, cw5, cl5, ck5, rfl, _⟩ := hD5.forms; obtain ⟨_, hR5, _⟩ := HP1.out.mid hS5; obtain ⟨y0, y1, y2, y3⟩ := hR5.cells; unfold DV.nil at y0 y1 y2 y3; simp only at y0 y1 y2 y3; have s0 := hR5.soft 0; have s1 := hR5.soft 1; have s2 := hR5.soft 2; have s3 := hR5.soft 3; have hF := HP1.out.out hD5 hS5; simp only [putDesk] at hF; have HF := Lib.hid hF; clear hF hS5 hD5 hR5; unfold DV.val; simp only)))
    obtain ⟨d0, d1, d2, d3⟩ := HF.out.2.2.cells
    simp only at d0 d1 d2 d3
    refine bodyPost_ret (v := .agg #[.slice Ad5 nd5 cd5, .slice Aw5 nw5 cw5, .slice Al5 nl5 cl5, .slice Ak5 nk5 ck5]) (by simp [results, Try.results93, go_sem, d0, d1, d2, d3]) rfl ?_
    refine ⟨⟨.slice Ad5 nd5 cd5, .slice Aw5 nw5 cw5, .slice Al5 nl5 cl5, .slice Ak5 nk5 ck5⟩, rfl, ?_, HF.out.2.1⟩
    have e : askD .die D ⟨tx, kd, it⟩ = grantD D ⟨tx, kd, it⟩ := by
      unfold askD
      simp only
      rw [HWAY.out, if_pos (by first | rfl | (rw [List.eq_nil_of_length_eq_zero HM.out]; rfl))]
    rw [e]
    exact HF.out.1

end Go.Proofs.Ytncebpmckbcabaa
