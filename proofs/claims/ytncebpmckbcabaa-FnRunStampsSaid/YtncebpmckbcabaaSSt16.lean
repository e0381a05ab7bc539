/-
  Texts that the proof rests on, joined: part 16.
-/
import Derived.Conc.MuLone
import Derived.WalkKit
import Derived.StillTailTactics
import Derived.Test.YtncebpmckbcabaaSSt2
import Derived.Test.YtncebpmckbcabaaSSt9
import Derived.Test.YtncebpmckbcabaaSSt15
namespace Go.Proofs.Ytncebpmckbcabaa
open Go.RowKit Go.BigFrame Go.MuLone
set_option linter.unusedVariables false

def accF (rd wr : List Int) (o : OpV) (p : Int) (skip : Bool) : Int × List Int × List Int :=
  if !isAcc o then (0, rd, wr)
  else if o.kind == 0 then (if p < at3 wr o.item then (2, rd, wr) else (0, rd.set o.item.toNat (max (at3 rd o.item) p), wr))
  else if p < at3 rd o.item then (2, rd, wr)
  else if p < at3 wr o.item then (if skip then (1, rd, wr) else (2, rd, wr))
  else (0, rd, wr.set o.item.toNat p)
theorem Only.drew' {g : Nat} {a w : World} (h : Only g a w) : Only g a w.drew := by
  obtain ⟨h1, h2, h3, h4, h5⟩ := h
  exact ⟨h1, h2, h3, h4, h5⟩
theorem three {L : List Int} (h : L.length = 3) : ∃ a b c, L = [a, b, c] := by
  match L, h with
  | [a, b, c], _ => exact ⟨a, b, c, rfl⟩
theorem marksV_rd {l : Int} {rd wr : List Int} (hr : rd.length = 3) {x : Nat} (hx : x < 3) : (marksV l rd wr)[2 + x]? = some (.int .i64 (at3 rd (x : Int))) := by
  obtain ⟨a, b, c, rfl⟩ := three hr
  rcases (by omega : x = 0 ∨ x = 1 ∨ x = 2) with rfl | rfl | rfl <;> rfl
theorem marksV_wr {l : Int} {rd wr : List Int} (hr : rd.length = 3) (hw : wr.length = 3) {x : Nat} (hx : x < 3) : (marksV l rd wr)[5 + x]? = some (.int .i64 (at3 wr (x : Int))) := by
  obtain ⟨a, b, c, rfl⟩ := three hr
  obtain ⟨d, e, f, rfl⟩ := three hw
  rcases (by omega : x = 0 ∨ x = 1 ∨ x = 2) with rfl | rfl | rfl <;> rfl
theorem marksV_setR {l : Int} {rd wr : List Int} (hr : rd.length = 3) {x : Nat} (hx : x < 3) (v : Int) : (marksV l rd wr).set (2 + x) (.int .i64 v) = marksV l (rd.set x v) wr := by
  obtain ⟨a, b, c, rfl⟩ := three hr
  rcases (by omega : x = 0 ∨ x = 1 ∨ x = 2) with rfl | rfl | rfl <;> rfl
theorem marksV_setW {l : Int} {rd wr : List Int} (hr : rd.length = 3) (hw : wr.length = 3) {x : Nat} (hx : x < 3) (v : Int) : (marksV l rd wr).set (5 + x) (.int .i64 v) = marksV l rd (wr.set x v) := by
  obtain ⟨a, b, c, rfl⟩ := three hr
  obtain ⟨d, e, f, rfl⟩ := three hw
  rcases (by omega : x = 0 ∨ x = 1 ∨ x = 2) with rfl | rfl | rfl <;> rfl
theorem MarksAt.lock {w : World} {m : Nat} {l : Int} {rd wr : List Int} (h : MarksAt w m l rd wr) (l' : Int) : MarksAt (w.setCell ⟨m, 0, none⟩ (.int .i32 l')) m l' rd wr := RowIs.set h 0 (.int .i32 l')
set_option maxRecDepth 100000 in
set_option maxHeartbeats 4000000 in
theorem marksAccess_any (m : Nat) (o : OpV) (p : Int) (skip : Bool) (rd wr : List Int) (w : World) (hM : MarksAt w m 0 rd wr) (hr : rd.length = 3) (hw : wr.length = 3) (hv : validOp o = true) :
    Calls Try.prog 83 #[.pointer (some ⟨m, 0, none⟩), o.val, .int .i64 p, .bool skip] w fun e w' => e = .returned (.int .i64 (accF rd wr o p skip).1) ∧ MarksAt w' m 0 (accF rd wr o p skip).2.1 (accF rd wr o p skip).2.2 ∧ Only m w w' := by
  have hml := RowIs.lt hM
  obtain ⟨ac, hac⟩ : ∃ z, isAcc o = z := ⟨_, rfl⟩
  have hAC : ∀ W : World, Calls Try.prog 111 #[o.val] W fun e w' => e = .returned (.bool ac) ∧ Below W.heap.size W w' := fun W => by
    have := access_any o W; rw [hac] at this; exact this
  have hkd : (ac = true → o.kind = 0 ∨ o.kind = 1) := fun h => by
    rw [h] at hac; unfold isAcc at hac; simpa using hac
  have hit : ac = true → 0 ≤ o.item ∧ o.item ≤ 2 := fun h => by
    unfold validOp at hv
    have he : isEnd o = false := by
      have := hkd h
      unfold isEnd
      rw [Bool.or_eq_false_iff, beq_eq_false_iff_ne, beq_eq_false_iff_ne]
      omega
    rw [hac, h, he] at hv
    unfold inR at hv
    simp only [Bool.and_eq_true, decide_eq_true_eq, Bool.true_and, Bool.false_and, Bool.or_false] at hv
    exact hv.2
  obtain ⟨F, hF⟩ : ∃ F, accF rd wr o p skip = F := ⟨_, rfl⟩
  rw [hF]
  unfold accF at hF
  rw [hac] at hF
  obtain ⟨tx, kd, it⟩ := o
  simp only [OpV.val] at hAC hkd hit hF ⊢
  obtain ⟨W, hW⟩ : ∃ W : World, W = w.alloc (.cells #[.int .i64 tx, .int .i64 kd, .int .i64 it] 62) := ⟨_, rfl⟩
  obtain ⟨L0, L1, L2, hbW, hWs⟩ := op_box hW
  have hMW : MarksAt W m 0 rd wr := RowIs.below hM hbW (Nat.le_refl _)
  have k0 : (w.alloc (.cells #[.int .i64 tx, .int .i64 kd, .int .i64 it] 62)).cell? ⟨m, 0, none⟩ = some (.int .i32 0) := by rw [← hW]; exact RowIs.cell hMW rfl
  have z0 : (w.alloc (.cells #[.int .i64 tx, .int .i64 kd, .int .i64 it] 62)).frozen? ⟨m, 0, none⟩ = false := by rw [← hW]; exact RowIs.frozen hMW 0
  obtain ⟨V, hV⟩ : ∃ V : World, V = (w.setCell ⟨m, 0, none⟩ (.int .i32 1)).alloc (.cells #[.int .i64 tx, .int .i64 kd, .int .i64 it] 62) := ⟨_, rfl⟩
  have hMV : MarksAt V m 1 rd wr := by rw [hV]; exact RowIs.alloc (hM.lock 1) _
  have hOV : Only m w V := by rw [hV]; exact ((Only.refl m w).setCell (.inl rfl) _).alloc _
  have hsz : (w.setCell ⟨m, 0, none⟩ (.int .i32 1)).heap.size = w.heap.size := by simp [World.setCell]
  obtain ⟨K0, K1, K2, _, hVs⟩ := op_box hV
  rw [hsz] at K0 K1 K2 hVs
  have v0 := K0 ⟨V, Below.refl _ _⟩
  have v1 := K1 ⟨V, Below.refl _ _⟩
  have v2 := K2 ⟨V, Below.refl _ _⟩
  simp only at v0 v1 v2
  have x0 := v0
  have x1 := v1
  have x2 := v2
  rw [hV] at x0 x1 x2
  have HV := Lib.hid hV
  have HAC := Lib.hid hAC
  have HF := Lib.hid hF
  clear hAC hac hF hv hMW hV L0 L1 L2 hbW hWs hM hW K0 K1 K2 hsz
  go_enter_defers Try.func83, Try.ntmps83
  go_wp2_with (go_at_call 117; refine (lock_free muLib ⟨m, 0, none⟩ _ k0 z0).mono ?_; rintro e w' ⟨rfl, rfl⟩)
  rw [← HV.out]
  have HW0 := Lib.hid hMV
  refine (HAC.out V).mono ?_
  rintro e w2 ⟨rfl, hb2⟩
  have hM2 : MarksAt w2 m 1 rd wr := RowIs.below hMV hb2 (Nat.le_refl _)
  have hO2 : Only m w w2 := hOV.trans (Only.of_below hb2)
  have y0 := (hb2.cell (p := ⟨w.heap.size, 0, none⟩) hVs).trans v0
  have y1 := (hb2.cell (p := ⟨w.heap.size, 1, none⟩) hVs).trans v1
  have y2 := (hb2.cell (p := ⟨w.heap.size, 2, none⟩) hVs).trans v2
  have hMU := Lib.hid hM2
  have hOU := Lib.hid hO2
  clear HV HAC HW0 v0 v1 v2 x0 x1 x2 k0 z0 hMV hOV hM2 hO2 hb2 hVs
  cases ac
  · have hf : Hid (F = (0, rd, wr)) := HF.out.symm
    clear HF y0 y1 y2
    go_wp2_with fail
    refine leaves_cons (f := 118) (args := #[.pointer (some ⟨m, 0, none⟩)]) (by simp) (by simp [go_sem]) ?_
    refine (unlock_deferred muLib ⟨m, 0, none⟩ .returning _ (RowIs.cell hMU.out rfl) (RowIs.frozen hMU.out 0)).mono ?_
    rintro e u' w'' ⟨rfl, rfl, rfl⟩
    exact ⟨_, results_tmp rfl _ _ _, by rw [hf.out]; rfl, by rw [hf.out]; exact MarksAt.lock hMU.out 0, hOU.out.setCell (.inl rfl) _⟩
  · obtain ⟨h0, h2⟩ := hit rfl
    have hk := hkd rfl
    obtain ⟨x, rfl⟩ := Int.eq_ofNat_of_zero_le h0
    have hx : x < 3 := by omega
    have hx3 : (x : Int) < 3 := by omega
    obtain ⟨r, hrv⟩ : ∃ r, at3 rd (x : Int) = r := ⟨_, rfl⟩
    obtain ⟨q, hqv⟩ : ∃ q, at3 wr (x : Int) = q := ⟨_, rfl⟩
    have c2 : w2.cell? ⟨m, 2 + x, none⟩ = some (.int .i64 r) := by rw [← hrv]; exact RowIs.cell hMU.out (marksV_rd hr hx)
    have c5 : w2.cell? ⟨m, 5 + x, none⟩ = some (.int .i64 q) := by rw [← hqv]; exact RowIs.cell hMU.out (marksV_wr hr hw hx)
    simp only [hrv, hqv, Int.toNat_natCast, Bool.not_true, Bool.false_eq_true, if_false] at HF
    have Y0 := Later.cell y0
    have Y1 := Later.cell y1
    have Y2 := Later.cell y2
    have C2 := Later.cell c2
    have C5 := Later.cell c5
    clear hkd hit hrv hqv h2
    rcases hk with rfl | rfl
    · simp only [beq_self_eq_true, if_true] at HF
      by_cases hpq : p < q
      · have hf : Hid (F = (2, rd, wr)) := by have := HF.out; rw [if_pos hpq] at this; exact this.symm
        have hd : decide (p < q) = true := decide_eq_true hpq
        clear HF
        go_wp2_with fail
        refine region_later (by kernel_rfl) (by kernel_rfl) ?_
        repeat (go_big_quiet_step (fail))
        refine wpQuiet_nil ?_
        rintro _ ⟨u, rfl⟩
        have hM3 : Hid (MarksAt u.1 m 1 rd wr) := RowIs.below hMU.out u.2 (Nat.le_refl _)
        have hO3 : Hid (Only m w u.1) := hOU.out.trans (Only.of_below u.2)
        go_wp2_with fail
        refine leaves_cons (f := 118) (args := #[.pointer (some ⟨m, 0, none⟩)]) (by simp) (by simp [go_sem]) ?_
        refine (unlock_deferred muLib ⟨m, 0, none⟩ .returning _ (RowIs.cell hM3.out rfl) (RowIs.frozen hM3.out 0)).mono ?_
        rintro e u' w'' ⟨rfl, rfl, rfl⟩
        exact ⟨_, results_tmp rfl _ _ _, by rw [hf.out]; rfl, by rw [hf.out]; exact MarksAt.lock hM3.out 0, hO3.out.setCell (.inl rfl) _⟩
      · have hf : Hid (F = (0, rd.set x (max r p), wr)) := by have := HF.out; rw [if_neg hpq] at this; exact this.symm
        have hd : decide (p < q) = false := decide_eq_false hpq
        clear HF
        go_wp2_with fail
        refine region_later (by kernel_rfl) (by kernel_rfl) ?_
        repeat (go_big_quiet_step (fail))
        refine wpQuiet_nil ?_
        rintro _ ⟨u, rfl⟩
        have hM3 : Hid (MarksAt u.1 m 1 rd wr) := RowIs.below hMU.out u.2 (Nat.le_refl _)
        have hO3 : Hid (Only m w u.1) := hOU.out.trans (Only.of_below u.2)
        have l0 := Y0 u
        have l1 := Y1 u
        have l2 := Y2 u
        have d2 := C2 u
        have zz : u.1.frozen? ⟨m, 2 + x, none⟩ = false := RowIs.frozen hM3.out _
        obtain ⟨wu, hwu⟩ : ∃ wu, u.1 = wu := ⟨_, rfl⟩
        rw [hwu] at hM3 hO3 l0 l1 l2 d2 zz ⊢
        clear Y0 Y1 Y2 C2 C5 y0 y1 y2 c2 c5 hwu
        go_wp2_with fail
        have e2 : wu.drew.cell? ⟨m, 2 + x, none⟩ = some (.int .i64 r) := d2
        have ez : wu.drew.frozen? ⟨m, 2 + x, none⟩ = false := zz
        clear zz
        refine wp_region_still_tail 15 (by kernel_rfl) (by kernel_rfl) ?_
        simp only [List.take_succ_cons, List.take_zero, List.drop_succ_cons, List.drop_zero]
        repeat (first | still_step | fail)
        refine wpStill_nil ?_
        change wpList _ _ _ _ _ wu.drew
        go_wp2_with fail
        have hM4 : MarksAt ((wu.setCell ⟨m, 2 + x, none⟩ (.int .i64 (max r p))).drew) m 1 (rd.set x (max r p)) wr := by
          have := RowIs.set hM3.out (2 + x) (.int .i64 (max r p))
          rw [marksV_setR hr hx] at this
          exact this
        have hO4 : Only m w ((wu.setCell ⟨m, 2 + x, none⟩ (.int .i64 (max r p))).drew) := by
          exact (hO3.out.setCell (p := ⟨m, 2 + x, none⟩) (.inl rfl) (.int .i64 (max r p))).drew'
        have HM4 := Lib.hid hM4
        have HO4 := Lib.hid hO4
        clear hM4 hO4
        refine leaves_cons (f := 118) (args := #[.pointer (some ⟨m, 0, none⟩)]) (by simp) (by simp [go_sem]) ?_
        refine (unlock_deferred muLib ⟨m, 0, none⟩ .returning _ (RowIs.cell HM4.out rfl) (RowIs.frozen HM4.out 0)).mono ?_
        rintro e u' w'' ⟨rfl, rfl, rfl⟩
        exact ⟨_, results_tmp rfl _ _ _, by rw [hf.out]; rfl, by rw [hf.out]; exact MarksAt.lock HM4.out 0, HO4.out.setCell (.inl rfl) _⟩
    · simp only [show ((1 : Int) == 0) = false from rfl, Bool.false_eq_true, if_false] at HF
      clear y0 y1 y2 c2 c5
      by_cases hpr : p < r
      · have hf : Hid (F = (2, rd, wr)) := by have := HF.out; rw [if_pos hpr] at this; exact this.symm
        have hd : decide (p < r) = true := decide_eq_true hpr
        clear HF
        have l1 := Y1 ⟨_, Below.refl _ _⟩
        simp only at l1
        go_wp2_with fail
        refine region_later (by kernel_rfl) (by kernel_rfl) ?_
        repeat (go_big_quiet_step (fail))
        refine wpQuiet_nil ?_
        rintro _ ⟨u, rfl⟩
        obtain ⟨wu, hwu⟩ : ∃ wu, u.1 = wu := ⟨_, rfl⟩
        have hM3 : Hid (MarksAt wu m 1 rd wr) := by rw [← hwu]; exact RowIs.below hMU.out u.2 (Nat.le_refl _)
        have hO3 : Hid (Only m w wu) := by rw [← hwu]; exact hOU.out.trans (Only.of_below u.2)
        have l0 := Y0 u
        have l1 := Y1 u
        have l2 := Y2 u
        have d2 := C2 u
        have d5 := C5 u
        rw [hwu] at l0 l1 l2 d2 d5
        rw [hwu]
        clear Y0 Y1 Y2 C2 C5 hwu u
        have Y0 := Later.cell l0
        have Y1 := Later.cell l1
        have Y2 := Later.cell l2
        have C2 := Later.cell d2
        have C5 := Later.cell d5
        clear l0 l2 d2 d5
        go_wp2_with fail
        refine region_later (by kernel_rfl) (by kernel_rfl) ?_
        repeat (go_big_quiet_step (fail))
        refine wpQuiet_nil ?_
        rintro _ ⟨v, rfl⟩
        obtain ⟨wv, hwv⟩ : ∃ wv, v.1 = wv := ⟨_, rfl⟩
        have hM5 : Hid (MarksAt wv m 1 rd wr) := by rw [← hwv]; exact RowIs.below hM3.out v.2 (Nat.le_refl _)
        have hO5 : Hid (Only m w wv) := by rw [← hwv]; exact hO3.out.trans (Only.of_below v.2)
        have l0 := Y0 v
        have l1 := Y1 v
        have l2 := Y2 v
        have d2 := C2 v
        have d5 := C5 v
        rw [hwv] at l0 l1 l2 d2 d5
        rw [hwv]
        clear Y0 Y1 Y2 C2 C5 hwv v
        have Y0 := Later.cell l0
        have Y1 := Later.cell l1
        have Y2 := Later.cell l2
        have C2 := Later.cell d2
        have C5 := Later.cell d5
        clear l0 l1 l2 d2 d5
        go_wp2_with fail
        refine leaves_cons (f := 118) (args := #[.pointer (some ⟨m, 0, none⟩)]) (by simp) (by simp [go_sem]) ?_
        refine (unlock_deferred muLib ⟨m, 0, none⟩ .returning _ (RowIs.cell hM5.out rfl) (RowIs.frozen hM5.out 0)).mono ?_
        rintro e u' w'' ⟨rfl, rfl, rfl⟩
        exact ⟨_, results_tmp rfl _ _ _, by rw [hf.out]; rfl, by rw [hf.out]; exact MarksAt.lock hM5.out 0, hO5.out.setCell (.inl rfl) _⟩
      · have hd : decide (p < r) = false := decide_eq_false hpr
        rw [if_neg hpr] at HF
        by_cases hpq : p < q
        · rw [if_pos hpq] at HF
          have hd2 : decide (p < q) = true := decide_eq_true hpq
          cases skip
          · have hf : Hid (F = (2, rd, wr)) := by have := HF.out; simp only [Bool.false_eq_true, if_false] at this; exact this.symm
            clear HF
            have l1 := Y1 ⟨_, Below.refl _ _⟩
            simp only at l1
            go_wp2_with fail
            refine region_later (by kernel_rfl) (by kernel_rfl) ?_
            repeat (go_big_quiet_step (fail))
            refine wpQuiet_nil ?_
            rintro _ ⟨u, rfl⟩
            obtain ⟨wu, hwu⟩ : ∃ wu, u.1 = wu := ⟨_, rfl⟩
            have hM3 : Hid (MarksAt wu m 1 rd wr) := by rw [← hwu]; exact RowIs.below hMU.out u.2 (Nat.le_refl _)
            have hO3 : Hid (Only m w wu) := by rw [← hwu]; exact hOU.out.trans (Only.of_below u.2)
            have l0 := Y0 u
            have l1 := Y1 u
            have l2 := Y2 u
            have d2 := C2 u
            have d5 := C5 u
            rw [hwu] at l0 l1 l2 d2 d5
            rw [hwu]
            clear Y0 Y1 Y2 C2 C5 hwu u
            have Y0 := Later.cell l0
            have Y1 := Later.cell l1
            have Y2 := Later.cell l2
            have C2 := Later.cell d2
            have C5 := Later.cell d5
            clear l0 l2 d2 d5
            go_wp2_with fail
            refine region_later (by kernel_rfl) (by kernel_rfl) ?_
            repeat (go_big_quiet_step (fail))
            refine wpQuiet_nil ?_
            rintro _ ⟨v, rfl⟩
            obtain ⟨wv, hwv⟩ : ∃ wv, v.1 = wv := ⟨_, rfl⟩
            have hM5 : Hid (MarksAt wv m 1 rd wr) := by rw [← hwv]; exact RowIs.below hM3.out v.2 (Nat.le_refl _)
            have hO5 : Hid (Only m w wv) := by rw [← hwv]; exact hO3.out.trans (Only.of_below v.2)
            have l0 := Y0 v
            have l1 := Y1 v
            have l2 := Y2 v
            have d2 := C2 v
            have d5 := C5 v
            rw [hwv] at l0 l1 l2 d2 d5
            rw [hwv]
            clear Y0 Y1 Y2 C2 C5 hwv v
            have Y0 := Later.cell l0
            have Y1 := Later.cell l1
            have Y2 := Later.cell l2
            have C2 := Later.cell d2
            have C5 := Later.cell d5
            clear l0 l2 d2 d5
            go_wp2_with fail
            refine region_later (by kernel_rfl) (by kernel_rfl) ?_
            repeat (go_big_quiet_step (fail))
            refine wpQuiet_nil ?_
            rintro _ ⟨y, rfl⟩
            obtain ⟨wy, hwy⟩ : ∃ wy, y.1 = wy := ⟨_, rfl⟩
            have hM6 : Hid (MarksAt wy m 1 rd wr) := by rw [← hwy]; exact RowIs.below hM5.out y.2 (Nat.le_refl _)
            have hO6 : Hid (Only m w wy) := by rw [← hwy]; exact hO5.out.trans (Only.of_below y.2)
            have l0 := Y0 y
            have l1 := Y1 y
            have l2 := Y2 y
            have d2 := C2 y
            have d5 := C5 y
            rw [hwy] at l0 l1 l2 d2 d5
            rw [hwy]
            clear Y0 Y1 Y2 C2 C5 hwy y
            have Y0 := Later.cell l0
            have Y1 := Later.cell l1
            have Y2 := Later.cell l2
            have C2 := Later.cell d2
            have C5 := Later.cell d5
            clear l0 l2 d2 d5
            go_wp2_with fail
            refine region_later (by kernel_rfl) (by kernel_rfl) ?_
            repeat (go_big_quiet_step (fail))
            refine wpQuiet_nil ?_
            rintro _ ⟨z, rfl⟩
            obtain ⟨wz, hwz⟩ : ∃ wz, z.1 = wz := ⟨_, rfl⟩
            have hM7 : Hid (MarksAt wz m 1 rd wr) := by rw [← hwz]; exact RowIs.below hM6.out z.2 (Nat.le_refl _)
            have hO7 : Hid (Only m w wz) := by rw [← hwz]; exact hO6.out.trans (Only.of_below z.2)
            have l0 := Y0 z
            have l1 := Y1 z
            have l2 := Y2 z
            have d2 := C2 z
            have d5 := C5 z
            rw [hwz] at l0 l1 l2 d2 d5
            rw [hwz]
            clear Y0 Y1 Y2 C2 C5 hwz z
            have Y0 := Later.cell l0
            have Y1 := Later.cell l1
            have Y2 := Later.cell l2
            have C2 := Later.cell d2
            have C5 := Later.cell d5
            clear l0 l2 d2 d5
            go_wp2_with fail
            refine leaves_cons (f := 118) (args := #[.pointer (some ⟨m, 0, none⟩)]) (by simp) (by simp [go_sem]) ?_
            refine (unlock_deferred muLib ⟨m, 0, none⟩ .returning _ (RowIs.cell hM7.out rfl) (RowIs.frozen hM7.out 0)).mono ?_
            rintro e u' w'' ⟨rfl, rfl, rfl⟩
            exact ⟨_, results_tmp rfl _ _ _, by rw [hf.out]; rfl, by rw [hf.out]; exact MarksAt.lock hM7.out 0, hO7.out.setCell (.inl rfl) _⟩
          · have hf : Hid (F = (1, rd, wr)) := by have := HF.out; simp only [if_true] at this; exact this.symm
            clear HF
            have l1 := Y1 ⟨_, Below.refl _ _⟩
            simp only at l1
            go_wp2_with fail
            refine region_later (by kernel_rfl) (by kernel_rfl) ?_
            repeat (go_big_quiet_step (fail))
            refine wpQuiet_nil ?_
            rintro _ ⟨u, rfl⟩
            obtain ⟨wu, hwu⟩ : ∃ wu, u.1 = wu := ⟨_, rfl⟩
            have hM3 : Hid (MarksAt wu m 1 rd wr) := by rw [← hwu]; exact RowIs.below hMU.out u.2 (Nat.le_refl _)
            have hO3 : Hid (Only m w wu) := by rw [← hwu]; exact hOU.out.trans (Only.of_below u.2)
            have l0 := Y0 u
            have l1 := Y1 u
            have l2 := Y2 u
            have d2 := C2 u
            have d5 := C5 u
            rw [hwu] at l0 l1 l2 d2 d5
            rw [hwu]
            clear Y0 Y1 Y2 C2 C5 hwu u
            have Y0 := Later.cell l0
            have Y1 := Later.cell l1
            have Y2 := Later.cell l2
            have C2 := Later.cell d2
            have C5 := Later.cell d5
            clear l0 l2 d2 d5
            go_wp2_with fail
            refine region_later (by kernel_rfl) (by kernel_rfl) ?_
            repeat (go_big_quiet_step (fail))
            refine wpQuiet_nil ?_
            rintro _ ⟨v, rfl⟩
            obtain ⟨wv, hwv⟩ : ∃ wv, v.1 = wv := ⟨_, rfl⟩
            have hM5 : Hid (MarksAt wv m 1 rd wr) := by rw [← hwv]; exact RowIs.below hM3.out v.2 (Nat.le_refl _)
            have hO5 : Hid (Only m w wv) := by rw [← hwv]; exact hO3.out.trans (Only.of_below v.2)
            have l0 := Y0 v
            have l1 := Y1 v
            have l2 := Y2 v
            have d2 := C2 v
            have d5 := C5 v
            rw [hwv] at l0 l1 l2 d2 d5
            rw [hwv]
            clear Y0 Y1 Y2 C2 C5 hwv v
            have Y0 := Later.cell l0
            have Y1 := Later.cell l1
            have Y2 := Later.cell l2
            have C2 := Later.cell d2
            have C5 := Later.cell d5
            clear l0 l2 d2 d5
            go_wp2_with fail
            refine region_later (by kernel_rfl) (by kernel_rfl) ?_
            repeat (go_big_quiet_step (fail))
            refine wpQuiet_nil ?_
            rintro _ ⟨y, rfl⟩
            obtain ⟨wy, hwy⟩ : ∃ wy, y.1 = wy := ⟨_, rfl⟩
            have hM6 : Hid (MarksAt wy m 1 rd wr) := by rw [← hwy]; exact RowIs.below hM5.out y.2 (Nat.le_refl _)
            have hO6 : Hid (Only m w wy) := by rw [← hwy]; exact hO5.out.trans (Only.of_below y.2)
            have l0 := Y0 y
            have l1 := Y1 y
            have l2 := Y2 y
            have d2 := C2 y
            have d5 := C5 y
            rw [hwy] at l0 l1 l2 d2 d5
            rw [hwy]
            clear Y0 Y1 Y2 C2 C5 hwy y
            have Y0 := Later.cell l0
            have Y1 := Later.cell l1
            have Y2 := Later.cell l2
            have C2 := Later.cell d2
            have C5 := Later.cell d5
            clear l0 l2 d2 d5
            go_wp2_with fail
            refine leaves_cons (f := 118) (args := #[.pointer (some ⟨m, 0, none⟩)]) (by simp) (by simp [go_sem]) ?_
            refine (unlock_deferred muLib ⟨m, 0, none⟩ .returning _ (RowIs.cell hM6.out rfl) (RowIs.frozen hM6.out 0)).mono ?_
            rintro e u' w'' ⟨rfl, rfl, rfl⟩
            exact ⟨_, results_tmp rfl _ _ _, by rw [hf.out]; rfl, by rw [hf.out]; exact MarksAt.lock hM6.out 0, hO6.out.setCell (.inl rfl) _⟩
        · rw [if_neg hpq] at HF
          have hd2 : decide (p < q) = false := decide_eq_false hpq
          have hf : Hid (F = (0, rd, wr.set x p)) := HF.out.symm
          clear HF
          have l1 := Y1 ⟨_, Below.refl _ _⟩
          simp only at l1
          go_wp2_with fail
          refine region_later (by kernel_rfl) (by kernel_rfl) ?_
          repeat (go_big_quiet_step (fail))
          refine wpQuiet_nil ?_
          rintro _ ⟨u, rfl⟩
          obtain ⟨wu, hwu⟩ : ∃ wu, u.1 = wu := ⟨_, rfl⟩
          have hM3 : Hid (MarksAt wu m 1 rd wr) := by rw [← hwu]; exact RowIs.below hMU.out u.2 (Nat.le_refl _)
          have hO3 : Hid (Only m w wu) := by rw [← hwu]; exact hOU.out.trans (Only.of_below u.2)
          have l0 := Y0 u
          have l1 := Y1 u
          have l2 := Y2 u
          have d2 := C2 u
          have d5 := C5 u
          rw [hwu] at l0 l1 l2 d2 d5
          rw [hwu]
          clear Y0 Y1 Y2 C2 C5 hwu u
          have Y0 := Later.cell l0
          have Y1 := Later.cell l1
          have Y2 := Later.cell l2
          have C2 := Later.cell d2
          have C5 := Later.cell d5
          clear l0 l2 d2 d5
          go_wp2_with fail
          refine region_later (by kernel_rfl) (by kernel_rfl) ?_
          repeat (go_big_quiet_step (fail))
          refine wpQuiet_nil ?_
          rintro _ ⟨v, rfl⟩
          obtain ⟨wv, hwv⟩ : ∃ wv, v.1 = wv := ⟨_, rfl⟩
          have hM5 : Hid (MarksAt wv m 1 rd wr) := by rw [← hwv]; exact RowIs.below hM3.out v.2 (Nat.le_refl _)
          have hO5 : Hid (Only m w wv) := by rw [← hwv]; exact hO3.out.trans (Only.of_below v.2)
          have l0 := Y0 v
          have l1 := Y1 v
          have l2 := Y2 v
          have d2 := C2 v
          have d5 := C5 v
          rw [hwv] at l0 l1 l2 d2 d5
          rw [hwv]
          clear Y0 Y1 Y2 C2 C5 hwv v
          have Y0 := Later.cell l0
          have Y1 := Later.cell l1
          have Y2 := Later.cell l2
          have C2 := Later.cell d2
          have C5 := Later.cell d5
          clear l0 l2 d2 d5
          go_wp2_with fail
          refine region_later (by kernel_rfl) (by kernel_rfl) ?_
          repeat (go_big_quiet_step (fail))
          refine wpQuiet_nil ?_
          rintro _ ⟨y, rfl⟩
          obtain ⟨wy, hwy⟩ : ∃ wy, y.1 = wy := ⟨_, rfl⟩
          have hM6 : Hid (MarksAt wy m 1 rd wr) := by rw [← hwy]; exact RowIs.below hM5.out y.2 (Nat.le_refl _)
          have hO6 : Hid (Only m w wy) := by rw [← hwy]; exact hO5.out.trans (Only.of_below y.2)
          have l0 := Y0 y
          have l1 := Y1 y
          have l2 := Y2 y
          have d2 := C2 y
          have d5 := C5 y
          rw [hwy] at l0 l1 l2 d2 d5
          rw [hwy]
          clear Y0 Y1 Y2 C2 C5 hwy y
          have Y0 := Later.cell l0
          have Y1 := Later.cell l1
          have Y2 := Later.cell l2
          have C2 := Later.cell d2
          have C5 := Later.cell d5
          clear l0 l2 d2 d5
          go_wp2_with fail
          refine region_later (by kernel_rfl) (by kernel_rfl) ?_
          repeat (go_big_quiet_step (fail))
          refine wpQuiet_nil ?_
          rintro _ ⟨z, rfl⟩
          obtain ⟨wz, hwz⟩ : ∃ wz, z.1 = wz := ⟨_, rfl⟩
          have hM7 : Hid (MarksAt wz m 1 rd wr) := by rw [← hwz]; exact RowIs.below hM6.out z.2 (Nat.le_refl _)
          have hO7 : Hid (Only m w wz) := by rw [← hwz]; exact hO6.out.trans (Only.of_below z.2)
          have l0 := Y0 z
          have l1 := Y1 z
          have l2 := Y2 z
          have d2 := C2 z
          have d5 := C5 z
          rw [hwz] at l0 l1 l2 d2 d5
          rw [hwz]
          clear Y0 Y1 Y2 C2 C5 hwz z
          have Y0 := Later.cell l0
          have Y1 := Later.cell l1
          have Y2 := Later.cell l2
          have C2 := Later.cell d2
          have C5 := Later.cell d5
          clear d2
          have e5 : wz.drew.cell? ⟨m, 5 + x, none⟩ = some (.int .i64 q) := d5
          have ez : wz.drew.frozen? ⟨m, 5 + x, none⟩ = false := RowIs.frozen hM7.out _
          go_wp2_with fail
          refine wp_region_still_tail 7 (by kernel_rfl) (by kernel_rfl) ?_
          simp only [List.take_succ_cons, List.take_zero, List.drop_succ_cons, List.drop_zero]
          repeat (first | still_step | fail)
          refine wpStill_nil ?_
          change wpList _ _ _ _ _ wz.drew
          go_wp2_with fail
          have hM4 : MarksAt ((wz.setCell ⟨m, 5 + x, none⟩ (.int .i64 p)).drew) m 1 rd (wr.set x p) := by
            have := RowIs.set hM7.out (5 + x) (.int .i64 p)
            rw [marksV_setW hr hw hx] at this
            exact this
          have hO4 : Only m w ((wz.setCell ⟨m, 5 + x, none⟩ (.int .i64 p)).drew) := by
            exact (hO7.out.setCell (p := ⟨m, 5 + x, none⟩) (.inl rfl) (.int .i64 p)).drew'
          have HM4 := Lib.hid hM4
          have HO4 := Lib.hid hO4
          clear hM4 hO4
          refine leaves_cons (f := 118) (args := #[.pointer (some ⟨m, 0, none⟩)]) (by simp) (by simp [go_sem]) ?_
          refine (unlock_deferred muLib ⟨m, 0, none⟩ .returning _ (RowIs.cell HM4.out rfl) (RowIs.frozen HM4.out 0)).mono ?_
          rintro e u' w'' ⟨rfl, rfl, rfl⟩
          exact ⟨_, results_tmp rfl _ _ _, by rw [hf.out]; rfl, by rw [hf.out]; exact MarksAt.lock HM4.out 0, HO4.out.setCell (.inl rfl) _⟩
end Go.Proofs.Ytncebpmckbcabaa
