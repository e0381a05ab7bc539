/-
  The program's illegal; IllegalAt of both.
-/
import Derived.Test.YtcakjhappchlmaaQWLkT3
namespace Go.Proofs.Ytcakjhappchlmaa
open Go.RowKit Go.BigFrame
set_option linter.unusedVariables false

set_option maxRecDepth 100000 in
set_option maxHeartbeats 2000000 in
theorem tillegal_any (g : Nat) (L : List OpV) (s : OpV) (w : World) (h : TblAt w g L) (hs : okStep s = true) (hL : ∀ s ∈ L, okStep s = true) :
    Calls Try.prog 82 #[.pointer (some ⟨g, 0, none⟩), s.val] w fun e w' => e = .returned (.bool (illB L s)) ∧ Below w.heap.size w w' := by
  obtain ⟨ht, hk, hx⟩ := okStep_iff.1 hs
  obtain ⟨t, k, x⟩ := s
  simp only at ht hk hx
  obtain ⟨T, rfl⟩ := Int.eq_ofNat_of_zero_le ht.1
  obtain ⟨X, rfl⟩ := Int.eq_ofNat_of_zero_le hx.1
  have hT3 : T ≤ 3 := by omega
  have hX2 : X ≤ 2 := by omega
  have H := Lib.hid h
  obtain ⟨W, hW⟩ : ∃ W : World, W = w.alloc (.cells #[.int .i64 (T : Int), .int .i64 k, .int .i64 (X : Int)] 31) := ⟨_, rfl⟩
  have HBW : Hid (Below w.heap.size w W) := by show Below _ _ _; rw [hW]; exact (Below.refl _ _).alloc (Nat.le_refl _) _
  have a0 : W.cell? ⟨w.heap.size, 0, none⟩ = some (.int .i64 (T : Int)) := by rw [hW]; exact box_at _ _ _ _ _ rfl
  have a1 : W.cell? ⟨w.heap.size, 1, none⟩ = some (.int .i64 k) := by rw [hW]; exact box_at _ _ _ _ _ rfl
  have a2 : W.cell? ⟨w.heap.size, 2, none⟩ = some (.int .i64 (X : Int)) := by rw [hW]; exact box_at _ _ _ _ _ rfl
  have L0 := Later.cell a0
  have L1 := Later.cell a1
  have L2 := Later.cell a2
  obtain ⟨hv, hhv⟩ : ∃ z, heldI L (T : Int) (X : Int) = z := ⟨_, rfl⟩
  have hc := (H.out.below HBW.out).cell hT3 hX2
  rw [hhv] at hc
  have LC := Later.cell hc
  have hrg := heldI_rng hL (T : Int) (X : Int)
  rw [hhv] at hrg
  have HILL : Hid (∀ b, (if k = 0 then decide (0 ≤ hv) || othersB L (T : Int) (X : Int) 1 else if k = 1 then hv == 1 || othersB L (T : Int) (X : Int) 0 else if k = 4 then hv != 1 else decide (hv < 0)) = b → illB L ⟨(T : Int), k, (X : Int)⟩ = b) := fun b hb => by
    unfold illB
    simp only
    rw [hhv]
    exact hb
  have HOT : Hid (∀ (W' : World) (least : Int), Below W.heap.size W W' → Calls Try.prog 123 #[.pointer (some ⟨g, 0, none⟩), .int .i64 (T : Int), .int .i64 (X : Int), .int .i64 least] W' (RetInts W' (othL L (T : Int) (X : Int) least))) := fun W' least hb =>
    others_any g L (T : Int) X least W' ((H.out.below HBW.out).below hb) hX2
  have HW := Lib.hid hW
  have hT4 : (T : Int) < 4 := by omega
  have hT0 : (0 : Int) ≤ (T : Int) := by omega
  have hX3 : (X : Int) < 3 := by omega
  have hX0 : (0 : Int) ≤ (X : Int) := by omega
  clear h hs a0 a1 a2 hhv hc
  unfold OpV.val
  simp only
  by_cases k0 : k = 0
  · subst k0
    by_cases hv1 : hv = -1
    · subst hv1
      obtain ⟨q, hq⟩ : ∃ q, (othL L (T : Int) (X : Int) 1).length = q := ⟨_, rfl⟩
      have hop := oth_pos L (T : Int) (X : Int) 1
      rw [hq] at hop
      have HQ := Lib.hid hq
      have HE := Lib.hid (HILL.out (decide (0 < q)) (by rw [if_pos rfl, hop]; rfl))
      clear hop hq hrg
      go_enter Try.func82, Try.ntmps82
      go_wp2_with fail
      rw [← HW.out]
      refine region_later (by kernel_rfl) (by kernel_rfl) ?_
      repeat (go_big_quiet_step (fail))
      refine wpQuiet_nil ?_
      rintro _ ⟨u, rfl⟩
      have p0 := L0 u
      have p1 := L1 u
      have p2 := L2 u
      have hu := u.2
      obtain ⟨w5, hw5⟩ : ∃ w5 : World, u.1 = w5 := ⟨_, rfl⟩
      rw [hw5] at p0 p1 p2 hu ⊢
      clear L0 L1 L2 LC hw5
      go_wp2_with (go_at_call 123; go_loud (refine (HOT.out w5 1 hu).mono ?_; rintro e w6 ⟨OA, oc, rfl, hoc, _, hb6⟩; rw [HQ.out] at hoc ⊢; have HBZ := Lib.hid (HBW.out.trans ((hu.trans (hb6.mono hu.size)).mono HBW.out.size)); clear hb6))
      go_ret
      exact ⟨ret_bool (by rw [HE.out]), HBZ.out⟩
    · have hvb : (hv != -1) = true := by simp [hv1]
      have HE := Lib.hid (HILL.out true (by rw [if_pos rfl, show decide (0 ≤ hv) = true by simp; omega]; rfl))
      go_enter Try.func82, Try.ntmps82
      go_wp2_with fail
      rw [← HW.out]
      refine region_later (by kernel_rfl) (by kernel_rfl) ?_
      repeat (go_big_quiet_step (fail))
      refine wpQuiet_nil ?_
      rintro _ ⟨u, rfl⟩
      have p0 := L0 u
      have p1 := L1 u
      have p2 := L2 u
      have hu := u.2
      obtain ⟨w5, hw5⟩ : ∃ w5 : World, u.1 = w5 := ⟨_, rfl⟩
      rw [hw5] at p0 p1 p2 hu ⊢
      clear L0 L1 L2 LC hw5
      go_wp2_with fail
      go_ret
      exact ⟨ret_bool (by rw [HE.out]), HBW.out.trans (hu.mono HBW.out.size)⟩
  · by_cases k1 : k = 1
    · subst k1
      by_cases hv1 : hv = 1
      · subst hv1
        have HE := Lib.hid (HILL.out true (by rw [if_neg (by omega), if_pos rfl]; rfl))
        go_enter Try.func82, Try.ntmps82
        go_wp2_with fail
        rw [← HW.out]
        refine region_later (by kernel_rfl) (by kernel_rfl) ?_
        repeat (go_big_quiet_step (fail))
        refine wpQuiet_nil ?_
        rintro _ ⟨u, rfl⟩
        have p0 := L0 u
        have p1 := L1 u
        have p2 := L2 u
        have hu := u.2
        obtain ⟨w5, hw5⟩ : ∃ w5 : World, u.1 = w5 := ⟨_, rfl⟩
        rw [hw5] at p0 p1 p2 hu ⊢
        clear L0 L1 L2 LC hw5
        go_wp2_with fail
        go_ret
        exact ⟨ret_bool (by rw [HE.out]), HBW.out.trans (hu.mono HBW.out.size)⟩
      · have hvb : (hv == 1) = false := by simp [hv1]
        obtain ⟨q, hq⟩ : ∃ q, (othL L (T : Int) (X : Int) 0).length = q := ⟨_, rfl⟩
        have hop := oth_pos L (T : Int) (X : Int) 0
        rw [hq] at hop
        have HQ := Lib.hid hq
        have HE := Lib.hid (HILL.out (decide (0 < q)) (by rw [if_neg (by omega), if_pos rfl, hop, hvb]; rfl))
        clear hop hq hrg
        go_enter Try.func82, Try.ntmps82
        go_wp2_with fail
        rw [← HW.out]
        refine region_later (by kernel_rfl) (by kernel_rfl) ?_
        repeat (go_big_quiet_step (fail))
        refine wpQuiet_nil ?_
        rintro _ ⟨u, rfl⟩
        have p0 := L0 u
        have p1 := L1 u
        have p2 := L2 u
        have hu := u.2
        obtain ⟨w5, hw5⟩ : ∃ w5 : World, u.1 = w5 := ⟨_, rfl⟩
        rw [hw5] at p0 p1 p2 hu ⊢
        clear L0 L1 L2 LC hw5
        go_wp2_with (go_at_call 123; go_loud (refine (HOT.out w5 0 hu).mono ?_; rintro e w6 ⟨OA, oc, rfl, hoc, _, hb6⟩; rw [HQ.out] at hoc ⊢; have HBZ := Lib.hid (HBW.out.trans ((hu.trans (hb6.mono hu.size)).mono HBW.out.size)); clear hb6))
        go_ret
        exact ⟨ret_bool (by rw [HE.out]), HBZ.out⟩
    · by_cases k4 : k = 4
      · subst k4
        have HE := Lib.hid (HILL.out (hv != 1) (by rw [if_neg (by omega), if_neg (by omega), if_pos rfl]))
        go_enter Try.func82, Try.ntmps82
        go_wp2_with fail
        rw [← HW.out]
        refine region_later (by kernel_rfl) (by kernel_rfl) ?_
        repeat (go_big_quiet_step (fail))
        refine wpQuiet_nil ?_
        rintro _ ⟨u, rfl⟩
        have p0 := L0 u
        have p1 := L1 u
        have p2 := L2 u
        have hu := u.2
        obtain ⟨w5, hw5⟩ : ∃ w5 : World, u.1 = w5 := ⟨_, rfl⟩
        rw [hw5] at p0 p1 p2 hu ⊢
        clear L0 L1 L2 LC hw5
        go_wp2_with fail
        go_ret
        exact ⟨ret_bool (by rw [HE.out]), HBW.out.trans (hu.mono HBW.out.size)⟩
      · have hkb0 : (k == 0) = false := by simp [k0]
        have hkb1 : (k == 1) = false := by simp [k1]
        have hkb4 : (k == 4) = false := by simp [k4]
        have HE := Lib.hid (HILL.out (hv == -1) (by
          rw [if_neg k0, if_neg k1, if_neg k4]
          rcases hrg with h | h | h <;> rw [h] <;> decide))
        go_enter Try.func82, Try.ntmps82
        go_wp2_with fail
        rw [← HW.out]
        refine region_later (by kernel_rfl) (by kernel_rfl) ?_
        repeat (go_big_quiet_step (fail))
        refine wpQuiet_nil ?_
        rintro _ ⟨u, rfl⟩
        have p0 := L0 u
        have p1 := L1 u
        have p2 := L2 u
        have hu := u.2
        obtain ⟨w5, hw5⟩ : ∃ w5 : World, u.1 = w5 := ⟨_, rfl⟩
        rw [hw5] at p0 p1 p2 hu ⊢
        clear L0 L1 L2 LC hw5
        go_wp2_with fail
        go_ret
        exact ⟨ret_bool (by rw [HE.out]), HBW.out.trans (hu.mono HBW.out.size)⟩
end Go.Proofs.Ytcakjhappchlmaa
