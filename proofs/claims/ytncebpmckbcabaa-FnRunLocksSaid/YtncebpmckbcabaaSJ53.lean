/-
  Texts that the proof rests on, joined: part 53.
-/
import Derived.Test.YtncebpmckbcabaaSJ24
namespace Go.Proofs.Ytncebpmckbcabaa
open Go.RowKit Go.BigFrame
set_option linter.unusedVariables false

set_option maxRecDepth 100000 in
set_option maxHeartbeats 2000000 in
theorem tillegal_any (g : Nat) (L : List OpV) (s : OpV) (w : World) (h : TblAt w g L) (hs : okStep s = true) (hL : ∀ s ∈ L, okStep s = true) :
    Calls Try.prog 68 #[.pointer (some ⟨g, 0, none⟩), s.val] w fun e w' => e = .returned (.bool (illB L s)) ∧ Below w.heap.size w w' := by
  obtain ⟨ht, hk, hx⟩ := okStep_iff.1 hs
  obtain ⟨t, k, x⟩ := s
  simp only at ht hk hx
  obtain ⟨T, rfl⟩ := Int.eq_ofNat_of_zero_le ht.1
  obtain ⟨X, rfl⟩ := Int.eq_ofNat_of_zero_le hx.1
  have hT3 : T ≤ 3 := by omega
  have hX2 : X ≤ 2 := by omega
  have H := Lib.hid h
  obtain ⟨W, hW⟩ : ∃ W : World, W = w.alloc (.cells #[.int .i64 (T : Int), .int .i64 k, .int .i64 (X : Int)] 73) := ⟨_, rfl⟩
  have HBW : Hid (Below w.heap.size w W) := by show Below _ _ _; rw [hW]; exact (Below.refl _ _).alloc (Nat.le_refl _) _
  have a0 : W.cell? ⟨w.heap.size, 0, none⟩ = some (.int .i64 (T : Int)) := by rw [hW]; exact box_at _ _ _ _ _ rfl
  have a1 : W.cell? ⟨w.heap.size, 1, none⟩ = some (.int .i64 k) := by rw [hW]; exact box_at _ _ _ _ _ rfl
  have a2 : W.cell? ⟨w.heap.size, 2, none⟩ = some (.int .i64 (X : Int)) := by rw [hW]; exact box_at _ _ _ _ _ rfl
  have L0 := Later.cell a0
  have L1 := Later.cell a1
  have L2 := Later.cell a2
  obtain ⟨hv, hhv⟩ : ∃ z, heldI L (T : Int) (X : Int) = z := ⟨_, rfl⟩
  have hc := (H.out.below HBW.out).cell hT3 hX2
  rw [hhv] at hc
  have LC := Later.cell hc
  have hrg := heldI_rng hL (T : Int) (X : Int)
  rw [hhv] at hrg
  have HILL : Hid (∀ b, (if k = 0 then decide (0 ≤ hv) || othersB L (T : Int) (X : Int) 1 else if k = 1 then hv == 1 || othersB L (T : Int) (X : Int) 0 else if k = 4 then hv != 1 else decide (hv < 0)) = b → illB L ⟨(T : Int), k, (X : Int)⟩ = b) := fun b hb => by
    unfold illB
    simp only
    rw [hhv]
    exact hb
  have HOT : Hid (∀ (W' : World) (least : Int), Below W.heap.size W W' → Calls Try.prog 106 #[.pointer (some ⟨g, 0, none⟩), .int .i64 (T : Int), .int .i64 (X : Int), .int .i64 least] W' (RetInts W' (othL L (T : Int) (X : Int) least))) := fun W' least hb =>
    others_any g L (T : Int) X least W' ((H.out.below HBW.out).below hb) hX2
  have HW := Lib.hid hW
  have hT4 : (T : Int) < 4 := by omega
  have hT0 : (0 : Int) ≤ (T : Int) := by omega
  have hX3 : (X : Int) < 3 := by omega
  have hX0 : (0 : Int) ≤ (X : Int) := by omega
  clear h hs a0 a1 a2 hhv hc
  unfold OpV.val
  simp only
  by_cases k0 : k = 0
  · subst k0
    by_cases hv1 : hv = -1
    · subst hv1
      obtain ⟨q, hq⟩ : ∃ q, (othL L (T : Int) (X : Int) 1).length = q := ⟨_, rfl⟩
      have hop := oth_pos L (T : Int) (X : Int) 1
      rw [hq] at hop
      have HQ := Lib.hid hq
      have HE := Lib.hid (HILL.out (decide (0 < q)) (by rw [if_pos rfl, hop]; rfl))
      clear hop hq hrg
      go_enter Try.func68, Try.ntmps68
      go_wp2_with fail
      rw [← HW.out]
      refine region_later (by kernel_rfl) (by kernel_rfl) ?_
      repeat (go_big_quiet_step (fail))
      refine wpQuiet_nil ?_
      rintro _ ⟨u, rfl⟩
      have p0 := L0 u
      have p1 := L1 u
      have p2 := L2 u
      have hu := u.2
      obtain ⟨w5, hw5⟩ : ∃ w5 : World, u.1 = w5 := ⟨_, rfl⟩
      rw [hw5] at p0 p1 p2 hu ⊢
      clear L0 L1 L2 LC hw5
      go_wp2_with (go_at_call 106; go_loud (refine (HOT.out w5 1 hu).mono ?_; rintro e w6 ⟨OA, oc, rfl, hoc, _, hb6⟩; rw [HQ.out] at hoc ⊢; have HBZ := Lib.hid (HBW.out.trans ((hu.trans (hb6.mono hu.size)).mono HBW.out.size)); clear hb6))
      go_ret
      exact ⟨ret_bool (by rw [HE.out]), HBZ.out⟩
    · have hvb : (hv != -1) = true := by simp [hv1]
      have HE := Lib.hid (HILL.out true (by rw [if_pos rfl, show decide (0 ≤ hv) = true by simp; omega]; rfl))
      go_enter Try.func68, Try.ntmps68
      go_wp2_with fail
      rw [← HW.out]
      refine region_later (by kernel_rfl) (by kernel_rfl) ?_
      repeat (go_big_quiet_step (fail))
      refine wpQuiet_nil ?_
      rintro _ ⟨u, rfl⟩
      have p0 := L0 u
      have p1 := L1 u
      have p2 := L2 u
      have hu := u.2
      obtain ⟨w5, hw5⟩ : ∃ w5 : World, u.1 = w5 := ⟨_, rfl⟩
      rw [hw5] at p0 p1 p2 hu ⊢
      clear L0 L1 L2 LC hw5
      go_wp2_with fail
      go_ret
      exact ⟨ret_bool (by rw [HE.out]), HBW.out.trans (hu.mono HBW.out.size)⟩
  · by_cases k1 : k = 1
    · subst k1
      by_cases hv1 : hv = 1
      · subst hv1
        have HE := Lib.hid (HILL.out true (by rw [if_neg (by omega), if_pos rfl]; rfl))
        go_enter Try.func68, Try.ntmps68
        go_wp2_with fail
        rw [← HW.out]
        refine region_later (by kernel_rfl) (by kernel_rfl) ?_
        repeat (go_big_quiet_step (fail))
        refine wpQuiet_nil ?_
        rintro _ ⟨u, rfl⟩
        have p0 := L0 u
        have p1 := L1 u
        have p2 := L2 u
        have hu := u.2
        obtain ⟨w5, hw5⟩ : ∃ w5 : World, u.1 = w5 := ⟨_, rfl⟩
        rw [hw5] at p0 p1 p2 hu ⊢
        clear L0 L1 L2 LC hw5
        go_wp2_with fail
        go_ret
        exact ⟨ret_bool (by rw [HE.out]), HBW.out.trans (hu.mono HBW.out.size)⟩
      · have hvb : (hv == 1) = false := by simp [hv1]
        obtain ⟨q, hq⟩ : ∃ q, (othL L (T : Int) (X : Int) 0).length = q := ⟨_, rfl⟩
        have hop := oth_pos L (T : Int) (X : Int) 0
        rw [hq] at hop
        have HQ := Lib.hid hq
        have HE := Lib.hid (HILL.out (decide (0 < q)) (by rw [if_neg (by omega), if_pos rfl, hop, hvb]; rfl))
        clear hop hq hrg
        go_enter Try.func68, Try.ntmps68
        go_wp2_with fail
        rw [← HW.out]
        refine region_later (by kernel_rfl) (by kernel_rfl) ?_
        repeat (go_big_quiet_step (fail))
        refine wpQuiet_nil ?_
        rintro _ ⟨u, rfl⟩
        have p0 := L0 u
        have p1 := L1 u
        have p2 := L2 u
        have hu := u.2
        obtain ⟨w5, hw5⟩ : ∃ w5 : World, u.1 = w5 := ⟨_, rfl⟩
        rw [hw5] at p0 p1 p2 hu ⊢
        clear L0 L1 L2 LC hw5
        go_wp2_with (go_at_call 106; go_loud (refine (HOT.out w5 0 hu).mono ?_; rintro e w6 ⟨OA, oc, rfl, hoc, _, hb6⟩; rw [HQ.out] at hoc ⊢; have HBZ := Lib.hid (HBW.out.trans ((hu.trans (hb6.mono hu.size)).mono HBW.out.size)); clear hb6))
        go_ret
        exact ⟨ret_bool (by rw [HE.out]), HBZ.out⟩
    · by_cases k4 : k = 4
      · subst k4
        have HE := Lib.hid (HILL.out (hv != 1) (by rw [if_neg (by omega), if_neg (by omega), if_pos rfl]))
        go_enter Try.func68, Try.ntmps68
        go_wp2_with fail
        rw [← HW.out]
        refine region_later (by kernel_rfl) (by kernel_rfl) ?_
        repeat (go_big_quiet_step (fail))
        refine wpQuiet_nil ?_
        rintro _ ⟨u, rfl⟩
        have p0 := L0 u
        have p1 := L1 u
        have p2 := L2 u
        have hu := u.2
        obtain ⟨w5, hw5⟩ : ∃ w5 : World, u.1 = w5 := ⟨_, rfl⟩
        rw [hw5] at p0 p1 p2 hu ⊢
        clear L0 L1 L2 LC hw5
        go_wp2_with fail
        go_ret
        exact ⟨ret_bool (by rw [HE.out]), HBW.out.trans (hu.mono HBW.out.size)⟩
      · have hkb0 : (k == 0) = false := by simp [k0]
        have hkb1 : (k == 1) = false := by simp [k1]
        have hkb4 : (k == 4) = false := by simp [k4]
        have HE := Lib.hid (HILL.out (hv == -1) (by
          rw [if_neg k0, if_neg k1, if_neg k4]
          rcases hrg with h | h | h <;> rw [h] <;> decide))
        go_enter Try.func68, Try.ntmps68
        go_wp2_with fail
        rw [← HW.out]
        refine region_later (by kernel_rfl) (by kernel_rfl) ?_
        repeat (go_big_quiet_step (fail))
        refine wpQuiet_nil ?_
        rintro _ ⟨u, rfl⟩
        have p0 := L0 u
        have p1 := L1 u
        have p2 := L2 u
        have hu := u.2
        obtain ⟨w5, hw5⟩ : ∃ w5 : World, u.1 = w5 := ⟨_, rfl⟩
        rw [hw5] at p0 p1 p2 hu ⊢
        clear L0 L1 L2 LC hw5
        go_wp2_with fail
        go_ret
        exact ⟨ret_bool (by rw [HE.out]), HBW.out.trans (hu.mono HBW.out.size)⟩
end Go.Proofs.Ytncebpmckbcabaa
namespace Go.Proofs.Ytncebpmckbcabaa
open Go.RowKit Go.BigFrame
set_option linter.unusedVariables false

def illV (st : List OpV) : Int := if validL st then illI st else -1
def IllPost (w : World) (st : List OpV) (e : Ending) (w' : World) : Prop := e = .returned (.tuple #[.int .i64 (illV st), .bool (validL st)]) ∧ Below w.heap.size w w'
theorem IllPost.bad {w w' : World} {st : List OpV} (h : validL st = false) (hb : Below w.heap.size w w') : IllPost w st (.returned (.tuple #[.int .i64 (-1), .bool false])) w' := by
  unfold IllPost illV
  rw [h]
  exact ⟨rfl, hb⟩
theorem IllPost.good {w w' : World} {st : List OpV} (h : validL st = true) {v : Int} (hv : illI st = v) (hb : Below w.heap.size w w') : IllPost w st (.returned (.tuple #[.int .i64 v, .bool true])) w' := by
  unfold IllPost illV
  rw [h, hv]
  exact ⟨rfl, hb⟩
set_option maxRecDepth 100000 in
set_option maxHeartbeats 2000000 in
theorem IllegalAt_any (A : Option Addr) (n c : Nat) (st : List OpV) (w : World) (hx : ROps w A n st) :
    Calls Try.prog 25 #[.slice A n c] w (IllPost w st) := by
  have hn := hx.2.1
  have hl := hx.1
  have HX := Lib.hid hx
  have hva := ValidSteps_any A n c st w hx
  obtain ⟨bv, hbv⟩ : ∃ b, validL st = b := ⟨_, rfl⟩
  rw [hbv] at hva
  have HVA := Lib.hid hva
  have HBV := Lib.hid hbv
  clear hx hva hbv
  cases bv
  · go_enter Try.func25, Try.ntmps25
    go_wp2_with (go_at_call 66; refine HVA.out.mono ?_; rintro e w1 ⟨rfl, hbw⟩)
    go_ret2
    exact IllPost.bad HBV.out hbw
  · have HOK : Hid (∀ s ∈ st, okStep s = true) := (validL_iff.1 HBV.out).2
    have HTO : Hid (∀ W : World, Calls Try.prog 67 #[.slice none 0 0] W (TabPost W [])) := fun W => tableOf_any none 0 0 [] W ROps.nil (fun s hs => by cases hs)
    go_enter Try.func25, Try.ntmps25
    go_wp2_with (first
      | (go_at_call 66; refine HVA.out.mono ?_; rintro e w1 ⟨rfl, hbw⟩)
      | (go_at_call 67; go_loud (refine (HTO.out w1).mono ?_; rintro e w2 ⟨g, rfl, hg, hT, hbt⟩; have hgw := (Nat.le_trans hbw.size hg); have HST := Lib.hid (And.intro (hbw.trans (hbt.mono hbw.size)) hT); clear hT hbt)))
    go_loopw [13] (fun i wr => ∃ k : Nat, k ≤ n ∧ i = .int .i64 k ∧ Below w.heap.size w wr ∧ TblAt wr g (st.take k) ∧ ∀ j, j < k → illAtB st j = false) (fun i _ => n - (intOf i).toNat)
    case atStart => exact ⟨0, by omega, rfl, HST.out.1, HST.out.2, by omega⟩
    case round =>
      clear HST
      obtain ⟨k, hk, rfl, hb, hT, hno⟩ := hrel
      by_cases hkl : k < n
      · obtain ⟨b, off, o, rfl, hbl, ho, c0, c1, c2⟩ := (HX.out.below hb (Nat.le_refl _)).at_ hkl
        have hok := HOK.out o (List.mem_of_getElem? ho)
        have HTS := Lib.hid (take_snoc ho)
        have hbs := hb.size
        have hil : illAtB st k = illB (st.take k) o := by unfold illAtB; rw [ho]
        obtain ⟨bi, hbi⟩ : ∃ b, illB (st.take k) o = b := ⟨_, rfl⟩
        obtain ⟨W, hW⟩ : ∃ W : World, W = wr.alloc (.cells #[.int .i64 o.tx, .int .i64 o.kind, .int .i64 o.item] 73) := ⟨_, rfl⟩
        have hTW : TblAt W g (st.take k) := by rw [hW]; exact hT.below ((Below.refl _ _).alloc (Nat.le_refl _) _)
        have HBW : Hid (Below w.heap.size w W) := by show Below _ _ _; rw [hW]; exact hb.alloc hbs _
        have hci := tillegal_any g (st.take k) o W hTW hok (fun s hs => HOK.out s (List.mem_of_mem_take hs))
        rw [hbi] at hci
        have hca : ∀ W', Below W.heap.size W W' → Calls Try.prog 69 #[.pointer (some ⟨g, 0, none⟩), o.val] W' (TakePost g (st.take k) o W') := fun W' hW' => take_any g (st.take k) o W' (hTW.below hW') hok
        unfold OpV.val at hci hca
        have HCI := Lib.hid hci
        have HCA := Lib.hid hca
        have hbox : ∀ u, Below W.heap.size W u → u.cell? ⟨wr.heap.size, 0, none⟩ = some (.int .i64 o.tx) ∧ u.cell? ⟨wr.heap.size, 1, none⟩ = some (.int .i64 o.kind) ∧ u.cell? ⟨wr.heap.size, 2, none⟩ = some (.int .i64 o.item) := fun u hu => by
          have a0 : W.cell? ⟨wr.heap.size, 0, none⟩ = some (.int .i64 o.tx) := by rw [hW]; exact box_at _ _ _ _ _ rfl
          have a1 : W.cell? ⟨wr.heap.size, 1, none⟩ = some (.int .i64 o.kind) := by rw [hW]; exact box_at _ _ _ _ _ rfl
          have a2 : W.cell? ⟨wr.heap.size, 2, none⟩ = some (.int .i64 o.item) := by rw [hW]; exact box_at _ _ _ _ _ rfl
          exact ⟨Later.cell a0 ⟨u, hu⟩, Later.cell a1 ⟨u, hu⟩, Later.cell a2 ⟨u, hu⟩⟩
        have HBOX := Lib.hid hbox
        have HW := Lib.hid hW
        have HIL := Lib.hid (hil.trans hbi)
        have HNO := Lib.hid hno
        have hki : (k : Int) < (n : Int) := by omega
        have hk0 : (0 : Int) ≤ (k : Int) := by omega
        have hkd : decide ((k : Int) < (n : Int)) = true := by simp; omega
        clear hci hca hbox hW hTW hT hno hil hbi ho hok
        obtain ⟨tx, kd, it⟩ := o
        simp only at c0 c1 c2 HCI HCA HW HBOX
        cases bi
        · go_wp2_with (first
            | (go_at_call 68; go_loud (rw [← HW.out]; refine HCI.out.mono ?_; rintro e w4 ⟨rfl, hb4⟩; obtain ⟨p0, p1, p2⟩ := HBOX.out w4 hb4; have HB4 := Lib.hid hb4; clear hb4 c0 c1 c2))
            | (go_at_call 69; go_loud (refine (HCA.out w4 HB4.out).mono ?_; rintro e w5 ⟨rfl, hT5, hg5⟩; have hb54 := HBW.out.trans (HB4.out.mono HBW.out.size); have hb5 := Below.grown hb54 hg5 hb54.size (fun k hk => by injection hk with hk; omega); have HP5 := Lib.hid (And.intro hb5 hT5); clear hb5 hT5 hg5 hb54)))
          go_roundw
          case rel => exact ⟨k + 1, by omega, by go_num, HP5.out.1, by rw [HTS.out]; exact HP5.out.2, snoc_no HNO.out HIL.out⟩
          case measure => simp [intOf]; omega
        · have HE : Hid (illI st = (k : Int)) := illI_hit (by omega) HIL.out HNO.out
          go_wp2_with (go_at_call 68; go_loud (rw [← HW.out]; refine HCI.out.mono ?_; rintro e w4 ⟨rfl, hb4⟩; obtain ⟨p0, p1, p2⟩ := HBOX.out w4 hb4; have HB4 := Lib.hid hb4; clear hb4 c0 c1 c2))
          go_ret2
          exact IllPost.good HBV.out HE.out (HBW.out.trans (HB4.out.mono HBW.out.size))
      · have HE : Hid (illI st = -1) := illI_none fun j hj => hno j (by omega)
        clear hno hT
        go_wp2_with fail
        go_ret2
        exact IllPost.good HBV.out HE.out hb
end Go.Proofs.Ytncebpmckbcabaa
