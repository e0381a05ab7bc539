/-
  Texts that the proof rests on, joined: part 27.
-/
import Derived.Test.YtncebpmckbcabaaSJ26
namespace Go.Proofs.Ytncebpmckbcabaa
open Go.RowKit Go.BigFrame
set_option linter.unusedVariables false

set_option maxRecDepth 100000 in
set_option maxHeartbeats 4000000 in
theorem do_run (B R tg : Nat) (m : Value) (V : DV) (D : Dsk) (o : OpV) (w : World) (h : RunAt w B R tg m V D) (hv : validOp o = true) (hL : D.locks.length ≤ 8000) (hN : D.done.length ≤ 9000) :
    Calls Try.prog 131 #[.pointer (some ⟨R, 0, none⟩), o.val] w (RPost B R tg m V w (grantD D o)) := by
  obtain ⟨htx, hkd, hit⟩ := validOp_parts hv
  have hen := ends_any o
  obtain ⟨tx, kd, it⟩ := o
  simp only at htx hkd hit
  obtain ⟨T, rfl⟩ := Int.eq_ofNat_of_zero_le htx.1
  have hT3 : T ≤ 3 := by omega
  have hT4 : (T : Int) < 4 := by omega
  have hT0 : (0 : Int) ≤ (T : Int) := by omega
  obtain ⟨W, hW⟩ : ∃ W : World, W = w.alloc (.cells #[.int .i64 (T : Int), .int .i64 kd, .int .i64 it] 62) := ⟨_, rfl⟩
  have hbW : Below w.heap.size w W := by rw [hW]; exact (Below.refl _ _).alloc (Nat.le_refl _) _
  have hbx : RowIs W w.heap.size 62 [.int .i64 (T : Int), .int .i64 kd, .int .i64 it] := by rw [hW]; exact heap_alloc_new w _
  have hfar := h.far (Nat.le_refl _)
  have HW := Lib.hid hW
  have HA := Lib.hid h
  have HBX := Lib.hid hbx
  have HEN := Lib.hid (hen W)
  have hok := Lib.hid h.ok
  clear hW hbx hv h hen
  unfold OpV.val at HEN ⊢
  simp only at HEN ⊢
  go_enter Try.func131, Try.ntmps131
  go_wp2_with fail
  rw [← HW.out]
  refine HEN.out.mono ?_
  rintro e w1 ⟨rfl, hb1⟩
  have hb01 : Below w.heap.size w w1 := hbW.trans (hb1.mono hbW.size)
  have hbk := RowIs.below HBX.out hb1 (Nat.le_refl _)
  have hA := HA.out.lat hb01
  have hS : RSt R tg w V w1 V := RSt.of_below R tg V hb01
  clear HEN HA hb1 hbW
  rcases hkd with rfl | rfl | hkd
  · obtain ⟨hx0, hx2⟩ := hit (by omega)
    obtain ⟨X, rfl⟩ := Int.eq_ofNat_of_zero_le hx0
    have hX2 : X ≤ 2 := by omega
    have hX3 : (X : Int) < 3 := by omega
    have hie : isEnd ⟨(T : Int), 0, (X : Int)⟩ = false := by unfold isEnd; simp
    have hgl : grantL D.locks ⟨(T : Int), 0, (X : Int)⟩ = if heldI D.locks (T : Int) (X : Int) < 0 then D.locks ++ [⟨(T : Int), 0, (X : Int)⟩] else D.locks := by unfold grantL; rw [if_neg (by rw [hie]; simp)]
    have hrg := heldI_rng hok.out (T : Int) (X : Int)
    obtain ⟨h, hh⟩ : ∃ h, heldI D.locks (T : Int) (X : Int) = h := ⟨_, rfl⟩
    rw [hh] at hgl hrg
    have HH := Lib.hid hh
    rw [hie]
    have HBK := Lib.hid hbk
    have HAA := Lib.hid hA
    have HSS := Lib.hid hS
    clear hh hbk hA hS hie
    have n0 : ∀ u : Later w1, u.1.cell? ⟨w.heap.size, 0, none⟩ = some (.int .i64 (T : Int)) := fun u => RowIs.cell (RowIs.below HBK.out u.2 (Nat.le_refl _)) rfl
    have n1 : ∀ u : Later w1, u.1.cell? ⟨w.heap.size, 1, none⟩ = some (.int .i64 0) := fun u => RowIs.cell (RowIs.below HBK.out u.2 (Nat.le_refl _)) rfl
    have n2 : ∀ u : Later w1, u.1.cell? ⟨w.heap.size, 2, none⟩ = some (.int .i64 (X : Int)) := fun u => RowIs.cell (RowIs.below HBK.out u.2 (Nat.le_refl _)) rfl
    have n3 : ∀ u : Later w1, u.1.cell? ⟨R, 4, none⟩ = some (.pointer (some ⟨tg, 0, none⟩)) := fun u => (HAA.out.lat u.2).cells.2.2.2.2.1
    have n4 : ∀ u : Later w1, u.1.cell? ⟨tg, T * 3 + X, none⟩ = some (.int .i64 h) := fun u => by have := (HAA.out.lat u.2).lock hT3 hX2; rw [HH.out] at this; exact this
    by_cases hlo : h < 0
    · have hbt : (h == -1) = true := by simp; omega
      rw [if_pos hlo] at hgl
      have HG := Lib.hid hgl
      clear hgl hlo hrg
      go_wp2_with fail
      refine region_later (by kernel_rfl) (by kernel_rfl) ?_
      repeat (go_big_quiet_step (fail))
      refine wpQuiet_nil ?_
      rintro _ ⟨u, rfl⟩
      clear n0 n1 n2 n3 n4
      have HBK1 := Lib.hid (RowIs.below HBK.out u.2 (Nat.le_refl _))
      have HAA1 := Lib.hid (HAA.out.lat u.2)
      have HSS1 := Lib.hid (HSS.out.lat u.2)
      obtain ⟨wu, hwu⟩ : ∃ q : World, u.1 = q := ⟨_, rfl⟩
      rw [hwu] at HBK1 HAA1 HSS1 ⊢
      clear hwu HBK HAA HSS
      have hput := put_run B R tg m V D ⟨(T : Int), 0, (X : Int)⟩ wu HAA1.out (okStep_iff.2 (by simp only; omega)) (by omega)
      unfold OpV.val at hput
      simp only at hput
      have HPUT := Lib.hid hput
      obtain ⟨p0, p2⟩ : wu.cell? ⟨w.heap.size, 0, none⟩ = some (.int .i64 (T : Int)) ∧ wu.cell? ⟨w.heap.size, 2, none⟩ = some (.int .i64 (X : Int)) := ⟨RowIs.cell HBK1.out rfl, RowIs.cell HBK1.out rfl⟩
      clear hput
      go_wp2_with fail
      refine HPUT.out.mono ?_
      rintro e w5 ⟨rfl, V5, hA5, hS5⟩
      have hsz := HSS1.out.size
      have hbk := hS5.row HBK1.out hfar.1 hfar.2.1 hfar.2.2
      have hS := HSS1.out.trans hS5
      clear HPUT HBK1 HSS1 HAA1 hS5 p0 p2
      obtain ⟨Ad9, Aw9, Al9, Ak9, nd9, nw9, nl9, nk9, cd9, cw9, cl9, ck9, rfl, _, f1, f2, f3, f4⟩ := hA5.forms
      obtain ⟨wd, hwd⟩ : ∃ wd : World, wd = w5.drew := ⟨_, rfl⟩
      have hbd : Below w5.heap.size w5 wd := by rw [hwd]; exact (Below.refl _ _).drew
      have hbl : Below w5.heap.size w5 (wd.alloc (.cells #[.int .i64 (T : Int), .int .i64 0, .int .i64 (X : Int)] 62)) := hbd.alloc hbd.size _
      have r0 : wd.cell? ⟨R, 0, none⟩ = some (.slice Ad9 nd9 cd9) := RowIs.cell (RowIs.below hA5.box hbd (Nat.le_refl _)) rfl
      have r1 : (wd.alloc (.cells #[.int .i64 (T : Int), .int .i64 0, .int .i64 (X : Int)] 62)).cell? ⟨R, 0, none⟩ = some (.slice Ad9 nd9 cd9) := RowIs.cell (RowIs.below hA5.box hbl (Nat.le_refl _)) rfl
      have b0 : wd.cell? ⟨w.heap.size, 0, none⟩ = some (.int .i64 (T : Int)) := RowIs.cell (RowIs.below hbk hbd (Nat.le_refl _)) rfl
      have b1 : wd.cell? ⟨w.heap.size, 1, none⟩ = some (.int .i64 0) := RowIs.cell (RowIs.below hbk hbd (Nat.le_refl _)) rfl
      have b2 : wd.cell? ⟨w.heap.size, 2, none⟩ = some (.int .i64 (X : Int)) := RowIs.cell (RowIs.below hbk hbd (Nat.le_refl _)) rfl
      clear hbk
      have HOL := Lib.hid ((hA5.desk.below hbl).doneN f1)
      have hsl : B ≤ (wd.alloc (.cells #[.int .i64 (T : Int), .int .i64 0, .int .i64 (X : Int)] 62)).heap.size := (hA5.desk.below hbl).base
      have HAL := Lib.hid (hA5.lat hbl)
      have HSL := Lib.hid (hS.lat hbl)
      have HWD := Lib.hid hwd
      have hnn : nd9 ≤ 30000 := by first | omega | (simp only at f1 f2 f3 f4; omega)
      clear hA5 hS hwd hbd hbl f1 f2 f3 f4
      go_wp2_with fail
      refine wp_region_any (by kernel_rfl) ?_
      change wpAny _ _ _ _ _ _ _ (World.drew _)
      rw [← HWD.out]
      refine wpAny_take (i := 0) (v := ?_) rfl (by kernel_rfl) (by kernel_rfl) (by kernel_rfl) (fun _ _ _ h => h) (Or.inl ⟨by kernel_rfl, ?_⟩) ?_
      rotate_left
      · intro w; go_simp; try with_reducible rfl
      refine wpAny_take (i := 1) (v := ?_) rfl (by kernel_rfl) (by kernel_rfl) (by kernel_rfl) (fun _ _ _ h => h) (Or.inl ⟨by kernel_rfl, ?_⟩) ?_
      rotate_left
      · intro w; go_simp; try with_reducible rfl
      refine wpAny_take (i := 2) (v := ?_) rfl (by kernel_rfl) (by kernel_rfl) (by kernel_rfl) (fun _ _ _ h => h) (Or.inl ⟨by kernel_rfl, ?_⟩) ?_
      rotate_left
      · intro w; go_simp; try with_reducible rfl
      refine wpAny_take (i := 3) (v := ?_) rfl (by kernel_rfl) (by kernel_rfl) (by kernel_rfl) (fun _ _ _ h => h) (Or.inl ⟨by kernel_rfl, ?_⟩) ?_
      rotate_left
      · intro w; go_simp; try with_reducible rfl
      refine wpAny_take (i := 4) (v := ?_) rfl (by kernel_rfl) (by kernel_rfl) (by kernel_rfl) (fun _ _ _ h => h) (Or.inl ⟨by kernel_rfl, ?_⟩) ?_
      rotate_left
      · intro w; go_simp; try with_reducible rfl
      refine wpAny_ready (rs := [5, 6]) (by kernel_rfl) (by simp) ?_
      refine AllReady.cons rfl (fun K hK => ?_) (AllReady.cons rfl (fun K hK => ?_) (AllReady.nil))
      · skip
        go_simp
        try (refine hK _ _ ?_; clear hK K)
        refine wpAny_ready (rs := [6]) (by kernel_rfl) (by simp) ?_
        refine AllReady.cons rfl (fun K hK => ?_) AllReady.nil
        go_simp
        try (refine hK _ _ ?_; clear hK K)
        refine wpAny_ready (rs := [7]) (by kernel_rfl) (by simp) ?_
        refine AllReady.cons rfl (fun K hK => ?_) AllReady.nil
        go_simp
        try (refine hK _ _ ?_; clear hK K)
        refine wpAny_ready (rs := [8]) (by kernel_rfl) (by simp) ?_
        refine AllReady.cons rfl (fun K hK => ?_) AllReady.nil
        refine step_ops (.tmp 68) (.tmp 70) (c := 1) HOL.out (by omega) (ROps.lit1 _ ⟨(T : Int), 0, (X : Int)⟩ _) ?_ ?_ ?_ ?_ ?_ ?_
        · omega
        · rfl
        · rfl
        · rfl
        · rfl
        intro v3 w3 hown3 hg3 hat3
        obtain ⟨⟨e0, e1⟩, hA3, hS3⟩ := HAL.out.growD hg3 hown3 hat3
        obtain ⟨A3, c3, rfl, _⟩ := own_form2 hown3
        have HF := Lib.hid (And.intro hA3 (HSL.out.trans hS3))
        clear hA3 hS3 hg3 hown3 hat3
        try (refine hK _ _ ?_; clear hK K)
        refine wpAny_take (i := 9) (v := ?_) rfl (by kernel_rfl) (by kernel_rfl) (by kernel_rfl) (fun _ _ _ h => h) (Or.inl ⟨by kernel_rfl, ?_⟩) ?_
        rotate_left
        · intro w; go_simp; try with_reducible rfl
        refine wpAny_take (i := 10) (v := ?_) rfl (by kernel_rfl) (by kernel_rfl) (by kernel_rfl) (fun _ _ _ h => h) (Or.inl ⟨by kernel_rfl, ?_⟩) ?_
        rotate_left
        · intro w; go_simp; try with_reducible rfl
        refine wpAny_take (i := 11) (v := ?_) rfl (by kernel_rfl) (by kernel_rfl) (by kernel_rfl) (fun _ _ _ h => h) (Or.inl ⟨by kernel_rfl, ?_⟩) ?_
        rotate_left
        · intro w; go_simp; try with_reducible rfl
        refine wpAny_ready (rs := [12]) (by kernel_rfl) (by simp) ?_
        refine AllReady.cons rfl (fun K hK => ?_) AllReady.nil
        go_simp
        try (refine hK _ _ ?_; clear hK K)
        refine wpAny_done (by kernel_rfl) ?_ _
        try go_simp
        go_end0
        exact ⟨rfl, _, by unfold grantD; simp only; rw [HG.out]; exact HF.out.1, HF.out.2⟩
      · skip
        go_simp
        try (refine hK _ _ ?_; clear hK K)
        refine wpAny_ready (rs := [5, 7]) (by kernel_rfl) (by simp) ?_
        refine AllReady.cons rfl (fun K hK => ?_) (AllReady.cons rfl (fun K hK => ?_) (AllReady.nil))
        · skip
          go_simp
          try (refine hK _ _ ?_; clear hK K)
          refine wpAny_ready (rs := [7]) (by kernel_rfl) (by simp) ?_
          refine AllReady.cons rfl (fun K hK => ?_) AllReady.nil
          go_simp
          try (refine hK _ _ ?_; clear hK K)
          refine wpAny_ready (rs := [8]) (by kernel_rfl) (by simp) ?_
          refine AllReady.cons rfl (fun K hK => ?_) AllReady.nil
          refine step_ops (.tmp 68) (.tmp 70) (c := 1) HOL.out (by omega) (ROps.lit1 _ ⟨(T : Int), 0, (X : Int)⟩ _) ?_ ?_ ?_ ?_ ?_ ?_
          · omega
          · rfl
          · rfl
          · rfl
          · rfl
          intro v3 w3 hown3 hg3 hat3
          obtain ⟨⟨e0, e1⟩, hA3, hS3⟩ := HAL.out.growD hg3 hown3 hat3
          obtain ⟨A3, c3, rfl, _⟩ := own_form2 hown3
          have HF := Lib.hid (And.intro hA3 (HSL.out.trans hS3))
          clear hA3 hS3 hg3 hown3 hat3
          try (refine hK _ _ ?_; clear hK K)
          refine wpAny_take (i := 9) (v := ?_) rfl (by kernel_rfl) (by kernel_rfl) (by kernel_rfl) (fun _ _ _ h => h) (Or.inl ⟨by kernel_rfl, ?_⟩) ?_
          rotate_left
          · intro w; go_simp; try with_reducible rfl
          refine wpAny_take (i := 10) (v := ?_) rfl (by kernel_rfl) (by kernel_rfl) (by kernel_rfl) (fun _ _ _ h => h) (Or.inl ⟨by kernel_rfl, ?_⟩) ?_
          rotate_left
          · intro w; go_simp; try with_reducible rfl
          refine wpAny_take (i := 11) (v := ?_) rfl (by kernel_rfl) (by kernel_rfl) (by kernel_rfl) (fun _ _ _ h => h) (Or.inl ⟨by kernel_rfl, ?_⟩) ?_
          rotate_left
          · intro w; go_simp; try with_reducible rfl
          refine wpAny_ready (rs := [12]) (by kernel_rfl) (by simp) ?_
          refine AllReady.cons rfl (fun K hK => ?_) AllReady.nil
          go_simp
          try (refine hK _ _ ?_; clear hK K)
          refine wpAny_done (by kernel_rfl) ?_ _
          try go_simp
          go_end0
          exact ⟨rfl, _, by unfold grantD; simp only; rw [HG.out]; exact HF.out.1, HF.out.2⟩
        · skip
          go_simp
          try (refine hK _ _ ?_; clear hK K)
          refine wpAny_ready (rs := [5]) (by kernel_rfl) (by simp) ?_
          refine AllReady.cons rfl (fun K hK => ?_) AllReady.nil
          go_simp
          try (refine hK _ _ ?_; clear hK K)
          refine wpAny_ready (rs := [8]) (by kernel_rfl) (by simp) ?_
          refine AllReady.cons rfl (fun K hK => ?_) AllReady.nil
          refine step_ops (.tmp 68) (.tmp 70) (c := 1) HOL.out (by omega) (ROps.lit1 _ ⟨(T : Int), 0, (X : Int)⟩ _) ?_ ?_ ?_ ?_ ?_ ?_
          · omega
          · rfl
          · rfl
          · rfl
          · rfl
          intro v3 w3 hown3 hg3 hat3
          obtain ⟨⟨e0, e1⟩, hA3, hS3⟩ := HAL.out.growD hg3 hown3 hat3
          obtain ⟨A3, c3, rfl, _⟩ := own_form2 hown3
          have HF := Lib.hid (And.intro hA3 (HSL.out.trans hS3))
          clear hA3 hS3 hg3 hown3 hat3
          try (refine hK _ _ ?_; clear hK K)
          refine wpAny_take (i := 9) (v := ?_) rfl (by kernel_rfl) (by kernel_rfl) (by kernel_rfl) (fun _ _ _ h => h) (Or.inl ⟨by kernel_rfl, ?_⟩) ?_
          rotate_left
          · intro w; go_simp; try with_reducible rfl
          refine wpAny_take (i := 10) (v := ?_) rfl (by kernel_rfl) (by kernel_rfl) (by kernel_rfl) (fun _ _ _ h => h) (Or.inl ⟨by kernel_rfl, ?_⟩) ?_
          rotate_left
          · intro w; go_simp; try with_reducible rfl
          refine wpAny_take (i := 11) (v := ?_) rfl (by kernel_rfl) (by kernel_rfl) (by kernel_rfl) (fun _ _ _ h => h) (Or.inl ⟨by kernel_rfl, ?_⟩) ?_
          rotate_left
          · intro w; go_simp; try with_reducible rfl
          refine wpAny_ready (rs := [12]) (by kernel_rfl) (by simp) ?_
          refine AllReady.cons rfl (fun K hK => ?_) AllReady.nil
          go_simp
          try (refine hK _ _ ?_; clear hK K)
          refine wpAny_done (by kernel_rfl) ?_ _
          try go_simp
          go_end0
          exact ⟨rfl, _, by unfold grantD; simp only; rw [HG.out]; exact HF.out.1, HF.out.2⟩
    · have hbt : (h == -1) = false := by simp; omega
      rw [if_neg hlo] at hgl
      have HG := Lib.hid hgl
      clear hgl hlo hrg
      go_wp2_with fail
      refine region_later (by kernel_rfl) (by kernel_rfl) ?_
      repeat (go_big_quiet_step (fail))
      refine wpQuiet_nil ?_
      rintro _ ⟨u, rfl⟩
      clear n0 n1 n2 n3 n4
      have HBK1 := Lib.hid (RowIs.below HBK.out u.2 (Nat.le_refl _))
      have HAA1 := Lib.hid (HAA.out.lat u.2)
      have HSS1 := Lib.hid (HSS.out.lat u.2)
      obtain ⟨wu, hwu⟩ : ∃ q : World, u.1 = q := ⟨_, rfl⟩
      rw [hwu] at HBK1 HAA1 HSS1 ⊢
      clear hwu HBK HAA HSS
      have n01 : ∀ u : Later wu, u.1.cell? ⟨w.heap.size, 0, none⟩ = some (.int .i64 (T : Int)) := fun u => RowIs.cell (RowIs.below HBK1.out u.2 (Nat.le_refl _)) rfl
      have n11 : ∀ u : Later wu, u.1.cell? ⟨w.heap.size, 1, none⟩ = some (.int .i64 0) := fun u => RowIs.cell (RowIs.below HBK1.out u.2 (Nat.le_refl _)) rfl
      have n21 : ∀ u : Later wu, u.1.cell? ⟨w.heap.size, 2, none⟩ = some (.int .i64 (X : Int)) := fun u => RowIs.cell (RowIs.below HBK1.out u.2 (Nat.le_refl _)) rfl
      have n31 : ∀ u : Later wu, u.1.cell? ⟨R, 4, none⟩ = some (.pointer (some ⟨tg, 0, none⟩)) := fun u => (HAA1.out.lat u.2).cells.2.2.2.2.1
      have n41 : ∀ u : Later wu, u.1.cell? ⟨tg, T * 3 + X, none⟩ = some (.int .i64 h) := fun u => by have := (HAA1.out.lat u.2).lock hT3 hX2; rw [HH.out] at this; exact this
      go_wp2_with fail
      refine region_later (by kernel_rfl) (by kernel_rfl) ?_
      repeat (go_big_quiet_step (fail))
      refine wpQuiet_nil ?_
      rintro _ ⟨z, rfl⟩
      clear n01 n11 n21 n31 n41
      have HBK2 := Lib.hid (RowIs.below HBK1.out z.2 (Nat.le_refl _))
      have HAA2 := Lib.hid (HAA1.out.lat z.2)
      have HSS2 := Lib.hid (HSS1.out.lat z.2)
      obtain ⟨wz, hwu⟩ : ∃ q : World, z.1 = q := ⟨_, rfl⟩
      rw [hwu] at HBK2 HAA2 HSS2 ⊢
      clear hwu HBK1 HAA1 HSS1
      have hbk := HBK2.out
      have hS := HSS2.out
      have hA := HAA2.out
      clear HBK2 HSS2 HAA2
      obtain ⟨Ad9, Aw9, Al9, Ak9, nd9, nw9, nl9, nk9, cd9, cw9, cl9, ck9, rfl, _, f1, f2, f3, f4⟩ := hA.forms
      obtain ⟨wd, hwd⟩ : ∃ wd : World, wd = wz.drew := ⟨_, rfl⟩
      have hbd : Below wz.heap.size wz wd := by rw [hwd]; exact (Below.refl _ _).drew
      have hbl : Below wz.heap.size wz (wd.alloc (.cells #[.int .i64 (T : Int), .int .i64 0, .int .i64 (X : Int)] 62)) := hbd.alloc hbd.size _
      have r0 : wd.cell? ⟨R, 0, none⟩ = some (.slice Ad9 nd9 cd9) := RowIs.cell (RowIs.below hA.box hbd (Nat.le_refl _)) rfl
      have r1 : (wd.alloc (.cells #[.int .i64 (T : Int), .int .i64 0, .int .i64 (X : Int)] 62)).cell? ⟨R, 0, none⟩ = some (.slice Ad9 nd9 cd9) := RowIs.cell (RowIs.below hA.box hbl (Nat.le_refl _)) rfl
      have b0 : wd.cell? ⟨w.heap.size, 0, none⟩ = some (.int .i64 (T : Int)) := RowIs.cell (RowIs.below hbk hbd (Nat.le_refl _)) rfl
      have b1 : wd.cell? ⟨w.heap.size, 1, none⟩ = some (.int .i64 0) := RowIs.cell (RowIs.below hbk hbd (Nat.le_refl _)) rfl
      have b2 : wd.cell? ⟨w.heap.size, 2, none⟩ = some (.int .i64 (X : Int)) := RowIs.cell (RowIs.below hbk hbd (Nat.le_refl _)) rfl
      clear hbk
      have HOL := Lib.hid ((hA.desk.below hbl).doneN f1)
      have hsl : B ≤ (wd.alloc (.cells #[.int .i64 (T : Int), .int .i64 0, .int .i64 (X : Int)] 62)).heap.size := (hA.desk.below hbl).base
      have HAL := Lib.hid (hA.lat hbl)
      have HSL := Lib.hid (hS.lat hbl)
      have HWD := Lib.hid hwd
      have hnn : nd9 ≤ 30000 := by first | omega | (simp only at f1 f2 f3 f4; omega)
      clear hA hS hwd hbd hbl f1 f2 f3 f4
      go_wp2_with fail
      refine wp_region_any (by kernel_rfl) ?_
      change wpAny _ _ _ _ _ _ _ (World.drew _)
      rw [← HWD.out]
      refine wpAny_take (i := 0) (v := ?_) rfl (by kernel_rfl) (by kernel_rfl) (by kernel_rfl) (fun _ _ _ h => h) (Or.inl ⟨by kernel_rfl, ?_⟩) ?_
      rotate_left
      · intro w; go_simp; try with_reducible rfl
      refine wpAny_take (i := 1) (v := ?_) rfl (by kernel_rfl) (by kernel_rfl) (by kernel_rfl) (fun _ _ _ h => h) (Or.inl ⟨by kernel_rfl, ?_⟩) ?_
      rotate_left
      · intro w; go_simp; try with_reducible rfl
      refine wpAny_take (i := 2) (v := ?_) rfl (by kernel_rfl) (by kernel_rfl) (by kernel_rfl) (fun _ _ _ h => h) (Or.inl ⟨by kernel_rfl, ?_⟩) ?_
      rotate_left
      · intro w; go_simp; try with_reducible rfl
      refine wpAny_take (i := 3) (v := ?_) rfl (by kernel_rfl) (by kernel_rfl) (by kernel_rfl) (fun _ _ _ h => h) (Or.inl ⟨by kernel_rfl, ?_⟩) ?_
      rotate_left
      · intro w; go_simp; try with_reducible rfl
      refine wpAny_take (i := 4) (v := ?_) rfl (by kernel_rfl) (by kernel_rfl) (by kernel_rfl) (fun _ _ _ h => h) (Or.inl ⟨by kernel_rfl, ?_⟩) ?_
      rotate_left
      · intro w; go_simp; try with_reducible rfl
      refine wpAny_ready (rs := [5, 6]) (by kernel_rfl) (by simp) ?_
      refine AllReady.cons rfl (fun K hK => ?_) (AllReady.cons rfl (fun K hK => ?_) (AllReady.nil))
      · skip
        go_simp
        try (refine hK _ _ ?_; clear hK K)
        refine wpAny_ready (rs := [6]) (by kernel_rfl) (by simp) ?_
        refine AllReady.cons rfl (fun K hK => ?_) AllReady.nil
        go_simp
        try (refine hK _ _ ?_; clear hK K)
        refine wpAny_ready (rs := [7]) (by kernel_rfl) (by simp) ?_
        refine AllReady.cons rfl (fun K hK => ?_) AllReady.nil
        go_simp
        try (refine hK _ _ ?_; clear hK K)
        refine wpAny_ready (rs := [8]) (by kernel_rfl) (by simp) ?_
        refine AllReady.cons rfl (fun K hK => ?_) AllReady.nil
        refine step_ops (.tmp 68) (.tmp 70) (c := 1) HOL.out (by omega) (ROps.lit1 _ ⟨(T : Int), 0, (X : Int)⟩ _) ?_ ?_ ?_ ?_ ?_ ?_
        · omega
        · rfl
        · rfl
        · rfl
        · rfl
        intro v3 w3 hown3 hg3 hat3
        obtain ⟨⟨e0, e1⟩, hA3, hS3⟩ := HAL.out.growD hg3 hown3 hat3
        obtain ⟨A3, c3, rfl, _⟩ := own_form2 hown3
        have HF := Lib.hid (And.intro hA3 (HSL.out.trans hS3))
        clear hA3 hS3 hg3 hown3 hat3
        try (refine hK _ _ ?_; clear hK K)
        refine wpAny_take (i := 9) (v := ?_) rfl (by kernel_rfl) (by kernel_rfl) (by kernel_rfl) (fun _ _ _ h => h) (Or.inl ⟨by kernel_rfl, ?_⟩) ?_
        rotate_left
        · intro w; go_simp; try with_reducible rfl
        refine wpAny_take (i := 10) (v := ?_) rfl (by kernel_rfl) (by kernel_rfl) (by kernel_rfl) (fun _ _ _ h => h) (Or.inl ⟨by kernel_rfl, ?_⟩) ?_
        rotate_left
        · intro w; go_simp; try with_reducible rfl
        refine wpAny_take (i := 11) (v := ?_) rfl (by kernel_rfl) (by kernel_rfl) (by kernel_rfl) (fun _ _ _ h => h) (Or.inl ⟨by kernel_rfl, ?_⟩) ?_
        rotate_left
        · intro w; go_simp; try with_reducible rfl
        refine wpAny_ready (rs := [12]) (by kernel_rfl) (by simp) ?_
        refine AllReady.cons rfl (fun K hK => ?_) AllReady.nil
        go_simp
        try (refine hK _ _ ?_; clear hK K)
        refine wpAny_done (by kernel_rfl) ?_ _
        try go_simp
        go_end0
        exact ⟨rfl, _, by unfold grantD; simp only; rw [HG.out]; exact HF.out.1, HF.out.2⟩
      · skip
        go_simp
        try (refine hK _ _ ?_; clear hK K)
        refine wpAny_ready (rs := [5, 7]) (by kernel_rfl) (by simp) ?_
        refine AllReady.cons rfl (fun K hK => ?_) (AllReady.cons rfl (fun K hK => ?_) (AllReady.nil))
        · skip
          go_simp
          try (refine hK _ _ ?_; clear hK K)
          refine wpAny_ready (rs := [7]) (by kernel_rfl) (by simp) ?_
          refine AllReady.cons rfl (fun K hK => ?_) AllReady.nil
          go_simp
          try (refine hK _ _ ?_; clear hK K)
          refine wpAny_ready (rs := [8]) (by kernel_rfl) (by simp) ?_
          refine AllReady.cons rfl (fun K hK => ?_) AllReady.nil
          refine step_ops (.tmp 68) (.tmp 70) (c := 1) HOL.out (by omega) (ROps.lit1 _ ⟨(T : Int), 0, (X : Int)⟩ _) ?_ ?_ ?_ ?_ ?_ ?_
          · omega
          · rfl
          · rfl
          · rfl
          · rfl
          intro v3 w3 hown3 hg3 hat3
          obtain ⟨⟨e0, e1⟩, hA3, hS3⟩ := HAL.out.growD hg3 hown3 hat3
          obtain ⟨A3, c3, rfl, _⟩ := own_form2 hown3
          have HF := Lib.hid (And.intro hA3 (HSL.out.trans hS3))
          clear hA3 hS3 hg3 hown3 hat3
          try (refine hK _ _ ?_; clear hK K)
          refine wpAny_take (i := 9) (v := ?_) rfl (by kernel_rfl) (by kernel_rfl) (by kernel_rfl) (fun _ _ _ h => h) (Or.inl ⟨by kernel_rfl, ?_⟩) ?_
          rotate_left
          · intro w; go_simp; try with_reducible rfl
          refine wpAny_take (i := 10) (v := ?_) rfl (by kernel_rfl) (by kernel_rfl) (by kernel_rfl) (fun _ _ _ h => h) (Or.inl ⟨by kernel_rfl, ?_⟩) ?_
          rotate_left
          · intro w; go_simp; try with_reducible rfl
          refine wpAny_take (i := 11) (v := ?_) rfl (by kernel_rfl) (by kernel_rfl) (by kernel_rfl) (fun _ _ _ h => h) (Or.inl ⟨by kernel_rfl, ?_⟩) ?_
          rotate_left
          · intro w; go_simp; try with_reducible rfl
          refine wpAny_ready (rs := [12]) (by kernel_rfl) (by simp) ?_
          refine AllReady.cons rfl (fun K hK => ?_) AllReady.nil
          go_simp
          try (refine hK _ _ ?_; clear hK K)
          refine wpAny_done (by kernel_rfl) ?_ _
          try go_simp
          go_end0
          exact ⟨rfl, _, by unfold grantD; simp only; rw [HG.out]; exact HF.out.1, HF.out.2⟩
        · skip
          go_simp
          try (refine hK _ _ ?_; clear hK K)
          refine wpAny_ready (rs := [5]) (by kernel_rfl) (by simp) ?_
          refine AllReady.cons rfl (fun K hK => ?_) AllReady.nil
          go_simp
          try (refine hK _ _ ?_; clear hK K)
          refine wpAny_ready (rs := [8]) (by kernel_rfl) (by simp) ?_
          refine AllReady.cons rfl (fun K hK => ?_) AllReady.nil
          refine step_ops (.tmp 68) (.tmp 70) (c := 1) HOL.out (by omega) (ROps.lit1 _ ⟨(T : Int), 0, (X : Int)⟩ _) ?_ ?_ ?_ ?_ ?_ ?_
          · omega
          · rfl
          · rfl
          · rfl
          · rfl
          intro v3 w3 hown3 hg3 hat3
          obtain ⟨⟨e0, e1⟩, hA3, hS3⟩ := HAL.out.growD hg3 hown3 hat3
          obtain ⟨A3, c3, rfl, _⟩ := own_form2 hown3
          have HF := Lib.hid (And.intro hA3 (HSL.out.trans hS3))
          clear hA3 hS3 hg3 hown3 hat3
          try (refine hK _ _ ?_; clear hK K)
          refine wpAny_take (i := 9) (v := ?_) rfl (by kernel_rfl) (by kernel_rfl) (by kernel_rfl) (fun _ _ _ h => h) (Or.inl ⟨by kernel_rfl, ?_⟩) ?_
          rotate_left
          · intro w; go_simp; try with_reducible rfl
          refine wpAny_take (i := 10) (v := ?_) rfl (by kernel_rfl) (by kernel_rfl) (by kernel_rfl) (fun _ _ _ h => h) (Or.inl ⟨by kernel_rfl, ?_⟩) ?_
          rotate_left
          · intro w; go_simp; try with_reducible rfl
          refine wpAny_take (i := 11) (v := ?_) rfl (by kernel_rfl) (by kernel_rfl) (by kernel_rfl) (fun _ _ _ h => h) (Or.inl ⟨by kernel_rfl, ?_⟩) ?_
          rotate_left
          · intro w; go_simp; try with_reducible rfl
          refine wpAny_ready (rs := [12]) (by kernel_rfl) (by simp) ?_
          refine AllReady.cons rfl (fun K hK => ?_) AllReady.nil
          go_simp
          try (refine hK _ _ ?_; clear hK K)
          refine wpAny_done (by kernel_rfl) ?_ _
          try go_simp
          go_end0
          exact ⟨rfl, _, by unfold grantD; simp only; rw [HG.out]; exact HF.out.1, HF.out.2⟩
  · obtain ⟨hx0, hx2⟩ := hit (by omega)
    obtain ⟨X, rfl⟩ := Int.eq_ofNat_of_zero_le hx0
    have hX2 : X ≤ 2 := by omega
    have hX3 : (X : Int) < 3 := by omega
    have hie : isEnd ⟨(T : Int), 1, (X : Int)⟩ = false := by unfold isEnd; simp
    have hgl : grantL D.locks ⟨(T : Int), 1, (X : Int)⟩ = if heldI D.locks (T : Int) (X : Int) < 1 then D.locks ++ [⟨(T : Int), 1, (X : Int)⟩] else D.locks := by unfold grantL; rw [if_neg (by rw [hie]; simp)]
    have hrg := heldI_rng hok.out (T : Int) (X : Int)
    obtain ⟨h, hh⟩ : ∃ h, heldI D.locks (T : Int) (X : Int) = h := ⟨_, rfl⟩
    rw [hh] at hgl hrg
    have HH := Lib.hid hh
    rw [hie]
    have HBK := Lib.hid hbk
    have HAA := Lib.hid hA
    have HSS := Lib.hid hS
    clear hh hbk hA hS hie
    have n0 : ∀ u : Later w1, u.1.cell? ⟨w.heap.size, 0, none⟩ = some (.int .i64 (T : Int)) := fun u => RowIs.cell (RowIs.below HBK.out u.2 (Nat.le_refl _)) rfl
    have n1 : ∀ u : Later w1, u.1.cell? ⟨w.heap.size, 1, none⟩ = some (.int .i64 1) := fun u => RowIs.cell (RowIs.below HBK.out u.2 (Nat.le_refl _)) rfl
    have n2 : ∀ u : Later w1, u.1.cell? ⟨w.heap.size, 2, none⟩ = some (.int .i64 (X : Int)) := fun u => RowIs.cell (RowIs.below HBK.out u.2 (Nat.le_refl _)) rfl
    have n3 : ∀ u : Later w1, u.1.cell? ⟨R, 4, none⟩ = some (.pointer (some ⟨tg, 0, none⟩)) := fun u => (HAA.out.lat u.2).cells.2.2.2.2.1
    have n4 : ∀ u : Later w1, u.1.cell? ⟨tg, T * 3 + X, none⟩ = some (.int .i64 h) := fun u => by have := (HAA.out.lat u.2).lock hT3 hX2; rw [HH.out] at this; exact this
    by_cases hlo : h < 1
    · have hbt : (h != 1) = true := by simp; omega
      rw [if_pos hlo] at hgl
      have HG := Lib.hid hgl
      clear hgl hlo hrg
      go_wp2_with fail
      refine region_later (by kernel_rfl) (by kernel_rfl) ?_
      repeat (go_big_quiet_step (fail))
      refine wpQuiet_nil ?_
      rintro _ ⟨u, rfl⟩
      clear n0 n1 n2 n3 n4
      have HBK1 := Lib.hid (RowIs.below HBK.out u.2 (Nat.le_refl _))
      have HAA1 := Lib.hid (HAA.out.lat u.2)
      have HSS1 := Lib.hid (HSS.out.lat u.2)
      obtain ⟨wu, hwu⟩ : ∃ q : World, u.1 = q := ⟨_, rfl⟩
      rw [hwu] at HBK1 HAA1 HSS1 ⊢
      clear hwu HBK HAA HSS
      have n01 : ∀ u : Later wu, u.1.cell? ⟨w.heap.size, 0, none⟩ = some (.int .i64 (T : Int)) := fun u => RowIs.cell (RowIs.below HBK1.out u.2 (Nat.le_refl _)) rfl
      have n11 : ∀ u : Later wu, u.1.cell? ⟨w.heap.size, 1, none⟩ = some (.int .i64 1) := fun u => RowIs.cell (RowIs.below HBK1.out u.2 (Nat.le_refl _)) rfl
      have n21 : ∀ u : Later wu, u.1.cell? ⟨w.heap.size, 2, none⟩ = some (.int .i64 (X : Int)) := fun u => RowIs.cell (RowIs.below HBK1.out u.2 (Nat.le_refl _)) rfl
      have n31 : ∀ u : Later wu, u.1.cell? ⟨R, 4, none⟩ = some (.pointer (some ⟨tg, 0, none⟩)) := fun u => (HAA1.out.lat u.2).cells.2.2.2.2.1
      have n41 : ∀ u : Later wu, u.1.cell? ⟨tg, T * 3 + X, none⟩ = some (.int .i64 h) := fun u => by have := (HAA1.out.lat u.2).lock hT3 hX2; rw [HH.out] at this; exact this
      go_wp2_with fail
      refine region_later (by kernel_rfl) (by kernel_rfl) ?_
      repeat (go_big_quiet_step (fail))
      refine wpQuiet_nil ?_
      rintro _ ⟨z, rfl⟩
      clear n01 n11 n21 n31 n41
      have HBK2 := Lib.hid (RowIs.below HBK1.out z.2 (Nat.le_refl _))
      have HAA2 := Lib.hid (HAA1.out.lat z.2)
      have HSS2 := Lib.hid (HSS1.out.lat z.2)
      obtain ⟨wz, hwu⟩ : ∃ q : World, z.1 = q := ⟨_, rfl⟩
      rw [hwu] at HBK2 HAA2 HSS2 ⊢
      clear hwu HBK1 HAA1 HSS1
      have hput := put_run B R tg m V D ⟨(T : Int), 1, (X : Int)⟩ wz HAA2.out (okStep_iff.2 (by simp only; omega)) (by omega)
      unfold OpV.val at hput
      simp only at hput
      have HPUT := Lib.hid hput
      obtain ⟨p0, p2⟩ : wz.cell? ⟨w.heap.size, 0, none⟩ = some (.int .i64 (T : Int)) ∧ wz.cell? ⟨w.heap.size, 2, none⟩ = some (.int .i64 (X : Int)) := ⟨RowIs.cell HBK2.out rfl, RowIs.cell HBK2.out rfl⟩
      clear hput
      go_wp2_with fail
      refine HPUT.out.mono ?_
      rintro e w5 ⟨rfl, V5, hA5, hS5⟩
      have hsz := HSS2.out.size
      have hbk := hS5.row HBK2.out hfar.1 hfar.2.1 hfar.2.2
      have hS := HSS2.out.trans hS5
      clear HPUT HBK2 HSS2 HAA2 hS5 p0 p2
      obtain ⟨Ad9, Aw9, Al9, Ak9, nd9, nw9, nl9, nk9, cd9, cw9, cl9, ck9, rfl, _, f1, f2, f3, f4⟩ := hA5.forms
      obtain ⟨wd, hwd⟩ : ∃ wd : World, wd = w5.drew := ⟨_, rfl⟩
      have hbd : Below w5.heap.size w5 wd := by rw [hwd]; exact (Below.refl _ _).drew
      have hbl : Below w5.heap.size w5 (wd.alloc (.cells #[.int .i64 (T : Int), .int .i64 1, .int .i64 (X : Int)] 62)) := hbd.alloc hbd.size _
      have r0 : wd.cell? ⟨R, 0, none⟩ = some (.slice Ad9 nd9 cd9) := RowIs.cell (RowIs.below hA5.box hbd (Nat.le_refl _)) rfl
      have r1 : (wd.alloc (.cells #[.int .i64 (T : Int), .int .i64 1, .int .i64 (X : Int)] 62)).cell? ⟨R, 0, none⟩ = some (.slice Ad9 nd9 cd9) := RowIs.cell (RowIs.below hA5.box hbl (Nat.le_refl _)) rfl
      have b0 : wd.cell? ⟨w.heap.size, 0, none⟩ = some (.int .i64 (T : Int)) := RowIs.cell (RowIs.below hbk hbd (Nat.le_refl _)) rfl
      have b1 : wd.cell? ⟨w.heap.size, 1, none⟩ = some (.int .i64 1) := RowIs.cell (RowIs.below hbk hbd (Nat.le_refl _)) rfl
      have b2 : wd.cell? ⟨w.heap.size, 2, none⟩ = some (.int .i64 (X : Int)) := RowIs.cell (RowIs.below hbk hbd (Nat.le_refl _)) rfl
      clear hbk
      have HOL := Lib.hid ((hA5.desk.below hbl).doneN f1)
      have hsl : B ≤ (wd.alloc (.cells #[.int .i64 (T : Int), .int .i64 1, .int .i64 (X : Int)] 62)).heap.size := (hA5.desk.below hbl).base
      have HAL := Lib.hid (hA5.lat hbl)
      have HSL := Lib.hid (hS.lat hbl)
      have HWD := Lib.hid hwd
      have hnn : nd9 ≤ 30000 := by first | omega | (simp only at f1 f2 f3 f4; omega)
      clear hA5 hS hwd hbd hbl f1 f2 f3 f4
      go_wp2_with fail
      refine wp_region_any (by kernel_rfl) ?_
      change wpAny _ _ _ _ _ _ _ (World.drew _)
      rw [← HWD.out]
      refine wpAny_take (i := 0) (v := ?_) rfl (by kernel_rfl) (by kernel_rfl) (by kernel_rfl) (fun _ _ _ h => h) (Or.inl ⟨by kernel_rfl, ?_⟩) ?_
      rotate_left
      · intro w; go_simp; try with_reducible rfl
      refine wpAny_take (i := 1) (v := ?_) rfl (by kernel_rfl) (by kernel_rfl) (by kernel_rfl) (fun _ _ _ h => h) (Or.inl ⟨by kernel_rfl, ?_⟩) ?_
      rotate_left
      · intro w; go_simp; try with_reducible rfl
      refine wpAny_take (i := 2) (v := ?_) rfl (by kernel_rfl) (by kernel_rfl) (by kernel_rfl) (fun _ _ _ h => h) (Or.inl ⟨by kernel_rfl, ?_⟩) ?_
      rotate_left
      · intro w; go_simp; try with_reducible rfl
      refine wpAny_take (i := 3) (v := ?_) rfl (by kernel_rfl) (by kernel_rfl) (by kernel_rfl) (fun _ _ _ h => h) (Or.inl ⟨by kernel_rfl, ?_⟩) ?_
      rotate_left
      · intro w; go_simp; try with_reducible rfl
      refine wpAny_take (i := 4) (v := ?_) rfl (by kernel_rfl) (by kernel_rfl) (by kernel_rfl) (fun _ _ _ h => h) (Or.inl ⟨by kernel_rfl, ?_⟩) ?_
      rotate_left
      · intro w; go_simp; try with_reducible rfl
      refine wpAny_ready (rs := [5, 6]) (by kernel_rfl) (by simp) ?_
      refine AllReady.cons rfl (fun K hK => ?_) (AllReady.cons rfl (fun K hK => ?_) (AllReady.nil))
      · skip
        go_simp
        try (refine hK _ _ ?_; clear hK K)
        refine wpAny_ready (rs := [6]) (by kernel_rfl) (by simp) ?_
        refine AllReady.cons rfl (fun K hK => ?_) AllReady.nil
        go_simp
        try (refine hK _ _ ?_; clear hK K)
        refine wpAny_ready (rs := [7]) (by kernel_rfl) (by simp) ?_
        refine AllReady.cons rfl (fun K hK => ?_) AllReady.nil
        go_simp
        try (refine hK _ _ ?_; clear hK K)
        refine wpAny_ready (rs := [8]) (by kernel_rfl) (by simp) ?_
        refine AllReady.cons rfl (fun K hK => ?_) AllReady.nil
        refine step_ops (.tmp 68) (.tmp 70) (c := 1) HOL.out (by omega) (ROps.lit1 _ ⟨(T : Int), 1, (X : Int)⟩ _) ?_ ?_ ?_ ?_ ?_ ?_
        · omega
        · rfl
        · rfl
        · rfl
        · rfl
        intro v3 w3 hown3 hg3 hat3
        obtain ⟨⟨e0, e1⟩, hA3, hS3⟩ := HAL.out.growD hg3 hown3 hat3
        obtain ⟨A3, c3, rfl, _⟩ := own_form2 hown3
        have HF := Lib.hid (And.intro hA3 (HSL.out.trans hS3))
        clear hA3 hS3 hg3 hown3 hat3
        try (refine hK _ _ ?_; clear hK K)
        refine wpAny_take (i := 9) (v := ?_) rfl (by kernel_rfl) (by kernel_rfl) (by kernel_rfl) (fun _ _ _ h => h) (Or.inl ⟨by kernel_rfl, ?_⟩) ?_
        rotate_left
        · intro w; go_simp; try with_reducible rfl
        refine wpAny_take (i := 10) (v := ?_) rfl (by kernel_rfl) (by kernel_rfl) (by kernel_rfl) (fun _ _ _ h => h) (Or.inl ⟨by kernel_rfl, ?_⟩) ?_
        rotate_left
        · intro w; go_simp; try with_reducible rfl
        refine wpAny_take (i := 11) (v := ?_) rfl (by kernel_rfl) (by kernel_rfl) (by kernel_rfl) (fun _ _ _ h => h) (Or.inl ⟨by kernel_rfl, ?_⟩) ?_
        rotate_left
        · intro w; go_simp; try with_reducible rfl
        refine wpAny_ready (rs := [12]) (by kernel_rfl) (by simp) ?_
        refine AllReady.cons rfl (fun K hK => ?_) AllReady.nil
        go_simp
        try (refine hK _ _ ?_; clear hK K)
        refine wpAny_done (by kernel_rfl) ?_ _
        try go_simp
        go_end0
        exact ⟨rfl, _, by unfold grantD; simp only; rw [HG.out]; exact HF.out.1, HF.out.2⟩
      · skip
        go_simp
        try (refine hK _ _ ?_; clear hK K)
        refine wpAny_ready (rs := [5, 7]) (by kernel_rfl) (by simp) ?_
        refine AllReady.cons rfl (fun K hK => ?_) (AllReady.cons rfl (fun K hK => ?_) (AllReady.nil))
        · skip
          go_simp
          try (refine hK _ _ ?_; clear hK K)
          refine wpAny_ready (rs := [7]) (by kernel_rfl) (by simp) ?_
          refine AllReady.cons rfl (fun K hK => ?_) AllReady.nil
          go_simp
          try (refine hK _ _ ?_; clear hK K)
          refine wpAny_ready (rs := [8]) (by kernel_rfl) (by simp) ?_
          refine AllReady.cons rfl (fun K hK => ?_) AllReady.nil
          refine step_ops (.tmp 68) (.tmp 70) (c := 1) HOL.out (by omega) (ROps.lit1 _ ⟨(T : Int), 1, (X : Int)⟩ _) ?_ ?_ ?_ ?_ ?_ ?_
          · omega
          · rfl
          · rfl
          · rfl
          · rfl
          intro v3 w3 hown3 hg3 hat3
          obtain ⟨⟨e0, e1⟩, hA3, hS3⟩ := HAL.out.growD hg3 hown3 hat3
          obtain ⟨A3, c3, rfl, _⟩ := own_form2 hown3
          have HF := Lib.hid (And.intro hA3 (HSL.out.trans hS3))
          clear hA3 hS3 hg3 hown3 hat3
          try (refine hK _ _ ?_; clear hK K)
          refine wpAny_take (i := 9) (v := ?_) rfl (by kernel_rfl) (by kernel_rfl) (by kernel_rfl) (fun _ _ _ h => h) (Or.inl ⟨by kernel_rfl, ?_⟩) ?_
          rotate_left
          · intro w; go_simp; try with_reducible rfl
          refine wpAny_take (i := 10) (v := ?_) rfl (by kernel_rfl) (by kernel_rfl) (by kernel_rfl) (fun _ _ _ h => h) (Or.inl ⟨by kernel_rfl, ?_⟩) ?_
          rotate_left
          · intro w; go_simp; try with_reducible rfl
          refine wpAny_take (i := 11) (v := ?_) rfl (by kernel_rfl) (by kernel_rfl) (by kernel_rfl) (fun _ _ _ h => h) (Or.inl ⟨by kernel_rfl, ?_⟩) ?_
          rotate_left
          · intro w; go_simp; try with_reducible rfl
          refine wpAny_ready (rs := [12]) (by kernel_rfl) (by simp) ?_
          refine AllReady.cons rfl (fun K hK => ?_) AllReady.nil
          go_simp
          try (refine hK _ _ ?_; clear hK K)
          refine wpAny_done (by kernel_rfl) ?_ _
          try go_simp
          go_end0
          exact ⟨rfl, _, by unfold grantD; simp only; rw [HG.out]; exact HF.out.1, HF.out.2⟩
        · skip
          go_simp
          try (refine hK _ _ ?_; clear hK K)
          refine wpAny_ready (rs := [5]) (by kernel_rfl) (by simp) ?_
          refine AllReady.cons rfl (fun K hK => ?_) AllReady.nil
          go_simp
          try (refine hK _ _ ?_; clear hK K)
          refine wpAny_ready (rs := [8]) (by kernel_rfl) (by simp) ?_
          refine AllReady.cons rfl (fun K hK => ?_) AllReady.nil
          refine step_ops (.tmp 68) (.tmp 70) (c := 1) HOL.out (by omega) (ROps.lit1 _ ⟨(T : Int), 1, (X : Int)⟩ _) ?_ ?_ ?_ ?_ ?_ ?_
          · omega
          · rfl
          · rfl
          · rfl
          · rfl
          intro v3 w3 hown3 hg3 hat3
          obtain ⟨⟨e0, e1⟩, hA3, hS3⟩ := HAL.out.growD hg3 hown3 hat3
          obtain ⟨A3, c3, rfl, _⟩ := own_form2 hown3
          have HF := Lib.hid (And.intro hA3 (HSL.out.trans hS3))
          clear hA3 hS3 hg3 hown3 hat3
          try (refine hK _ _ ?_; clear hK K)
          refine wpAny_take (i := 9) (v := ?_) rfl (by kernel_rfl) (by kernel_rfl) (by kernel_rfl) (fun _ _ _ h => h) (Or.inl ⟨by kernel_rfl, ?_⟩) ?_
          rotate_left
          · intro w; go_simp; try with_reducible rfl
          refine wpAny_take (i := 10) (v := ?_) rfl (by kernel_rfl) (by kernel_rfl) (by kernel_rfl) (fun _ _ _ h => h) (Or.inl ⟨by kernel_rfl, ?_⟩) ?_
          rotate_left
          · intro w; go_simp; try with_reducible rfl
          refine wpAny_take (i := 11) (v := ?_) rfl (by kernel_rfl) (by kernel_rfl) (by kernel_rfl) (fun _ _ _ h => h) (Or.inl ⟨by kernel_rfl, ?_⟩) ?_
          rotate_left
          · intro w; go_simp; try with_reducible rfl
          refine wpAny_ready (rs := [12]) (by kernel_rfl) (by simp) ?_
          refine AllReady.cons rfl (fun K hK => ?_) AllReady.nil
          go_simp
          try (refine hK _ _ ?_; clear hK K)
          refine wpAny_done (by kernel_rfl) ?_ _
          try go_simp
          go_end0
          exact ⟨rfl, _, by unfold grantD; simp only; rw [HG.out]; exact HF.out.1, HF.out.2⟩
    · have hbt : (h != 1) = false := by simp; omega
      rw [if_neg hlo] at hgl
      have HG := Lib.hid hgl
      clear hgl hlo hrg
      go_wp2_with fail
      refine region_later (by kernel_rfl) (by kernel_rfl) ?_
      repeat (go_big_quiet_step (fail))
      refine wpQuiet_nil ?_
      rintro _ ⟨u, rfl⟩
      clear n0 n1 n2 n3 n4
      have HBK1 := Lib.hid (RowIs.below HBK.out u.2 (Nat.le_refl _))
      have HAA1 := Lib.hid (HAA.out.lat u.2)
      have HSS1 := Lib.hid (HSS.out.lat u.2)
      obtain ⟨wu, hwu⟩ : ∃ q : World, u.1 = q := ⟨_, rfl⟩
      rw [hwu] at HBK1 HAA1 HSS1 ⊢
      clear hwu HBK HAA HSS
      have n01 : ∀ u : Later wu, u.1.cell? ⟨w.heap.size, 0, none⟩ = some (.int .i64 (T : Int)) := fun u => RowIs.cell (RowIs.below HBK1.out u.2 (Nat.le_refl _)) rfl
      have n11 : ∀ u : Later wu, u.1.cell? ⟨w.heap.size, 1, none⟩ = some (.int .i64 1) := fun u => RowIs.cell (RowIs.below HBK1.out u.2 (Nat.le_refl _)) rfl
      have n21 : ∀ u : Later wu, u.1.cell? ⟨w.heap.size, 2, none⟩ = some (.int .i64 (X : Int)) := fun u => RowIs.cell (RowIs.below HBK1.out u.2 (Nat.le_refl _)) rfl
      have n31 : ∀ u : Later wu, u.1.cell? ⟨R, 4, none⟩ = some (.pointer (some ⟨tg, 0, none⟩)) := fun u => (HAA1.out.lat u.2).cells.2.2.2.2.1
      have n41 : ∀ u : Later wu, u.1.cell? ⟨tg, T * 3 + X, none⟩ = some (.int .i64 h) := fun u => by have := (HAA1.out.lat u.2).lock hT3 hX2; rw [HH.out] at this; exact this
      go_wp2_with fail
      refine region_later (by kernel_rfl) (by kernel_rfl) ?_
      repeat (go_big_quiet_step (fail))
      refine wpQuiet_nil ?_
      rintro _ ⟨z, rfl⟩
      clear n01 n11 n21 n31 n41
      have HBK2 := Lib.hid (RowIs.below HBK1.out z.2 (Nat.le_refl _))
      have HAA2 := Lib.hid (HAA1.out.lat z.2)
      have HSS2 := Lib.hid (HSS1.out.lat z.2)
      obtain ⟨wz, hwu⟩ : ∃ q : World, z.1 = q := ⟨_, rfl⟩
      rw [hwu] at HBK2 HAA2 HSS2 ⊢
      clear hwu HBK1 HAA1 HSS1
      have hbk := HBK2.out
      have hS := HSS2.out
      have hA := HAA2.out
      clear HBK2 HSS2 HAA2
      obtain ⟨Ad9, Aw9, Al9, Ak9, nd9, nw9, nl9, nk9, cd9, cw9, cl9, ck9, rfl, _, f1, f2, f3, f4⟩ := hA.forms
      obtain ⟨wd, hwd⟩ : ∃ wd : World, wd = wz.drew := ⟨_, rfl⟩
      have hbd : Below wz.heap.size wz wd := by rw [hwd]; exact (Below.refl _ _).drew
      have hbl : Below wz.heap.size wz (wd.alloc (.cells #[.int .i64 (T : Int), .int .i64 1, .int .i64 (X : Int)] 62)) := hbd.alloc hbd.size _
      have r0 : wd.cell? ⟨R, 0, none⟩ = some (.slice Ad9 nd9 cd9) := RowIs.cell (RowIs.below hA.box hbd (Nat.le_refl _)) rfl
      have r1 : (wd.alloc (.cells #[.int .i64 (T : Int), .int .i64 1, .int .i64 (X : Int)] 62)).cell? ⟨R, 0, none⟩ = some (.slice Ad9 nd9 cd9) := RowIs.cell (RowIs.below hA.box hbl (Nat.le_refl _)) rfl
      have b0 : wd.cell? ⟨w.heap.size, 0, none⟩ = some (.int .i64 (T : Int)) := RowIs.cell (RowIs.below hbk hbd (Nat.le_refl _)) rfl
      have b1 : wd.cell? ⟨w.heap.size, 1, none⟩ = some (.int .i64 1) := RowIs.cell (RowIs.below hbk hbd (Nat.le_refl _)) rfl
      have b2 : wd.cell? ⟨w.heap.size, 2, none⟩ = some (.int .i64 (X : Int)) := RowIs.cell (RowIs.below hbk hbd (Nat.le_refl _)) rfl
      clear hbk
      have HOL := Lib.hid ((hA.desk.below hbl).doneN f1)
      have hsl : B ≤ (wd.alloc (.cells #[.int .i64 (T : Int), .int .i64 1, .int .i64 (X : Int)] 62)).heap.size := (hA.desk.below hbl).base
      have HAL := Lib.hid (hA.lat hbl)
      have HSL := Lib.hid (hS.lat hbl)
      have HWD := Lib.hid hwd
      have hnn : nd9 ≤ 30000 := by first | omega | (simp only at f1 f2 f3 f4; omega)
      clear hA hS hwd hbd hbl f1 f2 f3 f4
      go_wp2_with fail
      refine wp_region_any (by kernel_rfl) ?_
      change wpAny _ _ _ _ _ _ _ (World.drew _)
      rw [← HWD.out]
      refine wpAny_take (i := 0) (v := ?_) rfl (by kernel_rfl) (by kernel_rfl) (by kernel_rfl) (fun _ _ _ h => h) (Or.inl ⟨by kernel_rfl, ?_⟩) ?_
      rotate_left
      · intro w; go_simp; try with_reducible rfl
      refine wpAny_take (i := 1) (v := ?_) rfl (by kernel_rfl) (by kernel_rfl) (by kernel_rfl) (fun _ _ _ h => h) (Or.inl ⟨by kernel_rfl, ?_⟩) ?_
      rotate_left
      · intro w; go_simp; try with_reducible rfl
      refine wpAny_take (i := 2) (v := ?_) rfl (by kernel_rfl) (by kernel_rfl) (by kernel_rfl) (fun _ _ _ h => h) (Or.inl ⟨by kernel_rfl, ?_⟩) ?_
      rotate_left
      · intro w; go_simp; try with_reducible rfl
      refine wpAny_take (i := 3) (v := ?_) rfl (by kernel_rfl) (by kernel_rfl) (by kernel_rfl) (fun _ _ _ h => h) (Or.inl ⟨by kernel_rfl, ?_⟩) ?_
      rotate_left
      · intro w; go_simp; try with_reducible rfl
      refine wpAny_take (i := 4) (v := ?_) rfl (by kernel_rfl) (by kernel_rfl) (by kernel_rfl) (fun _ _ _ h => h) (Or.inl ⟨by kernel_rfl, ?_⟩) ?_
      rotate_left
      · intro w; go_simp; try with_reducible rfl
      refine wpAny_ready (rs := [5, 6]) (by kernel_rfl) (by simp) ?_
      refine AllReady.cons rfl (fun K hK => ?_) (AllReady.cons rfl (fun K hK => ?_) (AllReady.nil))
      · skip
        go_simp
        try (refine hK _ _ ?_; clear hK K)
        refine wpAny_ready (rs := [6]) (by kernel_rfl) (by simp) ?_
        refine AllReady.cons rfl (fun K hK => ?_) AllReady.nil
        go_simp
        try (refine hK _ _ ?_; clear hK K)
        refine wpAny_ready (rs := [7]) (by kernel_rfl) (by simp) ?_
        refine AllReady.cons rfl (fun K hK => ?_) AllReady.nil
        go_simp
        try (refine hK _ _ ?_; clear hK K)
        refine wpAny_ready (rs := [8]) (by kernel_rfl) (by simp) ?_
        refine AllReady.cons rfl (fun K hK => ?_) AllReady.nil
        refine step_ops (.tmp 68) (.tmp 70) (c := 1) HOL.out (by omega) (ROps.lit1 _ ⟨(T : Int), 1, (X : Int)⟩ _) ?_ ?_ ?_ ?_ ?_ ?_
        · omega
        · rfl
        · rfl
        · rfl
        · rfl
        intro v3 w3 hown3 hg3 hat3
        obtain ⟨⟨e0, e1⟩, hA3, hS3⟩ := HAL.out.growD hg3 hown3 hat3
        obtain ⟨A3, c3, rfl, _⟩ := own_form2 hown3
        have HF := Lib.hid (And.intro hA3 (HSL.out.trans hS3))
        clear hA3 hS3 hg3 hown3 hat3
        try (refine hK _ _ ?_; clear hK K)
        refine wpAny_take (i := 9) (v := ?_) rfl (by kernel_rfl) (by kernel_rfl) (by kernel_rfl) (fun _ _ _ h => h) (Or.inl ⟨by kernel_rfl, ?_⟩) ?_
        rotate_left
        · intro w; go_simp; try with_reducible rfl
        refine wpAny_take (i := 10) (v := ?_) rfl (by kernel_rfl) (by kernel_rfl) (by kernel_rfl) (fun _ _ _ h => h) (Or.inl ⟨by kernel_rfl, ?_⟩) ?_
        rotate_left
        · intro w; go_simp; try with_reducible rfl
        refine wpAny_take (i := 11) (v := ?_) rfl (by kernel_rfl) (by kernel_rfl) (by kernel_rfl) (fun _ _ _ h => h) (Or.inl ⟨by kernel_rfl, ?_⟩) ?_
        rotate_left
        · intro w; go_simp; try with_reducible rfl
        refine wpAny_ready (rs := [12]) (by kernel_rfl) (by simp) ?_
        refine AllReady.cons rfl (fun K hK => ?_) AllReady.nil
        go_simp
        try (refine hK _ _ ?_; clear hK K)
        refine wpAny_done (by kernel_rfl) ?_ _
        try go_simp
        go_end0
        exact ⟨rfl, _, by unfold grantD; simp only; rw [HG.out]; exact HF.out.1, HF.out.2⟩
      · skip
        go_simp
        try (refine hK _ _ ?_; clear hK K)
        refine wpAny_ready (rs := [5, 7]) (by kernel_rfl) (by simp) ?_
        refine AllReady.cons rfl (fun K hK => ?_) (AllReady.cons rfl (fun K hK => ?_) (AllReady.nil))
        · skip
          go_simp
          try (refine hK _ _ ?_; clear hK K)
          refine wpAny_ready (rs := [7]) (by kernel_rfl) (by simp) ?_
          refine AllReady.cons rfl (fun K hK => ?_) AllReady.nil
          go_simp
          try (refine hK _ _ ?_; clear hK K)
          refine wpAny_ready (rs := [8]) (by kernel_rfl) (by simp) ?_
          refine AllReady.cons rfl (fun K hK => ?_) AllReady.nil
          refine step_ops (.tmp 68) (.tmp 70) (c := 1) HOL.out (by omega) (ROps.lit1 _ ⟨(T : Int), 1, (X : Int)⟩ _) ?_ ?_ ?_ ?_ ?_ ?_
          · omega
          · rfl
          · rfl
          · rfl
          · rfl
          intro v3 w3 hown3 hg3 hat3
          obtain ⟨⟨e0, e1⟩, hA3, hS3⟩ := HAL.out.growD hg3 hown3 hat3
          obtain ⟨A3, c3, rfl, _⟩ := own_form2 hown3
          have HF := Lib.hid (And.intro hA3 (HSL.out.trans hS3))
          clear hA3 hS3 hg3 hown3 hat3
          try (refine hK _ _ ?_; clear hK K)
          refine wpAny_take (i := 9) (v := ?_) rfl (by kernel_rfl) (by kernel_rfl) (by kernel_rfl) (fun _ _ _ h => h) (Or.inl ⟨by kernel_rfl, ?_⟩) ?_
          rotate_left
          · intro w; go_simp; try with_reducible rfl
          refine wpAny_take (i := 10) (v := ?_) rfl (by kernel_rfl) (by kernel_rfl) (by kernel_rfl) (fun _ _ _ h => h) (Or.inl ⟨by kernel_rfl, ?_⟩) ?_
          rotate_left
          · intro w; go_simp; try with_reducible rfl
          refine wpAny_take (i := 11) (v := ?_) rfl (by kernel_rfl) (by kernel_rfl) (by kernel_rfl) (fun _ _ _ h => h) (Or.inl ⟨by kernel_rfl, ?_⟩) ?_
          rotate_left
          · intro w; go_simp; try with_reducible rfl
          refine wpAny_ready (rs := [12]) (by kernel_rfl) (by simp) ?_
          refine AllReady.cons rfl (fun K hK => ?_) AllReady.nil
          go_simp
          try (refine hK _ _ ?_; clear hK K)
          refine wpAny_done (by kernel_rfl) ?_ _
          try go_simp
          go_end0
          exact ⟨rfl, _, by unfold grantD; simp only; rw [HG.out]; exact HF.out.1, HF.out.2⟩
        · skip
          go_simp
          try (refine hK _ _ ?_; clear hK K)
          refine wpAny_ready (rs := [5]) (by kernel_rfl) (by simp) ?_
          refine AllReady.cons rfl (fun K hK => ?_) AllReady.nil
          go_simp
          try (refine hK _ _ ?_; clear hK K)
          refine wpAny_ready (rs := [8]) (by kernel_rfl) (by simp) ?_
          refine AllReady.cons rfl (fun K hK => ?_) AllReady.nil
          refine step_ops (.tmp 68) (.tmp 70) (c := 1) HOL.out (by omega) (ROps.lit1 _ ⟨(T : Int), 1, (X : Int)⟩ _) ?_ ?_ ?_ ?_ ?_ ?_
          · omega
          · rfl
          · rfl
          · rfl
          · rfl
          intro v3 w3 hown3 hg3 hat3
          obtain ⟨⟨e0, e1⟩, hA3, hS3⟩ := HAL.out.growD hg3 hown3 hat3
          obtain ⟨A3, c3, rfl, _⟩ := own_form2 hown3
          have HF := Lib.hid (And.intro hA3 (HSL.out.trans hS3))
          clear hA3 hS3 hg3 hown3 hat3
          try (refine hK _ _ ?_; clear hK K)
          refine wpAny_take (i := 9) (v := ?_) rfl (by kernel_rfl) (by kernel_rfl) (by kernel_rfl) (fun _ _ _ h => h) (Or.inl ⟨by kernel_rfl, ?_⟩) ?_
          rotate_left
          · intro w; go_simp; try with_reducible rfl
          refine wpAny_take (i := 10) (v := ?_) rfl (by kernel_rfl) (by kernel_rfl) (by kernel_rfl) (fun _ _ _ h => h) (Or.inl ⟨by kernel_rfl, ?_⟩) ?_
          rotate_left
          · intro w; go_simp; try with_reducible rfl
          refine wpAny_take (i := 11) (v := ?_) rfl (by kernel_rfl) (by kernel_rfl) (by kernel_rfl) (fun _ _ _ h => h) (Or.inl ⟨by kernel_rfl, ?_⟩) ?_
          rotate_left
          · intro w; go_simp; try with_reducible rfl
          refine wpAny_ready (rs := [12]) (by kernel_rfl) (by simp) ?_
          refine AllReady.cons rfl (fun K hK => ?_) AllReady.nil
          go_simp
          try (refine hK _ _ ?_; clear hK K)
          refine wpAny_done (by kernel_rfl) ?_ _
          try go_simp
          go_end0
          exact ⟨rfl, _, by unfold grantD; simp only; rw [HG.out]; exact HF.out.1, HF.out.2⟩
  · have hie : isEnd ⟨(T : Int), kd, it⟩ = true := by unfold isEnd; simp; omega
    have HG : Hid (grantL D.locks ⟨(T : Int), kd, it⟩ = dropL D.locks (T : Int)) := by show _ = _; unfold grantL; rw [if_pos hie]
    have hfr := free_run B R tg m V D T w1 hA hT3 hL
    have HFR := Lib.hid hfr
    have HBK := Lib.hid hbk
    have HSS := Lib.hid hS
    rw [hie]
    have d0 : w1.cell? ⟨w.heap.size, 0, none⟩ = some (.int .i64 (T : Int)) := RowIs.cell hbk rfl
    clear hfr hbk hS hA hie
    go_wp2_with fail
    refine HFR.out.mono ?_
    rintro e w2 ⟨rfl, V2, hA2, hS2⟩
    have hbk := hS2.row HBK.out hfar.1 hfar.2.1 hfar.2.2
    have hS := HSS.out.trans hS2
    clear HFR HBK HSS hS2 d0
    obtain ⟨Ad9, Aw9, Al9, Ak9, nd9, nw9, nl9, nk9, cd9, cw9, cl9, ck9, rfl, _, f1, f2, f3, f4⟩ := hA2.forms
    obtain ⟨wd, hwd⟩ : ∃ wd : World, wd = w2.drew := ⟨_, rfl⟩
    have hbd : Below w2.heap.size w2 wd := by rw [hwd]; exact (Below.refl _ _).drew
    have hbl : Below w2.heap.size w2 (wd.alloc (.cells #[.int .i64 (T : Int), .int .i64 kd, .int .i64 it] 62)) := hbd.alloc hbd.size _
    have r0 : wd.cell? ⟨R, 0, none⟩ = some (.slice Ad9 nd9 cd9) := RowIs.cell (RowIs.below hA2.box hbd (Nat.le_refl _)) rfl
    have r1 : (wd.alloc (.cells #[.int .i64 (T : Int), .int .i64 kd, .int .i64 it] 62)).cell? ⟨R, 0, none⟩ = some (.slice Ad9 nd9 cd9) := RowIs.cell (RowIs.below hA2.box hbl (Nat.le_refl _)) rfl
    have b0 : wd.cell? ⟨w.heap.size, 0, none⟩ = some (.int .i64 (T : Int)) := RowIs.cell (RowIs.below hbk hbd (Nat.le_refl _)) rfl
    have b1 : wd.cell? ⟨w.heap.size, 1, none⟩ = some (.int .i64 kd) := RowIs.cell (RowIs.below hbk hbd (Nat.le_refl _)) rfl
    have b2 : wd.cell? ⟨w.heap.size, 2, none⟩ = some (.int .i64 it) := RowIs.cell (RowIs.below hbk hbd (Nat.le_refl _)) rfl
    clear hbk
    have HOL := Lib.hid ((hA2.desk.below hbl).doneN f1)
    have hsl : B ≤ (wd.alloc (.cells #[.int .i64 (T : Int), .int .i64 kd, .int .i64 it] 62)).heap.size := (hA2.desk.below hbl).base
    have HAL := Lib.hid (hA2.lat hbl)
    have HSL := Lib.hid (hS.lat hbl)
    have HWD := Lib.hid hwd
    have hnn : nd9 ≤ 30000 := by first | omega | (simp only at f1 f2 f3 f4; omega)
    clear hA2 hS hwd hbd hbl f1 f2 f3 f4
    go_wp2_with fail
    refine wp_region_any (by kernel_rfl) ?_
    change wpAny _ _ _ _ _ _ _ (World.drew _)
    rw [← HWD.out]
    refine wpAny_take (i := 0) (v := ?_) rfl (by kernel_rfl) (by kernel_rfl) (by kernel_rfl) (fun _ _ _ h => h) (Or.inl ⟨by kernel_rfl, ?_⟩) ?_
    rotate_left
    · intro w; go_simp; try with_reducible rfl
    refine wpAny_take (i := 1) (v := ?_) rfl (by kernel_rfl) (by kernel_rfl) (by kernel_rfl) (fun _ _ _ h => h) (Or.inl ⟨by kernel_rfl, ?_⟩) ?_
    rotate_left
    · intro w; go_simp; try with_reducible rfl
    refine wpAny_take (i := 2) (v := ?_) rfl (by kernel_rfl) (by kernel_rfl) (by kernel_rfl) (fun _ _ _ h => h) (Or.inl ⟨by kernel_rfl, ?_⟩) ?_
    rotate_left
    · intro w; go_simp; try with_reducible rfl
    refine wpAny_take (i := 3) (v := ?_) rfl (by kernel_rfl) (by kernel_rfl) (by kernel_rfl) (fun _ _ _ h => h) (Or.inl ⟨by kernel_rfl, ?_⟩) ?_
    rotate_left
    · intro w; go_simp; try with_reducible rfl
    refine wpAny_take (i := 4) (v := ?_) rfl (by kernel_rfl) (by kernel_rfl) (by kernel_rfl) (fun _ _ _ h => h) (Or.inl ⟨by kernel_rfl, ?_⟩) ?_
    rotate_left
    · intro w; go_simp; try with_reducible rfl
    refine wpAny_ready (rs := [5, 6]) (by kernel_rfl) (by simp) ?_
    refine AllReady.cons rfl (fun K hK => ?_) (AllReady.cons rfl (fun K hK => ?_) (AllReady.nil))
    · skip
      go_simp
      try (refine hK _ _ ?_; clear hK K)
      refine wpAny_ready (rs := [6]) (by kernel_rfl) (by simp) ?_
      refine AllReady.cons rfl (fun K hK => ?_) AllReady.nil
      go_simp
      try (refine hK _ _ ?_; clear hK K)
      refine wpAny_ready (rs := [7]) (by kernel_rfl) (by simp) ?_
      refine AllReady.cons rfl (fun K hK => ?_) AllReady.nil
      go_simp
      try (refine hK _ _ ?_; clear hK K)
      refine wpAny_ready (rs := [8]) (by kernel_rfl) (by simp) ?_
      refine AllReady.cons rfl (fun K hK => ?_) AllReady.nil
      refine step_ops (.tmp 68) (.tmp 70) (c := 1) HOL.out (by omega) (ROps.lit1 _ ⟨(T : Int), kd, it⟩ _) ?_ ?_ ?_ ?_ ?_ ?_
      · omega
      · rfl
      · rfl
      · rfl
      · rfl
      intro v3 w3 hown3 hg3 hat3
      obtain ⟨⟨e0, e1⟩, hA3, hS3⟩ := HAL.out.growD hg3 hown3 hat3
      obtain ⟨A3, c3, rfl, _⟩ := own_form2 hown3
      have HF := Lib.hid (And.intro hA3 (HSL.out.trans hS3))
      clear hA3 hS3 hg3 hown3 hat3
      try (refine hK _ _ ?_; clear hK K)
      refine wpAny_take (i := 9) (v := ?_) rfl (by kernel_rfl) (by kernel_rfl) (by kernel_rfl) (fun _ _ _ h => h) (Or.inl ⟨by kernel_rfl, ?_⟩) ?_
      rotate_left
      · intro w; go_simp; try with_reducible rfl
      refine wpAny_take (i := 10) (v := ?_) rfl (by kernel_rfl) (by kernel_rfl) (by kernel_rfl) (fun _ _ _ h => h) (Or.inl ⟨by kernel_rfl, ?_⟩) ?_
      rotate_left
      · intro w; go_simp; try with_reducible rfl
      refine wpAny_take (i := 11) (v := ?_) rfl (by kernel_rfl) (by kernel_rfl) (by kernel_rfl) (fun _ _ _ h => h) (Or.inl ⟨by kernel_rfl, ?_⟩) ?_
      rotate_left
      · intro w; go_simp; try with_reducible rfl
      refine wpAny_ready (rs := [12]) (by kernel_rfl) (by simp) ?_
      refine AllReady.cons rfl (fun K hK => ?_) AllReady.nil
      go_simp
      try (refine hK _ _ ?_; clear hK K)
      refine wpAny_done (by kernel_rfl) ?_ _
      try go_simp
      go_end0
      exact ⟨rfl, _, by unfold grantD; simp only; rw [HG.out]; exact HF.out.1, HF.out.2⟩
    · skip
      go_simp
      try (refine hK _ _ ?_; clear hK K)
      refine wpAny_ready (rs := [5, 7]) (by kernel_rfl) (by simp) ?_
      refine AllReady.cons rfl (fun K hK => ?_) (AllReady.cons rfl (fun K hK => ?_) (AllReady.nil))
      · skip
        go_simp
        try (refine hK _ _ ?_; clear hK K)
        refine wpAny_ready (rs := [7]) (by kernel_rfl) (by simp) ?_
        refine AllReady.cons rfl (fun K hK => ?_) AllReady.nil
        go_simp
        try (refine hK _ _ ?_; clear hK K)
        refine wpAny_ready (rs := [8]) (by kernel_rfl) (by simp) ?_
        refine AllReady.cons rfl (fun K hK => ?_) AllReady.nil
        refine step_ops (.tmp 68) (.tmp 70) (c := 1) HOL.out (by omega) (ROps.lit1 _ ⟨(T : Int), kd, it⟩ _) ?_ ?_ ?_ ?_ ?_ ?_
        · omega
        · rfl
        · rfl
        · rfl
        · rfl
        intro v3 w3 hown3 hg3 hat3
        obtain ⟨⟨e0, e1⟩, hA3, hS3⟩ := HAL.out.growD hg3 hown3 hat3
        obtain ⟨A3, c3, rfl, _⟩ := own_form2 hown3
        have HF := Lib.hid (And.intro hA3 (HSL.out.trans hS3))
        clear hA3 hS3 hg3 hown3 hat3
        try (refine hK _ _ ?_; clear hK K)
        refine wpAny_take (i := 9) (v := ?_) rfl (by kernel_rfl) (by kernel_rfl) (by kernel_rfl) (fun _ _ _ h => h) (Or.inl ⟨by kernel_rfl, ?_⟩) ?_
        rotate_left
        · intro w; go_simp; try with_reducible rfl
        refine wpAny_take (i := 10) (v := ?_) rfl (by kernel_rfl) (by kernel_rfl) (by kernel_rfl) (fun _ _ _ h => h) (Or.inl ⟨by kernel_rfl, ?_⟩) ?_
        rotate_left
        · intro w; go_simp; try with_reducible rfl
        refine wpAny_take (i := 11) (v := ?_) rfl (by kernel_rfl) (by kernel_rfl) (by kernel_rfl) (fun _ _ _ h => h) (Or.inl ⟨by kernel_rfl, ?_⟩) ?_
        rotate_left
        · intro w; go_simp; try with_reducible rfl
        refine wpAny_ready (rs := [12]) (by kernel_rfl) (by simp) ?_
        refine AllReady.cons rfl (fun K hK => ?_) AllReady.nil
        go_simp
        try (refine hK _ _ ?_; clear hK K)
        refine wpAny_done (by kernel_rfl) ?_ _
        try go_simp
        go_end0
        exact ⟨rfl, _, by unfold grantD; simp only; rw [HG.out]; exact HF.out.1, HF.out.2⟩
      · skip
        go_simp
        try (refine hK _ _ ?_; clear hK K)
        refine wpAny_ready (rs := [5]) (by kernel_rfl) (by simp) ?_
        refine AllReady.cons rfl (fun K hK => ?_) AllReady.nil
        go_simp
        try (refine hK _ _ ?_; clear hK K)
        refine wpAny_ready (rs := [8]) (by kernel_rfl) (by simp) ?_
        refine AllReady.cons rfl (fun K hK => ?_) AllReady.nil
        refine step_ops (.tmp 68) (.tmp 70) (c := 1) HOL.out (by omega) (ROps.lit1 _ ⟨(T : Int), kd, it⟩ _) ?_ ?_ ?_ ?_ ?_ ?_
        · omega
        · rfl
        · rfl
        · rfl
        · rfl
        intro v3 w3 hown3 hg3 hat3
        obtain ⟨⟨e0, e1⟩, hA3, hS3⟩ := HAL.out.growD hg3 hown3 hat3
        obtain ⟨A3, c3, rfl, _⟩ := own_form2 hown3
        have HF := Lib.hid (And.intro hA3 (HSL.out.trans hS3))
        clear hA3 hS3 hg3 hown3 hat3
        try (refine hK _ _ ?_; clear hK K)
        refine wpAny_take (i := 9) (v := ?_) rfl (by kernel_rfl) (by kernel_rfl) (by kernel_rfl) (fun _ _ _ h => h) (Or.inl ⟨by kernel_rfl, ?_⟩) ?_
        rotate_left
        · intro w; go_simp; try with_reducible rfl
        refine wpAny_take (i := 10) (v := ?_) rfl (by kernel_rfl) (by kernel_rfl) (by kernel_rfl) (fun _ _ _ h => h) (Or.inl ⟨by kernel_rfl, ?_⟩) ?_
        rotate_left
        · intro w; go_simp; try with_reducible rfl
        refine wpAny_take (i := 11) (v := ?_) rfl (by kernel_rfl) (by kernel_rfl) (by kernel_rfl) (fun _ _ _ h => h) (Or.inl ⟨by kernel_rfl, ?_⟩) ?_
        rotate_left
        · intro w; go_simp; try with_reducible rfl
        refine wpAny_ready (rs := [12]) (by kernel_rfl) (by simp) ?_
        refine AllReady.cons rfl (fun K hK => ?_) AllReady.nil
        go_simp
        try (refine hK _ _ ?_; clear hK K)
        refine wpAny_done (by kernel_rfl) ?_ _
        try go_simp
        go_end0
        exact ⟨rfl, _, by unfold grantD; simp only; rw [HG.out]; exact HF.out.1, HF.out.2⟩
end Go.Proofs.Ytncebpmckbcabaa
