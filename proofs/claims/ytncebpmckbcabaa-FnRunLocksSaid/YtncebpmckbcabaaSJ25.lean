/-
  Texts that the proof rests on, joined: part 25.
-/
import Derived.StillTailTactics
import Derived.Test.YtncebpmckbcabaaSJ21
import Derived.Test.YtncebpmckbcabaaSJ24
namespace Go.Proofs.Ytncebpmckbcabaa
open Go.RowKit Go.BigFrame
set_option linter.unusedVariables false

set_option maxRecDepth 100000 in
set_option maxHeartbeats 2000000 in
theorem put_run (B R tg : Nat) (m : Value) (V : DV) (D : Dsk) (s : OpV) (w : World) (h : RunAt w B R tg m V D) (hs : okStep s = true) (hL : D.locks.length ≤ 9000) :
    Calls Try.prog 160 #[.pointer (some ⟨R, 0, none⟩), s.val] w (RPost B R tg m V w ⟨D.done, D.wait, D.locks ++ [s], D.dead⟩) := by
  obtain ⟨Ad, Aw, Al, Ak, nd, nw, nl, nk, cd, cw, cl, ck, rfl, _, _, _, h3, _⟩ := h.forms
  obtain ⟨W, hW⟩ : ∃ W : World, W = w.alloc (.cells #[.int .i64 s.tx, .int .i64 s.kind, .int .i64 s.item] 73) := ⟨_, rfl⟩
  have hbW : Below w.heap.size w W := by rw [hW]; exact (Below.refl _ _).alloc (Nat.le_refl _) _
  have hbWd : Below w.heap.size w W.drew := hbW.drew
  have hA := h.lat hbWd
  have hbx : RowIs W.drew w.heap.size 73 [.int .i64 s.tx, .int .i64 s.kind, .int .i64 s.item] := by rw [hW]; exact heap_alloc_new w _
  have hbx0 : RowIs W w.heap.size 73 [.int .i64 s.tx, .int .i64 s.kind, .int .i64 s.item] := hbx
  have htk := take_any tg D.locks s W.drew hA.tbl hs
  have cT : W.cell? ⟨R, 4, none⟩ = some (.pointer (some ⟨tg, 0, none⟩)) := (h.lat hbW).cells.2.2.2.2.1
  have c0 : W.cell? ⟨w.heap.size, 0, none⟩ = some (.int .i64 s.tx) := RowIs.cell hbx0 rfl
  have c1 : W.cell? ⟨w.heap.size, 1, none⟩ = some (.int .i64 s.kind) := RowIs.cell hbx0 rfl
  have c2 : W.cell? ⟨w.heap.size, 2, none⟩ = some (.int .i64 s.item) := RowIs.cell hbx0 rfl
  have htgw : w.heap.size ≠ tg := by have := h.ltT; omega
  have HBX := Lib.hid hbx
  have HTK := Lib.hid htk
  have HS := Lib.hid hs
  have HAD := Lib.hid hA
  have HSD : Hid (RSt R tg w ⟨.slice Ad nd cd, .slice Aw nw cw, .slice Al nl cl, .slice Ak nk ck⟩ W.drew ⟨.slice Ad nd cd, .slice Aw nw cw, .slice Al nl cl, .slice Ak nk ck⟩) := RSt.of_below R tg _ hbWd
  have HW := Lib.hid hW
  have hB0 := hA.base
  clear htk hs hbW hbWd hA hbx hbx0 hW h
  obtain ⟨tx, kd, it⟩ := s
  unfold OpV.val
  unfold OpV.val at HTK
  simp only at HTK HBX HW c0 c1 c2
  go_enter Try.func160, Try.ntmps160
  go_wp2_with fail
  rw [← HW.out]
  refine wp_region_still_tail 5 (by kernel_rfl) (by kernel_rfl) ?_
  simp only [List.take_succ_cons, List.take_zero, List.drop_succ_cons, List.drop_zero]
  repeat (first | still_step)
  refine wpStill_nil ?_
  change wpList _ _ _ _ _ W.drew
  clear c0 c1 c2 cT
  go_wp2_with fail
  refine HTK.out.mono ?_
  rintro e wt ⟨rfl, hT, hgt⟩
  have hdt : DeskAt wt B _ D := HAD.out.desk.apart hgt (fun b e => by injection e with e; subst e; exact HAD.out.notT)
  have hrt : RowIs wt R _ _ := RowIs.grown HAD.out.box hgt (fun e => HAD.out.ne (by injection e with e; exact e.symm))
  have hxt : RowIs wt w.heap.size _ _ := RowIs.grown HBX.out hgt (fun e => htgw (by injection e with e; exact e.symm))
  have hst := hgt.size
  obtain ⟨wd, hwd⟩ : ∃ wd : World, wd = wt.drew := ⟨_, rfl⟩
  have hbd : Below wt.heap.size wt wd := by rw [hwd]; exact (Below.refl _ _).drew
  have hbl : Below wt.heap.size wt (wd.alloc (.cells #[.int .i64 tx, .int .i64 kd, .int .i64 it] 73)) := hbd.alloc hbd.size _
  have r2 : wd.cell? ⟨R, 2, none⟩ = some (.slice Al nl cl) := RowIs.cell (RowIs.below hrt hbd (Nat.le_refl _)) rfl
  have r2a : (wd.alloc (.cells #[.int .i64 tx, .int .i64 kd, .int .i64 it] 73)).cell? ⟨R, 2, none⟩ = some (.slice Al nl cl) := RowIs.cell (RowIs.below hrt hbl (Nat.le_refl _)) rfl
  have b0 : wd.cell? ⟨w.heap.size, 0, none⟩ = some (.int .i64 tx) := RowIs.cell (RowIs.below hxt hbd (Nat.le_refl _)) rfl
  have b1 : wd.cell? ⟨w.heap.size, 1, none⟩ = some (.int .i64 kd) := RowIs.cell (RowIs.below hxt hbd (Nat.le_refl _)) rfl
  have b2 : wd.cell? ⟨w.heap.size, 2, none⟩ = some (.int .i64 it) := RowIs.cell (RowIs.below hxt hbd (Nat.le_refl _)) rfl
  have HOL : Hid ((wd.alloc (.cells #[.int .i64 tx, .int .i64 kd, .int .i64 it] 73)).ownsRow B 73 3 (.slice Al nl cl) nl (opCells D.locks)) := (hdt.below hbl).locksN h3
  have hsl : B ≤ (wd.alloc (.cells #[.int .i64 tx, .int .i64 kd, .int .i64 it] 73)).heap.size := (hdt.below hbl).base
  have HBL := Lib.hid hbl
  have HT := Lib.hid (And.intro hT hgt)
  have HWD := Lib.hid hwd
  have hnl : nl ≤ 9000 := by omega
  clear hT hgt hdt hrt hxt hwd hbd hbl
  go_wp2_with fail
  refine wp_region_any (by kernel_rfl) ?_
  change wpAny _ _ _ _ _ _ _ (World.drew _)
  rw [← HWD.out]
  refine wpAny_take (i := 0) (v := ?_) rfl (by kernel_rfl) (by kernel_rfl) (by kernel_rfl) (fun _ _ _ h => h) (Or.inl ⟨by kernel_rfl, ?_⟩) ?_
  rotate_left
  · intro w; go_simp; try with_reducible rfl
  refine wpAny_take (i := 1) (v := ?_) rfl (by kernel_rfl) (by kernel_rfl) (by kernel_rfl) (fun _ _ _ h => h) (Or.inl ⟨by kernel_rfl, ?_⟩) ?_
  rotate_left
  · intro w; go_simp; try with_reducible rfl
  refine wpAny_take (i := 2) (v := ?_) rfl (by kernel_rfl) (by kernel_rfl) (by kernel_rfl) (fun _ _ _ h => h) (Or.inl ⟨by kernel_rfl, ?_⟩) ?_
  rotate_left
  · intro w; go_simp; try with_reducible rfl
  refine wpAny_take (i := 3) (v := ?_) rfl (by kernel_rfl) (by kernel_rfl) (by kernel_rfl) (fun _ _ _ h => h) (Or.inl ⟨by kernel_rfl, ?_⟩) ?_
  rotate_left
  · intro w; go_simp; try with_reducible rfl
  refine wpAny_take (i := 4) (v := ?_) rfl (by kernel_rfl) (by kernel_rfl) (by kernel_rfl) (fun _ _ _ h => h) (Or.inl ⟨by kernel_rfl, ?_⟩) ?_
  rotate_left
  · intro w; go_simp; try with_reducible rfl
  refine wpAny_ready (rs := [5, 6]) (by kernel_rfl) (by simp) ?_
  refine AllReady.cons rfl (fun K hK => ?_) (AllReady.cons rfl (fun K hK => ?_) (AllReady.nil))
  · skip
    go_simp
    try (refine hK _ _ ?_; clear hK K)
    refine wpAny_ready (rs := [6]) (by kernel_rfl) (by simp) ?_
    refine AllReady.cons rfl (fun K hK => ?_) AllReady.nil
    go_simp
    try (refine hK _ _ ?_; clear hK K)
    refine wpAny_ready (rs := [7]) (by kernel_rfl) (by simp) ?_
    refine AllReady.cons rfl (fun K hK => ?_) AllReady.nil
    go_simp
    try (refine hK _ _ ?_; clear hK K)
    refine wpAny_ready (rs := [8]) (by kernel_rfl) (by simp) ?_
    refine AllReady.cons rfl (fun K hK => ?_) AllReady.nil
    refine step_steps (.tmp 15) (.tmp 17) (c := 1) HOL.out (by omega) (ROps.lit1 _ ⟨tx, kd, it⟩ _) ?_ ?_ ?_ ?_ ?_ ?_
    · omega
    · rfl
    · rfl
    · rfl
    · rfl
    intro v3 w3 hown3 hg3 hat3
    obtain ⟨⟨e0, e1⟩, hA3, hS3⟩ := HAD.out.put HS.out HT.out.1 HT.out.2 HBL.out hg3 hown3 hat3
    obtain ⟨A3, c3, rfl, _⟩ := own_form2 hown3
    have HF := Lib.hid (And.intro hA3 (HSD.out.trans hS3))
    clear hA3 hS3 hg3 hown3 hat3
    try (refine hK _ _ ?_; clear hK K)
    refine wpAny_take (i := 9) (v := ?_) rfl (by kernel_rfl) (by kernel_rfl) (by kernel_rfl) (fun _ _ _ h => h) (Or.inl ⟨by kernel_rfl, ?_⟩) ?_
    rotate_left
    · intro w; go_simp; try with_reducible rfl
    refine wpAny_take (i := 10) (v := ?_) rfl (by kernel_rfl) (by kernel_rfl) (by kernel_rfl) (fun _ _ _ h => h) (Or.inl ⟨by kernel_rfl, ?_⟩) ?_
    rotate_left
    · intro w; go_simp; try with_reducible rfl
    refine wpAny_take (i := 11) (v := ?_) rfl (by kernel_rfl) (by kernel_rfl) (by kernel_rfl) (fun _ _ _ h => h) (Or.inl ⟨by kernel_rfl, ?_⟩) ?_
    rotate_left
    · intro w; go_simp; try with_reducible rfl
    refine wpAny_ready (rs := [12]) (by kernel_rfl) (by simp) ?_
    refine AllReady.cons rfl (fun K hK => ?_) AllReady.nil
    go_simp
    try (refine hK _ _ ?_; clear hK K)
    refine wpAny_done (by kernel_rfl) ?_ _
    try go_simp
    go_end0
    exact ⟨rfl, _, HF.out.1, HF.out.2⟩
  · skip
    go_simp
    try (refine hK _ _ ?_; clear hK K)
    refine wpAny_ready (rs := [5, 7]) (by kernel_rfl) (by simp) ?_
    refine AllReady.cons rfl (fun K hK => ?_) (AllReady.cons rfl (fun K hK => ?_) (AllReady.nil))
    · skip
      go_simp
      try (refine hK _ _ ?_; clear hK K)
      refine wpAny_ready (rs := [7]) (by kernel_rfl) (by simp) ?_
      refine AllReady.cons rfl (fun K hK => ?_) AllReady.nil
      go_simp
      try (refine hK _ _ ?_; clear hK K)
      refine wpAny_ready (rs := [8]) (by kernel_rfl) (by simp) ?_
      refine AllReady.cons rfl (fun K hK => ?_) AllReady.nil
      refine step_steps (.tmp 15) (.tmp 17) (c := 1) HOL.out (by omega) (ROps.lit1 _ ⟨tx, kd, it⟩ _) ?_ ?_ ?_ ?_ ?_ ?_
      · omega
      · rfl
      · rfl
      · rfl
      · rfl
      intro v3 w3 hown3 hg3 hat3
      obtain ⟨⟨e0, e1⟩, hA3, hS3⟩ := HAD.out.put HS.out HT.out.1 HT.out.2 HBL.out hg3 hown3 hat3
      obtain ⟨A3, c3, rfl, _⟩ := own_form2 hown3
      have HF := Lib.hid (And.intro hA3 (HSD.out.trans hS3))
      clear hA3 hS3 hg3 hown3 hat3
      try (refine hK _ _ ?_; clear hK K)
      refine wpAny_take (i := 9) (v := ?_) rfl (by kernel_rfl) (by kernel_rfl) (by kernel_rfl) (fun _ _ _ h => h) (Or.inl ⟨by kernel_rfl, ?_⟩) ?_
      rotate_left
      · intro w; go_simp; try with_reducible rfl
      refine wpAny_take (i := 10) (v := ?_) rfl (by kernel_rfl) (by kernel_rfl) (by kernel_rfl) (fun _ _ _ h => h) (Or.inl ⟨by kernel_rfl, ?_⟩) ?_
      rotate_left
      · intro w; go_simp; try with_reducible rfl
      refine wpAny_take (i := 11) (v := ?_) rfl (by kernel_rfl) (by kernel_rfl) (by kernel_rfl) (fun _ _ _ h => h) (Or.inl ⟨by kernel_rfl, ?_⟩) ?_
      rotate_left
      · intro w; go_simp; try with_reducible rfl
      refine wpAny_ready (rs := [12]) (by kernel_rfl) (by simp) ?_
      refine AllReady.cons rfl (fun K hK => ?_) AllReady.nil
      go_simp
      try (refine hK _ _ ?_; clear hK K)
      refine wpAny_done (by kernel_rfl) ?_ _
      try go_simp
      go_end0
      exact ⟨rfl, _, HF.out.1, HF.out.2⟩
    · skip
      go_simp
      try (refine hK _ _ ?_; clear hK K)
      refine wpAny_ready (rs := [5]) (by kernel_rfl) (by simp) ?_
      refine AllReady.cons rfl (fun K hK => ?_) AllReady.nil
      go_simp
      try (refine hK _ _ ?_; clear hK K)
      refine wpAny_ready (rs := [8]) (by kernel_rfl) (by simp) ?_
      refine AllReady.cons rfl (fun K hK => ?_) AllReady.nil
      refine step_steps (.tmp 15) (.tmp 17) (c := 1) HOL.out (by omega) (ROps.lit1 _ ⟨tx, kd, it⟩ _) ?_ ?_ ?_ ?_ ?_ ?_
      · omega
      · rfl
      · rfl
      · rfl
      · rfl
      intro v3 w3 hown3 hg3 hat3
      obtain ⟨⟨e0, e1⟩, hA3, hS3⟩ := HAD.out.put HS.out HT.out.1 HT.out.2 HBL.out hg3 hown3 hat3
      obtain ⟨A3, c3, rfl, _⟩ := own_form2 hown3
      have HF := Lib.hid (And.intro hA3 (HSD.out.trans hS3))
      clear hA3 hS3 hg3 hown3 hat3
      try (refine hK _ _ ?_; clear hK K)
      refine wpAny_take (i := 9) (v := ?_) rfl (by kernel_rfl) (by kernel_rfl) (by kernel_rfl) (fun _ _ _ h => h) (Or.inl ⟨by kernel_rfl, ?_⟩) ?_
      rotate_left
      · intro w; go_simp; try with_reducible rfl
      refine wpAny_take (i := 10) (v := ?_) rfl (by kernel_rfl) (by kernel_rfl) (by kernel_rfl) (fun _ _ _ h => h) (Or.inl ⟨by kernel_rfl, ?_⟩) ?_
      rotate_left
      · intro w; go_simp; try with_reducible rfl
      refine wpAny_take (i := 11) (v := ?_) rfl (by kernel_rfl) (by kernel_rfl) (by kernel_rfl) (fun _ _ _ h => h) (Or.inl ⟨by kernel_rfl, ?_⟩) ?_
      rotate_left
      · intro w; go_simp; try with_reducible rfl
      refine wpAny_ready (rs := [12]) (by kernel_rfl) (by simp) ?_
      refine AllReady.cons rfl (fun K hK => ?_) AllReady.nil
      go_simp
      try (refine hK _ _ ?_; clear hK K)
      refine wpAny_done (by kernel_rfl) ?_ _
      try go_simp
      go_end0
      exact ⟨rfl, _, HF.out.1, HF.out.2⟩
end Go.Proofs.Ytncebpmckbcabaa
