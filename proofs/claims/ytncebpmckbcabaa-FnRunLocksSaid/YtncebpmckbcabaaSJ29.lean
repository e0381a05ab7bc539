/-
  Texts that the proof rests on, joined: part 29.
-/
import Derived.Deep.CutRange
import Derived.Test.YtncebpmckbcabaaSJ27
import Derived.Test.YtncebpmckbcabaaSJ28
namespace Go.Proofs.Ytncebpmckbcabaa
open Go.RowKit Go.BigFrame
set_option linter.unusedVariables false

set_option maxRecDepth 100000 in
set_option maxHeartbeats 4000000 in
theorem abort_run (B R tg : Nat) (m : Value) (V : DV) (D : Dsk) (T : Nat) (w : World) (h : RunAt w B R tg m V D) (hT : T ≤ 3) (hL : D.locks.length ≤ 8000) (hN : D.done.length ≤ 9000 ∧ D.wait.length ≤ 9000 ∧ D.dead.length ≤ 9000) :
    Calls Try.prog 130 #[.pointer (some ⟨R, 0, none⟩), .int .i64 (T : Int)] w (RPost B R tg m V w (killD D T)) := by
  have hT4 : (T : Int) < 4 := by omega
  obtain ⟨W, hW⟩ : ∃ W : World, W = w.alloc (.cells #[.int .i64 (T : Int)] 3) := ⟨_, rfl⟩
  have hbW : Below w.heap.size w W := by rw [hW]; exact (Below.refl _ _).alloc (Nat.le_refl _) _
  have hbx : RowIs W w.heap.size 3 [.int .i64 (T : Int)] := by rw [hW]; exact heap_alloc_new w _
  have hfar := h.far (Nat.le_refl _)
  have hdl := dropL_len D.locks (T : Int)
  have HW := Lib.hid hW
  have HBX := Lib.hid hbx
  have HFR := Lib.hid (free_run B R tg m V D T W (h.lat hbW) hT hL)
  have HSW : Hid (RSt R tg w V W V) := RSt.of_below R tg V hbW
  clear hW hbx h
  go_enter Try.func130, Try.ntmps130
  go_wp2_with fail
  rw [← HW.out]
  refine HFR.out.mono ?_
  rintro e w1 ⟨rfl, V1, hA, hS⟩
  clear HFR hbW
  go_upto_region 2 with fail
  go_cut [] from 7 to 19 (fun wx => ∃ (V2 : DV) (w6 : World), w6 = wx ∧ RunAt w6 B R tg m V2 ⟨D.done ++ [⟨(T : Int), 3, 0⟩], D.wait, dropL D.locks (T : Int), D.dead⟩ ∧ RSt R tg W V w6 V2)
  case rest =>
    obtain ⟨V2, w6, rfl, hA, hS⟩ := hcut
    try clear hcut
    go_upto_region 3 with fail
    go_cut [] from 20 to 31 (fun wx => ∃ (V2 : DV) (w7 : World), w7 = wx ∧ RunAt w7 B R tg m V2 ⟨D.done ++ [⟨(T : Int), 3, 0⟩], D.wait, dropL D.locks (T : Int), D.dead ++ [(T : Int)]⟩ ∧ RSt R tg W V w7 V2)
    case rest =>
      obtain ⟨V3, w7, rfl, hA, hS⟩ := hcut
      try clear hcut
      obtain ⟨Ad9, Aw9, Al9, Ak9, nd9, nw9, nl9, nk9, cd9, cw9, cl9, ck9, rfl, _, f1, f2, f3, f4⟩ := hA.forms
      have r0 : w7.cell? ⟨R, 1, none⟩ = some (.slice Aw9 nw9 cw9) := hA.cells.2.1
      have hdf := DeleteFunc_run B Aw9 nw9 cw9 w.heap.size D.wait (T : Int) w7 (hA.desk.waitN f2) (by simp only at f2; omega) (hS.row HBX.out hfar.1 hfar.2.1 hfar.2.2)
      have HDF := Lib.hid hdf
      have HA := Lib.hid hA
      have HS := Lib.hid hS
      have hrun := runs_abort1
      unfold Runs at hrun
      clear hdf hA hS f1 f2 f3 f4
      go_wp2_with fail
      refine HDF.out.mono ?_
      rintro e w8 ⟨rfl, ho8, hg8⟩
      obtain ⟨⟨e0, e1⟩, hA8, hS8⟩ := HA.out.growW hg8 ho8 (.inl (by cases Aw9 <;> rfl))
      have HF := Lib.hid (And.intro hA8 (HSW.out.trans (HS.out.trans hS8)))
      clear hA8 hS8 ho8 hg8
      go_wp2_with fail
      go_end0
      exact ⟨rfl, _, HF.out.1, HF.out.2⟩
    obtain ⟨Ad9, Aw9, Al9, Ak9, nd9, nw9, nl9, nk9, cd9, cw9, cl9, ck9, rfl, _, f1, f2, f3, f4⟩ := hA.forms
    obtain ⟨wd, hwd⟩ : ∃ wd : World, wd = w6.drew := ⟨_, rfl⟩
    have hbd : Below w6.heap.size w6 wd := by rw [hwd]; exact (Below.refl _ _).drew
    have hbl : Below w6.heap.size w6 (wd.alloc (.cells #[.int .i64 (T : Int)] 3)) := hbd.alloc hbd.size _
    have r0 : wd.cell? ⟨R, 3, none⟩ = some (.slice Ak9 nk9 ck9) := RowIs.cell (RowIs.below hA.box hbd (Nat.le_refl _)) rfl
    have r1 : (wd.alloc (.cells #[.int .i64 (T : Int)] 3)).cell? ⟨R, 3, none⟩ = some (.slice Ak9 nk9 ck9) := RowIs.cell (RowIs.below hA.box hbl (Nat.le_refl _)) rfl
    have b0 : wd.cell? ⟨w.heap.size, 0, none⟩ = some (.int .i64 (T : Int)) := RowIs.cell ((hS.lat hbd).row HBX.out hfar.1 hfar.2.1 hfar.2.2) rfl
    have HOL := Lib.hid ((hA.desk.below hbl).deadN f4)
    have hsl : B ≤ (wd.alloc (.cells #[.int .i64 (T : Int)] 3)).heap.size := (hA.desk.below hbl).base
    have HAL := Lib.hid (hA.lat hbl)
    have HSL := Lib.hid (hS.lat hbl)
    have HWD := Lib.hid hwd
    have hnn : nk9 ≤ 30000 := by first | omega | (simp only at f1 f2 f3 f4; omega)
    clear hA hS hwd hbd hbl f1 f2 f3 f4
    go_wp2_with fail
    refine wp_region_any (by kernel_rfl) ?_
    change wpAny _ _ _ _ _ _ _ (World.drew _)
    rw [← HWD.out]
    refine wpAny_take (i := 0) (v := ?_) rfl (by kernel_rfl) (by kernel_rfl) (by kernel_rfl) (fun _ _ _ h => h) (Or.inl ⟨by kernel_rfl, ?_⟩) ?_
    rotate_left
    · intro w; go_simp; try with_reducible rfl
    refine wpAny_take (i := 1) (v := ?_) rfl (by kernel_rfl) (by kernel_rfl) (by kernel_rfl) (fun _ _ _ h => h) (Or.inl ⟨by kernel_rfl, ?_⟩) ?_
    rotate_left
    · intro w; go_simp; try with_reducible rfl
    refine wpAny_take (i := 2) (v := ?_) rfl (by kernel_rfl) (by kernel_rfl) (by kernel_rfl) (fun _ _ _ h => h) (Or.inl ⟨by kernel_rfl, ?_⟩) ?_
    rotate_left
    · intro w; go_simp; try with_reducible rfl
    refine wpAny_take (i := 3) (v := ?_) rfl (by kernel_rfl) (by kernel_rfl) (by kernel_rfl) (fun _ _ _ h => h) (Or.inl ⟨by kernel_rfl, ?_⟩) ?_
    rotate_left
    · intro w; go_simp; try with_reducible rfl
    refine wpAny_take (i := 4) (v := ?_) rfl (by kernel_rfl) (by kernel_rfl) (by kernel_rfl) (fun _ _ _ h => h) (Or.inl ⟨by kernel_rfl, ?_⟩) ?_
    rotate_left
    · intro w; go_simp; try with_reducible rfl
    refine wpAny_ready (rs := [5, 6]) (by kernel_rfl) (by simp) ?_
    refine AllReady.cons rfl (fun K hK => ?_) (AllReady.cons rfl (fun K hK => ?_) (AllReady.nil))
    · skip
      go_simp
      try (refine hK _ _ ?_; clear hK K)
      refine wpAny_ready (rs := [6]) (by kernel_rfl) (by simp) ?_
      refine AllReady.cons rfl (fun K hK => ?_) AllReady.nil
      go_simp
      try (refine hK _ _ ?_; clear hK K)
      refine wpAny_ready (rs := [7]) (by kernel_rfl) (by simp) ?_
      refine AllReady.cons rfl (fun K hK => ?_) AllReady.nil
      go_simp
      try (refine hK _ _ ?_; clear hK K)
      refine wpAny_ready (rs := [8]) (by kernel_rfl) (by simp) ?_
      refine AllReady.cons rfl (fun K hK => ?_) AllReady.nil
      refine step_ints (.tmp 25) (.tmp 27) (c := 1) HOL.out (by omega) (lit1 rfl (T : Int)) ?_ ?_ ?_ ?_ ?_ ?_
      · omega
      · rfl
      · rfl
      · rfl
      · rfl
      intro v3 w3 hown3 hg3 hat3
      obtain ⟨⟨e0, e1⟩, hA3, hS3⟩ := HAL.out.growK hg3 hown3 hat3
      obtain ⟨A3, c3, rfl, _⟩ := own_form2 hown3
      have HF := Lib.hid (And.intro hA3 (HSL.out.trans hS3))
      clear hA3 hS3 hg3 hown3 hat3
      try (refine hK _ _ ?_; clear hK K)
      refine wpAny_take (i := 9) (v := ?_) rfl (by kernel_rfl) (by kernel_rfl) (by kernel_rfl) (fun _ _ _ h => h) (Or.inl ⟨by kernel_rfl, ?_⟩) ?_
      rotate_left
      · intro w; go_simp; try with_reducible rfl
      refine wpAny_take (i := 10) (v := ?_) rfl (by kernel_rfl) (by kernel_rfl) (by kernel_rfl) (fun _ _ _ h => h) (Or.inl ⟨by kernel_rfl, ?_⟩) ?_
      rotate_left
      · intro w; go_simp; try with_reducible rfl
      refine wpAny_take (i := 11) (v := ?_) rfl (by kernel_rfl) (by kernel_rfl) (by kernel_rfl) (fun _ _ _ h => h) (Or.inl ⟨by kernel_rfl, ?_⟩) ?_
      rotate_left
      · intro w; go_simp; try with_reducible rfl
      refine wpAny_ready (rs := [12]) (by kernel_rfl) (by simp) ?_
      refine AllReady.cons rfl (fun K hK => ?_) AllReady.nil
      go_simp
      try (refine hK _ _ ?_; clear hK K)
      refine wpAny_done (by kernel_rfl) ?_ _
      try go_simp
      go_wp2_with fail
      go_meet
      exact ⟨_, _, rfl, HF.out.1, HF.out.2⟩
    · skip
      go_simp
      try (refine hK _ _ ?_; clear hK K)
      refine wpAny_ready (rs := [5, 7]) (by kernel_rfl) (by simp) ?_
      refine AllReady.cons rfl (fun K hK => ?_) (AllReady.cons rfl (fun K hK => ?_) (AllReady.nil))
      · skip
        go_simp
        try (refine hK _ _ ?_; clear hK K)
        refine wpAny_ready (rs := [7]) (by kernel_rfl) (by simp) ?_
        refine AllReady.cons rfl (fun K hK => ?_) AllReady.nil
        go_simp
        try (refine hK _ _ ?_; clear hK K)
        refine wpAny_ready (rs := [8]) (by kernel_rfl) (by simp) ?_
        refine AllReady.cons rfl (fun K hK => ?_) AllReady.nil
        refine step_ints (.tmp 25) (.tmp 27) (c := 1) HOL.out (by omega) (lit1 rfl (T : Int)) ?_ ?_ ?_ ?_ ?_ ?_
        · omega
        · rfl
        · rfl
        · rfl
        · rfl
        intro v3 w3 hown3 hg3 hat3
        obtain ⟨⟨e0, e1⟩, hA3, hS3⟩ := HAL.out.growK hg3 hown3 hat3
        obtain ⟨A3, c3, rfl, _⟩ := own_form2 hown3
        have HF := Lib.hid (And.intro hA3 (HSL.out.trans hS3))
        clear hA3 hS3 hg3 hown3 hat3
        try (refine hK _ _ ?_; clear hK K)
        refine wpAny_take (i := 9) (v := ?_) rfl (by kernel_rfl) (by kernel_rfl) (by kernel_rfl) (fun _ _ _ h => h) (Or.inl ⟨by kernel_rfl, ?_⟩) ?_
        rotate_left
        · intro w; go_simp; try with_reducible rfl
        refine wpAny_take (i := 10) (v := ?_) rfl (by kernel_rfl) (by kernel_rfl) (by kernel_rfl) (fun _ _ _ h => h) (Or.inl ⟨by kernel_rfl, ?_⟩) ?_
        rotate_left
        · intro w; go_simp; try with_reducible rfl
        refine wpAny_take (i := 11) (v := ?_) rfl (by kernel_rfl) (by kernel_rfl) (by kernel_rfl) (fun _ _ _ h => h) (Or.inl ⟨by kernel_rfl, ?_⟩) ?_
        rotate_left
        · intro w; go_simp; try with_reducible rfl
        refine wpAny_ready (rs := [12]) (by kernel_rfl) (by simp) ?_
        refine AllReady.cons rfl (fun K hK => ?_) AllReady.nil
        go_simp
        try (refine hK _ _ ?_; clear hK K)
        refine wpAny_done (by kernel_rfl) ?_ _
        try go_simp
        go_wp2_with fail
        go_meet
        exact ⟨_, _, rfl, HF.out.1, HF.out.2⟩
      · skip
        go_simp
        try (refine hK _ _ ?_; clear hK K)
        refine wpAny_ready (rs := [5]) (by kernel_rfl) (by simp) ?_
        refine AllReady.cons rfl (fun K hK => ?_) AllReady.nil
        go_simp
        try (refine hK _ _ ?_; clear hK K)
        refine wpAny_ready (rs := [8]) (by kernel_rfl) (by simp) ?_
        refine AllReady.cons rfl (fun K hK => ?_) AllReady.nil
        refine step_ints (.tmp 25) (.tmp 27) (c := 1) HOL.out (by omega) (lit1 rfl (T : Int)) ?_ ?_ ?_ ?_ ?_ ?_
        · omega
        · rfl
        · rfl
        · rfl
        · rfl
        intro v3 w3 hown3 hg3 hat3
        obtain ⟨⟨e0, e1⟩, hA3, hS3⟩ := HAL.out.growK hg3 hown3 hat3
        obtain ⟨A3, c3, rfl, _⟩ := own_form2 hown3
        have HF := Lib.hid (And.intro hA3 (HSL.out.trans hS3))
        clear hA3 hS3 hg3 hown3 hat3
        try (refine hK _ _ ?_; clear hK K)
        refine wpAny_take (i := 9) (v := ?_) rfl (by kernel_rfl) (by kernel_rfl) (by kernel_rfl) (fun _ _ _ h => h) (Or.inl ⟨by kernel_rfl, ?_⟩) ?_
        rotate_left
        · intro w; go_simp; try with_reducible rfl
        refine wpAny_take (i := 10) (v := ?_) rfl (by kernel_rfl) (by kernel_rfl) (by kernel_rfl) (fun _ _ _ h => h) (Or.inl ⟨by kernel_rfl, ?_⟩) ?_
        rotate_left
        · intro w; go_simp; try with_reducible rfl
        refine wpAny_take (i := 11) (v := ?_) rfl (by kernel_rfl) (by kernel_rfl) (by kernel_rfl) (fun _ _ _ h => h) (Or.inl ⟨by kernel_rfl, ?_⟩) ?_
        rotate_left
        · intro w; go_simp; try with_reducible rfl
        refine wpAny_ready (rs := [12]) (by kernel_rfl) (by simp) ?_
        refine AllReady.cons rfl (fun K hK => ?_) AllReady.nil
        go_simp
        try (refine hK _ _ ?_; clear hK K)
        refine wpAny_done (by kernel_rfl) ?_ _
        try go_simp
        go_wp2_with fail
        go_meet
        exact ⟨_, _, rfl, HF.out.1, HF.out.2⟩
  obtain ⟨Ad9, Aw9, Al9, Ak9, nd9, nw9, nl9, nk9, cd9, cw9, cl9, ck9, rfl, _, f1, f2, f3, f4⟩ := hA.forms
  obtain ⟨wd, hwd⟩ : ∃ wd : World, wd = w1.drew := ⟨_, rfl⟩
  have hbd : Below w1.heap.size w1 wd := by rw [hwd]; exact (Below.refl _ _).drew
  have hbl : Below w1.heap.size w1 (wd.alloc (.cells #[.int .i64 (T : Int), .int .i64 3, .int .i64 0] 62)) := hbd.alloc hbd.size _
  have r0 : wd.cell? ⟨R, 0, none⟩ = some (.slice Ad9 nd9 cd9) := RowIs.cell (RowIs.below hA.box hbd (Nat.le_refl _)) rfl
  have r1 : (wd.alloc (.cells #[.int .i64 (T : Int), .int .i64 3, .int .i64 0] 62)).cell? ⟨R, 0, none⟩ = some (.slice Ad9 nd9 cd9) := RowIs.cell (RowIs.below hA.box hbl (Nat.le_refl _)) rfl
  have b0 : wd.cell? ⟨w.heap.size, 0, none⟩ = some (.int .i64 (T : Int)) := RowIs.cell ((hS.lat hbd).row HBX.out hfar.1 hfar.2.1 hfar.2.2) rfl
  have HOL := Lib.hid ((hA.desk.below hbl).doneN f1)
  have hsl : B ≤ (wd.alloc (.cells #[.int .i64 (T : Int), .int .i64 3, .int .i64 0] 62)).heap.size := (hA.desk.below hbl).base
  have HAL := Lib.hid (hA.lat hbl)
  have HSL := Lib.hid (hS.lat hbl)
  have HWD := Lib.hid hwd
  have hnn : nd9 ≤ 30000 := by first | omega | (simp only at f1 f2 f3 f4; omega)
  clear hA hS hwd hbd hbl f1 f2 f3 f4
  go_wp2_with fail
  refine wp_region_any (by kernel_rfl) ?_
  change wpAny _ _ _ _ _ _ _ (World.drew _)
  rw [← HWD.out]
  refine wpAny_take (i := 0) (v := ?_) rfl (by kernel_rfl) (by kernel_rfl) (by kernel_rfl) (fun _ _ _ h => h) (Or.inl ⟨by kernel_rfl, ?_⟩) ?_
  rotate_left
  · intro w; go_simp; try with_reducible rfl
  refine wpAny_take (i := 1) (v := ?_) rfl (by kernel_rfl) (by kernel_rfl) (by kernel_rfl) (fun _ _ _ h => h) (Or.inl ⟨by kernel_rfl, ?_⟩) ?_
  rotate_left
  · intro w; go_simp; try with_reducible rfl
  refine wpAny_take (i := 2) (v := ?_) rfl (by kernel_rfl) (by kernel_rfl) (by kernel_rfl) (fun _ _ _ h => h) (Or.inl ⟨by kernel_rfl, ?_⟩) ?_
  rotate_left
  · intro w; go_simp; try with_reducible rfl
  refine wpAny_take (i := 3) (v := ?_) rfl (by kernel_rfl) (by kernel_rfl) (by kernel_rfl) (fun _ _ _ h => h) (Or.inl ⟨by kernel_rfl, ?_⟩) ?_
  rotate_left
  · intro w; go_simp; try with_reducible rfl
  refine wpAny_take (i := 4) (v := ?_) rfl (by kernel_rfl) (by kernel_rfl) (by kernel_rfl) (fun _ _ _ h => h) (Or.inl ⟨by kernel_rfl, ?_⟩) ?_
  rotate_left
  · intro w; go_simp; try with_reducible rfl
  refine wpAny_ready (rs := [5, 6]) (by kernel_rfl) (by simp) ?_
  refine AllReady.cons rfl (fun K hK => ?_) (AllReady.cons rfl (fun K hK => ?_) (AllReady.nil))
  · skip
    go_simp
    try (refine hK _ _ ?_; clear hK K)
    refine wpAny_ready (rs := [6]) (by kernel_rfl) (by simp) ?_
    refine AllReady.cons rfl (fun K hK => ?_) AllReady.nil
    go_simp
    try (refine hK _ _ ?_; clear hK K)
    refine wpAny_take (i := 7) (v := ?_) rfl (by kernel_rfl) (by kernel_rfl) (by kernel_rfl) (fun _ _ _ h => h) (Or.inl ⟨by kernel_rfl, ?_⟩) ?_
    rotate_left
    · intro w; go_simp; try with_reducible rfl
    refine wpAny_ready (rs := [8]) (by kernel_rfl) (by simp) ?_
    refine AllReady.cons rfl (fun K hK => ?_) AllReady.nil
    go_simp
    try (refine hK _ _ ?_; clear hK K)
    refine wpAny_ready (rs := [9]) (by kernel_rfl) (by simp) ?_
    refine AllReady.cons rfl (fun K hK => ?_) AllReady.nil
    refine step_ops (.tmp 12) (.tmp 15) (c := 1) HOL.out (by omega) (ROps.lit1 _ ⟨(T : Int), 3, 0⟩ _) ?_ ?_ ?_ ?_ ?_ ?_
    · omega
    · rfl
    · rfl
    · rfl
    · rfl
    intro v3 w3 hown3 hg3 hat3
    obtain ⟨⟨e0, e1⟩, hA3, hS3⟩ := HAL.out.growD hg3 hown3 hat3
    obtain ⟨A3, c3, rfl, _⟩ := own_form2 hown3
    have HF := Lib.hid (And.intro hA3 (HSL.out.trans hS3))
    clear hA3 hS3 hg3 hown3 hat3
    try (refine hK _ _ ?_; clear hK K)
    refine wpAny_take (i := 10) (v := ?_) rfl (by kernel_rfl) (by kernel_rfl) (by kernel_rfl) (fun _ _ _ h => h) (Or.inl ⟨by kernel_rfl, ?_⟩) ?_
    rotate_left
    · intro w; go_simp; try with_reducible rfl
    refine wpAny_take (i := 11) (v := ?_) rfl (by kernel_rfl) (by kernel_rfl) (by kernel_rfl) (fun _ _ _ h => h) (Or.inl ⟨by kernel_rfl, ?_⟩) ?_
    rotate_left
    · intro w; go_simp; try with_reducible rfl
    refine wpAny_take (i := 12) (v := ?_) rfl (by kernel_rfl) (by kernel_rfl) (by kernel_rfl) (fun _ _ _ h => h) (Or.inl ⟨by kernel_rfl, ?_⟩) ?_
    rotate_left
    · intro w; go_simp; try with_reducible rfl
    refine wpAny_ready (rs := [13]) (by kernel_rfl) (by simp) ?_
    refine AllReady.cons rfl (fun K hK => ?_) AllReady.nil
    go_simp
    try (refine hK _ _ ?_; clear hK K)
    refine wpAny_done (by kernel_rfl) ?_ _
    try go_simp
    go_wp2_with fail
    go_meet
    exact ⟨_, _, rfl, HF.out.1, HF.out.2⟩
  · skip
    go_simp
    try (refine hK _ _ ?_; clear hK K)
    refine wpAny_take (i := 7) (v := ?_) rfl (by kernel_rfl) (by kernel_rfl) (by kernel_rfl) (fun _ _ _ h => h) (Or.inl ⟨by kernel_rfl, ?_⟩) ?_
    rotate_left
    · intro w; go_simp; try with_reducible rfl
    refine wpAny_ready (rs := [5, 8]) (by kernel_rfl) (by simp) ?_
    refine AllReady.cons rfl (fun K hK => ?_) (AllReady.cons rfl (fun K hK => ?_) (AllReady.nil))
    · skip
      go_simp
      try (refine hK _ _ ?_; clear hK K)
      refine wpAny_ready (rs := [8]) (by kernel_rfl) (by simp) ?_
      refine AllReady.cons rfl (fun K hK => ?_) AllReady.nil
      go_simp
      try (refine hK _ _ ?_; clear hK K)
      refine wpAny_ready (rs := [9]) (by kernel_rfl) (by simp) ?_
      refine AllReady.cons rfl (fun K hK => ?_) AllReady.nil
      refine step_ops (.tmp 12) (.tmp 15) (c := 1) HOL.out (by omega) (ROps.lit1 _ ⟨(T : Int), 3, 0⟩ _) ?_ ?_ ?_ ?_ ?_ ?_
      · omega
      · rfl
      · rfl
      · rfl
      · rfl
      intro v3 w3 hown3 hg3 hat3
      obtain ⟨⟨e0, e1⟩, hA3, hS3⟩ := HAL.out.growD hg3 hown3 hat3
      obtain ⟨A3, c3, rfl, _⟩ := own_form2 hown3
      have HF := Lib.hid (And.intro hA3 (HSL.out.trans hS3))
      clear hA3 hS3 hg3 hown3 hat3
      try (refine hK _ _ ?_; clear hK K)
      refine wpAny_take (i := 10) (v := ?_) rfl (by kernel_rfl) (by kernel_rfl) (by kernel_rfl) (fun _ _ _ h => h) (Or.inl ⟨by kernel_rfl, ?_⟩) ?_
      rotate_left
      · intro w; go_simp; try with_reducible rfl
      refine wpAny_take (i := 11) (v := ?_) rfl (by kernel_rfl) (by kernel_rfl) (by kernel_rfl) (fun _ _ _ h => h) (Or.inl ⟨by kernel_rfl, ?_⟩) ?_
      rotate_left
      · intro w; go_simp; try with_reducible rfl
      refine wpAny_take (i := 12) (v := ?_) rfl (by kernel_rfl) (by kernel_rfl) (by kernel_rfl) (fun _ _ _ h => h) (Or.inl ⟨by kernel_rfl, ?_⟩) ?_
      rotate_left
      · intro w; go_simp; try with_reducible rfl
      refine wpAny_ready (rs := [13]) (by kernel_rfl) (by simp) ?_
      refine AllReady.cons rfl (fun K hK => ?_) AllReady.nil
      go_simp
      try (refine hK _ _ ?_; clear hK K)
      refine wpAny_done (by kernel_rfl) ?_ _
      try go_simp
      go_wp2_with fail
      go_meet
      exact ⟨_, _, rfl, HF.out.1, HF.out.2⟩
    · skip
      go_simp
      try (refine hK _ _ ?_; clear hK K)
      refine wpAny_ready (rs := [5]) (by kernel_rfl) (by simp) ?_
      refine AllReady.cons rfl (fun K hK => ?_) AllReady.nil
      go_simp
      try (refine hK _ _ ?_; clear hK K)
      refine wpAny_ready (rs := [9]) (by kernel_rfl) (by simp) ?_
      refine AllReady.cons rfl (fun K hK => ?_) AllReady.nil
      refine step_ops (.tmp 12) (.tmp 15) (c := 1) HOL.out (by omega) (ROps.lit1 _ ⟨(T : Int), 3, 0⟩ _) ?_ ?_ ?_ ?_ ?_ ?_
      · omega
      · rfl
      · rfl
      · rfl
      · rfl
      intro v3 w3 hown3 hg3 hat3
      obtain ⟨⟨e0, e1⟩, hA3, hS3⟩ := HAL.out.growD hg3 hown3 hat3
      obtain ⟨A3, c3, rfl, _⟩ := own_form2 hown3
      have HF := Lib.hid (And.intro hA3 (HSL.out.trans hS3))
      clear hA3 hS3 hg3 hown3 hat3
      try (refine hK _ _ ?_; clear hK K)
      refine wpAny_take (i := 10) (v := ?_) rfl (by kernel_rfl) (by kernel_rfl) (by kernel_rfl) (fun _ _ _ h => h) (Or.inl ⟨by kernel_rfl, ?_⟩) ?_
      rotate_left
      · intro w; go_simp; try with_reducible rfl
      refine wpAny_take (i := 11) (v := ?_) rfl (by kernel_rfl) (by kernel_rfl) (by kernel_rfl) (fun _ _ _ h => h) (Or.inl ⟨by kernel_rfl, ?_⟩) ?_
      rotate_left
      · intro w; go_simp; try with_reducible rfl
      refine wpAny_take (i := 12) (v := ?_) rfl (by kernel_rfl) (by kernel_rfl) (by kernel_rfl) (fun _ _ _ h => h) (Or.inl ⟨by kernel_rfl, ?_⟩) ?_
      rotate_left
      · intro w; go_simp; try with_reducible rfl
      refine wpAny_ready (rs := [13]) (by kernel_rfl) (by simp) ?_
      refine AllReady.cons rfl (fun K hK => ?_) AllReady.nil
      go_simp
      try (refine hK _ _ ?_; clear hK K)
      refine wpAny_done (by kernel_rfl) ?_ _
      try go_simp
      go_wp2_with fail
      go_meet
      exact ⟨_, _, rfl, HF.out.1, HF.out.2⟩
end Go.Proofs.Ytncebpmckbcabaa
