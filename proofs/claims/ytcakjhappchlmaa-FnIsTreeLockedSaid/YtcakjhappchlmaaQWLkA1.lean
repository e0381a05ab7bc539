/-
  AccessesOf of the reference.
-/
import Derived.Test.YtcakjhappchlmaaQWLkA0
namespace Go.Proofs.Ytcakjhappchlmaa
open Go.RowKit Go.BigFrame
set_option linter.unusedVariables false

set_option maxRecDepth 100000 in
set_option maxHeartbeats 4000000 in
theorem sAccessesOf_any (A : Option Addr) (n c : Nat) (st : List OpV) (w : World) (hx : ROps w A n st) :
    Calls Try.prog 31 #[.slice A n c] w (AccPost w st) := by
  have hn := hx.2.1
  have hl := hx.1
  have HX := Lib.hid hx
  have hva := svalidSteps_any A n c st w hx
  obtain ⟨bv, hbv⟩ : ∃ b, validL st = b := ⟨_, rfl⟩
  rw [hbv] at hva
  have HVA := Lib.hid hva
  have HBV := Lib.hid hbv
  clear hx hva hbv
  cases bv
  · have HB : Hid (accOK st = false) := by show _ = _; unfold accOK; rw [HBV.out]; rfl
    go_enter Try.func31, Try.ntmps31
    go_wp2_with (go_at_call 76; refine HVA.out.mono ?_; rintro e w1 ⟨rfl, hbw⟩)
    go_ret2
    exact AccPost.bad HB.out hbw
  · have HOK : Hid (∀ s ∈ st, okStep s = true) := (validL_iff.1 HBV.out).2
    have h40 : n ≤ 40 := by have := (validL_iff.1 HBV.out).1; omega
    go_enter Try.func31, Try.ntmps31
    go_wp2_with (go_at_call 76; refine HVA.out.mono ?_; rintro e w1 ⟨rfl, hbw⟩; have HST : Hid ((w1.alloc (.cells #[] 92)).ownsRow w.heap.size 92 3 (.slice (some ⟨w1.heap.size, 0, none⟩) 0 0) 0 (opCells (accOps (st.take 0)))) := World.ownsRow_made w1 #[] 0 hbw.size (by decide) rfl; have HB1 : Hid (Below w.heap.size w (w1.alloc (.cells #[] 92))) := hbw.alloc hbw.size _)
    go_loopw [4, 5] (fun ov i wr => ∃ (k m : Nat), k ≤ n ∧ m ≤ k ∧ i = .int .i64 k ∧ Below w.heap.size w wr ∧ wr.ownsRow w.heap.size 92 3 ov m (opCells (accOps (st.take k)))) (fun _ i _ => n - (intOf i).toNat)
    case atStart => exact ⟨0, 0, by omega, by omega, rfl, HB1.out, HST.out⟩
    case round =>
      clear HST HB1
      obtain ⟨k, m, hk, hmk, rfl, hb, hown⟩ := hrel
      obtain ⟨Ao, co, rfl, hmc⟩ := own_form2 hown
      by_cases hlt : k < n
      · obtain ⟨b, off, o, rfl, hbl, ho, c0, c1, c2⟩ := (HX.out.below hb (Nat.le_refl _)).at_ hlt
        have hok := okStep_iff.1 (HOK.out o (List.mem_of_getElem? ho))
        have HT := Lib.hid (accOps_snoc ho)
        have hs := hb.size
        have hkd : decide ((k : Int) < (n : Int)) = true := by simp; omega
        clear ho
        obtain ⟨tx, kd, it⟩ := o
        simp only at c0 c1 c2 hok HT
        by_cases h3 : 3 ≤ kd
        · have HT2 : Hid (accOps (st.take (k + 1)) = accOps (st.take k) ++ [⟨tx, kd - 3, it⟩]) := by show _ = _; rw [HT.out, if_pos h3]; rfl
          have hkw : IntKind.i64.wrap (kd - 3) = kd - 3 := IntWalk.i64_in _ (by omega)
          clear HT
          go_upto_region 8 with fail
          obtain ⟨wd, hwd⟩ : ∃ wd : World, wd = wr.drew := ⟨_, rfl⟩
          have HWD := Lib.hid hwd
          have d0 : wd.cell? ⟨b, off + k * 3, none⟩ = some (.int .i64 tx) := by rw [hwd]; exact c0
          have d1 : wd.cell? ⟨b, off + k * 3 + 1, none⟩ = some (.int .i64 kd) := by rw [hwd]; exact c1
          have d2 : wd.cell? ⟨b, off + k * 3 + 2, none⟩ = some (.int .i64 it) := by rw [hwd]; exact c2
          have HBD : Hid (Below w.heap.size w wd) := by show Below _ _ _; rw [hwd]; exact hb.drew
          have HOD : Hid (wd.ownsRow w.heap.size 92 3 (.slice Ao m co) m (opCells (accOps (st.take k)))) := by show World.ownsRow _ _ _ _ _ _ _; rw [hwd]; exact hown
          clear hwd c0 c1 c2
          refine wp_region_any (by kernel_rfl) ?_
          change wpAny _ _ _ _ _ _ _ (World.drew _)
          rw [← HWD.out]
          refine wpAny_take (i := 0) (v := ?_) rfl (by kernel_rfl) (by kernel_rfl) (by kernel_rfl) (fun _ _ _ h => h) (Or.inl ⟨by kernel_rfl, ?_⟩) ?_
          rotate_left
          · intro w; go_simp; try with_reducible rfl
          refine wpAny_take (i := 1) (v := ?_) rfl (by kernel_rfl) (by kernel_rfl) (by kernel_rfl) (fun _ _ _ h => h) (Or.inl ⟨by kernel_rfl, ?_⟩) ?_
          rotate_left
          · intro w; go_simp; try with_reducible rfl
          refine wpAny_take (i := 2) (v := ?_) rfl (by kernel_rfl) (by kernel_rfl) (by kernel_rfl) (fun _ _ _ h => h) (Or.inl ⟨by kernel_rfl, ?_⟩) ?_
          rotate_left
          · intro w; go_simp; try with_reducible rfl
          refine wpAny_take (i := 3) (v := ?_) rfl (by kernel_rfl) (by kernel_rfl) (by kernel_rfl) (fun _ _ _ h => h) (Or.inl ⟨by kernel_rfl, ?_⟩) ?_
          rotate_left
          · intro w; go_simp; try with_reducible rfl
          refine wpAny_take (i := 4) (v := ?_) rfl (by kernel_rfl) (by kernel_rfl) (by kernel_rfl) (fun _ _ _ h => h) (Or.inl ⟨by kernel_rfl, ?_⟩) ?_
          rotate_left
          · intro w; go_simp; try with_reducible rfl
          refine wpAny_take (i := 6) (v := ?_) rfl (by kernel_rfl) (by kernel_rfl) (by kernel_rfl) (fun _ _ _ h => h) (Or.inl ⟨by kernel_rfl, ?_⟩) ?_
          rotate_left
          · intro w; go_simp; try with_reducible rfl
          refine wpAny_take (i := 7) (v := ?_) rfl (by kernel_rfl) (by kernel_rfl) (by kernel_rfl) (fun _ _ _ h => h) (Or.inl ⟨by kernel_rfl, ?_⟩) ?_
          rotate_left
          · intro w; go_simp; try with_reducible rfl
          refine wpAny_take (i := 8) (v := ?_) rfl (by kernel_rfl) (by kernel_rfl) (by kernel_rfl) (fun _ _ _ h => h) (Or.inl ⟨by kernel_rfl, ?_⟩) ?_
          rotate_left
          · intro w; go_simp; try with_reducible rfl
          refine wpAny_take (i := 9) (v := ?_) rfl (by kernel_rfl) (by kernel_rfl) (by kernel_rfl) (fun _ _ _ h => h) (Or.inl ⟨by kernel_rfl, ?_⟩) ?_
          rotate_left
          · intro w; go_simp; try with_reducible rfl
          refine wpAny_take (i := 12) (v := ?_) rfl (by kernel_rfl) (by kernel_rfl) (by kernel_rfl) (fun _ _ _ h => h) (Or.inl ⟨by kernel_rfl, ?_⟩) ?_
          rotate_left
          · intro w; go_simp; try with_reducible rfl
          refine wpAny_take (i := 13) (v := ?_) rfl (by kernel_rfl) (by kernel_rfl) (by kernel_rfl) (fun _ _ _ h => h) (Or.inl ⟨by kernel_rfl, ?_⟩) ?_
          rotate_left
          · intro w; go_simp; try with_reducible rfl
          refine wpAny_take (i := 14) (v := ?_) rfl (by kernel_rfl) (by kernel_rfl) (by kernel_rfl) (fun _ _ _ h => h) (Or.inl ⟨by kernel_rfl, ?_⟩) ?_
          rotate_left
          · intro w; go_simp; try with_reducible rfl
          refine wpAny_take (i := 15) (v := ?_) rfl (by kernel_rfl) (by kernel_rfl) (by kernel_rfl) (fun _ _ _ h => h) (Or.inl ⟨by kernel_rfl, ?_⟩) ?_
          rotate_left
          · intro w; go_simp; try with_reducible rfl
          refine wpAny_ready (rs := [5, 10, 16]) (by kernel_rfl) (by simp) ?_
          refine AllReady.cons rfl (fun K hK => ?_) (AllReady.cons rfl (fun K hK => ?_) (AllReady.cons rfl (fun K hK => ?_) (AllReady.nil)))
          · go_simp
            try (refine hK _ _ ?_; clear hK K)
            refine wpAny_ready (rs := [10, 16]) (by kernel_rfl) (by simp) ?_
            refine AllReady.cons rfl (fun K hK => ?_) (AllReady.cons rfl (fun K hK => ?_) (AllReady.nil))
            · go_simp
              try (refine hK _ _ ?_; clear hK K)
              refine wpAny_ready (rs := [11, 16]) (by kernel_rfl) (by simp) ?_
              refine AllReady.cons rfl (fun K hK => ?_) (AllReady.cons rfl (fun K hK => ?_) (AllReady.nil))
              · go_simp
                try (refine hK _ _ ?_; clear hK K)
                refine wpAny_ready (rs := [16]) (by kernel_rfl) (by simp) ?_
                refine AllReady.cons rfl (fun K hK => ?_) AllReady.nil
                go_simp
                try (refine hK _ _ ?_; clear hK K)
                refine wpAny_ready (rs := [17]) (by kernel_rfl) (by simp) ?_
                refine AllReady.cons rfl (fun K hK => ?_) AllReady.nil
                go_simp
                try (refine hK _ _ ?_; clear hK K)
                refine wpAny_ready (rs := [18]) (by kernel_rfl) (by simp) ?_
                refine AllReady.cons rfl (fun K hK => ?_) AllReady.nil
                go_simp
                try (refine hK _ _ ?_; clear hK K)
                refine wpAny_ready (rs := [19]) (by kernel_rfl) (by simp) ?_
                refine AllReady.cons rfl (fun K hK => ?_) AllReady.nil
                refine step_ops (.tmp 24) (.tmp 42) (c := 1) (HOD.out.alloc _) (by have := HBD.out.size; simp; omega) (ROps.lit1 _ ⟨tx, kd - 3, it⟩ _) ?_ ?_ ?_ ?_ ?_ ?_
                · omega
                · rfl
                · rfl
                · rfl
                · rfl
                intro v6 w6 hown6 hg6 hat6
                have hb6 := Below.own HBD.out HOD.out (Nat.le_refl _) (World.grownBy.trans (World.grownBy_alloc wd _ _) hg6)
                obtain ⟨A6, c6, rfl, hc6⟩ := own_form2 hown6
                have HF := Lib.hid (And.intro hb6 hown6)
                clear hb6 hown6 hg6 hat6
                try (refine hK _ _ ?_; clear hK K)
                refine wpAny_ready (rs := [20]) (by kernel_rfl) (by simp) ?_
                refine AllReady.cons rfl (fun K hK => ?_) AllReady.nil
                go_simp
                try (refine hK _ _ ?_; clear hK K)
                refine wpAny_done (by kernel_rfl) ?_ _
                try go_simp
                go_wp2_with fail
                go_roundw
                case rel => exact ⟨k + 1, m + 1, by omega, by omega, by go_num, HF.out.1, by rw [HT2.out]; exact HF.out.2⟩
                case measure => simp [intOf]; omega
              · go_simp
                try (refine hK _ _ ?_; clear hK K)
                refine wpAny_ready (rs := [11]) (by kernel_rfl) (by simp) ?_
                refine AllReady.cons rfl (fun K hK => ?_) AllReady.nil
                go_simp
                try (refine hK _ _ ?_; clear hK K)
                refine wpAny_ready (rs := [17]) (by kernel_rfl) (by simp) ?_
                refine AllReady.cons rfl (fun K hK => ?_) AllReady.nil
                go_simp
                try (refine hK _ _ ?_; clear hK K)
                refine wpAny_ready (rs := [18]) (by kernel_rfl) (by simp) ?_
                refine AllReady.cons rfl (fun K hK => ?_) AllReady.nil
                go_simp
                try (refine hK _ _ ?_; clear hK K)
                refine wpAny_ready (rs := [19]) (by kernel_rfl) (by simp) ?_
                refine AllReady.cons rfl (fun K hK => ?_) AllReady.nil
                refine step_ops (.tmp 24) (.tmp 42) (c := 1) (HOD.out.alloc _) (by have := HBD.out.size; simp; omega) (ROps.lit1 _ ⟨tx, kd - 3, it⟩ _) ?_ ?_ ?_ ?_ ?_ ?_
                · omega
                · rfl
                · rfl
                · rfl
                · rfl
                intro v6 w6 hown6 hg6 hat6
                have hb6 := Below.own HBD.out HOD.out (Nat.le_refl _) (World.grownBy.trans (World.grownBy_alloc wd _ _) hg6)
                obtain ⟨A6, c6, rfl, hc6⟩ := own_form2 hown6
                have HF := Lib.hid (And.intro hb6 hown6)
                clear hb6 hown6 hg6 hat6
                try (refine hK _ _ ?_; clear hK K)
                refine wpAny_ready (rs := [20]) (by kernel_rfl) (by simp) ?_
                refine AllReady.cons rfl (fun K hK => ?_) AllReady.nil
                go_simp
                try (refine hK _ _ ?_; clear hK K)
                refine wpAny_done (by kernel_rfl) ?_ _
                try go_simp
                go_wp2_with fail
                go_roundw
                case rel => exact ⟨k + 1, m + 1, by omega, by omega, by go_num, HF.out.1, by rw [HT2.out]; exact HF.out.2⟩
                case measure => simp [intOf]; omega
            · go_simp
              try (refine hK _ _ ?_; clear hK K)
              refine wpAny_ready (rs := [10]) (by kernel_rfl) (by simp) ?_
              refine AllReady.cons rfl (fun K hK => ?_) AllReady.nil
              go_simp
              try (refine hK _ _ ?_; clear hK K)
              refine wpAny_ready (rs := [11]) (by kernel_rfl) (by simp) ?_
              refine AllReady.cons rfl (fun K hK => ?_) AllReady.nil
              go_simp
              try (refine hK _ _ ?_; clear hK K)
              refine wpAny_ready (rs := [17]) (by kernel_rfl) (by simp) ?_
              refine AllReady.cons rfl (fun K hK => ?_) AllReady.nil
              go_simp
              try (refine hK _ _ ?_; clear hK K)
              refine wpAny_ready (rs := [18]) (by kernel_rfl) (by simp) ?_
              refine AllReady.cons rfl (fun K hK => ?_) AllReady.nil
              go_simp
              try (refine hK _ _ ?_; clear hK K)
              refine wpAny_ready (rs := [19]) (by kernel_rfl) (by simp) ?_
              refine AllReady.cons rfl (fun K hK => ?_) AllReady.nil
              refine step_ops (.tmp 24) (.tmp 42) (c := 1) (HOD.out.alloc _) (by have := HBD.out.size; simp; omega) (ROps.lit1 _ ⟨tx, kd - 3, it⟩ _) ?_ ?_ ?_ ?_ ?_ ?_
              · omega
              · rfl
              · rfl
              · rfl
              · rfl
              intro v6 w6 hown6 hg6 hat6
              have hb6 := Below.own HBD.out HOD.out (Nat.le_refl _) (World.grownBy.trans (World.grownBy_alloc wd _ _) hg6)
              obtain ⟨A6, c6, rfl, hc6⟩ := own_form2 hown6
              have HF := Lib.hid (And.intro hb6 hown6)
              clear hb6 hown6 hg6 hat6
              try (refine hK _ _ ?_; clear hK K)
              refine wpAny_ready (rs := [20]) (by kernel_rfl) (by simp) ?_
              refine AllReady.cons rfl (fun K hK => ?_) AllReady.nil
              go_simp
              try (refine hK _ _ ?_; clear hK K)
              refine wpAny_done (by kernel_rfl) ?_ _
              try go_simp
              go_wp2_with fail
              go_roundw
              case rel => exact ⟨k + 1, m + 1, by omega, by omega, by go_num, HF.out.1, by rw [HT2.out]; exact HF.out.2⟩
              case measure => simp [intOf]; omega
          · go_simp
            try (refine hK _ _ ?_; clear hK K)
            refine wpAny_ready (rs := [5, 11, 16]) (by kernel_rfl) (by simp) ?_
            refine AllReady.cons rfl (fun K hK => ?_) (AllReady.cons rfl (fun K hK => ?_) (AllReady.cons rfl (fun K hK => ?_) (AllReady.nil)))
            · go_simp
              try (refine hK _ _ ?_; clear hK K)
              refine wpAny_ready (rs := [11, 16]) (by kernel_rfl) (by simp) ?_
              refine AllReady.cons rfl (fun K hK => ?_) (AllReady.cons rfl (fun K hK => ?_) (AllReady.nil))
              · go_simp
                try (refine hK _ _ ?_; clear hK K)
                refine wpAny_ready (rs := [16]) (by kernel_rfl) (by simp) ?_
                refine AllReady.cons rfl (fun K hK => ?_) AllReady.nil
                go_simp
                try (refine hK _ _ ?_; clear hK K)
                refine wpAny_ready (rs := [17]) (by kernel_rfl) (by simp) ?_
                refine AllReady.cons rfl (fun K hK => ?_) AllReady.nil
                go_simp
                try (refine hK _ _ ?_; clear hK K)
                refine wpAny_ready (rs := [18]) (by kernel_rfl) (by simp) ?_
                refine AllReady.cons rfl (fun K hK => ?_) AllReady.nil
                go_simp
                try (refine hK _ _ ?_; clear hK K)
                refine wpAny_ready (rs := [19]) (by kernel_rfl) (by simp) ?_
                refine AllReady.cons rfl (fun K hK => ?_) AllReady.nil
                refine step_ops (.tmp 24) (.tmp 42) (c := 1) (HOD.out.alloc _) (by have := HBD.out.size; simp; omega) (ROps.lit1 _ ⟨tx, kd - 3, it⟩ _) ?_ ?_ ?_ ?_ ?_ ?_
                · omega
                · rfl
                · rfl
                · rfl
                · rfl
                intro v6 w6 hown6 hg6 hat6
                have hb6 := Below.own HBD.out HOD.out (Nat.le_refl _) (World.grownBy.trans (World.grownBy_alloc wd _ _) hg6)
                obtain ⟨A6, c6, rfl, hc6⟩ := own_form2 hown6
                have HF := Lib.hid (And.intro hb6 hown6)
                clear hb6 hown6 hg6 hat6
                try (refine hK _ _ ?_; clear hK K)
                refine wpAny_ready (rs := [20]) (by kernel_rfl) (by simp) ?_
                refine AllReady.cons rfl (fun K hK => ?_) AllReady.nil
                go_simp
                try (refine hK _ _ ?_; clear hK K)
                refine wpAny_done (by kernel_rfl) ?_ _
                try go_simp
                go_wp2_with fail
                go_roundw
                case rel => exact ⟨k + 1, m + 1, by omega, by omega, by go_num, HF.out.1, by rw [HT2.out]; exact HF.out.2⟩
                case measure => simp [intOf]; omega
              · go_simp
                try (refine hK _ _ ?_; clear hK K)
                refine wpAny_ready (rs := [11]) (by kernel_rfl) (by simp) ?_
                refine AllReady.cons rfl (fun K hK => ?_) AllReady.nil
                go_simp
                try (refine hK _ _ ?_; clear hK K)
                refine wpAny_ready (rs := [17]) (by kernel_rfl) (by simp) ?_
                refine AllReady.cons rfl (fun K hK => ?_) AllReady.nil
                go_simp
                try (refine hK _ _ ?_; clear hK K)
                refine wpAny_ready (rs := [18]) (by kernel_rfl) (by simp) ?_
                refine AllReady.cons rfl (fun K hK => ?_) AllReady.nil
                go_simp
                try (refine hK _ _ ?_; clear hK K)
                refine wpAny_ready (rs := [19]) (by kernel_rfl) (by simp) ?_
                refine AllReady.cons rfl (fun K hK => ?_) AllReady.nil
                refine step_ops (.tmp 24) (.tmp 42) (c := 1) (HOD.out.alloc _) (by have := HBD.out.size; simp; omega) (ROps.lit1 _ ⟨tx, kd - 3, it⟩ _) ?_ ?_ ?_ ?_ ?_ ?_
                · omega
                · rfl
                · rfl
                · rfl
                · rfl
                intro v6 w6 hown6 hg6 hat6
                have hb6 := Below.own HBD.out HOD.out (Nat.le_refl _) (World.grownBy.trans (World.grownBy_alloc wd _ _) hg6)
                obtain ⟨A6, c6, rfl, hc6⟩ := own_form2 hown6
                have HF := Lib.hid (And.intro hb6 hown6)
                clear hb6 hown6 hg6 hat6
                try (refine hK _ _ ?_; clear hK K)
                refine wpAny_ready (rs := [20]) (by kernel_rfl) (by simp) ?_
                refine AllReady.cons rfl (fun K hK => ?_) AllReady.nil
                go_simp
                try (refine hK _ _ ?_; clear hK K)
                refine wpAny_done (by kernel_rfl) ?_ _
                try go_simp
                go_wp2_with fail
                go_roundw
                case rel => exact ⟨k + 1, m + 1, by omega, by omega, by go_num, HF.out.1, by rw [HT2.out]; exact HF.out.2⟩
                case measure => simp [intOf]; omega
            · go_simp
              try (refine hK _ _ ?_; clear hK K)
              refine wpAny_ready (rs := [5, 16]) (by kernel_rfl) (by simp) ?_
              refine AllReady.cons rfl (fun K hK => ?_) (AllReady.cons rfl (fun K hK => ?_) (AllReady.nil))
              · go_simp
                try (refine hK _ _ ?_; clear hK K)
                refine wpAny_ready (rs := [16]) (by kernel_rfl) (by simp) ?_
                refine AllReady.cons rfl (fun K hK => ?_) AllReady.nil
                go_simp
                try (refine hK _ _ ?_; clear hK K)
                refine wpAny_ready (rs := [17]) (by kernel_rfl) (by simp) ?_
                refine AllReady.cons rfl (fun K hK => ?_) AllReady.nil
                go_simp
                try (refine hK _ _ ?_; clear hK K)
                refine wpAny_ready (rs := [18]) (by kernel_rfl) (by simp) ?_
                refine AllReady.cons rfl (fun K hK => ?_) AllReady.nil
                go_simp
                try (refine hK _ _ ?_; clear hK K)
                refine wpAny_ready (rs := [19]) (by kernel_rfl) (by simp) ?_
                refine AllReady.cons rfl (fun K hK => ?_) AllReady.nil
                refine step_ops (.tmp 24) (.tmp 42) (c := 1) (HOD.out.alloc _) (by have := HBD.out.size; simp; omega) (ROps.lit1 _ ⟨tx, kd - 3, it⟩ _) ?_ ?_ ?_ ?_ ?_ ?_
                · omega
                · rfl
                · rfl
                · rfl
                · rfl
                intro v6 w6 hown6 hg6 hat6
                have hb6 := Below.own HBD.out HOD.out (Nat.le_refl _) (World.grownBy.trans (World.grownBy_alloc wd _ _) hg6)
                obtain ⟨A6, c6, rfl, hc6⟩ := own_form2 hown6
                have HF := Lib.hid (And.intro hb6 hown6)
                clear hb6 hown6 hg6 hat6
                try (refine hK _ _ ?_; clear hK K)
                refine wpAny_ready (rs := [20]) (by kernel_rfl) (by simp) ?_
                refine AllReady.cons rfl (fun K hK => ?_) AllReady.nil
                go_simp
                try (refine hK _ _ ?_; clear hK K)
                refine wpAny_done (by kernel_rfl) ?_ _
                try go_simp
                go_wp2_with fail
                go_roundw
                case rel => exact ⟨k + 1, m + 1, by omega, by omega, by go_num, HF.out.1, by rw [HT2.out]; exact HF.out.2⟩
                case measure => simp [intOf]; omega
              · go_simp
                try (refine hK _ _ ?_; clear hK K)
                refine wpAny_ready (rs := [5]) (by kernel_rfl) (by simp) ?_
                refine AllReady.cons rfl (fun K hK => ?_) AllReady.nil
                go_simp
                try (refine hK _ _ ?_; clear hK K)
                refine wpAny_ready (rs := [17]) (by kernel_rfl) (by simp) ?_
                refine AllReady.cons rfl (fun K hK => ?_) AllReady.nil
                go_simp
                try (refine hK _ _ ?_; clear hK K)
                refine wpAny_ready (rs := [18]) (by kernel_rfl) (by simp) ?_
                refine AllReady.cons rfl (fun K hK => ?_) AllReady.nil
                go_simp
                try (refine hK _ _ ?_; clear hK K)
                refine wpAny_ready (rs := [19]) (by kernel_rfl) (by simp) ?_
                refine AllReady.cons rfl (fun K hK => ?_) AllReady.nil
                refine step_ops (.tmp 24) (.tmp 42) (c := 1) (HOD.out.alloc _) (by have := HBD.out.size; simp; omega) (ROps.lit1 _ ⟨tx, kd - 3, it⟩ _) ?_ ?_ ?_ ?_ ?_ ?_
                · omega
                · rfl
                · rfl
                · rfl
                · rfl
                intro v6 w6 hown6 hg6 hat6
                have hb6 := Below.own HBD.out HOD.out (Nat.le_refl _) (World.grownBy.trans (World.grownBy_alloc wd _ _) hg6)
                obtain ⟨A6, c6, rfl, hc6⟩ := own_form2 hown6
                have HF := Lib.hid (And.intro hb6 hown6)
                clear hb6 hown6 hg6 hat6
                try (refine hK _ _ ?_; clear hK K)
                refine wpAny_ready (rs := [20]) (by kernel_rfl) (by simp) ?_
                refine AllReady.cons rfl (fun K hK => ?_) AllReady.nil
                go_simp
                try (refine hK _ _ ?_; clear hK K)
                refine wpAny_done (by kernel_rfl) ?_ _
                try go_simp
                go_wp2_with fail
                go_roundw
                case rel => exact ⟨k + 1, m + 1, by omega, by omega, by go_num, HF.out.1, by rw [HT2.out]; exact HF.out.2⟩
                case measure => simp [intOf]; omega
            · go_simp
              try (refine hK _ _ ?_; clear hK K)
              refine wpAny_ready (rs := [5, 11]) (by kernel_rfl) (by simp) ?_
              refine AllReady.cons rfl (fun K hK => ?_) (AllReady.cons rfl (fun K hK => ?_) (AllReady.nil))
              · go_simp
                try (refine hK _ _ ?_; clear hK K)
                refine wpAny_ready (rs := [11]) (by kernel_rfl) (by simp) ?_
                refine AllReady.cons rfl (fun K hK => ?_) AllReady.nil
                go_simp
                try (refine hK _ _ ?_; clear hK K)
                refine wpAny_ready (rs := [17]) (by kernel_rfl) (by simp) ?_
                refine AllReady.cons rfl (fun K hK => ?_) AllReady.nil
                go_simp
                try (refine hK _ _ ?_; clear hK K)
                refine wpAny_ready (rs := [18]) (by kernel_rfl) (by simp) ?_
                refine AllReady.cons rfl (fun K hK => ?_) AllReady.nil
                go_simp
                try (refine hK _ _ ?_; clear hK K)
                refine wpAny_ready (rs := [19]) (by kernel_rfl) (by simp) ?_
                refine AllReady.cons rfl (fun K hK => ?_) AllReady.nil
                refine step_ops (.tmp 24) (.tmp 42) (c := 1) (HOD.out.alloc _) (by have := HBD.out.size; simp; omega) (ROps.lit1 _ ⟨tx, kd - 3, it⟩ _) ?_ ?_ ?_ ?_ ?_ ?_
                · omega
                · rfl
                · rfl
                · rfl
                · rfl
                intro v6 w6 hown6 hg6 hat6
                have hb6 := Below.own HBD.out HOD.out (Nat.le_refl _) (World.grownBy.trans (World.grownBy_alloc wd _ _) hg6)
                obtain ⟨A6, c6, rfl, hc6⟩ := own_form2 hown6
                have HF := Lib.hid (And.intro hb6 hown6)
                clear hb6 hown6 hg6 hat6
                try (refine hK _ _ ?_; clear hK K)
                refine wpAny_ready (rs := [20]) (by kernel_rfl) (by simp) ?_
                refine AllReady.cons rfl (fun K hK => ?_) AllReady.nil
                go_simp
                try (refine hK _ _ ?_; clear hK K)
                refine wpAny_done (by kernel_rfl) ?_ _
                try go_simp
                go_wp2_with fail
                go_roundw
                case rel => exact ⟨k + 1, m + 1, by omega, by omega, by go_num, HF.out.1, by rw [HT2.out]; exact HF.out.2⟩
                case measure => simp [intOf]; omega
              · go_simp
                try (refine hK _ _ ?_; clear hK K)
                refine wpAny_ready (rs := [5]) (by kernel_rfl) (by simp) ?_
                refine AllReady.cons rfl (fun K hK => ?_) AllReady.nil
                go_simp
                try (refine hK _ _ ?_; clear hK K)
                refine wpAny_ready (rs := [17]) (by kernel_rfl) (by simp) ?_
                refine AllReady.cons rfl (fun K hK => ?_) AllReady.nil
                go_simp
                try (refine hK _ _ ?_; clear hK K)
                refine wpAny_ready (rs := [18]) (by kernel_rfl) (by simp) ?_
                refine AllReady.cons rfl (fun K hK => ?_) AllReady.nil
                go_simp
                try (refine hK _ _ ?_; clear hK K)
                refine wpAny_ready (rs := [19]) (by kernel_rfl) (by simp) ?_
                refine AllReady.cons rfl (fun K hK => ?_) AllReady.nil
                refine step_ops (.tmp 24) (.tmp 42) (c := 1) (HOD.out.alloc _) (by have := HBD.out.size; simp; omega) (ROps.lit1 _ ⟨tx, kd - 3, it⟩ _) ?_ ?_ ?_ ?_ ?_ ?_
                · omega
                · rfl
                · rfl
                · rfl
                · rfl
                intro v6 w6 hown6 hg6 hat6
                have hb6 := Below.own HBD.out HOD.out (Nat.le_refl _) (World.grownBy.trans (World.grownBy_alloc wd _ _) hg6)
                obtain ⟨A6, c6, rfl, hc6⟩ := own_form2 hown6
                have HF := Lib.hid (And.intro hb6 hown6)
                clear hb6 hown6 hg6 hat6
                try (refine hK _ _ ?_; clear hK K)
                refine wpAny_ready (rs := [20]) (by kernel_rfl) (by simp) ?_
                refine AllReady.cons rfl (fun K hK => ?_) AllReady.nil
                go_simp
                try (refine hK _ _ ?_; clear hK K)
                refine wpAny_done (by kernel_rfl) ?_ _
                try go_simp
                go_wp2_with fail
                go_roundw
                case rel => exact ⟨k + 1, m + 1, by omega, by omega, by go_num, HF.out.1, by rw [HT2.out]; exact HF.out.2⟩
                case measure => simp [intOf]; omega
          · go_simp
            try (refine hK _ _ ?_; clear hK K)
            refine wpAny_ready (rs := [5, 10]) (by kernel_rfl) (by simp) ?_
            refine AllReady.cons rfl (fun K hK => ?_) (AllReady.cons rfl (fun K hK => ?_) (AllReady.nil))
            · go_simp
              try (refine hK _ _ ?_; clear hK K)
              refine wpAny_ready (rs := [10]) (by kernel_rfl) (by simp) ?_
              refine AllReady.cons rfl (fun K hK => ?_) AllReady.nil
              go_simp
              try (refine hK _ _ ?_; clear hK K)
              refine wpAny_ready (rs := [11]) (by kernel_rfl) (by simp) ?_
              refine AllReady.cons rfl (fun K hK => ?_) AllReady.nil
              go_simp
              try (refine hK _ _ ?_; clear hK K)
              refine wpAny_ready (rs := [17]) (by kernel_rfl) (by simp) ?_
              refine AllReady.cons rfl (fun K hK => ?_) AllReady.nil
              go_simp
              try (refine hK _ _ ?_; clear hK K)
              refine wpAny_ready (rs := [18]) (by kernel_rfl) (by simp) ?_
              refine AllReady.cons rfl (fun K hK => ?_) AllReady.nil
              go_simp
              try (refine hK _ _ ?_; clear hK K)
              refine wpAny_ready (rs := [19]) (by kernel_rfl) (by simp) ?_
              refine AllReady.cons rfl (fun K hK => ?_) AllReady.nil
              refine step_ops (.tmp 24) (.tmp 42) (c := 1) (HOD.out.alloc _) (by have := HBD.out.size; simp; omega) (ROps.lit1 _ ⟨tx, kd - 3, it⟩ _) ?_ ?_ ?_ ?_ ?_ ?_
              · omega
              · rfl
              · rfl
              · rfl
              · rfl
              intro v6 w6 hown6 hg6 hat6
              have hb6 := Below.own HBD.out HOD.out (Nat.le_refl _) (World.grownBy.trans (World.grownBy_alloc wd _ _) hg6)
              obtain ⟨A6, c6, rfl, hc6⟩ := own_form2 hown6
              have HF := Lib.hid (And.intro hb6 hown6)
              clear hb6 hown6 hg6 hat6
              try (refine hK _ _ ?_; clear hK K)
              refine wpAny_ready (rs := [20]) (by kernel_rfl) (by simp) ?_
              refine AllReady.cons rfl (fun K hK => ?_) AllReady.nil
              go_simp
              try (refine hK _ _ ?_; clear hK K)
              refine wpAny_done (by kernel_rfl) ?_ _
              try go_simp
              go_wp2_with fail
              go_roundw
              case rel => exact ⟨k + 1, m + 1, by omega, by omega, by go_num, HF.out.1, by rw [HT2.out]; exact HF.out.2⟩
              case measure => simp [intOf]; omega
            · go_simp
              try (refine hK _ _ ?_; clear hK K)
              refine wpAny_ready (rs := [5, 11]) (by kernel_rfl) (by simp) ?_
              refine AllReady.cons rfl (fun K hK => ?_) (AllReady.cons rfl (fun K hK => ?_) (AllReady.nil))
              · go_simp
                try (refine hK _ _ ?_; clear hK K)
                refine wpAny_ready (rs := [11]) (by kernel_rfl) (by simp) ?_
                refine AllReady.cons rfl (fun K hK => ?_) AllReady.nil
                go_simp
                try (refine hK _ _ ?_; clear hK K)
                refine wpAny_ready (rs := [17]) (by kernel_rfl) (by simp) ?_
                refine AllReady.cons rfl (fun K hK => ?_) AllReady.nil
                go_simp
                try (refine hK _ _ ?_; clear hK K)
                refine wpAny_ready (rs := [18]) (by kernel_rfl) (by simp) ?_
                refine AllReady.cons rfl (fun K hK => ?_) AllReady.nil
                go_simp
                try (refine hK _ _ ?_; clear hK K)
                refine wpAny_ready (rs := [19]) (by kernel_rfl) (by simp) ?_
                refine AllReady.cons rfl (fun K hK => ?_) AllReady.nil
                refine step_ops (.tmp 24) (.tmp 42) (c := 1) (HOD.out.alloc _) (by have := HBD.out.size; simp; omega) (ROps.lit1 _ ⟨tx, kd - 3, it⟩ _) ?_ ?_ ?_ ?_ ?_ ?_
                · omega
                · rfl
                · rfl
                · rfl
                · rfl
                intro v6 w6 hown6 hg6 hat6
                have hb6 := Below.own HBD.out HOD.out (Nat.le_refl _) (World.grownBy.trans (World.grownBy_alloc wd _ _) hg6)
                obtain ⟨A6, c6, rfl, hc6⟩ := own_form2 hown6
                have HF := Lib.hid (And.intro hb6 hown6)
                clear hb6 hown6 hg6 hat6
                try (refine hK _ _ ?_; clear hK K)
                refine wpAny_ready (rs := [20]) (by kernel_rfl) (by simp) ?_
                refine AllReady.cons rfl (fun K hK => ?_) AllReady.nil
                go_simp
                try (refine hK _ _ ?_; clear hK K)
                refine wpAny_done (by kernel_rfl) ?_ _
                try go_simp
                go_wp2_with fail
                go_roundw
                case rel => exact ⟨k + 1, m + 1, by omega, by omega, by go_num, HF.out.1, by rw [HT2.out]; exact HF.out.2⟩
                case measure => simp [intOf]; omega
              · go_simp
                try (refine hK _ _ ?_; clear hK K)
                refine wpAny_ready (rs := [5]) (by kernel_rfl) (by simp) ?_
                refine AllReady.cons rfl (fun K hK => ?_) AllReady.nil
                go_simp
                try (refine hK _ _ ?_; clear hK K)
                refine wpAny_ready (rs := [17]) (by kernel_rfl) (by simp) ?_
                refine AllReady.cons rfl (fun K hK => ?_) AllReady.nil
                go_simp
                try (refine hK _ _ ?_; clear hK K)
                refine wpAny_ready (rs := [18]) (by kernel_rfl) (by simp) ?_
                refine AllReady.cons rfl (fun K hK => ?_) AllReady.nil
                go_simp
                try (refine hK _ _ ?_; clear hK K)
                refine wpAny_ready (rs := [19]) (by kernel_rfl) (by simp) ?_
                refine AllReady.cons rfl (fun K hK => ?_) AllReady.nil
                refine step_ops (.tmp 24) (.tmp 42) (c := 1) (HOD.out.alloc _) (by have := HBD.out.size; simp; omega) (ROps.lit1 _ ⟨tx, kd - 3, it⟩ _) ?_ ?_ ?_ ?_ ?_ ?_
                · omega
                · rfl
                · rfl
                · rfl
                · rfl
                intro v6 w6 hown6 hg6 hat6
                have hb6 := Below.own HBD.out HOD.out (Nat.le_refl _) (World.grownBy.trans (World.grownBy_alloc wd _ _) hg6)
                obtain ⟨A6, c6, rfl, hc6⟩ := own_form2 hown6
                have HF := Lib.hid (And.intro hb6 hown6)
                clear hb6 hown6 hg6 hat6
                try (refine hK _ _ ?_; clear hK K)
                refine wpAny_ready (rs := [20]) (by kernel_rfl) (by simp) ?_
                refine AllReady.cons rfl (fun K hK => ?_) AllReady.nil
                go_simp
                try (refine hK _ _ ?_; clear hK K)
                refine wpAny_done (by kernel_rfl) ?_ _
                try go_simp
                go_wp2_with fail
                go_roundw
                case rel => exact ⟨k + 1, m + 1, by omega, by omega, by go_num, HF.out.1, by rw [HT2.out]; exact HF.out.2⟩
                case measure => simp [intOf]; omega
        · have HT2 : Hid (accOps (st.take (k + 1)) = accOps (st.take k)) := by show _ = _; rw [HT.out, if_neg (by omega), List.append_nil]
          clear HT
          go_wp2_with fail
          go_roundw
          case rel => exact ⟨k + 1, m, by omega, by omega, by go_num, hb, by rw [HT2.out]; exact hown⟩
          case measure => simp [intOf]; omega
      · have e : st.take k = st := List.take_of_length_le (by omega)
        rw [e] at hown
        clear e
        have hkd : decide ((k : Int) < (n : Int)) = false := by simp; omega
        have hro : ROps wr Ao m (accOps st) := ROps.of_own hown (by omega)
        have htx := stxs_any Ao m co (accOps st) wr hro
        have HTX := Lib.hid htx
        have HOWN := Lib.hid hown
        have HB := Lib.hid hb
        obtain ⟨ts, hts⟩ : ∃ ts, txsOf (accOps st) = ts := ⟨_, rfl⟩
        rw [hts] at HTX
        have htl : ts.length ≤ 4 := by rw [← hts]; exact txsOf_len _
        have HTS := Lib.hid hts
        clear htx hro hown hts hkd
        obtain ⟨bb, hbb⟩ : ∃ b, decide ((accI st).length ≤ 16) = b := ⟨_, rfl⟩
        have hac : accOK st = bb := by unfold accOK; rw [HBV.out, hbb]; rfl
        have hlen : (accI st).length = m + ts.length := by unfold accI; rw [HTS.out, List.length_append, own_lenOps HOWN.out]; simp [comsOf]
        rw [hlen] at hbb
        have hai : accI st = accOps st ++ comsOf ts := by unfold accI; rw [HTS.out]
        have HAC := Lib.hid hac
        have HLEN := Lib.hid hlen
        have HAI := Lib.hid hai
        have HBB := Lib.hid hbb
        clear hac hlen hai hbb
        go_wp2_with (go_at_call 92; go_loud (refine HTX.out.mono ?_; rintro e w2 ⟨T, tc, rfl, htc, hft, hb2⟩; have HTS2 : Hid (TsAt w2 T ts (.slice Ao m co)) := TsAt.fresh hft HOWN.out; have HB2 : Hid (Below w.heap.size w w2) := HB.out.trans (hb2.mono HB.out.size); have HO2 : Hid (w2.ownsRow w.heap.size 92 3 (.slice Ao m co) m (opCells (accOps st ++ comsOf (ts.take 0)))) := (by show World.ownsRow _ _ _ _ _ _ _; simpa [comsOf] using own_below HOWN.out hb2); clear hft hb2))
        go_loopw [4, 7] (fun ov i wr2 => ∃ (k2 : Nat), k2 ≤ ts.length ∧ i = .int .i64 k2 ∧ TsAt wr2 T ts ov ∧ Below w.heap.size w wr2 ∧ wr2.ownsRow w.heap.size 92 3 ov (m + k2) (opCells (accOps st ++ comsOf (ts.take k2)))) (fun _ i _ => ts.length - (intOf i).toNat)
        case atStart => exact ⟨0, by omega, rfl, HTS2.out, HB2.out, HO2.out⟩
        case round =>
          clear HTS2 HB2 HO2 HB HOWN HTX
          obtain ⟨k2, hk2, rfl, hta, hbr, hown2⟩ := hrel
          obtain ⟨Ap, cp, rfl, hmcp⟩ := own_form2 hown2
          by_cases hlt2 : k2 < ts.length
          · obtain ⟨b, off, x, rfl, hbl, hx, c0⟩ := hta.1.at_ hlt2
            have HT := Lib.hid (comsOf_snoc hx)
            have HTA := Lib.hid hta
            have hkd : decide ((k2 : Int) < (ts.length : Int)) = true := by simp; omega
            have hs2 := hbr.size
            clear hx hta
            go_wp2_with (at_builtin; go_loud (refine app_ops (.tmp 52) (.tmp 58) (hown2.alloc _) (by simp; omega) (ROps.lit1 _ ⟨_, _, _⟩ _) (by omega) rfl rfl rfl rfl ?_; intro v3 w3 hown3 hg3 hat3; have hb3 := Below.own hbr hown2 (Nat.le_refl _) (World.grownBy.trans (World.grownBy_alloc _ _ _) hg3); have HF := Lib.hid (And.intro hb3 (And.intro hown3 ((HTA.out.alloc _).grown hg3 hat3))); clear hb3 hown3 hg3 hat3))
            go_roundw
            case rel => exact ⟨k2 + 1, by omega, by go_num, HF.out.2.2, HF.out.1, by rw [HT.out, ← List.append_assoc]; exact HF.out.2.1⟩
            case measure => simp [intOf]; omega
          · obtain rfl : k2 = ts.length := by omega
            rw [List.take_length] at hown2
            have HRO : Hid (ROps wr Ap (m + ts.length) (accI st)) := by show ROps _ _ _ _; rw [HAI.out]; exact ROps.of_own hown2 (by omega)
            clear hta hown2
            cases bb
            · have hgt : ¬ m + ts.length ≤ 16 := by simpa using HBB.out
              have hgtd : decide ((16 : Int) < ((m + ts.length : Nat) : Int)) = true := by simp; omega
              go_wp2_with fail
              go_ret2
              exact AccPost.bad HAC.out hbr
            · have hgt : m + ts.length ≤ 16 := by simpa using HBB.out
              have hgtd : decide ((16 : Int) < ((m + ts.length : Nat) : Int)) = false := by simp; omega
              go_wp2_with fail
              go_ret2
              exact AccPost.good HAC.out HLEN.out hmcp HRO.out hbr
end Go.Proofs.Ytcakjhappchlmaa
