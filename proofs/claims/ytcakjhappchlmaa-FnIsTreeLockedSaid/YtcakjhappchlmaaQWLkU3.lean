/-
  The generator of steps under a tree.
-/
import Derived.Test.YtcakjhappchlmaaPkLkG
import Derived.Test.YtcakjhappchlmaaQWLkU1
import Derived.Deep.CutRange
namespace Go.Proofs.Ytcakjhappchlmaa
open Go.RowKit Go.BigFrame
set_option linter.unusedVariables false

theorem ints_only {w w' : World} {rb : Nat} {A : Option Addr} {n : Nat} {xs : List Int} (h : RInts w A n xs) (ho : Only rb w w') (hA : ∀ ad, A = some ad → ad.block ≠ rb) : RInts w' A n xs := by
  refine ⟨h.1, h.2.1, fun h0 => ?_⟩
  obtain ⟨b, off, e, hlt, hc⟩ := h.2.2 h0
  have hs := ho.size
  refine ⟨b, off, e, by omega, fun i o hi => ?_⟩
  have hne : b ≠ rb := hA _ e
  exact (ho.cell hlt hne).trans (hc i o hi)
theorem lit3i {w : World} {H : Nat} (hH : w.heap.size = H) (a b c : Int) : RInts (w.alloc (.cells #[.int .i64 a, .int .i64 b, .int .i64 c] 3)) (some ⟨H, 0, none⟩) 3 [a, b, c] := by subst hH; exact RInts.lit w [a, b, c] _ (by simp)
set_option maxRecDepth 100000 in
set_option maxHeartbeats 4000000 in
theorem treeSteps_any (rb p : Nat) (w : World) (h : Rd w rb p) (hp : p ≤ 100) (B : Option Addr) (np d : Nat) (ps : List Int) (hy : RInts w B np ps) (hB : ∀ ad, B = some ad → ad.block ≠ rb) :
    Calls Try.prog 106 #[.pointer (some ⟨rb, 0, none⟩), .slice B np d] w (SomeSt w rb) := by
  have hlt := h.lt
  have HY : Hid (∀ W, Only rb w W → RInts W B np ps) := fun W hW => ints_only hy hW hB
  clear hy hB
  go_enter Try.func106, Try.ntmps106
  have hr1 : Rd (w.alloc (.cells #[] 31)) rb p := h.alloc _
  have hlt1 := hr1.lt
  have HST0 : Hid (StG w rb p (.slice (some ⟨w.heap.size, 0, none⟩) 0 0) 0 (w.alloc (.cells #[] 31))) := ⟨⟨[], World.ownsRow_made w #[] 0 (Nat.le_refl _) (by decide) rfl⟩, ⟨_, hr1, Nat.le_refl _⟩, (Only.refl rb w).alloc _⟩
  go_wp2_with fail
  refine (one_any rb p _ 5 5 [12, 16, 8, 20, 4] _ (hr1.alloc _) (by omega) (lit5 (by simp) 12 16 8 20 4) (by omega) (far_lit (by omega))).mono ?_
  rintro e w3 ⟨N, rfl, hN, hr3, ho3⟩
  have hN2 : 0 ≤ N ∧ N ≤ 20 := by
    simp only [List.mem_cons, List.not_mem_nil, or_false] at hN
    omega
  obtain ⟨J0, rfl⟩ := Int.eq_ofNat_of_zero_le hN2.1
  have HST : Hid (StG w rb (400 - 8 * J0) (.slice (some ⟨w.heap.size, 0, none⟩) 0 0) 0 w3) := (HST0.out.alloc _).step hr3 (by omega) ho3 hlt
  clear HST0 h hr1 hr3 ho3 hN
  go_wp2_with fail
  go_loopw [5, 6] (fun ov i wr => ∃ (m j : Nat), m + j ≤ 20 ∧ i = .int .i64 j ∧ StG w rb (400 - 8 * j) ov m wr) (fun _ i _ => (intOf i).toNat)
  case atStart => exact ⟨0, J0, by omega, rfl, HST.out⟩
  case round =>
    clear HST
    obtain ⟨wo, rfl⟩ : ∃ z : World, z = wr := ⟨_, rfl⟩
    obtain ⟨ov, rfl⟩ : ∃ z : Value, z = u5 := ⟨_, rfl⟩
    obtain ⟨m, j, hmj, rfl, hS⟩ := hrel
    have HS := Lib.hid hS
    obtain ⟨⟨xs, hx⟩, ⟨q0, hrq, hq0⟩, _⟩ := hS
    obtain ⟨Ao, co, rfl, hmc⟩ := own_form2 hx
    have hltq := hrq.lt
    by_cases hj : 0 < j
    · clear hx
      go_wp2_with fail
      refine (pick_any rb q0 3 wo hrq (by omega) (by omega)).mono ?_
      rintro e w4 ⟨a, rfl, hr4, _, _, ho4⟩
      have hlt4 := hr4.lt
      go_wp2_with fail
      refine (one_any rb (q0 + 1) _ 5 5 [1, 4, 3, 2, 1] _ (hr4.alloc _) (by omega) (lit5 rfl 1 4 3 2 1) (by omega) (far_lit hlt4)).mono ?_
      rintro e w5 ⟨b, rfl, _, hr5, ho5⟩
      go_wp2_with fail
      refine (pick_any rb (q0 + 1 + 1) 3 w5 hr5 (by omega) (by omega)).mono ?_
      rintro e w6 ⟨c, rfl, hr6, _, _, ho6⟩
      have hO6 := (((Only.refl rb wo).trans ho4).alloc (.cells #[.int .i64 1, .int .i64 4, .int .i64 3, .int .i64 2, .int .i64 1] 3)).trans ho5 |>.trans ho6
      have hlt6 := hr6.lt
      obtain ⟨W7, hW7⟩ : ∃ W : World, W = w6.alloc (.cells #[.int .i64 a, .int .i64 b, .int .i64 c] 31) := ⟨_, rfl⟩
      obtain ⟨wd, hwd⟩ : ∃ wd : World, wd = W7.drew := ⟨_, rfl⟩
      have hS6 := HS.out.step hr6 (Nat.le_refl _) hO6 hlt
      have hrd : Rd wd rb (q0 + 1 + 1 + 1) := by rw [hwd, hW7]; exact hr6.alloc _
      obtain ⟨pq, hpqe⟩ : ∃ z, q0 + 1 + 1 + 1 = z := ⟨_, rfl⟩
      rw [hpqe] at hrd hS6
      have HSD : Hid (StG w rb pq (.slice Ao m co) m wd) := by
        show StG _ _ _ _ _ _
        rw [hwd, hW7]
        exact (hS6.alloc _).below (Below.refl _ _).drew
      have hc7 : ∀ i u, (#[Value.int .i64 a, .int .i64 b, .int .i64 c] : Array Value)[i]? = some u → wd.cell? ⟨w6.heap.size, i, none⟩ = some u := fun i u hu => by rw [hwd, hW7]; exact box_at _ _ _ _ _ hu
      have hwl : w6.heap.size < wd.heap.size := by rw [hwd, hW7]; simp
      have HBX : Hid (∀ u, Below wd.heap.size wd u → u.cell? ⟨w6.heap.size, 0, none⟩ = some (.int .i64 a) ∧ u.cell? ⟨w6.heap.size, 1, none⟩ = some (.int .i64 b) ∧ u.cell? ⟨w6.heap.size, 2, none⟩ = some (.int .i64 c)) := fun u hu =>
        ⟨Later.cell (hc7 0 _ rfl) ⟨u, hu⟩, Later.cell (hc7 1 _ rfl) ⟨u, hu⟩, Later.cell (hc7 2 _ rfl) ⟨u, hu⟩⟩
      have HWD : Hid (wd = (w6.alloc (.cells #[.int .i64 a, .int .i64 b, .int .i64 c] 31)).drew) := by show _ = _; rw [hwd, hW7]
      have hqb : pq ≤ 400 - 8 * j + 3 := by omega
      have hwsz : w.heap.size ≤ wd.heap.size := HSD.out.lt
      clear hS6 hc7 hwd hW7 hr4 hr5 hr6 ho4 ho5 ho6 hO6 hpqe HS hrd
      go_upto_region 6 with fail
      go_cut [8] from 25 to 30 (fun nv wx => ∃ (A2 : Option Addr) (c2 : Nat) (wz : World), nv = .slice A2 (m + 1) c2 ∧ wz = wx ∧ StG w rb pq (.slice Ao m co) m wz ∧ m + 1 ≤ c2 ∧ ∃ ys, wz.ownsRow w.heap.size 31 3 (.slice A2 (m + 1) c2) (m + 1) (opCells ys))
      case first =>
        obtain ⟨⟨L, hL⟩, _, _⟩ := HSD.out
        have hro := ROps.of_own hL (by omega)
        have HROW : Hid (∀ W, Below wd.heap.size wd W → ROps W Ao m L) := fun W hW => hro.below hW (Nat.le_refl _)
        obtain ⟨p0, p1, p2⟩ := HBX.out wd (Below.refl _ _)
        have HBA : Hid (Below wd.heap.size wd (wd.alloc (.cells #[] 31))) := (Below.refl _ wd).alloc (Nat.le_refl _) _
        have HEA : Hid ((wd.alloc (.cells #[] 31)).ownsRow wd.heap.size 31 3 (.slice (some ⟨wd.heap.size, 0, none⟩) 0 0) 0 (opCells [])) := World.ownsRow_made wd #[] 0 (Nat.le_refl _) (by decide) rfl
        have HLB := Lib.hid (lit2_b wd ⟨a, b, c⟩)
        have HLC := Lib.hid (lit2_c wd ⟨a, b, c⟩)
        have hgl : w6.heap.size < wd.heap.size := by omega
        clear hro hL
        refine wp_region_any (by kernel_rfl) ?_
        change wpAny _ _ _ _ _ _ _ (World.drew _)
        rw [← HWD.out]
        refine wpAny_take (i := 1) (v := ?_) rfl (by kernel_rfl) (by kernel_rfl) (by kernel_rfl) (fun _ _ _ h => h) (Or.inl ⟨by kernel_rfl, ?_⟩) ?_
        rotate_left
        · intro w; go_simp; try with_reducible rfl
        refine wpAny_ready (rs := [0, 3]) (by kernel_rfl) (by simp) ?_
        refine AllReady.cons rfl (fun K hK => ?_) (AllReady.cons rfl (fun K hK => ?_) (AllReady.nil))
        · skip
          go_simp
          try (refine hK _ _ ?_; clear hK K)
          refine wpAny_ready (rs := [2, 3]) (by kernel_rfl) (by simp) ?_
          refine AllReady.cons rfl (fun K hK => ?_) (AllReady.cons rfl (fun K hK => ?_) (AllReady.nil))
          · skip
            first
              | (refine step_steps (.tmp 25) (.tmp 26) (c := co) (HEA.out) (HBA.out.size) (HROW.out _ HBA.out) ?_ ?_ ?_ ?_ ?_ ?_; (· omega); (· rfl); (· rfl); (· rfl); (· rfl); intro v1 w1 hown1 hg1 hat1; rw [List.nil_append, Nat.zero_add] at hown1; have hb1 := Below.own HBA.out HEA.out (Nat.le_refl _) hg1; obtain ⟨x0, x1, x2⟩ := HBX.out w1 hb1; refine hK _ _ ?_; clear hK K)
              | (refine step_steps (.tmp 25) (.tmp 26) (c := co) (HLB.out.row) (HLB.out.below.size) (HROW.out _ HLB.out.below) ?_ ?_ ?_ ?_ ?_ ?_; (· omega); (· rfl); (· rfl); (· rfl); (· rfl); intro v1 w1 hown1 hg1 hat1; rw [List.nil_append, Nat.zero_add] at hown1; have hl1 := HLB.out.grown hg1; have hb1 := Below.own HLB.out.below HLB.out.row (Nat.le_refl _) hg1; obtain ⟨x0, x1, x2⟩ := HBX.out w1 hb1; refine hK _ _ ?_; clear hK K)
              | (refine step_steps (.tmp 25) (.tmp 26) (c := co) (HLC.out.row) (HLC.out.below.size) (HROW.out _ HLC.out.below) ?_ ?_ ?_ ?_ ?_ ?_; (· omega); (· rfl); (· rfl); (· rfl); (· rfl); intro v1 w1 hown1 hg1 hat1; rw [List.nil_append, Nat.zero_add] at hown1; have hl1 := HLC.out.grown hg1; have hb1 := Below.own HLC.out.below HLC.out.row (Nat.le_refl _) hg1; obtain ⟨x0, x1, x2⟩ := HBX.out w1 hb1; refine hK _ _ ?_; clear hK K)
            try (refine hK _ _ ?_; clear hK K)
            refine wpAny_ready (rs := [3]) (by kernel_rfl) (by simp) ?_
            refine AllReady.cons rfl (fun K hK => ?_) AllReady.nil
            go_simp
            try (refine hK _ _ ?_; clear hK K)
            refine wpAny_ready (rs := [4]) (by kernel_rfl) (by simp) ?_
            refine AllReady.cons rfl (fun K hK => ?_) AllReady.nil
            go_simp
            try (refine hK _ _ ?_; clear hK K)
            refine wpAny_ready (rs := [5]) (by kernel_rfl) (by simp) ?_
            refine AllReady.cons rfl (fun K hK => ?_) AllReady.nil
            first
              | (refine step_steps (.tmp 27) (.tmp 29) (c := 1) (hown1) (hb1.size) (hl1) ?_ ?_ ?_ ?_ ?_ ?_; (· omega); (· rfl); (· rfl); (· rfl); (· rfl); intro v2 w2' hown2 hg2 hat2; have hb2 := Below.own hb1 hown1 (Nat.le_refl _) hg2; obtain ⟨A2, c2, rfl, hc2⟩ := own_form2 hown2; have HB2 := Lib.hid hb2; have HN2 := Lib.hid (own_base (base' := w.heap.size) hown2 (by omega)); clear hb2 hown2 hg2 hat2 hown1 hg1 hat1 hb1 x0 x1 x2; refine hK _ _ ?_; clear hK K)
              | (refine step_steps (.tmp 27) (.tmp 29) (c := 1) (hown1.alloc _) (by have := hb1.size; simp; omega) (ROps.lit1 _ ⟨a, b, c⟩ _) ?_ ?_ ?_ ?_ ?_ ?_; (· omega); (· rfl); (· rfl); (· rfl); (· rfl); intro v2 w2' hown2 hg2 hat2; have hb2 := Below.own hb1 hown1 (Nat.le_refl _) (World.grownBy.trans (World.grownBy_alloc w1 _ _) hg2); obtain ⟨A2, c2, rfl, hc2⟩ := own_form2 hown2; have HB2 := Lib.hid hb2; have HN2 := Lib.hid (own_base (base' := w.heap.size) hown2 (by omega)); clear hb2 hown2 hg2 hat2 hown1 hg1 hat1 hb1 x0 x1 x2; refine hK _ _ ?_; clear hK K)
            try (refine hK _ _ ?_; clear hK K)
            refine wpAny_take (i := 6) (v := ?_) rfl (by kernel_rfl) (by kernel_rfl) (by kernel_rfl) (fun _ _ _ h => h) (Or.inl ⟨by kernel_rfl, ?_⟩) ?_
            rotate_left
            · intro w; go_simp; try with_reducible rfl
            refine wpAny_done (by kernel_rfl) ?_ _
            try go_simp
            go_wp2_with fail
            go_meet
            exact ⟨A2, c2, w2', rfl, rfl, HSD.out.below HB2.out, hc2, ⟨_, HN2.out⟩⟩
          · skip
            go_simp
            try (refine hK _ _ ?_; clear hK K)
            refine wpAny_ready (rs := [2, 4]) (by kernel_rfl) (by simp) ?_
            refine AllReady.cons rfl (fun K hK => ?_) (AllReady.cons rfl (fun K hK => ?_) (AllReady.nil))
            · skip
              first
                | (refine step_steps (.tmp 25) (.tmp 26) (c := co) (HEA.out) (HBA.out.size) (HROW.out _ HBA.out) ?_ ?_ ?_ ?_ ?_ ?_; (· omega); (· rfl); (· rfl); (· rfl); (· rfl); intro v1 w1 hown1 hg1 hat1; rw [List.nil_append, Nat.zero_add] at hown1; have hb1 := Below.own HBA.out HEA.out (Nat.le_refl _) hg1; obtain ⟨x0, x1, x2⟩ := HBX.out w1 hb1; refine hK _ _ ?_; clear hK K)
                | (refine step_steps (.tmp 25) (.tmp 26) (c := co) (HLB.out.row) (HLB.out.below.size) (HROW.out _ HLB.out.below) ?_ ?_ ?_ ?_ ?_ ?_; (· omega); (· rfl); (· rfl); (· rfl); (· rfl); intro v1 w1 hown1 hg1 hat1; rw [List.nil_append, Nat.zero_add] at hown1; have hl1 := HLB.out.grown hg1; have hb1 := Below.own HLB.out.below HLB.out.row (Nat.le_refl _) hg1; obtain ⟨x0, x1, x2⟩ := HBX.out w1 hb1; refine hK _ _ ?_; clear hK K)
                | (refine step_steps (.tmp 25) (.tmp 26) (c := co) (HLC.out.row) (HLC.out.below.size) (HROW.out _ HLC.out.below) ?_ ?_ ?_ ?_ ?_ ?_; (· omega); (· rfl); (· rfl); (· rfl); (· rfl); intro v1 w1 hown1 hg1 hat1; rw [List.nil_append, Nat.zero_add] at hown1; have hl1 := HLC.out.grown hg1; have hb1 := Below.own HLC.out.below HLC.out.row (Nat.le_refl _) hg1; obtain ⟨x0, x1, x2⟩ := HBX.out w1 hb1; refine hK _ _ ?_; clear hK K)
              try (refine hK _ _ ?_; clear hK K)
              refine wpAny_ready (rs := [4]) (by kernel_rfl) (by simp) ?_
              refine AllReady.cons rfl (fun K hK => ?_) AllReady.nil
              go_simp
              try (refine hK _ _ ?_; clear hK K)
              refine wpAny_ready (rs := [5]) (by kernel_rfl) (by simp) ?_
              refine AllReady.cons rfl (fun K hK => ?_) AllReady.nil
              first
                | (refine step_steps (.tmp 27) (.tmp 29) (c := 1) (hown1) (hb1.size) (hl1) ?_ ?_ ?_ ?_ ?_ ?_; (· omega); (· rfl); (· rfl); (· rfl); (· rfl); intro v2 w2' hown2 hg2 hat2; have hb2 := Below.own hb1 hown1 (Nat.le_refl _) hg2; obtain ⟨A2, c2, rfl, hc2⟩ := own_form2 hown2; have HB2 := Lib.hid hb2; have HN2 := Lib.hid (own_base (base' := w.heap.size) hown2 (by omega)); clear hb2 hown2 hg2 hat2 hown1 hg1 hat1 hb1 x0 x1 x2; refine hK _ _ ?_; clear hK K)
                | (refine step_steps (.tmp 27) (.tmp 29) (c := 1) (hown1.alloc _) (by have := hb1.size; simp; omega) (ROps.lit1 _ ⟨a, b, c⟩ _) ?_ ?_ ?_ ?_ ?_ ?_; (· omega); (· rfl); (· rfl); (· rfl); (· rfl); intro v2 w2' hown2 hg2 hat2; have hb2 := Below.own hb1 hown1 (Nat.le_refl _) (World.grownBy.trans (World.grownBy_alloc w1 _ _) hg2); obtain ⟨A2, c2, rfl, hc2⟩ := own_form2 hown2; have HB2 := Lib.hid hb2; have HN2 := Lib.hid (own_base (base' := w.heap.size) hown2 (by omega)); clear hb2 hown2 hg2 hat2 hown1 hg1 hat1 hb1 x0 x1 x2; refine hK _ _ ?_; clear hK K)
              try (refine hK _ _ ?_; clear hK K)
              refine wpAny_take (i := 6) (v := ?_) rfl (by kernel_rfl) (by kernel_rfl) (by kernel_rfl) (fun _ _ _ h => h) (Or.inl ⟨by kernel_rfl, ?_⟩) ?_
              rotate_left
              · intro w; go_simp; try with_reducible rfl
              refine wpAny_done (by kernel_rfl) ?_ _
              try go_simp
              go_wp2_with fail
              go_meet
              exact ⟨A2, c2, w2', rfl, rfl, HSD.out.below HB2.out, hc2, ⟨_, HN2.out⟩⟩
            · skip
              go_simp
              try (refine hK _ _ ?_; clear hK K)
              refine wpAny_ready (rs := [2]) (by kernel_rfl) (by simp) ?_
              refine AllReady.cons rfl (fun K hK => ?_) AllReady.nil
              first
                | (refine step_steps (.tmp 25) (.tmp 26) (c := co) (HEA.out) (HBA.out.size) (HROW.out _ HBA.out) ?_ ?_ ?_ ?_ ?_ ?_; (· omega); (· rfl); (· rfl); (· rfl); (· rfl); intro v1 w1 hown1 hg1 hat1; rw [List.nil_append, Nat.zero_add] at hown1; have hb1 := Below.own HBA.out HEA.out (Nat.le_refl _) hg1; obtain ⟨x0, x1, x2⟩ := HBX.out w1 hb1; refine hK _ _ ?_; clear hK K)
                | (refine step_steps (.tmp 25) (.tmp 26) (c := co) (HLB.out.row) (HLB.out.below.size) (HROW.out _ HLB.out.below) ?_ ?_ ?_ ?_ ?_ ?_; (· omega); (· rfl); (· rfl); (· rfl); (· rfl); intro v1 w1 hown1 hg1 hat1; rw [List.nil_append, Nat.zero_add] at hown1; have hl1 := HLB.out.grown hg1; have hb1 := Below.own HLB.out.below HLB.out.row (Nat.le_refl _) hg1; obtain ⟨x0, x1, x2⟩ := HBX.out w1 hb1; refine hK _ _ ?_; clear hK K)
                | (refine step_steps (.tmp 25) (.tmp 26) (c := co) (HLC.out.row) (HLC.out.below.size) (HROW.out _ HLC.out.below) ?_ ?_ ?_ ?_ ?_ ?_; (· omega); (· rfl); (· rfl); (· rfl); (· rfl); intro v1 w1 hown1 hg1 hat1; rw [List.nil_append, Nat.zero_add] at hown1; have hl1 := HLC.out.grown hg1; have hb1 := Below.own HLC.out.below HLC.out.row (Nat.le_refl _) hg1; obtain ⟨x0, x1, x2⟩ := HBX.out w1 hb1; refine hK _ _ ?_; clear hK K)
              try (refine hK _ _ ?_; clear hK K)
              refine wpAny_ready (rs := [5]) (by kernel_rfl) (by simp) ?_
              refine AllReady.cons rfl (fun K hK => ?_) AllReady.nil
              first
                | (refine step_steps (.tmp 27) (.tmp 29) (c := 1) (hown1) (hb1.size) (hl1) ?_ ?_ ?_ ?_ ?_ ?_; (· omega); (· rfl); (· rfl); (· rfl); (· rfl); intro v2 w2' hown2 hg2 hat2; have hb2 := Below.own hb1 hown1 (Nat.le_refl _) hg2; obtain ⟨A2, c2, rfl, hc2⟩ := own_form2 hown2; have HB2 := Lib.hid hb2; have HN2 := Lib.hid (own_base (base' := w.heap.size) hown2 (by omega)); clear hb2 hown2 hg2 hat2 hown1 hg1 hat1 hb1 x0 x1 x2; refine hK _ _ ?_; clear hK K)
                | (refine step_steps (.tmp 27) (.tmp 29) (c := 1) (hown1.alloc _) (by have := hb1.size; simp; omega) (ROps.lit1 _ ⟨a, b, c⟩ _) ?_ ?_ ?_ ?_ ?_ ?_; (· omega); (· rfl); (· rfl); (· rfl); (· rfl); intro v2 w2' hown2 hg2 hat2; have hb2 := Below.own hb1 hown1 (Nat.le_refl _) (World.grownBy.trans (World.grownBy_alloc w1 _ _) hg2); obtain ⟨A2, c2, rfl, hc2⟩ := own_form2 hown2; have HB2 := Lib.hid hb2; have HN2 := Lib.hid (own_base (base' := w.heap.size) hown2 (by omega)); clear hb2 hown2 hg2 hat2 hown1 hg1 hat1 hb1 x0 x1 x2; refine hK _ _ ?_; clear hK K)
              try (refine hK _ _ ?_; clear hK K)
              refine wpAny_take (i := 6) (v := ?_) rfl (by kernel_rfl) (by kernel_rfl) (by kernel_rfl) (fun _ _ _ h => h) (Or.inl ⟨by kernel_rfl, ?_⟩) ?_
              rotate_left
              · intro w; go_simp; try with_reducible rfl
              refine wpAny_done (by kernel_rfl) ?_ _
              try go_simp
              go_wp2_with fail
              go_meet
              exact ⟨A2, c2, w2', rfl, rfl, HSD.out.below HB2.out, hc2, ⟨_, HN2.out⟩⟩
        · skip
          go_simp
          try (refine hK _ _ ?_; clear hK K)
          refine wpAny_ready (rs := [0, 4]) (by kernel_rfl) (by simp) ?_
          refine AllReady.cons rfl (fun K hK => ?_) (AllReady.cons rfl (fun K hK => ?_) (AllReady.nil))
          · skip
            go_simp
            try (refine hK _ _ ?_; clear hK K)
            refine wpAny_ready (rs := [2, 4]) (by kernel_rfl) (by simp) ?_
            refine AllReady.cons rfl (fun K hK => ?_) (AllReady.cons rfl (fun K hK => ?_) (AllReady.nil))
            · skip
              first
                | (refine step_steps (.tmp 25) (.tmp 26) (c := co) (HEA.out) (HBA.out.size) (HROW.out _ HBA.out) ?_ ?_ ?_ ?_ ?_ ?_; (· omega); (· rfl); (· rfl); (· rfl); (· rfl); intro v1 w1 hown1 hg1 hat1; rw [List.nil_append, Nat.zero_add] at hown1; have hb1 := Below.own HBA.out HEA.out (Nat.le_refl _) hg1; obtain ⟨x0, x1, x2⟩ := HBX.out w1 hb1; refine hK _ _ ?_; clear hK K)
                | (refine step_steps (.tmp 25) (.tmp 26) (c := co) (HLB.out.row) (HLB.out.below.size) (HROW.out _ HLB.out.below) ?_ ?_ ?_ ?_ ?_ ?_; (· omega); (· rfl); (· rfl); (· rfl); (· rfl); intro v1 w1 hown1 hg1 hat1; rw [List.nil_append, Nat.zero_add] at hown1; have hl1 := HLB.out.grown hg1; have hb1 := Below.own HLB.out.below HLB.out.row (Nat.le_refl _) hg1; obtain ⟨x0, x1, x2⟩ := HBX.out w1 hb1; refine hK _ _ ?_; clear hK K)
                | (refine step_steps (.tmp 25) (.tmp 26) (c := co) (HLC.out.row) (HLC.out.below.size) (HROW.out _ HLC.out.below) ?_ ?_ ?_ ?_ ?_ ?_; (· omega); (· rfl); (· rfl); (· rfl); (· rfl); intro v1 w1 hown1 hg1 hat1; rw [List.nil_append, Nat.zero_add] at hown1; have hl1 := HLC.out.grown hg1; have hb1 := Below.own HLC.out.below HLC.out.row (Nat.le_refl _) hg1; obtain ⟨x0, x1, x2⟩ := HBX.out w1 hb1; refine hK _ _ ?_; clear hK K)
              try (refine hK _ _ ?_; clear hK K)
              refine wpAny_ready (rs := [4]) (by kernel_rfl) (by simp) ?_
              refine AllReady.cons rfl (fun K hK => ?_) AllReady.nil
              go_simp
              try (refine hK _ _ ?_; clear hK K)
              refine wpAny_ready (rs := [5]) (by kernel_rfl) (by simp) ?_
              refine AllReady.cons rfl (fun K hK => ?_) AllReady.nil
              first
                | (refine step_steps (.tmp 27) (.tmp 29) (c := 1) (hown1) (hb1.size) (hl1) ?_ ?_ ?_ ?_ ?_ ?_; (· omega); (· rfl); (· rfl); (· rfl); (· rfl); intro v2 w2' hown2 hg2 hat2; have hb2 := Below.own hb1 hown1 (Nat.le_refl _) hg2; obtain ⟨A2, c2, rfl, hc2⟩ := own_form2 hown2; have HB2 := Lib.hid hb2; have HN2 := Lib.hid (own_base (base' := w.heap.size) hown2 (by omega)); clear hb2 hown2 hg2 hat2 hown1 hg1 hat1 hb1 x0 x1 x2; refine hK _ _ ?_; clear hK K)
                | (refine step_steps (.tmp 27) (.tmp 29) (c := 1) (hown1.alloc _) (by have := hb1.size; simp; omega) (ROps.lit1 _ ⟨a, b, c⟩ _) ?_ ?_ ?_ ?_ ?_ ?_; (· omega); (· rfl); (· rfl); (· rfl); (· rfl); intro v2 w2' hown2 hg2 hat2; have hb2 := Below.own hb1 hown1 (Nat.le_refl _) (World.grownBy.trans (World.grownBy_alloc w1 _ _) hg2); obtain ⟨A2, c2, rfl, hc2⟩ := own_form2 hown2; have HB2 := Lib.hid hb2; have HN2 := Lib.hid (own_base (base' := w.heap.size) hown2 (by omega)); clear hb2 hown2 hg2 hat2 hown1 hg1 hat1 hb1 x0 x1 x2; refine hK _ _ ?_; clear hK K)
              try (refine hK _ _ ?_; clear hK K)
              refine wpAny_take (i := 6) (v := ?_) rfl (by kernel_rfl) (by kernel_rfl) (by kernel_rfl) (fun _ _ _ h => h) (Or.inl ⟨by kernel_rfl, ?_⟩) ?_
              rotate_left
              · intro w; go_simp; try with_reducible rfl
              refine wpAny_done (by kernel_rfl) ?_ _
              try go_simp
              go_wp2_with fail
              go_meet
              exact ⟨A2, c2, w2', rfl, rfl, HSD.out.below HB2.out, hc2, ⟨_, HN2.out⟩⟩
            · skip
              go_simp
              try (refine hK _ _ ?_; clear hK K)
              refine wpAny_ready (rs := [2]) (by kernel_rfl) (by simp) ?_
              refine AllReady.cons rfl (fun K hK => ?_) AllReady.nil
              first
                | (refine step_steps (.tmp 25) (.tmp 26) (c := co) (HEA.out) (HBA.out.size) (HROW.out _ HBA.out) ?_ ?_ ?_ ?_ ?_ ?_; (· omega); (· rfl); (· rfl); (· rfl); (· rfl); intro v1 w1 hown1 hg1 hat1; rw [List.nil_append, Nat.zero_add] at hown1; have hb1 := Below.own HBA.out HEA.out (Nat.le_refl _) hg1; obtain ⟨x0, x1, x2⟩ := HBX.out w1 hb1; refine hK _ _ ?_; clear hK K)
                | (refine step_steps (.tmp 25) (.tmp 26) (c := co) (HLB.out.row) (HLB.out.below.size) (HROW.out _ HLB.out.below) ?_ ?_ ?_ ?_ ?_ ?_; (· omega); (· rfl); (· rfl); (· rfl); (· rfl); intro v1 w1 hown1 hg1 hat1; rw [List.nil_append, Nat.zero_add] at hown1; have hl1 := HLB.out.grown hg1; have hb1 := Below.own HLB.out.below HLB.out.row (Nat.le_refl _) hg1; obtain ⟨x0, x1, x2⟩ := HBX.out w1 hb1; refine hK _ _ ?_; clear hK K)
                | (refine step_steps (.tmp 25) (.tmp 26) (c := co) (HLC.out.row) (HLC.out.below.size) (HROW.out _ HLC.out.below) ?_ ?_ ?_ ?_ ?_ ?_; (· omega); (· rfl); (· rfl); (· rfl); (· rfl); intro v1 w1 hown1 hg1 hat1; rw [List.nil_append, Nat.zero_add] at hown1; have hl1 := HLC.out.grown hg1; have hb1 := Below.own HLC.out.below HLC.out.row (Nat.le_refl _) hg1; obtain ⟨x0, x1, x2⟩ := HBX.out w1 hb1; refine hK _ _ ?_; clear hK K)
              try (refine hK _ _ ?_; clear hK K)
              refine wpAny_ready (rs := [5]) (by kernel_rfl) (by simp) ?_
              refine AllReady.cons rfl (fun K hK => ?_) AllReady.nil
              first
                | (refine step_steps (.tmp 27) (.tmp 29) (c := 1) (hown1) (hb1.size) (hl1) ?_ ?_ ?_ ?_ ?_ ?_; (· omega); (· rfl); (· rfl); (· rfl); (· rfl); intro v2 w2' hown2 hg2 hat2; have hb2 := Below.own hb1 hown1 (Nat.le_refl _) hg2; obtain ⟨A2, c2, rfl, hc2⟩ := own_form2 hown2; have HB2 := Lib.hid hb2; have HN2 := Lib.hid (own_base (base' := w.heap.size) hown2 (by omega)); clear hb2 hown2 hg2 hat2 hown1 hg1 hat1 hb1 x0 x1 x2; refine hK _ _ ?_; clear hK K)
                | (refine step_steps (.tmp 27) (.tmp 29) (c := 1) (hown1.alloc _) (by have := hb1.size; simp; omega) (ROps.lit1 _ ⟨a, b, c⟩ _) ?_ ?_ ?_ ?_ ?_ ?_; (· omega); (· rfl); (· rfl); (· rfl); (· rfl); intro v2 w2' hown2 hg2 hat2; have hb2 := Below.own hb1 hown1 (Nat.le_refl _) (World.grownBy.trans (World.grownBy_alloc w1 _ _) hg2); obtain ⟨A2, c2, rfl, hc2⟩ := own_form2 hown2; have HB2 := Lib.hid hb2; have HN2 := Lib.hid (own_base (base' := w.heap.size) hown2 (by omega)); clear hb2 hown2 hg2 hat2 hown1 hg1 hat1 hb1 x0 x1 x2; refine hK _ _ ?_; clear hK K)
              try (refine hK _ _ ?_; clear hK K)
              refine wpAny_take (i := 6) (v := ?_) rfl (by kernel_rfl) (by kernel_rfl) (by kernel_rfl) (fun _ _ _ h => h) (Or.inl ⟨by kernel_rfl, ?_⟩) ?_
              rotate_left
              · intro w; go_simp; try with_reducible rfl
              refine wpAny_done (by kernel_rfl) ?_ _
              try go_simp
              go_wp2_with fail
              go_meet
              exact ⟨A2, c2, w2', rfl, rfl, HSD.out.below HB2.out, hc2, ⟨_, HN2.out⟩⟩
          · skip
            go_simp
            try (refine hK _ _ ?_; clear hK K)
            refine wpAny_ready (rs := [0]) (by kernel_rfl) (by simp) ?_
            refine AllReady.cons rfl (fun K hK => ?_) AllReady.nil
            go_simp
            try (refine hK _ _ ?_; clear hK K)
            refine wpAny_ready (rs := [2]) (by kernel_rfl) (by simp) ?_
            refine AllReady.cons rfl (fun K hK => ?_) AllReady.nil
            first
              | (refine step_steps (.tmp 25) (.tmp 26) (c := co) (HEA.out) (HBA.out.size) (HROW.out _ HBA.out) ?_ ?_ ?_ ?_ ?_ ?_; (· omega); (· rfl); (· rfl); (· rfl); (· rfl); intro v1 w1 hown1 hg1 hat1; rw [List.nil_append, Nat.zero_add] at hown1; have hb1 := Below.own HBA.out HEA.out (Nat.le_refl _) hg1; obtain ⟨x0, x1, x2⟩ := HBX.out w1 hb1; refine hK _ _ ?_; clear hK K)
              | (refine step_steps (.tmp 25) (.tmp 26) (c := co) (HLB.out.row) (HLB.out.below.size) (HROW.out _ HLB.out.below) ?_ ?_ ?_ ?_ ?_ ?_; (· omega); (· rfl); (· rfl); (· rfl); (· rfl); intro v1 w1 hown1 hg1 hat1; rw [List.nil_append, Nat.zero_add] at hown1; have hl1 := HLB.out.grown hg1; have hb1 := Below.own HLB.out.below HLB.out.row (Nat.le_refl _) hg1; obtain ⟨x0, x1, x2⟩ := HBX.out w1 hb1; refine hK _ _ ?_; clear hK K)
              | (refine step_steps (.tmp 25) (.tmp 26) (c := co) (HLC.out.row) (HLC.out.below.size) (HROW.out _ HLC.out.below) ?_ ?_ ?_ ?_ ?_ ?_; (· omega); (· rfl); (· rfl); (· rfl); (· rfl); intro v1 w1 hown1 hg1 hat1; rw [List.nil_append, Nat.zero_add] at hown1; have hl1 := HLC.out.grown hg1; have hb1 := Below.own HLC.out.below HLC.out.row (Nat.le_refl _) hg1; obtain ⟨x0, x1, x2⟩ := HBX.out w1 hb1; refine hK _ _ ?_; clear hK K)
            try (refine hK _ _ ?_; clear hK K)
            refine wpAny_ready (rs := [5]) (by kernel_rfl) (by simp) ?_
            refine AllReady.cons rfl (fun K hK => ?_) AllReady.nil
            first
              | (refine step_steps (.tmp 27) (.tmp 29) (c := 1) (hown1) (hb1.size) (hl1) ?_ ?_ ?_ ?_ ?_ ?_; (· omega); (· rfl); (· rfl); (· rfl); (· rfl); intro v2 w2' hown2 hg2 hat2; have hb2 := Below.own hb1 hown1 (Nat.le_refl _) hg2; obtain ⟨A2, c2, rfl, hc2⟩ := own_form2 hown2; have HB2 := Lib.hid hb2; have HN2 := Lib.hid (own_base (base' := w.heap.size) hown2 (by omega)); clear hb2 hown2 hg2 hat2 hown1 hg1 hat1 hb1 x0 x1 x2; refine hK _ _ ?_; clear hK K)
              | (refine step_steps (.tmp 27) (.tmp 29) (c := 1) (hown1.alloc _) (by have := hb1.size; simp; omega) (ROps.lit1 _ ⟨a, b, c⟩ _) ?_ ?_ ?_ ?_ ?_ ?_; (· omega); (· rfl); (· rfl); (· rfl); (· rfl); intro v2 w2' hown2 hg2 hat2; have hb2 := Below.own hb1 hown1 (Nat.le_refl _) (World.grownBy.trans (World.grownBy_alloc w1 _ _) hg2); obtain ⟨A2, c2, rfl, hc2⟩ := own_form2 hown2; have HB2 := Lib.hid hb2; have HN2 := Lib.hid (own_base (base' := w.heap.size) hown2 (by omega)); clear hb2 hown2 hg2 hat2 hown1 hg1 hat1 hb1 x0 x1 x2; refine hK _ _ ?_; clear hK K)
            try (refine hK _ _ ?_; clear hK K)
            refine wpAny_take (i := 6) (v := ?_) rfl (by kernel_rfl) (by kernel_rfl) (by kernel_rfl) (fun _ _ _ h => h) (Or.inl ⟨by kernel_rfl, ?_⟩) ?_
            rotate_left
            · intro w; go_simp; try with_reducible rfl
            refine wpAny_done (by kernel_rfl) ?_ _
            try go_simp
            go_wp2_with fail
            go_meet
            exact ⟨A2, c2, w2', rfl, rfl, HSD.out.below HB2.out, hc2, ⟨_, HN2.out⟩⟩
      case rest =>
        obtain ⟨A2, c2, wz, rfl, rfl, hS, hc2, ys, hys⟩ := hcut
        have HS2 := Lib.hid hS
        have HN := Lib.hid hys
        obtain ⟨_, ⟨q2, hrq2, hq2⟩, hOq⟩ := hS
        have hszc := hOq.size
        have hj1 : ((j - 1 : Nat) : Int) = (j : Int) - 1 := by omega
        have HJ1 := Lib.hid hj1
        have HOQ := Lib.hid hOq
        try clear hcut
        clear hys hOq hj1 HBX HWD HSD
        go_wp2_with fail
        refine (pick_any rb q2 16 wz hrq2 (by omega) (by omega)).mono ?_
        rintro e w8 ⟨v, rfl, hr8, _, _, ho8⟩
        have HO8 := Lib.hid (HOQ.out.trans ho8)
        have hn8 := own_only HN.out ho8 hlt
        have HN8 : Hid (StG w rb (pq + 1) (.slice A2 (m + 1) c2) (m + 1) w8) := ⟨⟨ys, hn8⟩, ⟨_, hr8, by omega⟩, HO8.out⟩
        have HS8 : Hid (StG w rb (pq + 1) (.slice Ao m co) m w8) := HS2.out.step hr8 (by omega) ho8 hlt
        have hro8 := ROps.of_own hn8 (by omega)
        have hill := sillegal_any A2 (m + 1) c2 ys m w8 hro8 (by omega) (fun _ _ _ => heldI_le1 _ _ _)
        obtain ⟨bb, hbb⟩ : ∃ z, illAtB ys m = z := ⟨_, rfl⟩
        rw [hbb] at hill
        have HILL := Lib.hid hill
        have htree : ∀ W, Below w8.heap.size w8 W → Calls Try.prog 43 #[.slice A2 (m + 1) c2, .slice B np d] W fun e w' => e = .returned (.bool (validL ys && parB ps && treeB ps ys)) ∧ Below W.heap.size W w' := fun W hW => sIsTreeLocked_any A2 B (m + 1) c2 np d ys ps W (hro8.below hW (Nat.le_refl _)) ((HY.out w8 HO8.out).below hW (Nat.le_refl _))
        obtain ⟨tt, htt⟩ : ∃ z, (validL ys && parB ps && treeB ps ys) = z := ⟨_, rfl⟩
        rw [htt] at htree
        have HTREE := Lib.hid htree
        clear hill hbb htree htt hro8 hn8 hr8 ho8 hrq2 hrq HN HS2 HOQ
        by_cases v0 : v = 0
        · subst v0
          go_wp2_with fail
          go_roundw
          case rel => exact ⟨m + 1, j - 1, by omega, by rw [HJ1.out], HN8.out.mono (by omega)⟩
          case measure => simp [intOf]; omega
        · have v0d : (v == 0) = false := by simpa using v0
          go_wp2_with fail
          refine HILL.out.mono ?_
          rintro e w9 ⟨rfl, hb9⟩
          cases bb
          · go_wp2_with fail
            refine (HTREE.out w9 hb9).mono ?_
            rintro e wa ⟨rfl, hba'⟩
            have hba := hb9.trans (hba'.mono hb9.size)
            cases tt
            · have HF := Lib.hid (HS8.out.below hba)
              clear hb9 hba hba'
              go_wp2_with fail
              go_roundw
              case rel => exact ⟨m, j - 1, by omega, by rw [HJ1.out], HF.out.mono (by omega)⟩
              case measure => simp [intOf]; omega
            · have HF := Lib.hid (HN8.out.below hba)
              clear hb9 hba hba'
              go_wp2_with fail
              go_roundw
              case rel => exact ⟨m + 1, j - 1, by omega, by rw [HJ1.out], HF.out.mono (by omega)⟩
              case measure => simp [intOf]; omega
          · have HF := Lib.hid (HS8.out.below hb9)
            clear hb9
            go_wp2_with fail
            go_roundw
            case rel => exact ⟨m, j - 1, by omega, by rw [HJ1.out], HF.out.mono (by omega)⟩
            case measure => simp [intOf]; omega
    · have hj0 : j = 0 := by omega
      subst hj0
      have HE := Lib.hid (HS.out.done (by omega) hmc (by omega))
      clear hx hrq HS
      go_wp2_with fail
      go_ret
      exact HE.out


def DrawnSP (w : World) (e : Ending) (w' : World) : Prop := ∃ (A : Option Addr) (m c : Nat) (xs : List OpV) (B : Option Addr) (d : Nat) (ps : List Int), e = .returned (.tuple #[.slice A m c, .slice B 3 d]) ∧ ROps w' A m xs ∧ m ≤ 40 ∧ m ≤ c ∧ RInts w' B 3 ps ∧ Below w.heap.size w w'
theorem below_only {w w1 w2 : World} {rb : Nat} (hb : Below w.heap.size w w1) (hrb : w.heap.size ≤ rb) (hO : Only rb w1 w2) : Below w.heap.size w w2 := by
  have hs := hb.size
  exact hb.trans ⟨hO.os, hO.tape, hO.output, hO.size, fun k hk => hO.heap (by omega) (by omega)⟩
set_option maxHeartbeats 1000000 in
theorem DrawIsTreeLocked_any (A : Option Addr) (n c : Nat) (w : World) (hx : RBytes w A n) (hc : n ≤ c) :
    Calls Try.prog 41 #[.slice A n c] w (DrawnSP w) := by
  go_enter Try.func41, Try.ntmps41
  go_wp2_with fail
  refine (newReader_any A n c w hx hc).mono ?_
  rintro e w1 ⟨rb, rfl, hrb, hr, hb⟩
  clear hx
  go_wp2_with fail
  refine (pick_any rb 0 2 w1 hr (by omega) (by omega)).mono ?_
  rintro e w2 ⟨p2, rfl, hr2, _, _, hO2⟩
  have hlt2 := hr2.lt
  have HPS : Hid (RInts (w2.alloc (.cells #[.int .i64 (-1), .int .i64 0, .int .i64 p2] 3)) (some ⟨w2.heap.size, 0, none⟩) 3 [-1, 0, p2]) := lit3i rfl (-1) 0 p2
  have HFAR : Hid (∀ ad : Addr, some (⟨w2.heap.size, 0, none⟩ : Addr) = some ad → ad.block ≠ rb) := far_lit hlt2
  go_wp2_with fail
  refine (pick_any rb 1 16 _ (hr2.alloc _) (by omega) (by omega)).mono ?_
  rintro e w3 ⟨sw, rfl, hr3, _, _, hO3⟩
  have HP3 := Lib.hid (ints_only HPS.out hO3 HFAR.out)
  have HB3 := Lib.hid (below_only (below_only hb hrb (hO2.alloc (.cells #[.int .i64 (-1), .int .i64 0, .int .i64 p2] 3))) hrb hO3)
  clear HPS hO3 hO2 hr2 hr hb
  by_cases s0 : sw = 0
  · subst s0
    go_wp2_with fail
    refine (someSteps_any rb 2 w3 hr3 (by omega)).mono ?_
    rintro e w4 ⟨A', m', c', p', xs, rfl, hmc, hm, hx', _, _, hO, _⟩
    have HR4 : Hid (∀ a b d : Int, ROps (w4.alloc (.cells #[.int .i64 a, .int .i64 b, .int .i64 d] 3)) A' m' xs) := fun a b d => hx'.below ((Below.refl _ _).alloc (Nat.le_refl _) _) (Nat.le_refl _)
    have HB4 := Lib.hid (below_only HB3.out hrb hO)
    clear hx' hO
    go_wp2_with fail
    go_ret2
    exact ⟨A', m', c', xs, _, _, [-1, 1, 0], rfl, HR4.out _ _ _, hm, hmc, lit3i rfl (-1) 1 0, HB4.out.alloc HB4.out.size _⟩
  · have s0d : (sw == 0) = false := by simpa using s0
    by_cases s1 : sw = 1
    · subst s1
      go_wp2_with fail
      refine (someSteps_any rb 2 w3 hr3 (by omega)).mono ?_
      rintro e w4 ⟨A', m', c', p', xs, rfl, hmc, hm, hx', _, _, hO, _⟩
      have HR4 := Lib.hid hx'
      have HO4 := Lib.hid hO
      clear hx' hO
      go_wp2_with fail
      go_ret2
      exact ⟨A', m', c', xs, _, _, _, rfl, HR4.out, hm, hmc, ints_only HP3.out HO4.out HFAR.out, below_only HB3.out hrb HO4.out⟩
    · have s1d : (sw == 1) = false := by simpa using s1
      go_wp2_with fail
      refine (treeSteps_any rb 2 w3 hr3 (by omega) _ 3 3 _ HP3.out HFAR.out).mono ?_
      rintro e w4 ⟨A', m', c', p', xs, rfl, hmc, hm, hx', _, _, hO, _⟩
      have HR4 := Lib.hid hx'
      have HO4 := Lib.hid hO
      clear hx' hO
      go_wp2_with fail
      go_ret2
      exact ⟨A', m', c', xs, _, _, _, rfl, HR4.out, hm, hmc, ints_only HP3.out HO4.out HFAR.out, below_only HB3.out hrb HO4.out⟩
end Go.Proofs.Ytcakjhappchlmaa
