/-
  slices.Reverse of integers: the walk.
-/
import Derived.Test.YtcakjhappchlmaaQWLkR1
import Derived.IntWalk
namespace Go.Proofs.Ytcakjhappchlmaa
open Go.RowKit Go.BigFrame
set_option linter.unusedVariables false

theorem intCells_set (xs : List Int) (k : Nat) (v : Int) : intCells (xs.set k v) = (intCells xs).set k (.int .i64 v) := by simp [intCells, List.map_set]
theorem row_int {w : World} {g i : Nat} {T : TypeId} {xs : List Int} {more : List Value} {x : Int} (h : RowIs w g T (intCells xs ++ more)) (hx : xs[i]? = some x) : w.cell? ⟨g, i, none⟩ = some (.int .i64 x) := by
  refine RowIs.cell h ?_
  have hl := (List.getElem?_eq_some_iff.1 hx).1
  rw [List.getElem?_append_left (by simpa [intCells] using hl)]
  simp [intCells, hx]
set_option maxRecDepth 100000 in
set_option maxHeartbeats 1000000 in
theorem Reverse_any (g n c : Nat) (xs : List Int) (more : List Value) (w : World) (h : RowIs w g 3 (intCells xs ++ more)) (hl : xs.length = n) (hn : n ≤ 1099511627776) (hnc : n ≤ c) :
    Calls Try.prog 88 #[.slice (some ⟨g, 0, none⟩) n c] w fun e w' => e = .returned (.tuple #[]) ∧ RowIs w' g 3 (intCells xs.reverse ++ more) ∧ w.grownBy w' (some g) := by
  have H := Lib.hid h
  have HL := Lib.hid hl
  clear h hl
  go_enter Try.func88, Try.ntmps88
  go_wp2_with fail
  go_loopw [2, 3] (fun i j wr => ∃ k : Nat, 2 * k ≤ n ∧ i = .int .i64 k ∧ j = .int .i64 ((n : Int) - 1 - k) ∧ RowIs wr g 3 (intCells (swapTo xs k) ++ more) ∧ w.grownBy wr (some g)) (fun i _ _ => n - (intOf i).toNat)
  case atStart => exact ⟨0, by omega, rfl, by simp, H.out, World.grownBy.refl _ _⟩
  case round =>
    clear H
    obtain ⟨k, hk, rfl, rfl, hr, hg⟩ := hrel
    by_cases hlt : 2 * k + 1 < n
    · obtain ⟨m, hm⟩ : ∃ m : Nat, m = n - 1 - k := ⟨_, rfl⟩
      have hjm : (n : Int) - 1 - (k : Int) = (m : Int) := by omega
      rw [hjm]
      have hx : xs[k]? = some (xs.getD k 0) := by rw [List.getD_eq_getElem?_getD, List.getElem?_eq_getElem (by rw [HL.out]; omega)]; rfl
      have hy : xs[m]? = some (xs.getD m 0) := by rw [List.getD_eq_getElem?_getD, List.getElem?_eq_getElem (by rw [HL.out]; omega)]; rfl
      have hsx : (swapTo xs k)[k]? = some (xs.getD k 0) := by rw [swapTo_get xs k (by rw [HL.out]; omega) k (by rw [HL.out]; omega), if_neg (by rw [HL.out]; omega)]; exact hx
      have hsy : (swapTo xs k)[m]? = some (xs.getD m 0) := by rw [swapTo_get xs k (by rw [HL.out]; omega) m (by rw [HL.out]; omega), if_neg (by rw [HL.out]; omega)]; exact hy
      have hsc : swapTo xs (k + 1) = ((swapTo xs k).set k (xs.getD m 0)).set m (xs.getD k 0) := by
        show ((swapTo xs k).set k (xs.getD (xs.length - 1 - k) 0)).set (xs.length - 1 - k) (xs.getD k 0) = _
        rw [HL.out, ← hm]
      generalize xs.getD k 0 = x at *
      generalize xs.getD m 0 = y at *
      obtain ⟨wd, hwd⟩ : ∃ wd : World, wd = wr.drew := ⟨_, rfl⟩
      have hrd : RowIs wd g 3 (intCells (swapTo xs k) ++ more) := by rw [hwd]; exact hr
      have hgd : w.grownBy wd (some g) := by rw [hwd]; exact ⟨hg.os, hg.tape, hg.output, hg.size, hg.block⟩
      have c0 := row_int hrd hsx
      have c1 := row_int hrd hsy
      have f0 := RowIs.frozen hrd k
      have f1 := RowIs.frozen hrd m
      have HFIN : Hid (∃ k' : Nat, 2 * k' ≤ n ∧ Value.int .i64 ((k : Int) + 1) = .int .i64 k' ∧ Value.int .i64 ((m : Int) - 1) = .int .i64 ((n : Int) - 1 - k') ∧ RowIs ((wd.setCell ⟨g, k, none⟩ (.int .i64 y)).setCell ⟨g, m, none⟩ (.int .i64 x)) g 3 (intCells (swapTo xs k') ++ more) ∧ w.grownBy ((wd.setCell ⟨g, k, none⟩ (.int .i64 y)).setCell ⟨g, m, none⟩ (.int .i64 x)) (some g)) := by
        refine ⟨k + 1, by omega, by go_num, by congr 1; omega, ?_, World.grownBy.trans (World.grownBy.trans hgd grown_set) grown_set⟩
        rw [hsc]
        refine row_setInt (row_setInt hrd ?_) ?_
        · rw [swapTo_len, HL.out]; omega
        · rw [List.length_set, swapTo_len, HL.out]; omega
      have HWD := Lib.hid hwd
      have hkm : k ≠ m := by omega
      have hmn : m < n := by omega
      have hmi : (m : Int) < (n : Int) := by omega
      have hki : (k : Int) < (n : Int) := by omega
      have hlt2 : (k : Int) < (m : Int) := by omega
      have hlt3 : decide ((k : Int) < (m : Int)) = true := by simpa using hlt2
      clear hr hg hsx hsy hsc hx hy hrd hgd hwd hjm hm
      go_wp2_with fail
      refine wp_region_any (by kernel_rfl) ?_
      change wpAny _ _ _ _ _ _ _ (World.drew _)
      rw [← HWD.out]
      refine wpAny_take (i := 0) (v := ?_) rfl (by kernel_rfl) (by kernel_rfl) (by kernel_rfl) (fun _ _ _ h => h) (Or.inl ⟨by kernel_rfl, ?_⟩) ?_
      rotate_left
      · intro w; go_simp; try with_reducible rfl
      refine wpAny_take (i := 1) (v := ?_) rfl (by kernel_rfl) (by kernel_rfl) (by kernel_rfl) (fun _ _ _ h => h) (Or.inl ⟨by kernel_rfl, ?_⟩) ?_
      rotate_left
      · intro w; go_simp; try with_reducible rfl
      refine wpAny_take (i := 2) (v := ?_) rfl (by kernel_rfl) (by kernel_rfl) (by kernel_rfl) (fun _ _ _ h => h) (Or.inl ⟨by kernel_rfl, ?_⟩) ?_
      rotate_left
      · intro w; go_simp; try with_reducible rfl
      refine wpAny_take (i := 3) (v := ?_) rfl (by kernel_rfl) (by kernel_rfl) (by kernel_rfl) (fun _ _ _ h => h) (Or.inl ⟨by kernel_rfl, ?_⟩) ?_
      rotate_left
      · intro w; go_simp; try with_reducible rfl
      refine wpAny_take (i := 4) (v := ?_) rfl (by kernel_rfl) (by kernel_rfl) (by kernel_rfl) (fun _ _ _ h => h) (Or.inl ⟨by kernel_rfl, ?_⟩) ?_
      rotate_left
      · intro w; go_simp; try with_reducible rfl
      refine wpAny_take (i := 5) (v := ?_) rfl (by kernel_rfl) (by kernel_rfl) (by kernel_rfl) (fun _ _ _ h => h) (Or.inl ⟨by kernel_rfl, ?_⟩) ?_
      rotate_left
      · intro w; go_simp; try with_reducible rfl
      refine wpAny_take (i := 6) (v := ?_) rfl (by kernel_rfl) (by kernel_rfl) (by kernel_rfl) (fun _ _ _ h => h) (Or.inl ⟨by kernel_rfl, ?_⟩) ?_
      rotate_left
      · intro w; go_simp; try with_reducible rfl
      refine wpAny_take (i := 8) (v := ?_) rfl (by kernel_rfl) (by kernel_rfl) (by kernel_rfl) (fun _ _ _ h => h) (Or.inl ⟨by kernel_rfl, ?_⟩) ?_
      rotate_left
      · intro w; go_simp; try with_reducible rfl
      refine wpAny_take (i := 9) (v := ?_) rfl (by kernel_rfl) (by kernel_rfl) (by kernel_rfl) (fun _ _ _ h => h) (Or.inl ⟨by kernel_rfl, ?_⟩) ?_
      rotate_left
      · intro w; go_simp; try with_reducible rfl
      refine wpAny_take (i := 10) (v := ?_) rfl (by kernel_rfl) (by kernel_rfl) (by kernel_rfl) (fun _ _ _ h => h) (Or.inl ⟨by kernel_rfl, ?_⟩) ?_
      rotate_left
      · intro w; go_simp; try with_reducible rfl
      refine wpAny_ready (rs := [7, 11]) (by kernel_rfl) (by simp) ?_
      refine AllReady.cons rfl (fun K hK => ?_) (AllReady.cons rfl (fun K hK => ?_) (AllReady.nil))
      · go_simp
        try (refine hK _ _ ?_; clear hK K)
        refine wpAny_ready (rs := [11]) (by kernel_rfl) (by simp) ?_
        refine AllReady.cons rfl (fun K hK => ?_) AllReady.nil
        go_simp
        try (refine hK _ _ ?_; clear hK K)
        refine wpAny_ready (rs := [12]) (by kernel_rfl) (by simp) ?_
        refine AllReady.cons rfl (fun K hK => ?_) AllReady.nil
        go_simp
        try (refine hK _ _ ?_; clear hK K)
        refine wpAny_ready (rs := [13]) (by kernel_rfl) (by simp) ?_
        refine AllReady.cons rfl (fun K hK => ?_) AllReady.nil
        go_simp
        try (refine hK _ _ ?_; clear hK K)
        refine wpAny_ready (rs := [14]) (by kernel_rfl) (by simp) ?_
        refine AllReady.cons rfl (fun K hK => ?_) AllReady.nil
        go_simp
        try (refine hK _ _ ?_; clear hK K)
        refine wpAny_ready (rs := [15]) (by kernel_rfl) (by simp) ?_
        refine AllReady.cons rfl (fun K hK => ?_) AllReady.nil
        go_simp
        try (refine hK _ _ ?_; clear hK K)
        refine wpAny_done (by kernel_rfl) ?_ _
        try go_simp
        go_wp2_with fail
        go_roundw
        case rel => exact HFIN.out
        case measure => simp [intOf]; omega
      · go_simp
        try (refine hK _ _ ?_; clear hK K)
        refine wpAny_ready (rs := [7]) (by kernel_rfl) (by simp) ?_
        refine AllReady.cons rfl (fun K hK => ?_) AllReady.nil
        go_simp
        try (refine hK _ _ ?_; clear hK K)
        refine wpAny_ready (rs := [12]) (by kernel_rfl) (by simp) ?_
        refine AllReady.cons rfl (fun K hK => ?_) AllReady.nil
        go_simp
        try (refine hK _ _ ?_; clear hK K)
        refine wpAny_ready (rs := [13]) (by kernel_rfl) (by simp) ?_
        refine AllReady.cons rfl (fun K hK => ?_) AllReady.nil
        go_simp
        try (refine hK _ _ ?_; clear hK K)
        refine wpAny_ready (rs := [14]) (by kernel_rfl) (by simp) ?_
        refine AllReady.cons rfl (fun K hK => ?_) AllReady.nil
        go_simp
        try (refine hK _ _ ?_; clear hK K)
        refine wpAny_ready (rs := [15]) (by kernel_rfl) (by simp) ?_
        refine AllReady.cons rfl (fun K hK => ?_) AllReady.nil
        go_simp
        try (refine hK _ _ ?_; clear hK K)
        refine wpAny_done (by kernel_rfl) ?_ _
        try go_simp
        go_wp2_with fail
        go_roundw
        case rel => exact HFIN.out
        case measure => simp [intOf]; omega
    · have hr2 : RowIs wr g 3 (intCells xs.reverse ++ more) := by
        rw [← swapTo_end xs (k := k) (by rw [HL.out]; omega) (by rw [HL.out]; omega)]; exact hr
      have HR := Lib.hid hr2
      obtain ⟨z, hz⟩ : ∃ z : Int, z = (n : Int) - 1 - (k : Int) := ⟨_, rfl⟩
      have hzk : ¬ (k : Int) < z := by omega
      rw [← hz]
      have hno : decide ((k : Int) < z) = false := by simpa using hzk
      clear hr hr2 hz
      go_wp2_with fail
      go_end0
      exact ⟨rfl, HR.out, hg⟩
end Go.Proofs.Ytcakjhappchlmaa
