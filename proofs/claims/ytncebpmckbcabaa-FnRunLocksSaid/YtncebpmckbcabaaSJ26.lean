/-
  Texts that the proof rests on, joined: part 26.
-/
import Derived.BigQuiet
import Derived.Test.YtncebpmckbcabaaSJ25
namespace Go.Proofs.Ytncebpmckbcabaa
open Go.RowKit Go.BigFrame
set_option linter.unusedVariables false

theorem validOp_parts {o : OpV} (h : validOp o = true) : (0 ≤ o.tx ∧ o.tx ≤ 3) ∧ (o.kind = 0 ∨ o.kind = 1 ∨ (2 ≤ o.kind ∧ o.kind ≤ 3)) ∧ (o.kind ≤ 1 → 0 ≤ o.item ∧ o.item ≤ 2) := by
  unfold validOp isAcc isEnd inR at h
  simp only [Bool.and_eq_true, Bool.or_eq_true, beq_iff_eq, decide_eq_true_eq] at h
  omega
theorem dropTo_okS {L : List OpV} {t : Int} (h : ∀ s ∈ L, okStep s = true) (ht : 0 ≤ t ∧ t ≤ 3) : ∀ j, j ≤ 3 → ∀ s ∈ dropTo L t j, okStep s = true
  | 0, _ => h
  | j + 1, hj => by
    have h1 := dropTo_okS h ht j (by omega)
    rw [dropTo_succ]
    split
    · intro s hs
      rcases List.mem_append.1 hs with hs | hs
      · exact h1 s hs
      · rw [List.mem_singleton.1 hs]; exact okStep_iff.2 (by simp only; omega)
    · exact h1
set_option maxRecDepth 100000 in
set_option maxHeartbeats 2000000 in
theorem free_run (B R tg : Nat) (m : Value) (V : DV) (D : Dsk) (T : Nat) (w : World) (h : RunAt w B R tg m V D) (hT : T ≤ 3) (hL : D.locks.length ≤ 8000) :
    Calls Try.prog 157 #[.pointer (some ⟨R, 0, none⟩), .int .i64 (T : Int)] w (RPost B R tg m V w ⟨D.done, D.wait, dropL D.locks T, D.dead⟩) := by
  have HST : Hid (RunAt w B R tg m V ⟨D.done, D.wait, dropTo D.locks (T : Int) 0, D.dead⟩) := h
  clear h
  have hT4 : (T : Int) < 4 := by omega
  have hT0 : (0 : Int) ≤ (T : Int) := by omega
  go_enter Try.func157, Try.ntmps157
  go_wp2_with fail
  go_loopw [5] (fun i wr => ∃ (k : Nat) (V' : DV), k ≤ 3 ∧ i = .int .i64 k ∧ RunAt wr B R tg m V' ⟨D.done, D.wait, dropTo D.locks (T : Int) k, D.dead⟩ ∧ RSt R tg w V wr V') (fun i _ => 3 - (intOf i).toNat)
  case atStart => exact ⟨0, V, by omega, rfl, HST.out, RSt.refl _ _ _ _⟩
  case round =>
    clear HST
    obtain ⟨k, V', hk, rfl, hA, hS⟩ := hrel
    by_cases hlt : k < 3
    · have hlen := (dropTo_len D.locks (T : Int) k).2
      have hsc := dropTo_succ D.locks (T : Int) k
      have hok := hA.ok
      obtain ⟨M, hM⟩ : ∃ M, dropTo D.locks (T : Int) k = M := ⟨_, rfl⟩
      rw [hM] at hA hlen hsc hok
      simp only at hok
      have cT := hA.cells.2.2.2.2.1
      have cL := hA.lock hT (show k ≤ 2 by omega)
      simp only at cL
      obtain ⟨h, hh⟩ : ∃ h, heldI M (T : Int) (k : Int) = h := ⟨_, rfl⟩
      have hn := held_none hok (T : Int) (k : Int)
      rw [hh] at hsc cL hn
      have hk3 : (k : Int) < 3 := by omega
      have hk0 : (0 : Int) ≤ (k : Int) := by omega
      have HA := Lib.hid hA
      have HS := Lib.hid hS
      clear hh hM hok hA hS
      by_cases hp : 0 ≤ h
      · rw [if_pos hp] at hsc
        rw [decide_eq_true hp] at hn
        have HSC := Lib.hid hsc
        have hput := put_run B R tg m V' _ ⟨(T : Int), 2, (k : Int)⟩ wr HA.out (okStep_iff.2 (by simp only; omega)) (by simp only; omega)
        unfold OpV.val at hput
        simp only at hput
        have HPUT := Lib.hid hput
        clear hsc hput
        go_wp2_with (go_at_call 160; go_loud (refine HPUT.out.mono ?_; rintro e w5 ⟨rfl, V5, hA5, hS5⟩; have H5 := Lib.hid (And.intro hA5 (HS.out.trans hS5)); clear hA5 hS5))
        go_roundw
        case rel => exact ⟨k + 1, V5, by omega, by go_num, by rw [HSC.out]; exact H5.out.1, H5.out.2⟩
        case measure => simp [intOf]; omega
      · rw [if_neg hp] at hsc
        rw [decide_eq_false hp] at hn
        have HSC := Lib.hid hsc
        clear hsc
        go_wp2_with fail
        go_roundw
        case rel => exact ⟨k + 1, V', by omega, by go_num, by rw [HSC.out]; exact HA.out, HS.out⟩
        case measure => simp [intOf]; omega
    · obtain rfl : k = 3 := by omega
      have HF := Lib.hid (And.intro hA hS)
      clear hA hS
      go_wp2_with fail
      go_end0
      exact ⟨rfl, _, HF.out.1, HF.out.2⟩

/-- Nobody has a lock beside another's own lock. -/
def Compat (L : List OpV) : Prop := ∀ t u x : Int, t ≠ u → 0 ≤ heldI L t x → heldI L u x ≠ 1
theorem way_read {L : List OpV} (hok : ∀ s ∈ L, okStep s = true) (hc : Compat L) {t x : Int} : wayO L ⟨t, 0, x⟩ = if heldI L t x = -1 then othL L t x 1 else [] := by
  unfold wayO
  rw [if_neg (by simp [isEnd])]
  unfold inWayI othL
  split
  · refine List.filter_congr fun u _ => ?_
    have := heldI_rng hok u x
    rcases this with e | e | e <;> rw [e] <;> simp
  · rename_i h
    rw [List.filter_eq_nil_iff]
    intro u _ hu
    simp only [Bool.and_eq_true, bne_iff_ne, decide_eq_true_eq, Bool.or_eq_true, beq_iff_eq] at hu
    have h1 := heldI_rng hok t x
    have := hc t u x (Ne.symm hu.1) (by omega)
    omega
theorem way_write {L : List OpV} (hok : ∀ s ∈ L, okStep s = true) (hc : Compat L) {t x : Int} : wayO L ⟨t, 1, x⟩ = if heldI L t x = 1 then [] else othL L t x 0 := by
  unfold wayO
  rw [if_neg (by simp [isEnd])]
  unfold inWayI othL
  split
  · rename_i h
    rw [List.filter_eq_nil_iff]
    intro u _ hu
    simp only [Bool.and_eq_true, bne_iff_ne, decide_eq_true_eq] at hu
    exact hc u t x hu.1 hu.2.1 h
  · refine List.filter_congr fun u _ => ?_
    simp
theorem way_ends {L : List OpV} {o : OpV} (h : 2 ≤ o.kind ∧ o.kind ≤ 3) : wayO L o = [] := by
  unfold wayO
  rw [if_pos (by unfold isEnd; simp; omega)]
set_option maxRecDepth 100000 in
set_option maxHeartbeats 4000000 in
theorem inWay_run (B R tg : Nat) (m : Value) (V : DV) (D : Dsk) (o : OpV) (w : World) (h : RunAt w B R tg m V D) (hv : validOp o = true) (hc : Compat D.locks) :
    Calls Try.prog 100 #[.pointer (some ⟨R, 0, none⟩), o.val] w (RetInts w (wayO D.locks o)) := by
  obtain ⟨htx, hkd, hit⟩ := validOp_parts hv
  obtain ⟨o0, ho0⟩ : ∃ o0, o = o0 := ⟨_, rfl⟩
  obtain ⟨tx, kd, it⟩ := o
  simp only at htx hkd hit
  obtain ⟨T, rfl⟩ := Int.eq_ofNat_of_zero_le htx.1
  have hT3 : T ≤ 3 := by omega
  have hT4 : (T : Int) < 4 := by omega
  have hT0 : (0 : Int) ≤ (T : Int) := by omega
  obtain ⟨W, hW⟩ : ∃ W : World, W = w.alloc (.cells #[.int .i64 (T : Int), .int .i64 kd, .int .i64 it] 62) := ⟨_, rfl⟩
  have hbW : Below w.heap.size w W := by rw [hW]; exact (Below.refl _ _).alloc (Nat.le_refl _) _
  have hbx : RowIs W w.heap.size 62 [.int .i64 (T : Int), .int .i64 kd, .int .i64 it] := by rw [hW]; exact heap_alloc_new w _
  have hsW : w.heap.size < W.heap.size := by rw [hW]; simp
  have hcT : W.cell? ⟨R, 4, none⟩ = some (.pointer (some ⟨tg, 0, none⟩)) := (h.lat hbW).cells.2.2.2.2.1
  have n0 : ∀ u : Later W, u.1.cell? ⟨w.heap.size, 0, none⟩ = some (.int .i64 (T : Int)) := fun u => RowIs.cell (RowIs.below hbx u.2 (Nat.le_refl _)) rfl
  have n1 : ∀ u : Later W, u.1.cell? ⟨w.heap.size, 1, none⟩ = some (.int .i64 kd) := fun u => RowIs.cell (RowIs.below hbx u.2 (Nat.le_refl _)) rfl
  have n2 : ∀ u : Later W, u.1.cell? ⟨w.heap.size, 2, none⟩ = some (.int .i64 it) := fun u => RowIs.cell (RowIs.below hbx u.2 (Nat.le_refl _)) rfl
  have hcl : (w.alloc (.cells #[.int .i64 (T : Int), .int .i64 kd, .int .i64 it] 62)).cell? ⟨R, 4, none⟩ = some (.pointer (some ⟨tg, 0, none⟩)) := by rw [← hW]; exact hcT
  have HW := Lib.hid hW
  have HC := Lib.hid hc
  have hok := Lib.hid h.ok
  unfold OpV.val
  simp only
  clear hW hc hbx hv
  rcases hkd with rfl | rfl | hkd
  · obtain ⟨hx0, hx2⟩ := hit (by omega)
    obtain ⟨X, rfl⟩ := Int.eq_ofNat_of_zero_le hx0
    have hX2 : X ≤ 2 := by omega
    have hX3 : (X : Int) < 3 := by omega
    have hwy := way_read hok.out HC.out (t := (T : Int)) (x := (X : Int))
    rw [ho0] at hwy
    obtain ⟨g, hg⟩ : ∃ g, heldI D.locks (T : Int) (X : Int) = g := ⟨_, rfl⟩
    rw [hg] at hwy
    have n3 : ∀ u : Later W, u.1.cell? ⟨tg, T * 3 + X, none⟩ = some (.int .i64 g) := fun u => by have := (h.lat (hbW.trans (u.2.mono hbW.size))).lock hT3 hX2; rw [hg] at this; exact this
    clear hg
    by_cases hgm : g = -1
    · subst hgm
      rw [if_pos rfl] at hwy
      have HWY := Lib.hid hwy
      have HO0 := Lib.hid ho0
      clear hwy ho0
      go_enter Try.func100, Try.ntmps100
      go_wp2_with fail
      rw [← HW.out]
      clear hcl
      refine region_later (by kernel_rfl) (by kernel_rfl) ?_
      repeat (go_big_quiet_step (fail))
      refine wpQuiet_nil ?_
      rintro _ ⟨u, rfl⟩
      have hBu : Below w.heap.size w u.1 := hbW.trans (u.2.mono hbW.size)
      have HO : Hid (Calls Try.prog 106 #[.pointer (some ⟨tg, 0, none⟩), .int .i64 (T : Int), .int .i64 (X : Int), .int .i64 1] u.1 (RetInts u.1 (othL D.locks (T : Int) (X : Int) 1))) := others_any tg D.locks (T : Int) X 1 u.1 ((h.lat hBu).tbl) hX2
      have p0 : u.1.cell? ⟨w.heap.size, 0, none⟩ = some (.int .i64 (T : Int)) := n0 u
      have p2 : u.1.cell? ⟨w.heap.size, 2, none⟩ = some (.int .i64 (X : Int)) := n2 u
      have HBU := Lib.hid hBu
      clear hBu
      go_wp2_with fail
      refine HO.out.mono ?_
      rintro e w5 ⟨OA, oc, rfl, hoc, hfr, hb5⟩
      have HF : Hid (RetInts w (wayO D.locks o0) (.returned (.slice OA (othL D.locks (T : Int) (X : Int) 1).length oc)) w5) := by
        show RetInts _ _ _ _
        rw [HWY.out]
        exact RetInts.later HBU.out ⟨OA, oc, rfl, hoc, hfr, hb5⟩
      clear hoc hfr hb5
      go_wp2_with fail
      go_ret
      have hF := HF.out
      rw [← HO0.out] at hF
      exact hF
    · rw [if_neg hgm] at hwy
      have hgb : (g == -1) = false := by simpa using hgm
      have HWY := Lib.hid hwy
      have HO0 := Lib.hid ho0
      clear hwy ho0
      go_enter Try.func100, Try.ntmps100
      go_wp2_with fail
      rw [← HW.out]
      clear hcl
      refine region_later (by kernel_rfl) (by kernel_rfl) ?_
      repeat (go_big_quiet_step (fail))
      refine wpQuiet_nil ?_
      rintro _ ⟨u, rfl⟩
      have n0' : ∀ q : Later u.1, q.1.cell? ⟨w.heap.size, 0, none⟩ = some (.int .i64 (T : Int)) := fun q => n0 ⟨q.1, u.2.trans (q.2.mono u.2.size)⟩
      have n1' : ∀ q : Later u.1, q.1.cell? ⟨w.heap.size, 1, none⟩ = some (.int .i64 0) := fun q => n1 ⟨q.1, u.2.trans (q.2.mono u.2.size)⟩
      have n2' : ∀ q : Later u.1, q.1.cell? ⟨w.heap.size, 2, none⟩ = some (.int .i64 (X : Int)) := fun q => n2 ⟨q.1, u.2.trans (q.2.mono u.2.size)⟩
      clear n0 n1 n2 n3
      go_wp2_with fail
      refine region_later (by kernel_rfl) (by kernel_rfl) ?_
      repeat (go_big_quiet_step (fail))
      refine wpQuiet_nil ?_
      rintro _ ⟨z, rfl⟩
      have HF : Hid (RetInts w (wayO D.locks o0) (.returned (.slice none 0 0)) z.1) := by
        show RetInts _ _ _ _
        rw [HWY.out]
        exact RetInts.nil (hbW.trans ((u.2.trans (z.2.mono u.2.size)).mono hbW.size))
      go_wp2_with fail
      go_ret
      have hF := HF.out
      rw [← HO0.out] at hF
      exact hF
  · obtain ⟨hx0, hx2⟩ := hit (by omega)
    obtain ⟨X, rfl⟩ := Int.eq_ofNat_of_zero_le hx0
    have hX2 : X ≤ 2 := by omega
    have hX3 : (X : Int) < 3 := by omega
    have hwy := way_write hok.out HC.out (t := (T : Int)) (x := (X : Int))
    rw [ho0] at hwy
    obtain ⟨g, hg⟩ : ∃ g, heldI D.locks (T : Int) (X : Int) = g := ⟨_, rfl⟩
    rw [hg] at hwy
    have n3 : ∀ u : Later W, u.1.cell? ⟨tg, T * 3 + X, none⟩ = some (.int .i64 g) := fun u => by have := (h.lat (hbW.trans (u.2.mono hbW.size))).lock hT3 hX2; rw [hg] at this; exact this
    clear hg
    by_cases hgm : g = 1
    · subst hgm
      rw [if_pos rfl] at hwy
      have HWY := Lib.hid hwy
      have HO0 := Lib.hid ho0
      clear hwy ho0
      go_enter Try.func100, Try.ntmps100
      go_wp2_with fail
      rw [← HW.out]
      clear hcl
      refine region_later (by kernel_rfl) (by kernel_rfl) ?_
      repeat (go_big_quiet_step (fail))
      refine wpQuiet_nil ?_
      rintro _ ⟨u, rfl⟩
      have n0' : ∀ q : Later u.1, q.1.cell? ⟨w.heap.size, 0, none⟩ = some (.int .i64 (T : Int)) := fun q => n0 ⟨q.1, u.2.trans (q.2.mono u.2.size)⟩
      have n1' : ∀ q : Later u.1, q.1.cell? ⟨w.heap.size, 1, none⟩ = some (.int .i64 1) := fun q => n1 ⟨q.1, u.2.trans (q.2.mono u.2.size)⟩
      have n2' : ∀ q : Later u.1, q.1.cell? ⟨w.heap.size, 2, none⟩ = some (.int .i64 (X : Int)) := fun q => n2 ⟨q.1, u.2.trans (q.2.mono u.2.size)⟩
      have n3' : ∀ q : Later u.1, q.1.cell? ⟨tg, T * 3 + X, none⟩ = some (.int .i64 1) := fun q => n3 ⟨q.1, u.2.trans (q.2.mono u.2.size)⟩
      clear n0 n1 n2 n3
      go_wp2_with fail
      refine region_later (by kernel_rfl) (by kernel_rfl) ?_
      repeat (go_big_quiet_step (fail))
      refine wpQuiet_nil ?_
      rintro _ ⟨z, rfl⟩
      have HF : Hid (RetInts w (wayO D.locks o0) (.returned (.slice none 0 0)) z.1) := by
        show RetInts _ _ _ _
        rw [HWY.out]
        exact RetInts.nil (hbW.trans ((u.2.trans (z.2.mono u.2.size)).mono hbW.size))
      go_wp2_with fail
      go_ret
      have hF := HF.out
      rw [← HO0.out] at hF
      exact hF
    · rw [if_neg hgm] at hwy
      have hgb : (g != 1) = true := by simpa using hgm
      have HWY := Lib.hid hwy
      have HO0 := Lib.hid ho0
      clear hwy ho0
      go_enter Try.func100, Try.ntmps100
      go_wp2_with fail
      rw [← HW.out]
      clear hcl
      refine region_later (by kernel_rfl) (by kernel_rfl) ?_
      repeat (go_big_quiet_step (fail))
      refine wpQuiet_nil ?_
      rintro _ ⟨u, rfl⟩
      have n0' : ∀ q : Later u.1, q.1.cell? ⟨w.heap.size, 0, none⟩ = some (.int .i64 (T : Int)) := fun q => n0 ⟨q.1, u.2.trans (q.2.mono u.2.size)⟩
      have n1' : ∀ q : Later u.1, q.1.cell? ⟨w.heap.size, 1, none⟩ = some (.int .i64 1) := fun q => n1 ⟨q.1, u.2.trans (q.2.mono u.2.size)⟩
      have n2' : ∀ q : Later u.1, q.1.cell? ⟨w.heap.size, 2, none⟩ = some (.int .i64 (X : Int)) := fun q => n2 ⟨q.1, u.2.trans (q.2.mono u.2.size)⟩
      have n3' : ∀ q : Later u.1, q.1.cell? ⟨tg, T * 3 + X, none⟩ = some (.int .i64 g) := fun q => n3 ⟨q.1, u.2.trans (q.2.mono u.2.size)⟩
      clear n0 n1 n2 n3
      go_wp2_with fail
      refine region_later (by kernel_rfl) (by kernel_rfl) ?_
      repeat (go_big_quiet_step (fail))
      refine wpQuiet_nil ?_
      rintro _ ⟨z, rfl⟩
      have hBz : Below w.heap.size w z.1 := hbW.trans ((u.2.trans (z.2.mono u.2.size)).mono hbW.size)
      have HO : Hid (Calls Try.prog 106 #[.pointer (some ⟨tg, 0, none⟩), .int .i64 (T : Int), .int .i64 (X : Int), .int .i64 0] z.1 (RetInts z.1 (othL D.locks (T : Int) (X : Int) 0))) := others_any tg D.locks (T : Int) X 0 z.1 ((h.lat hBz).tbl) hX2
      have p0 : z.1.cell? ⟨w.heap.size, 0, none⟩ = some (.int .i64 (T : Int)) := n0' z
      have p2 : z.1.cell? ⟨w.heap.size, 2, none⟩ = some (.int .i64 (X : Int)) := n2' z
      have HBU := Lib.hid hBz
      clear hBz
      go_wp2_with fail
      refine HO.out.mono ?_
      rintro e w5 ⟨OA, oc, rfl, hoc, hfr, hb5⟩
      have HF : Hid (RetInts w (wayO D.locks o0) (.returned (.slice OA (othL D.locks (T : Int) (X : Int) 0).length oc)) w5) := by
        show RetInts _ _ _ _
        rw [HWY.out]
        exact RetInts.later HBU.out ⟨OA, oc, rfl, hoc, hfr, hb5⟩
      clear hoc hfr hb5
      go_wp2_with fail
      go_ret
      have hF := HF.out
      rw [← HO0.out] at hF
      exact hF
  · have hx0 : (kd == 0) = false := by simp; omega
    have hx1 : (kd == 1) = false := by simp; omega
    have hwy := way_ends (L := D.locks) (o := ⟨(T : Int), kd, it⟩) hkd
    rw [ho0] at hwy
    have HWY := Lib.hid hwy
    have HO0 := Lib.hid ho0
    clear hwy ho0
    go_enter Try.func100, Try.ntmps100
    go_wp2_with fail
    rw [← HW.out]
    clear hcl
    refine region_later (by kernel_rfl) (by kernel_rfl) ?_
    repeat (go_big_quiet_step (fail))
    refine wpQuiet_nil ?_
    rintro _ ⟨u, rfl⟩
    have n0' : ∀ q : Later u.1, q.1.cell? ⟨w.heap.size, 0, none⟩ = some (.int .i64 (T : Int)) := fun q => n0 ⟨q.1, u.2.trans (q.2.mono u.2.size)⟩
    have n1' : ∀ q : Later u.1, q.1.cell? ⟨w.heap.size, 1, none⟩ = some (.int .i64 kd) := fun q => n1 ⟨q.1, u.2.trans (q.2.mono u.2.size)⟩
    have n2' : ∀ q : Later u.1, q.1.cell? ⟨w.heap.size, 2, none⟩ = some (.int .i64 it) := fun q => n2 ⟨q.1, u.2.trans (q.2.mono u.2.size)⟩
    clear n0 n1 n2
    go_wp2_with fail
    refine region_later (by kernel_rfl) (by kernel_rfl) ?_
    repeat (go_big_quiet_step (fail))
    refine wpQuiet_nil ?_
    rintro _ ⟨z, rfl⟩
    have HF : Hid (RetInts w (wayO D.locks o0) (.returned (.slice none 0 0)) z.1) := by
      show RetInts _ _ _ _
      rw [HWY.out]
      exact RetInts.nil (hbW.trans ((u.2.trans (z.2.mono u.2.size)).mono hbW.size))
    go_wp2_with fail
    go_ret
    have hF := HF.out
    rw [← HO0.out] at hF
    exact hF
end Go.Proofs.Ytncebpmckbcabaa
