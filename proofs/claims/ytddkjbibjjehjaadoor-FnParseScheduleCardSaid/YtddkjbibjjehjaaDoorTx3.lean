/-
  The texts of operations: the program's and the reference's.
-/
import Derived.Test.YtddkjbibjjehjaaDoorStr0
import Derived.Test.YtddkjbibjjehjaaDoorValid
import Derived.Test.YtddkjbibjjehjaaDoorReg
import Derived.Test.YtddkjbibjjehjaaDoorSpV0
import Derived.Test.YtddkjbibjjehjaaDoorSpec1
namespace Go.Proofs.YtddkjbibjjehjaaDoor
open Go.RowKit Go.BigFrame
set_option linter.unusedVariables false

theorem kcs_cut {k : Nat} (h : k < 4) : (ByteArray.extract ⟨#[114, 119, 99, 97]⟩ k (k + 1)) = ⟨⟨[kcs.getD k 0]⟩⟩ := by
  rcases (by omega : k = 0 ∨ k = 1 ∨ k = 2 ∨ k = 3) with rfl | rfl | rfl | rfl <;> decide
theorem tcs_cut {k : Nat} (h : k < 4) : (ByteArray.extract ⟨#[48, 49, 50, 51]⟩ k (k + 1)) = ⟨⟨[tcs.getD k 0]⟩⟩ := by
  rcases (by omega : k = 0 ∨ k = 1 ∨ k = 2 ∨ k = 3) with rfl | rfl | rfl | rfl <;> decide
theorem tcs_cut2 {k : Nat} (h : k < 4) : (ByteArray.extract ⟨#[48, 49, 50, 51, 52, 53, 54, 55, 56, 57]⟩ k (k + 1)) = ⟨⟨[tcs.getD k 0]⟩⟩ := by
  rcases (by omega : k = 0 ∨ k = 1 ∨ k = 2 ∨ k = 3) with rfl | rfl | rfl | rfl <;> decide
theorem xcs_cut {k : Nat} (h : k < 3) : (ByteArray.extract ⟨#[120, 121, 122]⟩ k (k + 1)) = ⟨⟨[xcs.getD k 0]⟩⟩ := by
  rcases (by omega : k = 0 ∨ k = 1 ∨ k = 2) with rfl | rfl | rfl <;> decide
theorem box_cells {w W : World} {t k x : Int} (hW : W = w.alloc (.cells #[.int .i64 t, .int .i64 k, .int .i64 x] 38)) : Below w.heap.size w W ∧ W.cell? ⟨w.heap.size, 0, none⟩ = some (.int .i64 t) ∧ W.cell? ⟨w.heap.size, 1, none⟩ = some (.int .i64 k) ∧ W.cell? ⟨w.heap.size, 2, none⟩ = some (.int .i64 x) := by
  subst hW
  refine ⟨(Below.refl _ _).alloc (Nat.le_refl _) _, ?_, ?_, ?_⟩ <;> (rw [cell_of_row _ _ _ _ _ (0, 0) (heap_alloc_new w _)]; rfl)
theorem str_add (a b : List UInt8) : (⟨⟨a⟩⟩ : ByteArray) ++ ⟨⟨b⟩⟩ = ⟨⟨a ++ b⟩⟩ := by
  apply ByteArray.ext
  simp
set_option maxRecDepth 100000 in
set_option maxHeartbeats 2000000 in
theorem text_nat (t k x : Nat) (ht : t < 4) (hk : k < 4) (hx : x < 3) (w : World) :
    Calls Tryd.prog 24 #[.agg #[.int .i64 t, .int .i64 k, .int .i64 x]] w fun e w' => e = .returned (strV (opL ⟨t, k, x⟩)) ∧ Below w.heap.size w w' := by
  obtain ⟨W, hW⟩ : ∃ W : World, W = w.alloc (.cells #[.int .i64 (t : Int), .int .i64 (k : Int), .int .i64 (x : Int)] 38) := ⟨_, rfl⟩
  obtain ⟨hbW, c0, c1, c2⟩ := box_cells hW
  have hlW : w.heap.size < W.heap.size := by rw [hW]; simp
  have HW := Lib.hid hW
  have HB := Lib.hid hbW
  have M0 := Later.cell c0
  have M1 := Later.cell c1
  have M2 := Later.cell c2
  clear hW hbW
  obtain ⟨a, ha⟩ : ∃ a, kcs.getD k 0 = a := ⟨_, rfl⟩
  obtain ⟨b, hb⟩ : ∃ b, tcs.getD t 0 = b := ⟨_, rfl⟩
  obtain ⟨c, hc⟩ : ∃ c, xcs.getD x 0 = c := ⟨_, rfl⟩
  have hka := kcs_cut hk
  have htb := tcs_cut ht
  have hxc := xcs_cut hx
  rw [ha] at hka
  rw [hb] at htb
  rw [hc] at hxc
  have HA := Lib.hid (access_any ⟨(t : Int), (k : Int), (x : Int)⟩)
  unfold OpV.val at HA
  have HO : Hid (opL ⟨t, k, x⟩ = [a, b] ++ (if isAcc ⟨t, k, x⟩ then [c] else [])) := by
    show _ = _
    unfold opL
    simp only [Int.toNat_natCast, ha, hb, hc]
  clear ha hb hc
  have l1 : (k : Int) + 1 ≤ 4 := by omega
  have l2 : (t : Int) + 1 ≤ 4 := by omega
  have l2' : (t : Int) + 1 ≤ 10 := by omega
  have l3 : (x : Int) + 1 ≤ 3 := by omega
  have n1 : ((k : Int) + 1).toNat = k + 1 := by omega
  have n2 : ((t : Int) + 1).toNat = t + 1 := by omega
  have n3 : ((x : Int) + 1).toNat = x + 1 := by omega
  simp only at HA
  generalize opL ⟨t, k, x⟩ = R at *
  generalize isAcc ⟨t, k, x⟩ = acc at *
  go_enter Tryd.func24, Tryd.ntmps24
  go_wp2_with fail
  rw [← HW.out]
  refine region_later (by kernel_rfl) (by kernel_rfl) ?_
  repeat (go_big_quiet_step (fail))
  refine wpQuiet_nil ?_
  rintro _ ⟨u, rfl⟩
  have d0 := M0 u
  have d1 := M1 u
  have d2 := M2 u
  have hlu : w.heap.size < u.1.heap.size := Nat.lt_of_lt_of_le hlW u.2.size
  clear c0 c1 c2 M0 M1 M2
  cases acc
  · go_wp2_with (go_at_call 39; refine (HA.out u.1).mono ?_; rintro e w2 ⟨rfl, hb2⟩; have e2 := (hb2.cell (p := ⟨w.heap.size, 2, none⟩) hlu).trans d2; have hbF := (HB.out.trans (u.2.mono HB.out.size)).trans (hb2.mono (Nat.le_trans HB.out.size u.2.size)))
    go_ret
    refine ⟨?_, by first | exact hbF | exact hbF.drew⟩
    rw [HO.out]
    show Ending.returned (.string ((⟨⟨[a]⟩⟩ : ByteArray) ++ ⟨⟨[b]⟩⟩)) = _
    rw [str_add]
    rfl
  · go_wp2_with (go_at_call 39; refine (HA.out u.1).mono ?_; rintro e w2 ⟨rfl, hb2⟩; have e2 := (hb2.cell (p := ⟨w.heap.size, 2, none⟩) hlu).trans d2; have hbF := (HB.out.trans (u.2.mono HB.out.size)).trans (hb2.mono (Nat.le_trans HB.out.size u.2.size)))
    go_ret
    refine ⟨?_, by first | exact hbF | exact hbF.drew⟩
    rw [HO.out]
    show Ending.returned (.string ((⟨⟨[a]⟩⟩ : ByteArray) ++ ⟨⟨[b]⟩⟩ ++ ⟨⟨[c]⟩⟩)) = _
    rw [str_add, str_add]
    rfl

set_option maxRecDepth 100000 in
set_option maxHeartbeats 2000000 in
theorem stext_nat (t k x : Nat) (ht : t < 4) (hk : k < 4) (hx : x < 3) (w : World) :
    Calls Tryd.prog 45 #[.agg #[.int .i64 t, .int .i64 k, .int .i64 x]] w fun e w' => e = .returned (strV (opL ⟨t, k, x⟩)) ∧ Below w.heap.size w w' := by
  obtain ⟨W, hW⟩ : ∃ W : World, W = w.alloc (.cells #[.int .i64 (t : Int), .int .i64 (k : Int), .int .i64 (x : Int)] 38) := ⟨_, rfl⟩
  obtain ⟨hbW, c0, c1, c2⟩ := box_cells hW
  have hlW : w.heap.size < W.heap.size := by rw [hW]; simp
  have HW := Lib.hid hW
  have HB := Lib.hid hbW
  have M0 := Later.cell c0
  have M1 := Later.cell c1
  have M2 := Later.cell c2
  clear hW hbW
  obtain ⟨a, ha⟩ : ∃ a, kcs.getD k 0 = a := ⟨_, rfl⟩
  obtain ⟨b, hb⟩ : ∃ b, tcs.getD t 0 = b := ⟨_, rfl⟩
  obtain ⟨c, hc⟩ : ∃ c, xcs.getD x 0 = c := ⟨_, rfl⟩
  have hka := kcs_cut hk
  have htb := tcs_cut2 ht
  have hxc := xcs_cut hx
  rw [ha] at hka
  rw [hb] at htb
  rw [hc] at hxc
  have HA := Lib.hid (sends_any ⟨(t : Int), (k : Int), (x : Int)⟩)
  unfold OpV.val at HA
  have HO : Hid (opL ⟨t, k, x⟩ = [a, b] ++ (if isEnd ⟨t, k, x⟩ then [] else [c])) := by
    show _ = _
    unfold opL
    simp only [Int.toNat_natCast, ha, hb, hc]
    have hae : isAcc ⟨(t : Int), (k : Int), (x : Int)⟩ = !isEnd ⟨(t : Int), (k : Int), (x : Int)⟩ := by
      unfold isAcc isEnd
      simp only
      rcases (by omega : k = 0 ∨ k = 1 ∨ k = 2 ∨ k = 3) with rfl | rfl | rfl | rfl <;> rfl
    rw [hae]
    cases isEnd ⟨(t : Int), (k : Int), (x : Int)⟩ <;> rfl
  clear ha hb hc
  have l1 : (k : Int) + 1 ≤ 4 := by omega
  have l2 : (t : Int) + 1 ≤ 4 := by omega
  have l2' : (t : Int) + 1 ≤ 10 := by omega
  have l3 : (x : Int) + 1 ≤ 3 := by omega
  have n1 : ((k : Int) + 1).toNat = k + 1 := by omega
  have n2 : ((t : Int) + 1).toNat = t + 1 := by omega
  have n3 : ((x : Int) + 1).toNat = x + 1 := by omega
  simp only at HA
  generalize opL ⟨t, k, x⟩ = R at *
  generalize isEnd ⟨t, k, x⟩ = acc at *
  go_enter Tryd.func45, Tryd.ntmps45
  go_wp2_with fail
  rw [← HW.out]
  refine region_later (by kernel_rfl) (by kernel_rfl) ?_
  repeat (go_big_quiet_step (fail))
  refine wpQuiet_nil ?_
  rintro _ ⟨u, rfl⟩
  have d0 := M0 u
  have d1 := M1 u
  have d2 := M2 u
  have hlu : w.heap.size < u.1.heap.size := Nat.lt_of_lt_of_le hlW u.2.size
  clear c0 c1 c2 M0 M1 M2
  cases acc
  · go_wp2_with (go_at_call 44; refine (HA.out u.1).mono ?_; rintro e w2 ⟨rfl, hb2⟩; have e2 := (hb2.cell (p := ⟨w.heap.size, 2, none⟩) hlu).trans d2; have hbF := (HB.out.trans (u.2.mono HB.out.size)).trans (hb2.mono (Nat.le_trans HB.out.size u.2.size)))
    go_ret
    refine ⟨?_, by first | exact hbF | exact hbF.drew⟩
    rw [HO.out]
    show Ending.returned (.string ((⟨⟨[a]⟩⟩ : ByteArray) ++ ⟨⟨[b]⟩⟩ ++ ⟨⟨[c]⟩⟩)) = _
    rw [str_add, str_add]
    rfl
  · go_wp2_with (go_at_call 44; refine (HA.out u.1).mono ?_; rintro e w2 ⟨rfl, hb2⟩; have e2 := (hb2.cell (p := ⟨w.heap.size, 2, none⟩) hlu).trans d2; have hbF := (HB.out.trans (u.2.mono HB.out.size)).trans (hb2.mono (Nat.le_trans HB.out.size u.2.size)))
    go_ret
    refine ⟨?_, by first | exact hbF | exact hbF.drew⟩
    rw [HO.out]
    show Ending.returned (.string ((⟨⟨[a]⟩⟩ : ByteArray) ++ ⟨⟨[b]⟩⟩)) = _
    rw [str_add]
    rfl

theorem text_any {o : OpV} (h : validOp o = true) (w : World) : Calls Tryd.prog 24 #[o.val] w fun e w' => e = .returned (strV (opL o)) ∧ Below w.heap.size w w' := by
  rcases op_cases h with ⟨k, t, x, hk, ht, hx, rfl⟩ | ⟨k, t, hk, ht, rfl⟩
  · exact text_nat t k x ht (by omega) hx w
  · exact text_nat t k 0 ht (by omega) (by omega) w
theorem stext_any {o : OpV} (h : validOp o = true) (w : World) : Calls Tryd.prog 45 #[o.val] w fun e w' => e = .returned (strV (opL o)) ∧ Below w.heap.size w w' := by
  rcases op_cases h with ⟨k, t, x, hk, ht, hx, rfl⟩ | ⟨k, t, hk, ht, rfl⟩
  · exact stext_nat t k x ht (by omega) hx w
  · exact stext_nat t k 0 ht (by omega) (by omega) w
end Go.Proofs.YtddkjbibjjehjaaDoor
