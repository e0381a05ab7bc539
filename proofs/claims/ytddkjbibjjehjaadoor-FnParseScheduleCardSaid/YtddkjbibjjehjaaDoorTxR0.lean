/-
  The reference reads an operation.
-/
import Derived.Test.YtddkjbibjjehjaaDoorTxP0
import Derived.Test.YtddkjbibjjehjaaDoorReg
import Derived.Test.YtddkjbibjjehjaaDoorApp
import Derived.Test.YtddkjbibjjehjaaDoorRows0
import Derived.IntWalk
namespace Go.Proofs.YtddkjbibjjehjaaDoor
open Go.RowKit Go.BigFrame
set_option linter.unusedVariables false

def opRow (a b c : Int) : List Value := [.int .i64 a, .int .i64 b, .int .i64 c]
theorem three_rows {w W : World} {a b c a' b' c' a2 b2 c2 : Int} (hW : W = ((w.alloc (.cells #[.int .i64 a, .int .i64 b, .int .i64 c] 38)).alloc (.cells #[.int .i64 a', .int .i64 b', .int .i64 c'] 38)).alloc (.cells #[.int .i64 a2, .int .i64 b2, .int .i64 c2] 38)) :
    RowIs W w.heap.size 38 (opRow a b c) ∧ RowIs W (w.heap.size + 1) 38 (opRow a' b' c') ∧ RowIs W (w.heap.size + 1 + 1) 38 (opRow a2 b2 c2) ∧ Below w.heap.size w W := by
  have at_ : ∀ (v : World) (H : Nat) (x y z : Int), v.heap.size = H → RowIs (v.alloc (.cells #[.int .i64 x, .int .i64 y, .int .i64 z] 38)) H 38 (opRow x y z) := fun v H x y z h => by subst h; exact heap_alloc_new v _
  subst hW
  refine ⟨RowIs.alloc (RowIs.alloc (at_ w _ a b c rfl) _) _, RowIs.alloc (at_ _ _ a' b' c' (by simp)) _, at_ _ _ a2 b2 c2 (by simp), by (repeat (first | exact Below.refl _ _ | assumption | refine B_alloc ?_ (Nat.le_refl _) _ | refine Below.drew ?_ | refine B_drewN ?_ _ | refine B_after (by assumption) ?_ | (refine B_set ?_ ?_; rotate_left; (first | exact Nat.le_refl _ | (simp; done) | (simp at *; omega)))))⟩
theorem row_cells {w : World} {g : Nat} {a b c : Int} (h : RowIs w g 38 (opRow a b c)) : w.cell? ⟨g, 0, none⟩ = some (.int .i64 a) ∧ w.cell? ⟨g, 1, none⟩ = some (.int .i64 b) ∧ w.cell? ⟨g, 2, none⟩ = some (.int .i64 c) ∧ w.frozen? ⟨g, 0, none⟩ = false ∧ w.frozen? ⟨g, 1, none⟩ = false ∧ w.frozen? ⟨g, 2, none⟩ = false :=
  ⟨RowIs.cell h rfl, RowIs.cell h rfl, RowIs.cell h rfl, RowIs.frozen h 0, RowIs.frozen h 1, RowIs.frozen h 2⟩
def BadRet (w : World) (e : Ending) (w' : World) : Prop := e = .returned badOp.val ∧ Below w.heap.size w w'
set_option maxRecDepth 100000 in
set_option maxHeartbeats 2000000 in
theorem sreadOp_short (l : List UInt8) (hl : l.length < 2) (w : World) : Calls Tryd.prog 34 #[.string ⟨⟨l⟩⟩] w (BadRet w) := by
  have hl2 : ((l.length : Nat) : Int) < 2 := by omega
  go_enter Tryd.func34, Tryd.ntmps34
  go_wp2_with fail
  refine bodyPost_ret (v := .agg #[.int .i64 (-1), .int .i64 0, .int .i64 0]) (by simp [results, Tryd.results34, go_sem]) rfl ?_
  exact ⟨rfl, by (repeat (first | exact Below.refl _ _ | assumption | refine B_alloc ?_ (Nat.le_refl _) _ | refine Below.drew ?_ | refine B_drewN ?_ _ | refine B_after (by assumption) ?_ | (refine B_set ?_ ?_; rotate_left; (first | exact Nat.le_refl _ | (simp; done) | (simp at *; omega)))))⟩
set_option maxRecDepth 100000 in
set_option maxHeartbeats 2000000 in
theorem sreadOp_digit (k t : UInt8) (r : List UInt8) (ht : (t.toNat : Int) < 48 ∨ 57 < (t.toNat : Int)) (w : World) : Calls Tryd.prog 34 #[.string ⟨⟨k :: t :: r⟩⟩] w (BadRet w) := by
  have e1 : ∀ h, (⟨⟨k :: t :: r⟩⟩ : ByteArray)[1]'h = t := fun _ => rfl
  rcases ht with ht | ht
  · go_enter Tryd.func34, Tryd.ntmps34
    go_wp2_with fail
    refine bodyPost_ret (v := .agg #[.int .i64 (-1), .int .i64 0, .int .i64 0]) (by simp [results, Tryd.results34, go_sem]) rfl ?_
    exact ⟨rfl, by (repeat (first | exact Below.refl _ _ | assumption | refine B_alloc ?_ (Nat.le_refl _) _ | refine Below.drew ?_ | refine B_drewN ?_ _ | refine B_after (by assumption) ?_ | (refine B_set ?_ ?_; rotate_left; (first | exact Nat.le_refl _ | (simp; done) | (simp at *; omega)))))⟩
  · have ht2 : ¬ (t.toNat : Int) < 48 := by omega
    go_enter Tryd.func34, Tryd.ntmps34
    go_wp2_with fail
    refine bodyPost_ret (v := .agg #[.int .i64 (-1), .int .i64 0, .int .i64 0]) (by simp [results, Tryd.results34, go_sem]) rfl ?_
    exact ⟨rfl, by (repeat (first | exact Below.refl _ _ | assumption | refine B_alloc ?_ (Nat.le_refl _) _ | refine Below.drew ?_ | refine B_drewN ?_ _ | refine B_after (by assumption) ?_ | (refine B_set ?_ ?_; rotate_left; (first | exact Nat.le_refl _ | (simp; done) | (simp at *; omega)))))⟩
set_option maxRecDepth 100000 in
set_option maxHeartbeats 2000000 in
theorem sreadOp_kind (k t : UInt8) (r : List UInt8) (ht : ¬ (t.toNat : Int) < 48) (ht2 : ¬ 57 < (t.toNat : Int)) (h1 : ((k.toNat : Int) == 114) = false) (h2 : ((k.toNat : Int) == 119) = false) (h3 : ((k.toNat : Int) == 99) = false) (h4 : ((k.toNat : Int) == 97) = false) (w : World) : Calls Tryd.prog 34 #[.string ⟨⟨k :: t :: r⟩⟩] w (BadRet w) := by
  have e1 : ∀ h, (⟨⟨k :: t :: r⟩⟩ : ByteArray)[1]'h = t := fun _ => rfl
  have e0 : ∀ h, (⟨⟨k :: t :: r⟩⟩ : ByteArray)[0]'h = k := fun _ => rfl
  go_enter Tryd.func34, Tryd.ntmps34
  go_wp2_with fail
  refine bodyPost_ret (v := .agg #[.int .i64 (-1), .int .i64 0, .int .i64 0]) (by simp [results, Tryd.results34, go_sem]) rfl ?_
  exact ⟨rfl, by (repeat (first | exact Below.refl _ _ | assumption | refine B_alloc ?_ (Nat.le_refl _) _ | refine Below.drew ?_ | refine B_drewN ?_ _ | refine B_after (by assumption) ?_ | (refine B_set ?_ ?_; rotate_left; (first | exact Nat.le_refl _ | (simp; done) | (simp at *; omega)))))⟩
set_option maxRecDepth 100000 in
set_option maxHeartbeats 2000000 in
theorem sreadOp_end2 (t : UInt8) (r : List UInt8) (ht : ¬ (t.toNat : Int) < 48) (ht2 : ¬ 57 < (t.toNat : Int)) (w : World) : Calls Tryd.prog 34 #[.string ⟨⟨99 :: t :: r⟩⟩] w fun e w' => e = .returned (if r = [] then (⟨(t.toNat : Int) - 48, 2, 0⟩ : OpV) else badOp).val ∧ Below w.heap.size w w' := by
  have e1 : ∀ h, (⟨⟨99 :: t :: r⟩⟩ : ByteArray)[1]'h = t := fun _ => rfl
  have e0 : ∀ h, (⟨⟨99 :: t :: r⟩⟩ : ByteArray)[0]'h = 99 := fun _ => rfl
  have hE : ∀ W, Calls Tryd.prog 44 #[.agg #[.int .i64 ((t.toNat : Int) - 48), .int .i64 2, .int .i64 0]] W fun e w' => e = .returned (.bool true) ∧ Below W.heap.size W w' := fun W => sends_any ⟨(t.toNat : Int) - 48, 2, 0⟩ W
  have HE := Lib.hid hE
  have ht3 : (t.toNat : Int) ≤ 57 := by omega
  clear hE
  obtain ⟨u, hu⟩ : ∃ u : Int, (t.toNat : Int) = u := ⟨_, rfl⟩
  rw [hu] at HE
  obtain ⟨W, hW⟩ : ∃ W : World, W = ((w.alloc (.cells #[.int .i64 0, .int .i64 0, .int .i64 0] 38)).alloc (.cells #[.int .i64 (-1), .int .i64 0, .int .i64 0] 38)).alloc (.cells #[.int .i64 (u - 48), .int .i64 2, .int .i64 0] 38) := ⟨_, rfl⟩
  obtain ⟨q0, q1, q2, hbW⟩ := three_rows hW
  have HW := Lib.hid hW
  have HQ := Lib.hid (And.intro q0 (And.intro q1 (And.intro q2 hbW)))
  clear hW q0 q1 q2 hbW
  go_enter Tryd.func34, Tryd.ntmps34
  go_wp2_with fail
  rw [← HW.out]
  refine (HE.out W).mono ?_
  rintro e w2 ⟨rfl, hb2⟩
  obtain ⟨q0, q1, q2, hbW⟩ := HQ.out
  have hbF := hbW.trans (hb2.mono hbW.size)
  obtain ⟨c0, c1, c2, z0, z1, z2⟩ := row_cells (q0.below hb2 (Nat.le_refl _))
  obtain ⟨d0, d1, d2, _, _, _⟩ := row_cells (q1.below hb2 (Nat.le_refl _))
  obtain ⟨f0, f1, f2, y0, y1, y2⟩ := row_cells (q2.below hb2 (Nat.le_refl _))
  clear q0 q1 q2 hbW HQ HW HE hb2
  cases r with
  | nil =>
    go_wp2_with fail
    refine bodyPost_ret (v := .agg #[.int .i64 (u - 48), .int .i64 2, .int .i64 0]) (by simp [results, Tryd.results34, go_sem, c0, c1, c2]) rfl ?_
    exact ⟨by first | rfl | (simp [badOp, OpV.val, hu]; done) | (rw [hv, hu]; simp [badOp, OpV.val, *]; done) | (rw [hv, if_neg (by omega)]; simp [OpV.val, hu]; done), by (repeat (first | exact Below.refl _ _ | assumption | refine B_alloc ?_ (Nat.le_refl _) _ | refine Below.drew ?_ | refine B_drewN ?_ _ | refine B_after (by assumption) ?_ | (refine B_set ?_ ?_; rotate_left; (first | exact Nat.le_refl _ | (simp; done) | (simp at *; omega)))))⟩
  | cons a r =>
    have hn2 : (((r.length : Int) + 1 + 1 + 1) == 2) = false := by rw [beq_eq_false_iff_ne]; omega
    go_wp2_with fail
    refine bodyPost_ret (v := .agg #[.int .i64 (-1), .int .i64 0, .int .i64 0]) (by simp [results, Tryd.results34, go_sem, c0, c1, c2]) rfl ?_
    exact ⟨by first | rfl | (simp [badOp, OpV.val, hu]; done) | (rw [hv, hu]; simp [badOp, OpV.val, *]; done) | (rw [hv, if_neg (by omega)]; simp [OpV.val, hu]; done), by (repeat (first | exact Below.refl _ _ | assumption | refine B_alloc ?_ (Nat.le_refl _) _ | refine Below.drew ?_ | refine B_drewN ?_ _ | refine B_after (by assumption) ?_ | (refine B_set ?_ ?_; rotate_left; (first | exact Nat.le_refl _ | (simp; done) | (simp at *; omega)))))⟩
set_option maxRecDepth 100000 in
set_option maxHeartbeats 2000000 in
theorem sreadOp_end3 (t : UInt8) (r : List UInt8) (ht : ¬ (t.toNat : Int) < 48) (ht2 : ¬ 57 < (t.toNat : Int)) (w : World) : Calls Tryd.prog 34 #[.string ⟨⟨97 :: t :: r⟩⟩] w fun e w' => e = .returned (if r = [] then (⟨(t.toNat : Int) - 48, 3, 0⟩ : OpV) else badOp).val ∧ Below w.heap.size w w' := by
  have e1 : ∀ h, (⟨⟨97 :: t :: r⟩⟩ : ByteArray)[1]'h = t := fun _ => rfl
  have e0 : ∀ h, (⟨⟨97 :: t :: r⟩⟩ : ByteArray)[0]'h = 97 := fun _ => rfl
  have hE : ∀ W, Calls Tryd.prog 44 #[.agg #[.int .i64 ((t.toNat : Int) - 48), .int .i64 3, .int .i64 0]] W fun e w' => e = .returned (.bool true) ∧ Below W.heap.size W w' := fun W => sends_any ⟨(t.toNat : Int) - 48, 3, 0⟩ W
  have HE := Lib.hid hE
  have ht3 : (t.toNat : Int) ≤ 57 := by omega
  clear hE
  obtain ⟨u, hu⟩ : ∃ u : Int, (t.toNat : Int) = u := ⟨_, rfl⟩
  rw [hu] at HE
  obtain ⟨W, hW⟩ : ∃ W : World, W = ((w.alloc (.cells #[.int .i64 0, .int .i64 0, .int .i64 0] 38)).alloc (.cells #[.int .i64 (-1), .int .i64 0, .int .i64 0] 38)).alloc (.cells #[.int .i64 (u - 48), .int .i64 3, .int .i64 0] 38) := ⟨_, rfl⟩
  obtain ⟨q0, q1, q2, hbW⟩ := three_rows hW
  have HW := Lib.hid hW
  have HQ := Lib.hid (And.intro q0 (And.intro q1 (And.intro q2 hbW)))
  clear hW q0 q1 q2 hbW
  go_enter Tryd.func34, Tryd.ntmps34
  go_wp2_with fail
  rw [← HW.out]
  refine (HE.out W).mono ?_
  rintro e w2 ⟨rfl, hb2⟩
  obtain ⟨q0, q1, q2, hbW⟩ := HQ.out
  have hbF := hbW.trans (hb2.mono hbW.size)
  obtain ⟨c0, c1, c2, z0, z1, z2⟩ := row_cells (q0.below hb2 (Nat.le_refl _))
  obtain ⟨d0, d1, d2, _, _, _⟩ := row_cells (q1.below hb2 (Nat.le_refl _))
  obtain ⟨f0, f1, f2, y0, y1, y2⟩ := row_cells (q2.below hb2 (Nat.le_refl _))
  clear q0 q1 q2 hbW HQ HW HE hb2
  cases r with
  | nil =>
    go_wp2_with fail
    refine bodyPost_ret (v := .agg #[.int .i64 (u - 48), .int .i64 3, .int .i64 0]) (by simp [results, Tryd.results34, go_sem, c0, c1, c2]) rfl ?_
    exact ⟨by first | rfl | (simp [badOp, OpV.val, hu]; done) | (rw [hv, hu]; simp [badOp, OpV.val, *]; done) | (rw [hv, if_neg (by omega)]; simp [OpV.val, hu]; done), by (repeat (first | exact Below.refl _ _ | assumption | refine B_alloc ?_ (Nat.le_refl _) _ | refine Below.drew ?_ | refine B_drewN ?_ _ | refine B_after (by assumption) ?_ | (refine B_set ?_ ?_; rotate_left; (first | exact Nat.le_refl _ | (simp; done) | (simp at *; omega)))))⟩
  | cons a r =>
    have hn2 : (((r.length : Int) + 1 + 1 + 1) == 2) = false := by rw [beq_eq_false_iff_ne]; omega
    go_wp2_with fail
    refine bodyPost_ret (v := .agg #[.int .i64 (-1), .int .i64 0, .int .i64 0]) (by simp [results, Tryd.results34, go_sem, c0, c1, c2]) rfl ?_
    exact ⟨by first | rfl | (simp [badOp, OpV.val, hu]; done) | (rw [hv, hu]; simp [badOp, OpV.val, *]; done) | (rw [hv, if_neg (by omega)]; simp [OpV.val, hu]; done), by (repeat (first | exact Below.refl _ _ | assumption | refine B_alloc ?_ (Nat.le_refl _) _ | refine Below.drew ?_ | refine B_drewN ?_ _ | refine B_after (by assumption) ?_ | (refine B_set ?_ ?_; rotate_left; (first | exact Nat.le_refl _ | (simp; done) | (simp at *; omega)))))⟩
/-- What an access reads as behind its first two bytes. -/
def accEnd (tx kd : Int) (r : List UInt8) : OpV := match r with | [x] => if (x.toNat : Int) < 120 ∨ 122 < (x.toNat : Int) then badOp else ⟨tx, kd, (x.toNat : Int) - 120⟩ | _ => badOp
theorem accEnd_nil (tx kd : Int) : accEnd tx kd [] = badOp := rfl
theorem accEnd_two (tx kd : Int) (a b : UInt8) (r : List UInt8) : accEnd tx kd (a :: b :: r) = badOp := rfl
theorem accEnd_lo {tx kd : Int} {x : UInt8} (h : (x.toNat : Int) < 120) : accEnd tx kd [x] = badOp := by unfold accEnd; simp only; rw [if_pos (.inl h)]
theorem accEnd_hi {tx kd : Int} {x : UInt8} (h : 122 < (x.toNat : Int)) : accEnd tx kd [x] = badOp := by unfold accEnd; simp only; rw [if_pos (.inr h)]
theorem accEnd_in {tx kd : Int} {x : UInt8} (h : 120 ≤ (x.toNat : Int)) (h2 : (x.toNat : Int) ≤ 122) : accEnd tx kd [x] = ⟨tx, kd, (x.toNat : Int) - 120⟩ := by unfold accEnd; simp only; rw [if_neg (by omega)]
set_option maxRecDepth 100000 in
set_option maxHeartbeats 2000000 in
theorem sreadOp_acc0 (t : UInt8) (r : List UInt8) (ht : ¬ (t.toNat : Int) < 48) (ht2 : ¬ 57 < (t.toNat : Int)) (w : World) : Calls Tryd.prog 34 #[.string ⟨⟨114 :: t :: r⟩⟩] w fun e w' => e = .returned (accEnd ((t.toNat : Int) - 48) 0 r).val ∧ Below w.heap.size w w' := by
  have e1 : ∀ h, (⟨⟨114 :: t :: r⟩⟩ : ByteArray)[1]'h = t := fun _ => rfl
  have e0 : ∀ h, (⟨⟨114 :: t :: r⟩⟩ : ByteArray)[0]'h = 114 := fun _ => rfl
  have hE : ∀ W, Calls Tryd.prog 44 #[.agg #[.int .i64 ((t.toNat : Int) - 48), .int .i64 0, .int .i64 0]] W fun e w' => e = .returned (.bool false) ∧ Below W.heap.size W w' := fun W => sends_any ⟨(t.toNat : Int) - 48, 0, 0⟩ W
  have HE := Lib.hid hE
  have ht3 : (t.toNat : Int) ≤ 57 := by omega
  clear hE
  obtain ⟨u, hu⟩ : ∃ u : Int, (t.toNat : Int) = u := ⟨_, rfl⟩
  rw [hu] at HE
  obtain ⟨W, hW⟩ : ∃ W : World, W = ((w.alloc (.cells #[.int .i64 0, .int .i64 0, .int .i64 0] 38)).alloc (.cells #[.int .i64 (-1), .int .i64 0, .int .i64 0] 38)).alloc (.cells #[.int .i64 (u - 48), .int .i64 0, .int .i64 0] 38) := ⟨_, rfl⟩
  obtain ⟨q0, q1, q2, hbW⟩ := three_rows hW
  have HW := Lib.hid hW
  have HQ := Lib.hid (And.intro q0 (And.intro q1 (And.intro q2 hbW)))
  clear hW q0 q1 q2 hbW
  go_enter Tryd.func34, Tryd.ntmps34
  go_wp2_with fail
  rw [← HW.out]
  refine (HE.out W).mono ?_
  rintro e w2 ⟨rfl, hb2⟩
  obtain ⟨q0, q1, q2, hbW⟩ := HQ.out
  have hbF := hbW.trans (hb2.mono hbW.size)
  obtain ⟨c0, c1, c2, z0, z1, z2⟩ := row_cells (q0.below hb2 (Nat.le_refl _))
  obtain ⟨d0, d1, d2, _, _, _⟩ := row_cells (q1.below hb2 (Nat.le_refl _))
  obtain ⟨f0, f1, f2, y0, y1, y2⟩ := row_cells (q2.below hb2 (Nat.le_refl _))
  clear q0 q1 q2 hbW HQ HW HE hb2
  rcases r with _ | ⟨x, _ | ⟨b, r⟩⟩
  case nil =>
    go_wp2_with fail
    refine bodyPost_ret (v := .agg #[.int .i64 (-1), .int .i64 0, .int .i64 0]) (by simp [results, Tryd.results34, go_sem, c0, c1, c2]) rfl ?_
    exact ⟨by first | rfl | (rw [accEnd_nil]; rfl) | (rw [accEnd_two]; rfl) | (rw [accEnd_lo (by omega)]; rfl) | (rw [accEnd_hi (by omega)]; rfl) | (rw [accEnd_in (by omega) (by omega), hu, hv]; rfl), by (repeat (first | exact Below.refl _ _ | assumption | refine B_alloc ?_ (Nat.le_refl _) _ | refine Below.drew ?_ | refine B_drewN ?_ _ | refine B_after (by assumption) ?_ | (refine B_set ?_ ?_; rotate_left; (first | exact Nat.le_refl _ | (simp; done) | (simp at *; omega)))))⟩
  case cons.cons =>
    have hn2 : (((r.length : Int) + 1 + 1 + 1 + 1) == 3) = false := by rw [beq_eq_false_iff_ne]; omega
    go_wp2_with fail
    refine bodyPost_ret (v := .agg #[.int .i64 (-1), .int .i64 0, .int .i64 0]) (by simp [results, Tryd.results34, go_sem, c0, c1, c2]) rfl ?_
    exact ⟨by first | rfl | (rw [accEnd_nil]; rfl) | (rw [accEnd_two]; rfl) | (rw [accEnd_lo (by omega)]; rfl) | (rw [accEnd_hi (by omega)]; rfl) | (rw [accEnd_in (by omega) (by omega), hu, hv]; rfl), by (repeat (first | exact Below.refl _ _ | assumption | refine B_alloc ?_ (Nat.le_refl _) _ | refine Below.drew ?_ | refine B_drewN ?_ _ | refine B_after (by assumption) ?_ | (refine B_set ?_ ?_; rotate_left; (first | exact Nat.le_refl _ | (simp; done) | (simp at *; omega)))))⟩
  case cons.nil =>
    have e2 : ∀ h, (⟨⟨114 :: t :: [x]⟩⟩ : ByteArray)[2]'h = x := fun _ => rfl
    obtain ⟨v, hv⟩ : ∃ v : Int, (x.toNat : Int) = v := ⟨_, rfl⟩
    have hv3 : v ≤ 255 := by have := x.toNat_lt; omega
    by_cases hx : v < 120
    · go_wp2_with fail
      refine bodyPost_ret (v := .agg #[.int .i64 (-1), .int .i64 0, .int .i64 0]) (by simp [results, Tryd.results34, go_sem, c0, c1, c2]) rfl ?_
      exact ⟨by first | rfl | (rw [accEnd_nil]; rfl) | (rw [accEnd_two]; rfl) | (rw [accEnd_lo (by omega)]; rfl) | (rw [accEnd_hi (by omega)]; rfl) | (rw [accEnd_in (by omega) (by omega), hu, hv]; rfl), by (repeat (first | exact Below.refl _ _ | assumption | refine B_alloc ?_ (Nat.le_refl _) _ | refine Below.drew ?_ | refine B_drewN ?_ _ | refine B_after (by assumption) ?_ | (refine B_set ?_ ?_; rotate_left; (first | exact Nat.le_refl _ | (simp; done) | (simp at *; omega)))))⟩
    · by_cases hx2 : 122 < v
      · go_wp2_with fail
        refine bodyPost_ret (v := .agg #[.int .i64 (-1), .int .i64 0, .int .i64 0]) (by simp [results, Tryd.results34, go_sem, c0, c1, c2]) rfl ?_
        exact ⟨by first | rfl | (rw [accEnd_nil]; rfl) | (rw [accEnd_two]; rfl) | (rw [accEnd_lo (by omega)]; rfl) | (rw [accEnd_hi (by omega)]; rfl) | (rw [accEnd_in (by omega) (by omega), hu, hv]; rfl), by (repeat (first | exact Below.refl _ _ | assumption | refine B_alloc ?_ (Nat.le_refl _) _ | refine Below.drew ?_ | refine B_drewN ?_ _ | refine B_after (by assumption) ?_ | (refine B_set ?_ ?_; rotate_left; (first | exact Nat.le_refl _ | (simp; done) | (simp at *; omega)))))⟩
      · go_wp2_with fail
        refine bodyPost_ret (v := .agg #[.int .i64 (u - 48), .int .i64 0, .int .i64 (v - 120)]) (by simp [results, Tryd.results34, go_sem, c0, c1, c2]) rfl ?_
        exact ⟨by first | rfl | (rw [accEnd_nil]; rfl) | (rw [accEnd_two]; rfl) | (rw [accEnd_lo (by omega)]; rfl) | (rw [accEnd_hi (by omega)]; rfl) | (rw [accEnd_in (by omega) (by omega), hu, hv]; rfl), by (repeat (first | exact Below.refl _ _ | assumption | refine B_alloc ?_ (Nat.le_refl _) _ | refine Below.drew ?_ | refine B_drewN ?_ _ | refine B_after (by assumption) ?_ | (refine B_set ?_ ?_; rotate_left; (first | exact Nat.le_refl _ | (simp; done) | (simp at *; omega)))))⟩
set_option maxRecDepth 100000 in
set_option maxHeartbeats 2000000 in
theorem sreadOp_acc1 (t : UInt8) (r : List UInt8) (ht : ¬ (t.toNat : Int) < 48) (ht2 : ¬ 57 < (t.toNat : Int)) (w : World) : Calls Tryd.prog 34 #[.string ⟨⟨119 :: t :: r⟩⟩] w fun e w' => e = .returned (accEnd ((t.toNat : Int) - 48) 1 r).val ∧ Below w.heap.size w w' := by
  have e1 : ∀ h, (⟨⟨119 :: t :: r⟩⟩ : ByteArray)[1]'h = t := fun _ => rfl
  have e0 : ∀ h, (⟨⟨119 :: t :: r⟩⟩ : ByteArray)[0]'h = 119 := fun _ => rfl
  have hE : ∀ W, Calls Tryd.prog 44 #[.agg #[.int .i64 ((t.toNat : Int) - 48), .int .i64 1, .int .i64 0]] W fun e w' => e = .returned (.bool false) ∧ Below W.heap.size W w' := fun W => sends_any ⟨(t.toNat : Int) - 48, 1, 0⟩ W
  have HE := Lib.hid hE
  have ht3 : (t.toNat : Int) ≤ 57 := by omega
  clear hE
  obtain ⟨u, hu⟩ : ∃ u : Int, (t.toNat : Int) = u := ⟨_, rfl⟩
  rw [hu] at HE
  obtain ⟨W, hW⟩ : ∃ W : World, W = ((w.alloc (.cells #[.int .i64 0, .int .i64 0, .int .i64 0] 38)).alloc (.cells #[.int .i64 (-1), .int .i64 0, .int .i64 0] 38)).alloc (.cells #[.int .i64 (u - 48), .int .i64 1, .int .i64 0] 38) := ⟨_, rfl⟩
  obtain ⟨q0, q1, q2, hbW⟩ := three_rows hW
  have HW := Lib.hid hW
  have HQ := Lib.hid (And.intro q0 (And.intro q1 (And.intro q2 hbW)))
  clear hW q0 q1 q2 hbW
  go_enter Tryd.func34, Tryd.ntmps34
  go_wp2_with fail
  rw [← HW.out]
  refine (HE.out W).mono ?_
  rintro e w2 ⟨rfl, hb2⟩
  obtain ⟨q0, q1, q2, hbW⟩ := HQ.out
  have hbF := hbW.trans (hb2.mono hbW.size)
  obtain ⟨c0, c1, c2, z0, z1, z2⟩ := row_cells (q0.below hb2 (Nat.le_refl _))
  obtain ⟨d0, d1, d2, _, _, _⟩ := row_cells (q1.below hb2 (Nat.le_refl _))
  obtain ⟨f0, f1, f2, y0, y1, y2⟩ := row_cells (q2.below hb2 (Nat.le_refl _))
  clear q0 q1 q2 hbW HQ HW HE hb2
  rcases r with _ | ⟨x, _ | ⟨b, r⟩⟩
  case nil =>
    go_wp2_with fail
    refine bodyPost_ret (v := .agg #[.int .i64 (-1), .int .i64 0, .int .i64 0]) (by simp [results, Tryd.results34, go_sem, c0, c1, c2]) rfl ?_
    exact ⟨by first | rfl | (rw [accEnd_nil]; rfl) | (rw [accEnd_two]; rfl) | (rw [accEnd_lo (by omega)]; rfl) | (rw [accEnd_hi (by omega)]; rfl) | (rw [accEnd_in (by omega) (by omega), hu, hv]; rfl), by (repeat (first | exact Below.refl _ _ | assumption | refine B_alloc ?_ (Nat.le_refl _) _ | refine Below.drew ?_ | refine B_drewN ?_ _ | refine B_after (by assumption) ?_ | (refine B_set ?_ ?_; rotate_left; (first | exact Nat.le_refl _ | (simp; done) | (simp at *; omega)))))⟩
  case cons.cons =>
    have hn2 : (((r.length : Int) + 1 + 1 + 1 + 1) == 3) = false := by rw [beq_eq_false_iff_ne]; omega
    go_wp2_with fail
    refine bodyPost_ret (v := .agg #[.int .i64 (-1), .int .i64 0, .int .i64 0]) (by simp [results, Tryd.results34, go_sem, c0, c1, c2]) rfl ?_
    exact ⟨by first | rfl | (rw [accEnd_nil]; rfl) | (rw [accEnd_two]; rfl) | (rw [accEnd_lo (by omega)]; rfl) | (rw [accEnd_hi (by omega)]; rfl) | (rw [accEnd_in (by omega) (by omega), hu, hv]; rfl), by (repeat (first | exact Below.refl _ _ | assumption | refine B_alloc ?_ (Nat.le_refl _) _ | refine Below.drew ?_ | refine B_drewN ?_ _ | refine B_after (by assumption) ?_ | (refine B_set ?_ ?_; rotate_left; (first | exact Nat.le_refl _ | (simp; done) | (simp at *; omega)))))⟩
  case cons.nil =>
    have e2 : ∀ h, (⟨⟨119 :: t :: [x]⟩⟩ : ByteArray)[2]'h = x := fun _ => rfl
    obtain ⟨v, hv⟩ : ∃ v : Int, (x.toNat : Int) = v := ⟨_, rfl⟩
    have hv3 : v ≤ 255 := by have := x.toNat_lt; omega
    by_cases hx : v < 120
    · go_wp2_with fail
      refine bodyPost_ret (v := .agg #[.int .i64 (-1), .int .i64 0, .int .i64 0]) (by simp [results, Tryd.results34, go_sem, c0, c1, c2]) rfl ?_
      exact ⟨by first | rfl | (rw [accEnd_nil]; rfl) | (rw [accEnd_two]; rfl) | (rw [accEnd_lo (by omega)]; rfl) | (rw [accEnd_hi (by omega)]; rfl) | (rw [accEnd_in (by omega) (by omega), hu, hv]; rfl), by (repeat (first | exact Below.refl _ _ | assumption | refine B_alloc ?_ (Nat.le_refl _) _ | refine Below.drew ?_ | refine B_drewN ?_ _ | refine B_after (by assumption) ?_ | (refine B_set ?_ ?_; rotate_left; (first | exact Nat.le_refl _ | (simp; done) | (simp at *; omega)))))⟩
    · by_cases hx2 : 122 < v
      · go_wp2_with fail
        refine bodyPost_ret (v := .agg #[.int .i64 (-1), .int .i64 0, .int .i64 0]) (by simp [results, Tryd.results34, go_sem, c0, c1, c2]) rfl ?_
        exact ⟨by first | rfl | (rw [accEnd_nil]; rfl) | (rw [accEnd_two]; rfl) | (rw [accEnd_lo (by omega)]; rfl) | (rw [accEnd_hi (by omega)]; rfl) | (rw [accEnd_in (by omega) (by omega), hu, hv]; rfl), by (repeat (first | exact Below.refl _ _ | assumption | refine B_alloc ?_ (Nat.le_refl _) _ | refine Below.drew ?_ | refine B_drewN ?_ _ | refine B_after (by assumption) ?_ | (refine B_set ?_ ?_; rotate_left; (first | exact Nat.le_refl _ | (simp; done) | (simp at *; omega)))))⟩
      · go_wp2_with fail
        refine bodyPost_ret (v := .agg #[.int .i64 (u - 48), .int .i64 1, .int .i64 (v - 120)]) (by simp [results, Tryd.results34, go_sem, c0, c1, c2]) rfl ?_
        exact ⟨by first | rfl | (rw [accEnd_nil]; rfl) | (rw [accEnd_two]; rfl) | (rw [accEnd_lo (by omega)]; rfl) | (rw [accEnd_hi (by omega)]; rfl) | (rw [accEnd_in (by omega) (by omega), hu, hv]; rfl), by (repeat (first | exact Below.refl _ _ | assumption | refine B_alloc ?_ (Nat.le_refl _) _ | refine Below.drew ?_ | refine B_drewN ?_ _ | refine B_after (by assumption) ?_ | (refine B_set ?_ ?_; rotate_left; (first | exact Nat.le_refl _ | (simp; done) | (simp at *; omega)))))⟩
end Go.Proofs.YtddkjbibjjehjaaDoor
