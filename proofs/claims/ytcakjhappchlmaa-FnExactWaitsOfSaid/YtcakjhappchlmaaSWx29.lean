/-
  Texts that the proof rests on, joined: part 29.
-/
import Derived.Deep.CutRange
import Derived.Deep.LoopGhost
import Derived.Test.YtcakjhappchlmaaSWx1
import Derived.Test.YtcakjhappchlmaaSWx5
import Derived.Test.YtcakjhappchlmaaSWx12
import Derived.Test.YtcakjhappchlmaaSWx20
import Derived.Test.YtcakjhappchlmaaSWx27
import Derived.Test.YtcakjhappchlmaaSWx28
namespace Go.Proofs.Ytcakjhappchlmaa
open Go.RowKit Go.BigFrame
set_option linter.unusedVariables false

def tblL (L : List OpV) : List Int := [heldI L 0 0, heldI L 0 1, heldI L 0 2, heldI L 1 0, heldI L 1 1, heldI L 1 2, heldI L 2 0, heldI L 2 1, heldI L 2 2, heldI L 3 0, heldI L 3 1, heldI L 3 2]
/-- Block g is the table behind steps. -/
def TblAt (w : World) (g : Nat) (L : List OpV) : Prop := RowIs w g 121 (intCells (tblL L))
theorem tbl_get (L : List OpV) {t x : Nat} (ht : t ≤ 3) (hx : x ≤ 2) : (intCells (tblL L))[t * 3 + x]? = some (.int .i64 (heldI L t x)) := by
  rcases (by omega : t = 0 ∨ t = 1 ∨ t = 2 ∨ t = 3) with rfl | rfl | rfl | rfl <;> rcases (by omega : x = 0 ∨ x = 1 ∨ x = 2) with rfl | rfl | rfl <;> rfl
theorem TblAt.cell {w : World} {g : Nat} {L : List OpV} (h : TblAt w g L) {t x : Nat} (ht : t ≤ 3) (hx : x ≤ 2) : w.cell? ⟨g, t * 3 + x, none⟩ = some (.int .i64 (heldI L t x)) := RowIs.cell h (tbl_get L ht hx)
theorem TblAt.below {w w' : World} {g : Nat} {L : List OpV} (h : TblAt w g L) (hb : Below w.heap.size w w') : TblAt w' g L := RowIs.below h hb (Nat.le_refl _)
theorem TblAt.lt {w : World} {g : Nat} {L : List OpV} (h : TblAt w g L) : g < w.heap.size := RowIs.lt h
/-- A step that sets one lock. -/
theorem tbl_set {L : List OpV} {s : OpV} {t x : Nat} (ht : t ≤ 3) (hx : x ≤ 2) (h1 : s.tx = t) (h2 : s.item = x) {v : Int} (hv : hStep t x (heldI L t x) s = v) : (intCells (tblL L)).set (t * 3 + x) (.int .i64 v) = intCells (tblL (L ++ [s])) := by
  have key : ∀ t' x' : Int, heldI (L ++ [s]) t' x' = if t' = (t : Int) ∧ x' = (x : Int) then v else heldI L t' x' := fun t' x' => by
    rw [heldI_snoc]
    by_cases h : t' = (t : Int) ∧ x' = (x : Int)
    · rw [if_pos h, h.1, h.2]; exact hv
    · rw [if_neg h]
      unfold hStep
      rw [if_neg (by rw [h1, h2]; rintro ⟨e1, e2⟩; exact h ⟨e1.symm, e2.symm⟩)]
  rcases (by omega : t = 0 ∨ t = 1 ∨ t = 2 ∨ t = 3) with rfl | rfl | rfl | rfl <;> rcases (by omega : x = 0 ∨ x = 1 ∨ x = 2) with rfl | rfl | rfl
  all_goals simp [tblL, intCells, key]
theorem tbl_none {L : List OpV} {s : OpV} (h : 3 ≤ s.kind) : tblL (L ++ [s]) = tblL L := by
  have : ∀ t x : Int, heldI (L ++ [s]) t x = heldI L t x := fun t x => by
    rw [heldI_snoc]
    unfold hStep
    split
    · rw [if_neg (by omega), if_neg (by omega)]
    · rfl
  unfold tblL
  simp only [this]
set_option maxHeartbeats 400000 in
theorem takes_any (o : OpV) (w : World) :
    Calls Try.prog 86 #[o.val] w fun e w' => e = .returned (.bool (o.kind == 0 || o.kind == 1)) ∧ Below w.heap.size w w' := by
  obtain ⟨t, k, x⟩ := o
  unfold OpV.val
  by_cases k0 : k = 0
  · subst k0
    go_enter Try.func86, Try.ntmps86
    go_wp2
    go_ret
    exact ⟨rfl, (Below.refl _ _).alloc (Nat.le_refl _) _⟩
  · have hk : (k == 0) = false := by simp [k0]
    go_enter Try.func86, Try.ntmps86
    go_wp2
    go_ret
    exact ⟨ret_bool (by simp [hk]), (Below.refl _ _).alloc (Nat.le_refl _) _⟩

def TakePost (g : Nat) (L : List OpV) (s : OpV) (w : World) (e : Ending) (w' : World) : Prop := e = .returned (.tuple #[]) ∧ TblAt w' g (L ++ [s]) ∧ w.grownBy w' (some g)
theorem take_put {w wd : World} {g : Nat} {L : List OpV} {s : OpV} {t x : Nat} (h : TblAt wd g L) (hb : Below w.heap.size w wd) (ht : t ≤ 3) (hx : x ≤ 2) (h1 : s.tx = t) (h2 : s.item = x) {v : Int} (hv : hStep t x (heldI L t x) s = v) :
    TakePost g L s w (.returned (.tuple #[])) (wd.setCell ⟨g, t * 3 + x, none⟩ (.int .i64 v)) := by
  refine ⟨rfl, ?_, World.grownBy.trans (grown_below hb) grown_set⟩
  unfold TblAt
  rw [← tbl_set ht hx h1 h2 hv]
  exact RowIs.set h _ _
set_option maxRecDepth 100000 in
set_option maxHeartbeats 1000000 in
theorem take_any (g : Nat) (L : List OpV) (s : OpV) (w : World) (h : TblAt w g L) (hs : okStep s = true) :
    Calls Try.prog 83 #[.pointer (some ⟨g, 0, none⟩), s.val] w (TakePost g L s w) := by
  obtain ⟨ht, hk, hx⟩ := okStep_iff.1 hs
  obtain ⟨t, k, x⟩ := s
  simp only at ht hk hx
  obtain ⟨T, rfl⟩ := Int.eq_ofNat_of_zero_le ht.1
  obtain ⟨X, rfl⟩ := Int.eq_ofNat_of_zero_le hx.1
  have hT3 : T ≤ 3 := by omega
  have hX2 : X ≤ 2 := by omega
  have H := Lib.hid h
  obtain ⟨W, hW⟩ : ∃ W : World, W = w.alloc (.cells #[.int .i64 (T : Int), .int .i64 k, .int .i64 (X : Int)] 31) := ⟨_, rfl⟩
  have HBW : Hid (Below w.heap.size w W) := by show Below _ _ _; rw [hW]; exact (Below.refl _ _).alloc (Nat.le_refl _) _
  have HCW : Hid (∀ u, Below W.heap.size W u → u.cell? ⟨w.heap.size, 0, none⟩ = some (.int .i64 (T : Int)) ∧ u.cell? ⟨w.heap.size, 1, none⟩ = some (.int .i64 k) ∧ u.cell? ⟨w.heap.size, 2, none⟩ = some (.int .i64 (X : Int))) := fun u hu => by
    have a0 : W.cell? ⟨w.heap.size, 0, none⟩ = some (.int .i64 (T : Int)) := by rw [hW]; exact box_at _ _ _ _ _ rfl
    have a1 : W.cell? ⟨w.heap.size, 1, none⟩ = some (.int .i64 k) := by rw [hW]; exact box_at _ _ _ _ _ rfl
    have a2 : W.cell? ⟨w.heap.size, 2, none⟩ = some (.int .i64 (X : Int)) := by rw [hW]; exact box_at _ _ _ _ _ rfl
    exact ⟨Later.cell a0 ⟨u, hu⟩, Later.cell a1 ⟨u, hu⟩, Later.cell a2 ⟨u, hu⟩⟩
  have HW := Lib.hid hW
  have hT4 : (T : Int) < 4 := by omega
  have hT0 : (0 : Int) ≤ (T : Int) := by omega
  have hX3 : (X : Int) < 3 := by omega
  have hX0 : (0 : Int) ≤ (X : Int) := by omega
  clear h hW hs
  unfold OpV.val
  simp only
  obtain ⟨bt, hbt⟩ : ∃ b, (k == 0 || k == 1) = b := ⟨_, rfl⟩
  have HT : Hid (∀ W : World, Calls Try.prog 86 #[.agg #[.int .i64 (T : Int), .int .i64 k, .int .i64 (X : Int)]] W fun e w' => e = .returned (.bool bt) ∧ Below W.heap.size W w') := fun W => by
    have := takes_any ⟨(T : Int), k, (X : Int)⟩ W
    simp only at this
    rw [hbt] at this
    exact this
  cases bt
  · by_cases k2 : k = 2
    · subst k2
      clear hbt
      go_enter Try.func83, Try.ntmps83
      go_wp2_with (go_at_call 86; go_loud (rw [← HW.out]; refine (HT.out W).mono ?_; rintro e w2 ⟨rfl, hb2⟩; have hbw2 := HBW.out.trans (hb2.mono HBW.out.size); obtain ⟨e0, e1, e2⟩ := HCW.out _ hb2))
      have hT := H.out.below hbw2
      have hc := hT.cell hT3 hX2
      have hf := RowIs.frozen hT (T * 3 + X)
      obtain ⟨wd, hwd⟩ : ∃ wd : World, wd = w2.drew := ⟨_, rfl⟩
      have HP : Hid (TakePost g L ⟨(T : Int), 2, (X : Int)⟩ w (.returned (.tuple #[])) (wd.setCell ⟨g, T * 3 + X, none⟩ (.int .i64 (-1)))) := by
        show TakePost _ _ _ _ _ _
        rw [hwd]
        exact take_put (show TblAt w2.drew g L from hT) hbw2.drew hT3 hX2 rfl rfl (by unfold hStep; simp)
      have hcd : wd.cell? ⟨g, T * 3 + X, none⟩ = some (.int .i64 (heldI L T X)) := by rw [hwd]; exact hc
      have hfd : wd.frozen? ⟨g, T * 3 + X, none⟩ = false := by rw [hwd]; exact hf
      have HWD := Lib.hid hwd
      clear hT hc hf hwd hbw2 hb2
      refine wp_region_still_tail 8 (by kernel_rfl) (by kernel_rfl) ?_
      simp only [List.take_succ_cons, List.take_zero, List.drop_succ_cons, List.drop_zero]
      repeat (first | still_step | fail)
      refine wpStill_nil ?_
      change wpList _ _ _ _ _ w2.drew
      rw [← HWD.out]
      go_wp2_with fail
      refine bodyPost_ret (results_none rfl _ _ _) rfl ?_
      exact HP.out
    · have h34 : 3 ≤ k := by simp at hbt; omega
      have HN : Hid (∀ w', Below w.heap.size w w' → TakePost g L ⟨(T : Int), k, (X : Int)⟩ w (.returned (.tuple #[])) w') := fun w' hb => ⟨rfl, by unfold TblAt; rw [tbl_none (s := ⟨(T : Int), k, (X : Int)⟩) h34]; exact H.out.below hb, grown_below hb⟩
      have hk2 : (k == 2) = false := by simp [k2]
      clear hbt
      go_enter Try.func83, Try.ntmps83
      go_wp2_with (go_at_call 86; go_loud (rw [← HW.out]; refine (HT.out W).mono ?_; rintro e w2 ⟨rfl, hb2⟩; have hbw2 := HBW.out.trans (hb2.mono HBW.out.size); obtain ⟨e0, e1, e2⟩ := HCW.out _ hb2))
      refine bodyPost_ret (results_none rfl _ _ _) rfl ?_
      exact HN.out _ hbw2
  · have h01 : 0 ≤ k ∧ k ≤ 1 := by
      simp only [Bool.or_eq_true, beq_iff_eq] at hbt
      omega
    clear hbt
    go_enter Try.func83, Try.ntmps83
    go_wp2_with (go_at_call 86; go_loud (rw [← HW.out]; refine (HT.out W).mono ?_; rintro e w2 ⟨rfl, hb2⟩; have hbw2 := HBW.out.trans (hb2.mono HBW.out.size); obtain ⟨e0, e1, e2⟩ := HCW.out _ hb2))
    have hT := H.out.below hbw2
    have hc := hT.cell hT3 hX2
    have hf := RowIs.frozen hT (T * 3 + X)
    obtain ⟨wd, hwd⟩ : ∃ wd : World, wd = w2.drew := ⟨_, rfl⟩
    have HP : Hid (TakePost g L ⟨(T : Int), k, (X : Int)⟩ w (.returned (.tuple #[])) (wd.setCell ⟨g, T * 3 + X, none⟩ (.int .i64 k))) := by
      show TakePost _ _ _ _ _ _
      rw [hwd]
      exact take_put (show TblAt w2.drew g L from hT) hbw2.drew hT3 hX2 rfl rfl (by unfold hStep; simp only [and_self, if_true]; rw [if_neg (by omega), if_pos (by omega)])
    have hcd : wd.cell? ⟨g, T * 3 + X, none⟩ = some (.int .i64 (heldI L T X)) := by rw [hwd]; exact hc
    have hfd : wd.frozen? ⟨g, T * 3 + X, none⟩ = false := by rw [hwd]; exact hf
    have HWD := Lib.hid hwd
    clear hT hc hf hwd hbw2 hb2
    refine wp_region_still_tail 10 (by kernel_rfl) (by kernel_rfl) ?_
    simp only [List.take_succ_cons, List.take_zero, List.drop_succ_cons, List.drop_zero]
    repeat (first | still_step | fail)
    refine wpStill_nil ?_
    change wpList _ _ _ _ _ w2.drew
    rw [← HWD.out]
    go_wp2_with fail
    refine bodyPost_ret (results_none rfl _ _ _) rfl ?_
    exact HP.out
end Go.Proofs.Ytcakjhappchlmaa
