/-
  RunChecks of the program: the walk.
-/
import Derived.Test.YtofcpfabjfhjoaaRc1
import Derived.Test.YtofcpfabjfhjoaaRep0
import Derived.Test.YtofcpfabjfhjoaaRows1
import Derived.Test.YtofcpfabjfhjoaaSurv2
import Derived.StillTailTactics
namespace Go.Proofs.Ytofcpfabjfhjoaa
open Go.RowKit Go.BigFrame
set_option linter.unusedVariables false

/-- What the walk keeps. -/
structure RcI (w : World) (g b6 gc : Nat) (rest : List Value) (D : List OpV) (K V : List Int) (dv kv : Value) (nd nk : Nat) (wr : World) : Prop where
  below : Below w.heap.size w wr
  done : wr.ownsRow w.heap.size 46 3 dv nd (opCells D)
  dead : wr.ownsRow w.heap.size 3 1 kv nk (intCells K)
  row : RowIs wr g 3 (intCells V ++ rest)
  box : RowIs wr b6 25 [.slice (some ⟨g, 0, none⟩) 3 gc]
  sep : kv.ownBlock ≠ some g
section
variable {w wr w' : World} {g b6 gc nd nk : Nat} {rest : List Value} {D : List OpV} {K V : List Int} {dv kv : Value}
theorem RcI.later (h : RcI w g b6 gc rest D K V dv kv nd nk wr) (hb : Below wr.heap.size wr w') : RcI w g b6 gc rest D K V dv kv nd nk w' :=
  ⟨h.below.trans (hb.mono h.below.size), own_below h.done hb, own_below h.dead hb, h.row.below hb (Nat.le_refl _), h.box.below hb (Nat.le_refl _), h.sep⟩
theorem RcI.grownDone (h : RcI w g b6 gc rest D K V dv kv nd nk wr) {D' : List OpV} {dv' : Value} {nd' : Nat} (hg : wr.grownBy w' dv.ownBlock) (ho : w'.ownsRow w.heap.size 46 3 dv' nd' (opCells D')) : RcI w g b6 gc rest D' K V dv' kv nd' nk w' :=
  ⟨Below.own h.below h.done (Nat.le_refl _) hg, ho, own_apart h.dead h.done (fun e => op_ne_int e.symm) hg, h.row.grown hg (own_ne h.done h.row (fun e => op_ne_int e.symm)), h.box.grown hg (own_ne h.done h.box ints_ne_op), h.sep⟩
theorem RcI.grownDead (h : RcI w g b6 gc rest D K V dv kv nd nk wr) {K' : List Int} {kv' : Value} {nk' : Nat} (hg : wr.grownBy w' kv.ownBlock) (ho : w'.ownsRow w.heap.size 3 1 kv' nk' (intCells K')) (hs : kv'.ownBlock ≠ some g) : RcI w g b6 gc rest D K' V dv kv' nd nk' w' :=
  ⟨Below.own h.below h.dead (Nat.le_refl _) hg, own_apart h.done h.dead op_ne_int hg, ho, h.row.grown hg h.sep, h.box.grown hg (own_ne h.dead h.box ints_ne_int), hs⟩
theorem RcI.setV (h : RcI w g b6 gc rest D K V dv kv nd nk wr) (hge : w.heap.size ≤ g) {x : Nat} (hx : x < V.length) (z : Int) : RcI w g b6 gc rest D K (V.set x z) dv kv nd nk (wr.setCell ⟨g, x, none⟩ (.int .i64 z)) := by
  have hgr : wr.grownBy (wr.setCell ⟨g, x, none⟩ (.int .i64 z)) (some g) := grown_set
  refine ⟨h.below.setCell (by simpa using hge) _, ?_, ?_, row_setInt h.row hx, h.box.grown hgr ?_, h.sep⟩
  · exact own_grown h.done hgr (fun b e => by injection e with e; subst e; exact own_ne h.done h.row (fun e => op_ne_int e.symm))
  · exact own_grown h.dead hgr (fun b e => by injection e with e; subst e; exact h.sep)
  · intro e
    injection e with e
    subst e
    have h1 := h.row
    have h2 := h.box
    unfold RowIs at h1 h2
    rw [h1] at h2
    injection h2 with h2
    injection h2 with _ h2 _
    exact ints_ne_int h2.symm
theorem RcI.drew (h : RcI w g b6 gc rest D K V dv kv nd nk wr) : RcI w g b6 gc rest D K V dv kv nd nk wr.drew := ⟨h.below.drew, h.done, h.dead, h.row, h.box, h.sep⟩
end

theorem rc_cell {w : World} {g : Nat} {V : List Int} {rest : List Value} (h : RowIs w g 3 (intCells V ++ rest)) (hV : V.length = 3) {X : Nat} (hX : X < 3) : w.cell? ⟨g, X, none⟩ = some (.int .i64 (V.getD X 0)) ∧ w.frozen? ⟨g, X, none⟩ = false := by
  refine ⟨h.cell ?_, h.frozen X⟩
  rw [List.getElem?_append_left (by simp [intCells]; omega)]
  simp [intCells, List.getD_eq_getElem?_getD, List.getElem?_eq_getElem (show X < V.length by omega)]
set_option maxHeartbeats 1000000 in
theorem RunChecks1_any (o : OpV) (b6 b9 g gc : Nat) (V : List Int) (rest : List Value) (f : Int) (w : World) (hbx : w.cell? ⟨b6, 0, none⟩ = some (.slice (some ⟨g, 0, none⟩) 3 gc)) (hf : w.cell? ⟨b9, 0, none⟩ = some (.int .i64 f))
    (hr : RowIs w g 3 (intCells V ++ rest)) (hV : V.length = 3) (hi : 0 ≤ o.item ∧ o.item ≤ 2) :
    Calls Try.prog 104 #[o.val, .pointer (some ⟨b6, 0, none⟩), .pointer (some ⟨b9, 0, none⟩)] w fun e w' => e = .returned (.bool (o.kind == 0 && decide (f < V.getD o.item.toNat 0))) ∧ Below w.heap.size w w' := by
  obtain ⟨tx, kd, it⟩ := o
  simp only at hi ⊢
  obtain ⟨X, rfl⟩ := Int.eq_ofNat_of_zero_le hi.1
  have hX : X < 3 := by omega
  have hc : w.cell? ⟨g, X, none⟩ = some (.int .i64 (V.getD X 0)) := by
    refine hr.cell ?_
    rw [List.getElem?_append_left (by simp [intCells]; omega)]
    simp [intCells, List.getD_eq_getElem?_getD, List.getElem?_eq_getElem (show X < V.length by omega)]
  rw [Int.toNat_natCast]
  generalize V.getD X 0 = z at *
  unfold OpV.val
  have hX3 : (X : Int) < 3 := by omega
  have hX0 : (0 : Int) ≤ (X : Int) := by omega
  obtain ⟨W, hW⟩ : ∃ W : World, W = w.alloc (.cells #[.int .i64 tx, .int .i64 kd, .int .i64 (X : Int)] 46) := ⟨_, rfl⟩
  obtain ⟨L0, L1, L2, hbW, hWs⟩ := op_box hW
  have hbl6 := block_lt_of_cell hbx
  have hbl9 := block_lt_of_cell hf
  have hblg := hr.lt
  have M6 : ∀ u : Later W, u.1.cell? ⟨b6, 0, none⟩ = some (.slice (some ⟨g, 0, none⟩) 3 gc) := fun u => Later.cell hbx ⟨u.1, hbW.trans (u.2.mono hbW.size)⟩
  have M9 : ∀ u : Later W, u.1.cell? ⟨b9, 0, none⟩ = some (.int .i64 f) := fun u => Later.cell hf ⟨u.1, hbW.trans (u.2.mono hbW.size)⟩
  have MG : ∀ u : Later W, u.1.cell? ⟨g, X, none⟩ = some (.int .i64 z) := fun u => Later.cell hc ⟨u.1, hbW.trans (u.2.mono hbW.size)⟩
  have HW := Lib.hid hW
  obtain ⟨b1, hb1⟩ : ∃ b, (kd == 0) = b := ⟨_, rfl⟩
  have HB1 := Lib.hid hb1
  rw [hb1]
  clear hbx hf hr hc hW hi hV
  go_enter Try.func104, Try.ntmps104
  go_wp2_with fail
  rw [← HW.out]
  cases b1
  · refine region_later (by kernel_rfl) (by kernel_rfl) ?_
    repeat (go_big_quiet_step (fail))
    refine wpQuiet_nil ?_
    rintro _ ⟨u, rfl⟩
    go_wp2_with fail
    go_ret
    exact ⟨rfl, hbW.trans (u.2.mono hbW.size)⟩
  · refine region_later (by kernel_rfl) (by kernel_rfl) ?_
    repeat (go_big_quiet_step (fail))
    refine wpQuiet_nil ?_
    rintro _ ⟨u, rfl⟩
    go_wp2_with fail
    go_ret
    exact ⟨ret_bool (by simp), hbW.trans (u.2.mono hbW.size)⟩
theorem runs_RunChecks1 : Runs 104 := runs_of Try.func104 (by kernel_rfl) rfl
end Go.Proofs.Ytofcpfabjfhjoaa
