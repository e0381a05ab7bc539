/-
  The closure of the program's LocksOf: the table takes a step, and the list grows by it.
-/
import Derived.Test.YtcakjhappchlmaaQWLkT1
import Derived.Test.YtcakjhappchlmaaQWLkR4
namespace Go.Proofs.Ytcakjhappchlmaa
open Go.RowKit Go.BigFrame
set_option linter.unusedVariables false

/-- The two boxes, the table and the list of steps. -/
structure PutAt (b0 tb ob tg : Nat) (v : Value) (L : List OpV) (w : World) : Prop where
  tbox : RowIs w tb 82 [.pointer (some ⟨tg, 0, none⟩)]
  obox : RowIs w ob 23 [v]
  tbl : TblAt w tg L
  row : w.ownsRow b0 31 3 v L.length (opCells L)
  low : b0 ≤ tb ∧ b0 ≤ ob ∧ b0 ≤ tg
theorem put_ty : (82 : TypeId) ≠ 31 ∧ (23 : TypeId) ≠ 31 ∧ (121 : TypeId) ≠ 31 ∧ (82 : TypeId) ≠ 121 ∧ (23 : TypeId) ≠ 121 ∧ (23 : TypeId) ≠ 82 := by decide
theorem rows_ne {w : World} {a b : Nat} {T U : TypeId} {xs ys : List Value} (h1 : RowIs w a T xs) (h2 : RowIs w b U ys) (hne : T ≠ U) : a ≠ b := fun e => by
  subst e
  unfold RowIs at h1 h2
  rw [h1] at h2
  injection h2 with h2
  injection h2 with _ h2
  exact hne h2
section
variable {b0 tb ob tg : Nat} {v : Value} {L : List OpV} {w w' : World}
theorem PutAt.below (h : PutAt b0 tb ob tg v L w) (hb : Below w.heap.size w w') : PutAt b0 tb ob tg v L w' := ⟨RowIs.below h.tbox hb (Nat.le_refl _), RowIs.below h.obox hb (Nat.le_refl _), h.tbl.below hb, own_below h.row hb, h.low⟩
end
/-- What the call leaves. -/
structure PutKept (tg ob : Nat) (v : Value) (w w' : World) : Prop where
  size : w.heap.size ≤ w'.heap.size
  os : w'.os = w.os
  tape : w'.tape = w.tape
  output : w'.output = w.output
  block : ∀ k, k < w.heap.size → k ≠ tg → k ≠ ob → v.ownBlock ≠ some k → w'.heap[k]? = w.heap[k]?
def PutPost (b0 tb ob tg : Nat) (v : Value) (L : List OpV) (o : OpV) (w : World) (e : Ending) (w' : World) : Prop :=
  e = .returned (.tuple #[]) ∧ ∃ v', PutAt b0 tb ob tg v' (L ++ [o]) w' ∧ PutKept tg ob v w w'
/-- The last store, told once. -/
theorem put_end {b0 tb ob tg : Nat} {v v' : Value} {L : List OpV} {o : OpV} {w wb wt wa w3 : World} (h : PutAt b0 tb ob tg v L w) (hb : Below w.heap.size w wb) (hT : TblAt wt tg (L ++ [o])) (hg : wb.grownBy wt (some tg)) (ha : Below wt.heap.size wt wa)
    (hown : w3.ownsRow b0 31 3 v' (L.length + 1) (opCells (L ++ [o]))) (hg3 : wa.grownBy w3 v.ownBlock) (hat : v'.ownBlock = v.ownBlock ∨ v'.ownBlock = some wa.heap.size) :
    w3.frozen? ⟨ob, 0, none⟩ = false ∧ w3.cell? ⟨ob, 0, none⟩ = some v ∧ PutPost b0 tb ob tg v L o w (.returned (.tuple #[])) (w3.setCell ⟨ob, 0, none⟩ v') := by
  have hB := h.below hb
  obtain ⟨t1, t2, t3, t4, t5, t6⟩ := put_ty
  have htt := rows_ne hB.tbox hB.tbl t4
  have hot := rows_ne hB.obox hB.tbl t5
  have hob := rows_ne hB.obox hB.tbox t6
  have tb1 : RowIs wt tb _ _ := RowIs.grown hB.tbox hg (fun e => htt (by injection e with e; exact e.symm))
  have ob1 : RowIs wt ob _ _ := RowIs.grown hB.obox hg (fun e => hot (by injection e with e; exact e.symm))
  have row1 : wt.ownsRow b0 31 3 v L.length (opCells L) := own_grown hB.row hg (fun b e => by injection e with e; subst e; exact own_ne hB.row hB.tbl t3)
  have tb2 := RowIs.below tb1 ha (Nat.le_refl _)
  have ob2 := RowIs.below ob1 ha (Nat.le_refl _)
  have tg2 := hT.below ha
  have row2 := own_below row1 ha
  have n1 := own_ne row2 tb2 t1
  have n2 := own_ne row2 ob2 t2
  have n3 := own_ne row2 tg2 t3
  have tb3 := RowIs.grown tb2 hg3 n1
  have ob3 := RowIs.grown ob2 hg3 n2
  have tg3 : TblAt w3 tg (L ++ [o]) := RowIs.grown tg2 hg3 n3
  have hset : w3.grownBy (w3.setCell ⟨ob, 0, none⟩ v') (some ob) := grown_set
  have lob := RowIs.lt ob2
  have hvob : v'.ownBlock ≠ some ob := by
    rcases hat with e | e
    · rw [e]; exact n2
    · rw [e]; intro e'; injection e' with e'; omega
  refine ⟨RowIs.frozen ob3 0, RowIs.cell ob3 rfl, rfl, v', ⟨RowIs.grown tb3 hset (fun e => hob (by injection e)), ?_, RowIs.grown tg3 hset (fun e => hot (by injection e)), ?_, h.low⟩, ?_⟩
  · exact RowIs.set ob3 0 v'
  · rw [List.length_append, List.length_singleton]
    exact own_grown hown hset (fun b e => by injection e with e; subst e; exact hvob)
  · have s1 := hb.size
    have s2 := hg.size
    have s3 := ha.size
    have s4 := hg3.size
    have s5 := hset.size
    refine ⟨by omega, ?_, ?_, ?_, fun k hk h1 h2 h3 => ?_⟩
    · rw [hset.os, hg3.os, ha.os, hg.os, hb.os]
    · rw [hset.tape, hg3.tape, ha.tape, hg.tape, hb.tape]
    · rw [hset.output, hg3.output, ha.output, hg.output, hb.output]
    · rw [hset.block k (by omega) (fun e => h2 (by injection e)), hg3.block k (by omega) (Ne.symm h3), ha.block k (by omega), hg.block k (by omega) (fun e => h1 (by injection e)), hb.block k hk]
set_option maxRecDepth 100000 in
set_option maxHeartbeats 1000000 in
theorem put_any {b0 tb ob tg : Nat} {v : Value} {L : List OpV} (o : OpV) (w : World) (h : PutAt b0 tb ob tg v L w) (ho : okStep o = true) (hb0 : b0 ≤ w.heap.size) (hL : L.length ≤ 9000) :
    Calls Try.prog 101 #[o.val, .pointer (some ⟨tb, 0, none⟩), .pointer (some ⟨ob, 0, none⟩)] w (PutPost b0 tb ob tg v L o w) := by
  obtain ⟨A, c, rfl, hlc⟩ := own_form2 h.row
  obtain ⟨W, hW⟩ : ∃ W : World, W = w.alloc (.cells #[.int .i64 o.tx, .int .i64 o.kind, .int .i64 o.item] 31) := ⟨_, rfl⟩
  have hbW : Below w.heap.size w W := by rw [hW]; exact (Below.refl _ _).alloc (Nat.le_refl _) _
  have hB := h.below hbW
  have ct : W.cell? ⟨tb, 0, none⟩ = some (.pointer (some ⟨tg, 0, none⟩)) := RowIs.cell hB.tbox rfl
  have c0 : W.cell? ⟨w.heap.size, 0, none⟩ = some (.int .i64 o.tx) := by rw [hW]; exact box_at _ _ _ _ _ rfl
  have c1 : W.cell? ⟨w.heap.size, 1, none⟩ = some (.int .i64 o.kind) := by rw [hW]; exact box_at _ _ _ _ _ rfl
  have c2 : W.cell? ⟨w.heap.size, 2, none⟩ = some (.int .i64 o.item) := by rw [hW]; exact box_at _ _ _ _ _ rfl
  have htk := take_any tg L o W hB.tbl ho
  have HTK := Lib.hid htk
  have HW := Lib.hid hW
  have HH := Lib.hid h
  have HBW := Lib.hid hbW
  have HBB := Lib.hid hB
  have hwW : w.heap.size < W.heap.size := by rw [hW]; simp
  obtain ⟨t1, t2, t3, t4, t5, t6⟩ := put_ty
  have hbx : RowIs W w.heap.size 31 [.int .i64 o.tx, .int .i64 o.kind, .int .i64 o.item] := by rw [hW]; exact heap_alloc_new w _
  have HBX := Lib.hid hbx
  clear h htk hW hbW hB hbx
  obtain ⟨tx, kd, it⟩ := o
  unfold OpV.val
  unfold OpV.val at HTK
  simp only at c0 c1 c2 HTK HBX HW
  go_enter Try.func101, Try.ntmps101
  rw [HW.out] at ct c0 c1 c2
  go_wp2_with fail
  rw [← HW.out]
  refine HTK.out.mono ?_
  rintro e wt ⟨rfl, hT, hg⟩
  have hbt : RowIs wt w.heap.size 31 [.int .i64 tx, .int .i64 kd, .int .i64 it] := RowIs.grown HBX.out hg (fun e => rows_ne HBX.out HBB.out.tbl (Ne.symm t3) (by injection e with e; exact e.symm))
  have d0 : wt.cell? ⟨w.heap.size, 0, none⟩ = some (.int .i64 tx) := RowIs.cell hbt rfl
  have d1 : wt.cell? ⟨w.heap.size, 1, none⟩ = some (.int .i64 kd) := RowIs.cell hbt rfl
  have d2 : wt.cell? ⟨w.heap.size, 2, none⟩ = some (.int .i64 it) := RowIs.cell hbt rfl
  have obt : RowIs wt ob 23 [.slice A L.length c] := RowIs.grown HBB.out.obox hg (fun e => rows_ne HBB.out.obox HBB.out.tbl t5 (by injection e with e; exact e.symm))
  have co : wt.cell? ⟨ob, 0, none⟩ = some (.slice A L.length c) := RowIs.cell obt rfl
  have hrow : wt.ownsRow b0 31 3 (.slice A L.length c) L.length (opCells L) := own_grown HBB.out.row hg (fun b e => by injection e with e; subst e; exact own_ne HBB.out.row HBB.out.tbl t3)
  have hsz : b0 ≤ wt.heap.size := by have := hg.size; omega
  have HT := Lib.hid hT
  have HG := Lib.hid hg
  have HR := Lib.hid hrow
  clear hT hg hbt obt c0 c1 c2 ct hrow
  go_wp2_with (at_builtin; go_loud (refine app_steps (.tmp 7) (.tmp 9) (HR.out.alloc _) (by simp; omega) (ROps.lit1 _ ⟨tx, kd, it⟩ _) (by omega) rfl rfl rfl rfl ?_; intro v3 w3 hown3 hg3 hat3; obtain ⟨A3, c3, rfl, _⟩ := own_form2 hown3; obtain ⟨e0, e1, hPP⟩ := put_end HH.out HBW.out HT.out HG.out ((Below.refl _ wt).alloc (Nat.le_refl _) _) hown3 hg3 hat3; have HPP := Lib.hid hPP; clear hPP hown3 hg3 hat3))
  go_end0
  exact HPP.out
end Go.Proofs.Ytcakjhappchlmaa
