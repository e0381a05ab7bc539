/-
  Texts that the proof rests on, joined: part 31.
-/
import Derived.Test.YtcakjhappchlmaaSWx30
namespace Go.Proofs.Ytcakjhappchlmaa
open Go.RowKit Go.BigFrame
set_option linter.unusedVariables false

theorem run_ty : (115 : TypeId) ≠ 92 ∧ (115 : TypeId) ≠ 31 ∧ (115 : TypeId) ≠ 3 ∧ (115 : TypeId) ≠ 121 := by decide
theorem tbl_ty : (121 : TypeId) ≠ 92 ∧ (121 : TypeId) ≠ 31 ∧ (121 : TypeId) ≠ 3 := by decide
theorem row_ne {w : World} {a b : Nat} {T U : TypeId} {xs ys : List Value} (h1 : RowIs w a T xs) (h2 : RowIs w b U ys) (hne : T ≠ U) : a ≠ b := fun e => by
  subst e
  unfold RowIs at h1 h2
  rw [h1] at h2
  injection h2 with h2
  injection h2 with _ h2
  exact hne h2
def runCells (V : DV) (tg : Nat) (m : Value) : List Value := [V.d, V.w, V.l, V.k, .pointer (some ⟨tg, 0, none⟩), m]
structure RunAt (w : World) (B R tg : Nat) (m : Value) (V : DV) (D : Dsk) : Prop where
  box : RowIs w R 115 (runCells V tg m)
  desk : DeskAt w B V D
  tbl : TblAt w tg D.locks
  ok : ∀ s ∈ D.locks, okStep s = true
  lowR : B ≤ R
  lowT : B ≤ tg
/-- From w to w' only the run's box, its table, its rows, and what is new, have turned. -/
structure RSt (R tg : Nat) (w : World) (V : DV) (w' : World) (V' : DV) : Prop where
  os : w'.os = w.os
  tape : w'.tape = w.tape
  output : w'.output = w.output
  size : w.heap.size ≤ w'.heap.size
  block : ∀ i, i < w.heap.size → i ≠ R → i ≠ tg → NotIn V i → w'.heap[i]? = w.heap[i]?
  nd : NB w.heap.size V.d V'.d
  nw : NB w.heap.size V.w V'.w
  nl : NB w.heap.size V.l V'.l
  nk : NB w.heap.size V.k V'.k
section
variable {R tg : Nat} {w w1 w2 w' : World} {V V1 V2 V' : DV}
theorem RSt.notIn {g : Nat} (h : RSt R tg w V w' V') (hg : g < w.heap.size) (hn : NotIn V g) : NotIn V' g :=
  ⟨h.nd.ne hg hn.1, h.nw.ne hg hn.2.1, h.nl.ne hg hn.2.2.1, h.nk.ne hg hn.2.2.2⟩
theorem RSt.refl (R tg : Nat) (w : World) (V : DV) : RSt R tg w V w V := ⟨rfl, rfl, rfl, Nat.le_refl _, fun _ _ _ _ _ => rfl, .refl _ _, .refl _ _, .refl _ _, .refl _ _⟩
theorem RSt.trans (h : RSt R tg w V w1 V1) (k : RSt R tg w1 V1 w2 V2) : RSt R tg w V w2 V2 := by
  have hs := h.size
  refine ⟨k.os.trans h.os, k.tape.trans h.tape, k.output.trans h.output, Nat.le_trans hs k.size, fun i hi h1 h2 hn => ?_, h.nd.trans k.nd hs, h.nw.trans k.nw hs, h.nl.trans k.nl hs, h.nk.trans k.nk hs⟩
  exact (k.block i (by omega) h1 h2 (h.notIn hi hn)).trans (h.block i hi h1 h2 hn)
theorem RSt.of_below (R tg : Nat) (V : DV) (h : Below w.heap.size w w') : RSt R tg w V w' V :=
  ⟨h.os, h.tape, h.output, h.size, fun i hi _ _ _ => h.block i hi, .refl _ _, .refl _ _, .refl _ _, .refl _ _⟩
theorem RSt.lat (h : RSt R tg w V w1 V1) (hb : Below w1.heap.size w1 w') : RSt R tg w V w' V1 := h.trans (.of_below R tg V1 hb)
theorem RSt.row (h : RSt R tg w V w' V') {g : Nat} {T : TypeId} {vs : List Value} (hr : RowIs w g T vs) (h1 : g ≠ R) (h2 : g ≠ tg) (hn : NotIn V g) : RowIs w' g T vs := (h.block g hr.lt h1 h2 hn).trans hr
theorem RSt.ints (h : RSt R tg w V w' V') {A : Option Addr} {n : Nat} {xs : List Int} (hr : RInts w A n xs) (hn : ∀ ad, A = some ad → ad.block ≠ R ∧ ad.block ≠ tg ∧ NotIn V ad.block) : RInts w' A n xs := by
  obtain ⟨h1, h2, h3⟩ := hr
  refine ⟨h1, h2, fun h0 => ?_⟩
  obtain ⟨b, off, hA, hlt, hc⟩ := h3 h0
  obtain ⟨n1, n2, n3⟩ := hn _ hA
  have hh := h.block b hlt n1 n2 n3
  have hs := h.size
  exact ⟨b, off, hA, by omega, fun i x hx => (World.cell?_of_block (w := w) (a := ⟨b, _, none⟩) hh).trans (hc i x hx)⟩
theorem RSt.ops (h : RSt R tg w V w' V') {A : Option Addr} {n : Nat} {xs : List OpV} (hr : ROps w A n xs) (hn : ∀ ad, A = some ad → ad.block ≠ R ∧ ad.block ≠ tg ∧ NotIn V ad.block) : ROps w' A n xs := by
  obtain ⟨h1, h2, h3⟩ := hr
  refine ⟨h1, h2, fun h0 => ?_⟩
  obtain ⟨b, off, hA, hlt, hc⟩ := h3 h0
  obtain ⟨n1, n2, n3⟩ := hn _ hA
  have hh := h.block b hlt n1 n2 n3
  have hs := h.size
  refine ⟨b, off, hA, by omega, fun i o ho => ?_⟩
  obtain ⟨c0, c1, c2⟩ := hc i o ho
  exact ⟨(World.cell?_of_block (w := w) (a := ⟨b, _, none⟩) hh).trans c0, (World.cell?_of_block (w := w) (a := ⟨b, _, none⟩) hh).trans c1, (World.cell?_of_block (w := w) (a := ⟨b, _, none⟩) hh).trans c2⟩
end
section
variable {w w1 w' w3 : World} {B R tg : Nat} {m : Value} {V : DV} {D : Dsk}
theorem RunAt.notR (h : RunAt w B R tg m V D) : NotIn V R := h.desk.notIn h.box run_ty.1 run_ty.2.1 run_ty.2.2.1
theorem RunAt.notT (h : RunAt w B R tg m V D) : NotIn V tg := h.desk.notIn h.tbl tbl_ty.1 tbl_ty.2.1 tbl_ty.2.2
theorem RunAt.ne (h : RunAt w B R tg m V D) : R ≠ tg := row_ne h.box h.tbl run_ty.2.2.2
theorem RunAt.lat (h : RunAt w B R tg m V D) (hb : Below w.heap.size w w') : RunAt w' B R tg m V D := ⟨RowIs.below h.box hb (Nat.le_refl _), h.desk.below hb, h.tbl.below hb, h.ok, h.lowR, h.lowT⟩
theorem RunAt.cells (h : RunAt w B R tg m V D) : w.cell? ⟨R, 0, none⟩ = some V.d ∧ w.cell? ⟨R, 1, none⟩ = some V.w ∧ w.cell? ⟨R, 2, none⟩ = some V.l ∧ w.cell? ⟨R, 3, none⟩ = some V.k ∧ w.cell? ⟨R, 4, none⟩ = some (.pointer (some ⟨tg, 0, none⟩)) ∧ w.cell? ⟨R, 5, none⟩ = some m :=
  ⟨RowIs.cell h.box rfl, RowIs.cell h.box rfl, RowIs.cell h.box rfl, RowIs.cell h.box rfl, RowIs.cell h.box rfl, RowIs.cell h.box rfl⟩
theorem RunAt.lock (h : RunAt w B R tg m V D) {t x : Nat} (ht : t ≤ 3) (hx : x ≤ 2) : w.cell? ⟨tg, t * 3 + x, none⟩ = some (.int .i64 (heldI D.locks t x)) := h.tbl.cell ht hx
theorem RunAt.soft (h : RunAt w B R tg m V D) (i : Nat) : w.frozen? ⟨R, i, none⟩ = false := RowIs.frozen h.box i
theorem RunAt.base (h : RunAt w B R tg m V D) : B ≤ w.heap.size := h.desk.base
theorem RunAt.ltR (h : RunAt w B R tg m V D) : R < w.heap.size := RowIs.lt h.box
theorem RunAt.ltT (h : RunAt w B R tg m V D) : tg < w.heap.size := RowIs.lt h.tbl
theorem RunAt.far (h : RunAt w B R tg m V D) {g : Nat} (hg : w.heap.size ≤ g) : g ≠ R ∧ g ≠ tg ∧ NotIn V g := ⟨by have := h.ltR; omega, by have := h.ltT; omega, h.desk.far hg⟩
theorem RunAt.low (h : RunAt w B R tg m V D) {g : Nat} (hg : g < B) : g ≠ R ∧ g ≠ tg ∧ NotIn V g := ⟨by have := h.lowR; omega, by have := h.lowT; omega, h.desk.low hg⟩
theorem RunAt.below (h : RunAt w B R tg m V D) {V' : DV} (hs : RSt R tg w V w' V') : Below B w w' :=
  ⟨hs.os, hs.tape, hs.output, hs.size, fun i hi => by
    obtain ⟨h1, h2, h3⟩ := h.low hi
    exact hs.block i (by have := h.base; omega) h1 h2 h3⟩
theorem RunAt.forms (h : RunAt w B R tg m V D) : ∃ (Ad Aw Al Ak : Option Addr) (nd nw nl nk cd cw cl ck : Nat), V = ⟨.slice Ad nd cd, .slice Aw nw cw, .slice Al nl cl, .slice Ak nk ck⟩ ∧ (nd ≤ cd ∧ nw ≤ cw ∧ nl ≤ cl ∧ nk ≤ ck) ∧ D.done.length = nd ∧ D.wait.length = nw ∧ D.locks.length = nl ∧ D.dead.length = nk := h.desk.forms
theorem set_grown (w : World) (R i : Nat) (v : Value) : w.grownBy (w.setCell ⟨R, i, none⟩ v) (some R) := grown_set
/-- What is done grows. -/
theorem RunAt.growD (h : RunAt w B R tg m V D) {v : Value} {L : List OpV} {n : Nat} (hg : w.grownBy w3 V.d.ownBlock) (ho : w3.ownsRow B 92 3 v n (opCells L)) (hat : v.ownBlock = V.d.ownBlock ∨ v.ownBlock = some w.heap.size) :
    (w3.cell? ⟨R, 0, none⟩ = some V.d ∧ w3.frozen? ⟨R, 0, none⟩ = false) ∧ RunAt (w3.setCell ⟨R, 0, none⟩ v) B R tg m ⟨v, V.w, V.l, V.k⟩ ⟨L, D.wait, D.locks, D.dead⟩ ∧ RSt R tg w V (w3.setCell ⟨R, 0, none⟩ v) ⟨v, V.w, V.l, V.k⟩ := by
  have hb3 : RowIs w3 R 115 (runCells V tg m) := RowIs.grown h.box hg h.notR.1
  have ht3 : TblAt w3 tg D.locks := RowIs.grown h.tbl hg h.notT.1
  have hd3 := h.desk.growD hg ho hat
  have hs := set_grown w3 R 0 v
  have hne := h.ne
  refine ⟨⟨RowIs.cell hb3 rfl, RowIs.frozen hb3 0⟩, ⟨RowIs.set hb3 0 v, hd3.set (hd3.notIn hb3 run_ty.1 run_ty.2.1 run_ty.2.2.1) 0 v, RowIs.grown ht3 hs (fun e => hne (by injection e)), h.ok, h.lowR, h.lowT⟩, ⟨hs.os.trans hg.os, hs.tape.trans hg.tape, hs.output.trans hg.output, Nat.le_trans hg.size hs.size, fun i hi h1 h2 hn => ?_, .of_hat hat (Nat.le_refl _), .refl _ _, .refl _ _, .refl _ _⟩⟩
  have := hg.size
  exact (hs.block i (by omega) (fun e => h1 (by injection e))).trans (hg.block i hi (fun e => hn.1 e.symm))
/-- What waits grows, or is cut. -/
theorem RunAt.growW (h : RunAt w B R tg m V D) {v : Value} {L : List OpV} {n : Nat} (hg : w.grownBy w3 V.w.ownBlock) (ho : w3.ownsRow B 92 3 v n (opCells L)) (hat : v.ownBlock = V.w.ownBlock ∨ v.ownBlock = some w.heap.size) :
    (w3.cell? ⟨R, 1, none⟩ = some V.w ∧ w3.frozen? ⟨R, 1, none⟩ = false) ∧ RunAt (w3.setCell ⟨R, 1, none⟩ v) B R tg m ⟨V.d, v, V.l, V.k⟩ ⟨D.done, L, D.locks, D.dead⟩ ∧ RSt R tg w V (w3.setCell ⟨R, 1, none⟩ v) ⟨V.d, v, V.l, V.k⟩ := by
  have hb3 : RowIs w3 R 115 (runCells V tg m) := RowIs.grown h.box hg h.notR.2.1
  have ht3 : TblAt w3 tg D.locks := RowIs.grown h.tbl hg h.notT.2.1
  have hd3 := h.desk.growW hg ho hat
  have hs := set_grown w3 R 1 v
  have hne := h.ne
  refine ⟨⟨RowIs.cell hb3 rfl, RowIs.frozen hb3 1⟩, ⟨RowIs.set hb3 1 v, hd3.set (hd3.notIn hb3 run_ty.1 run_ty.2.1 run_ty.2.2.1) 1 v, RowIs.grown ht3 hs (fun e => hne (by injection e)), h.ok, h.lowR, h.lowT⟩, ⟨hs.os.trans hg.os, hs.tape.trans hg.tape, hs.output.trans hg.output, Nat.le_trans hg.size hs.size, fun i hi h1 h2 hn => ?_, .refl _ _, .of_hat hat (Nat.le_refl _), .refl _ _, .refl _ _⟩⟩
  have := hg.size
  exact (hs.block i (by omega) (fun e => h1 (by injection e))).trans (hg.block i hi (fun e => hn.2.1 e.symm))
/-- One more is dead. -/
theorem RunAt.growK (h : RunAt w B R tg m V D) {v : Value} {K : List Int} {n : Nat} (hg : w.grownBy w3 V.k.ownBlock) (ho : w3.ownsRow B 3 1 v n (intCells K)) (hat : v.ownBlock = V.k.ownBlock ∨ v.ownBlock = some w.heap.size) :
    (w3.cell? ⟨R, 3, none⟩ = some V.k ∧ w3.frozen? ⟨R, 3, none⟩ = false) ∧ RunAt (w3.setCell ⟨R, 3, none⟩ v) B R tg m ⟨V.d, V.w, V.l, v⟩ ⟨D.done, D.wait, D.locks, K⟩ ∧ RSt R tg w V (w3.setCell ⟨R, 3, none⟩ v) ⟨V.d, V.w, V.l, v⟩ := by
  have hb3 : RowIs w3 R 115 (runCells V tg m) := RowIs.grown h.box hg h.notR.2.2.2
  have ht3 : TblAt w3 tg D.locks := RowIs.grown h.tbl hg h.notT.2.2.2
  have hd3 := h.desk.growK hg ho
  have hs := set_grown w3 R 3 v
  have hne := h.ne
  refine ⟨⟨RowIs.cell hb3 rfl, RowIs.frozen hb3 3⟩, ⟨RowIs.set hb3 3 v, hd3.set (hd3.notIn hb3 run_ty.1 run_ty.2.1 run_ty.2.2.1) 3 v, RowIs.grown ht3 hs (fun e => hne (by injection e)), h.ok, h.lowR, h.lowT⟩, ⟨hs.os.trans hg.os, hs.tape.trans hg.tape, hs.output.trans hg.output, Nat.le_trans hg.size hs.size, fun i hi h1 h2 hn => ?_, .refl _ _, .refl _ _, .refl _ _, .of_hat hat (Nat.le_refl _)⟩⟩
  have := hg.size
  exact (hs.block i (by omega) (fun e => h1 (by injection e))).trans (hg.block i hi (fun e => hn.2.2.2 e.symm))
/-- The table takes a step, and the row of locks grows by it. -/
theorem RunAt.put (h : RunAt w B R tg m V D) {s : OpV} {wt wl : World} {v : Value} {n : Nat} (hs : okStep s = true) (hT : TblAt wt tg (D.locks ++ [s])) (hgt : w.grownBy wt (some tg)) (hb : Below wt.heap.size wt wl)
    (hg : wl.grownBy w3 V.l.ownBlock) (ho : w3.ownsRow B 31 3 v n (opCells (D.locks ++ [s]))) (hat : v.ownBlock = V.l.ownBlock ∨ v.ownBlock = some wl.heap.size) :
    (w3.cell? ⟨R, 2, none⟩ = some V.l ∧ w3.frozen? ⟨R, 2, none⟩ = false) ∧ RunAt (w3.setCell ⟨R, 2, none⟩ v) B R tg m ⟨V.d, V.w, v, V.k⟩ ⟨D.done, D.wait, D.locks ++ [s], D.dead⟩ ∧ RSt R tg w V (w3.setCell ⟨R, 2, none⟩ v) ⟨V.d, V.w, v, V.k⟩ := by
  have hne := h.ne
  have hdt : DeskAt wt B V D := h.desk.apart hgt (fun b e => by injection e with e; subst e; exact h.notT)
  have hbt : RowIs wt R 115 (runCells V tg m) := RowIs.grown h.box hgt (fun e => hne (by injection e with e; exact e.symm))
  have hdl := hdt.below hb
  have hbl := RowIs.below hbt hb (Nat.le_refl _)
  have htl := hT.below hb
  have hnR := hdl.notIn hbl run_ty.1 run_ty.2.1 run_ty.2.2.1
  have hnT := hdl.notIn htl tbl_ty.1 tbl_ty.2.1 tbl_ty.2.2
  have hb3 : RowIs w3 R 115 (runCells V tg m) := RowIs.grown hbl hg hnR.2.2.1
  have ht3 : TblAt w3 tg (D.locks ++ [s]) := RowIs.grown htl hg hnT.2.2.1
  have hd3 := hdl.growL hg ho
  have hs3 := set_grown w3 R 2 v
  have s1 := hgt.size
  have s2 := hb.size
  have s3 := hg.size
  refine ⟨⟨RowIs.cell hb3 rfl, RowIs.frozen hb3 2⟩, ⟨RowIs.set hb3 2 v, hd3.set (hd3.notIn hb3 run_ty.1 run_ty.2.1 run_ty.2.2.1) 2 v, RowIs.grown ht3 hs3 (fun e => hne (by injection e)), fun q hq => ?_, h.lowR, h.lowT⟩, ⟨?_, ?_, ?_, Nat.le_trans s1 (Nat.le_trans s2 (Nat.le_trans s3 hs3.size)), fun i hi h1 h2 hn => ?_, .refl _ _, .refl _ _, .of_hat hat (by omega), .refl _ _⟩⟩
  · rcases List.mem_append.1 hq with hq | hq
    · exact h.ok q hq
    · rw [List.mem_singleton.1 hq]; exact hs
  · rw [hs3.os, hg.os, hb.os, hgt.os]
  · rw [hs3.tape, hg.tape, hb.tape, hgt.tape]
  · rw [hs3.output, hg.output, hb.output, hgt.output]
  · exact (hs3.block i (by omega) (fun e => h1 (by injection e))).trans ((hg.block i (by omega) (fun e => hn.2.2.1 e.symm)).trans ((hb.block i (by omega)).trans (hgt.block i hi (fun e => h2 (by injection e)))))
end
/-- A call leaves this desk. -/
def RPost (B R tg : Nat) (m : Value) (V : DV) (w : World) (D : Dsk) (e : Ending) (w' : World) : Prop := e = .returned (.tuple #[]) ∧ ∃ V', RunAt w' B R tg m V' D ∧ RSt R tg w V w' V'
theorem held_none {L : List OpV} (h : ∀ s ∈ L, okStep s = true) (t x : Int) : (heldI L t x != -1) = decide (0 ≤ heldI L t x) := by
  have := heldI_rng h t x
  rw [Bool.eq_iff_iff, bne_iff_ne, decide_eq_true_eq]
  omega
end Go.Proofs.Ytcakjhappchlmaa
