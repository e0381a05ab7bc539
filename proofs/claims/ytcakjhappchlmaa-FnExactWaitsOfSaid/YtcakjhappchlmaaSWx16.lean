/-
  Texts that the proof rests on, joined: part 16.
-/
import Derived.Test.YtcakjhappchlmaaSWx15
namespace Go.Proofs.Ytcakjhappchlmaa
open Go.RowKit Go.BigFrame
set_option linter.unusedVariables false

/-- The world behind a store of a whole desk. -/
def putDesk (w : World) (g : Nat) (V : DV) : World := (((w.setCell ⟨g, 0, none⟩ V.d).setCell ⟨g, 1, none⟩ V.w).setCell ⟨g, 2, none⟩ V.l).setCell ⟨g, 3, none⟩ V.k
theorem putDesk_size (w : World) (g : Nat) (V : DV) : (putDesk w g V).heap.size = w.heap.size := setAll_size _ _ _ _ _ _
/-- A desk in the box g, beside the box gr of the result. -/
structure Pk (w0 : World) (V0 : DV) (B g gr : Nat) (w : World) (U : DV) (D : Dsk) : Prop where
  desk : DeskAt w B U D
  step : DStep w0 V0 w U
  box : Boxed w g U
  res : Boxed w gr DV.nil
  ne : g ≠ gr
  gl : w0.heap.size ≤ g
  grl : w0.heap.size ≤ gr
section
variable {w0 w w1 w' : World} {V0 U : DV} {B g gr : Nat} {D : Dsk}
theorem Pk.below (h : Pk w0 V0 B g gr w U D) (hb : Below w.heap.size w w') : Pk w0 V0 B g gr w' U D := ⟨h.desk.below hb, h.step.below hb, h.box.below hb, h.res.below hb, h.ne, h.gl, h.grl⟩
theorem Pk.alloc (h : Pk w0 V0 B g gr w U D) (o : Obj) : Pk w0 V0 B g gr (w.alloc o) U D := h.below ((Below.refl _ _).alloc (Nat.le_refl _) _)
theorem Pk.drew (h : Pk w0 V0 B g gr w U D) : Pk w0 V0 B g gr w.drew U D := h.below (Below.refl _ _).drew
theorem Pk.nBox (h : Pk w0 V0 B g gr w U D) : NotIn U g := h.box.notIn h.desk
theorem Pk.nRes (h : Pk w0 V0 B g gr w U D) : NotIn U gr := h.res.notIn h.desk
theorem Pk.size (h : Pk w0 V0 B g gr w U D) : w0.heap.size ≤ w.heap.size := h.step.size
theorem Pk.lts (h : Pk w0 V0 B g gr w U D) : g < w.heap.size ∧ gr < w.heap.size := ⟨RowIs.lt h.box, RowIs.lt h.res⟩
/-- Behind a call that hands back a desk: the box holds the old one still. -/
theorem Pk.mid (h : Pk w0 V0 B g gr w U D) {U' : DV} (hs : DStep w U w' U') : Boxed w' g U ∧ Boxed w' gr DV.nil ∧ DStep w0 V0 w' U' := ⟨h.box.step hs h.nBox, h.res.step hs h.nRes, h.step.trans hs⟩
/-- .. and the box is stored. -/
theorem Pk.put (h : Pk w0 V0 B g gr w U D) {U' : DV} {D' : Dsk} (hd : DeskAt w' B U' D') (hs : DStep w U w' U') : Pk w0 V0 B g gr (putDesk w' g U') U' D' := by
  obtain ⟨h1, h2, h3⟩ := h.mid hs
  have hn := h1.notIn hd
  exact ⟨hd.setAll hn _ _ _ _, h3.setAll h.gl _ _ _ _, h1.setAll U', h2.otherAll h.ne _ _ _ _, h.ne, h.gl, h.grl⟩
/-- .. or the result is. -/
theorem Pk.out (h : Pk w0 V0 B g gr w U D) {U' : DV} {D' : Dsk} (hd : DeskAt w' B U' D') (hs : DStep w U w' U') : DeskAt (putDesk w' gr U') B U' D' ∧ DStep w0 V0 (putDesk w' gr U') U' ∧ Boxed (putDesk w' gr U') gr U' := by
  obtain ⟨h1, h2, h3⟩ := h.mid hs
  have hn := h2.notIn hd
  exact ⟨hd.setAll hn _ _ _ _, h3.setAll h.grl _ _ _ _, h2.setAll U'⟩
theorem Pk.outSame (h : Pk w0 V0 B g gr w U D) : DeskAt (putDesk w gr U) B U D ∧ DStep w0 V0 (putDesk w gr U) U ∧ Boxed (putDesk w gr U) gr U := h.out h.desk (DStep.refl _ _)
/-- The waiting row has grown; its field is stored. -/
theorem Pk.waitGrown (h : Pk w0 V0 B g gr w U D) {v : Value} {L : List OpV} {n : Nat} (hg : w.grownBy w' U.w.ownBlock) (ho : w'.ownsRow B 92 3 v n (opCells L)) (hat : v.ownBlock = U.w.ownBlock ∨ v.ownBlock = some w.heap.size) :
    Boxed w' g U ∧ Boxed w' gr DV.nil ∧ Pk w0 V0 B g gr (w'.setCell ⟨g, 1, none⟩ v) ⟨U.d, v, U.l, U.k⟩ ⟨D.done, L, D.locks, D.dead⟩ := by
  have hb := h.box.grown hg h.nBox.2.1
  have hr := h.res.grown hg h.nRes.2.1
  have hd := h.desk.growW hg ho hat
  exact ⟨hb, hr, hd.set (hb.notIn hd) 1 v, (h.step.growW hg hat).set h.gl 1 v, hb.setW v, hr.other h.ne 1 v, h.ne, h.gl, h.grl⟩
/-- A new waiting row is stored. -/
theorem Pk.waitNew (h : Pk w0 V0 B g gr w U D) {v : Value} {L : List OpV} {n H : Nat} (ho : w.ownsRow H 92 3 v n (opCells L)) (hB : B ≤ H) (h0 : w0.heap.size ≤ H) (hU : ∀ b, H ≤ b → NotIn U b) :
    Pk w0 V0 B g gr (w.setCell ⟨g, 1, none⟩ v) ⟨U.d, v, U.l, U.k⟩ ⟨D.done, L, D.locks, D.dead⟩ := by
  have hlt : ∀ b, v.ownBlock = some b → H ≤ b := fun b hb => (World.ownsRow.lt ho b hb).1
  have hd := h.desk.newW (own_base ho hB) fun b hb e => (hU b (hlt b e)).1 hb
  have hs := h.step.newW (v := v) fun b hb => Nat.le_trans h0 (hlt b hb)
  exact ⟨hd.set (h.box.notIn hd) 1 v, hs.set h.gl 1 v, h.box.setW v, h.res.other h.ne 1 v, h.ne, h.gl, h.grl⟩
end
/-- A box of an operation beside a desk. -/
structure OB (w : World) (U : DV) (g : Nat) (o : OpV) : Prop where
  box : OBox w g o
  no : NotIn U g
section
variable {w w' : World} {U U' : DV} {g : Nat} {o : OpV}
theorem OB.lt (h : OB w U g o) : g < w.heap.size := RowIs.lt h.box
theorem OB.below (h : OB w U g o) (hb : Below w.heap.size w w') : OB w' U g o := ⟨h.box.below hb, h.no⟩
theorem OB.step (h : OB w U g o) (hs : DStep w U w' U') : OB w' U' g o := ⟨h.box.step hs h.no, hs.notIn h.lt h.no⟩
theorem OB.put (h : OB w U g o) {g' : Nat} (hne : g' ≠ g) (V : DV) : OB (putDesk w g' V) U g o := ⟨(((h.box.other hne 0 V.d).other hne 1 V.w).other hne 2 V.l).other hne 3 V.k, h.no⟩
end
end Go.Proofs.Ytcakjhappchlmaa
