/-
  Texts that the proof rests on, joined: part 45.
-/
import Derived.Test.YtncebpmckbcabaaSJ39
import Derived.Test.YtncebpmckbcabaaSJ44
namespace Go.Proofs.Ytncebpmckbcabaa
open Go.RowKit Go.BigFrame
set_option linter.unusedVariables false

/-- A desk as it lies in memory. -/
def RDesk (w : World) (D : Dsk) (V : DV) : Prop := ∃ (Ad Aw Al Ak : Option Addr) (nd nw nl nk cd cw cl ck : Nat),
  V = ⟨.slice Ad nd cd, .slice Aw nw cw, .slice Al nl cl, .slice Ak nk ck⟩ ∧ ROps w Ad nd D.done ∧ ROps w Aw nw D.wait ∧ ROps w Al nl D.locks ∧ RInts w Ak nk D.dead
theorem RDesk.below {w w' : World} {D : Dsk} {V : DV} (h : RDesk w D V) (hb : Below w.heap.size w w') : RDesk w' D V := by
  obtain ⟨Ad, Aw, Al, Ak, nd, nw, nl, nk, cd, cw, cl, ck, rfl, h1, h2, h3, h4⟩ := h
  exact ⟨Ad, Aw, Al, Ak, nd, nw, nl, nk, cd, cw, cl, ck, rfl, h1.below hb (Nat.le_refl _), h2.below hb (Nat.le_refl _), h3.below hb (Nat.le_refl _), h4.below hb (Nat.le_refl _)⟩
theorem RDesk.at_ {w : World} {B : Nat} {D : Dsk} {V : DV} (h : DeskAt w B V D) (hl : D.done.length ≤ 9000 ∧ D.wait.length ≤ 9000 ∧ D.locks.length ≤ 9000 ∧ D.dead.length ≤ 9000) : RDesk w D V := by
  obtain ⟨Ad, Aw, Al, Ak, nd, nw, nl, nk, cd, cw, cl, ck, rfl, hcs, h1, h2, h3, h4⟩ := h.forms
  exact ⟨Ad, Aw, Al, Ak, nd, nw, nl, nk, cd, cw, cl, ck, rfl, ROps.of_own (h.doneN h1) (by omega), ROps.of_own (h.waitN h2) (by omega), ROps.of_own (h.locksN h3) (by omega), RInts.of_own (h.deadN h4) (by omega)⟩
/-- A desk in new memory: its blocks apart from each other and from others. -/
def FDesk (w0 w : World) (D : Dsk) (V : DV) : Prop := ∃ (Ad Aw Al Ak : Option Addr) (nd nw nl nk : Nat),
  V = ⟨.slice Ad nd nd, .slice Aw nw nw, .slice Al nl nl, .slice Ak nk nk⟩ ∧ FreshOps w0 w Ad nd D.done ∧ FreshOps w0 w Aw nw D.wait ∧ FreshSteps w0 w Al nl D.locks ∧ FreshInts w0 w Ak nk D.dead ∧ Apart Ad Aw
theorem DeskR.face {w0 w : World} {D : Dsk} {v : Value} (h : DeskR w0 w D v) : ∃ V : DV, v = V.val ∧ FDesk w0 w D V := by
  obtain ⟨Ad, Aw, Al, Ak, nd, nw, nl, nk, rfl, hh⟩ := h
  exact ⟨⟨.slice Ad nd nd, .slice Aw nw nw, .slice Al nl nl, .slice Ak nk nk⟩, rfl, Ad, Aw, Al, Ak, nd, nw, nl, nk, rfl, hh⟩
theorem FDesk.desk {w0 w : World} {D : Dsk} {V : DV} (h : FDesk w0 w D V) : RDesk w D V := by
  obtain ⟨Ad, Aw, Al, Ak, nd, nw, nl, nk, rfl, h1, h2, h3, h4, _⟩ := h
  exact ⟨Ad, Aw, Al, Ak, nd, nw, nl, nk, nd, nw, nl, nk, rfl, h1.1, h2.1, h3.1, h4.1⟩
theorem FDesk.below {w0 w w' : World} {D : Dsk} {V : DV} (h : FDesk w0 w D V) (hb : Below w.heap.size w w') : FDesk w0 w' D V := by
  obtain ⟨Ad, Aw, Al, Ak, nd, nw, nl, nk, rfl, h1, h2, h3, h4, h5⟩ := h
  exact ⟨Ad, Aw, Al, Ak, nd, nw, nl, nk, rfl, h1.below hb, h2.below hb, h3.below hb, h4.below hb, h5⟩
theorem FDesk.grown {w0 w w' : World} {D : Dsk} {V : DV} {row : Option Nat} (h : FDesk w0 w D V) (hg : w.grownBy w' row) (hr : ∀ b, row = some b → b < w0.heap.size) : FDesk w0 w' D V := by
  obtain ⟨Ad, Aw, Al, Ak, nd, nw, nl, nk, rfl, h1, h2, h3, h4, h5⟩ := h
  exact ⟨Ad, Aw, Al, Ak, nd, nw, nl, nk, rfl, h1.grown hg (fun a ha e => by have := hr _ e; have := (h1.at_ a ha).1; omega), h2.grown hg (fun a ha e => by have := hr _ e; have := (h2.at_ a ha).1; omega), h3.grown hg (fun a ha e => by have := hr _ e; have := (h3.at_ a ha).1; omega), h4.grown hg (fun a ha e => by have := hr _ e; have := (h4.at_ a ha).1; omega), h5⟩
def aOf : Value → Option Addr
  | .slice A _ _ => A
  | _ => none
/-- From w to w' only the desk's own blocks, and what is new, have turned. -/
structure Sp (V : DV) (w w' : World) : Prop where
  os : w'.os = w.os
  tape : w'.tape = w.tape
  output : w'.output = w.output
  size : w.heap.size ≤ w'.heap.size
  block : ∀ i, i < w.heap.size → (∀ v ∈ V.list, ∀ a, aOf v = some a → a.block ≠ i) → w'.heap[i]? = w.heap[i]?
theorem Sp.refl (V : DV) (w : World) : Sp V w w := ⟨rfl, rfl, rfl, Nat.le_refl _, fun _ _ _ => rfl⟩
theorem Sp.below {V : DV} {w w1 w2 : World} (h : Sp V w w1) (hb : Below w1.heap.size w1 w2) : Sp V w w2 :=
  ⟨hb.os.trans h.os, hb.tape.trans h.tape, hb.output.trans h.output, Nat.le_trans h.size hb.size, fun i hi hn => (hb.block i (Nat.lt_of_lt_of_le hi h.size)).trans (h.block i hi hn)⟩
theorem Sp.grown {V : DV} {w w1 w2 : World} {v : Value} (h : Sp V w w1) (hv : v ∈ V.list) (hg : w1.grownBy w2 ((aOf v).map Addr.block)) : Sp V w w2 :=
  ⟨hg.os.trans h.os, hg.tape.trans h.tape, hg.output.trans h.output, Nat.le_trans h.size hg.size, fun i hi hn => (hg.block i (Nat.lt_of_lt_of_le hi h.size) (fun e => by
    cases ha : aOf v with
    | none => rw [ha] at e; cases e
    | some a => rw [ha] at e; injection e with e; exact hn v hv a ha e.symm)).trans (h.block i hi hn)⟩
/-- The desk that the marks make. -/
def markD (k : Int) (D : Dsk) : Dsk := ⟨mkOps k D.done.length, mkOps (k + 3 * D.done.length) D.wait.length, mkOps (k + 3 * D.done.length + 3 * D.wait.length) D.locks.length, mkInts (k + 3 * D.done.length + 3 * D.wait.length + 3 * D.locks.length) D.dead.length⟩
def endD (k : Int) (D : Dsk) : Int := k + 3 * D.done.length + 3 * D.wait.length + 3 * D.locks.length + D.dead.length
theorem two_boxes {w W : World} {V U : DV} (hW : W = (w.alloc (.cells V.list.toArray 28)).alloc (.cells U.list.toArray 28)) : Boxed W w.heap.size V ∧ Boxed W (w.heap.size + 1) U ∧ Below w.heap.size w W := by
  have h1 : Boxed (w.alloc (.cells V.list.toArray 28)) w.heap.size V := Boxed.new w V
  have h2 : Boxed W (w.heap.size + 1) U := by
    have := Boxed.new (w.alloc (.cells V.list.toArray 28)) U
    rw [World.size_alloc] at this
    rw [hW]
    exact this
  exact ⟨by rw [hW]; exact h1.alloc _, h2, by rw [hW]; exact ((Below.refl _ _).alloc (Nat.le_refl _) _).alloc (by simp) _⟩
set_option maxRecDepth 100000 in
set_option maxHeartbeats 2000000 in
theorem eqDesk_any (D : Dsk) (V U : DV) (w : World) (h : RDesk w D V) (h' : RDesk w D U) :
    Calls Try.prog 12 #[V.val, U.val] w fun e w' => e = .returned (.bool true) ∧ Below w.heap.size w w' := by
  obtain ⟨Ad, Aw, Al, Ak, nd, nw, nl, nk, cd, cw, cl, ck, rfl, h1, h2, h3, h4⟩ := h
  obtain ⟨Bd, Bw, Bl, Bk, md, mw, ml, mk, dd, dw, dl, dk, rfl, g1, g2, g3, g4⟩ := h'
  obtain ⟨W, hW⟩ : ∃ W : World, W = (w.alloc (.cells #[.slice Ad nd cd, .slice Aw nw cw, .slice Al nl cl, .slice Ak nk ck] 28)).alloc (.cells #[.slice Bd md dd, .slice Bw mw dw, .slice Bl ml dl, .slice Bk mk dk] 28) := ⟨_, rfl⟩
  obtain ⟨hx, hy, hbW⟩ := two_boxes (V := ⟨.slice Ad nd cd, .slice Aw nw cw, .slice Al nl cl, .slice Ak nk ck⟩) (U := ⟨.slice Bd md dd, .slice Bw mw dw, .slice Bl ml dl, .slice Bk mk dk⟩) hW
  have HB := Lib.hid hbW
  have HX := Lib.hid hx
  have HY := Lib.hid hy
  have H1 := Lib.hid (And.intro (h1.below hbW (Nat.le_refl _)) (g1.below hbW (Nat.le_refl _)))
  have H2 := Lib.hid (And.intro (h2.below hbW (Nat.le_refl _)) (g2.below hbW (Nat.le_refl _)))
  have H3 := Lib.hid (And.intro (h3.below hbW (Nat.le_refl _)) (g3.below hbW (Nat.le_refl _)))
  have H4 := Lib.hid (And.intro (h4.below hbW (Nat.le_refl _)) (g4.below hbW (Nat.le_refl _)))
  obtain ⟨p0, p1, p2, p3⟩ := hx.cells
  obtain ⟨q0, q1, q2, q3⟩ := hy.cells
  simp only at p0 p1 p2 p3 q0 q1 q2 q3
  have r0 := p0
  have r1 := q0
  rw [hW] at r0 r1
  have HW := Lib.hid hW
  clear h1 h2 h3 h4 g1 g2 g3 g4 hx hy hbW hW
  unfold DV.val
  simp only
  go_enter Try.func12, Try.ntmps12
  go_wp2_with fail
  rw [← HW.out]
  clear r0 r1
  refine (eqOpS_any Ad Bd nd md cd dd D.done D.done W H1.out.1 H1.out.2).mono ?_
  rw [beq_self_eq_true]
  rintro e w1 ⟨rfl, hb1⟩
  have HB1 := Lib.hid (hb1)
  clear hb1
  obtain ⟨p0, p1, p2, p3⟩ := (HX.out.below HB1.out).cells
  obtain ⟨q0, q1, q2, q3⟩ := (HY.out.below HB1.out).cells
  simp only at p0 p1 p2 p3 q0 q1 q2 q3
  go_wp2_with fail
  refine (eqOpS_any Aw Bw nw mw cw dw D.wait D.wait w1 (H2.out.1.below HB1.out (Nat.le_refl _)) (H2.out.2.below HB1.out (Nat.le_refl _))).mono ?_
  rw [beq_self_eq_true]
  rintro e w2 ⟨rfl, hb2⟩
  have HB2 := Lib.hid (HB1.out.trans (hb2.mono HB1.out.size))
  clear hb2
  obtain ⟨p0, p1, p2, p3⟩ := (HX.out.below HB2.out).cells
  obtain ⟨q0, q1, q2, q3⟩ := (HY.out.below HB2.out).cells
  simp only at p0 p1 p2 p3 q0 q1 q2 q3
  go_wp2_with fail
  refine (eqStepS_any Al Bl nl ml cl dl D.locks D.locks w2 (H3.out.1.below HB2.out (Nat.le_refl _)) (H3.out.2.below HB2.out (Nat.le_refl _))).mono ?_
  rw [beq_self_eq_true]
  rintro e w3 ⟨rfl, hb3⟩
  have HB3 := Lib.hid (HB2.out.trans (hb3.mono HB2.out.size))
  clear hb3
  obtain ⟨p0, p1, p2, p3⟩ := (HX.out.below HB3.out).cells
  obtain ⟨q0, q1, q2, q3⟩ := (HY.out.below HB3.out).cells
  simp only at p0 p1 p2 p3 q0 q1 q2 q3
  go_wp2_with fail
  refine (eqIntS_any Ak Bk nk mk ck dk D.dead D.dead w3 (H4.out.1.below HB3.out (Nat.le_refl _)) (H4.out.2.below HB3.out (Nat.le_refl _))).mono ?_
  rw [beq_self_eq_true]
  rintro e w4 ⟨rfl, hb4⟩
  have HB4 := Lib.hid (HB3.out.trans (hb4.mono HB3.out.size))
  clear hb4
  have hbF := HB.out.trans (HB4.out.mono HB.out.size)
  go_wp2_with fail
  go_ret
  exact ⟨rfl, hbF⟩
set_option maxRecDepth 100000 in
set_option maxHeartbeats 2000000 in
theorem heldDesk_any (D : Dsk) (V : DV) (w : World) (h : RDesk w (markD 1 D) V) (hl : D.done.length ≤ 9000 ∧ D.wait.length ≤ 9000 ∧ D.locks.length ≤ 9000 ∧ D.dead.length ≤ 9000) :
    Calls Try.prog 16 #[V.val, .int .i64 1] w fun e w' => e = .returned (.int .i64 (endD 1 D)) ∧ Below w.heap.size w w' := by
  obtain ⟨Ad, Aw, Al, Ak, nd, nw, nl, nk, cd, cw, cl, ck, rfl, h1, h2, h3, h4⟩ := h
  obtain ⟨W, hW⟩ : ∃ W : World, W = w.alloc (.cells #[.slice Ad nd cd, .slice Aw nw cw, .slice Al nl cl, .slice Ak nk ck] 28) := ⟨_, rfl⟩
  have hx : Boxed W w.heap.size ⟨.slice Ad nd cd, .slice Aw nw cw, .slice Al nl cl, .slice Ak nk ck⟩ := by rw [hW]; exact Boxed.new w ⟨.slice Ad nd cd, .slice Aw nw cw, .slice Al nl cl, .slice Ak nk ck⟩
  have hbW : Below w.heap.size w W := by rw [hW]; exact (Below.refl _ _).alloc (Nat.le_refl _) _
  have e1 : D.done.length = nd := (mkOps_len _ _).symm.trans h1.1
  have e2 : D.wait.length = nw := (mkOps_len _ _).symm.trans h2.1
  have e3 : D.locks.length = nl := (mkOps_len _ _).symm.trans h3.1
  have e4 : D.dead.length = nk := (mkInts_len _ _).symm.trans h4.1
  unfold markD at h1 h2 h3 h4
  unfold endD
  simp only at h1 h2 h3 h4
  rw [e1, e2, e3, e4] at hl
  rw [e1] at h1 h2 h3 h4
  rw [e2] at h2 h3 h4
  rw [e3] at h3 h4
  rw [e4] at h4
  rw [e1, e2, e3, e4]
  clear e1 e2 e3 e4
  obtain ⟨l1, l2, l3, l4⟩ := hl
  have HB := Lib.hid hbW
  have HX := Lib.hid hx
  have H1 := Lib.hid (h1.below hbW (Nat.le_refl _))
  have H2 := Lib.hid (h2.below hbW (Nat.le_refl _))
  have H3 := Lib.hid (h3.below hbW (Nat.le_refl _))
  have H4 := Lib.hid (h4.below hbW (Nat.le_refl _))
  obtain ⟨p0, p1, p2, p3⟩ := hx.cells
  simp only at p0 p1 p2 p3
  have q0 := p0
  rw [hW] at q0
  have HW := Lib.hid hW
  clear h1 h2 h3 h4 hx hbW hW
  unfold DV.val
  simp only
  go_enter Try.func16, Try.ntmps16
  go_wp2_with fail
  rw [← HW.out]
  clear q0
  refine (heldOpS_any Ad nd cd 1 W H1.out (by omega) (by omega)).mono ?_
  rintro e w1 ⟨rfl, hb1⟩
  have t1 : ¬ ((1 : Int) + 3 * nd < 0) := by omega
  have HB1 := Lib.hid hb1
  obtain ⟨p0, p1, p2, p3⟩ := (HX.out.below hb1).cells
  simp only at p0 p1 p2 p3
  clear hb1
  go_wp2_with fail
  refine (heldOpS_any Aw nw cw (1 + 3 * nd) w1 (H2.out.below HB1.out (Nat.le_refl _)) (by omega) (by omega)).mono ?_
  rintro e w2 ⟨rfl, hb2⟩
  have t2 : ¬ ((1 : Int) + 3 * nd + 3 * nw < 0) := by omega
  have HB2 := Lib.hid (HB1.out.trans (hb2.mono HB1.out.size))
  obtain ⟨p0, p1, p2, p3⟩ := (HX.out.below HB2.out).cells
  simp only at p0 p1 p2 p3
  clear hb2 HB1
  go_wp2_with fail
  refine (heldStepS_any Al nl cl (1 + 3 * nd + 3 * nw) w2 (H3.out.below HB2.out (Nat.le_refl _)) (by omega) (by omega)).mono ?_
  rintro e w3 ⟨rfl, hb3⟩
  have t3 : ¬ ((1 : Int) + 3 * nd + 3 * nw + 3 * nl < 0) := by omega
  have HB3 := Lib.hid (HB2.out.trans (hb3.mono HB2.out.size))
  obtain ⟨p0, p1, p2, p3⟩ := (HX.out.below HB3.out).cells
  simp only at p0 p1 p2 p3
  clear hb3 HB2
  go_wp2_with fail
  refine (heldIntS_any Ak nk ck (1 + 3 * nd + 3 * nw + 3 * nl) w3 (H4.out.below HB3.out (Nat.le_refl _)) (by omega) (by omega)).mono ?_
  rintro e w4 ⟨rfl, hb4⟩
  have t4 : ¬ ((1 : Int) + 3 * nd + 3 * nw + 3 * nl + nk < 0) := by omega
  have hbF := HB.out.trans ((HB3.out.trans (hb4.mono HB3.out.size)).mono HB.out.size)
  go_wp2_with fail
  go_ret
  exact ⟨rfl, hbF⟩
set_option maxRecDepth 100000 in
set_option maxHeartbeats 2000000 in
theorem markDesk_any (D : Dsk) (V : DV) (w0 w : World) (h : FDesk w0 w D V) (hl : D.done.length ≤ 9000 ∧ D.wait.length ≤ 9000 ∧ D.locks.length ≤ 9000 ∧ D.dead.length ≤ 9000) :
    Calls Try.prog 15 #[V.val, .int .i64 1] w fun e w' => e = .returned (.int .i64 (endD 1 D)) ∧ RDesk w' (markD 1 D) V ∧ Sp V w w' := by
  obtain ⟨Ad, Aw, Al, Ak, nd, nw, nl, nk, rfl, h1, h2, h3, h4, hap⟩ := h
  obtain ⟨W, hW⟩ : ∃ W : World, W = w.alloc (.cells #[.slice Ad nd nd, .slice Aw nw nw, .slice Al nl nl, .slice Ak nk nk] 28) := ⟨_, rfl⟩
  have hx : Boxed W w.heap.size ⟨.slice Ad nd nd, .slice Aw nw nw, .slice Al nl nl, .slice Ak nk nk⟩ := by rw [hW]; exact Boxed.new w ⟨.slice Ad nd nd, .slice Aw nw nw, .slice Al nl nl, .slice Ak nk nk⟩
  have hbW : Below w.heap.size w W := by rw [hW]; exact (Below.refl _ _).alloc (Nat.le_refl _) _
  have e1 : D.done.length = nd := h1.1.1
  have e2 : D.wait.length = nw := h2.1.1
  have e3 : D.locks.length = nl := h3.1.1
  have e4 : D.dead.length = nk := h4.1.1
  unfold markD endD
  rw [e1, e2, e3, e4]
  rw [e1, e2, e3, e4] at hl
  obtain ⟨l1, l2, l3, l4⟩ := hl
  have a1 := fun a ha => (h1.at_ a ha).2
  have a2 := fun a ha => (h2.at_ a ha).2
  have a3 := fun a ha => (h3.at_ a ha).2
  have a4 := fun a ha => (h4.at_ a ha).2
  have k13 : Hid (Apart Ad Al) := fun a b ha hb e => by
    obtain ⟨g, cur, rfl, _, hg, _⟩ := h1.2 a ha
    obtain ⟨g', cur', rfl, _, hg', _⟩ := h3.2 b hb
    simp only at e
    subst e
    rw [hg] at hg'
    injection hg' with hg'
    injection hg' with _ ht
    exact absurd ht (by decide)
  have k23 : Hid (Apart Aw Al) := fun a b ha hb e => by
    obtain ⟨g, cur, rfl, _, hg, _⟩ := h2.2 a ha
    obtain ⟨g', cur', rfl, _, hg', _⟩ := h3.2 b hb
    simp only at e
    subst e
    rw [hg] at hg'
    injection hg' with hg'
    injection hg' with _ ht
    exact absurd ht (by decide)
  have k14 : Hid (Apart Ad Ak) := fun a b ha hb e => by
    obtain ⟨g, cur, rfl, _, hg, _⟩ := h1.2 a ha
    obtain ⟨g', cur', rfl, _, hg', _⟩ := h4.2 b hb
    simp only at e
    subst e
    rw [hg] at hg'
    injection hg' with hg'
    injection hg' with _ ht
    exact absurd ht (by decide)
  have k24 : Hid (Apart Aw Ak) := fun a b ha hb e => by
    obtain ⟨g, cur, rfl, _, hg, _⟩ := h2.2 a ha
    obtain ⟨g', cur', rfl, _, hg', _⟩ := h4.2 b hb
    simp only at e
    subst e
    rw [hg] at hg'
    injection hg' with hg'
    injection hg' with _ ht
    exact absurd ht (by decide)
  have k34 : Hid (Apart Al Ak) := fun a b ha hb e => by
    obtain ⟨g, cur, rfl, _, hg, _⟩ := h3.2 a ha
    obtain ⟨g', cur', rfl, _, hg', _⟩ := h4.2 b hb
    simp only at e
    subst e
    rw [hg] at hg'
    injection hg' with hg'
    injection hg' with _ ht
    exact absurd ht (by decide)
  have HA := Lib.hid hap
  have HN : Hid (∀ A : Option Addr, (A = Ad ∨ A = Aw ∨ A = Al ∨ A = Ak) → A.map Addr.block ≠ some w.heap.size) := fun A hA e => by
    cases A with
    | none => cases e
    | some a =>
      injection e with e
      rcases hA with hA | hA | hA | hA
      · have := a1 a hA.symm; omega
      · have := a2 a hA.symm; omega
      · have := a3 a hA.symm; omega
      · have := a4 a hA.symm; omega
  have HSP : Hid (Sp ⟨.slice Ad nd nd, .slice Aw nw nw, .slice Al nl nl, .slice Ak nk nk⟩ w W) := (Sp.refl _ _).below hbW
  have HX := Lib.hid hx
  have H1 := Lib.hid (h1.below hbW)
  have H2 := Lib.hid (h2.below hbW)
  have H3 := Lib.hid (h3.below hbW)
  have H4 := Lib.hid (h4.below hbW)
  obtain ⟨p0, p1, p2, p3⟩ := hx.cells
  simp only at p0 p1 p2 p3
  have q0 := p0
  rw [hW] at q0
  have HW := Lib.hid hW
  clear h1 h2 h3 h4 hx hbW hW e1 e2 e3 e4 a1 a2 a3 a4 hap
  unfold DV.val
  simp only
  go_enter Try.func15, Try.ntmps15
  go_wp2_with fail
  rw [← HW.out]
  clear q0
  refine (markOpS_any Ad nd nd D.done 1 w0 W H1.out (by omega) (by omega)).mono ?_
  rintro e w1 ⟨rfl, hm1, hg1⟩
  have HX1 := Lib.hid (HX.out.grown hg1 (HN.out Ad (.inl rfl)))
  have HS1 := Lib.hid (HSP.out.grown (v := .slice Ad nd nd) (by simp [DV.list]) hg1)
  have H21 := Lib.hid (H2.out.grown hg1 HA.out.row)
  have H31 := Lib.hid (H3.out.grown hg1 k13.out.row)
  have H41 := Lib.hid (H4.out.grown hg1 k14.out.row)
  have M1 := Lib.hid hm1
  obtain ⟨p0, p1, p2, p3⟩ := HX1.out.cells
  simp only at p0 p1 p2 p3
  clear hm1 hg1 HX HSP H1 H2 H3 H4
  go_wp2_with fail
  refine (markOpS_any Aw nw nw D.wait (1 + 3 * nd) w0 w1 H21.out (by omega) (by omega)).mono ?_
  rintro e w2 ⟨rfl, hm2, hg2⟩
  have HX2 := Lib.hid (HX1.out.grown hg2 (HN.out Aw (.inr (.inl rfl))))
  have HS2 := Lib.hid (HS1.out.grown (v := .slice Aw nw nw) (by simp [DV.list]) hg2)
  have M12 := Lib.hid (M1.out.grown hg2 HA.out.symm.row)
  have H32 := Lib.hid (H31.out.grown hg2 k23.out.row)
  have H42 := Lib.hid (H41.out.grown hg2 k24.out.row)
  have M2 := Lib.hid hm2
  obtain ⟨p0, p1, p2, p3⟩ := HX2.out.cells
  simp only at p0 p1 p2 p3
  clear hm2 hg2 HX1 HS1 H21 H31 H41 M1
  go_wp2_with fail
  refine (markStepS_any Al nl nl D.locks (1 + 3 * nd + 3 * nw) w0 w2 H32.out (by omega) (by omega)).mono ?_
  rintro e w3 ⟨rfl, hm3, hg3⟩
  have HX3 := Lib.hid (HX2.out.grown hg3 (HN.out Al (.inr (.inr (.inl rfl)))))
  have HS3 := Lib.hid (HS2.out.grown (v := .slice Al nl nl) (by simp [DV.list]) hg3)
  have M13 := Lib.hid (M12.out.grown hg3 k13.out.symm.row)
  have M23 := Lib.hid (M2.out.grown hg3 k23.out.symm.row)
  have H43 := Lib.hid (H42.out.grown hg3 k34.out.row)
  have M3 := Lib.hid hm3
  obtain ⟨p0, p1, p2, p3⟩ := HX3.out.cells
  simp only at p0 p1 p2 p3
  clear hm3 hg3 HX2 HS2 H32 H42 M12 M2
  go_wp2_with fail
  refine (markIntS_any Ak nk nk D.dead (1 + 3 * nd + 3 * nw + 3 * nl) w0 w3 H43.out (by omega) (by omega)).mono ?_
  rintro e w4 ⟨rfl, hm4, hg4⟩
  have HS4 := Lib.hid (HS3.out.grown (v := .slice Ak nk nk) (by simp [DV.list]) hg4)
  have M14 := Lib.hid (M13.out.grown hg4 k14.out.symm.row)
  have M24 := Lib.hid (M23.out.grown hg4 k24.out.symm.row)
  have M34 := Lib.hid (M3.out.grown hg4 k34.out.symm.row)
  have M4 := Lib.hid hm4
  clear hm4 hg4 HX3 HS3 H43 M13 M23 M3
  go_wp2_with fail
  go_ret
  exact ⟨rfl, ⟨Ad, Aw, Al, Ak, nd, nw, nl, nk, nd, nw, nl, nk, rfl, M14.out, M24.out, M34.out, M4.out⟩, HS4.out⟩
end Go.Proofs.Ytncebpmckbcabaa
