/-
  Texts that the proof rests on, joined: part 15.
-/
import Derived.Test.YtncebpmckbcabaaSKp14
namespace Go.Proofs.Ytncebpmckbcabaa
open Go.RowKit Go.BigFrame
set_option linter.unusedVariables false

/-- A box of an operation. -/
def OBox (w : World) (g : Nat) (o : OpV) : Prop := RowIs w g 62 o.cells
section
variable {w w' : World} {g : Nat} {o : OpV}
theorem OBox.cells (h : OBox w g o) : w.cell? ⟨g, 0, none⟩ = some (.int .i64 o.tx) ∧ w.cell? ⟨g, 1, none⟩ = some (.int .i64 o.kind) ∧ w.cell? ⟨g, 2, none⟩ = some (.int .i64 o.item) :=
  ⟨RowIs.cell h rfl, RowIs.cell h rfl, RowIs.cell h rfl⟩
theorem OBox.below (h : OBox w g o) (hb : Below w.heap.size w w') : OBox w' g o := RowIs.below h hb (Nat.le_refl _)
theorem OBox.alloc (h : OBox w g o) (x : Obj) : OBox (w.alloc x) g o := RowIs.alloc h x
theorem OBox.step {V0 V1 : DV} (h : OBox w g o) (hs : DStep w V0 w' V1) (hn : NotIn V0 g) : OBox w' g o := hs.row h hn
theorem OBox.other (h : OBox w g o) {g' : Nat} (hne : g' ≠ g) (i : Nat) (u : Value) : OBox (w.setCell ⟨g', i, none⟩ u) g o :=
  (Below.heap_setCell w ⟨g', i, none⟩ u g (by simpa using hne.symm)).trans h
theorem OBox.new (w : World) (o : OpV) : OBox (w.alloc (.cells o.cells.toArray 62)) w.heap.size o := heap_alloc_new w _
theorem OBox.grown (h : OBox w g o) {row : Option Nat} (hg : w.grownBy w' row) (hne : row ≠ some g) : OBox w' g o := RowIs.grown h hg hne
end

set_option maxRecDepth 100000 in
set_option maxHeartbeats 400000 in
theorem grant_any (B : Nat) (V : DV) (D : Dsk) (o : OpV) (w : World) (hd : DeskAt w B V D) (hL : D.locks.length ≤ 9000) (hN : D.done.length ≤ 9000) :
    Calls Try.prog 126 #[V.val, o.val] w (DRet w B V (grantD D o)) := by
  obtain ⟨W, hW⟩ : ∃ W : World, W = ((w.alloc (.cells V.list.toArray 28)).alloc (.cells o.cells.toArray 62)).alloc (.cells DV.nil.list.toArray 28) := ⟨_, rfl⟩
  have hD0 : DeskAt W B V D := by rw [hW]; exact ((hd.alloc _).alloc _).alloc _
  have hS0 : DStep w V W V := by rw [hW]; exact (((DStep.refl w V).alloc _).alloc _).alloc _
  have hB0 : Boxed W w.heap.size V := by rw [hW]; exact ((Boxed.new w V).alloc _).alloc _
  have hO0 : OBox W (w.heap.size + 1) o := by
    rw [hW]
    have := OBox.new (w.alloc (.cells V.list.toArray 28)) o
    rw [show (w.alloc (.cells V.list.toArray 28)).heap.size = w.heap.size + 1 by simp] at this
    exact this.alloc _
  have hR0 : Boxed W (w.heap.size + 1 + 1) DV.nil := by
    rw [hW]
    have := Boxed.new ((w.alloc (.cells V.list.toArray 28)).alloc (.cells o.cells.toArray 62)) DV.nil
    rw [show ((w.alloc (.cells V.list.toArray 28)).alloc (.cells o.cells.toArray 62)).heap.size = w.heap.size + 1 + 1 by simp] at this
    exact this
  have hszW : W.heap.size = w.heap.size + 1 + 1 + 1 := by rw [hW]; simp
  have hnO : NotIn V (w.heap.size + 1) := hd.far (by omega)
  have HNO := Lib.hid hnO
  have HB := Lib.hid hd.base
  obtain ⟨tx, kd, it⟩ := o
  obtain ⟨Ad, Aw, Al, Ak, nd, nw, nl, nk, cd, cw, cl, ck, rfl, hcs, h1, h2, h3, h4⟩ := hd.forms
  have H1 := Lib.hid h1
  have H3 := Lib.hid h3
  have hbd : nd ≤ 9000 ∧ nl ≤ 9000 := by omega
  have HST := Lib.hid (And.intro hD0 (And.intro hS0 (And.intro hB0 (And.intro hO0 hR0))))
  have HW := Lib.hid hW
  have HSZ := Lib.hid hszW
  clear hD0 hS0 hB0 hO0 hR0 hW hd h1 h2 h3 h4 hszW hnO
  unfold DV.val OpV.val
  simp only
  have HW2 := HW.out
  unfold OpV.cells DV.list DV.nil at HW2
  simp only at HW2
  change W = ((w.alloc (.cells #[.slice Ad nd cd, .slice Aw nw cw, .slice Al nl cl, .slice Ak nk ck] _)).alloc (.cells #[.int .i64 tx, .int .i64 kd, .int .i64 it] _)).alloc (.cells #[.slice none 0 0, .slice none 0 0, .slice none 0 0, .slice none 0 0] _) at HW2
  have HW3 := Lib.hid HW2
  clear HW HW2
  obtain ⟨be, hbe⟩ : ∃ b, isEnd ⟨tx, kd, it⟩ = b := ⟨_, rfl⟩
  have HBE := Lib.hid hbe
  clear hbe
  cases be
  · obtain ⟨h, hh⟩ : ∃ h, heldI D.locks tx it = h := ⟨_, rfl⟩
    have HE : Hid (heldI (D.locks.take nl) tx it = h) := by show _ = _; rw [List.take_of_length_le (by have := H3.out; omega)]; exact hh
    have HH := Lib.hid hh
    clear hh
    go_enter Try.func126, Try.ntmps126
    go_wp2_with (first
      | (at_builtin; go_loud (rw [← HW3.out]; refine app_ops (.tmp 6) (.tmp 8) ((HST.out.1.doneN H1.out).alloc _) (Nat.le_trans HST.out.1.base (by simp)) (ROps.litH HSZ.out ⟨_, _, _⟩ _) (by omega) rfl rfl rfl rfl ?_; intro v3 w3 hown3 hg3 hat3; obtain ⟨A3, c3, rfl, hc3⟩ := own_form2 hown3; have hB3 := (HST.out.2.2.1.alloc (.cells #[.int .i64 tx, .int .i64 kd, .int .i64 it] 62)).grown hg3 (HST.out.2.2.1.notIn HST.out.1).1; have hR3 := (HST.out.2.2.2.2.alloc (.cells #[.int .i64 tx, .int .i64 kd, .int .i64 it] 62)).grown hg3 (HST.out.2.2.2.2.notIn HST.out.1).1; have hO3 := (HST.out.2.2.2.1.alloc (.cells #[.int .i64 tx, .int .i64 kd, .int .i64 it] 62)).grown hg3 HNO.out.1; have hD3 := (HST.out.1.alloc _).growD (L := D.done ++ [⟨tx, kd, it⟩]) hg3 hown3 hat3; have hS3 := (HST.out.2.1.alloc _).growD hg3 hat3; obtain ⟨c0, c1, c2, c3'⟩ := hB3.cells; obtain ⟨o0, o1, o2⟩ := hO3.cells; simp only at c0 c1 c2 c3' o0 o1 o2; have g0 := hB3.soft 0; have nB3 := hB3.notIn hD3; obtain ⟨Wc, hWc⟩ : ∃ u : World, u = w3.setCell ⟨w.heap.size, 0, none⟩ (.slice A3 (nd + 1) c3) := ⟨_, rfl⟩; have hDc := hD3.set nB3 0 (.slice A3 (nd + 1) c3); rw [← hWc] at hDc; have hSc := hS3.set (Nat.le_refl _) 0 (.slice A3 (nd + 1) c3); rw [← hWc] at hSc; have hBc := hB3.setD (.slice A3 (nd + 1) c3); rw [← hWc] at hBc; have hRc := hR3.other (show w.heap.size ≠ w.heap.size + 2 by omega) 0 (.slice A3 (nd + 1) c3); rw [← hWc] at hRc; have hOc := hO3.other (show w.heap.size ≠ w.heap.size + 1 by omega) 0 (.slice A3 (nd + 1) c3); rw [← hWc] at hOc; have HC := Lib.hid (And.intro hDc (And.intro hSc (And.intro hBc (And.intro hOc hRc)))); have HWC := Lib.hid hWc; clear hB3 hR3 hO3 hD3 hS3 nB3 hDc hSc hBc hRc hOc hWc HST HW3 hg3 hat3 hown3))
      | (go_at_call 89; go_loud (rw [← HWC.out]; refine (sends_any ⟨tx, kd, it⟩ _).mono ?_; rintro e w4 ⟨rfl, hb4⟩; rw [HBE.out]; have HC4 := Lib.hid (And.intro (HC.out.1.below hb4) (And.intro (HC.out.2.1.below hb4) (And.intro (HC.out.2.2.1.below hb4) (And.intro (HC.out.2.2.2.1.below hb4) (HC.out.2.2.2.2.below hb4))))); obtain ⟨d0, d1, d2, d3⟩ := HC4.out.2.2.1.cells; obtain ⟨p0, p1, p2⟩ := HC4.out.2.2.2.1.cells; simp only at d0 d1 d2 d3 p0 p1 p2; have hdr := drop_any B _ _ tx w4 HC4.out.1 (show D.locks.length ≤ 10000 by omega); simp only [DV.val] at hdr; have HDR := Lib.hid hdr; clear hdr HC HWC hb4 c0 c1 c2 c3' o0 o1 o2 g0)))
    have hlo := HC4.out.1.locksN (n := nl) H3.out
    have hro := ROps.of_own hlo (by omega)
    have L0 := Later.cell d0
    have L1 := Later.cell d1
    have L2 := Later.cell d2
    have L3 := Later.cell d3
    have P0 := Later.cell p0
    have P1 := Later.cell p1
    have P2 := Later.cell p2
    have HRO : Hid (ROps w4 Al nl D.locks) := hro
    have hcall : ∀ u : Later w4, Calls Try.prog 135 #[.slice Al nl cl, .int .i64 (nl : Int), .int .i64 tx, .int .i64 it] u.1 fun e w' => e = .returned (.int .i64 h) ∧ Below u.1.heap.size u.1 w' := fun u => by
      have := held_any Al nl cl D.locks nl tx it u.1 (HRO.out.later u) (Nat.le_refl _)
      rw [HE.out] at this
      exact this
    have HCL := Lib.hid hcall
    clear hcall hlo hro HDR d0 d1 d2 d3 p0 p1 p2
    by_cases hp : h < kd
    · have hpb : decide (h < kd) = true := by simp [hp]
      refine region_later (by kernel_rfl) (by kernel_rfl) ?_
      repeat (go_big_quiet_step ((go_at_call 135; exact later_call _ (HCL.out _))))
      refine wpQuiet_nil ?_
      rintro _ ⟨u, rfl⟩
      have d0 := L0 u
      have d1 := L1 u
      have d2 := L2 u
      have d3 := L3 u
      have p0 := P0 u
      have p1 := P1 u
      have p2 := P2 u
      have HU := Lib.hid (And.intro (HC4.out.1.below u.2) (And.intro (HC4.out.2.1.below u.2) (And.intro (HC4.out.2.2.1.below u.2) (And.intro (HC4.out.2.2.2.1.below u.2) (HC4.out.2.2.2.2.below u.2)))))
      obtain ⟨w5, hw5⟩ : ∃ w5 : World, u.1 = w5 := ⟨_, rfl⟩
      rw [hw5] at d0 d1 d2 d3 p0 p1 p2 HU ⊢
      clear L0 L1 L2 L3 P0 P1 P2 hw5 HCL HC4
      go_wp2_with (at_builtin; go_loud (refine app_steps (.tmp 31) (.tmp 39) ((HU.out.1.locksN (n := nl) H3.out).alloc _) (Nat.le_trans HU.out.1.base (by simp)) (ROps.lit1 _ ⟨_, _, _⟩ _) (by omega) rfl rfl rfl rfl ?_; intro v6 w6 hown6 hg6 hat6; obtain ⟨A6, c6, rfl, hc6⟩ := own_form2 hown6; have hB6 := (HU.out.2.2.1.alloc (.cells #[.int .i64 tx, .int .i64 kd, .int .i64 it] 73)).grown hg6 (HU.out.2.2.1.notIn HU.out.1).2.2.1; have hR6 := (HU.out.2.2.2.2.alloc (.cells #[.int .i64 tx, .int .i64 kd, .int .i64 it] 73)).grown hg6 (HU.out.2.2.2.2.notIn HU.out.1).2.2.1; have hD6 := (HU.out.1.alloc _).growL (L := D.locks ++ [⟨tx, kd, it⟩]) hg6 hown6; have hS6 := (HU.out.2.1.alloc _).growL hg6 hat6; obtain ⟨q0, q1, q2, q3⟩ := hB6.cells; obtain ⟨y0, y1, y2, y3⟩ := hR6.cells; unfold DV.nil at y0 y1 y2 y3; simp only at q0 q1 q2 q3 y0 y1 y2 y3; have f2 := hB6.soft 2; have s0 := hR6.soft 0; have s1 := hR6.soft 1; have s2 := hR6.soft 2; have s3 := hR6.soft 3; have nB6 := hB6.notIn hD6; have nR6 := hR6.notIn hD6; have hD7 := (hD6.set nB6 2 (.slice A6 (nl + 1) c6)).setAll nR6 (.slice A3 (nd + 1) c3) (.slice Aw nw cw) (.slice A6 (nl + 1) c6) (.slice Ak nk ck); have hS7 := (hS6.set (Nat.le_refl _) 2 (.slice A6 (nl + 1) c6)).setAll (show w.heap.size ≤ w.heap.size + 1 + 1 by omega) (.slice A3 (nd + 1) c3) (.slice Aw nw cw) (.slice A6 (nl + 1) c6) (.slice Ak nk ck); have hR7 := hR6.other (show w.heap.size ≠ w.heap.size + 1 + 1 by omega) 2 (.slice A6 (nl + 1) c6); have HF := Lib.hid (And.intro hD7 (And.intro hS7 hR7)); clear hB6 hR6 hD6 hS6 nB6 nR6 hD7 hS7 hR7 hown6 hg6 hat6 d0 d1 d2 d3 p0 p1 p2))
      have hF := (HF.out.2.2).setAll ⟨.slice A3 (nd + 1) c3, .slice Aw nw cw, .slice A6 (nl + 1) c6, .slice Ak nk ck⟩
      obtain ⟨d0, d1, d2, d3⟩ := hF.cells
      simp only at d0 d1 d2 d3
      refine bodyPost_ret (v := .agg #[.slice A3 (nd + 1) c3, .slice Aw nw cw, .slice A6 (nl + 1) c6, .slice Ak nk ck]) (by simp [results, Try.results126, go_sem, d0, d1, d2, d3]) rfl ?_
      refine ⟨⟨.slice A3 (nd + 1) c3, .slice Aw nw cw, .slice A6 (nl + 1) c6, .slice Ak nk ck⟩, rfl, ?_, ?_⟩
      · have e : grantD D ⟨tx, kd, it⟩ = ⟨D.done ++ [⟨tx, kd, it⟩], D.wait, D.locks ++ [⟨tx, kd, it⟩], D.dead⟩ := by
          unfold grantD grantL
          rw [if_neg (by rw [HBE.out]; simp)]
          simp only
          rw [HH.out, if_pos hp]
        rw [e]
        exact HF.out.1
      · exact HF.out.2.1
    · have hpb : decide (h < kd) = false := by simp; omega
      refine region_later (by kernel_rfl) (by kernel_rfl) ?_
      repeat (go_big_quiet_step ((go_at_call 135; exact later_call _ (HCL.out _))))
      refine wpQuiet_nil ?_
      rintro _ ⟨u, rfl⟩
      have d0 := L0 u
      have d1 := L1 u
      have d2 := L2 u
      have d3 := L3 u
      have p0 := P0 u
      have p1 := P1 u
      have p2 := P2 u
      have HU := Lib.hid (And.intro (HC4.out.1.below u.2) (And.intro (HC4.out.2.1.below u.2) (And.intro (HC4.out.2.2.1.below u.2) (And.intro (HC4.out.2.2.2.1.below u.2) (HC4.out.2.2.2.2.below u.2)))))
      obtain ⟨w5, hw5⟩ : ∃ w5 : World, u.1 = w5 := ⟨_, rfl⟩
      rw [hw5] at d0 d1 d2 d3 p0 p1 p2 HU ⊢
      clear L0 L1 L2 L3 P0 P1 P2 hw5 HCL HC4
      have hR6 := HU.out.2.2.2.2
      have nR6 := hR6.notIn HU.out.1
      obtain ⟨y0, y1, y2, y3⟩ := hR6.cells
      unfold DV.nil at y0 y1 y2 y3
      simp only at y0 y1 y2 y3
      have s0 := hR6.soft 0
      have s1 := hR6.soft 1
      have s2 := hR6.soft 2
      have s3 := hR6.soft 3
      have hD7 := HU.out.1.setAll nR6 (.slice A3 (nd + 1) c3) (.slice Aw nw cw) (.slice Al nl cl) (.slice Ak nk ck)
      have hS7 := HU.out.2.1.setAll (show w.heap.size ≤ w.heap.size + 1 + 1 by omega) (.slice A3 (nd + 1) c3) (.slice Aw nw cw) (.slice Al nl cl) (.slice Ak nk ck)
      have HF := Lib.hid (And.intro hD7 (And.intro hS7 hR6))
      clear hR6 nR6 hD7 hS7
      go_wp2_with fail
      have hF := (HF.out.2.2).setAll ⟨.slice A3 (nd + 1) c3, .slice Aw nw cw, .slice Al nl cl, .slice Ak nk ck⟩
      obtain ⟨d0, d1, d2, d3⟩ := hF.cells
      simp only at d0 d1 d2 d3
      refine bodyPost_ret (v := .agg #[.slice A3 (nd + 1) c3, .slice Aw nw cw, .slice Al nl cl, .slice Ak nk ck]) (by simp [results, Try.results126, go_sem, d0, d1, d2, d3]) rfl ?_
      refine ⟨⟨.slice A3 (nd + 1) c3, .slice Aw nw cw, .slice Al nl cl, .slice Ak nk ck⟩, rfl, ?_, ?_⟩
      · have e : grantD D ⟨tx, kd, it⟩ = ⟨D.done ++ [⟨tx, kd, it⟩], D.wait, D.locks, D.dead⟩ := by
          unfold grantD grantL
          rw [if_neg (by rw [HBE.out]; simp)]
          simp only
          rw [HH.out, if_neg (by omega)]
        rw [e]
        exact HF.out.1
      · exact HF.out.2.1
  · go_enter Try.func126, Try.ntmps126
    go_wp2_with (first
      | (at_builtin; go_loud (rw [← HW3.out]; refine app_ops (.tmp 6) (.tmp 8) ((HST.out.1.doneN H1.out).alloc _) (Nat.le_trans HST.out.1.base (by simp)) (ROps.litH HSZ.out ⟨_, _, _⟩ _) (by omega) rfl rfl rfl rfl ?_; intro v3 w3 hown3 hg3 hat3; obtain ⟨A3, c3, rfl, hc3⟩ := own_form2 hown3; have hB3 := (HST.out.2.2.1.alloc (.cells #[.int .i64 tx, .int .i64 kd, .int .i64 it] 62)).grown hg3 (HST.out.2.2.1.notIn HST.out.1).1; have hR3 := (HST.out.2.2.2.2.alloc (.cells #[.int .i64 tx, .int .i64 kd, .int .i64 it] 62)).grown hg3 (HST.out.2.2.2.2.notIn HST.out.1).1; have hO3 := (HST.out.2.2.2.1.alloc (.cells #[.int .i64 tx, .int .i64 kd, .int .i64 it] 62)).grown hg3 HNO.out.1; have hD3 := (HST.out.1.alloc _).growD (L := D.done ++ [⟨tx, kd, it⟩]) hg3 hown3 hat3; have hS3 := (HST.out.2.1.alloc _).growD hg3 hat3; obtain ⟨c0, c1, c2, c3'⟩ := hB3.cells; obtain ⟨o0, o1, o2⟩ := hO3.cells; simp only at c0 c1 c2 c3' o0 o1 o2; have g0 := hB3.soft 0; have nB3 := hB3.notIn hD3; obtain ⟨Wc, hWc⟩ : ∃ u : World, u = w3.setCell ⟨w.heap.size, 0, none⟩ (.slice A3 (nd + 1) c3) := ⟨_, rfl⟩; have hDc := hD3.set nB3 0 (.slice A3 (nd + 1) c3); rw [← hWc] at hDc; have hSc := hS3.set (Nat.le_refl _) 0 (.slice A3 (nd + 1) c3); rw [← hWc] at hSc; have hBc := hB3.setD (.slice A3 (nd + 1) c3); rw [← hWc] at hBc; have hRc := hR3.other (show w.heap.size ≠ w.heap.size + 2 by omega) 0 (.slice A3 (nd + 1) c3); rw [← hWc] at hRc; have hOc := hO3.other (show w.heap.size ≠ w.heap.size + 1 by omega) 0 (.slice A3 (nd + 1) c3); rw [← hWc] at hOc; have HC := Lib.hid (And.intro hDc (And.intro hSc (And.intro hBc (And.intro hOc hRc)))); have HWC := Lib.hid hWc; clear hB3 hR3 hO3 hD3 hS3 nB3 hDc hSc hBc hRc hOc hWc HST HW3 hg3 hat3 hown3))
      | (go_at_call 89; go_loud (rw [← HWC.out]; refine (sends_any ⟨tx, kd, it⟩ _).mono ?_; rintro e w4 ⟨rfl, hb4⟩; rw [HBE.out]; have HC4 := Lib.hid (And.intro (HC.out.1.below hb4) (And.intro (HC.out.2.1.below hb4) (And.intro (HC.out.2.2.1.below hb4) (And.intro (HC.out.2.2.2.1.below hb4) (HC.out.2.2.2.2.below hb4))))); obtain ⟨d0, d1, d2, d3⟩ := HC4.out.2.2.1.cells; obtain ⟨p0, p1, p2⟩ := HC4.out.2.2.2.1.cells; simp only at d0 d1 d2 d3 p0 p1 p2; have hdr := drop_any B _ _ tx w4 HC4.out.1 (show D.locks.length ≤ 10000 by omega); simp only [DV.val] at hdr; have HDR := Lib.hid hdr; clear hdr HC HWC hb4 c0 c1 c2 c3' o0 o1 o2 g0))
      | (go_at_call 155; go_loud (refine HDR.out.mono ?_; rintro e w5 ⟨V5, rfl, hD5, hS5⟩; have hn5 := hD5.forms; obtain ⟨Ad5, Aw5, Al5, Ak5, nd5, nw5, nl5, nk5, cd5, cw5, cl5, ck5, rfl, _⟩ := hn5; have hR5 := HC4.out.2.2.2.2.step hS5 (HC4.out.2.2.2.2.notIn HC4.out.1); have nR5 := hR5.notIn hD5; obtain ⟨y0, y1, y2, y3⟩ := hR5.cells; unfold DV.nil at y0 y1 y2 y3; simp only at y0 y1 y2 y3; have s0 := hR5.soft 0; have s1 := hR5.soft 1; have s2 := hR5.soft 2; have s3 := hR5.soft 3; have HF := Lib.hid (And.intro (hD5.setAll nR5 (.slice Ad5 nd5 cd5) (.slice Aw5 nw5 cw5) (.slice Al5 nl5 cl5) (.slice Ak5 nk5 ck5)) (And.intro ((HC4.out.2.1.trans hS5).setAll (show w.heap.size ≤ w.heap.size + 1 + 1 by omega) (.slice Ad5 nd5 cd5) (.slice Aw5 nw5 cw5) (.slice Al5 nl5 cl5) (.slice Ak5 nk5 ck5)) hR5)); clear hS5 hD5 hR5 nR5; unfold DV.val; simp only)))
    have hF := (HF.out.2.2).setAll ⟨.slice Ad5 nd5 cd5, .slice Aw5 nw5 cw5, .slice Al5 nl5 cl5, .slice Ak5 nk5 ck5⟩
    obtain ⟨d0, d1, d2, d3⟩ := hF.cells
    simp only at d0 d1 d2 d3
    refine bodyPost_ret (v := .agg #[.slice Ad5 nd5 cd5, .slice Aw5 nw5 cw5, .slice Al5 nl5 cl5, .slice Ak5 nk5 ck5]) (by simp [results, Try.results126, go_sem, d0, d1, d2, d3]) rfl ?_
    refine ⟨⟨.slice Ad5 nd5 cd5, .slice Aw5 nw5 cw5, .slice Al5 nl5 cl5, .slice Ak5 nk5 ck5⟩, rfl, ?_, ?_⟩
    · have e : grantD D ⟨tx, kd, it⟩ = ⟨D.done ++ [⟨tx, kd, it⟩], D.wait, dropL D.locks tx, D.dead⟩ := by unfold grantD grantL; rw [if_pos HBE.out]
      rw [e]
      exact HF.out.1
    · exact HF.out.2.1
end Go.Proofs.Ytncebpmckbcabaa
namespace Go.Proofs.Ytncebpmckbcabaa
open Go.RowKit Go.BigFrame
set_option linter.unusedVariables false

/-- The world behind a store of a whole desk. -/
def putDesk (w : World) (g : Nat) (V : DV) : World := (((w.setCell ⟨g, 0, none⟩ V.d).setCell ⟨g, 1, none⟩ V.w).setCell ⟨g, 2, none⟩ V.l).setCell ⟨g, 3, none⟩ V.k
theorem putDesk_size (w : World) (g : Nat) (V : DV) : (putDesk w g V).heap.size = w.heap.size := setAll_size _ _ _ _ _ _
/-- A desk in the box g, beside the box gr of the result. -/
structure Pk (w0 : World) (V0 : DV) (B g gr : Nat) (w : World) (U : DV) (D : Dsk) : Prop where
  desk : DeskAt w B U D
  step : DStep w0 V0 w U
  box : Boxed w g U
  res : Boxed w gr DV.nil
  ne : g ≠ gr
  gl : w0.heap.size ≤ g
  grl : w0.heap.size ≤ gr
section
variable {w0 w w1 w' : World} {V0 U : DV} {B g gr : Nat} {D : Dsk}
theorem Pk.below (h : Pk w0 V0 B g gr w U D) (hb : Below w.heap.size w w') : Pk w0 V0 B g gr w' U D := ⟨h.desk.below hb, h.step.below hb, h.box.below hb, h.res.below hb, h.ne, h.gl, h.grl⟩
theorem Pk.alloc (h : Pk w0 V0 B g gr w U D) (o : Obj) : Pk w0 V0 B g gr (w.alloc o) U D := h.below ((Below.refl _ _).alloc (Nat.le_refl _) _)
theorem Pk.drew (h : Pk w0 V0 B g gr w U D) : Pk w0 V0 B g gr w.drew U D := h.below (Below.refl _ _).drew
theorem Pk.nBox (h : Pk w0 V0 B g gr w U D) : NotIn U g := h.box.notIn h.desk
theorem Pk.nRes (h : Pk w0 V0 B g gr w U D) : NotIn U gr := h.res.notIn h.desk
theorem Pk.size (h : Pk w0 V0 B g gr w U D) : w0.heap.size ≤ w.heap.size := h.step.size
theorem Pk.lts (h : Pk w0 V0 B g gr w U D) : g < w.heap.size ∧ gr < w.heap.size := ⟨RowIs.lt h.box, RowIs.lt h.res⟩
/-- Behind a call that hands back a desk: the box holds the old one still. -/
theorem Pk.mid (h : Pk w0 V0 B g gr w U D) {U' : DV} (hs : DStep w U w' U') : Boxed w' g U ∧ Boxed w' gr DV.nil ∧ DStep w0 V0 w' U' := ⟨h.box.step hs h.nBox, h.res.step hs h.nRes, h.step.trans hs⟩
/-- .. and the box is stored. -/
theorem Pk.put (h : Pk w0 V0 B g gr w U D) {U' : DV} {D' : Dsk} (hd : DeskAt w' B U' D') (hs : DStep w U w' U') : Pk w0 V0 B g gr (putDesk w' g U') U' D' := by
  obtain ⟨h1, h2, h3⟩ := h.mid hs
  have hn := h1.notIn hd
  exact ⟨hd.setAll hn _ _ _ _, h3.setAll h.gl _ _ _ _, h1.setAll U', h2.otherAll h.ne _ _ _ _, h.ne, h.gl, h.grl⟩
/-- .. or the result is. -/
theorem Pk.out (h : Pk w0 V0 B g gr w U D) {U' : DV} {D' : Dsk} (hd : DeskAt w' B U' D') (hs : DStep w U w' U') : DeskAt (putDesk w' gr U') B U' D' ∧ DStep w0 V0 (putDesk w' gr U') U' ∧ Boxed (putDesk w' gr U') gr U' := by
  obtain ⟨h1, h2, h3⟩ := h.mid hs
  have hn := h2.notIn hd
  exact ⟨hd.setAll hn _ _ _ _, h3.setAll h.grl _ _ _ _, h2.setAll U'⟩
theorem Pk.outSame (h : Pk w0 V0 B g gr w U D) : DeskAt (putDesk w gr U) B U D ∧ DStep w0 V0 (putDesk w gr U) U ∧ Boxed (putDesk w gr U) gr U := h.out h.desk (DStep.refl _ _)
/-- The waiting row has grown; its field is stored. -/
theorem Pk.waitGrown (h : Pk w0 V0 B g gr w U D) {v : Value} {L : List OpV} {n : Nat} (hg : w.grownBy w' U.w.ownBlock) (ho : w'.ownsRow B 62 3 v n (opCells L)) (hat : v.ownBlock = U.w.ownBlock ∨ v.ownBlock = some w.heap.size) :
    Boxed w' g U ∧ Boxed w' gr DV.nil ∧ Pk w0 V0 B g gr (w'.setCell ⟨g, 1, none⟩ v) ⟨U.d, v, U.l, U.k⟩ ⟨D.done, L, D.locks, D.dead⟩ := by
  have hb := h.box.grown hg h.nBox.2.1
  have hr := h.res.grown hg h.nRes.2.1
  have hd := h.desk.growW hg ho hat
  exact ⟨hb, hr, hd.set (hb.notIn hd) 1 v, (h.step.growW hg hat).set h.gl 1 v, hb.setW v, hr.other h.ne 1 v, h.ne, h.gl, h.grl⟩
/-- A new waiting row is stored. -/
theorem Pk.waitNew (h : Pk w0 V0 B g gr w U D) {v : Value} {L : List OpV} {n H : Nat} (ho : w.ownsRow H 62 3 v n (opCells L)) (hB : B ≤ H) (h0 : w0.heap.size ≤ H) (hU : ∀ b, H ≤ b → NotIn U b) :
    Pk w0 V0 B g gr (w.setCell ⟨g, 1, none⟩ v) ⟨U.d, v, U.l, U.k⟩ ⟨D.done, L, D.locks, D.dead⟩ := by
  have hlt : ∀ b, v.ownBlock = some b → H ≤ b := fun b hb => (World.ownsRow.lt ho b hb).1
  have hd := h.desk.newW (own_base ho hB) fun b hb e => (hU b (hlt b e)).1 hb
  have hs := h.step.newW (v := v) fun b hb => Nat.le_trans h0 (hlt b hb)
  exact ⟨hd.set (h.box.notIn hd) 1 v, hs.set h.gl 1 v, h.box.setW v, h.res.other h.ne 1 v, h.ne, h.gl, h.grl⟩
end
/-- A box of an operation beside a desk. -/
structure OB (w : World) (U : DV) (g : Nat) (o : OpV) : Prop where
  box : OBox w g o
  no : NotIn U g
section
variable {w w' : World} {U U' : DV} {g : Nat} {o : OpV}
theorem OB.lt (h : OB w U g o) : g < w.heap.size := RowIs.lt h.box
theorem OB.below (h : OB w U g o) (hb : Below w.heap.size w w') : OB w' U g o := ⟨h.box.below hb, h.no⟩
theorem OB.step (h : OB w U g o) (hs : DStep w U w' U') : OB w' U' g o := ⟨h.box.step hs h.no, hs.notIn h.lt h.no⟩
theorem OB.put (h : OB w U g o) {g' : Nat} (hne : g' ≠ g) (V : DV) : OB (putDesk w g' V) U g o := ⟨(((h.box.other hne 0 V.d).other hne 1 V.w).other hne 2 V.l).other hne 3 V.k, h.no⟩
end
end Go.Proofs.Ytncebpmckbcabaa
