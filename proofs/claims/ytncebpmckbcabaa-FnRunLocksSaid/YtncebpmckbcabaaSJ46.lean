/-
  Texts that the proof rests on, joined: part 46.
-/
import Derived.Deep.CutRange
import Derived.Test.YtncebpmckbcabaaSJ1
import Derived.Test.YtncebpmckbcabaaSJ6
import Derived.Test.YtncebpmckbcabaaSJ21
import Derived.Test.YtncebpmckbcabaaSJ22
import Derived.Test.YtncebpmckbcabaaSJ38
import Derived.Test.YtncebpmckbcabaaSJ41
import Derived.Test.YtncebpmckbcabaaSJ42
import Derived.Test.YtncebpmckbcabaaSJ43
import Derived.Test.YtncebpmckbcabaaSJ45
namespace Go.Proofs.Ytncebpmckbcabaa
open Go.RowKit Go.BigFrame
set_option linter.unusedVariables false

theorem runDV_len (b : ByteArray) (s : List OpV) : (runDV b s).done.length ≤ 9000 ∧ (runDV b s).wait.length ≤ 9000 ∧ (runDV b s).locks.length ≤ 9000 ∧ (runDV b s).dead.length ≤ 9000 := by
  cases hok : runOk b s
  · rw [runDV_no hok]
    exact ⟨by decide, by decide, by decide, by decide⟩
  · have h := hok
    unfold runOk at h
    simp only [Bool.and_eq_true, decide_eq_true_eq] at h
    obtain ⟨hr, hv, hl⟩ := h
    cases hr' : rulOf b with
    | none => rw [hr'] at hr; cases hr
    | some r =>
      rw [runDV_of hok hr']
      have hbn := runD_bnd (r := r) (items_valid ((validS_iff s).1 hv).2.1)
      have h1 := hbn.done
      have h2 := hbn.locks
      have h3 := hbn.wait
      have h4 := hbn.dead
      omega
set_option maxRecDepth 100000 in
set_option maxHeartbeats 4000000 in
theorem exact_runLocks (b : ByteArray) (A : Option Addr) (n c : Nat) (w : World) (hbs : b.size ≤ maxLen) (hin : OpsIn w A n c) :
    Calls Try.prog 3 #[.string b, .slice A n c] w fun e w' => e = .returned (.bool true) ∧ Below w.heap.size w w' := by
  obtain ⟨hnc, hcm, hx0⟩ := hin
  unfold maxLen at hcm hbs
  by_cases hbm : 1048576 < b.size
  · clear hx0
    have hbmi : (1048576 : Int) < (b.size : Int) := by omega
    go_enter Try.func3, Try.ntmps3
    go_wp2_with fail
    go_ret
    exact ⟨rfl, Below.refl _ _⟩
  have hbmi : ¬ (1048576 : Int) < (b.size : Int) := by omega
  by_cases hbig : 1048576 < n
  · clear hx0
    go_enter Try.func3, Try.ntmps3
    go_wp2_with fail
    refine (szOpS_any A n c 1048576 w (by omega) (by omega) (by omega)).mono ?_
    rw [if_pos (by omega)]
    rintro e w1 ⟨rfl, rfl⟩
    go_wp2_with fail
    go_ret
    exact ⟨rfl, Below.refl _ _⟩
  · obtain ⟨s, hx⟩ := hx0 (by omega)
    have HX := Lib.hid hx
    obtain rfl : n = s.length := hx.1.symm
    clear hx0 hx
    have hln := runDV_len b s
    obtain ⟨D, hD⟩ : ∃ D, runDV b s = D := ⟨_, rfl⟩
    obtain ⟨ok, hok⟩ : ∃ z, runOk b s = z := ⟨_, rfl⟩
    rw [hD] at hln
    have c1 : ∀ (W : World) (P : Option Addr) (p : Nat), ROps W P s.length s → s.length ≤ p → Calls Try.prog 11 #[.string b, .slice P s.length p] W fun e w' => ∃ V : DV, e = .returned (.tuple #[V.val, .bool ok]) ∧ FDesk W w' D V ∧ Below W.heap.size W w' := fun W P p h hp => by
      have := RunLocks_any b P _ p s W h hp
      unfold RetRun at this
      rw [hD, hok] at this
      exact this.mono fun e w' ⟨h1, v, h2, h3⟩ => by
        obtain ⟨V, rfl, hV⟩ := h3.face
        exact ⟨V, h2, hV, h1⟩
    have c2 : ∀ (W : World) (P : Option Addr) (p : Nat), ROps W P s.length s → s.length ≤ p → Calls Try.prog 9 #[.string b, .slice P s.length p] W fun e w' => ∃ V : DV, e = .returned (.tuple #[V.val, .bool ok]) ∧ RDesk w' D V ∧ Below W.heap.size W w' := fun W P p h hp => by
      have := sRunLocks_any b P _ p s W h hp
      unfold RetRunS at this
      rw [hD, hok] at this
      exact this.mono fun e w' ⟨h1, V, h2, h3⟩ => ⟨V, h2, RDesk.at_ h3 hln, h1⟩
    have c3 : ∀ (W : World), Below w.heap.size w W → Calls Try.prog 10 #[.slice A s.length c] W (RetOps W s) := fun W h => toOpS_any A s.length c s W (HX.out.below h (Nat.le_refl _)) (by omega)
    have HLN := Lib.hid hln
    have hend : ¬ (endD 1 D < 0) := by unfold endD; omega
    obtain ⟨en, hen⟩ : ∃ z, endD 1 D = z := ⟨_, rfl⟩
    rw [hen] at hend
    have HEN := Lib.hid hen
    have C1 := Lib.hid c1
    have C2 := Lib.hid c2
    have C3 := Lib.hid c3
    clear c1 c2 c3 hD hok hln hen
    go_enter Try.func3, Try.ntmps3
    go_wp2_with fail
    refine (szOpS_any A s.length c 1048576 w (by omega) (by omega) (by omega)).mono ?_
    rw [if_neg (by omega)]
    rintro e w0 ⟨rfl, rfl⟩
    have hsz0 : ¬ ((1048576 : Int) - (s.length : Int) < 0) := by omega
    have hbw0 : Below w.heap.size w w := Below.refl _ _
    go_wp2_with fail
    refine (C3.out w hbw0).mono ?_
    rintro e w1 ⟨B1, d1, rfl, hd1, ⟨hr1, _⟩, hb1⟩
    have rb1 := Lib.hid hr1
    have hbw1 := Lib.hid hb1
    clear hr1 hb1 hbw0
    go_wp2_with fail
    refine (C2.out w1 B1 d1 rb1.out hd1).mono ?_
    rintro e w2 ⟨VY, rfl, hVY, hb2⟩
    obtain ⟨yd, yw, yl, yk, nyd, nyw, nyl, nyk, cyd, cyw, cyl, cyk, rfl, hy1, hy2, hy3, hy4⟩ := hVY
    obtain ⟨u2, hu2⟩ : ∃ u : World, u = w2.alloc (.cells (⟨.slice yd nyd cyd, .slice yw nyw cyw, .slice yl nyl cyl, .slice yk nyk cyk⟩ : DV).list.toArray 28) := ⟨_, rfl⟩
    have hbxu2 : Boxed u2 w2.heap.size ⟨.slice yd nyd cyd, .slice yw nyw cyw, .slice yl nyl cyl, .slice yk nyk cyk⟩ := by rw [hu2]; exact Boxed.new w2 _
    have hblu2 : Below w2.heap.size w2 u2 := by rw [hu2]; exact (Below.refl _ _).alloc (Nat.le_refl _) _
    unfold DV.list at hu2
    simp only at hu2
    change u2 = w2.alloc (.cells #[.slice yd nyd cyd, .slice yw nyw cyw, .slice yl nyl cyl, .slice yk nyk cyk] 28) at hu2
    have HYY : Hid (RDesk u2 D ⟨.slice yd nyd cyd, .slice yw nyw cyw, .slice yl nyl cyl, .slice yk nyk cyk⟩) := RDesk.below ⟨yd, yw, yl, yk, nyd, nyw, nyl, nyk, cyd, cyw, cyl, cyk, rfl, hy1, hy2, hy3, hy4⟩ hblu2
    have HBY := Lib.hid hbxu2
    have HU2 := Lib.hid hu2
    have hb02 := hbw1.out.trans (hb2.mono hbw1.out.size)
    have HW2 := Lib.hid (hb02.trans (hblu2.mono hb02.size))
    clear hy1 hy2 hy3 hy4 hb2 hbxu2 hblu2 hu2 hb02 rb1 hbw1 C2
    unfold DV.val
    simp only
    go_wp2_with fail
    rw [← HU2.out]
    clear HU2
    refine (C3.out u2 HW2.out).mono ?_
    rintro e w3 ⟨X, dx, rfl, hdx, hfx, hb3⟩
    have HX3 := Lib.hid hfx
    have HB3 := Lib.hid hb3
    have HX3s := Lib.hid HB3.out.size
    have hXlt : Hid (∀ b, X.map Addr.block = some b → b < w3.heap.size) := fun b hb => by
      cases X with
      | none => cases hb
      | some ad => injection hb with hb; rw [← hb]; exact (HX3.out.at_ ad rfl).2
    have hXge : Hid (∀ ad, X = some ad → u2.heap.size ≤ ad.block) := fun ad had => (HX3.out.at_ ad had).1
    clear hfx hb3
    have HC1 := Lib.hid (C1.out w3 X dx HX3.out.1 hdx)
    go_wp2_with fail
    refine HC1.out.mono ?_
    clear HC1
    rintro e w4 ⟨VG, rfl, hVG, hb4⟩
    have HVG0 := Lib.hid hVG
    obtain ⟨gd, gw, gl, gk, ngd, ngw, ngl, ngk, rfl, hh⟩ := hVG
    obtain ⟨cgd, hcd⟩ : ∃ z, z = ngd := ⟨_, rfl⟩
    obtain ⟨cgw, hcw⟩ : ∃ z, z = ngw := ⟨_, rfl⟩
    obtain ⟨cgl, hcl⟩ : ∃ z, z = ngl := ⟨_, rfl⟩
    obtain ⟨cgk, hck⟩ : ∃ z, z = ngk := ⟨_, rfl⟩
    have HVG : Hid (FDesk w3 w4 D ⟨.slice gd ngd cgd, .slice gw ngw cgw, .slice gl ngl cgl, .slice gk ngk cgk⟩) := by
      show FDesk _ _ _ _
      rw [hcd, hcw, hcl, hck]
      exact HVG0.out
    have hglt : ∀ v ∈ (⟨.slice gd ngd cgd, .slice gw ngw cgw, .slice gl ngl cgl, .slice gk ngk cgk⟩ : DV).list, ∀ ad, aOf v = some ad → ad.block < w4.heap.size ∧ w3.heap.size ≤ ad.block := by
      intro v hv ad had
      simp only [DV.list, List.mem_cons, List.not_mem_nil, or_false] at hv
      rcases hv with rfl | rfl | rfl | rfl
      · exact (hh.1.at_ ad had).symm
      · exact (hh.2.1.at_ ad had).symm
      · exact (hh.2.2.1.at_ ad had).symm
      · exact (hh.2.2.2.1.at_ ad had).symm
    have HGL := Lib.hid hglt
    unfold DV.val
    simp only
    rw [show (Value.slice gd ngd ngd) = .slice gd ngd cgd by rw [hcd], show (Value.slice gw ngw ngw) = .slice gw ngw cgw by rw [hcw], show (Value.slice gl ngl ngl) = .slice gl ngl cgl by rw [hcl], show (Value.slice gk ngk ngk) = .slice gk ngk cgk by rw [hck]]
    clear hcd hcw hcl hck hh HVG0 hglt
    obtain ⟨u4, hu4⟩ : ∃ u : World, u = w4.alloc (.cells (⟨.slice gd ngd cgd, .slice gw ngw cgw, .slice gl ngl cgl, .slice gk ngk cgk⟩ : DV).list.toArray 28) := ⟨_, rfl⟩
    have hbxu4 : Boxed u4 w4.heap.size ⟨.slice gd ngd cgd, .slice gw ngw cgw, .slice gl ngl cgl, .slice gk ngk cgk⟩ := by rw [hu4]; exact Boxed.new w4 _
    have hblu4 : Below w4.heap.size w4 u4 := by rw [hu4]; exact (Below.refl _ _).alloc (Nat.le_refl _) _
    unfold DV.list at hu4
    simp only at hu4
    change u4 = w4.alloc (.cells #[.slice gd ngd cgd, .slice gw ngw cgw, .slice gl ngl cgl, .slice gk ngk cgk] 28) at hu4
    have HBG := Lib.hid hbxu4
    have HU4 := Lib.hid hu4
    have HG4 := Lib.hid (HVG.out.below hblu4)
    have HX4 := Lib.hid ((HX3.out.below hb4).below hblu4)
    have hb24 := HB3.out.trans (hb4.mono HB3.out.size)
    have HB4 := Lib.hid (hb24.trans (hblu4.mono hb24.size))
    have hs34 := Lib.hid hb4.size
    clear hb4 hbxu4 hblu4 hu4 hb24 HVG HX3 HB3
    have HY : Hid (∀ W, Below u2.heap.size u2 W → Boxed W w2.heap.size ⟨.slice yd nyd cyd, .slice yw nyw cyw, .slice yl nyl cyl, .slice yk nyk cyk⟩ ∧ RDesk W D ⟨.slice yd nyd cyd, .slice yw nyw cyw, .slice yl nyl cyl, .slice yk nyk cyk⟩) := fun W hW => ⟨HBY.out.below hW, HYY.out.below hW⟩
    clear HBY HYY
    obtain ⟨y0, y1, y2, y3⟩ := (HY.out u4 HB4.out).1.cells
    obtain ⟨g0, g1, g2, g3⟩ := HBG.out.cells
    simp only at y0 y1 y2 y3 g0 g1 g2 g3
    have hoo : (ok != ok) = false := by simp
    have v0 := y0
    have v1 := y1
    have v2 := y2
    have v3 := y3
    have v4 := g0
    have v5 := g1
    have v6 := g2
    have v7 := g3
    rw [HU4.out] at v0 v1 v2 v3 v4 v5 v6 v7
    have HE := eqDesk_any D ⟨.slice gd ngd cgd, .slice gw ngw cgw, .slice gl ngl cgl, .slice gk ngk cgk⟩ ⟨.slice yd nyd cyd, .slice yw nyw cyw, .slice yl nyl cyl, .slice yk nyk cyk⟩ u4 HG4.out.desk (HY.out u4 HB4.out).2
    unfold DV.val at HE
    simp only at HE
    have HEE := Lib.hid HE
    clear HE
    go_wp2_with fail
    rw [← HU4.out]
    refine HEE.out.mono ?_
    clear HU4 HEE y0 y1 y2 y3 g0 g1 g2 g3 v0 v1 v2 v3 v4 v5 v6 v7
    rintro e w5 ⟨rfl, hb5⟩
    have HB5 := Lib.hid (HB4.out.trans (hb5.mono HB4.out.size))
    have HG5 := Lib.hid (HG4.out.below hb5)
    have HX5 := Lib.hid (HX4.out.below hb5)
    have HBG5 := Lib.hid (HBG.out.below hb5)
    clear hb5 HB4 HG4 HX4 HBG
    go_wp2_with fail
    refine (C3.out w5 (HW2.out.trans (HB5.out.mono HW2.out.size))).mono ?_
    rintro e w6 ⟨V6, d6, rfl, hd6, ⟨hr6, _⟩, hb6⟩
    have HB6 := Lib.hid (HB5.out.trans (hb6.mono HB5.out.size))
    have HG6 := Lib.hid (HG5.out.below hb6)
    have HX6 := Lib.hid (HX5.out.below hb6)
    have HBG6 := Lib.hid (HBG5.out.below hb6)
    have R6 := Lib.hid hr6
    clear hb6 HB5 HG5 HX5 HBG5 hr6
    go_wp2_with fail
    refine (eqOpS_any X V6 _ _ dx d6 s s w6 HX6.out.1 R6.out).mono ?_
    rw [beq_self_eq_true]
    rintro e w7 ⟨rfl, hb7⟩
    have HB7 := Lib.hid (HB6.out.trans (hb7.mono HB6.out.size))
    have HG7 := Lib.hid (HG6.out.below hb7)
    have HX7 := Lib.hid (HX6.out.below hb7)
    have HBG7 := Lib.hid (HBG6.out.below hb7)
    clear hb7 HB6 HG6 HX6 HBG6 R6
    go_wp2_with fail
    refine (markOpS_any X s.length dx s 1 u2 w7 HX7.out (by omega) (by omega)).mono ?_
    rintro e w8 ⟨rfl, _, hg8⟩
    have hB8 : Below u2.heap.size u2 w8 := HB7.out.grown hg8 HB7.out.size (fun k hk => by
      cases X with
      | none => cases hk
      | some ad => injection hk with hk; rw [← hk]; exact hXge.out ad rfl)
    have HB8 := Lib.hid hB8
    have HG8 := Lib.hid (HG7.out.grown hg8 hXlt.out)
    have HBG8 := Lib.hid (HBG7.out.grown hg8 (fun e => by have := hXlt.out _ e; have := hs34.out; omega))
    clear hg8 hB8 HB7 HG7 HX7 HBG7
    have hk0 : ¬ ((1 : Int) + 3 * (s.length : Int) < 0) := by omega
    obtain ⟨y0, y1, y2, y3⟩ := (HY.out w8 HB8.out).1.cells
    obtain ⟨g0, g1, g2, g3⟩ := HBG8.out.cells
    simp only at y0 y1 y2 y3 g0 g1 g2 g3
    have HE := eqDesk_any D ⟨.slice gd ngd cgd, .slice gw ngw cgw, .slice gl ngl cgl, .slice gk ngk cgk⟩ ⟨.slice yd nyd cyd, .slice yw nyw cyw, .slice yl nyl cyl, .slice yk nyk cyk⟩ w8 HG8.out.desk (HY.out w8 HB8.out).2
    unfold DV.val at HE
    simp only at HE
    have HEE := Lib.hid HE
    clear HE
    go_wp2_with fail
    refine HEE.out.mono ?_
    clear HEE y0 y1 y2 y3 g0 g1 g2 g3
    rintro e w9 ⟨rfl, hb9⟩
    have HB9 := Lib.hid (HB8.out.trans (hb9.mono HB8.out.size))
    have HG9 := Lib.hid (HG8.out.below hb9)
    have HBG9 := Lib.hid (HBG8.out.below hb9)
    clear hb9 HB8 HG8 HBG8
    obtain ⟨g0, g1, g2, g3⟩ := HBG9.out.cells
    simp only at g0 g1 g2 g3
    have HE := markDesk_any D ⟨.slice gd ngd cgd, .slice gw ngw cgw, .slice gl ngl cgl, .slice gk ngk cgk⟩ w3 w9 HG9.out HLN.out
    rw [HEN.out] at HE
    unfold DV.val at HE
    simp only at HE
    have HEE := Lib.hid HE
    clear HE
    go_wp2_with fail
    refine HEE.out.mono ?_
    clear HEE g0 g1 g2 g3
    rintro e wa ⟨rfl, hMa, hSa⟩
    have hBa : Below u2.heap.size u2 wa := ⟨hSa.os.trans HB9.out.os, hSa.tape.trans HB9.out.tape, hSa.output.trans HB9.out.output, Nat.le_trans HB9.out.size hSa.size, fun i hi => (hSa.block i (Nat.lt_of_lt_of_le hi HB9.out.size) (fun v hv ad had e => by have := (HGL.out v hv ad had).2; have := HX3s.out; omega)).trans (HB9.out.block i hi)⟩
    have hBGa : Boxed wa w4.heap.size ⟨.slice gd ngd cgd, .slice gw ngw cgw, .slice gl ngl cgl, .slice gk ngk cgk⟩ := (hSa.block _ HBG9.out.lt (fun v hv ad had e => by have := (HGL.out v hv ad had).1; omega)).trans HBG9.out
    have HBa := Lib.hid hBa
    have HBGa := Lib.hid hBGa
    have HMa := Lib.hid hMa
    clear hBa hBGa hMa hSa HB9 HG9 HBG9
    obtain ⟨g0, g1, g2, g3⟩ := HBGa.out.cells
    simp only at g0 g1 g2 g3
    have HE := heldDesk_any D ⟨.slice gd ngd cgd, .slice gw ngw cgw, .slice gl ngl cgl, .slice gk ngk cgk⟩ wa HMa.out HLN.out
    rw [HEN.out] at HE
    unfold DV.val at HE
    simp only at HE
    have HEE := Lib.hid HE
    clear HE
    go_wp2_with fail
    refine HEE.out.mono ?_
    clear HEE g0 g1 g2 g3
    rintro e wb ⟨rfl, hbb⟩
    have HBb := Lib.hid (HBa.out.trans (hbb.mono HBa.out.size))
    have HMb := Lib.hid (HMa.out.below hbb)
    have HBGb := Lib.hid (HBGa.out.below hbb)
    clear hbb HBa HMa HBGa
    go_wp2_with fail
    refine (C3.out wb (HW2.out.trans (HBb.out.mono HW2.out.size))).mono ?_
    rintro e wc ⟨P, dp, rfl, hdp, ⟨hrp, _⟩, hbc⟩
    have HBc := Lib.hid (HBb.out.trans (hbc.mono HBb.out.size))
    have HMc := Lib.hid (HMb.out.below hbc)
    have HBGc := Lib.hid (HBGb.out.below hbc)
    have HC1 := Lib.hid (C1.out wc P dp hrp hdp)
    clear hbc HBb HMb HBGb hrp
    go_wp2_with fail
    refine HC1.out.mono ?_
    clear HC1
    rintro e wd ⟨VH, rfl, hVH, hbd⟩
    obtain ⟨hd, hw, hl, hk, nhd, nhw, nhl, nhk, chd, chw, chl, chk, rfl, hh1, hh2, hh3, hh4⟩ := hVH.desk
    clear hVH
    obtain ⟨ue, hue⟩ : ∃ u : World, u = wd.alloc (.cells (⟨.slice hd nhd chd, .slice hw nhw chw, .slice hl nhl chl, .slice hk nhk chk⟩ : DV).list.toArray 28) := ⟨_, rfl⟩
    have hbxue : Boxed ue wd.heap.size ⟨.slice hd nhd chd, .slice hw nhw chw, .slice hl nhl chl, .slice hk nhk chk⟩ := by rw [hue]; exact Boxed.new wd _
    have hblue : Below wd.heap.size wd ue := by rw [hue]; exact (Below.refl _ _).alloc (Nat.le_refl _) _
    unfold DV.list at hue
    simp only at hue
    change ue = wd.alloc (.cells #[.slice hd nhd chd, .slice hw nhw chw, .slice hl nhl chl, .slice hk nhk chk] 28) at hue
    have HHH : Hid (RDesk ue D ⟨.slice hd nhd chd, .slice hw nhw chw, .slice hl nhl chl, .slice hk nhk chk⟩) := RDesk.below ⟨hd, hw, hl, hk, nhd, nhw, nhl, nhk, chd, chw, chl, chk, rfl, hh1, hh2, hh3, hh4⟩ hblue
    have hbcd := HBc.out.trans (hbd.mono HBc.out.size)
    have HBe := Lib.hid (hbcd.trans (hblue.mono hbcd.size))
    have HMe := Lib.hid ((HMc.out.below hbd).below hblue)
    have HBGe := Lib.hid ((HBGc.out.below hbd).below hblue)
    have HBH := Lib.hid hbxue
    have HUE := Lib.hid hue
    clear hh1 hh2 hh3 hh4 hbd hblue hbxue hue hbcd HBc HMc HBGc
    obtain ⟨y0, y1, y2, y3⟩ := (HY.out ue HBe.out).1.cells
    obtain ⟨g0, g1, g2, g3⟩ := HBH.out.cells
    simp only at y0 y1 y2 y3 g0 g1 g2 g3
    have v0 := y0
    have v1 := y1
    have v2 := y2
    have v3 := y3
    have v4 := g0
    have v5 := g1
    have v6 := g2
    have v7 := g3
    rw [HUE.out] at v0 v1 v2 v3 v4 v5 v6 v7
    have HE := eqDesk_any D ⟨.slice hd nhd chd, .slice hw nhw chw, .slice hl nhl chl, .slice hk nhk chk⟩ ⟨.slice yd nyd cyd, .slice yw nyw cyw, .slice yl nyl cyl, .slice yk nyk cyk⟩ ue HHH.out (HY.out ue HBe.out).2
    unfold DV.val at HE
    simp only at HE
    have HEE := Lib.hid HE
    clear HE HHH
    unfold DV.val
    simp only
    go_wp2_with fail
    rw [← HUE.out]
    refine HEE.out.mono ?_
    clear HUE HEE y0 y1 y2 y3 g0 g1 g2 g3 v0 v1 v2 v3 v4 v5 v6 v7
    rintro e wf ⟨rfl, hbf⟩
    have HBf := Lib.hid (HBe.out.trans (hbf.mono HBe.out.size))
    have HMf := Lib.hid (HMe.out.below hbf)
    have HBGf := Lib.hid (HBGe.out.below hbf)
    clear hbf HBe HMe HBGe
    obtain ⟨g0, g1, g2, g3⟩ := HBGf.out.cells
    simp only at g0 g1 g2 g3
    have HE := heldDesk_any D ⟨.slice gd ngd cgd, .slice gw ngw cgw, .slice gl ngl cgl, .slice gk ngk cgk⟩ wf HMf.out HLN.out
    rw [HEN.out] at HE
    unfold DV.val at HE
    simp only at HE
    have HEE := Lib.hid HE
    clear HE
    go_wp2_with fail
    refine HEE.out.mono ?_
    clear HEE g0 g1 g2 g3
    rintro e wz ⟨rfl, hbz⟩
    have hbF := HW2.out.trans ((HBf.out.trans (hbz.mono HBf.out.size)).mono HW2.out.size)
    go_wp2_with fail
    go_ret
    exact ⟨rfl, hbF⟩
end Go.Proofs.Ytncebpmckbcabaa
namespace Go.Proofs.Ytncebpmckbcabaa
open Go.RowKit Go.BigFrame
set_option linter.unusedVariables false

set_option maxHeartbeats 400000 in
theorem runScheduleL_any (rb p : Nat) (w : World) (h : Rd w rb p) (hp : p ≤ 40000) :
    Calls Try.prog 60 #[.pointer (some ⟨rb, 0, none⟩)] w (SomeSched w rb) := by
  have hlt := h.lt
  go_enter Try.func60, Try.ntmps60
  go_wp2_with fail
  refine (pick_any rb p 24 w h (by omega) (by omega)).mono ?_
  rintro e w1 ⟨k, rfl, hr1, _, _, ho1⟩
  by_cases h0 : k = 0
  · subst h0
    go_wp2_with fail
    refine (someSchedule_any rb (p + 1) w1 hr1 (by omega)).mono ?_
    rintro e w2 ⟨A, n, c, q, xs, rfl, hown, hn, hr, hq, hO⟩
    go_wp2_with fail
    go_ret
    exact ⟨A, n, c, q, xs, rfl, own_base hown ho1.size, hn, hr, hq, ho1.trans hO⟩
  · go_wp2_with fail
    refine (goodSchedule_any rb (p + 1) 12 w1 hr1 (by omega) (by omega)).mono ?_
    rintro e w2 ⟨v, n, xs, q, rfl, hown, hn, hr, hq, hO⟩
    obtain ⟨A, c, rfl⟩ := own_form hown
    go_wp2_with fail
    refine (bent_any rb q w1.heap.size n c A xs w1 w2 hr (by omega) hown hn hO (Nat.le_refl _) (Nat.lt_of_lt_of_le hlt ho1.size)).mono ?_
    rintro e w3 ⟨xs', q', rfl, hown', hr', hq', hO'⟩
    go_wp2_with fail
    go_ret
    exact ⟨A, n, c, q', xs', rfl, own_base hown' ho1.size, hn, hr', hq', ho1.trans hO'⟩
set_option maxHeartbeats 400000 in
theorem of_any (rb p g : Nat) (xs : List ByteArray) (T : TypeId) (w : World) (h : Rd w rb p) (hp : p ≤ 100000) (hx : RowIs w g T (xs.map Value.string)) (hk : 0 < xs.length) (hkb : xs.length ≤ 100) (hne : g ≠ rb) :
    Calls Try.prog 59 #[.pointer (some ⟨rb, 0, none⟩), .slice (some ⟨g, 0, none⟩) xs.length xs.length] w fun e w' => ∃ b ∈ xs, e = .returned (.string b) ∧ Rd w' rb (p + 1) ∧ Only rb w w' := by
  have hat : ∀ (v : Int) (w1 : World), Only rb w w1 → 0 ≤ v → v < xs.length → ∃ b ∈ xs, w1.cell? ⟨g, v.toNat, none⟩ = some (.string b) := by
    intro v w1 ho h0 h1
    have e : xs[v.toNat]? = some (xs[v.toNat]'(by omega)) := List.getElem?_eq_getElem (by omega)
    exact ⟨_, List.mem_of_getElem? e, (ho.cell hx.lt hne).trans (RowIs.cell hx (by rw [List.getElem?_map, e]; rfl))⟩
  have HA := Lib.hid hat
  obtain ⟨n, hn⟩ : ∃ n, xs.length = n := ⟨_, rfl⟩
  rw [hn] at hk hkb HA ⊢
  clear hat hx hne hn
  go_enter Try.func59, Try.ntmps59
  go_wp2_with fail
  refine (pick_any rb p _ w h hp (by omega)).mono ?_
  rintro e w1 ⟨v, rfl, hr, _, hv, ho⟩
  obtain ⟨hv0, hv1⟩ := hv (by omega)
  obtain ⟨b, hb, hc⟩ := HA.out v w1 ho hv0 hv1
  go_wp2_with fail
  go_ret
  exact ⟨b, hb, rfl, hr, ho⟩

theorem only_below {w w1 w2 : World} {rb : Nat} (hb : Below w.heap.size w w1) (hrb : w.heap.size ≤ rb) (hO : Only rb w1 w2) : Below w.heap.size w w2 := by
  have hs := hb.size
  exact hb.trans ⟨hO.os, hO.tape, hO.output, hO.size, fun k hk => hO.heap (by omega) (by omega)⟩
end Go.Proofs.Ytncebpmckbcabaa
namespace Go.Proofs.Ytncebpmckbcabaa
open Go.RowKit Go.BigFrame
set_option linter.unusedVariables false

def DrawnRun (w : World) (e : Ending) (w' : World) : Prop := ∃ b A n c s, e = .returned (.tuple #[.string b, .slice A n c]) ∧ n ≤ c ∧ ROps w' A n s ∧ n ≤ 1000 ∧ Below w.heap.size w w'
set_option maxRecDepth 100000 in
set_option maxHeartbeats 2000000 in
theorem DrawRunLocks_any (A : Option Addr) (n c : Nat) (w : World) (hx : RBytes w A n) (hc : n ≤ c) :
    Calls Try.prog 23 #[.slice A n c] w (DrawnRun w) := by
  go_enter Try.func23, Try.ntmps23
  go_wp2_with fail
  refine (newReader_any A n c w hx hc).mono ?_
  rintro e w1 ⟨rb, rfl, hrb, hr, hb⟩
  have hs1 := hb.size
  have hlt := hr.lt
  go_wp2_with fail
  refine (of_any rb 0 w1.heap.size [Rul.wait.str, Rul.die.str, Rul.wound.str, Rul.wait.str, Rul.die.str, Rul.wound.str, Rul.wait.str, ⟨#[]⟩] _ _ (hr.alloc _) (by omega) (heap_alloc_new w1 _) (by simp) (by simp) (by omega)).mono ?_
  rintro e w2 ⟨b, _, rfl, hr2, ho2⟩
  have hO2 : Only rb w1 w2 := ((Only.refl rb w1).alloc _).trans ho2
  clear ho2
  go_wp2_with fail
  refine (runScheduleL_any rb 1 w2 hr2 (by omega)).mono ?_
  rintro e w3 ⟨A3, n3, c3, q, xs, rfl, hown, hn3, _, _, hO3⟩
  obtain ⟨A4, c4, he, hmc⟩ := own_form2 hown
  injection he with e1 e2 e3
  subst e1; subst e3
  have HF : Hid (DrawnRun w (.returned (.tuple #[.string b, .slice A3 n3 c3])) w3) := ⟨b, A3, n3, c3, xs, rfl, hmc, ROps.of_own hown (by omega), by omega, only_below hb hrb (hO2.trans hO3)⟩
  clear hown hO2 hO3
  go_wp2_with fail
  refine bodyPost_ret (v := .tuple #[.string b, .slice A3 n3 c3]) (by simp [results, Try.results23, go_sem]) rfl ?_
  exact HF.out
set_option maxRecDepth 100000 in
set_option maxHeartbeats 2000000 in
theorem DrawWaitsOf_any (A : Option Addr) (n c : Nat) (w : World) (hx : RBytes w A n) (hc : n ≤ c) :
    Calls Try.prog 17 #[.slice A n c] w (DrawnRun w) := by
  go_enter Try.func17, Try.ntmps17
  go_wp2_with fail
  refine (newReader_any A n c w hx hc).mono ?_
  rintro e w1 ⟨rb, rfl, hrb, hr, hb⟩
  have hs1 := hb.size
  have hlt := hr.lt
  go_wp2_with fail
  refine (of_any rb 0 w1.heap.size [Rul.wait.str, Rul.die.str, Rul.wound.str, Rul.wait.str, ⟨#[]⟩] _ _ (hr.alloc _) (by omega) (heap_alloc_new w1 _) (by simp) (by simp) (by omega)).mono ?_
  rintro e w2 ⟨b, _, rfl, hr2, ho2⟩
  have hO2 : Only rb w1 w2 := ((Only.refl rb w1).alloc _).trans ho2
  clear ho2
  go_wp2_with fail
  refine (runScheduleL_any rb 1 w2 hr2 (by omega)).mono ?_
  rintro e w3 ⟨A3, n3, c3, q, xs, rfl, hown, hn3, hr3, hq, hO3⟩
  obtain ⟨A4, c4, he, hmc⟩ := own_form2 hown
  injection he with e1 e2 e3
  subst e1; subst e3
  have HX : Hid (ROps w3 A3 n3 xs) := ROps.of_own hown (by omega)
  have hfar : Hid (∀ ad, A3 = some ad → ad.block ≠ rb) := fun ad had e => by
    obtain ⟨g, cur, h1, h2, _⟩ := (FreshOps.of_own (w0 := w2) hown (Nat.le_refl _) (by omega)).2 ad had
    have := hr2.lt
    rw [h1] at e
    simp only at e
    omega
  clear hown
  go_wp2_with fail
  refine (pick_any rb q 2 w3 hr3 (by omega) (by omega)).mono ?_
  rintro e w4 ⟨v, rfl, _, _, _, ho4⟩
  have HX4 : Hid (ROps w4 A3 n3 xs) := HX.out.grown ho4 (fun ad had e => by injection e with e; exact hfar.out ad had e.symm)
  have HB4 : Hid (Below w.heap.size w w4) := only_below hb hrb ((hO2.trans hO3).trans ho4)
  clear hO2 hO3 ho4 hr3 HX hb
  by_cases hcut : v = 0 ∧ 2 < n3
  · obtain ⟨rfl, h2⟩ := hcut
    have h2i : (2 : Int) < (n3 : Int) := by omega
    have HF : Hid (∀ k : Nat, DrawnRun w (.returned (.tuple #[.string b, .slice A3 (n3 - 2) c3])) (w4.drewN k)) := fun k =>
      ⟨b, A3, n3 - 2, c3, xs.take (n3 - 2), rfl, by omega, (HX4.out.take (by omega)).below (B_drewN (Below.refl _ _) k) (Nat.le_refl _), by omega, B_drewN HB4.out k⟩
    obtain ⟨m, hm⟩ : ∃ m : Nat, n3 = m + 2 := ⟨n3 - 2, by omega⟩
    subst hm
    simp only [Nat.add_sub_cancel] at HF
    go_wp2_with fail
    go_quiet (fail)
    go_wp2_with fail
    refine bodyPost_ret (v := .tuple #[.string b, .slice A3 m c3]) (by simp [results, Try.results17, go_sem]) rfl ?_
    exact HF.out _
  · have HF : Hid (DrawnRun w (.returned (.tuple #[.string b, .slice A3 n3 c3])) w4) := ⟨b, A3, n3, c3, xs, rfl, hmc, HX4.out, by omega, HB4.out⟩
    by_cases h0 : v = 0
    · subst h0
      have h2i : ¬ (2 : Int) < (n3 : Int) := by omega
      go_wp2_with fail
      refine bodyPost_ret (v := .tuple #[.string b, .slice A3 n3 c3]) (by simp [results, Try.results17, go_sem]) rfl ?_
      exact HF.out
    · go_wp2_with fail
      refine bodyPost_ret (v := .tuple #[.string b, .slice A3 n3 c3]) (by simp [results, Try.results17, go_sem]) rfl ?_
      exact HF.out
end Go.Proofs.Ytncebpmckbcabaa
