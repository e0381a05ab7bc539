/-
  Texts that the proof rests on, joined: part 55.
-/
import Derived.Test.YtncebpmckbcabaaSJ1
import Derived.Test.YtncebpmckbcabaaSJ23
import Derived.Test.YtncebpmckbcabaaSJ46
import Derived.Test.YtncebpmckbcabaaSJ48
import Derived.Test.YtncebpmckbcabaaSJ49
import Derived.Test.YtncebpmckbcabaaSJ52
import Derived.Test.YtncebpmckbcabaaSJ53
import Derived.Test.YtncebpmckbcabaaSJ54
namespace Go.Proofs.Ytncebpmckbcabaa
open Go.RowKit Go.BigFrame
set_option linter.unusedVariables false

theorem runOk_parts {b : ByteArray} {s : List OpV} (h : runOk b s = true) : ∃ r, runDV b s = runD r s ∧ validS s = true ∧ s.length ≤ 12 := by
  have h0 := h
  unfold runOk at h
  simp only [Bool.and_eq_true, decide_eq_true_eq] at h
  obtain ⟨hr, hv, hl⟩ := h
  cases hr' : rulOf b with
  | none => rw [hr'] at hr; cases hr
  | some r => exact ⟨r, runDV_of h0 hr', hv, hl⟩
theorem keeps_rig {P : List OpV} (hv : validS P = true) (h : ∀ k, k < P.length → opnB isAcc P k = false) : (validS P && faultZ (opnB isAcc P) P.length == -1) = true := by
  rw [hv, Bool.true_and, beq_iff_eq, faultZ_iff]
  exact h
set_option maxRecDepth 100000 in
set_option maxHeartbeats 8000000 in
theorem law_runLocks (A : Option Addr) (n c : Nat) (w : World) (hin : BytesIn w A n c) :
    Calls Try.prog 5 #[.slice A n c] w fun e w' => e = .returned (.bool true) ∧ Below w.heap.size w w' := by
  obtain ⟨hx, hnc⟩ := hin
  have hn := hx.1
  by_cases hbig : 1048576 < n
  · clear hx
    go_enter Try.func5, Try.ntmps5
    go_wp2_with fail
    go_ret
    exact ⟨rfl, Below.refl _ _⟩
  · have HDR := Lib.hid (DrawRunLocks_any A n c w hx hnc)
    clear hx
    go_enter Try.func5, Try.ntmps5
    go_wp2_with fail
    refine HDR.out.mono ?_
    rintro e w1 ⟨b, S, m, d, s, rfl, hmd, hS, hm, hb1⟩
    have HS := Lib.hid hS
    have hlen := hS.1
    have HB1 := Lib.hid hb1
    have hln := runDV_len b s
    obtain ⟨D, hD⟩ : ∃ D, runDV b s = D := ⟨_, rfl⟩
    obtain ⟨ok, hok⟩ : ∃ z, runOk b s = z := ⟨_, rfl⟩
    rw [hD] at hln
    have c1 : Calls Try.prog 11 #[.string b, .slice S m d] w1 fun e w' => ∃ V : DV, e = .returned (.tuple #[V.val, .bool ok]) ∧ FDesk w1 w' D V ∧ Below w1.heap.size w1 w' := by
      have := RunLocks_any b S m d s w1 hS hmd
      unfold RetRun at this
      rw [hD, hok] at this
      exact this.mono fun e w' ⟨h1, v, h2, h3⟩ => by
        obtain ⟨V, rfl, hV⟩ := h3.face
        exact ⟨V, h2, hV, h1⟩
    have c2 : ∀ W, Below w1.heap.size w1 W → Calls Try.prog 9 #[.string b, .slice S m d] W fun e w' => ∃ V : DV, e = .returned (.tuple #[V.val, .bool ok]) ∧ RDesk w' D V ∧ Below W.heap.size W w' := fun W hW => by
      have := sRunLocks_any b S m d s W (hS.below hW (Nat.le_refl _)) hmd
      unfold RetRunS at this
      rw [hD, hok] at this
      exact this.mono fun e w' ⟨h1, V, h2, h3⟩ => ⟨V, h2, RDesk.at_ h3 hln, h1⟩
    have C1 := Lib.hid c1
    have C2 := Lib.hid c2
    have HOK := Lib.hid (And.intro hok hD)
    clear HDR hS hb1 hln hD hok c1 c2
    go_wp2_with fail
    refine C1.out.mono ?_
    rintro e w2 ⟨VG, rfl, ⟨gd, gw, gl, gk, ngd, ngw, ngl, ngk, rfl, f1, f2, f3, f4, _⟩, hb2⟩
    obtain ⟨u2, hu2⟩ : ∃ u : World, u = w2.alloc (.cells (⟨.slice gd ngd ngd, .slice gw ngw ngw, .slice gl ngl ngl, .slice gk ngk ngk⟩ : DV).list.toArray 28) := ⟨_, rfl⟩
    have hbg : Boxed u2 w2.heap.size ⟨.slice gd ngd ngd, .slice gw ngw ngw, .slice gl ngl ngl, .slice gk ngk ngk⟩ := by rw [hu2]; exact Boxed.new w2 _
    have hbu2 : Below w2.heap.size w2 u2 := by rw [hu2]; exact (Below.refl _ _).alloc (Nat.le_refl _) _
    unfold DV.list at hu2
    simp only at hu2
    change u2 = w2.alloc (.cells #[.slice gd ngd ngd, .slice gw ngw ngw, .slice gl ngl ngl, .slice gk ngk ngk] 28) at hu2
    have HG : Hid (∀ W, Below u2.heap.size u2 W → Boxed W w2.heap.size ⟨.slice gd ngd ngd, .slice gw ngw ngw, .slice gl ngl ngl, .slice gk ngk ngk⟩ ∧ ROps W gd ngd D.done ∧ ROps W gw ngw D.wait ∧ ROps W gl ngl D.locks ∧ RInts W gk ngk D.dead) := fun W hW =>
      ⟨hbg.below hW, (f1.1.below hbu2 (Nat.le_refl _)).below hW (Nat.le_refl _), (f2.1.below hbu2 (Nat.le_refl _)).below hW (Nat.le_refl _), (f3.1.below hbu2 (Nat.le_refl _)).below hW (Nat.le_refl _), (f4.1.below hbu2 (Nat.le_refl _)).below hW (Nat.le_refl _)⟩
    have HW2 := Lib.hid (hb2.trans (hbu2.mono hb2.size))
    have HU2 := Lib.hid hu2
    clear f1 f2 f3 f4 hb2 hbg hbu2 hu2 C1
    unfold DV.val
    simp only
    go_wp2_with fail
    rw [← HU2.out]
    clear HU2
    refine (C2.out u2 HW2.out).mono ?_
    rintro e w3 ⟨VY, rfl, ⟨yd, yw, yl, yk, nyd, nyw, nyl, nyk, cyd, cyw, cyl, cyk, rfl, q1, q2, q3, q4⟩, hb3⟩
    obtain ⟨u3, hu3⟩ : ∃ u : World, u = w3.alloc (.cells (⟨.slice yd nyd cyd, .slice yw nyw cyw, .slice yl nyl cyl, .slice yk nyk cyk⟩ : DV).list.toArray 28) := ⟨_, rfl⟩
    have hby : Boxed u3 w3.heap.size ⟨.slice yd nyd cyd, .slice yw nyw cyw, .slice yl nyl cyl, .slice yk nyk cyk⟩ := by rw [hu3]; exact Boxed.new w3 _
    have hbu3 : Below w3.heap.size w3 u3 := by rw [hu3]; exact (Below.refl _ _).alloc (Nat.le_refl _) _
    unfold DV.list at hu3
    simp only at hu3
    change u3 = w3.alloc (.cells #[.slice yd nyd cyd, .slice yw nyw cyw, .slice yl nyl cyl, .slice yk nyk cyk] 28) at hu3
    have HY : Hid (∀ W, Below u3.heap.size u3 W → Boxed W w3.heap.size ⟨.slice yd nyd cyd, .slice yw nyw cyw, .slice yl nyl cyl, .slice yk nyk cyk⟩ ∧ RDesk W D ⟨.slice yd nyd cyd, .slice yw nyw cyw, .slice yl nyl cyl, .slice yk nyk cyk⟩) := fun W hW =>
      ⟨hby.below hW, (RDesk.below ⟨yd, yw, yl, yk, nyd, nyw, nyl, nyk, cyd, cyw, cyl, cyk, rfl, q1, q2, q3, q4⟩ hbu3).below hW⟩
    have hb23 := hb3.trans (hbu3.mono hb3.size)
    have HW3 := Lib.hid hb23
    have HU3 := Lib.hid hu3
    clear q1 q2 q3 q4 hb3 hby hbu3 hu3 hb23 C2
    obtain ⟨g0, g1, g2, g3⟩ := (HG.out u3 HW3.out).1.cells
    obtain ⟨y0, y1, y2, y3⟩ := (HY.out u3 (Below.refl _ _)).1.cells
    simp only at y0 y1 y2 y3 g0 g1 g2 g3
    have v0 := y0
    have v1 := y1
    have v2 := y2
    have v3 := y3
    have v4 := g0
    have v5 := g1
    have v6 := g2
    have v7 := g3
    rw [HU3.out] at v0 v1 v2 v3 v4 v5 v6 v7
    have hGD : ∀ W, Below u2.heap.size u2 W → RDesk W D ⟨.slice gd ngd ngd, .slice gw ngw ngw, .slice gl ngl ngl, .slice gk ngk ngk⟩ := fun W hW => ⟨gd, gw, gl, gk, ngd, ngw, ngl, ngk, ngd, ngw, ngl, ngk, rfl, (HG.out W hW).2⟩
    have hE : ∀ W, Below u3.heap.size u3 W → Calls Try.prog 24 #[.agg #[.slice gd ngd ngd, .slice gw ngw ngw, .slice gl ngl ngl, .slice gk ngk ngk], .agg #[.slice yd nyd cyd, .slice yw nyw cyw, .slice yl nyl cyl, .slice yk nyk cyk]] W fun e w' => e = .returned (.bool true) ∧ Below W.heap.size W w' := fun W hW => by
      have h := equalDesk_any D ⟨.slice gd ngd ngd, .slice gw ngw ngw, .slice gl ngl ngl, .slice gk ngk ngk⟩ ⟨.slice yd nyd cyd, .slice yw nyw cyw, .slice yl nyl cyl, .slice yk nyk cyk⟩ W (hGD W (HW3.out.trans (hW.mono HW3.out.size))) (HY.out W hW).2
      unfold DV.val at h
      simp only at h
      exact h
    have HE := Lib.hid hE
    have hoo : (ok != ok) = false := by simp
    clear hGD hE
    unfold DV.val
    simp only
    go_wp2_with fail
    rw [← HU3.out]
    clear HU3 v0 v1 v2 v3 v4 v5 v6 v7 y0 y1 y2 y3 g0 g1 g2 g3
    refine (HE.out u3 (Below.refl _ _)).mono ?_
    rintro e w4 ⟨rfl, hb4⟩
    have HB4 := Lib.hid hb4
    have hbw := HB1.out.trans ((HW2.out.trans (HW3.out.mono HW2.out.size)).mono HB1.out.size)
    have HBW := Lib.hid hbw
    have HS3 : Hid (ROps u3 S m s) := (HS.out.below (HW2.out.trans (HW3.out.mono HW2.out.size)) (Nat.le_refl _))
    have HG3 : Hid (∀ W, Below u3.heap.size u3 W → Boxed W w2.heap.size ⟨.slice gd ngd ngd, .slice gw ngw ngw, .slice gl ngl ngl, .slice gk ngk ngk⟩ ∧ ROps W gd ngd D.done ∧ ROps W gw ngw D.wait ∧ ROps W gl ngl D.locks ∧ RInts W gk ngk D.dead) := fun W hW => HG.out W (HW3.out.trans (hW.mono HW3.out.size))
    clear hb4 hbw HG HW2 HW3 HB1 HS
    cases ok
    · obtain ⟨g0, g1, g2, g3⟩ := (HG3.out w4 HB4.out).1.cells
      obtain ⟨y0, y1, y2, y3⟩ := (HY.out w4 HB4.out).1.cells
      simp only at y0 y1 y2 y3 g0 g1 g2 g3
      go_wp2_with fail
      refine (HE.out w4 HB4.out).mono ?_
      rintro e w5 ⟨rfl, hb5⟩
      have hbF := HBW.out.trans ((HB4.out.trans (hb5.mono HB4.out.size)).mono HBW.out.size)
      go_wp2_with fail
      go_ret
      exact ⟨rfl, hbF⟩
    · obtain ⟨r, hrd, hv, hl12⟩ := runOk_parts HOK.out.1
      rw [HOK.out.2] at hrd
      have p1 : validS D.done = true := by rw [hrd]; exact done_ok hv hl12
      have p2 : (validS D.done && faultZ (opnB isAcc D.done) D.done.length == -1) = true := keeps_rig p1 (by rw [hrd]; exact (run_all hv).core.rig)
      have p3 : validL D.locks = true := by rw [hrd]; exact (locks_fine hv hl12).1
      have p4 : illI D.locks < 0 := by rw [hrd]; exact (locks_fine hv hl12).2
      have p5 : ∀ t ∈ D.dead, endOfV D.done t = 3 := fun t ht => by
        unfold endOfV
        rw [p1, if_pos rfl]
        rw [hrd] at ht ⊢
        exact dead_end hv t ht
      obtain ⟨kb, hkb⟩ : ∃ z, (validS s && faultZ (opnB isAcc s) s.length == -1) = z := ⟨_, rfl⟩
      have p6 : kb = true → D.done = s ∧ D.dead = [] := fun h => by
        rw [h, hv, Bool.true_and, beq_iff_eq, faultZ_iff] at hkb
        have := rig_done (r := r) hv hkb s.length (Nat.le_refl _)
        rw [List.take_length] at this
        rw [hrd]
        exact ⟨this.1, this.2.2⟩
      have p7 : (∀ o ∈ s, 0 ≤ endOf s o.tx) → D.wait = [] := fun h => by rw [hrd]; exact wait_none hv h
      obtain ⟨z, hz⟩ : ∃ z, illI D.locks = z := ⟨_, rfl⟩
      rw [hz] at p4
      have cI : ∀ W, Below u3.heap.size u3 W → Calls Try.prog 25 #[.slice gl ngl ngl] W fun e w' => e = .returned (.tuple #[.int .i64 z, .bool true]) ∧ Below W.heap.size W w' := fun W hW => by
        have := IllegalAt_any gl ngl ngl D.locks W (HG3.out W hW).2.2.2.1
        unfold IllPost illV at this
        rw [p3, if_pos rfl, hz] at this
        exact this
      have cE : ∀ (W : World) (t : Int), Below u3.heap.size u3 W → t ∈ D.dead → Calls Try.prog 26 #[.slice gd ngd ngd, .int .i64 t] W fun e w' => e = .returned (.int .i64 3) ∧ Below W.heap.size W w' := fun W t hW ht => by
        have := EndOf_any gd ngd ngd D.done t W (HG3.out W hW).2.1 (Nat.le_refl _)
        rw [p5 t ht] at this
        exact this
      have cF : ∀ (W : World) (t : Int), Below u3.heap.size u3 W → Calls Try.prog 26 #[.slice S m d, .int .i64 t] W fun e w' => e = .returned (.int .i64 (endOf s t)) ∧ Below W.heap.size W w' := fun W t hW => by
        have := EndOf_any S m d s t W (HS3.out.below hW (Nat.le_refl _)) hmd
        unfold endOfV at this
        rw [hv, if_pos rfl] at this
        exact this
      have cT : ∀ W, Below u3.heap.size u3 W → Calls Try.prog 27 #[.slice S m d] W (RetInts W (txsOf s)) := fun W hW => by
        have := TxsOf_any S m d s W (HS3.out.below hW (Nat.le_refl _)) hmd
        rw [hv] at this
        exact this
      have cV : ∀ W, Below u3.heap.size u3 W → Calls Try.prog 28 #[.slice gd ngd ngd] W fun e w' => e = .returned (.bool true) ∧ Below W.heap.size W w' := fun W hW => by
        have := ValidSchedule_any gd ngd ngd D.done W (HG3.out W hW).2.1 (Nat.le_refl _)
        rw [p1] at this
        exact this
      have cK : ∀ W, Below u3.heap.size u3 W → Calls Try.prog 29 #[.string { data := #[114, 105, 103, 111, 114, 111, 117, 115] }, .slice gd ngd ngd] W fun e w' => e = .returned (.bool true) ∧ Below W.heap.size W w' := fun W hW => by
        have := keepsRigor_any gd ngd ngd D.done W (HG3.out W hW).2.1 (Nat.le_refl _)
        rw [p2] at this
        exact this
      have cL : ∀ W, Below u3.heap.size u3 W → Calls Try.prog 29 #[.string { data := #[114, 105, 103, 111, 114, 111, 117, 115] }, .slice S m d] W fun e w' => e = .returned (.bool kb) ∧ Below W.heap.size W w' := fun W hW => by
        have := keepsRigor_any S m d s W (HS3.out.below hW (Nat.le_refl _)) hmd
        rw [hkb] at this
        exact this
      have hkl : ngk ≤ 1099511627776 := (HG3.out w4 HB4.out).2.2.2.2.2.1
      have CI := Lib.hid cI
      have CE := Lib.hid cE
      have CF := Lib.hid cF
      have CT := Lib.hid cT
      have CV := Lib.hid cV
      have CK := Lib.hid cK
      have CL := Lib.hid cL
      have P6 := Lib.hid p6
      have HVS := Lib.hid hv
      have P7 := Lib.hid p7
      clear hv hrd p1 p2 p3 p5 p6 p7 hkb hz cI cE cF cT cV cK cL HE HY
      obtain ⟨g0, g1, g2, g3⟩ := (HG3.out w4 HB4.out).1.cells
      simp only at g0 g1 g2 g3
      go_wp2_with fail
      refine (CI.out w4 HB4.out).mono ?_
      clear g0 g1 g2 g3
      rintro e w5 ⟨rfl, hb5⟩
      have HB5 := Lib.hid (HB4.out.trans (hb5.mono HB4.out.size))
      clear hb5 HB4 CI
      go_wp2_with fail
      go_loopw [11] (fun i wr => ∃ k : Nat, k ≤ ngk ∧ i = .int .i64 k ∧ Below u3.heap.size u3 wr) (fun i _ => ngk - (intOf i).toNat)
      case atStart => exact ⟨0, by omega, rfl, HB5.out⟩
      case round =>
        clear HB5
        obtain ⟨wo, rfl⟩ : ∃ z : World, z = wr := ⟨_, rfl⟩
        obtain ⟨k, hk, rfl, hb⟩ := hrel
        obtain ⟨g0, g1, g2, g3⟩ := (HG3.out wo hb).1.cells
        simp only at g0 g1 g2 g3
        by_cases hlt : k < ngk
        · obtain ⟨ba, off, x, hA, hbl, hox, c0⟩ := (HG3.out wo hb).2.2.2.2.at_ hlt
          subst hA
          have cEu : ∀ u : Later wo, Calls Try.prog 26 #[.slice gd ngd ngd, .int .i64 x] u.1 fun e w' => e = .returned (.int .i64 3) ∧ Below u.1.heap.size u.1 w' := fun u => CE.out u.1 x (hb.trans (u.2.mono hb.size)) (List.mem_of_getElem? hox)
          have CEU := Lib.hid cEu
          have L0 := Later.cell c0
          have LG0 := Later.cell g0
          have LG3 := Later.cell g3
          have hki : (k : Int) < (ngk : Int) := by omega
          have hk0 : (0 : Int) ≤ (k : Int) := by omega
          have HB := Lib.hid hb
          clear cEu hox hb
          go_wp2_with fail
          clear c0 g0 g1 g2 g3
          refine region_later (by kernel_rfl) (by kernel_rfl) ?_
          repeat (go_big_quiet_step ((go_at_call 26; exact later_call _ (CEU.out _))))
          refine wpQuiet_nil ?_
          rintro _ ⟨u, rfl⟩
          have hbu := HB.out.trans (u.2.mono HB.out.size)
          go_wp2_with fail
          go_roundw
          case rel => exact ⟨k + 1, by omega, by go_num, hbu⟩
          case measure => simp [intOf]; omega
        · have hki : ¬ (k : Int) < (ngk : Int) := by omega
          have HB5 := Lib.hid hb
          clear hb hlt
          go_wp2_with fail
          refine (CT.out wo HB5.out).mono ?_
          clear g0 g1 g2 g3
          rintro e w6 ⟨T, dt, rfl, hdt, ⟨hT, _⟩, hb6⟩
          have HB6 := Lib.hid (HB5.out.trans (hb6.mono HB5.out.size))
          have HT : Hid (∀ W, Below w6.heap.size w6 W → RInts W T (txsOf s).length (txsOf s)) := fun W hW => hT.below hW (Nat.le_refl _)
          have hTl : (txsOf s).length ≤ 1099511627776 := hT.2.1
          obtain ⟨TL, hTL⟩ : ∃ L, txsOf s = L := ⟨_, rfl⟩
          have HTL := Lib.hid hTL
          rw [hTL] at HT hTl hdt
          rw [hTL]
          clear hb6 hT HB5 hTL
          go_wp2_with fail
          go_loopw [12, 14] (fun ev i wr => ∃ q : Nat, q ≤ TL.length ∧ i = .int .i64 q ∧ ev = .bool ((TL.take q).all fun t => decide (0 ≤ endOf s t)) ∧ Below w6.heap.size w6 wr) (fun _ i _ => TL.length - (intOf i).toNat)
          case atStart => exact ⟨0, by omega, rfl, rfl, Below.refl _ _⟩
          case round =>
            obtain ⟨wi, rfl⟩ : ∃ z : World, z = wr := ⟨_, rfl⟩
            obtain ⟨q, hq, rfl, rfl, hb⟩ := hrel
            by_cases hlt2 : q < TL.length
            · obtain ⟨ba, off, x, hA, hbl, hox, c0⟩ := (HT.out wi hb).at_ hlt2
              subst hA
              have hst : ((TL.take (q + 1)).all fun t => decide (0 ≤ endOf s t)) = (((TL.take q).all fun t => decide (0 ≤ endOf s t)) && decide (0 ≤ endOf s x)) := by
                rw [take_snoc hox, List.all_append]; simp
              obtain ⟨eb, heb⟩ : ∃ z, ((TL.take q).all fun t => decide (0 ≤ endOf s t)) = z := ⟨_, rfl⟩
              rw [heb] at hst ⊢
              have HST := Lib.hid hst
              have HB := Lib.hid hb
              have hqi : (q : Int) < (TL.length : Int) := by omega
              have hq0 : (0 : Int) ≤ (q : Int) := by omega
              have CFx := Lib.hid (CF.out wi x (HB6.out.trans (hb.mono HB6.out.size)))
              clear hst hb heb hox
              cases eb
              · go_wp2_with fail
                go_roundw
                case rel => exact ⟨q + 1, by omega, by go_num, by rw [HST.out]; rfl, HB.out⟩
                case measure => simp [intOf]; omega
              · go_wp2_with fail
                refine CFx.out.mono ?_
                rintro e w7 ⟨rfl, hb7⟩
                have hb67 := HB.out.trans (hb7.mono HB.out.size)
                obtain ⟨y, hy⟩ : ∃ y, endOf s x = y := ⟨_, rfl⟩
                rw [hy]
                have HST2 := HST.out
                rw [hy] at HST2
                have HST3 := Lib.hid HST2
                clear HST2 hy hb7
                by_cases hy0 : 0 ≤ y
                · have hd0 : decide (0 ≤ y) = true := decide_eq_true hy0
                  go_wp2_with fail
                  go_roundw
                  case rel => exact ⟨q + 1, by omega, by go_num, by rw [HST3.out]; simp [hy0], hb67⟩
                  case measure => simp [intOf]; omega
                · have hd0 : decide (0 ≤ y) = false := decide_eq_false hy0
                  go_wp2_with fail
                  go_roundw
                  case rel => exact ⟨q + 1, by omega, by go_num, by rw [HST3.out]; simp [hy0], hb67⟩
                  case measure => simp [intOf]; omega
            · have hqi : ¬ (q : Int) < (TL.length : Int) := by omega
              have hb36 := HB6.out.trans (hb.mono HB6.out.size)
              have e1 : TL.take q = TL := List.take_of_length_le (by omega)
              rw [e1]
              obtain ⟨eb, heb⟩ : ∃ z, (TL.all fun t => decide (0 ≤ endOf s t)) = z := ⟨_, rfl⟩
              rw [heb]
              have P8 : Hid (eb = true → ngw = 0) := fun h => by
                rw [h, List.all_eq_true] at heb
                have hw0 := P7.out fun o ho => by
                  have hm : o.tx ∈ TL := by rw [← HTL.out]; exact (mem_txsOf HVS.out).2 ⟨o, ho, rfl⟩
                  simpa using heb o.tx hm
                have := (HG3.out wi hb36).2.2.1.1
                rw [hw0] at this
                exact this.symm
              have P9 : Hid (kb = true → D.done = s ∧ ngk = 0) := fun h => by
                obtain ⟨a1, a2⟩ := P6.out h
                refine ⟨a1, ?_⟩
                have := (HG3.out wi hb36).2.2.2.2.1
                rw [a2] at this
                exact this.symm
              have HB := Lib.hid hb36
              clear hb hb36 heb e1 HB6
              obtain ⟨g0, g1, g2, g3⟩ := (HG3.out wi HB.out).1.cells
              simp only at g0 g1 g2 g3
              go_wp2_with fail
              refine (CV.out wi HB.out).mono ?_
              rintro e w7 ⟨rfl, hb7⟩
              have HB7 := Lib.hid (HB.out.trans (hb7.mono HB.out.size))
              clear hb7 HB g0 g1 g2 g3
              obtain ⟨g0, g1, g2, g3⟩ := (HG3.out w7 HB7.out).1.cells
              simp only at g0 g1 g2 g3
              go_wp2_with fail
              refine (CK.out w7 HB7.out).mono ?_
              rintro e w8 ⟨rfl, hb8⟩
              have HB8 := Lib.hid (HB7.out.trans (hb8.mono HB7.out.size))
              clear hb8 HB7 g0 g1 g2 g3
              obtain ⟨g0, g1, g2, g3⟩ := (HG3.out w8 HB8.out).1.cells
              simp only at g0 g1 g2 g3
              go_wp2_with fail
              refine (CL.out w8 HB8.out).mono ?_
              rintro e w9 ⟨rfl, hb9⟩
              have HB9 := Lib.hid (HB8.out.trans (hb9.mono HB8.out.size))
              clear hb9 HB8 g0 g1 g2 g3
              obtain ⟨g0, g1, g2, g3⟩ := (HG3.out w9 HB9.out).1.cells
              simp only at g0 g1 g2 g3
              cases kb
              · cases eb
                · have hbF := HBW.out.trans (HB9.out.mono HBW.out.size)
                  go_wp2_with fail
                  go_ret
                  exact ⟨rfl, hbF⟩
                · have hbF := HBW.out.trans (HB9.out.mono HBW.out.size)
                  have h0 := P8.out rfl
                  subst h0
                  go_wp2_with fail
                  go_ret
                  exact ⟨rfl, hbF⟩
              · obtain ⟨a1, a2⟩ := P9.out rfl
                have hEq : Calls Try.prog 30 #[.slice gd ngd ngd, .slice S m d] w9 fun e w' => e = .returned (.bool true) ∧ Below w9.heap.size w9 w' := by
                  have := equalOps_any gd S ngd m ngd d D.done s w9 (HG3.out w9 HB9.out).2.1 (HS3.out.below HB9.out (Nat.le_refl _))
                  rw [a1, beq_self_eq_true] at this
                  exact this
                have HEQ := Lib.hid hEq
                clear hEq a1
                subst a2
                go_wp2_with fail
                refine HEQ.out.mono ?_
                rintro e wa ⟨rfl, hba⟩
                have HBa := Lib.hid (HB9.out.trans (hba.mono HB9.out.size))
                have hbF := HBW.out.trans (HBa.out.mono HBW.out.size)
                obtain ⟨g0, g1, g2, g3⟩ := (HG3.out wa HBa.out).1.cells
                simp only at g0 g1 g2 g3
                cases eb
                · go_wp2_with fail
                  go_ret
                  exact ⟨rfl, hbF⟩
                · have h0 := P8.out rfl
                  subst h0
                  go_wp2_with fail
                  go_ret
                  exact ⟨rfl, hbF⟩
end Go.Proofs.Ytncebpmckbcabaa
