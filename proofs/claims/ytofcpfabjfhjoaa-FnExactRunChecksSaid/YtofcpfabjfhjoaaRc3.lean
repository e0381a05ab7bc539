/-
  RunChecks of the program: the walk, joined.
-/
import Derived.Test.YtofcpfabjfhjoaaRc2
namespace Go.Proofs.Ytofcpfabjfhjoaa
open Go.RowKit Go.BigFrame
set_option linter.unusedVariables false

set_option maxRecDepth 100000 in
set_option maxHeartbeats 8000000 in
theorem RunChecks_any (A : Option Addr) (n c : Nat) (s : List OpV) (w : World) (hx : ROps w A n s) (hnc : n ≤ c) :
    Calls Try.prog 59 #[.slice A n c] w (RetOI w (orNil (runB s) (riTo s s.length).1) (orNil (runB s) (riTo s s.length).2.1)) := by
  have hn := hx.2.1
  have hl := hx.1
  have HX := Lib.hid hx
  clear hx
  go_enter Try.func59, Try.ntmps59
  go_wp2_with fail
  refine (runnable_any A n c s w HX.out hnc).mono ?_
  rintro e w1 ⟨rfl, hb1⟩
  obtain ⟨br, hbr⟩ : ∃ b, runB s = b := ⟨_, rfl⟩
  have HBR := Lib.hid hbr
  rw [hbr]
  cases br
  · clear hbr
    go_wp2_with fail
    go_ret2
    rw [HBR.out]
    exact RetOI.nil hb1
  · have hrun := hbr
    unfold runB at hrun
    simp only [Bool.and_eq_true, decide_eq_true_eq] at hrun
    have HV : Hid (validS s = true) := hrun.1
    have hn12 : n ≤ 12 := by have := hrun.2; omega
    clear hrun hbr
    obtain ⟨Wa, hWa⟩ : ∃ Wa : World, Wa = ((w1.alloc (.cells #[] 46)).alloc (.cells #[] 3)).alloc (.cells #[.int .i64 (-1)] 3) := ⟨_, rfl⟩
    have hown1 : Wa.ownsRow w.heap.size 46 3 (.slice (some ⟨w1.heap.size, 0, none⟩) 0 0) 0 (opCells []) := by
      rw [hWa]; exact ((World.ownsRow_made w1 #[] 0 hb1.size (by decide) rfl).alloc _).alloc _
    have hown2 : Wa.ownsRow w.heap.size 3 1 (.slice (some ⟨w1.heap.size + 1, 0, none⟩) 0 0) 0 (intCells []) := by
      have := (World.ownsRow_made (base := w.heap.size) (e := 3) (size := 1) (w1.alloc (.cells #[] 46)) #[] 0 (by have := hb1.size; simp; omega) (by decide) rfl).alloc (.cells #[.int .i64 (-1)] 3)
      rw [hWa]
      show World.ownsRow _ _ _ _ _ _ []
      simpa using this
    have hlit : RInts Wa (some ⟨w1.heap.size + 2, 0, none⟩) 1 [-1] := by rw [hWa]; exact lit1 (by simp) _
    have hba : Below w.heap.size w Wa := by
      rw [hWa]
      exact ((hb1.alloc hb1.size _).alloc (Nat.le_trans hb1.size (by simp)) _).alloc (Nat.le_trans hb1.size (by simp <;> omega)) _
    have hlt1 : w1.heap.size + 1 < Wa.heap.size := by rw [hWa]; simp <;> omega
    have HWa := Lib.hid hWa
    have HR3 := Lib.hid (Repeat3_any (some ⟨w1.heap.size + 2, 0, none⟩) 1 (-1) Wa hlit)
    clear hWa hlit
    go_wp2_with fail
    rw [← HWa.out]
    refine HR3.out.mono ?_
    rintro e w2 ⟨GA, gc, rfl, hgc, hfG, hb2⟩
    obtain ⟨g, rest, hGA, hge, hrow⟩ := hfG.row (by decide)
    subst hGA
    have hown1' := own_below hown1 hb2
    have hown2' := own_below hown2 hb2
    have hbw2 := hba.trans (hb2.mono hba.size)
    have hgl := hrow.lt
    have hwg : w.heap.size ≤ g := Nat.le_trans hba.size hge
    have hsep : (Value.slice (some ⟨w1.heap.size + 1, 0, none⟩) 0 0).ownBlock ≠ some g := by
      simp [Value.ownBlock]; omega
    have HI0 : Hid (∀ W : World, W = w2.alloc (.cells #[.slice (some ⟨g, 0, none⟩) 3 gc] 25) → RcI w g w2.heap.size gc rest (riTo s 0).1 (riTo s 0).2.1 (riTo s 0).2.2 (.slice (some ⟨w1.heap.size, 0, none⟩) 0 0) (.slice (some ⟨w1.heap.size + 1, 0, none⟩) 0 0) 0 0 W) := by
      rintro W rfl
      refine ⟨hbw2.alloc hbw2.size _, hown1'.alloc _, hown2'.alloc _, hrow.alloc _, ?_, hsep⟩
      exact heap_alloc_new w2 _
    have hb6 : w.heap.size ≤ w2.heap.size := hbw2.size
    obtain ⟨b6, hb6e⟩ : ∃ b6, w2.heap.size = b6 := ⟨_, rfl⟩
    clear hown1 hown2 hown1' hown2' hb2 hbw2 hfG hrow hsep HR3 hba HWa hlt1
    go_wp2_with fail
    rw [hb6e] at HI0 hb6
    try rw [hb6e]
    obtain ⟨Wb, hWb⟩ : ∃ W : World, W = w2.alloc (.cells #[.slice (some ⟨g, 0, none⟩) 3 gc] 25) := ⟨_, rfl⟩
    have HI1 := Lib.hid (HI0.out Wb hWb)
    rw [← hWb]
    clear hWb HI0
    go_loopw [4, 5, 23] (fun dv kv i wr => ∃ (k nd nk : Nat), k ≤ n ∧ nd ≤ 14 * k ∧ nk ≤ k ∧ i = .int .i64 k ∧ RcI w g b6 gc rest (riTo s k).1 (riTo s k).2.1 (riTo s k).2.2 dv kv nd nk wr) (fun _ _ i _ => n - (intOf i).toNat)
    case atStart => exact ⟨0, 0, 0, Nat.zero_le _, by omega, by omega, rfl, HI1.out⟩
    case round =>
      clear HI1
      obtain ⟨wo, rfl⟩ : ∃ wo : World, wo = wr := ⟨_, rfl⟩
      obtain ⟨dv, rfl⟩ : ∃ z : Value, z = u4 := ⟨_, rfl⟩
      obtain ⟨kv, rfl⟩ : ∃ z : Value, z = u5 := ⟨_, rfl⟩
      obtain ⟨k, nd, nk, hk, hnd, hnk, rfl, hI⟩ := hrel
      by_cases hlt : k < n
      · have hxr := HX.out.below hI.below (Nat.le_refl _)
        obtain ⟨b, off, o, hA, hbl, ho, c0, c1, c2⟩ := hxr.at_ hlt
        subst hA
        have hom := List.mem_of_getElem? ho
        have hit := validS_item HV.out hom
        have hkd := ((validS_iff s).1 HV.out).2.1 o hom
        have hstep := riTo_succ ho
        have hV3 := riTo_len s k
        generalize hst : riTo s k = st at *
        obtain ⟨D, K, V⟩ := st
        simp only at hI hV3
        have hse := hI.below.size
        have HI := Lib.hid hI
        have hO1 := Lib.hid (fun (W : World) (hW : Below wo.heap.size wo W) => span_any (some ⟨b, off, none⟩) n c s o.tx W (hxr.below hW (Nat.le_refl _)))
        have hO2 := Lib.hid (fun (W : World) (hW : Below wo.heap.size wo W) => opsOf_any (some ⟨b, off, none⟩) k c (s.take k) o.tx W ((hxr.below hW (Nat.le_refl _)).take (by omega)))
        have hown : Hid (opsOf (s.take k) o.tx = rcOwn s k o.tx) := rfl
        have howni := Lib.hid (rcOwn_item HV.out k o.tx)
        have hownl : (rcOwn s k o.tx).length ≤ k := by
          refine Nat.le_trans (List.length_filter_le _ _) ?_
          rw [List.length_take]; omega
        clear hxr ho hom hI
        obtain ⟨tx, kd, it⟩ := o
        simp only at c0 c1 c2 hit hkd hO1 hO2 hown howni hownl
        have hki : (k : Int) < (n : Int) := by omega
        have hk0 : (0 : Int) ≤ (k : Int) := by omega
        have hkc : (k : Int) ≤ (c : Int) := by omega
        obtain ⟨W, hW⟩ : ∃ W : World, W = wo.alloc (.cells #[.int .i64 tx, .int .i64 kd, .int .i64 it] 46) := ⟨_, rfl⟩
        obtain ⟨L0, L1, L2, hbW, hWs⟩ := op_box hW
        have x0 := L0 ⟨W, Below.refl _ _⟩
        have x1 := L1 ⟨W, Below.refl _ _⟩
        have x2 := L2 ⟨W, Below.refl _ _⟩
        simp only at x0 x1 x2
        have hIW := HI.out.later hbW
        have HIW := Lib.hid hIW
        have hWsz := hIW.below.size
        have hdW := hIW.done
        have HW := Lib.hid hW
        have hdb8 : dv.ownBlock ≠ some wo.heap.size := own_lt HI.out.done (Nat.le_refl _)
        clear hW
        have hkk : kd = 0 ∨ kd = 1 ∨ kd = 2 ∨ kd = 3 := by
          unfold validOp isAcc isEnd at hkd
          simp only [Bool.and_eq_true, Bool.or_eq_true, beq_iff_eq] at hkd
          rcases hkd.2 with ⟨h | h, _⟩ | ⟨h | h, _⟩ <;> omega
        clear hkd
        rcases hkk with rfl | rfl | rfl | rfl
        · have hst1 : riTo s (k + 1) = (D ++ [⟨tx, 0, it⟩], K, V) := by rw [hstep]; unfold riStep; simp
          have HS := Lib.hid hst1
          clear hst1 hstep
          obtain rfl := HW.out
          go_wp2_with (at_builtin; refine app_ops (.tmp 33) (.tmp 35) (hdW.alloc _) (by simp; omega) (ROps.litH (by simp) ⟨_, _, _⟩ _) (by omega) rfl rfl rfl rfl ?_; intro v5 w5 hown5 hg5 hat5)
          have hg5' := World.grownBy.trans (World.grownBy_alloc _ _ _) hg5
          have hI5 := HIW.out.grownDone hg5' hown5
          go_roundw
          case rel => exact ⟨k + 1, nd + 1, nk, by omega, by omega, by omega, by go_num, by rw [HS.out]; exact hI5⟩
          case measure => simp [intOf]; omega
        · have hst1 : riTo s (k + 1) = (D, K, V) := by rw [hstep]; unfold riStep; simp
          have HS := Lib.hid hst1
          clear hst1 hstep
          go_wp2_with fail
          rw [← HW.out]
          go_wp2_with fail
          go_roundw
          case rel => exact ⟨k + 1, nd, nk, by omega, by omega, by omega, by go_num, by rw [HS.out]; exact HIW.out⟩
          case measure => simp [intOf]; omega
        · obtain ⟨bb, hbb⟩ : ∃ z, riBad s V k ⟨tx, 2, it⟩ = z := ⟨_, rfl⟩
          have hbb2 := hbb
          unfold riBad at hbb2
          simp only at hbb2
          have hst1 : riTo s (k + 1) = if bb then (D ++ [⟨tx, 3, 0⟩], K ++ [tx], V) else (D ++ (rcOwn s k tx).filter (fun p => p.kind == 1) ++ [⟨tx, 2, it⟩], K, rcWr V k (rcOwn s k tx)) := by
            rw [hstep]; unfold riStep; simp [hbb]
          have HS := Lib.hid hst1
          clear hst1 hstep hbb
          obtain ⟨F, hF⟩ : ∃ F, firstI s tx = F := ⟨_, rfl⟩
          rw [hF] at hbb2
          go_wp2_with fail
          rw [← HW.out]
          go_wp2_with fail
          refine (hO1.out W hbW).mono ?_
          rw [hF]
          rintro e w3 ⟨rfl, hb3⟩
          have hI3 := HIW.out.later hb3
          have y0 := L0 ⟨w3, hb3⟩
          have y1 := L1 ⟨w3, hb3⟩
          have y2 := L2 ⟨w3, hb3⟩
          simp only at y0 y1 y2
          clear hF
          -- the box of the first place
          obtain ⟨Wc, hWc⟩ : ∃ Wc : World, Wc = w3.alloc (.cells #[.int .i64 F] 3) := ⟨_, rfl⟩
          have hbc : Below w3.heap.size w3 Wc := by rw [hWc]; exact (Below.refl _ _).alloc (Nat.le_refl _) _
          have hcf : Wc.cell? ⟨w3.heap.size, 0, none⟩ = some (.int .i64 F) := by rw [hWc]; exact box_at _ _ _ _ _ rfl
          have hIc := hI3.later hbc
          have hbWc : Below W.heap.size W Wc := hb3.trans (hbc.mono hb3.size)
          have hboc : Below wo.heap.size wo Wc := hbW.trans (hbWc.mono hbW.size)
          have z0 := L0 ⟨Wc, hbWc⟩
          have z1 := L1 ⟨Wc, hbWc⟩
          have z2 := L2 ⟨Wc, hbWc⟩
          simp only at z0 z1 z2
          have hbcd : Below Wc.heap.size Wc Wc.drew := (Below.refl _ _).drew
          have hO2d := hO2.out Wc.drew (hboc.trans (hbcd.mono hboc.size))
          have HO2 := Lib.hid hO2d
          have HIc := Lib.hid hIc
          have HWc := Lib.hid hWc
          clear hO2d hIc hI3 y0 y1 y2 hWc
          go_wp2_with fail
          rw [← HWc.out]
          refine wp_region_still_tail 5 (by kernel_rfl) (by kernel_rfl) ?_
          simp only [List.take_succ_cons, List.take_zero, List.drop_succ_cons, List.drop_zero]
          repeat (first | still_step | fail)
          refine wpStill_nil ?_
          change wpList _ _ _ _ _ Wc.drew
          go_wp2_with fail
          refine HO2.out.mono ?_
          rw [hown.out]
          rintro e w4 ⟨OA, oc, rfl, hoc, ⟨hro, hrof⟩, hb4⟩
          have hOdv : ∀ ad, OA = some ad → dv.ownBlock ≠ some ad.block := fun ad had => by
            obtain ⟨b', cur, rfl, hge', _⟩ := hrof ad had
            exact own_lt HIc.out.done (Nat.le_trans hbcd.size hge')
          have hOg : ∀ ad, OA = some ad → g ≠ ad.block := fun ad had => by
            obtain ⟨b', cur, rfl, hge', _⟩ := hrof ad had
            have := HIc.out.row.lt
            have := hbcd.size
            simp only; omega
          clear hrof
          have hbc4 := hbcd.trans (hb4.mono hbcd.size)
          have hI4 := HIc.out.later hbc4
          have hcf4 := (hbc4.cell (p := ⟨w3.heap.size, 0, none⟩) (block_lt_of_cell hcf)).trans hcf
          have hbW4 := hbWc.trans (hbc4.mono hbWc.size)
          have q0 := L0 ⟨w4, hbW4⟩
          have q1 := L1 ⟨w4, hbW4⟩
          have q2 := L2 ⟨w4, hbW4⟩
          simp only at q0 q1 q2
          have hclo : ClosOp w4 104 #[.pointer (some ⟨b6, 0, none⟩), .pointer (some ⟨w3.heap.size, 0, none⟩)] (rcOwn s k tx) (fun p => p.kind == 0 && decide (F < V.getD p.item.toNat 0)) := by
            refine ⟨runs_RunChecks1, fun W' p hb' hp => ?_⟩
            have hI' := hI4.later hb'
            exact RunChecks1_any p b6 w3.heap.size g gc V rest F W' (hI'.box.cell (i := 0) rfl) ((hb'.cell (p := ⟨w3.heap.size, 0, none⟩) (block_lt_of_cell hcf4)).trans hcf4) hI'.row hV3 (howni.out p hp)
          have hCF := ContainsFuncOp_any OA _ oc (rcOwn s k tx) _ _ _ w4 hro hclo
          rw [hbb2] at hCF
          have HCF := Lib.hid hCF
          have HRO := Lib.hid hro
          have HI4 := Lib.hid hI4
          have hrc1 := runs_RunChecks1
          unfold Runs at hrc1
          generalize hown0 : rcOwn s k tx = own at *
          clear hclo hCF hro hbb2 hown0 HO2 HIc hO1 hO2 hown
          go_wp2_with fail
          refine HCF.out.mono ?_
          rintro e w5 ⟨rfl, hb5⟩
          have hI5 := HI4.out.later hb5
          have hbW5 := hbW4.trans (hb5.mono hbW4.size)
          have r0 := L0 ⟨w5, hbW5⟩
          have r1 := L1 ⟨w5, hbW5⟩
          have r2 := L2 ⟨w5, hbW5⟩
          simp only at r0 r1 r2
          have hdo5 := hI5.done
          have HI5 := Lib.hid hI5
          have hsz5 := hI5.below.size
          have hRO5 := Lib.hid (HRO.out.below hb5 (Nat.le_refl _))
          clear q0 q1 q2 HCF hcf4 hcf hI5
          cases bb
          · have HS1 := HS.out
            rw [if_neg (by simp)] at HS1
            have HS2 := Lib.hid HS1
            clear HS1 HS
            have hIq : RcI w g b6 gc rest (D ++ (own.take 0).filter (fun p => p.kind == 1)) K (rcWr V k (own.take 0)) dv kv nd nk w5 := by
              have := HI5.out
              simpa [rcWr] using this
            have HQ0 := Lib.hid hIq
            clear hIq
            have hb8g : wo.heap.size ≠ g := by have := HI.out.row.lt; omega
            have hb8l : wo.heap.size < w5.heap.size := block_lt_of_cell r0
            go_wp2_with fail
            go_loopw [4, 68] (fun dv' i wr => ∃ (q nd' : Nat), q ≤ own.length ∧ nd' ≤ nd + q ∧ i = .int .i64 q ∧ RcI w g b6 gc rest (D ++ (own.take q).filter (fun p => p.kind == 1)) K (rcWr V k (own.take q)) dv' kv nd' nk wr ∧ dv'.ownBlock ≠ some wo.heap.size ∧ (∀ ad, OA = some ad → dv'.ownBlock ≠ some ad.block) ∧ ROps wr OA own.length own ∧ w5.heap.size ≤ wr.heap.size ∧ wr.cell? ⟨wo.heap.size, 0, none⟩ = some (.int .i64 tx) ∧ wr.cell? ⟨wo.heap.size, 1, none⟩ = some (.int .i64 2) ∧ wr.cell? ⟨wo.heap.size, 2, none⟩ = some (.int .i64 it)) (fun _ i _ => own.length - (intOf i).toNat)
            case atStart => exact ⟨0, nd, Nat.zero_le _, by omega, rfl, HQ0.out, hdb8, hOdv, hRO5.out, Nat.le_refl _, r0, r1, r2⟩
            case round =>
              clear HQ0 r0 r1 r2 hdo5 hdb8 hOdv
              obtain ⟨wq, rfl⟩ : ∃ wq : World, wq = wr := ⟨_, rfl⟩
              obtain ⟨dv', rfl⟩ : ∃ z : Value, z = u4 := ⟨_, rfl⟩
              obtain ⟨q, nd', hq, hnd', rfl, hIq, hdb8, hOdv, hROq, hszq, r0, r1, r2⟩ := hrel
              have hdoq := hIq.done
              have hszw := hIq.below.size
              by_cases hltq : q < own.length
              · obtain ⟨bo, offo, p, hAo, hblo, hpo, e0, e1, e2⟩ := hROq.at_ hltq
                subst hAo
                have hpi := howni.out p (List.mem_of_getElem? hpo)
                have hfs := take_snoc hpo
                have hws := rcWr_snoc (W := V) (i := k) hpo
                have hVl : (rcWr V k (own.take q)).length = 3 := by rw [rcWr_len]; exact hV3
                have hfs2 : (own.take (q + 1)).filter (fun p => p.kind == 1) = (own.take q).filter (fun p => p.kind == 1) ++ if p.kind == 1 then [p] else [] := by
                  rw [hfs, List.filter_append, List.filter_cons, List.filter_nil]
                obtain ⟨ptx, pk, pit⟩ := p
                simp only at e0 e1 e2 hpi hfs2 hws
                obtain ⟨X, rfl⟩ := Int.eq_ofNat_of_zero_le hpi.1
                have hX3 : X < 3 := by omega
                rw [Int.toNat_natCast] at hws
                obtain ⟨W2, hW2⟩ : ∃ W : World, W = wq.alloc (.cells #[.int .i64 ptx, .int .i64 pk, .int .i64 (X : Int)] 46) := ⟨_, rfl⟩
                obtain ⟨M0, M1, M2, hbW2, hWs2⟩ := op_box hW2
                have m0 := M0 ⟨W2, Below.refl _ _⟩
                have m1 := M1 ⟨W2, Below.refl _ _⟩
                have m2 := M2 ⟨W2, Below.refl _ _⟩
                simp only at m0 m1 m2
                have HIq := Lib.hid hIq
                have HW2 := Lib.hid hW2
                have HROq := Lib.hid hROq
                obtain ⟨b1, hb1⟩ : ∃ z, (pk == 1) = z := ⟨_, rfl⟩
                rw [hb1] at hfs2 hws
                have HF2 := Lib.hid hfs2
                have HWS := Lib.hid hws
                have hIW2 := hIq.later hbW2
                have hdoW := hIW2.done
                have HIW2 := Lib.hid hIW2
                have hszW2 := hIW2.below.size
                have hdq2 : dv'.ownBlock ≠ some wq.heap.size := own_lt hdoq (Nat.le_refl _)
                have hgq := hIq.row.lt
                have hgW : wq.heap.size ≠ g := by omega
                clear hW2 hfs hfs2 hws hIq hpo hROq
                cases b1
                · have hpk : ¬ pk = 1 := by simpa using hb1
                  go_wp2_with fail
                  rw [← HW2.out]
                  go_wp2_with fail
                  go_roundw
                  case rel => exact ⟨q + 1, nd', by omega, by omega, by go_num, by rw [HF2.out, HWS.out]; simpa using HIW2.out, hdb8, hOdv, HROq.out.below hbW2 (Nat.le_refl _), by omega, (hbW2.cell (p := ⟨wo.heap.size, 0, none⟩) (block_lt_of_cell r0)).trans r0, (hbW2.cell (p := ⟨wo.heap.size, 1, none⟩) (block_lt_of_cell r1)).trans r1, (hbW2.cell (p := ⟨wo.heap.size, 2, none⟩) (block_lt_of_cell r2)).trans r2⟩
                  case measure => simp [intOf]; omega
                · have hpk : pk = 1 := by simpa using hb1
                  subst hpk
                  have HF3 := HF2.out
                  rw [if_pos (by first | rfl | trivial)] at HF3
                  have HWS3 := HWS.out
                  rw [if_pos (by first | rfl | trivial)] at HWS3
                  have HF := Lib.hid HF3
                  have HWSS := Lib.hid HWS3
                  have hX30 : (0 : Int) ≤ (X : Int) := by omega
                  have hX33 : (X : Int) < 3 := by omega
                  clear HF3 HWS3 HF2 HWS
                  obtain rfl := HW2.out
                  go_wp2_with (at_builtin; refine app_ops (.tmp 75) (.tmp 77) (hdoW.alloc _) (by simp; omega) (ROps.litH (by simp) ⟨_, _, _⟩ _) (by omega) rfl rfl rfl rfl ?_; intro v6 w6 hown6 hg6 hat6; have hg6' := World.grownBy.trans (World.grownBy_alloc _ _ _) hg6; have hI6 := HIW2.out.grownDone hg6' hown6; have hbx6 := hI6.box.cell (i := 0) (v := .slice (some ⟨g, 0, none⟩) 3 gc) rfl; have n2 := (hg6'.cell (a := ⟨wq.heap.size, 2, none⟩) m2 (fun e => hdq2 e.symm)); obtain ⟨hcr, hfz⟩ := rc_cell hI6.row hVl hX3; have hnw6 := World.new_ne w6 _ hcr; have HI6 := Lib.hid hI6; clear hI6)
                  have hI7 := HI6.out.setV hwg (x := X) (by rw [hVl]; exact hX3) (k : Int)
                  have hgt : wq.grownBy w6 dv'.ownBlock := World.grownBy.trans (grown_below hbW2) hg6'
                  have hgs : w6.grownBy (w6.setCell ⟨g, X, none⟩ (.int .i64 (k : Int))) (some g) := grown_set
                  have hsz6 : wq.heap.size ≤ w6.heap.size := hgt.size
                  go_roundw
                  case rel => exact ⟨q + 1, nd' + 1, by omega, by omega, by go_num, by rw [HF.out, HWSS.out, ← List.append_assoc]; exact hI7, nb_app hdb8 hat6 (by simp; omega), fun ad had => nb_app (hOdv ad had) hat6 (by injection had with had; subst had; simp; omega), ((HROq.out.grown hgt (fun b hb => hOdv b hb)).grown hgs (fun b hb e => by injection e with e; injection hb with hb; subst hb; exact (hOg _ rfl) e)), by simp; omega, (hgs.cell (a := ⟨wo.heap.size, 0, none⟩) (hgt.cell (a := ⟨wo.heap.size, 0, none⟩) r0 (fun e => hdb8 e.symm)) (fun e => hb8g (by injection e))), (hgs.cell (a := ⟨wo.heap.size, 1, none⟩) (hgt.cell (a := ⟨wo.heap.size, 1, none⟩) r1 (fun e => hdb8 e.symm)) (fun e => hb8g (by injection e))), (hgs.cell (a := ⟨wo.heap.size, 2, none⟩) (hgt.cell (a := ⟨wo.heap.size, 2, none⟩) r2 (fun e => hdb8 e.symm)) (fun e => hb8g (by injection e)))⟩
                  case measure => simp [intOf]; omega
              · rw [List.take_of_length_le (by omega)] at hIq
                have HIq := Lib.hid hIq
                clear hIq hROq
                go_wp2_with (at_builtin; refine app_ops (.tmp 85) (.tmp 87) (hdoq.alloc _) (by simp; omega) (ROps.lit1 _ ⟨_, _, _⟩ _) (by omega) rfl rfl rfl rfl ?_; intro v6 w6 hown6 hg6 hat6)
                have hg6' := World.grownBy.trans (World.grownBy_alloc wq _ _) hg6
                rw [List.take_of_length_le (by omega)] at hown6
                have hI6 := HIq.out.grownDone hg6' hown6
                go_roundw
                case rel => exact ⟨k + 1, nd' + 1, nk, by omega, by omega, by omega, by go_num, by rw [HS2.out]; exact hI6⟩
                case measure => simp [intOf]; omega
          · have HS1 := HS.out
            rw [if_pos (by first | rfl | trivial)] at HS1
            have HS2 := Lib.hid HS1
            clear HS1 HS
            go_wp2_with (first
              | (at_builtin; refine app_ops (.tmp 55) (.tmp 59) (hdo5.alloc _) (by simp; omega) (ROps.lit1 _ ⟨_, _, _⟩ _) (by omega) rfl rfl rfl rfl ?_; intro v6 w6 hown6 hg6 hat6; have hg6' := World.grownBy.trans (World.grownBy_alloc w5 _ _) hg6; have hI6 := HI5.out.grownDone hg6' hown6; have hka6 := hI6.dead; have s0 := (hg6'.cell (a := ⟨wo.heap.size, 0, none⟩) r0 (fun e => hdb8 e.symm)); have hsz6 := hI6.below.size; have HI6 := Lib.hid hI6; clear hI6)
              | (at_builtin; refine app_ints (.tmp 61) (.tmp 64) (hka6.alloc _) (by simp; omega) (lit1 rfl _) (by omega) rfl rfl rfl rfl ?_; intro v7 w7 hown7 hg7 hat7))
            have hg7' := World.grownBy.trans (World.grownBy_alloc w6 _ _) hg7
            have hI7 := HI6.out.grownDead hg7' hown7 (nb_app HI6.out.sep hat7 (by have := HI6.out.row.lt; simp; omega))
            go_roundw
            case rel => exact ⟨k + 1, nd + 1, nk + 1, by omega, by omega, by omega, by go_num, by rw [HS2.out]; exact hI7⟩
            case measure => simp [intOf]; omega
        · have hst1 : riTo s (k + 1) = (D ++ [⟨tx, 3, it⟩], K, V) := by rw [hstep]; unfold riStep; simp
          have HS := Lib.hid hst1
          clear hst1 hstep
          obtain rfl := HW.out
          go_wp2_with (at_builtin; refine app_ops (.tmp 33) (.tmp 35) (hdW.alloc _) (by simp; omega) (ROps.litH (by simp) ⟨_, _, _⟩ _) (by omega) rfl rfl rfl rfl ?_; intro v5 w5 hown5 hg5 hat5)
          have hg5' := World.grownBy.trans (World.grownBy_alloc _ _ _) hg5
          have hI5 := HIW.out.grownDone hg5' hown5
          go_roundw
          case rel => exact ⟨k + 1, nd + 1, nk, by omega, by omega, by omega, by go_num, by rw [HS.out]; exact hI5⟩
          case measure => simp [intOf]; omega
      · have e : k = s.length := by omega
        obtain ⟨DA, dc, rfl, hdc⟩ := own_form2 hI.done
        obtain ⟨KA, kc, rfl, hkc⟩ := own_form2 hI.dead
        rw [e] at hI
        have HO := Lib.hid (RetOI.mk (own_lenOps hI.done) (own_lenInts hI.dead) (Nat.le_refl _) (Nat.le_refl _) (FreshOps.of_own hI.done (Nat.le_refl _) (by omega)) (FreshInts.of_own hI.dead (Nat.le_refl _) (by omega)) hI.below)
        have hnd2 : nd ≤ 1099511627776 := by omega
        have hnk2 : nk ≤ 1099511627776 := by omega
        clear hI e
        go_wp2_with fail
        refine (ClipOps_any DA nd dc wo hnd2 hdc).mono ?_
        rintro e w9 ⟨rfl, rfl⟩
        go_wp2_with fail
        refine (ClipInts_any KA nk kc wo hnk2 hkc).mono ?_
        rintro e w9 ⟨rfl, rfl⟩
        go_wp2_with fail
        go_ret2
        rw [HBR.out]
        exact HO.out
end Go.Proofs.Ytofcpfabjfhjoaa
