/-
  versionGraph of the program: the walk.
-/
import Derived.Test.YtofcpfabjfhjoaaVg2
namespace Go.Proofs.Ytofcpfabjfhjoaa
open Go.RowKit Go.BigFrame
set_option linter.unusedVariables false

theorem verI_rng {s : List OpV} {L : List Int} (hl : ∀ u ∈ L, 0 ≤ u ∧ u ≤ 3) {k : Nat} {o : OpV} (ho : 0 ≤ o.tx ∧ o.tx ≤ 3) : verI s L k o = -1 ∨ ∃ V : Nat, V ≤ 3 ∧ verI s L k o = V := by
  have hz : ∀ z : Int, 0 ≤ z ∧ z ≤ 3 → ∃ V : Nat, V ≤ 3 ∧ z = V := fun z hz => by
    obtain ⟨V, rfl⟩ := Int.eq_ofNat_of_zero_le hz.1
    exact ⟨V, by omega, rfl⟩
  unfold verI
  split
  · exact .inr (hz _ ho)
  · have : ∀ z : Int, (L.foldl (fun v u => if pI s o u then u else v) z = z) ∨ L.foldl (fun v u => if pI s o u then u else v) z ∈ L := by
      intro z
      clear hl
      induction L generalizing z with
      | nil => exact .inl rfl
      | cons x r ih =>
        rw [List.foldl_cons]
        rcases ih (if pI s o x then x else z) with h | h
        · rw [h]
          split
          · exact .inr (by simp)
          · exact .inl rfl
        · exact .inr (List.mem_cons_of_mem _ h)
    rcases this (-1) with h | h
    · exact .inl h
    · exact .inr (hz _ (hl _ h))

set_option maxRecDepth 100000 in
set_option maxHeartbeats 4000000 in
theorem versionGraph_any (A : Option Addr) (n c : Nat) (s : List OpV) (w : World) (hx : ROps w A n s) (hnc : n ≤ c) (hv : validS s = true) :
    Calls Try.prog 88 #[.slice A n c] w (RetInts w (rowsI (vgI s))) := by
  have hn := hx.2.1
  have hl := hx.1
  have HV := Lib.hid hv
  have HX := Lib.hid hx
  clear hx hv
  have hok0 : Rows4 (agI4 s) := by unfold agI4; exact agTo_ok (survI_rng HV.out) _
  have hlen0 : (rowsI (agI4 s)).length = 4 := by simp [rowsI, hok0.1]
  go_enter Try.func88, Try.ntmps88
  go_wp2_with fail
  refine (againstOf_any A n c s w HX.out hnc HV.out).mono ?_
  rintro e w1 ⟨GA, gc, rfl, hgc, hfG, hb1⟩
  rw [hlen0] at hfG hgc
  rw [hlen0]
  obtain ⟨g, rest, hGA, hge, hrow⟩ := hfG.row (by omega)
  subst hGA
  have hlt1 := hrow.lt
  go_wp2_with fail
  refine (survivorsOf_any A n c s w1 (HX.out.below hb1 (Nat.le_refl _)) (validS_items HV.out)).mono ?_
  rintro e w2 ⟨LA, lc, rfl, hlc, hfL, hb2⟩
  have hNE : Hid (∀ ad, LA = some ad → g ≠ ad.block) := by
    intro ad had
    have := (hfL.2 ad had)
    obtain ⟨b, cur, rfl, hge', _⟩ := this
    simp only; omega
  have hbw2 := hb1.trans (hb2.mono hb1.size)
  have HI0 : Hid (VgInv w LA (survI s) g (agI4 s) rest w2) := ⟨hbw2, hrow.below hb2 (Nat.le_refl _), hfL.1⟩
  have HR : Hid (∀ u ∈ survI s, 0 ≤ u ∧ u ≤ 3) := survI_rng HV.out
  have hgood : Hid (vgI s = vgTo (verI s (survI s)) (survI s) s (vgOut (fB s (survI s)) (survI s) (survI s) (agI4 s)) s.length) := rfl
  have hlenL := hfL.1.2.1
  generalize survI s = L at *
  generalize hR0 : agI4 s = R0 at *
  have HK0 := Lib.hid hok0
  clear hfG hrow hfL hb1 hb2 hbw2 hok0 hR0 hlen0
  go_wp2_with fail
  go_loopw [18] (fun i wr => ∃ j : Nat, j ≤ L.length ∧ i = .int .i64 j ∧ VgInv w LA L g (vgOut (fB s L) L (L.take j) R0) rest wr) (fun i _ => L.length - (intOf i).toNat)
  case atStart => exact ⟨0, Nat.zero_le _, rfl, HI0.out⟩
  case round =>
    clear HI0
    obtain ⟨wo, rfl⟩ : ∃ wo : World, wo = wr := ⟨_, rfl⟩
    obtain ⟨j, hj, rfl, hI⟩ := hrel
    by_cases hlt : j < L.length
    · obtain ⟨bo, offo, x, hA, hbo, hxx, hcx⟩ := hI.list.at_ hlt
      subst hA
      have hxr := HR.out x (List.mem_of_getElem? hxx)
      obtain ⟨T, rfl⟩ := Int.eq_ofNat_of_zero_le hxr.1
      have hT3 : T ≤ 3 := by omega
      have hstep := Lib.hid (vgOut_snoc (f := fB s L) (L := L) (rows := R0) hxx)
      have hokO : Hid (Rows4 (vgOut (fB s L) L (L.take j) R0)) := vgOut_ok HR.out HK0.out
      generalize hRO : vgOut (fB s L) L (L.take j) R0 = RO at *
      have HI := Lib.hid hI
      have HRO := Lib.hid hRO
      clear hI hRO hxx
      go_wp2_with fail
      go_loopw [24] (fun i wr => ∃ q : Nat, q ≤ L.length ∧ i = .int .i64 q ∧ VgInv w (some ⟨bo, offo, none⟩) L g (agIn (fB s L T) T (L.take q) RO) rest wr) (fun i _ => L.length - (intOf i).toNat)
      case atStart => exact ⟨0, Nat.zero_le _, rfl, HI.out⟩
      case round =>
        clear HI
        obtain ⟨q, hq, rfl, hJ⟩ := hrel
        by_cases hlt2 : q < L.length
        · obtain ⟨bo2, offo2, x2, hA2, _, hxx2, hcx2⟩ := hJ.list.at_ hlt2
          injection hA2 with hA2
          injection hA2 with e1 e2 _
          subst e1; subst e2
          have hxr2 := HR.out x2 (List.mem_of_getElem? hxx2)
          obtain ⟨U, rfl⟩ := Int.eq_ofNat_of_zero_le hxr2.1
          have hU3 : U ≤ 3 := by omega
          have hsn := Lib.hid (agIn_snoc (f := fB s L T) (t := T) (rows := RO) hxx2)
          have hok2 : Hid (Rows4 (agIn (fB s L T) T (L.take q) RO)) := agIn_ok (fun u hu => HR.out u (List.mem_of_mem_take hu)) hokO.out
          generalize hRI : agIn (fB s L T) T (L.take q) RO = RI at *
          have HJ := Lib.hid hJ
          have hxs := HX.out.below hJ.below (Nat.le_refl _)
          obtain ⟨bB, hbB⟩ : ∃ b, behB L U T = b := ⟨_, rfl⟩
          have hBe : Calls Try.prog 136 #[.slice (some ⟨bo, offo, none⟩) L.length lc, .int .i64 (U : Int), .int .i64 (T : Int)] wr fun e w' => e = .returned (.bool bB) ∧ Below wr.heap.size wr w' := by
            have := behind_any _ L.length lc L U T wr hJ.list; rw [hbB] at this; exact this
          have hW2 : ∀ (y : Int) (W : World), Below wr.heap.size wr W → Calls Try.prog 118 #[.slice A n c, .int .i64 y] W fun e w' => e = .returned (.int .i64 (wI s y : Nat)) ∧ Below W.heap.size W w' := fun y W hW => writesOf_any _ n c s y W (hxs.below hW (Nat.le_refl _)) (validS_items HV.out)
          have hwT := wTo_lt s T (validS_items HV.out) s.length
          have hwU := wTo_lt s U (validS_items HV.out) s.length
          have hfb : fB s L T U = (bB && ((wI s T &&& wI s U) != 0)) := by unfold fB; rw [hbB]
          have HBe := Lib.hid hBe
          have HW2T := Lib.hid (hW2 T)
          have HW2U := Lib.hid (hW2 U)
          have hand := and_nat (wI s T) (wI s U) (by unfold wI; omega) (by unfold wI; omega)
          obtain ⟨bz, hbz⟩ : ∃ b, ((wI s T &&& wI s U) != 0) = b := ⟨_, rfl⟩
          have hbz2 : (((wI s T &&& wI s U : Nat) : Int) != 0) = bz := by
            rw [← hbz, Bool.eq_iff_iff]; simp
          rw [hbz] at hfb
          have HFB := Lib.hid hfb
          generalize wI s T = MT at *
          generalize wI s U = MU at *
          clear hJ hxx2 hxs hbB hBe hW2 hwT hwU hfb hbz hRI
          cases bB
          · go_wp2_with fail
            refine HBe.out.mono ?_
            rintro e w3 ⟨rfl, hb3⟩
            go_wp2_with fail
            go_roundw
            case rel => exact ⟨q + 1, by omega, by go_num, by rw [hsn.out, HFB.out]; exact HJ.out.later hb3⟩
            case measure => simp [intOf]; omega
          · go_wp2_with fail
            refine HBe.out.mono ?_
            rintro e w3 ⟨rfl, hb3⟩
            go_wp2_with fail
            refine (HW2T.out w3 hb3).mono ?_
            rintro e w4 ⟨rfl, hb4⟩
            have hb34 := hb3.trans (hb4.mono hb3.size)
            go_wp2_with fail
            refine (HW2U.out w4 hb34).mono ?_
            rintro e w5 ⟨rfl, hb5⟩
            have hb35 := hb34.trans (hb5.mono hb34.size)
            clear hb3 hb4 hb34 hb5
            cases bz
            · go_wp2_with fail
              go_roundw
              case rel => exact ⟨q + 1, by omega, by go_num, by rw [hsn.out, HFB.out]; exact HJ.out.later hb35⟩
              case measure => simp [intOf]; omega
            · have hJu := HJ.out.later hb35
              obtain ⟨hcr, hfz, hr16⟩ := hJu.at_ hok2.out hT3
              obtain ⟨r, hr⟩ : ∃ r, RI.getD T 0 = r := ⟨_, rfl⟩
              have HSET : Hid (∀ v : Int, v = ((r ||| (1 <<< ((U : Int)).toNat) : Nat) : Int) → VgInv w (some ⟨bo, offo, none⟩) L g (agIn (fB s L T) T (L.take (q + 1)) RO) rest (w5.setCell ⟨g, T, none⟩ (.int .i64 v))) := by
                intro v hv
                rw [hsn.out, HFB.out]
                exact hJu.set hge hNE.out hT3 hok2.out (by rw [hr]; exact hv)
              rw [hr] at hcr hr16
              clear hJu hr hsn HFB hcx2
              have hT4 : (T : Int) < 4 := by omega
              have hT0 : (0 : Int) ≤ (T : Int) := by omega
              have hnw1 := World.new_ne w5 _ hcr
              go_wp2_with fail
              clear hbz2 hand
              rcases (by omega : U = 0 ∨ U = 1 ∨ U = 2 ∨ U = 3) with rfl | rfl | rfl | rfl
              · have hor : bits .or .i64 (r : Int) 1 = ((r ||| 1 : Nat) : Int) := or_nat r 1 (by omega) (by omega)
                go_region
                go_wp2_with fail
                go_roundw
                case rel => exact ⟨q + 1, by omega, by go_num, (HSET.out _ rfl).drew⟩
                case measure => simp [intOf]; omega
              · have hor : bits .or .i64 (r : Int) 2 = ((r ||| 2 : Nat) : Int) := or_nat r 2 (by omega) (by omega)
                go_region
                go_wp2_with fail
                go_roundw
                case rel => exact ⟨q + 1, by omega, by go_num, (HSET.out _ rfl).drew⟩
                case measure => simp [intOf]; omega
              · have hor : bits .or .i64 (r : Int) 4 = ((r ||| 4 : Nat) : Int) := or_nat r 4 (by omega) (by omega)
                go_region
                go_wp2_with fail
                go_roundw
                case rel => exact ⟨q + 1, by omega, by go_num, (HSET.out _ rfl).drew⟩
                case measure => simp [intOf]; omega
              · have hor : bits .or .i64 (r : Int) 8 = ((r ||| 8 : Nat) : Int) := or_nat r 8 (by omega) (by omega)
                go_region
                go_wp2_with fail
                go_roundw
                case rel => exact ⟨q + 1, by omega, by go_num, (HSET.out _ rfl).drew⟩
                case measure => simp [intOf]; omega
        · have hfin : Hid (agIn (fB s L T) T (L.take q) RO = vgOut (fB s L) L (L.take (j + 1)) R0) := by
            show _ = _
            rw [List.take_of_length_le (by omega), hstep.out]
          rw [hfin.out] at hJ
          have HJ := Lib.hid hJ
          clear hJ
          go_wp2_with fail
          go_roundw
          case rel => exact ⟨j + 1, by omega, by go_num, HJ.out⟩
          case measure => simp [intOf]; omega
    · rw [List.take_of_length_le (by omega)] at hI
      have HI := Lib.hid hI
      have hok1 : Hid (Rows4 (vgOut (fB s L) L L R0)) := vgOut_ok HR.out HK0.out
      generalize hR1 : vgOut (fB s L) L L R0 = R1 at *
      have HR1 := Lib.hid hR1
      clear hI hR1
      go_wp2_with fail
      go_loopw [54] (fun i wr => ∃ k : Nat, k ≤ n ∧ i = .int .i64 k ∧ VgInv w LA L g (vgTo (verI s L) L s R1 k) rest wr) (fun i _ => n - (intOf i).toNat)
      case atStart => exact ⟨0, Nat.zero_le _, rfl, HI.out⟩
      case round =>
        clear HI
        obtain ⟨wp, rfl⟩ : ∃ wp : World, wp = wr := ⟨_, rfl⟩
        obtain ⟨k, hk, rfl, hJ⟩ := hrel
        by_cases hltk : k < n
        · obtain ⟨b, off, o, hA, hbl, ho, c0, c1, c2⟩ := (HX.out.below hJ.below (Nat.le_refl _)).at_ hltk
          subst hA
          have hom := List.mem_of_getElem? ho
          have htx := validS_tx3 HV.out hom
          have hit := validS_item HV.out hom
          have hst2 := Lib.hid (vgTo_succ (ver := verI s L) (L := L) (rows := R1) ho)
          have hokK : Hid (Rows4 (vgTo (verI s L) L s R1 k)) := vgTo_ok hok1.out (fun o ho => validS_tx3 HV.out ho) k
          have hvr : verI s L k o = -1 ∨ ∃ V : Nat, V ≤ 3 ∧ verI s L k o = V := verI_rng HR.out htx
          have hVe : ∀ W : World, Below wp.heap.size wp W → Calls Try.prog 91 #[.slice (some ⟨b, off, none⟩) n c, .slice LA L.length lc, .int .i64 (k : Int)] W fun e w' => e = .returned (.int .i64 (verI s L k o)) ∧ Below W.heap.size W w' := fun W hW =>
            versionOf_any _ LA n c lc k s L o W ((HX.out.below hJ.below (Nat.le_refl _)).below hW (Nat.le_refl _)) (hJ.list.below hW (Nat.le_refl _)) ho hnc (validS_items HV.out) hit
          obtain ⟨tx, kd, it⟩ := o
          simp only at hst2 c0 c1 c2 htx
          obtain ⟨T, rfl⟩ := Int.eq_ofNat_of_zero_le htx.1
          have hT3 : T ≤ 3 := by omega
          obtain ⟨bk, hbk⟩ : ∃ bk, (kd != 0) = bk := ⟨_, rfl⟩
          obtain ⟨bc, hbc⟩ : ∃ bc, (L.any fun y => y == (T : Int)) = bc := ⟨_, rfl⟩
          have hkk : (kd == 0) = !bk := by rw [← hbk, bne, Bool.not_not]
          have hCo : ∀ (W : World), Below wp.heap.size wp W → Calls Try.prog 134 #[.slice LA L.length lc, .int .i64 (T : Int)] W fun e w' => e = .returned (.bool bc) ∧ Below W.heap.size W w' := fun W hW => by
            have := ContainsL_any LA L.length lc L T W (hJ.list.below hW (Nat.le_refl _)); rw [hbc] at this; exact this
          have hVG : Hid (∀ V, verI s L k ⟨T, kd, it⟩ = V → vgTo (verI s L) L s R1 (k + 1) = if !bk && bc && decide (0 ≤ V) && (V != (T : Int)) then rowSet (vgTo (verI s L) L s R1 k) V T else vgTo (verI s L) L s R1 k) := by
            intro V hV
            rw [hst2.out]
            unfold vgStep
            simp only
            rw [hV, hkk, hbc]
          have HJ := Lib.hid hJ
          have HCo := Lib.hid hCo
          have HVe := Lib.hid hVe
          generalize hRK : vgTo (verI s L) L s R1 k = RK at *
          have HRK := Lib.hid hRK
          clear hRK hst2 hkk hbc hCo hVe hJ ho hom htx hit
          have hkn : (k : Int) < (n : Int) := by omega
          have hk0 : (0 : Int) ≤ (k : Int) := by omega
          obtain ⟨W, hW⟩ : ∃ W : World, W = wp.alloc (.cells #[.int .i64 (T : Int), .int .i64 kd, .int .i64 it] 46) := ⟨_, rfl⟩
          obtain ⟨L0, L1, L2, hbW, hWs⟩ := op_box hW
          have x0 := L0 ⟨W, Below.refl _ _⟩
          have x1 := L1 ⟨W, Below.refl _ _⟩
          simp only at x0 x1
          cases bk
          · go_wp2_with fail
            rw [← hW]
            clear hW
            go_wp2_with fail
            refine (HCo.out W hbW).mono ?_
            rintro e w3 ⟨rfl, hb3⟩
            have hb03 := hbW.trans (hb3.mono hbW.size)
            have y0 := L0 ⟨w3, hb3⟩
            simp only at y0
            cases bc
            · go_wp2_with fail
              go_roundw
              case rel => exact ⟨k + 1, by omega, by go_num, by rw [hVG.out _ rfl]; exact HJ.out.later hb03⟩
              case measure => simp [intOf]; omega
            · go_wp2_with fail
              refine (HVe.out w3 hb03).mono ?_
              rintro e w4 ⟨rfl, hb4⟩
              have hb04 := hb03.trans (hb4.mono hb03.size)
              have z0 : w4.cell? ⟨wp.heap.size, 0, none⟩ = some (.int .i64 (T : Int)) := (hb4.cell (p := ⟨wp.heap.size, 0, none⟩) (block_lt_of_cell y0)).trans y0
              rcases hvr with hV | ⟨V, hV3, hV⟩
              · have HG := Lib.hid (hVG.out _ hV)
                rw [hV]
                clear hVG
                go_wp2_with fail
                go_roundw
                case rel => exact ⟨k + 1, by omega, by go_num, by rw [HG.out]; exact HJ.out.later hb04⟩
                case measure => simp [intOf]; omega
              · have HG := Lib.hid (hVG.out _ hV)
                rw [hV]
                clear hVG
                obtain ⟨b4, hb4e⟩ : ∃ b4, ((V : Int) != (T : Int)) = b4 := ⟨_, rfl⟩
                rw [hb4e] at HG
                have hV0 : (0 : Int) ≤ (V : Int) := by omega
                have hV4 : (V : Int) < 4 := by omega
                cases b4
                · go_wp2_with fail
                  go_roundw
                  case rel => exact ⟨k + 1, by omega, by go_num, by rw [HG.out, if_neg (by simp)]; exact HJ.out.later hb04⟩
                  case measure => simp [intOf]; omega
                · have hJu := HJ.out.later hb04
                  obtain ⟨hcr, hfz, hr16⟩ := hJu.at_ hokK.out hV3
                  obtain ⟨r, hr⟩ : ∃ r, RK.getD V 0 = r := ⟨_, rfl⟩
                  have HSET : Hid (∀ v : Int, v = ((r ||| (1 <<< ((T : Int)).toNat) : Nat) : Int) → VgInv w LA L g (vgTo (verI s L) L s R1 (k + 1)) rest (w4.setCell ⟨g, V, none⟩ (.int .i64 v))) := by
                    intro v hv
                    rw [HG.out, if_pos (by simp)]
                    exact hJu.set hge hNE.out hV3 hokK.out (by rw [hr]; exact hv)
                  rw [hr] at hcr hr16
                  clear hJu hr HG HCo HVe
                  have hnw1 := World.new_ne w4 _ hcr
                  rcases (by omega : T = 0 ∨ T = 1 ∨ T = 2 ∨ T = 3) with rfl | rfl | rfl | rfl
                  · have hor : bits .or .i64 (r : Int) 1 = ((r ||| 1 : Nat) : Int) := or_nat r 1 (by omega) (by omega)
                    go_wp2_with fail
                    go_region
                    go_wp2_with fail
                    go_roundw
                    case rel => exact ⟨k + 1, by omega, by go_num, (HSET.out _ rfl).drew⟩
                    case measure => simp [intOf]; omega
                  · have hor : bits .or .i64 (r : Int) 2 = ((r ||| 2 : Nat) : Int) := or_nat r 2 (by omega) (by omega)
                    go_wp2_with fail
                    go_region
                    go_wp2_with fail
                    go_roundw
                    case rel => exact ⟨k + 1, by omega, by go_num, (HSET.out _ rfl).drew⟩
                    case measure => simp [intOf]; omega
                  · have hor : bits .or .i64 (r : Int) 4 = ((r ||| 4 : Nat) : Int) := or_nat r 4 (by omega) (by omega)
                    go_wp2_with fail
                    go_region
                    go_wp2_with fail
                    go_roundw
                    case rel => exact ⟨k + 1, by omega, by go_num, (HSET.out _ rfl).drew⟩
                    case measure => simp [intOf]; omega
                  · have hor : bits .or .i64 (r : Int) 8 = ((r ||| 8 : Nat) : Int) := or_nat r 8 (by omega) (by omega)
                    go_wp2_with fail
                    go_region
                    go_wp2_with fail
                    go_roundw
                    case rel => exact ⟨k + 1, by omega, by go_num, (HSET.out _ rfl).drew⟩
                    case measure => simp [intOf]; omega
          · go_wp2_with fail
            rw [← hW]
            clear hW
            go_wp2_with fail
            go_roundw
            case rel => exact ⟨k + 1, by omega, by go_num, by rw [hVG.out _ rfl]; exact HJ.out.later hbW⟩
            case measure => simp [intOf]; omega
        · have hfin : Hid (vgTo (verI s L) L s R1 k = vgI s) := by
            show _ = _
            rw [hgood.out]
            have : k = s.length := by omega
            rw [this]
          rw [hfin.out] at hJ
          have hok : Rows4 (vgI s) := by rw [← hfin.out]; exact vgTo_ok hok1.out (fun o ho => validS_tx3 HV.out ho) k
          have hlen : (rowsI (vgI s)).length = 4 := by simp [rowsI, hok.1]
          have HO : Hid (RetInts w (rowsI (vgI s)) (.returned (.slice (some ⟨g, 0, none⟩) 4 gc)) wp) := by
            refine RetInts.mk hlen (by first | exact hgc | (rw [hlen]; exact hgc)) ⟨RowIs.ints hJ.row hlen (by omega), fun ad had => ?_⟩ hJ.below
            injection had with had
            subst had
            exact ⟨_, _, rfl, hge, hJ.row, by simp [intCells, hlen]⟩
          clear hJ
          go_wp2_with fail
          go_ret
          exact HO.out
end Go.Proofs.Ytofcpfabjfhjoaa
