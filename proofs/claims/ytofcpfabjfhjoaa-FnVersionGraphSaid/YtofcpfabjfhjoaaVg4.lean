/-
  versionGraph of the reference: the walk.
-/
import Derived.Test.YtofcpfabjfhjoaaVg2
import Derived.StillTailTactics
import Derived.Test.YtofcpfabjfhjoaaPlain5
namespace Go.Proofs.Ytofcpfabjfhjoaa
open Go.RowKit Go.BigFrame
set_option linter.unusedVariables false

theorem agIn_span {f : Int → Bool} {t : Int} {L : List Int} {rows : List Nat} {i k : Nat} {u : Int} (h : L[k]? = some u) (hik : i ≤ k) : agIn f t ((L.take (k + 1)).drop i) rows = if f u then rowSet (agIn f t ((L.take k).drop i) rows) t u else agIn f t ((L.take k).drop i) rows := by
  have hk : k < L.length := (List.getElem?_eq_some_iff.1 h).1
  rw [take_snoc h, List.drop_append_of_le_length (by rw [List.length_take]; omega)]
  unfold agIn
  rw [List.foldl_append]; rfl
theorem verS_rng {s : List OpV} {L : List Int} (hl : ∀ u ∈ L, 0 ≤ u ∧ u ≤ 3) {k : Nat} {o : OpV} (ho : 0 ≤ o.tx ∧ o.tx ≤ 3) : verS s L k o = -1 ∨ ∃ V : Nat, V ≤ 3 ∧ verS s L k o = V := by
  have hz : ∀ z : Int, 0 ≤ z ∧ z ≤ 3 → ∃ V : Nat, V ≤ 3 ∧ z = V := fun z hz => by
    obtain ⟨V, rfl⟩ := Int.eq_ofNat_of_zero_le hz.1
    exact ⟨V, by omega, rfl⟩
  unfold verS
  split
  · exact .inr (hz _ ho)
  · have : ∀ z : Int, (L.foldl (fun v u => if pS s o u then u else v) z = z) ∨ L.foldl (fun v u => if pS s o u then u else v) z ∈ L := by
      intro z
      clear hl
      induction L generalizing z with
      | nil => exact .inl rfl
      | cons x r ih =>
        rw [List.foldl_cons]
        rcases ih (if pS s o x then x else z) with h | h
        · rw [h]
          split
          · exact .inr (by simp)
          · exact .inl rfl
        · exact .inr (List.mem_cons_of_mem _ h)
    rcases this (-1) with h | h
    · exact .inl h
    · exact .inr (hz _ (hl _ h))

set_option maxRecDepth 100000 in
set_option maxHeartbeats 4000000 in
theorem sversionGraph_any (A : Option Addr) (n c : Nat) (s : List OpV) (w : World) (hx : ROps w A n s) (hv : validS s = true) :
    Calls Try.prog 87 #[.slice A n c] w (RetInts w (rowsI (vgS s))) := by
  have hn := hx.2.1
  have hl := hx.1
  have HV := Lib.hid hv
  have HX := Lib.hid hx
  clear hx hv
  have hok0 : Rows4 (agS4 s) := by unfold agS4; exact agTo_ok (survS_rng HV.out) _
  have hlen0 : (rowsI (agS4 s)).length = 4 := by simp [rowsI, hok0.1]
  go_enter Try.func87, Try.ntmps87
  go_wp2_with fail
  refine (against_any A n c s w HX.out HV.out).mono ?_
  rintro e w1 ⟨GA, gc, rfl, hgc, hfG, hb1⟩
  rw [hlen0] at hfG hgc
  rw [hlen0]
  obtain ⟨g, rest, hGA, hge, hrow⟩ := hfG.row (by omega)
  subst hGA
  have hlt1 := hrow.lt
  go_wp2_with fail
  refine (survivors_any A n c s w1 (HX.out.below hb1 (Nat.le_refl _))).mono ?_
  rintro e w2 ⟨LA, lc, rfl, hlc, hfL, hb2⟩
  have hNE : Hid (∀ ad, LA = some ad → g ≠ ad.block) := by
    intro ad had
    have := (hfL.2 ad had)
    obtain ⟨b, cur, rfl, hge', _⟩ := this
    simp only; omega
  have hbw2 := hb1.trans (hb2.mono hb1.size)
  have HI0 : Hid (VgInv w LA (survS s) g (agS4 s) rest w2) := ⟨hbw2, hrow.below hb2 (Nat.le_refl _), hfL.1⟩
  have HR : Hid (∀ u ∈ survS s, 0 ≤ u ∧ u ≤ 3) := survS_rng HV.out
  have hgood : Hid (vgS s = vgTo (verS s (survS s)) (survS s) s (vsOut (meetsB s) (survS s) (agS4 s) (survS s).length) s.length) := rfl
  have hlenL := hfL.1.2.1
  generalize survS s = L at *
  generalize hR0 : agS4 s = R0 at *
  have HK0 := Lib.hid hok0
  clear hfG hrow hfL hb1 hb2 hbw2 hok0 hR0 hlen0
  go_wp2_with fail
  go_loopw [5] (fun i wr => ∃ j : Nat, j ≤ L.length ∧ i = .int .i64 j ∧ VgInv w LA L g (vsOut (meetsB s) L R0 j) rest wr) (fun i _ => L.length - (intOf i).toNat)
  case atStart => exact ⟨0, Nat.zero_le _, rfl, HI0.out⟩
  case round =>
    clear HI0
    obtain ⟨wo, rfl⟩ : ∃ wo : World, wo = wr := ⟨_, rfl⟩
    obtain ⟨j, hj, rfl, hI⟩ := hrel
    by_cases hlt : j < L.length
    · obtain ⟨bo, offo, x, hA, hbo, hxx, hcx⟩ := hI.list.at_ hlt
      subst hA
      have hxr := HR.out x (List.mem_of_getElem? hxx)
      obtain ⟨T, rfl⟩ := Int.eq_ofNat_of_zero_le hxr.1
      have hT3 : T ≤ 3 := by omega
      have hstep := Lib.hid (vsOut_succ (m := meetsB s) (L := L) (rows := R0) hxx)
      have hokO : Hid (Rows4 (vsOut (meetsB s) L R0 j)) := vsOut_ok HR.out HK0.out j
      generalize hRO : vsOut (meetsB s) L R0 j = RO at *
      have hI' : VgInv w (some ⟨bo, offo, none⟩) L g (agIn (meetsB s T) T ((L.take (j + 1)).drop (j + 1)) RO) rest wo := by
        have e : (L.take (j + 1)).drop (j + 1) = [] := by
          apply List.drop_eq_nil_of_le
          rw [List.length_take]; omega
        rw [e]; exact hI
      have HI := Lib.hid hI'
      have HRO := Lib.hid hRO
      have HXX := Lib.hid hxx
      clear hI hI' hRO hxx hcx
      have hji : (j : Int) < (L.length : Int) := by omega
      have hj0 : (0 : Int) ≤ (j : Int) := by omega
      go_wp2_with fail
      go_loopw [6] (fun i wr => ∃ q : Nat, j + 1 ≤ q ∧ q ≤ L.length ∧ i = .int .i64 q ∧ VgInv w (some ⟨bo, offo, none⟩) L g (agIn (meetsB s T) T ((L.take q).drop (j + 1)) RO) rest wr) (fun i _ => L.length - (intOf i).toNat)
      case atStart => exact ⟨j + 1, Nat.le_refl _, by omega, by go_num, HI.out⟩
      case round =>
        clear HI
        obtain ⟨wi, rfl⟩ : ∃ wi : World, wi = wr := ⟨_, rfl⟩
        obtain ⟨q, hjq, hq, rfl, hJ⟩ := hrel
        by_cases hlt2 : q < L.length
        · obtain ⟨bo2, offo2, x2, hA2, _, hxx2, hcx2⟩ := hJ.list.at_ hlt2
          injection hA2 with hA2
          injection hA2 with e1 e2 _
          subst e1; subst e2
          obtain ⟨bo3, offo3, x3, hA3, _, hxx3, hcx⟩ := hJ.list.at_ hlt
          injection hA3 with hA3
          injection hA3 with e1 e2 _
          subst e1; subst e2
          rw [HXX.out] at hxx3
          injection hxx3 with hxx3
          subst hxx3
          have hxr2 := HR.out x2 (List.mem_of_getElem? hxx2)
          obtain ⟨U, rfl⟩ := Int.eq_ofNat_of_zero_le hxr2.1
          have hU3 : U ≤ 3 := by omega
          have hsn := Lib.hid (agIn_span (f := meetsB s T) (t := T) (rows := RO) hxx2 hjq)
          have hok2 : Hid (Rows4 (agIn (meetsB s T) T ((L.take q).drop (j + 1)) RO)) := agIn_ok (fun u hu => HR.out u (List.mem_of_mem_take (List.mem_of_mem_drop hu))) hokO.out
          generalize hRI : agIn (meetsB s T) T ((L.take q).drop (j + 1)) RO = RI at *
          have HJ := Lib.hid hJ
          obtain ⟨bm, hbm⟩ : ∃ b, meetsB s T U = b := ⟨_, rfl⟩
          have hM : ∀ v : Later wi, Calls Try.prog 124 #[.slice A n c, .int .i64 (T : Int), .int .i64 (U : Int)] v.1 fun e w' => e = .returned (.bool bm) ∧ Below v.1.heap.size v.1 w' := fun v => by
            have := meets_any A n c s T U v.1 ((HX.out.below hJ.below (Nat.le_refl _)).later v); rw [hbm] at this; exact this
          have HM := Lib.hid hM
          rw [hbm] at hsn
          have N0 := Later.cell hcx
          have N1 := Later.cell hcx2
          have hqi : (q : Int) < (L.length : Int) := by omega
          have hq0 : (0 : Int) ≤ (q : Int) := by omega
          clear hJ hxx2 hM hbm hRI
          go_wp2_with fail
          refine region_later (by kernel_rfl) (by kernel_rfl) ?_
          repeat (go_big_quiet_step ((go_at_call 124; exact later_call _ (HM.out _))))
          refine wpQuiet_nil ?_
          rintro _ ⟨u, rfl⟩
          cases bm
          · go_wp2_with fail
            go_roundw
            case rel => exact ⟨q + 1, by omega, by omega, by go_num, by rw [hsn.out]; exact HJ.out.later u.2⟩
            case measure => simp [intOf]; omega
          · have hJu := HJ.out.later u.2
            obtain ⟨hcr, hfz, hr16⟩ := hJu.at_ hok2.out hT3
            have n0 := N0 u
            have n1 := N1 u
            obtain ⟨uj, huj⟩ : ∃ uj : World, u.1 = uj := ⟨_, rfl⟩
            rw [huj] at hJu hcr hfz n0 n1
            rw [huj]
            obtain ⟨r, hr⟩ : ∃ r, RI.getD T 0 = r := ⟨_, rfl⟩
            have HSET : Hid (∀ v : Int, v = ((r ||| 2 ^ U : Nat) : Int) → VgInv w (some ⟨bo, offo, none⟩) L g (agIn (meetsB s T) T ((L.take (q + 1)).drop (j + 1)) RO) rest (uj.setCell ⟨g, T, none⟩ (.int .i64 v))) := by
              intro v hv
              rw [hsn.out, if_pos rfl]
              exact hJu.set hge hNE.out hT3 hok2.out (by rw [hr, hv, Int.toNat_natCast, Nat.one_shiftLeft])
            rw [hr] at hcr hr16
            have hP2 : (2 ^ U : Nat) < 16 := by
              rcases (by omega : U = 0 ∨ U = 1 ∨ U = 2 ∨ U = 3) with e | e | e | e <;> rw [e] <;> decide
            have hor := or_nat r (2 ^ U) (by omega) (by omega)
            have hPW : ∀ W : World, Calls Try.prog 133 #[.int .i64 (U : Int)] W fun e w' => e = .returned (.int .i64 ((2 ^ U : Nat) : Int)) ∧ w' = W := fun W => (spower_any U W (by omega)).mono fun e w' h => ⟨h.1, h.2.symm⟩
            generalize hPP : 2 ^ U = p2 at *
            have HPW := Lib.hid hPW
            have hT4 : (T : Int) < 4 := by omega
            have hT0 : (0 : Int) ≤ (T : Int) := by omega
            obtain ⟨wd, hwd⟩ : ∃ wd : World, wd = uj.drew := ⟨_, rfl⟩
            have hcr2 : wd.cell? ⟨g, T, none⟩ = some (.int .i64 (r : Int)) := by rw [hwd]; exact hcr
            have hfz2 : wd.frozen? ⟨g, T, none⟩ = false := by rw [hwd]; exact hfz
            have HSET2 : Hid (∀ v : Int, v = ((r ||| p2 : Nat) : Int) → VgInv w (some ⟨bo, offo, none⟩) L g (agIn (meetsB s T) T ((L.take (q + 1)).drop (j + 1)) RO) rest (wd.setCell ⟨g, T, none⟩ (.int .i64 v))) := by
              intro v hv
              rw [hwd]
              exact (HSET.out v hv).drew
            clear hJu hr huj HM N0 N1 hsn hPP hPW hP2 hcx hcx2
            have hnw2 := World.new_ne wd _ hcr2
            go_wp2_with fail
            refine wp_region_still_tail 19 (by kernel_rfl) (by kernel_rfl) ?_
            simp only [List.take_succ_cons, List.take_zero, List.drop_succ_cons, List.drop_zero]
            repeat (first | still_step | still_call (HPW.out _))
            refine wpStill_nil ?_
            change wpList _ _ _ _ _ uj.drew
            rw [← hwd]
            go_wp2_with fail
            go_roundw
            case rel => exact ⟨q + 1, by omega, by omega, by go_num, by first | exact HSET2.out _ rfl | exact (HSET.out _ rfl).drew⟩
            case measure => simp [intOf]; omega
        · have hfin : Hid (agIn (meetsB s T) T ((L.take q).drop (j + 1)) RO = vsOut (meetsB s) L R0 (j + 1)) := by
            show _ = _
            rw [List.take_of_length_le (by omega), hstep.out]
          rw [hfin.out] at hJ
          have HJ := Lib.hid hJ
          clear hJ
          go_wp2_with fail
          go_roundw
          case rel => exact ⟨j + 1, by omega, by go_num, HJ.out⟩
          case measure => simp [intOf]; omega
    · have ej : j = L.length := by omega
      rw [ej] at hI
      have HI := Lib.hid hI
      have hok1 : Hid (Rows4 (vsOut (meetsB s) L R0 L.length)) := vsOut_ok HR.out HK0.out _
      generalize hR1 : vsOut (meetsB s) L R0 L.length = R1 at *
      have HR1 := Lib.hid hR1
      clear hI hR1 ej
      go_wp2_with fail
      go_loopw [7] (fun i wr => ∃ k : Nat, k ≤ n ∧ i = .int .i64 k ∧ VgInv w LA L g (vgTo (verS s L) L s R1 k) rest wr) (fun i _ => n - (intOf i).toNat)
      case atStart => exact ⟨0, Nat.zero_le _, rfl, HI.out⟩
      case round =>
        clear HI
        obtain ⟨wp, rfl⟩ : ∃ wp : World, wp = wr := ⟨_, rfl⟩
        obtain ⟨k, hk, rfl, hJ⟩ := hrel
        by_cases hltk : k < n
        · obtain ⟨b, off, o, hA, hbl, ho, c0, c1, c2⟩ := (HX.out.below hJ.below (Nat.le_refl _)).at_ hltk
          subst hA
          have hom := List.mem_of_getElem? ho
          have htx := validS_tx3 HV.out hom
          have hst2 := Lib.hid (vgTo_succ (ver := verS s L) (L := L) (rows := R1) ho)
          have hokK : Hid (Rows4 (vgTo (verS s L) L s R1 k)) := vgTo_ok hok1.out (fun o ho => validS_tx3 HV.out ho) k
          have hvr : verS s L k o = -1 ∨ ∃ V : Nat, V ≤ 3 ∧ verS s L k o = V := verS_rng HR.out htx
          have hVe : ∀ W : World, Below wp.heap.size wp W → Calls Try.prog 92 #[.slice (some ⟨b, off, none⟩) n c, .slice LA L.length lc, .int .i64 (k : Int)] W fun e w' => e = .returned (.int .i64 (verS s L k o)) ∧ Below W.heap.size W w' := fun W hW =>
            versionAt_any _ LA n c lc k s L o W ((HX.out.below hJ.below (Nat.le_refl _)).below hW (Nat.le_refl _)) (hJ.list.below hW (Nat.le_refl _)) ho
          obtain ⟨tx, kd, it⟩ := o
          simp only at hst2 c0 c1 c2 htx
          obtain ⟨T, rfl⟩ := Int.eq_ofNat_of_zero_le htx.1
          have hT3 : T ≤ 3 := by omega
          obtain ⟨bk, hkk⟩ : ∃ bk, (kd == 0) = bk := ⟨_, rfl⟩
          obtain ⟨bc, hbc⟩ : ∃ bc, (L.any fun y => y == (T : Int)) = bc := ⟨_, rfl⟩
          have hCo : ∀ (W : World), Below wp.heap.size wp W → Calls Try.prog 94 #[.slice LA L.length lc, .int .i64 (T : Int)] W fun e w' => e = .returned (.bool bc) ∧ Below W.heap.size W w' := fun W hW => by
            have := hasInt_any LA L.length lc L T W (hJ.list.below hW (Nat.le_refl _)); rw [hbc] at this; exact this
          have hVG : Hid (∀ V, verS s L k ⟨T, kd, it⟩ = V → vgTo (verS s L) L s R1 (k + 1) = if bk && bc && decide (0 ≤ V) && (V != (T : Int)) then rowSet (vgTo (verS s L) L s R1 k) V T else vgTo (verS s L) L s R1 k) := by
            intro V hV
            rw [hst2.out]
            unfold vgStep
            simp only
            rw [hV, hkk, hbc]
          have HJ := Lib.hid hJ
          have HCo := Lib.hid hCo
          have HVe := Lib.hid hVe
          generalize hRK : vgTo (verS s L) L s R1 k = RK at *
          have HRK := Lib.hid hRK
          clear hRK hst2 hbc hCo hVe hJ ho hom htx
          have hkn : (k : Int) < (n : Int) := by omega
          have hk0 : (0 : Int) ≤ (k : Int) := by omega
          have L0 := Later.cell c0
          have L1 := Later.cell c1
          cases bk
          · have hkk' : ¬ kd = 0 := by simpa using hkk
            go_wp2_with fail
            go_roundw
            case rel => exact ⟨k + 1, by omega, by go_num, by rw [hVG.out _ rfl]; exact HJ.out⟩
            case measure => simp [intOf]; omega
          · have hkk' : kd = 0 := by simpa using hkk
            subst hkk'
            go_wp2_with fail
            refine (HCo.out wp (Below.refl _ _)).mono ?_
            rintro e w3 ⟨rfl, hb03⟩
            have y0 := L0 ⟨w3, hb03⟩
            simp only at y0
            cases bc
            · go_wp2_with fail
              go_roundw
              case rel => exact ⟨k + 1, by omega, by go_num, by rw [hVG.out _ rfl]; exact HJ.out.later hb03⟩
              case measure => simp [intOf]; omega
            · go_wp2_with fail
              refine (HVe.out w3 hb03).mono ?_
              rintro e w4 ⟨rfl, hb4⟩
              have hb04 := hb03.trans (hb4.mono hb03.size)
              have z0 := L0 ⟨w4, hb04⟩
              simp only at z0
              rcases hvr with hV | ⟨V, hV3, hV⟩
              · have HG := Lib.hid (hVG.out _ hV)
                rw [hV]
                clear hVG
                go_wp2_with fail
                go_roundw
                case rel => exact ⟨k + 1, by omega, by go_num, by rw [HG.out]; exact HJ.out.later hb04⟩
                case measure => simp [intOf]; omega
              · have HG := Lib.hid (hVG.out _ hV)
                rw [hV]
                clear hVG
                obtain ⟨b4, hb4e⟩ : ∃ b4, ((V : Int) != (T : Int)) = b4 := ⟨_, rfl⟩
                rw [hb4e] at HG
                have hV0 : (0 : Int) ≤ (V : Int) := by omega
                have hV4 : (V : Int) < 4 := by omega
                cases b4
                · go_wp2_with fail
                  go_roundw
                  case rel => exact ⟨k + 1, by omega, by go_num, by rw [HG.out, if_neg (by simp)]; exact HJ.out.later hb04⟩
                  case measure => simp [intOf]; omega
                · have hJu := HJ.out.later hb04
                  obtain ⟨hcr, hfz, hr16⟩ := hJu.at_ hokK.out hV3
                  obtain ⟨r, hr⟩ : ∃ r, RK.getD V 0 = r := ⟨_, rfl⟩
                  have HSET : Hid (∀ v : Int, v = ((r ||| 2 ^ T : Nat) : Int) → VgInv w LA L g (vgTo (verS s L) L s R1 (k + 1)) rest (w4.setCell ⟨g, V, none⟩ (.int .i64 v))) := by
                    intro v hv
                    rw [HG.out, if_pos (by simp)]
                    exact hJu.set hge hNE.out hV3 hokK.out (by rw [hr, hv, Int.toNat_natCast, Nat.one_shiftLeft])
                  rw [hr] at hcr hr16
                  have hP2 : (2 ^ T : Nat) < 16 := by
                    rcases (by omega : T = 0 ∨ T = 1 ∨ T = 2 ∨ T = 3) with e | e | e | e <;> rw [e] <;> decide
                  have hor := or_nat r (2 ^ T) (by omega) (by omega)
                  have hPW : ∀ W : World, Calls Try.prog 133 #[.int .i64 (T : Int)] W fun e w' => e = .returned (.int .i64 ((2 ^ T : Nat) : Int)) ∧ w' = W := fun W => (spower_any T W (by omega)).mono fun e w' h => ⟨h.1, h.2.symm⟩
                  generalize hPP : 2 ^ T = p2 at *
                  have HPW := Lib.hid hPW
                  obtain ⟨wd, hwd⟩ : ∃ wd : World, wd = w4.drew := ⟨_, rfl⟩
                  have hcr2 : wd.cell? ⟨g, V, none⟩ = some (.int .i64 (r : Int)) := by rw [hwd]; exact hcr
                  have hfz2 : wd.frozen? ⟨g, V, none⟩ = false := by rw [hwd]; exact hfz
                  have HSET2 : Hid (∀ v : Int, v = ((r ||| p2 : Nat) : Int) → VgInv w LA L g (vgTo (verS s L) L s R1 (k + 1)) rest (wd.setCell ⟨g, V, none⟩ (.int .i64 v))) := by
                    intro v hv
                    rw [hwd]
                    exact (HSET.out v hv).drew
                  clear hJu hr HG HCo HVe hPP hPW hP2 c0 c1 c2 L0 L1
                  have hnw2 := World.new_ne wd _ hcr2
                  go_wp2_with fail
                  refine wp_region_still_tail 14 (by kernel_rfl) (by kernel_rfl) ?_
                  simp only [List.take_succ_cons, List.take_zero, List.drop_succ_cons, List.drop_zero]
                  repeat (first | still_step | still_call (HPW.out _))
                  refine wpStill_nil ?_
                  change wpList _ _ _ _ _ w4.drew
                  rw [← hwd]
                  go_wp2_with fail
                  go_roundw
                  case rel => exact ⟨k + 1, by omega, by go_num, by first | exact HSET2.out _ rfl | exact (HSET.out _ rfl).drew⟩
                  case measure => simp [intOf]; omega
        · have hfin : Hid (vgTo (verS s L) L s R1 k = vgS s) := by
            show _ = _
            rw [hgood.out]
            have : k = s.length := by omega
            rw [this]
          rw [hfin.out] at hJ
          have hok : Rows4 (vgS s) := by rw [← hfin.out]; exact vgTo_ok hok1.out (fun o ho => validS_tx3 HV.out ho) k
          have hlen : (rowsI (vgS s)).length = 4 := by simp [rowsI, hok.1]
          have HO : Hid (RetInts w (rowsI (vgS s)) (.returned (.slice (some ⟨g, 0, none⟩) 4 gc)) wp) := by
            refine RetInts.mk hlen (by first | exact hgc | (rw [hlen]; exact hgc)) ⟨RowIs.ints hJ.row hlen (by omega), fun ad had => ?_⟩ hJ.below
            injection had with had
            subst had
            exact ⟨_, _, rfl, hge, hJ.row, by simp [intCells, hlen]⟩
          clear hJ
          go_wp2_with fail
          go_ret
          exact HO.out
end Go.Proofs.Ytofcpfabjfhjoaa
