/-
  againstOf of the program.
-/
import Derived.Test.YtofcpfabjfhjoaaAg0
import Derived.Deep.RegionHeld
import Derived.Outline
namespace Go.Proofs.Ytofcpfabjfhjoaa
open Go.RowKit Go.BigFrame
set_option linter.unusedVariables false

/-- What the walk of againstOf keeps: the row of bits in block g, the list of survivors, the operations. -/
structure AgInv (w : World) (A : Option Addr) (n c : Nat) (s : List OpV) (LA : Option Addr) (m : Nat) (L : List Int) (g : Nat) (rows : List Nat) (wr : World) : Prop where
  below : Below w.heap.size w wr
  row : RowIs wr g 3 (intCells (rowsI rows))
  list : RInts wr LA m L
theorem AgInv.later {w wr W : World} {A LA : Option Addr} {n c m g : Nat} {s : List OpV} {L : List Int} {rows : List Nat} (h : AgInv w A n c s LA m L g rows wr) (hb : Below wr.heap.size wr W) : AgInv w A n c s LA m L g rows W :=
  ⟨h.below.trans (hb.mono h.below.size), h.row.below hb (Nat.le_refl _), h.list.below hb (Nat.le_refl _)⟩
theorem AgInv.set {w wr : World} {A LA : Option Addr} {n c m g : Nat} {s : List OpV} {L : List Int} {rows : List Nat} {T : Nat} {u : Int} (h : AgInv w A n c s LA m L g rows wr) (hge : w.heap.size ≤ g) (hne : ∀ ad, LA = some ad → g ≠ ad.block) (hT : T ≤ 3) (h4 : Rows4 rows) {v : Int}
    (hv : v = ((rows.getD T 0 ||| (1 <<< u.toNat) : Nat) : Int)) : AgInv w A n c s LA m L g (rowSet rows T u) (wr.setCell ⟨g, T, none⟩ (.int .i64 v)) := by
  subst hv
  refine ⟨h.below.setCell (by simpa using hge) _, ?_, h.list.grown grown_set (fun b hb e => hne b hb (by injection e))⟩
  rw [rowsI_set]
  have := row_setInt (ys := rowsI rows) (more := []) (k := T) (v := ((rows.getD T 0 ||| (1 <<< u.toNat) : Nat) : Int)) (by simpa using h.row) (by simp [rowsI, h4.1]; omega)
  simpa using this

theorem grown_drew {w w' : World} {row : Option Nat} (h : w.grownBy w' row) : w.grownBy w'.drew row := ⟨h.os, h.tape, h.output, h.size, h.block⟩
theorem AgInv.drew {w wr : World} {A LA : Option Addr} {n c m g : Nat} {s : List OpV} {L : List Int} {rows : List Nat} (h : AgInv w A n c s LA m L g rows wr) : AgInv w A n c s LA m L g rows wr.drew := ⟨h.below.drew, h.row, h.list⟩
set_option maxRecDepth 100000 in
set_option maxHeartbeats 2000000 in
theorem againstOf_any (A : Option Addr) (n c : Nat) (s : List OpV) (w : World) (hx : ROps w A n s) (hnc : n ≤ c) (hv : validS s = true) :
    Calls Try.prog 82 #[.slice A n c] w (RetInts w (rowsI (agI4 s))) := by
  have hn := hx.2.1
  have hl := hx.1
  have HV := Lib.hid hv
  have HX := Lib.hid hx
  clear hx hv
  obtain ⟨i0, hi, hz0, hz1, hz2⟩ := info_parts intInfo
  go_enter Try.func82, Try.ntmps82
  go_wp2_with (at_make; refine wpList_make_full _ rfl _ _ 25 rfl w.heap.size 3 i0 _ 1 Try.underlying25 hi hz0 hz1 .i64 .i64 _ _ 4 rfl rfl rfl rfl (by rw [hz2]; omega) (by unfold maxLen; omega) (Nat.le_refl _) ?_; intro w1 hown1 hg1)
  have hb1 : Below w.heap.size w w1 := ⟨hg1.os, hg1.tape, hg1.output, hg1.size, fun k hk => hg1.block k hk (by simp)⟩
  have hrow : RowIs w1 w.heap.size 3 (intCells (rowsI [0, 0, 0, 0])) := by
    rcases hown1.2 with ⟨h1, _⟩ | ⟨g, cap, cur, h1, h2, h3, h4, h5, h6, h7⟩
    · cases h1
    · injection h1 with ha hb hc
      injection ha with ha
      injection ha with ha
      subst ha; subst hc
      unfold RowIs
      rw [h3]
      congr 2
      apply Array.ext'
      rw [List.take_of_length_le (by simpa using Nat.le_of_eq h6)] at h7
      rw [h7, made_ints]
      rfl
  have hlt1 := hrow.lt
  have HST := Lib.hid (And.intro hrow hb1)
  clear hown1 hb1 hg1 hrow hi hz0 hz1 hz2
  refine (survivorsOf_any A n c s w1 (HX.out.below HST.out.2 (Nat.le_refl _)) (validS_items HV.out)).mono ?_
  rintro e w2 ⟨LA, lc, rfl, hlc, ⟨hL, hLf⟩, hb2⟩
  have hlenL := hL.2.1
  have hne : ∀ ad, LA = some ad → w.heap.size ≠ ad.block := by
    intro ad had
    obtain ⟨b, cur, rfl, hge, _⟩ := hLf ad had
    simp only; omega
  have hlt2 : w.heap.size < w2.heap.size := Nat.lt_of_lt_of_le hlt1 hb2.size
  have HS2 : Hid (AgInv w A n c s LA (survI s).length (survI s) w.heap.size (agTo (gI s (survI s)) (fI s) (survI s) s 0) w2) :=
    ⟨HST.out.2.trans (hb2.mono HST.out.2.size), HST.out.1.below hb2 (Nat.le_refl _), hL⟩
  have HNE := Lib.hid hne
  have HR : Hid (∀ u ∈ survI s, 0 ≤ u ∧ u ≤ 3) := survI_rng HV.out
  have hgood : Hid (agI4 s = agTo (gI s (survI s)) (fI s) (survI s) s s.length) := rfl
  generalize hLL : survI s = L at *
  have HLL := Lib.hid hLL
  clear hL hLf hne HST hb2 hLL
  go_wp2_with fail
  go_loopw [14] (fun i wr => ∃ k : Nat, k ≤ n ∧ i = .int .i64 k ∧ AgInv w A n c s LA L.length L w.heap.size (agTo (gI s L) (fI s) L s k) wr) (fun i _ => n - (intOf i).toNat)
  case atStart => exact ⟨0, Nat.zero_le _, rfl, HS2.out⟩
  case round =>
    clear HS2
    obtain ⟨wo, rfl⟩ : ∃ wo : World, wo = wr := ⟨_, rfl⟩
    obtain ⟨k, hk, rfl, hI⟩ := hrel
    by_cases hlt : k < n
    · have hxr := HX.out.below hI.below (Nat.le_refl _)
      obtain ⟨b, off, o, rfl, hbl, ho, c0, c1, c2⟩ := hxr.at_ hlt
      have hom := List.mem_of_getElem? ho
      have htx := validS_tx3 HV.out hom
      have hit := validS_item HV.out hom
      have hstep := Lib.hid (agTo_succ (g := gI s L) (f := fI s) (list := L) ho)
      have HI := Lib.hid hI
      have hwm := wTo_lt (s.take k) o.tx (itemsOk_take (validS_items HV.out) k) (s.take k).length
      have hokR : Hid (Rows4 (agTo (gI s L) (fI s) L s k)) := agTo_ok HR.out k
      clear hxr ho hI
      obtain ⟨tx, kd, it⟩ := o
      simp only at hstep c0 c1 c2 htx hit hwm
      obtain ⟨T, rfl⟩ := Int.eq_ofNat_of_zero_le htx.1
      obtain ⟨X, rfl⟩ := Int.eq_ofNat_of_zero_le hit.1
      generalize hRR : agTo (gI s L) (fI s) L s k = R at *
      have HRR := Lib.hid hRR
      clear hRR
      have hT3 : T ≤ 3 := by omega
      have hX2 : X ≤ 2 := by omega
      clear htx hit
      -- the three parts of the test
      obtain ⟨bk, hbk⟩ : ∃ bk, (kd != 0) = bk := ⟨_, rfl⟩
      obtain ⟨bc, hbc⟩ : ∃ bc, (L.any fun y => y == (T : Int)) = bc := ⟨_, rfl⟩
      obtain ⟨bw, hbw⟩ : ∃ bw, (wI (s.take k) T).testBit X = bw := ⟨_, rfl⟩
      have hgI : gI s L k ⟨T, kd, X⟩ = (!bk && bc && !bw) := by
        unfold gI
        simp only [Int.toNat_natCast]
        rw [hbc, hbw]
        congr 2
        rw [← hbk, bne, Bool.not_not]
      have HG := Lib.hid hgI
      have hCo : ∀ (W : World), Below wo.heap.size wo W → Calls Try.prog 134 #[.slice LA L.length lc, .int .i64 (T : Int)] W fun e w' => e = .returned (.bool bc) ∧ Below W.heap.size W w' := fun W hW => by
        have := ContainsL_any LA L.length lc L T W (HI.out.list.below hW (Nat.le_refl _)); rw [hbc] at this; exact this
      have hWr : ∀ (W : World), Below wo.heap.size wo W → Calls Try.prog 118 #[.slice (some ⟨b, off, none⟩) k c, .int .i64 (T : Int)] W fun e w' => e = .returned (.int .i64 (wI (s.take k) T : Nat)) ∧ Below W.heap.size W w' := fun W hW =>
        writesOf_any _ k c (s.take k) T W (((HX.out.below HI.out.below (Nat.le_refl _)).take hk).below hW (Nat.le_refl _)) (itemsOk_take (validS_items HV.out) k)
      have hab := and_bit (wI (s.take k) T) X (by unfold wI; omega)
      rw [hbw] at hab
      have HCo := Lib.hid hCo
      have HWr := Lib.hid hWr
      have HBW := Lib.hid hbw
      clear hCo hWr hgI hbw hbc
      generalize hM : wI (s.take k) T = M at *
      clear hM hwm
      have hkc : (k : Int) ≤ (c : Int) := by omega
      have hk0 : (0 : Int) ≤ (k : Int) := by omega
      have hX0 : (0 : Int) ≤ (X : Int) := by omega
      cases bk
      · cases bc
        · -- not among the survivors
          go_wp2_with fail
          obtain ⟨W, hW⟩ : ∃ W : World, W = wo.alloc (.cells #[.int .i64 (T : Int), .int .i64 kd, .int .i64 (X : Int)] 46) := ⟨_, rfl⟩
          rw [← hW]
          obtain ⟨L0, L1, L2, hbW, hWs⟩ := op_box hW
          clear hW
          refine region_later (by kernel_rfl) (by kernel_rfl) ?_
          repeat (go_big_quiet_step ((first | (go_at_call 134; exact later_call _ (HCo.out _ (hbW.trans (Later.below_ _ hbW.size)))) | (go_at_call 118; exact later_call _ (HWr.out _ (hbW.trans (Later.below_ _ hbW.size)))))))
          refine wpQuiet_nil ?_
          rintro _ ⟨u, rfl⟩
          go_wp2_with fail
          go_roundw
          case rel => exact ⟨k + 1, by omega, by go_num, by rw [hstep.out, HG.out]; exact HI.out.later (hbW.trans (Later.below_ u hbW.size))⟩
          case measure => simp [intOf]; omega
        · cases bw
          · -- the test holds: the inner loop
            go_wp2_with fail
            obtain ⟨W, hW⟩ : ∃ W : World, W = wo.alloc (.cells #[.int .i64 (T : Int), .int .i64 kd, .int .i64 (X : Int)] 46) := ⟨_, rfl⟩
            rw [← hW]
            obtain ⟨L0, L1, L2, hbW, hWs⟩ := op_box hW
            clear hW
            refine region_later (by kernel_rfl) (by kernel_rfl) ?_
            repeat (go_big_quiet_step ((first | (go_at_call 134; exact later_call _ (HCo.out _ (hbW.trans (Later.below_ _ hbW.size)))) | (go_at_call 118; exact later_call _ (HWr.out _ (hbW.trans (Later.below_ _ hbW.size)))))))
            refine wpQuiet_nil ?_
            rintro _ ⟨u, rfl⟩
            go_wp2_with fail
            have hwl : w.heap.size < wo.heap.size := HI.out.row.lt
            have d0 := L0 u
            have d1 := L1 u
            have d2 := L2 u
            have hIu : Hid (AgInv w (some ⟨b, off, none⟩) n c s LA L.length L w.heap.size (agIn (fI s ⟨T, kd, X⟩) T (L.take 0) R) u.1) := HI.out.later (hbW.trans (Later.below_ u hbW.size))
            have husz : wo.heap.size < u.1.heap.size := block_lt_of_cell d0
            have hbo : wo.heap.size ≠ w.heap.size := by omega
            obtain ⟨ui, hui⟩ : ∃ ui : World, u.1 = ui := ⟨_, rfl⟩
            rw [hui] at d0 d1 d2 hIu husz
            rw [hui]
            clear L0 L1 L2 hui HCo HWr
            go_loopw [44] (fun j wr => ∃ q : Nat, q ≤ L.length ∧ j = .int .i64 q ∧ ui.grownBy wr (some w.heap.size) ∧ AgInv w (some ⟨b, off, none⟩) n c s LA L.length L w.heap.size (agIn (fI s ⟨T, kd, X⟩) T (L.take q) R) wr) (fun j _ => L.length - (intOf j).toNat)
            case atStart => exact ⟨0, Nat.zero_le _, rfl, World.grownBy.refl _ _, hIu.out⟩
            case round =>
              obtain ⟨q, hq, rfl, hgr, hJ⟩ := hrel
              clear hIu
              have e0 := hgr.cell d0 (by simpa using hbo)
              have e1 := hgr.cell d1 (by simpa using hbo)
              have e2 := hgr.cell d2 (by simpa using hbo)
              by_cases hlt2 : q < L.length
              · obtain ⟨bo, offo, x, hA, hbo2, hxx, hcx⟩ := hJ.list.at_ hlt2
                subst hA
                have hxr := HR.out x (List.mem_of_getElem? hxx)
                obtain ⟨U, rfl⟩ := Int.eq_ofNat_of_zero_le hxr.1
                have hU3 : U ≤ 3 := by omega
                have hsn := Lib.hid (agIn_snoc (f := fI s ⟨T, kd, X⟩) (t := T) (rows := R) hxx)
                have hok2 : Hid (Rows4 (agIn (fI s ⟨T, kd, X⟩) T (L.take q) R)) := agIn_ok (fun u hu => HR.out u (List.mem_of_mem_take hu)) hokR.out
                have HJ := Lib.hid hJ
                have hxs := HX.out.below hJ.below (Nat.le_refl _)
                have hC : ∀ v : Later wr, Calls Try.prog 85 #[.slice (some ⟨b, off, none⟩) n c, .int .i64 (U : Int)] v.1 fun e w' => e = .returned (.int .i64 (commitI s U)) ∧ Below v.1.heap.size v.1 w' := fun v => commitOf_any _ n c s U v.1 (hxs.later v)
                have hF : ∀ v : Later wr, Calls Try.prog 84 #[.slice (some ⟨b, off, none⟩) n c, .int .i64 (T : Int)] v.1 fun e w' => e = .returned (.int .i64 (firstI s T)) ∧ Below v.1.heap.size v.1 w' := fun v => firstOf_any _ n c s T v.1 (hxs.later v)
                have hW2 : ∀ v : Later wr, Calls Try.prog 118 #[.slice (some ⟨b, off, none⟩) n c, .int .i64 (U : Int)] v.1 fun e w' => e = .returned (.int .i64 (wI s U : Nat)) ∧ Below v.1.heap.size v.1 w' := fun v => writesOf_any _ n c s U v.1 (hxs.later v) (validS_items HV.out)
                have HC := Lib.hid hC
                have HF := Lib.hid hF
                have HW2 := Lib.hid hW2
                obtain ⟨b1, hb1⟩ : ∃ b1, ((U : Int) != (T : Int)) = b1 := ⟨_, rfl⟩
                obtain ⟨b3, hb3⟩ : ∃ b3, (wI s U).testBit X = b3 := ⟨_, rfl⟩
                have hwm2 := wTo_lt s U (validS_items HV.out) s.length
                have hab2 := and_bit (wI s U) X (by unfold wI; omega)
                rw [hb3] at hab2
                obtain ⟨cU, hcU⟩ : ∃ z, commitI s U = z := ⟨_, rfl⟩
                obtain ⟨fT, hfT⟩ : ∃ z, firstI s T = z := ⟨_, rfl⟩
                have hfi : fI s ⟨T, kd, X⟩ U = (b1 && decide (fT < cU) && b3) := by
                  unfold fI
                  simp only [Int.toNat_natCast]
                  rw [hb1, hb3, hcU, hfT]
                rw [hcU] at HC
                rw [hfT] at HF
                generalize hM2 : wI s U = M2 at *
                obtain ⟨b2, hb2⟩ : ∃ b2, decide (fT < cU) = b2 := ⟨_, rfl⟩
                rw [hb2] at hfi
                have hb2' := hb2
                have HFI := Lib.hid hfi
                have M0 := Later.cell e0
                have M1 := Later.cell e1
                have M2' := Later.cell e2
                have N0 := Later.cell hcx
                clear hC hF hW2 hxs hJ hxx hcU hfT hM2 hwm2 hfi hb3 hb2
                have hqi : (q : Int) < (L.length : Int) := by omega
                cases b1
                · skip
                  go_wp2_with fail
                  refine region_later (by kernel_rfl) (by kernel_rfl) ?_
                  repeat (go_big_quiet_step ((first | (go_at_call 85; exact later_call _ (HC.out _)) | (go_at_call 84; exact later_call _ (HF.out _)) | (go_at_call 118; exact later_call _ (HW2.out _)))))
                  refine wpQuiet_nil ?_
                  rintro _ ⟨u2, rfl⟩
                  go_wp2_with fail
                  go_roundw
                  case rel => exact ⟨q + 1, by omega, by go_num, hgr.trans (grown_below u2.2), by rw [hsn.out, HFI.out]; exact HJ.out.later u2.2⟩
                  case measure => simp [intOf]; omega
                · cases b2
                  · skip
                    go_wp2_with fail
                    refine region_later (by kernel_rfl) (by kernel_rfl) ?_
                    repeat (go_big_quiet_step ((first | (go_at_call 85; exact later_call _ (HC.out _)) | (go_at_call 84; exact later_call _ (HF.out _)) | (go_at_call 118; exact later_call _ (HW2.out _)))))
                    refine wpQuiet_nil ?_
                    rintro _ ⟨u2, rfl⟩
                    go_wp2_with fail
                    go_roundw
                    case rel => exact ⟨q + 1, by omega, by go_num, hgr.trans (grown_below u2.2), by rw [hsn.out, HFI.out]; exact HJ.out.later u2.2⟩
                    case measure => simp [intOf]; omega
                  · cases b3
                    · skip
                      go_wp2_with fail
                      refine region_later (by kernel_rfl) (by kernel_rfl) ?_
                      repeat (go_big_quiet_step ((first | (go_at_call 85; exact later_call _ (HC.out _)) | (go_at_call 84; exact later_call _ (HF.out _)) | (go_at_call 118; exact later_call _ (HW2.out _)))))
                      refine wpQuiet_nil ?_
                      rintro _ ⟨u2, rfl⟩
                      go_wp2_with fail
                      go_roundw
                      case rel => exact ⟨q + 1, by omega, by go_num, hgr.trans (grown_below u2.2), by rw [hsn.out, HFI.out]; exact HJ.out.later u2.2⟩
                      case measure => simp [intOf]; omega
                    · skip
                      go_wp2_with fail
                      refine region_later (by kernel_rfl) (by kernel_rfl) ?_
                      repeat (go_big_quiet_step ((first | (go_at_call 85; exact later_call _ (HC.out _)) | (go_at_call 84; exact later_call _ (HF.out _)) | (go_at_call 118; exact later_call _ (HW2.out _)))))
                      refine wpQuiet_nil ?_
                      rintro _ ⟨u2, rfl⟩
                      go_wp2_with fail
                      have hJu := HJ.out.later u2.2
                      obtain ⟨hat, hr16⟩ := rowsI_at hok2.out hT3
                      have hcr := hJu.row.cell hat
                      have hfz := hJu.row.frozen T
                      have m0 := M0 u2
                      obtain ⟨uj, huj⟩ : ∃ uj : World, u2.1 = uj := ⟨_, rfl⟩
                      have hgr2 := hgr.trans (grown_below u2.2)
                      rw [huj] at hJu hcr hfz m0 hgr2
                      rw [huj]
                      have HJU := Lib.hid hJu
                      obtain ⟨r, hr⟩ : ∃ r, (agIn (fI s ⟨T, kd, X⟩) T (L.take q) R).getD T 0 = r := ⟨_, rfl⟩
                      rw [hr] at hcr hr16
                      have HSET : Hid (∀ v : Int, v = ((r ||| (1 <<< ((U : Int)).toNat) : Nat) : Int) → AgInv w (some ⟨b, off, none⟩) n c s (some ⟨bo, offo, none⟩) L.length L w.heap.size (agIn (fI s ⟨T, kd, X⟩) T (L.take (q + 1)) R) (uj.setCell ⟨w.heap.size, T, none⟩ (.int .i64 v))) := by
                        intro v hv
                        rw [hsn.out, HFI.out]
                        refine (HJU.out.set (Nat.le_refl _) HNE.out hT3 hok2.out ?_)
                        rw [hr]; exact hv
                      clear hJu hat hr huj HC HF HW2 hb2' hab2 M0 M1 M2' N0 hcx e0 e1 e2 hsn HFI
                      have hT4 : (T : Int) < 4 := by omega
                      have hT0 : (0 : Int) ≤ (T : Int) := by omega
                      have hnw1 := World.new_ne uj _ hcr
                      rcases (by omega : U = 0 ∨ U = 1 ∨ U = 2 ∨ U = 3) with rfl | rfl | rfl | rfl
                      · have hor : bits .or .i64 (r : Int) 1 = ((r ||| 1 : Nat) : Int) := or_nat r 1 (by omega) (by omega)
                        go_region
                        go_wp2_with fail
                        go_roundw
                        case rel => exact ⟨q + 1, by omega, by go_num, grown_drew (hgr2.trans grown_set), (HSET.out _ rfl).drew⟩
                        case measure => simp [intOf]; omega
                      · have hor : bits .or .i64 (r : Int) 2 = ((r ||| 2 : Nat) : Int) := or_nat r 2 (by omega) (by omega)
                        go_region
                        go_wp2_with fail
                        go_roundw
                        case rel => exact ⟨q + 1, by omega, by go_num, grown_drew (hgr2.trans grown_set), (HSET.out _ rfl).drew⟩
                        case measure => simp [intOf]; omega
                      · have hor : bits .or .i64 (r : Int) 4 = ((r ||| 4 : Nat) : Int) := or_nat r 4 (by omega) (by omega)
                        go_region
                        go_wp2_with fail
                        go_roundw
                        case rel => exact ⟨q + 1, by omega, by go_num, grown_drew (hgr2.trans grown_set), (HSET.out _ rfl).drew⟩
                        case measure => simp [intOf]; omega
                      · have hor : bits .or .i64 (r : Int) 8 = ((r ||| 8 : Nat) : Int) := or_nat r 8 (by omega) (by omega)
                        go_region
                        go_wp2_with fail
                        go_roundw
                        case rel => exact ⟨q + 1, by omega, by go_num, grown_drew (hgr2.trans grown_set), (HSET.out _ rfl).drew⟩
                        case measure => simp [intOf]; omega
              · have hfin : Hid (agIn (fI s ⟨T, kd, X⟩) T (L.take q) R = agTo (gI s L) (fI s) L s (k + 1)) := by
                  show _ = _
                  rw [List.take_of_length_le (by omega), hstep.out, HG.out]; rfl
                rw [hfin.out] at hJ
                have HJ := Lib.hid hJ
                clear hJ
                go_wp2_with fail
                go_roundw
                case rel => exact ⟨k + 1, by omega, by go_num, HJ.out⟩
                case measure => simp [intOf]; omega
          · -- it has written the item before
            go_wp2_with fail
            obtain ⟨W, hW⟩ : ∃ W : World, W = wo.alloc (.cells #[.int .i64 (T : Int), .int .i64 kd, .int .i64 (X : Int)] 46) := ⟨_, rfl⟩
            rw [← hW]
            obtain ⟨L0, L1, L2, hbW, hWs⟩ := op_box hW
            clear hW
            refine region_later (by kernel_rfl) (by kernel_rfl) ?_
            repeat (go_big_quiet_step ((first | (go_at_call 134; exact later_call _ (HCo.out _ (hbW.trans (Later.below_ _ hbW.size)))) | (go_at_call 118; exact later_call _ (HWr.out _ (hbW.trans (Later.below_ _ hbW.size)))))))
            refine wpQuiet_nil ?_
            rintro _ ⟨u, rfl⟩
            go_wp2_with fail
            go_roundw
            case rel => exact ⟨k + 1, by omega, by go_num, by rw [hstep.out, HG.out]; exact HI.out.later (hbW.trans (Later.below_ u hbW.size))⟩
            case measure => simp [intOf]; omega
      · -- no read
        go_wp2_with fail
        obtain ⟨W, hW⟩ : ∃ W : World, W = wo.alloc (.cells #[.int .i64 (T : Int), .int .i64 kd, .int .i64 (X : Int)] 46) := ⟨_, rfl⟩
        rw [← hW]
        obtain ⟨L0, L1, L2, hbW, hWs⟩ := op_box hW
        clear hW
        refine region_later (by kernel_rfl) (by kernel_rfl) ?_
        repeat (go_big_quiet_step ((first | (go_at_call 134; exact later_call _ (HCo.out _ (hbW.trans (Later.below_ _ hbW.size)))) | (go_at_call 118; exact later_call _ (HWr.out _ (hbW.trans (Later.below_ _ hbW.size)))))))
        refine wpQuiet_nil ?_
        rintro _ ⟨u, rfl⟩
        go_wp2_with fail
        go_roundw
        case rel => exact ⟨k + 1, by omega, by go_num, by rw [hstep.out, HG.out]; exact HI.out.later (hbW.trans (Later.below_ u hbW.size))⟩
        case measure => simp [intOf]; omega
    · have hfin : Hid (AgInv w A n c s LA L.length L w.heap.size (agI4 s) wo) := by
        rw [hgood.out]
        have : k = s.length := by omega
        rw [← this]; exact hI
      have hok : Rows4 (agI4 s) := by rw [hgood.out]; exact agTo_ok HR.out _
      have hlen : (rowsI (agI4 s)).length = 4 := by simp [rowsI, hok.1]
      have HO : Hid (RetInts w (rowsI (agI4 s)) (.returned (.slice (some ⟨w.heap.size, 0, none⟩) 4 4)) wo) := by
        refine RetInts.mk hlen (Nat.le_refl _) ⟨RowIs.ints (rest := []) (by simpa using hfin.out.row) hlen (by omega), fun ad had => ?_⟩ hfin.out.below
        injection had with had
        subst had
        exact ⟨_, _, rfl, Nat.le_refl _, hfin.out.row, by simp [intCells, hlen]⟩
      clear hI
      go_wp2_with fail
      go_ret
      exact HO.out
end Go.Proofs.Ytofcpfabjfhjoaa
