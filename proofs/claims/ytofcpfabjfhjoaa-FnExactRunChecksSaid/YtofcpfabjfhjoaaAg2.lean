/-
  against of the reference.
-/
import Derived.Test.YtofcpfabjfhjoaaAg1
namespace Go.Proofs.Ytofcpfabjfhjoaa
open Go.RowKit Go.BigFrame
set_option linter.unusedVariables false

def gS (s : List OpV) (list : List Int) (k : Nat) (o : OpV) : Bool := o.kind == 0 && (list.any fun y => y == o.tx) && !(touchB s k o.tx 1 o.item)
def fT (s : List OpV) (o : OpV) (u : Int) : Bool := u != o.tx && decide (stampN s o.tx < commitN s u) && touchB s s.length u 1 o.item
def agS4 (s : List OpV) : List Nat := agTo (gS s (survS s)) (fT s) (survS s) s s.length
theorem survS_rng {s : List OpV} (h : validS s = true) : ∀ u ∈ survS s, 0 ≤ u ∧ u ≤ 3 := by
  have key : ∀ k, ∀ u ∈ sTo s k, 0 ≤ u ∧ u ≤ 3 := by
    intro k
    induction k with
    | zero => simp [sTo]
    | succ k ih =>
      intro u hu
      cases he : s[k]? with
      | none =>
        have hl : s.length ≤ k := by
          rcases Nat.lt_or_ge k s.length with h' | h'
          · rw [List.getElem?_eq_getElem h'] at he; cases he
          · exact h'
        refine ih u ?_
        unfold sTo at *
        rw [List.take_of_length_le (by omega)] at hu
        rw [List.take_of_length_le hl]; exact hu
      | some o =>
        rw [sTo_succ he] at hu
        unfold sStep at hu
        split at hu
        · rcases List.mem_append.1 hu with hu | hu
          · exact ih u hu
          · have := List.mem_singleton.1 hu
            subst this
            exact validS_tx3 h (List.mem_of_getElem? he)
        · exact ih u hu
  intro u hu
  rw [← sTo_all (Nat.le_refl _)] at hu
  exact key _ u hu

set_option maxRecDepth 100000 in
set_option maxHeartbeats 4000000 in
theorem against_any (A : Option Addr) (n c : Nat) (s : List OpV) (w : World) (hx : ROps w A n s) (hv : validS s = true) :
    Calls Try.prog 78 #[.slice A n c] w (RetInts w (rowsI (agS4 s))) := by
  have hn := hx.2.1
  have hl := hx.1
  have HV := Lib.hid hv
  have HX := Lib.hid hx
  clear hx hv
  obtain ⟨i0, hi, hz0, hz1, hz2⟩ := info_parts intInfo
  go_enter Try.func78, Try.ntmps78
  go_wp2_with (at_make; refine wpList_make_full _ rfl _ _ 25 rfl w.heap.size 3 i0 _ 1 Try.underlying25 hi hz0 hz1 .i64 .i64 _ _ 4 rfl rfl rfl rfl (by rw [hz2]; omega) (by unfold maxLen; omega) (Nat.le_refl _) ?_; intro w1 hown1 hg1)
  have hb1 : Below w.heap.size w w1 := ⟨hg1.os, hg1.tape, hg1.output, hg1.size, fun k hk => hg1.block k hk (by simp)⟩
  have hrow : RowIs w1 w.heap.size 3 (intCells (rowsI [0, 0, 0, 0])) := by
    rcases hown1.2 with ⟨h1, _⟩ | ⟨g, cap, cur, h1, h2, h3, h4, h5, h6, h7⟩
    · cases h1
    · injection h1 with ha hb hc
      injection ha with ha
      injection ha with ha
      subst ha; subst hc
      unfold RowIs
      rw [h3]
      congr 2
      apply Array.ext'
      rw [List.take_of_length_le (by simpa using Nat.le_of_eq h6)] at h7
      rw [h7, made_ints]
      rfl
  have hlt1 := hrow.lt
  have HST := Lib.hid (And.intro hrow hb1)
  clear hown1 hb1 hg1 hrow hi hz0 hz1 hz2
  refine (survivors_any A n c s w1 (HX.out.below HST.out.2 (Nat.le_refl _))).mono ?_
  rintro e w2 ⟨LA, lc, rfl, hlc, ⟨hL, hLf⟩, hb2⟩
  have hlenL := hL.2.1
  have hne : ∀ ad, LA = some ad → w.heap.size ≠ ad.block := by
    intro ad had
    obtain ⟨b, cur, rfl, hge, _⟩ := hLf ad had
    simp only; omega
  have hlt2 : w.heap.size < w2.heap.size := Nat.lt_of_lt_of_le hlt1 hb2.size
  have HS2 : Hid (AgInv w A n c s LA (survS s).length (survS s) w.heap.size (agTo (gS s (survS s)) (fT s) (survS s) s 0) w2) :=
    ⟨HST.out.2.trans (hb2.mono HST.out.2.size), HST.out.1.below hb2 (Nat.le_refl _), hL⟩
  have HNE := Lib.hid hne
  have HR : Hid (∀ u ∈ survS s, 0 ≤ u ∧ u ≤ 3) := survS_rng HV.out
  have hgood : Hid (agS4 s = agTo (gS s (survS s)) (fT s) (survS s) s s.length) := rfl
  generalize hLL : survS s = L at *
  have HLL := Lib.hid hLL
  clear hL hLf hne HST hb2 hLL
  go_wp2_with fail
  go_loopw [5] (fun i wr => ∃ k : Nat, k ≤ n ∧ i = .int .i64 k ∧ AgInv w A n c s LA L.length L w.heap.size (agTo (gS s L) (fT s) L s k) wr) (fun i _ => n - (intOf i).toNat)
  case atStart => exact ⟨0, Nat.zero_le _, rfl, HS2.out⟩
  case round =>
    clear HS2
    obtain ⟨wo, rfl⟩ : ∃ wo : World, wo = wr := ⟨_, rfl⟩
    obtain ⟨k, hk, rfl, hI⟩ := hrel
    by_cases hlt : k < n
    · have hxr := HX.out.below hI.below (Nat.le_refl _)
      obtain ⟨b, off, o, rfl, hbl, ho, c0, c1, c2⟩ := hxr.at_ hlt
      have hom := List.mem_of_getElem? ho
      have htx := validS_tx3 HV.out hom
      have hstep := Lib.hid (agTo_succ (g := gS s L) (f := fT s) (list := L) ho)
      have HI := Lib.hid hI
      have hokR : Hid (Rows4 (agTo (gS s L) (fT s) L s k)) := agTo_ok HR.out k
      clear hxr ho hI
      obtain ⟨tx, kd, X⟩ := o
      simp only at hstep c0 c1 c2 htx
      obtain ⟨T, rfl⟩ := Int.eq_ofNat_of_zero_le htx.1
      generalize hRR : agTo (gS s L) (fT s) L s k = R at *
      have HRR := Lib.hid hRR
      clear hRR
      have hT3 : T ≤ 3 := by omega
      clear htx
      obtain ⟨bk, hbk⟩ : ∃ bk, (kd != 0) = bk := ⟨_, rfl⟩
      obtain ⟨bc, hbc⟩ : ∃ bc, (L.any fun y => y == (T : Int)) = bc := ⟨_, rfl⟩
      obtain ⟨bw, hbw⟩ : ∃ bw, touchB s k T 1 X = bw := ⟨_, rfl⟩
      have hgI : gS s L k ⟨T, kd, X⟩ = (!bk && bc && !bw) := by
        unfold gS
        simp only
        rw [hbc, hbw]
        congr 2
        rw [← hbk, bne, Bool.not_not]
      have HG := Lib.hid hgI
      have hCo : ∀ (u : Later wo), Calls Try.prog 94 #[.slice LA L.length lc, .int .i64 (T : Int)] u.1 fun e w' => e = .returned (.bool bc) ∧ Below u.1.heap.size u.1 w' := fun u => by
        have := hasInt_any LA L.length lc L T u.1 (HI.out.list.later u); rw [hbc] at this; exact this
      have hWr : ∀ (u : Later wo), Calls Try.prog 132 #[.slice (some ⟨b, off, none⟩) n c, .int .i64 (k : Int), .int .i64 (T : Int), .int .i64 1, .int .i64 X] u.1 fun e w' => e = .returned (.bool bw) ∧ Below u.1.heap.size u.1 w' := fun u => by
        have := touches_any _ n c k s T 1 X u.1 ((HX.out.below HI.out.below (Nat.le_refl _)).later u) hk; rw [hbw] at this; exact this
      have HCo := Lib.hid hCo
      have HWr := Lib.hid hWr
      clear hCo hWr hgI hbw hbc
      have hkn : (k : Int) < (n : Int) := by omega
      have hk0 : (0 : Int) ≤ (k : Int) := by omega
      have L0 := Later.cell c0
      have L1 := Later.cell c1
      have L2 := Later.cell c2
      cases bk
      · cases bc
        · go_wp2_with fail
          refine region_later (by kernel_rfl) (by kernel_rfl) ?_
          repeat (go_big_quiet_step ((first | (go_at_call 94; exact later_call _ (HCo.out _)) | (go_at_call 132; exact later_call _ (HWr.out _)))))
          refine wpQuiet_nil ?_
          rintro _ ⟨u, rfl⟩
          go_wp2_with fail
          go_roundw
          case rel => exact ⟨k + 1, by omega, by go_num, by rw [hstep.out, HG.out]; exact HI.out.later u.2⟩
          case measure => simp [intOf]; omega
        · cases bw
          · -- the test holds: the inner loop
            go_wp2_with fail
            refine region_later (by kernel_rfl) (by kernel_rfl) ?_
            repeat (go_big_quiet_step ((first | (go_at_call 94; exact later_call _ (HCo.out _)) | (go_at_call 132; exact later_call _ (HWr.out _)))))
            refine wpQuiet_nil ?_
            rintro _ ⟨u, rfl⟩
            go_wp2_with fail
            have hwl : w.heap.size < wo.heap.size := HI.out.row.lt
            have d0 := L0 u
            have d1 := L1 u
            have d2 := L2 u
            have hIu : Hid (AgInv w (some ⟨b, off, none⟩) n c s LA L.length L w.heap.size (agIn (fT s ⟨T, kd, X⟩) T (L.take 0) R) u.1) := HI.out.later u.2
            have hblw : b ≠ w.heap.size := by
              intro e
              obtain ⟨b', off', ha', hlt', _⟩ := HX.out.2.2 (by omega)
              injection ha' with ha'
              injection ha' with ha' _
              omega
            obtain ⟨ui, hui⟩ : ∃ ui : World, u.1 = ui := ⟨_, rfl⟩
            rw [hui] at d0 d1 d2 hIu
            rw [hui]
            clear L0 L1 L2 hui HCo HWr c0 c1 c2
            go_loopw [6] (fun j wr => ∃ q : Nat, q ≤ L.length ∧ j = .int .i64 q ∧ ui.grownBy wr (some w.heap.size) ∧ AgInv w (some ⟨b, off, none⟩) n c s LA L.length L w.heap.size (agIn (fT s ⟨T, kd, X⟩) T (L.take q) R) wr) (fun j _ => L.length - (intOf j).toNat)
            case atStart => exact ⟨0, Nat.zero_le _, rfl, World.grownBy.refl _ _, hIu.out⟩
            case round =>
              obtain ⟨q, hq, rfl, hgr, hJ⟩ := hrel
              clear hIu
              have e0 := hgr.cell d0 (by simpa using hblw)
              have e1 := hgr.cell d1 (by simpa using hblw)
              have e2 := hgr.cell d2 (by simpa using hblw)
              by_cases hlt2 : q < L.length
              · obtain ⟨bo, offo, x, hA, hbo2, hxx, hcx⟩ := hJ.list.at_ hlt2
                subst hA
                have hxr := HR.out x (List.mem_of_getElem? hxx)
                obtain ⟨U, rfl⟩ := Int.eq_ofNat_of_zero_le hxr.1
                have hU3 : U ≤ 3 := by omega
                have hsn := Lib.hid (agIn_snoc (f := fT s ⟨T, kd, X⟩) (t := T) (rows := R) hxx)
                have hok2 : Hid (Rows4 (agIn (fT s ⟨T, kd, X⟩) T (L.take q) R)) := agIn_ok (fun u hu => HR.out u (List.mem_of_mem_take hu)) hokR.out
                have HJ := Lib.hid hJ
                have hxs := HX.out.below hJ.below (Nat.le_refl _)
                have hC : ∀ v : Later wr, Calls Try.prog 122 #[.slice (some ⟨b, off, none⟩) n c, .int .i64 (U : Int)] v.1 fun e w' => e = .returned (.int .i64 (commitN s U : Nat)) ∧ Below v.1.heap.size v.1 w' := fun v => commitAt_any _ n c s U v.1 (hxs.later v)
                have hF : ∀ v : Later wr, Calls Try.prog 123 #[.slice (some ⟨b, off, none⟩) n c, .int .i64 (T : Int)] v.1 fun e w' => e = .returned (.int .i64 (stampN s T : Nat)) ∧ Below v.1.heap.size v.1 w' := fun v => stampOf_any _ n c s T v.1 (hxs.later v)
                obtain ⟨b3, hb3⟩ : ∃ b3, touchB s s.length U 1 X = b3 := ⟨_, rfl⟩
                have hW2 : ∀ v : Later wr, Calls Try.prog 132 #[.slice (some ⟨b, off, none⟩) n c, .int .i64 (n : Int), .int .i64 (U : Int), .int .i64 1, .int .i64 X] v.1 fun e w' => e = .returned (.bool b3) ∧ Below v.1.heap.size v.1 w' := fun v => by
                  have := touches_any _ n c n s U 1 X v.1 (hxs.later v) (Nat.le_refl _); rw [hl] at hb3; rw [hb3] at this; exact this
                have HC := Lib.hid hC
                have HF := Lib.hid hF
                have HW2 := Lib.hid hW2
                obtain ⟨b1, hb1⟩ : ∃ b1, ((U : Int) != (T : Int)) = b1 := ⟨_, rfl⟩
                obtain ⟨cU, hcU⟩ : ∃ z, commitN s U = z := ⟨_, rfl⟩
                obtain ⟨fU, hfT⟩ : ∃ z, stampN s T = z := ⟨_, rfl⟩
                have hfi : fT s ⟨T, kd, X⟩ U = (b1 && decide (fU < cU) && b3) := by
                  unfold fT
                  simp only
                  rw [hb1, hb3, hcU, hfT]
                rw [hcU] at HC
                rw [hfT] at HF
                obtain ⟨b2, hb2⟩ : ∃ b2, decide (fU < cU) = b2 := ⟨_, rfl⟩
                rw [hb2] at hfi
                have hb2' : decide ((fU : Int) < (cU : Int)) = b2 := by rw [← hb2]; exact decide_eq_decide.2 (by omega)
                have HFI := Lib.hid hfi
                have M0 := Later.cell e0
                have M1 := Later.cell e1
                have M2' := Later.cell e2
                have N0 := Later.cell hcx
                clear hC hF hW2 hxs hJ hxx hcU hfT hfi hb3
                have hqi : (q : Int) < (L.length : Int) := by omega
                cases b1
                · go_wp2_with fail
                  refine region_later (by kernel_rfl) (by kernel_rfl) ?_
                  repeat (go_big_quiet_step ((first | (go_at_call 122; exact later_call _ (HC.out _)) | (go_at_call 123; exact later_call _ (HF.out _)) | (go_at_call 132; exact later_call _ (HW2.out _)))))
                  refine wpQuiet_nil ?_
                  rintro _ ⟨u2, rfl⟩
                  go_wp2_with fail
                  go_roundw
                  case rel => exact ⟨q + 1, by omega, by go_num, hgr.trans (grown_below u2.2), by rw [hsn.out, HFI.out]; exact HJ.out.later u2.2⟩
                  case measure => simp [intOf]; omega
                · cases b2
                  · go_wp2_with fail
                    refine region_later (by kernel_rfl) (by kernel_rfl) ?_
                    repeat (go_big_quiet_step ((first | (go_at_call 122; exact later_call _ (HC.out _)) | (go_at_call 123; exact later_call _ (HF.out _)) | (go_at_call 132; exact later_call _ (HW2.out _)))))
                    refine wpQuiet_nil ?_
                    rintro _ ⟨u2, rfl⟩
                    go_wp2_with fail
                    go_roundw
                    case rel => exact ⟨q + 1, by omega, by go_num, hgr.trans (grown_below u2.2), by rw [hsn.out, HFI.out]; exact HJ.out.later u2.2⟩
                    case measure => simp [intOf]; omega
                  · cases b3
                    · go_wp2_with fail
                      refine region_later (by kernel_rfl) (by kernel_rfl) ?_
                      repeat (go_big_quiet_step ((first | (go_at_call 122; exact later_call _ (HC.out _)) | (go_at_call 123; exact later_call _ (HF.out _)) | (go_at_call 132; exact later_call _ (HW2.out _)))))
                      refine wpQuiet_nil ?_
                      rintro _ ⟨u2, rfl⟩
                      go_wp2_with fail
                      go_roundw
                      case rel => exact ⟨q + 1, by omega, by go_num, hgr.trans (grown_below u2.2), by rw [hsn.out, HFI.out]; exact HJ.out.later u2.2⟩
                      case measure => simp [intOf]; omega
                    · go_wp2_with fail
                      refine region_later (by kernel_rfl) (by kernel_rfl) ?_
                      repeat (go_big_quiet_step ((first | (go_at_call 122; exact later_call _ (HC.out _)) | (go_at_call 123; exact later_call _ (HF.out _)) | (go_at_call 132; exact later_call _ (HW2.out _)))))
                      refine wpQuiet_nil ?_
                      rintro _ ⟨u2, rfl⟩
                      go_wp2_with fail
                      have hJu := HJ.out.later u2.2
                      obtain ⟨hat, hr16⟩ := rowsI_at hok2.out hT3
                      have hcr := hJu.row.cell hat
                      have hfz := hJu.row.frozen T
                      have m0 := M0 u2
                      have n0 := N0 u2
                      obtain ⟨uj, huj⟩ : ∃ uj : World, u2.1 = uj := ⟨_, rfl⟩
                      have hgr2 := hgr.trans (grown_below u2.2)
                      rw [huj] at hJu hcr hfz m0 n0 hgr2
                      rw [huj]
                      have HJU := Lib.hid hJu
                      obtain ⟨r, hr⟩ : ∃ r, (agIn (fT s ⟨T, kd, X⟩) T (L.take q) R).getD T 0 = r := ⟨_, rfl⟩
                      rw [hr] at hcr hr16
                      have hP2 : (2 ^ U : Nat) < 16 := by
                        rcases (by omega : U = 0 ∨ U = 1 ∨ U = 2 ∨ U = 3) with e | e | e | e <;> rw [e] <;> decide
                      have hor := or_nat r (2 ^ U) (by omega) (by omega)
                      have HSET : Hid (∀ v : Int, v = ((r ||| 2 ^ U : Nat) : Int) → AgInv w (some ⟨b, off, none⟩) n c s (some ⟨bo, offo, none⟩) L.length L w.heap.size (agIn (fT s ⟨T, kd, X⟩) T (L.take (q + 1)) R) (uj.setCell ⟨w.heap.size, T, none⟩ (.int .i64 v))) := by
                        intro v hv
                        rw [hsn.out, HFI.out]
                        refine (HJU.out.set (Nat.le_refl _) HNE.out hT3 hok2.out ?_)
                        rw [hr, hv, Int.toNat_natCast, Nat.one_shiftLeft]
                      have hPW : ∀ W : World, Calls Try.prog 133 #[.int .i64 (U : Int)] W fun e w' => e = .returned (.int .i64 ((2 ^ U : Nat) : Int)) ∧ W = w' := fun W => spower_any U W (by omega)
                      generalize hPP : 2 ^ U = p2 at *
                      have HPW := Lib.hid hPW
                      clear hJu hat hr huj HC HF HW2 hb2' M0 M1 M2' N0 hcx e0 e1 e2 hsn HFI hPP hPW hP2
                      have hT4 : (T : Int) < 4 := by omega
                      have hT0 : (0 : Int) ≤ (T : Int) := by omega
                      go_region_with (go_at_call 133; refine (HPW.out _).mono ?_; rintro e w' ⟨rfl, rfl⟩)
                      all_goals
                        go_wp2_with fail
                        go_roundw
                        case rel => exact ⟨q + 1, by omega, by go_num, grown_drew (hgr2.trans grown_set), (HSET.out _ rfl).drew⟩
                        case measure => simp [intOf]; omega
              · have hfin : Hid (agIn (fT s ⟨T, kd, X⟩) T (L.take q) R = agTo (gS s L) (fT s) L s (k + 1)) := by
                  show _ = _
                  rw [List.take_of_length_le (by omega), hstep.out, HG.out]; rfl
                rw [hfin.out] at hJ
                have HJ := Lib.hid hJ
                clear hJ
                go_wp2_with fail
                go_roundw
                case rel => exact ⟨k + 1, by omega, by go_num, HJ.out⟩
                case measure => simp [intOf]; omega
          · go_wp2_with fail
            refine region_later (by kernel_rfl) (by kernel_rfl) ?_
            repeat (go_big_quiet_step ((first | (go_at_call 94; exact later_call _ (HCo.out _)) | (go_at_call 132; exact later_call _ (HWr.out _)))))
            refine wpQuiet_nil ?_
            rintro _ ⟨u, rfl⟩
            go_wp2_with fail
            go_roundw
            case rel => exact ⟨k + 1, by omega, by go_num, by rw [hstep.out, HG.out]; exact HI.out.later u.2⟩
            case measure => simp [intOf]; omega
      · go_wp2_with fail
        refine region_later (by kernel_rfl) (by kernel_rfl) ?_
        repeat (go_big_quiet_step ((first | (go_at_call 94; exact later_call _ (HCo.out _)) | (go_at_call 132; exact later_call _ (HWr.out _)))))
        refine wpQuiet_nil ?_
        rintro _ ⟨u, rfl⟩
        go_wp2_with fail
        go_roundw
        case rel => exact ⟨k + 1, by omega, by go_num, by rw [hstep.out, HG.out]; exact HI.out.later u.2⟩
        case measure => simp [intOf]; omega
    · have hfin : Hid (AgInv w A n c s LA L.length L w.heap.size (agS4 s) wo) := by
        rw [hgood.out]
        have : k = s.length := by omega
        rw [← this]; exact hI
      have hok : Rows4 (agS4 s) := by rw [hgood.out]; exact agTo_ok HR.out _
      have hlen : (rowsI (agS4 s)).length = 4 := by simp [rowsI, hok.1]
      have HO : Hid (RetInts w (rowsI (agS4 s)) (.returned (.slice (some ⟨w.heap.size, 0, none⟩) 4 4)) wo) := by
        refine RetInts.mk hlen (Nat.le_refl _) ⟨RowIs.ints (rest := []) (by simpa using hfin.out.row) hlen (by omega), fun ad had => ?_⟩ hfin.out.below
        injection had with had
        subst had
        exact ⟨_, _, rfl, Nat.le_refl _, hfin.out.row, by simp [intCells, hlen]⟩
      clear hI
      go_wp2_with fail
      go_ret
      exact HO.out
end Go.Proofs.Ytofcpfabjfhjoaa
