/-
  The texts that the proof rests on, joined: part 2.
-/
import Derived.IntWalk
import Derived.Laws.EntriesVeiled
import Derived.Deep.LoopGhost
import Derived.Test.YtofcpfabjfhjoaaPkRunChecks1
namespace Go.Proofs.Ytofcpfabjfhjoaa
open Go.RowKit Go.BigFrame
set_option linter.unusedVariables false

def gS (s : List OpV) (list : List Int) (k : Nat) (o : OpV) : Bool := o.kind == 0 && (list.any fun y => y == o.tx) && !(touchB s k o.tx 1 o.item)
def fT (s : List OpV) (o : OpV) (u : Int) : Bool := u != o.tx && decide (stampN s o.tx < commitN s u) && touchB s s.length u 1 o.item
def agS4 (s : List OpV) : List Nat := agTo (gS s (survS s)) (fT s) (survS s) s s.length
theorem survS_rng {s : List OpV} (h : validS s = true) : ∀ u ∈ survS s, 0 ≤ u ∧ u ≤ 3 := by
  have key : ∀ k, ∀ u ∈ sTo s k, 0 ≤ u ∧ u ≤ 3 := by
    intro k
    induction k with
    | zero => simp [sTo]
    | succ k ih =>
      intro u hu
      cases he : s[k]? with
      | none =>
        have hl : s.length ≤ k := by
          rcases Nat.lt_or_ge k s.length with h' | h'
          · rw [List.getElem?_eq_getElem h'] at he; cases he
          · exact h'
        refine ih u ?_
        unfold sTo at *
        rw [List.take_of_length_le (by omega)] at hu
        rw [List.take_of_length_le hl]; exact hu
      | some o =>
        rw [sTo_succ he] at hu
        unfold sStep at hu
        split at hu
        · rcases List.mem_append.1 hu with hu | hu
          · exact ih u hu
          · have := List.mem_singleton.1 hu
            subst this
            exact validS_tx3 h (List.mem_of_getElem? he)
        · exact ih u hu
  intro u hu
  rw [← sTo_all (Nat.le_refl _)] at hu
  exact key _ u hu

set_option maxRecDepth 100000 in
set_option maxHeartbeats 4000000 in
theorem against_any (A : Option Addr) (n c : Nat) (s : List OpV) (w : World) (hx : ROps w A n s) (hv : validS s = true) :
    Calls Try.prog 78 #[.slice A n c] w (RetInts w (rowsI (agS4 s))) := by
  have hn := hx.2.1
  have hl := hx.1
  have HV := Lib.hid hv
  have HX := Lib.hid hx
  clear hx hv
  obtain ⟨i0, hi, hz0, hz1, hz2⟩ := info_parts intInfo
  go_enter Try.func78, Try.ntmps78
  go_wp2_with (at_make; refine wpList_make_full _ rfl _ _ 25 rfl w.heap.size 3 i0 _ 1 Try.underlying25 hi hz0 hz1 .i64 .i64 _ _ 4 rfl rfl rfl rfl (by rw [hz2]; omega) (by unfold maxLen; omega) (Nat.le_refl _) ?_; intro w1 hown1 hg1)
  have hb1 : Below w.heap.size w w1 := ⟨hg1.os, hg1.tape, hg1.output, hg1.size, fun k hk => hg1.block k hk (by simp)⟩
  have hrow : RowIs w1 w.heap.size 3 (intCells (rowsI [0, 0, 0, 0])) := by
    rcases hown1.2 with ⟨h1, _⟩ | ⟨g, cap, cur, h1, h2, h3, h4, h5, h6, h7⟩
    · cases h1
    · injection h1 with ha hb hc
      injection ha with ha
      injection ha with ha
      subst ha; subst hc
      unfold RowIs
      rw [h3]
      congr 2
      apply Array.ext'
      rw [List.take_of_length_le (by simpa using Nat.le_of_eq h6)] at h7
      rw [h7, made_ints]
      rfl
  have hlt1 := hrow.lt
  have HST := Lib.hid (And.intro hrow hb1)
  clear hown1 hb1 hg1 hrow hi hz0 hz1 hz2
  refine (survivors_any A n c s w1 (HX.out.below HST.out.2 (Nat.le_refl _))).mono ?_
  rintro e w2 ⟨LA, lc, rfl, hlc, ⟨hL, hLf⟩, hb2⟩
  have hlenL := hL.2.1
  have hne : ∀ ad, LA = some ad → w.heap.size ≠ ad.block := by
    intro ad had
    obtain ⟨b, cur, rfl, hge, _⟩ := hLf ad had
    simp only; omega
  have hlt2 : w.heap.size < w2.heap.size := Nat.lt_of_lt_of_le hlt1 hb2.size
  have HS2 : Hid (AgInv w A n c s LA (survS s).length (survS s) w.heap.size (agTo (gS s (survS s)) (fT s) (survS s) s 0) w2) :=
    ⟨HST.out.2.trans (hb2.mono HST.out.2.size), HST.out.1.below hb2 (Nat.le_refl _), hL⟩
  have HNE := Lib.hid hne
  have HR : Hid (∀ u ∈ survS s, 0 ≤ u ∧ u ≤ 3) := survS_rng HV.out
  have hgood : Hid (agS4 s = agTo (gS s (survS s)) (fT s) (survS s) s s.length) := rfl
  generalize hLL : survS s = L at *
  have HLL := Lib.hid hLL
  clear hL hLf hne HST hb2 hLL
  go_wp2_with fail
  go_loopw [5] (fun i wr => ∃ k : Nat, k ≤ n ∧ i = .int .i64 k ∧ AgInv w A n c s LA L.length L w.heap.size (agTo (gS s L) (fT s) L s k) wr) (fun i _ => n - (intOf i).toNat)
  case atStart => exact ⟨0, Nat.zero_le _, rfl, HS2.out⟩
  case round =>
    clear HS2
    obtain ⟨wo, rfl⟩ : ∃ wo : World, wo = wr := ⟨_, rfl⟩
    obtain ⟨k, hk, rfl, hI⟩ := hrel
    by_cases hlt : k < n
    · have hxr := HX.out.below hI.below (Nat.le_refl _)
      obtain ⟨b, off, o, rfl, hbl, ho, c0, c1, c2⟩ := hxr.at_ hlt
      have hom := List.mem_of_getElem? ho
      have htx := validS_tx3 HV.out hom
      have hstep := Lib.hid (agTo_succ (g := gS s L) (f := fT s) (list := L) ho)
      have HI := Lib.hid hI
      have hokR : Hid (Rows4 (agTo (gS s L) (fT s) L s k)) := agTo_ok HR.out k
      clear hxr ho hI
      obtain ⟨tx, kd, X⟩ := o
      simp only at hstep c0 c1 c2 htx
      obtain ⟨T, rfl⟩ := Int.eq_ofNat_of_zero_le htx.1
      generalize hRR : agTo (gS s L) (fT s) L s k = R at *
      have HRR := Lib.hid hRR
      clear hRR
      have hT3 : T ≤ 3 := by omega
      clear htx
      obtain ⟨bk, hbk⟩ : ∃ bk, (kd != 0) = bk := ⟨_, rfl⟩
      obtain ⟨bc, hbc⟩ : ∃ bc, (L.any fun y => y == (T : Int)) = bc := ⟨_, rfl⟩
      obtain ⟨bw, hbw⟩ : ∃ bw, touchB s k T 1 X = bw := ⟨_, rfl⟩
      have hgI : gS s L k ⟨T, kd, X⟩ = (!bk && bc && !bw) := by
        unfold gS
        simp only
        rw [hbc, hbw]
        congr 2
        rw [← hbk, bne, Bool.not_not]
      have HG := Lib.hid hgI
      have hCo : ∀ (u : Later wo), Calls Try.prog 94 #[.slice LA L.length lc, .int .i64 (T : Int)] u.1 fun e w' => e = .returned (.bool bc) ∧ Below u.1.heap.size u.1 w' := fun u => by
        have := hasInt_any LA L.length lc L T u.1 (HI.out.list.later u); rw [hbc] at this; exact this
      have hWr : ∀ (u : Later wo), Calls Try.prog 132 #[.slice (some ⟨b, off, none⟩) n c, .int .i64 (k : Int), .int .i64 (T : Int), .int .i64 1, .int .i64 X] u.1 fun e w' => e = .returned (.bool bw) ∧ Below u.1.heap.size u.1 w' := fun u => by
        have := touches_any _ n c k s T 1 X u.1 ((HX.out.below HI.out.below (Nat.le_refl _)).later u) hk; rw [hbw] at this; exact this
      have HCo := Lib.hid hCo
      have HWr := Lib.hid hWr
      clear hCo hWr hgI hbw hbc
      have hkn : (k : Int) < (n : Int) := by omega
      have hk0 : (0 : Int) ≤ (k : Int) := by omega
      have L0 := Later.cell c0
      have L1 := Later.cell c1
      have L2 := Later.cell c2
      cases bk
      · cases bc
        · go_wp2_with fail
          refine region_later (by kernel_rfl) (by kernel_rfl) ?_
          repeat (go_big_quiet_step ((first | (go_at_call 94; exact later_call _ (HCo.out _)) | (go_at_call 132; exact later_call _ (HWr.out _)))))
          refine wpQuiet_nil ?_
          rintro _ ⟨u, rfl⟩
          go_wp2_with fail
          go_roundw
          case rel => exact ⟨k + 1, by omega, by go_num, by rw [hstep.out, HG.out]; exact HI.out.later u.2⟩
          case measure => simp [intOf]; omega
        · cases bw
          · -- the test holds: the inner loop
            go_wp2_with fail
            refine region_later (by kernel_rfl) (by kernel_rfl) ?_
            repeat (go_big_quiet_step ((first | (go_at_call 94; exact later_call _ (HCo.out _)) | (go_at_call 132; exact later_call _ (HWr.out _)))))
            refine wpQuiet_nil ?_
            rintro _ ⟨u, rfl⟩
            go_wp2_with fail
            have hwl : w.heap.size < wo.heap.size := HI.out.row.lt
            have d0 := L0 u
            have d1 := L1 u
            have d2 := L2 u
            have hIu : Hid (AgInv w (some ⟨b, off, none⟩) n c s LA L.length L w.heap.size (agIn (fT s ⟨T, kd, X⟩) T (L.take 0) R) u.1) := HI.out.later u.2
            have hblw : b ≠ w.heap.size := by
              intro e
              obtain ⟨b', off', ha', hlt', _⟩ := HX.out.2.2 (by omega)
              injection ha' with ha'
              injection ha' with ha' _
              omega
            obtain ⟨ui, hui⟩ : ∃ ui : World, u.1 = ui := ⟨_, rfl⟩
            rw [hui] at d0 d1 d2 hIu
            rw [hui]
            clear L0 L1 L2 hui HCo HWr c0 c1 c2
            go_loopw [6] (fun j wr => ∃ q : Nat, q ≤ L.length ∧ j = .int .i64 q ∧ ui.grownBy wr (some w.heap.size) ∧ AgInv w (some ⟨b, off, none⟩) n c s LA L.length L w.heap.size (agIn (fT s ⟨T, kd, X⟩) T (L.take q) R) wr) (fun j _ => L.length - (intOf j).toNat)
            case atStart => exact ⟨0, Nat.zero_le _, rfl, World.grownBy.refl _ _, hIu.out⟩
            case round =>
              obtain ⟨q, hq, rfl, hgr, hJ⟩ := hrel
              clear hIu
              have e0 := hgr.cell d0 (by simpa using hblw)
              have e1 := hgr.cell d1 (by simpa using hblw)
              have e2 := hgr.cell d2 (by simpa using hblw)
              by_cases hlt2 : q < L.length
              · obtain ⟨bo, offo, x, hA, hbo2, hxx, hcx⟩ := hJ.list.at_ hlt2
                subst hA
                have hxr := HR.out x (List.mem_of_getElem? hxx)
                obtain ⟨U, rfl⟩ := Int.eq_ofNat_of_zero_le hxr.1
                have hU3 : U ≤ 3 := by omega
                have hsn := Lib.hid (agIn_snoc (f := fT s ⟨T, kd, X⟩) (t := T) (rows := R) hxx)
                have hok2 : Hid (Rows4 (agIn (fT s ⟨T, kd, X⟩) T (L.take q) R)) := agIn_ok (fun u hu => HR.out u (List.mem_of_mem_take hu)) hokR.out
                have HJ := Lib.hid hJ
                have hxs := HX.out.below hJ.below (Nat.le_refl _)
                have hC : ∀ v : Later wr, Calls Try.prog 122 #[.slice (some ⟨b, off, none⟩) n c, .int .i64 (U : Int)] v.1 fun e w' => e = .returned (.int .i64 (commitN s U : Nat)) ∧ Below v.1.heap.size v.1 w' := fun v => commitAt_any _ n c s U v.1 (hxs.later v)
                have hF : ∀ v : Later wr, Calls Try.prog 123 #[.slice (some ⟨b, off, none⟩) n c, .int .i64 (T : Int)] v.1 fun e w' => e = .returned (.int .i64 (stampN s T : Nat)) ∧ Below v.1.heap.size v.1 w' := fun v => stampOf_any _ n c s T v.1 (hxs.later v)
                obtain ⟨b3, hb3⟩ : ∃ b3, touchB s s.length U 1 X = b3 := ⟨_, rfl⟩
                have hW2 : ∀ v : Later wr, Calls Try.prog 132 #[.slice (some ⟨b, off, none⟩) n c, .int .i64 (n : Int), .int .i64 (U : Int), .int .i64 1, .int .i64 X] v.1 fun e w' => e = .returned (.bool b3) ∧ Below v.1.heap.size v.1 w' := fun v => by
                  have := touches_any _ n c n s U 1 X v.1 (hxs.later v) (Nat.le_refl _); rw [hl] at hb3; rw [hb3] at this; exact this
                have HC := Lib.hid hC
                have HF := Lib.hid hF
                have HW2 := Lib.hid hW2
                obtain ⟨b1, hb1⟩ : ∃ b1, ((U : Int) != (T : Int)) = b1 := ⟨_, rfl⟩
                obtain ⟨cU, hcU⟩ : ∃ z, commitN s U = z := ⟨_, rfl⟩
                obtain ⟨fU, hfT⟩ : ∃ z, stampN s T = z := ⟨_, rfl⟩
                have hfi : fT s ⟨T, kd, X⟩ U = (b1 && decide (fU < cU) && b3) := by
                  unfold fT
                  simp only
                  rw [hb1, hb3, hcU, hfT]
                rw [hcU] at HC
                rw [hfT] at HF
                obtain ⟨b2, hb2⟩ : ∃ b2, decide (fU < cU) = b2 := ⟨_, rfl⟩
                rw [hb2] at hfi
                have hb2' : decide ((fU : Int) < (cU : Int)) = b2 := by rw [← hb2]; exact decide_eq_decide.2 (by omega)
                have HFI := Lib.hid hfi
                have M0 := Later.cell e0
                have M1 := Later.cell e1
                have M2' := Later.cell e2
                have N0 := Later.cell hcx
                clear hC hF hW2 hxs hJ hxx hcU hfT hfi hb3
                have hqi : (q : Int) < (L.length : Int) := by omega
                cases b1
                · go_wp2_with fail
                  refine region_later (by kernel_rfl) (by kernel_rfl) ?_
                  repeat (go_big_quiet_step ((first | (go_at_call 122; exact later_call _ (HC.out _)) | (go_at_call 123; exact later_call _ (HF.out _)) | (go_at_call 132; exact later_call _ (HW2.out _)))))
                  refine wpQuiet_nil ?_
                  rintro _ ⟨u2, rfl⟩
                  go_wp2_with fail
                  go_roundw
                  case rel => exact ⟨q + 1, by omega, by go_num, hgr.trans (grown_below u2.2), by rw [hsn.out, HFI.out]; exact HJ.out.later u2.2⟩
                  case measure => simp [intOf]; omega
                · cases b2
                  · go_wp2_with fail
                    refine region_later (by kernel_rfl) (by kernel_rfl) ?_
                    repeat (go_big_quiet_step ((first | (go_at_call 122; exact later_call _ (HC.out _)) | (go_at_call 123; exact later_call _ (HF.out _)) | (go_at_call 132; exact later_call _ (HW2.out _)))))
                    refine wpQuiet_nil ?_
                    rintro _ ⟨u2, rfl⟩
                    go_wp2_with fail
                    go_roundw
                    case rel => exact ⟨q + 1, by omega, by go_num, hgr.trans (grown_below u2.2), by rw [hsn.out, HFI.out]; exact HJ.out.later u2.2⟩
                    case measure => simp [intOf]; omega
                  · cases b3
                    · go_wp2_with fail
                      refine region_later (by kernel_rfl) (by kernel_rfl) ?_
                      repeat (go_big_quiet_step ((first | (go_at_call 122; exact later_call _ (HC.out _)) | (go_at_call 123; exact later_call _ (HF.out _)) | (go_at_call 132; exact later_call _ (HW2.out _)))))
                      refine wpQuiet_nil ?_
                      rintro _ ⟨u2, rfl⟩
                      go_wp2_with fail
                      go_roundw
                      case rel => exact ⟨q + 1, by omega, by go_num, hgr.trans (grown_below u2.2), by rw [hsn.out, HFI.out]; exact HJ.out.later u2.2⟩
                      case measure => simp [intOf]; omega
                    · go_wp2_with fail
                      refine region_later (by kernel_rfl) (by kernel_rfl) ?_
                      repeat (go_big_quiet_step ((first | (go_at_call 122; exact later_call _ (HC.out _)) | (go_at_call 123; exact later_call _ (HF.out _)) | (go_at_call 132; exact later_call _ (HW2.out _)))))
                      refine wpQuiet_nil ?_
                      rintro _ ⟨u2, rfl⟩
                      go_wp2_with fail
                      have hJu := HJ.out.later u2.2
                      obtain ⟨hat, hr16⟩ := rowsI_at hok2.out hT3
                      have hcr := hJu.row.cell hat
                      have hfz := hJu.row.frozen T
                      have m0 := M0 u2
                      have n0 := N0 u2
                      obtain ⟨uj, huj⟩ : ∃ uj : World, u2.1 = uj := ⟨_, rfl⟩
                      have hgr2 := hgr.trans (grown_below u2.2)
                      rw [huj] at hJu hcr hfz m0 n0 hgr2
                      rw [huj]
                      have HJU := Lib.hid hJu
                      obtain ⟨r, hr⟩ : ∃ r, (agIn (fT s ⟨T, kd, X⟩) T (L.take q) R).getD T 0 = r := ⟨_, rfl⟩
                      rw [hr] at hcr hr16
                      have hP2 : (2 ^ U : Nat) < 16 := by
                        rcases (by omega : U = 0 ∨ U = 1 ∨ U = 2 ∨ U = 3) with e | e | e | e <;> rw [e] <;> decide
                      have hor := or_nat r (2 ^ U) (by omega) (by omega)
                      have HSET : Hid (∀ v : Int, v = ((r ||| 2 ^ U : Nat) : Int) → AgInv w (some ⟨b, off, none⟩) n c s (some ⟨bo, offo, none⟩) L.length L w.heap.size (agIn (fT s ⟨T, kd, X⟩) T (L.take (q + 1)) R) (uj.setCell ⟨w.heap.size, T, none⟩ (.int .i64 v))) := by
                        intro v hv
                        rw [hsn.out, HFI.out]
                        refine (HJU.out.set (Nat.le_refl _) HNE.out hT3 hok2.out ?_)
                        rw [hr, hv, Int.toNat_natCast, Nat.one_shiftLeft]
                      have hPW : ∀ W : World, Calls Try.prog 133 #[.int .i64 (U : Int)] W fun e w' => e = .returned (.int .i64 ((2 ^ U : Nat) : Int)) ∧ W = w' := fun W => spower_any U W (by omega)
                      generalize hPP : 2 ^ U = p2 at *
                      have HPW := Lib.hid hPW
                      clear hJu hat hr huj HC HF HW2 hb2' M0 M1 M2' N0 hcx e0 e1 e2 hsn HFI hPP hPW hP2
                      have hT4 : (T : Int) < 4 := by omega
                      have hT0 : (0 : Int) ≤ (T : Int) := by omega
                      go_region_with (go_at_call 133; refine (HPW.out _).mono ?_; rintro e w' ⟨rfl, rfl⟩)
                      all_goals
                        go_wp2_with fail
                        go_roundw
                        case rel => exact ⟨q + 1, by omega, by go_num, grown_drew (hgr2.trans grown_set), (HSET.out _ rfl).drew⟩
                        case measure => simp [intOf]; omega
              · have hfin : Hid (agIn (fT s ⟨T, kd, X⟩) T (L.take q) R = agTo (gS s L) (fT s) L s (k + 1)) := by
                  show _ = _
                  rw [List.take_of_length_le (by omega), hstep.out, HG.out]; rfl
                rw [hfin.out] at hJ
                have HJ := Lib.hid hJ
                clear hJ
                go_wp2_with fail
                go_roundw
                case rel => exact ⟨k + 1, by omega, by go_num, HJ.out⟩
                case measure => simp [intOf]; omega
          · go_wp2_with fail
            refine region_later (by kernel_rfl) (by kernel_rfl) ?_
            repeat (go_big_quiet_step ((first | (go_at_call 94; exact later_call _ (HCo.out _)) | (go_at_call 132; exact later_call _ (HWr.out _)))))
            refine wpQuiet_nil ?_
            rintro _ ⟨u, rfl⟩
            go_wp2_with fail
            go_roundw
            case rel => exact ⟨k + 1, by omega, by go_num, by rw [hstep.out, HG.out]; exact HI.out.later u.2⟩
            case measure => simp [intOf]; omega
      · go_wp2_with fail
        refine region_later (by kernel_rfl) (by kernel_rfl) ?_
        repeat (go_big_quiet_step ((first | (go_at_call 94; exact later_call _ (HCo.out _)) | (go_at_call 132; exact later_call _ (HWr.out _)))))
        refine wpQuiet_nil ?_
        rintro _ ⟨u, rfl⟩
        go_wp2_with fail
        go_roundw
        case rel => exact ⟨k + 1, by omega, by go_num, by rw [hstep.out, HG.out]; exact HI.out.later u.2⟩
        case measure => simp [intOf]; omega
    · have hfin : Hid (AgInv w A n c s LA L.length L w.heap.size (agS4 s) wo) := by
        rw [hgood.out]
        have : k = s.length := by omega
        rw [← this]; exact hI
      have hok : Rows4 (agS4 s) := by rw [hgood.out]; exact agTo_ok HR.out _
      have hlen : (rowsI (agS4 s)).length = 4 := by simp [rowsI, hok.1]
      have HO : Hid (RetInts w (rowsI (agS4 s)) (.returned (.slice (some ⟨w.heap.size, 0, none⟩) 4 4)) wo) := by
        refine RetInts.mk hlen (Nat.le_refl _) ⟨RowIs.ints (rest := []) (by simpa using hfin.out.row) hlen (by omega), fun ad had => ?_⟩ hfin.out.below
        injection had with had
        subst had
        exact ⟨_, _, rfl, Nat.le_refl _, hfin.out.row, by simp [intCells, hlen]⟩
      clear hI
      go_wp2_with fail
      go_ret
      exact HO.out
end Go.Proofs.Ytofcpfabjfhjoaa
namespace Go.Proofs.Ytofcpfabjfhjoaa
set_option linter.unusedVariables false

theorem touchB_take (s : List OpV) (k : Nat) (t kd x : Int) : touchB (s.take k) (s.take k).length t kd x = touchB s k t kd x := by
  unfold touchB
  rw [List.take_length]
theorem wI_bit {s : List OpV} (h : itemsOk s) (t : Int) (x : Nat) : (wI s t).testBit x = touchB s s.length t 1 (x : Int) := wTo_bit s t x h _ (Nat.le_refl _)
theorem wI_take_bit {s : List OpV} (h : itemsOk s) (k : Nat) (t : Int) (x : Nat) : (wI (s.take k) t).testBit x = touchB s k t 1 (x : Int) := by
  rw [wI_bit (itemsOk_take h k), touchB_take]
theorem gI_eq {s : List OpV} (h : validS s = true) (L : List Int) {k : Nat} {o : OpV} (ho : s[k]? = some o) : gI s L k o = gS s L k o := by
  have hi := validS_item h (List.mem_of_getElem? ho)
  obtain ⟨t, kd, x⟩ := o
  obtain ⟨X, rfl⟩ := Int.eq_ofNat_of_zero_le hi.1
  unfold gI gS
  simp only [Int.toNat_natCast]
  rw [wI_take_bit (validS_items h)]
theorem fI_eq {s : List OpV} (h : validS s = true) {o q : OpV} (ho : o ∈ s) (hq : q ∈ s) (hk : q.kind = 2) : fI s o q.tx = fT s o q.tx := by
  have hi := validS_item h ho
  have h1 := firstI_eq ho
  have h2 := commitI_eq h hq hk
  obtain ⟨t, kd, x⟩ := o
  obtain ⟨X, rfl⟩ := Int.eq_ofNat_of_zero_le hi.1
  unfold fI fT
  simp only [Int.toNat_natCast] at *
  rw [wI_bit (validS_items h), h1, h2]
  congr 2
  exact decide_eq_decide.2 (by omega)
theorem agIn_congr {f g : Int → Bool} {t : Int} {list : List Int} (h : ∀ u ∈ list, f u = g u) : ∀ rows, agIn f t list rows = agIn g t list rows := by
  unfold agIn
  induction list with
  | nil => intro rows; rfl
  | cons x r ih =>
    intro rows
    rw [List.foldl_cons, List.foldl_cons, h x (by simp)]
    exact ih (fun u hu => h u (by simp [hu])) _
theorem agTo_congr {g g' : Nat → OpV → Bool} {f f' : OpV → Int → Bool} {list : List Int} {s : List OpV} (hg : ∀ k o, s[k]? = some o → g k o = g' k o) (hf : ∀ o ∈ s, ∀ u ∈ list, f o u = f' o u) (k : Nat) : agTo g f list s k = agTo g' f' list s k := by
  induction k with
  | zero => rfl
  | succ k ih =>
    simp only [agTo]
    cases h : s[k]? with
    | none => simp only [ih]
    | some o =>
      simp only [ih, hg k o h]
      split
      · exact agIn_congr (hf o (List.mem_of_getElem? h)) _
      · rfl
theorem ag_eq {s : List OpV} (h : validS s = true) : agI4 s = agS4 s := by
  unfold agI4 agS4
  rw [surv_eq h]
  refine agTo_congr (fun k o ho => gI_eq h _ ho) (fun o ho u hu => ?_) _
  obtain ⟨q, hq, rfl, hk⟩ := surv_commit h hu
  exact fI_eq h ho hq hk
end Go.Proofs.Ytofcpfabjfhjoaa
namespace Go.Proofs.Ytofcpfabjfhjoaa
open Go.RowKit Go.BigFrame
set_option linter.unusedVariables false

def pS (s : List OpV) (o : OpV) (u : Int) : Bool := decide (commitN s u < stampN s o.tx) && touchB s s.length u 1 o.item
def verS (s : List OpV) (L : List Int) (k : Nat) (o : OpV) : Int := if touchB s k o.tx 1 o.item then o.tx else vFold (pS s o) L

set_option maxRecDepth 100000 in
set_option maxHeartbeats 4000000 in
theorem versionAt_any (A LA : Option Addr) (n c lc k : Nat) (s : List OpV) (L : List Int) (o : OpV) (w : World) (hx : ROps w A n s) (hL : RInts w LA L.length L) (ho : s[k]? = some o) :
    Calls Try.prog 92 #[.slice A n c, .slice LA L.length lc, .int .i64 (k : Int)] w fun e w' => e = .returned (.int .i64 (verS s L k o)) ∧ Below w.heap.size w w' := by
  have hn := hx.2.1
  have hl := hx.1
  have hlenL := hL.2.1
  have hk : k < n := by have := (List.getElem?_eq_some_iff.1 ho).1; omega
  obtain ⟨b, off, o', rfl, hbl, ho', c0, c1, c2⟩ := hx.at_ hk
  rw [ho] at ho'
  injection ho' with ho'
  subst ho'
  obtain ⟨T, kd, X⟩ := o
  simp only at c0 c1 c2
  have hres : verS s L k ⟨T, kd, X⟩ = if touchB s k T 1 X = true then T else vFold (pS s ⟨T, kd, X⟩) L := rfl
  obtain ⟨bw, hbw⟩ : ∃ bw, touchB s k T 1 X = bw := ⟨_, rfl⟩
  rw [hbw] at hres
  have HRES := Lib.hid hres
  have hWr : ∀ (u : Later w), Calls Try.prog 132 #[.slice (some ⟨b, off, none⟩) n c, .int .i64 (k : Int), .int .i64 T, .int .i64 1, .int .i64 X] u.1 fun e w' => e = .returned (.bool bw) ∧ Below u.1.heap.size u.1 w' := fun u => by
    have := touches_any _ n c k s T 1 X u.1 (hx.later u) (by omega); rw [hbw] at this; exact this
  have HWr := Lib.hid hWr
  have HX := Lib.hid hx
  have HL := Lib.hid hL
  clear hWr hres hbw hx hL ho
  have hkn : (k : Int) < (n : Int) := by omega
  have hk0 : (0 : Int) ≤ (k : Int) := by omega
  have L0 := Later.cell c0
  have L2 := Later.cell c2
  cases bw
  · go_enter Try.func92, Try.ntmps92
    go_wp2_with fail
    refine region_later (by kernel_rfl) (by kernel_rfl) ?_
    repeat (go_big_quiet_step ((go_at_call 132; exact later_call _ (HWr.out _))))
    refine wpQuiet_nil ?_
    rintro _ ⟨u, rfl⟩
    go_wp2_with fail
    have d0 := L0 u
    have d2 := L2 u
    have hbu := u.2
    obtain ⟨ui, hui⟩ : ∃ ui : World, u.1 = ui := ⟨_, rfl⟩
    rw [hui] at d0 d2 hbu
    rw [hui]
    clear L0 L2 hui HWr c0 c1 c2
    go_loopw [7, 8] (fun v j wr => ∃ q : Nat, q ≤ L.length ∧ j = .int .i64 q ∧ v = .int .i64 (vFold (pS s ⟨T, kd, X⟩) (L.take q)) ∧ Below ui.heap.size ui wr) (fun _ j _ => L.length - (intOf j).toNat)
    case atStart => exact ⟨0, Nat.zero_le _, rfl, rfl, Below.refl _ _⟩
    case round =>
      obtain ⟨q, hq, rfl, rfl, hb⟩ := hrel
      have hbw := hbu.trans (hb.mono hbu.size)
      by_cases hlt : q < L.length
      · obtain ⟨bo, offo, U, rfl, hbo, hxx, hcx⟩ := (HL.out.below hbw (Nat.le_refl _)).at_ hlt
        have hsn := Lib.hid (vFold_snoc (p := pS s ⟨T, kd, X⟩) hxx)
        have hxs := HX.out.below hbw (Nat.le_refl _)
        have hC : ∀ v : Later wr, Calls Try.prog 122 #[.slice (some ⟨b, off, none⟩) n c, .int .i64 U] v.1 fun e w' => e = .returned (.int .i64 (commitN s U : Nat)) ∧ Below v.1.heap.size v.1 w' := fun v => commitAt_any _ n c s U v.1 (hxs.later v)
        have hF : ∀ v : Later wr, Calls Try.prog 123 #[.slice (some ⟨b, off, none⟩) n c, .int .i64 T] v.1 fun e w' => e = .returned (.int .i64 (stampN s T : Nat)) ∧ Below v.1.heap.size v.1 w' := fun v => stampOf_any _ n c s T v.1 (hxs.later v)
        obtain ⟨b3, hb3⟩ : ∃ b3, touchB s s.length U 1 X = b3 := ⟨_, rfl⟩
        have hW2 : ∀ v : Later wr, Calls Try.prog 132 #[.slice (some ⟨b, off, none⟩) n c, .int .i64 (n : Int), .int .i64 U, .int .i64 1, .int .i64 X] v.1 fun e w' => e = .returned (.bool b3) ∧ Below v.1.heap.size v.1 w' := fun v => by
          have := touches_any _ n c n s U 1 X v.1 (hxs.later v) (Nat.le_refl _); rw [hl] at hb3; rw [hb3] at this; exact this
        have HC := Lib.hid hC
        have HF := Lib.hid hF
        have HW2 := Lib.hid hW2
        obtain ⟨cU, hcU⟩ : ∃ z, commitN s U = z := ⟨_, rfl⟩
        obtain ⟨fT, hfT⟩ : ∃ z, stampN s T = z := ⟨_, rfl⟩
        have hfi : pS s ⟨T, kd, X⟩ U = (decide (cU < fT) && b3) := by
          unfold pS
          simp only
          rw [hb3, hcU, hfT]
        rw [hcU] at HC
        rw [hfT] at HF
        obtain ⟨b2, hb2⟩ : ∃ b2, decide (cU < fT) = b2 := ⟨_, rfl⟩
        rw [hb2] at hfi
        have hb2' : decide ((cU : Int) < (fT : Int)) = b2 := by rw [← hb2]; exact decide_eq_decide.2 (by omega)
        have HFI := Lib.hid hfi
        have e0 := (hb.cell (p := ⟨b, off + k * 3, none⟩) (block_lt_of_cell d0)).trans d0
        have e2 := (hb.cell (p := ⟨b, off + k * 3 + 2, none⟩) (block_lt_of_cell d2)).trans d2
        have M0 := Later.cell e0
        have M2' := Later.cell e2
        have N0 := Later.cell hcx
        have hqi : (q : Int) < (L.length : Int) := by omega
        generalize hV : vFold (pS s ⟨T, kd, X⟩) (L.take q) = V at *
        have HV := Lib.hid hV
        clear hC hF hW2 hxs hxx hcU hfT hfi hb3 hV
        cases b2
        · go_wp2_with fail
          refine region_later (by kernel_rfl) (by kernel_rfl) ?_
          repeat (go_big_quiet_step ((first | (go_at_call 122; exact later_call _ (HC.out _)) | (go_at_call 123; exact later_call _ (HF.out _)) | (go_at_call 132; exact later_call _ (HW2.out _)))))
          refine wpQuiet_nil ?_
          rintro _ ⟨u2, rfl⟩
          go_wp2_with fail
          go_roundw
          case rel => exact ⟨q + 1, by omega, by go_num, by rw [hsn.out, HFI.out]; rfl, hb.trans (u2.2.mono hb.size)⟩
          case measure => simp [intOf]; omega
        · cases b3
          · go_wp2_with fail
            refine region_later (by kernel_rfl) (by kernel_rfl) ?_
            repeat (go_big_quiet_step ((first | (go_at_call 122; exact later_call _ (HC.out _)) | (go_at_call 123; exact later_call _ (HF.out _)) | (go_at_call 132; exact later_call _ (HW2.out _)))))
            refine wpQuiet_nil ?_
            rintro _ ⟨u2, rfl⟩
            go_wp2_with fail
            go_roundw
            case rel => exact ⟨q + 1, by omega, by go_num, by rw [hsn.out, HFI.out]; rfl, hb.trans (u2.2.mono hb.size)⟩
            case measure => simp [intOf]; omega
          · go_wp2_with fail
            refine region_later (by kernel_rfl) (by kernel_rfl) ?_
            repeat (go_big_quiet_step ((first | (go_at_call 122; exact later_call _ (HC.out _)) | (go_at_call 123; exact later_call _ (HF.out _)) | (go_at_call 132; exact later_call _ (HW2.out _)))))
            refine wpQuiet_nil ?_
            rintro _ ⟨u2, rfl⟩
            go_wp2_with fail
            go_roundw
            case rel => exact ⟨q + 1, by omega, by go_num, by rw [hsn.out, HFI.out]; rfl, hb.trans (u2.2.mono hb.size)⟩
            case measure => simp [intOf]; omega
      · have hfin : Hid (vFold (pS s ⟨T, kd, X⟩) (L.take q) = verS s L k ⟨T, kd, X⟩) := by
          show _ = _
          rw [HRES.out, List.take_of_length_le (by omega)]; rfl
        go_wp2_with fail
        go_ret
        exact ⟨ret_int hfin.out, hbw⟩
  · go_enter Try.func92, Try.ntmps92
    go_wp2_with fail
    refine region_later (by kernel_rfl) (by kernel_rfl) ?_
    repeat (go_big_quiet_step ((go_at_call 132; exact later_call _ (HWr.out _))))
    refine wpQuiet_nil ?_
    rintro _ ⟨u, rfl⟩
    have d0 := L0 u
    go_wp2_with fail
    go_ret
    exact ⟨ret_int (by rw [HRES.out]; rfl), u.2⟩

theorem vFold_congr {p q : Int → Bool} {L : List Int} (h : ∀ u ∈ L, p u = q u) : vFold p L = vFold q L := by
  unfold vFold
  generalize (-1 : Int) = z
  induction L generalizing z with
  | nil => rfl
  | cons x r ih =>
    rw [List.foldl_cons, List.foldl_cons, h x (by simp)]
    exact ih (fun u hu => h u (by simp [hu])) _
theorem ver_eq {s : List OpV} (h : validS s = true) {k : Nat} {o : OpV} (ho : s[k]? = some o) : verI s (survS s) k o = verS s (survS s) k o := by
  have hom := List.mem_of_getElem? ho
  have hi := validS_item h hom
  have h1 := firstI_eq hom
  obtain ⟨t, kd, x⟩ := o
  obtain ⟨X, rfl⟩ := Int.eq_ofNat_of_zero_le hi.1
  unfold verI verS
  simp only [Int.toNat_natCast] at *
  rw [wI_take_bit (validS_items h)]
  split
  · rfl
  · refine vFold_congr fun u hu => ?_
    obtain ⟨q, hq, rfl, hk⟩ := surv_commit h hu
    have h2 := commitI_eq h hq hk
    unfold pI pS
    simp only [Int.toNat_natCast]
    rw [wI_bit (validS_items h), h1, h2]
    congr 1
    exact decide_eq_decide.2 (by omega)
end Go.Proofs.Ytofcpfabjfhjoaa
namespace Go.Proofs.Ytofcpfabjfhjoaa
open Go.RowKit Go.BigFrame
set_option linter.unusedVariables false

/-- For each read of the first k operations what f tells. -/
def versTo (f : Nat → OpV → Int) (s : List OpV) : Nat → List Int
  | 0 => []
  | k + 1 => match s[k]? with | some o => if o.kind == 0 then versTo f s k ++ [f k o] else versTo f s k | none => versTo f s k
theorem versTo_succ {f : Nat → OpV → Int} {s : List OpV} {k : Nat} {o : OpV} (h : s[k]? = some o) : versTo f s (k + 1) = if o.kind == 0 then versTo f s k ++ [f k o] else versTo f s k := by simp only [versTo, h]
theorem versTo_congr {f g : Nat → OpV → Int} {s : List OpV} (h : ∀ k o, s[k]? = some o → f k o = g k o) (k : Nat) : versTo f s k = versTo g s k := by
  induction k with
  | zero => rfl
  | succ k ih =>
    simp only [versTo]
    cases e : s[k]? with
    | none => simp only [ih]
    | some o => simp only [ih, h k o e]
def versI (s : List OpV) : List Int := versTo (verI s (survI s)) s s.length
def versS (s : List OpV) : List Int := versTo (verS s (survS s)) s s.length
theorem vers_eq {s : List OpV} (h : validS s = true) : versI s = versS s := by
  unfold versI versS
  rw [surv_eq h]
  exact versTo_congr (fun k o ho => ver_eq h ho) _

set_option maxRecDepth 100000 in
set_option maxHeartbeats 4000000 in
theorem VersionsOf_any (A : Option Addr) (n c : Nat) (s : List OpV) (w : World) (hx : ROps w A n s) (hnc : n ≤ c) :
    Calls Try.prog 45 #[.slice A n c] w (RetInts w (orNil (validS s) (versI s))) := by
  have hn := hx.2.1
  have hl := hx.1
  have HX := Lib.hid hx
  clear hx
  obtain ⟨i0, hi, hz0, hz1, hz2⟩ := info_parts intInfo
  go_enter Try.func45, Try.ntmps45
  go_wp2_with fail
  refine (ValidSchedule_any A n c s w HX.out hnc).mono ?_
  rintro e w1 ⟨rfl, hb1⟩
  cases hv : validS s
  · have HV := Lib.hid hv
    clear hv
    go_wp2_with fail
    go_ret
    rw [HV.out]
    exact RetInts.nil hb1
  · have HV := Lib.hid hv
    clear hv
    have hsz1 := hb1.size
    have hn16 : n ≤ 16 := by
      have := ((validS_iff s).1 HV.out).1
      omega
    go_wp2_with (at_make; refine wpList_make_own _ rfl _ _ 25 rfl w.heap.size 3 i0 _ 1 Try.underlying25 hi hz0 hz1 .i64 .i64 _ n rfl rfl rfl (by rw [hz2]; omega) (by unfold maxLen; omega) hsz1 ?_; intro w2 hown2 hg2)
    have hb2 : Below w.heap.size w w2 := hb1.grown hg2 hsz1 (by simp)
    have HB2 := Lib.hid hb2
    clear hg2 hi hz0 hz1 hz2 hb1
    refine (survivorsOf_any A n c s w2 (HX.out.below hb2 (Nat.le_refl _)) (validS_items HV.out)).mono ?_
    rintro e w3 ⟨LA, lc, rfl, hlc, hfL, hb3⟩
    have hown3 := own_below hown2 hb3
    have hbw3 := hb2.trans (hb3.mono hb2.size)
    have hgood : Hid (versI s = versTo (verI s (survI s)) s s.length) := rfl
    have hne : ∀ ad, LA = some ad → (Value.slice (some ⟨w1.heap.size, 0, none⟩) 0 n).ownBlock ≠ some ad.block := by
      intro ad had e
      obtain ⟨b, cur, rfl, hge, hh, _⟩ := hfL.2 ad had
      have hlt := (World.ownsRow.lt hown2 _ rfl).2
      simp only [Value.ownBlock, Option.some.injEq] at e
      simp only at hlt
      omega
    have hLt : Hid (∀ ad, LA = some ad → ad.block < w3.heap.size) := fun ad had => by
      obtain ⟨b, cur, rfl, hge, hh, _⟩ := hfL.2 ad had
      exact lt_of_block hh
    obtain ⟨K3, hK3⟩ : ∃ z, w3.heap.size = z := ⟨_, rfl⟩
    rw [hK3] at hLt
    have hL := Lib.hid hfL.1
    generalize survI s = L at *
    have HST := Lib.hid (And.intro hown3 (And.intro hbw3 hne))
    have hlenL := hL.out.2.1
    clear hfL hown2 hb2 hb3 hown3 hbw3 hne
    go_wp2_with fail
    go_loopw [3, 17] (fun ov i wr => ∃ (k m : Nat), k ≤ n ∧ m ≤ k ∧ i = .int .i64 k ∧ Below w.heap.size w wr ∧ RInts wr LA L.length L ∧ wr.ownsRow w.heap.size 3 1 ov m (intCells (versTo (verI s L) s k)) ∧ (∀ ad, LA = some ad → ov.ownBlock ≠ some ad.block) ∧ K3 ≤ wr.heap.size) (fun _ i _ => n - (intOf i).toNat)
    case atStart => exact ⟨0, 0, Nat.zero_le _, Nat.le_refl _, rfl, HST.out.2.1, hL.out, HST.out.1, HST.out.2.2, by omega⟩
    case round =>
      clear HST hL
      obtain ⟨k, m, hk, hmk, rfl, hb, hLr, hown, hno, hK⟩ := hrel
      by_cases hlt : k < n
      · have hxr := HX.out.below hb (Nat.le_refl _)
        obtain ⟨b, off, o, rfl, hbl, ho, c0, c1, c2⟩ := hxr.at_ hlt
        have hs := hb.size
        have hstep := Lib.hid (versTo_succ (f := verI s L) ho)
        have hit := validS_item HV.out (List.mem_of_getElem? ho)
        have hcl : ∀ W : World, Below wr.heap.size wr W → Calls Try.prog 91 #[.slice (some ⟨b, off, none⟩) n c, .slice LA L.length lc, .int .i64 (k : Int)] W fun e w' => e = .returned (.int .i64 (verI s L k o)) ∧ Below W.heap.size W w' := fun W hW =>
          versionOf_any _ LA n c lc k s L o W (hxr.below hW (Nat.le_refl _)) (hLr.below hW (Nat.le_refl _)) ho hnc (validS_items HV.out) hit
        have HC := Lib.hid hcl
        have HL := Lib.hid hLr
        have HNO := Lib.hid hno
        clear hcl ho hxr hLr hno hit
        obtain ⟨tx, kd, it⟩ := o
        simp only at hstep c0 c1 c2
        by_cases h0 : kd = 0
        · subst h0
          go_wp2_with fail
          obtain ⟨W, hW⟩ : ∃ W : World, W = wr.alloc (.cells #[.int .i64 tx, .int .i64 0, .int .i64 it] 46) := ⟨_, rfl⟩
          rw [← hW]
          have hbW : Below wr.heap.size wr W := by rw [hW]; exact (Below.refl _ _).alloc (Nat.le_refl _) _
          have hownW : W.ownsRow w.heap.size 3 1 u3 m (intCells (versTo (verI s L) s k)) := by rw [hW]; exact hown.alloc _
          clear hW
          refine (HC.out W hbW).mono ?_
          rintro e w4 ⟨rfl, hb4⟩
          have hown4 := own_below hownW hb4
          have hb14 := hbW.trans (hb4.mono hbW.size)
          have hK4 := hb14.size
          have hbw4 := hb.trans (hb14.mono hs)
          have hL4 := Lib.hid (HL.out.below hb14 (Nat.le_refl _))
          obtain ⟨z, hz⟩ : ∃ z, verI s L k ⟨tx, 0, it⟩ = z := ⟨_, rfl⟩
          rw [hz] at hstep
          rw [hz]
          clear hb14 hb4 hbW hownW hz
          have hsz4 := hbw4.size
          go_wp2_with (at_builtin; refine app_ints (.tmp 25) (.tmp 30) (hown4.alloc _) (by simp; omega) (lit1 rfl _) (by omega) rfl rfl rfl rfl ?_; intro v5 w5 hown5 hg5 hat5)
          have hg5' := World.grownBy.trans (World.grownBy_alloc w4 _ _) hg5
          have hb5 := Below.own hbw4 hown4 (Nat.le_refl _) hg5'
          have hL5 : RInts w5 LA L.length L := hL4.out.grown hg5' HNO.out
          have hno5 : ∀ ad, LA = some ad → v5.ownBlock ≠ some ad.block := by
            intro ad had e
            rcases hat5 with h | h
            · rw [h] at e; exact HNO.out ad had e
            · rw [h] at e
              injection e with e
              have := hLt.out ad had
              simp at e
              omega
          go_roundw
          case rel => exact ⟨k + 1, m + 1, by omega, by omega, by go_num, hb5, hL5, by rw [hstep.out, if_pos (by simp)]; exact hown5, hno5, by have := hg5'.size; omega⟩
          case measure => simp [intOf]; omega
        · have h0' : (kd == 0) = false := by simpa using h0
          go_wp2_with fail
          go_roundw
          case rel => exact ⟨k + 1, m, by omega, by omega, by go_num, hb.trans ((by (repeat (first | exact Below.refl _ _ | assumption | refine B_alloc ?_ (Nat.le_refl _) _ | refine Below.drew ?_ | refine B_drewN ?_ _ | refine B_after (by assumption) ?_ | (refine B_set ?_ ?_; rotate_left; (first | exact Nat.le_refl _ | (simp; done) | (simp at *; omega))))) : Below wr.heap.size wr _).mono hb.size), HL.out.below (by (repeat (first | exact Below.refl _ _ | assumption | refine B_alloc ?_ (Nat.le_refl _) _ | refine Below.drew ?_ | refine B_drewN ?_ _ | refine B_after (by assumption) ?_ | (refine B_set ?_ ?_; rotate_left; (first | exact Nat.le_refl _ | (simp; done) | (simp at *; omega)))))) (Nat.le_refl _), by rw [hstep.out, if_neg (by simp [h0'])]; exact hown.alloc _, HNO.out, by simp; omega⟩
          case measure => simp [intOf]; omega
      · obtain ⟨Ao, co, rfl, hmc⟩ := own_form2 hown
        have e : versTo (verI s L) s k = versI s := by rw [hgood.out]; have : k = s.length := by omega
                                                       rw [this]
        rw [e] at hown
        have HO := Lib.hid (RetInts.mk (c := m) (own_lenInts hown) (Nat.le_refl _) (FreshInts.of_own hown (Nat.le_refl _) (by omega)) hb)
        clear hown e
        go_wp2_with fail
        go_ret
        rw [HV.out]
        exact HO.out
end Go.Proofs.Ytofcpfabjfhjoaa
namespace Go.Proofs.Ytofcpfabjfhjoaa
open Go.RowKit Go.BigFrame
set_option linter.unusedVariables false

set_option maxRecDepth 100000 in
set_option maxHeartbeats 4000000 in
theorem sVersionsOf_any (A : Option Addr) (n c : Nat) (s : List OpV) (w : World) (hx : ROps w A n s) (hnc : n ≤ c) :
    Calls Try.prog 46 #[.slice A n c] w (RetInts w (orNil (validS s) (versS s))) := by
  have hn := hx.2.1
  have hl := hx.1
  have HX := Lib.hid hx
  clear hx
  go_enter Try.func46, Try.ntmps46
  go_wp2_with fail
  refine (svalid'_any A n c s w HX.out hnc).mono ?_
  rintro e w1 ⟨rfl, hb1⟩
  cases hv : validS s
  · have HV := Lib.hid hv
    clear hv
    go_wp2_with fail
    go_ret
    rw [HV.out]
    exact RetInts.nil hb1
  · have HV := Lib.hid hv
    clear hv
    have hsz1 := hb1.size
    have hn16 : n ≤ 16 := by
      have := ((validS_iff s).1 HV.out).1
      omega
    go_wp2_with fail
    refine (survivors_any A n c s w1 (HX.out.below hb1 (Nat.le_refl _))).mono ?_
    rintro e w2 ⟨LA, lc, rfl, hlc, hfL, hb2⟩
    have hbw2 := hb1.trans (hb2.mono hb1.size)
    have hgood : Hid (versS s = versTo (verS s (survS s)) s s.length) := rfl
    have hLt : Hid (∀ ad, LA = some ad → ad.block < w2.heap.size) := fun ad had => (hfL.2 ad had).elim fun b h => by
      obtain ⟨cur, rfl, hge, hh, _⟩ := h
      exact lt_of_block hh
    have HST : Hid ((w2.alloc (.cells #[] 3)).ownsRow w2.heap.size 3 1 (.slice (some ⟨w2.heap.size, 0, none⟩) 0 0) 0 (intCells (versTo (verS s (survS s)) s 0))) :=
      World.ownsRow_made w2 #[] 0 (Nat.le_refl _) (by decide) rfl
    have hL := Lib.hid hfL.1
    generalize survS s = L at *
    have hlenL := hL.out.2.1
    have hsz2 := hbw2.size
    have HBW2 := Lib.hid hbw2
    have hne : Hid (∀ ad, LA = some ad → (Value.slice (some ⟨w2.heap.size, 0, none⟩) 0 0).ownBlock ≠ some ad.block) := by
      intro ad had e
      have := hLt.out ad had
      simp only [Value.ownBlock, Option.some.injEq] at e
      omega
    clear hfL hb1 hb2 hbw2
    go_wp2_with fail
    go_loopw [4, 5] (fun ov i wr => ∃ (k m : Nat), k ≤ n ∧ m ≤ k ∧ i = .int .i64 k ∧ Below w.heap.size w wr ∧ RInts wr LA L.length L ∧ wr.ownsRow w2.heap.size 3 1 ov m (intCells (versTo (verS s L) s k)) ∧ (∀ ad, LA = some ad → ov.ownBlock ≠ some ad.block) ∧ w2.heap.size ≤ wr.heap.size) (fun _ i _ => n - (intOf i).toNat)
    case atStart => exact ⟨0, 0, Nat.zero_le _, Nat.le_refl _, rfl, HBW2.out.alloc hsz2 _, hL.out.below ((Below.refl _ _).alloc (Nat.le_refl _) _) (Nat.le_refl _), HST.out, hne.out, by simp⟩
    case round =>
      clear HST hL
      obtain ⟨k, m, hk, hmk, rfl, hb, hLr, hown, hno, hK⟩ := hrel
      by_cases hlt : k < n
      · have hxr := HX.out.below hb (Nat.le_refl _)
        obtain ⟨b, off, o, rfl, hbl, ho, c0, c1, c2⟩ := hxr.at_ hlt
        have hs := hb.size
        have hstep := Lib.hid (versTo_succ (f := verS s L) ho)
        have hcl : ∀ W : World, Below wr.heap.size wr W → Calls Try.prog 92 #[.slice (some ⟨b, off, none⟩) n c, .slice LA L.length lc, .int .i64 (k : Int)] W fun e w' => e = .returned (.int .i64 (verS s L k o)) ∧ Below W.heap.size W w' := fun W hW =>
          versionAt_any _ LA n c lc k s L o W (hxr.below hW (Nat.le_refl _)) (hLr.below hW (Nat.le_refl _)) ho
        have HC := Lib.hid hcl
        have HL := Lib.hid hLr
        have HNO := Lib.hid hno
        clear hcl ho hxr hLr hno
        obtain ⟨tx, kd, it⟩ := o
        simp only at hstep c0 c1 c2
        by_cases h0 : kd = 0
        · subst h0
          go_wp2_with fail
          refine (HC.out wr (Below.refl _ _)).mono ?_
          rintro e w4 ⟨rfl, hb4⟩
          have hown4 := own_below hown hb4
          have hK4 := hb4.size
          have hbw4 := hb.trans (hb4.mono hs)
          have hL4 := Lib.hid (HL.out.below hb4 (Nat.le_refl _))
          obtain ⟨z, hz⟩ : ∃ z, verS s L k ⟨tx, 0, it⟩ = z := ⟨_, rfl⟩
          rw [hz] at hstep
          rw [hz]
          clear hb4 hz
          have hsz4 := hbw4.size
          go_wp2_with (at_builtin; refine app_ints (.tmp 24) (.tmp 29) (hown4.alloc _) (by simp; omega) (lit1 rfl _) (by omega) rfl rfl rfl rfl ?_; intro v5 w5 hown5 hg5 hat5)
          have hg5' := World.grownBy.trans (World.grownBy_alloc w4 _ _) hg5
          have hb5 := Below.own hbw4 hown4 hsz2 hg5'
          have hL5 : RInts w5 LA L.length L := hL4.out.grown hg5' HNO.out
          have hno5 : ∀ ad, LA = some ad → v5.ownBlock ≠ some ad.block := by
            intro ad had e
            rcases hat5 with h | h
            · rw [h] at e; exact HNO.out ad had e
            · rw [h] at e
              injection e with e
              have := hLt.out ad had
              simp at e
              omega
          go_roundw
          case rel => exact ⟨k + 1, m + 1, by omega, by omega, by go_num, hb5, hL5, by rw [hstep.out, if_pos (by simp)]; exact hown5, hno5, by have := hg5'.size; omega⟩
          case measure => simp [intOf]; omega
        · have h0' : (kd == 0) = false := by simpa using h0
          go_wp2_with fail
          go_roundw
          case rel => exact ⟨k + 1, m, by omega, by omega, by go_num, hb, HL.out, by rw [hstep.out, if_neg (by simp [h0'])]; exact hown, HNO.out, hK⟩
          case measure => simp [intOf]; omega
      · obtain ⟨Ao, co, rfl, hmc⟩ := own_form2 hown
        have e : versTo (verS s L) s k = versS s := by rw [hgood.out]; have : k = s.length := by omega
                                                       rw [this]
        rw [e] at hown
        have HO := Lib.hid (RetInts.mk (c := co) (own_lenInts hown) hmc (FreshInts.of_own hown hsz2 (by omega)) hb)
        clear hown e
        go_wp2_with fail
        go_ret
        rw [HV.out]
        exact HO.out
end Go.Proofs.Ytofcpfabjfhjoaa
namespace Go.Proofs.Ytofcpfabjfhjoaa
open Go.RowKit Go.BigFrame
set_option linter.unusedVariables false

def behB (L : List Int) (x y : Int) : Bool := decide (idxZ L y < idxZ L x)
set_option maxHeartbeats 400000 in
theorem behind_any (A : Option Addr) (n c : Nat) (L : List Int) (x y : Int) (w : World) (hx : RInts w A n L) :
    Calls Try.prog 136 #[.slice A n c, .int .i64 x, .int .i64 y] w fun e w' => e = .returned (.bool (behB L x y)) ∧ Below w.heap.size w w' := by
  have HX := Lib.hid hx
  have hres : Hid (behB L x y = decide (idxZ L y < idxZ L x)) := rfl
  clear hx
  obtain ⟨a, ha⟩ : ∃ z, idxZ L x = z := ⟨_, rfl⟩
  obtain ⟨b, hb⟩ : ∃ z, idxZ L y = z := ⟨_, rfl⟩
  rw [ha, hb] at hres
  have HA := Lib.hid ha
  have HB := Lib.hid hb
  clear ha hb
  go_enter Try.func136, Try.ntmps136
  go_wp2_with fail
  refine (IndexL_any A n c L x w HX.out).mono ?_
  rw [HA.out]
  rintro e w1 ⟨rfl, hb1⟩
  go_wp2_with fail
  refine (IndexL_any A n c L y w1 (HX.out.below hb1 (Nat.le_refl _))).mono ?_
  rw [HB.out]
  rintro e w2 ⟨rfl, hb2⟩
  go_wp2_with fail
  go_ret
  exact ⟨ret_bool hres.out.symm, hb1.trans (hb2.mono hb1.size)⟩
end Go.Proofs.Ytofcpfabjfhjoaa
namespace Go.Proofs.Ytofcpfabjfhjoaa
open Go.RowKit Go.BigFrame
set_option linter.unusedVariables false

def fB (s : List OpV) (L : List Int) (t u : Int) : Bool := behB L u t && ((wI s t &&& wI s u) != 0)
def vgOut (f : Int → Int → Bool) (L M : List Int) (rows : List Nat) : List Nat := M.foldl (fun r t => agIn (f t) t L r) rows
theorem vgOut_snoc {f : Int → Int → Bool} {L M : List Int} {rows : List Nat} {j : Nat} {t : Int} (h : M[j]? = some t) : vgOut f L (M.take (j + 1)) rows = agIn (f t) t L (vgOut f L (M.take j) rows) := by
  unfold vgOut
  rw [take_snoc h, List.foldl_append]; rfl
theorem vgOut_ok {f : Int → Int → Bool} {L : List Int} (hl : ∀ u ∈ L, 0 ≤ u ∧ u ≤ 3) : ∀ {M : List Int} {rows : List Nat}, Rows4 rows → Rows4 (vgOut f L M rows) := by
  intro M
  induction M with
  | nil => intro rows h; exact h
  | cons x r ih =>
    intro rows h
    exact ih (agIn_ok hl h)
def vgStep (ver : Nat → OpV → Int) (L : List Int) (rows : List Nat) (k : Nat) (o : OpV) : List Nat :=
  if o.kind == 0 && (L.any fun y => y == o.tx) && decide (0 ≤ ver k o) && (ver k o != o.tx) then rowSet rows (ver k o) o.tx else rows
def vgTo (ver : Nat → OpV → Int) (L : List Int) (s : List OpV) (rows : List Nat) : Nat → List Nat
  | 0 => rows
  | k + 1 => match s[k]? with | some o => vgStep ver L (vgTo ver L s rows k) k o | none => vgTo ver L s rows k
theorem vgTo_succ {ver : Nat → OpV → Int} {L : List Int} {s : List OpV} {rows : List Nat} {k : Nat} {o : OpV} (h : s[k]? = some o) : vgTo ver L s rows (k + 1) = vgStep ver L (vgTo ver L s rows k) k o := by simp only [vgTo, h]
theorem vgTo_ok {ver : Nat → OpV → Int} {L : List Int} {s : List OpV} {rows : List Nat} (h : Rows4 rows) (hs : ∀ o ∈ s, 0 ≤ o.tx ∧ o.tx ≤ 3) (k : Nat) : Rows4 (vgTo ver L s rows k) := by
  induction k with
  | zero => exact h
  | succ k ih =>
    simp only [vgTo]
    split
    · rename_i o ho
      unfold vgStep
      split
      · exact rowSet_ok ih (hs o (List.mem_of_getElem? ho))
      · exact ih
    · exact ih
def vgI (s : List OpV) : List Nat := vgTo (verI s (survI s)) (survI s) s (vgOut (fB s (survI s)) (survI s) (survI s) (agI4 s)) s.length
end Go.Proofs.Ytofcpfabjfhjoaa
namespace Go.Proofs.Ytofcpfabjfhjoaa
open Go.RowKit Go.BigFrame
set_option linter.unusedVariables false

def ovI (s : List OpV) (t u : Int) : Bool := decide (firstI s t < commitI s u) && decide (firstI s u < commitI s t)
def ovS (s : List OpV) (t u : Int) : Bool := decide (stampN s t < commitN s u) && decide (stampN s u < commitN s t)

set_option maxHeartbeats 1000000 in
theorem PivotOf1_any (t u : Int) (A : Option Addr) (n c b : Nat) (s : List OpV) (w : World) (hc : w.cell? ⟨b, 0, none⟩ = some (.slice A n c)) (hx : ROps w A n s) :
    Calls Try.prog 83 #[.int .i64 t, .int .i64 u, .pointer (some ⟨b, 0, none⟩)] w fun e w' => e = .returned (.bool (ovI s t u)) ∧ Below w.heap.size w w' := by
  have L := Later.cell hc
  have hC : ∀ (x : Int) (v : Later w), Calls Try.prog 85 #[.slice A n c, .int .i64 x] v.1 fun e w' => e = .returned (.int .i64 (commitI s x)) ∧ Below v.1.heap.size v.1 w' := fun x v => commitOf_any A n c s x v.1 (hx.later v)
  have hF : ∀ (x : Int) (v : Later w), Calls Try.prog 84 #[.slice A n c, .int .i64 x] v.1 fun e w' => e = .returned (.int .i64 (firstI s x)) ∧ Below v.1.heap.size v.1 w' := fun x v => firstOf_any A n c s x v.1 (hx.later v)
  have HC := Lib.hid hC
  have HF := Lib.hid hF
  have hres : Hid (ovI s t u = (decide (firstI s t < commitI s u) && decide (firstI s u < commitI s t))) := rfl
  clear hC hF hx hc
  cases h1 : decide (firstI s t < commitI s u)
  · have H1 := Lib.hid h1
    have h1' := h1
    clear h1
    go_enter Try.func83, Try.ntmps83
    go_wp2_with fail
    refine region_later (by kernel_rfl) (by kernel_rfl) ?_
    repeat (go_big_quiet_step ((first | (go_at_call 85; exact later_call _ (HC.out _ _)) | (go_at_call 84; exact later_call _ (HF.out _ _)))))
    refine wpQuiet_nil ?_
    rintro _ ⟨v, rfl⟩
    go_wp2_with fail
    go_ret
    exact ⟨ret_bool (by rw [hres.out, H1.out]; rfl), v.2⟩
  · cases h2 : decide (firstI s u < commitI s t)
    all_goals
      have H1 := Lib.hid h1
      have H2 := Lib.hid h2
      have h1' := h1
      have h2' := h2
      clear h1 h2
      go_enter Try.func83, Try.ntmps83
      go_wp2_with fail
      refine region_later (by kernel_rfl) (by kernel_rfl) ?_
      repeat (go_big_quiet_step ((first | (go_at_call 85; exact later_call _ (HC.out _ _)) | (go_at_call 84; exact later_call _ (HF.out _ _)))))
      refine wpQuiet_nil ?_
      rintro _ ⟨v, rfl⟩
      go_wp2_with fail
      go_ret
      exact ⟨ret_bool (by rw [hres.out, H1.out, H2.out]; rfl), v.2⟩
theorem runs_PivotOf1 : Runs 83 := runs_of Try.func83 (by kernel_rfl) rfl

set_option maxHeartbeats 1000000 in
theorem overlap_any (A : Option Addr) (n c : Nat) (s : List OpV) (t u : Int) (w : World) (hx : ROps w A n s) :
    Calls Try.prog 80 #[.slice A n c, .int .i64 t, .int .i64 u] w fun e w' => e = .returned (.bool (ovS s t u)) ∧ Below w.heap.size w w' := by
  have HX := Lib.hid hx
  have hres : Hid (ovS s t u = (decide (stampN s t < commitN s u) && decide (stampN s u < commitN s t))) := rfl
  clear hx
  obtain ⟨a1, ha1⟩ : ∃ z, stampN s t = z := ⟨_, rfl⟩
  obtain ⟨a2, ha2⟩ : ∃ z, commitN s u = z := ⟨_, rfl⟩
  obtain ⟨a3, ha3⟩ : ∃ z, stampN s u = z := ⟨_, rfl⟩
  obtain ⟨a4, ha4⟩ : ∃ z, commitN s t = z := ⟨_, rfl⟩
  rw [ha1, ha2, ha3, ha4] at hres
  have H1 := Lib.hid ha1
  have H2 := Lib.hid ha2
  have H3 := Lib.hid ha3
  have H4 := Lib.hid ha4
  clear ha1 ha2 ha3 ha4
  go_enter Try.func80, Try.ntmps80
  go_wp2_with fail
  refine (stampOf_any A n c s t w HX.out).mono ?_
  rw [H1.out]
  rintro e w1 ⟨rfl, hb1⟩
  go_wp2_with fail
  refine (commitAt_any A n c s u w1 (HX.out.below hb1 (Nat.le_refl _))).mono ?_
  rw [H2.out]
  rintro e w2 ⟨rfl, hb2⟩
  have hb12 := hb1.trans (hb2.mono hb1.size)
  clear hb2
  by_cases h1 : a1 < a2
  · have h1' : decide ((a1 : Int) < (a2 : Int)) = true := by simpa using h1
    go_wp2_with fail
    refine (stampOf_any A n c s u w2 (HX.out.below hb12 (Nat.le_refl _))).mono ?_
    rw [H3.out]
    rintro e w3 ⟨rfl, hb3⟩
    have hb13 := hb12.trans (hb3.mono hb12.size)
    clear hb3
    go_wp2_with fail
    refine (commitAt_any A n c s t w3 (HX.out.below hb13 (Nat.le_refl _))).mono ?_
    rw [H4.out]
    rintro e w4 ⟨rfl, hb4⟩
    have hb14 := hb13.trans (hb4.mono hb13.size)
    clear hb4
    by_cases h2 : a3 < a4
    · have h2' : decide ((a3 : Int) < (a4 : Int)) = true := by simpa using h2
      go_wp2_with fail
      go_ret
      exact ⟨ret_bool (by rw [hres.out]; simp [h1, h2]), hb14⟩
    · have h2' : decide ((a3 : Int) < (a4 : Int)) = false := by simpa using h2
      go_wp2_with fail
      go_ret
      exact ⟨ret_bool (by rw [hres.out]; simp [h1, h2]), hb14⟩
  · have h1' : decide ((a1 : Int) < (a2 : Int)) = false := by simpa using h1
    go_wp2_with fail
    go_ret
    exact ⟨ret_bool (by rw [hres.out]; simp [h1]), hb12⟩

/-- Three who are against each other. -/
def pivF (rows : List Nat) (ov : Int → Int → Bool) (t u v : Nat) : Bool := (rows.getD t 0).testBit u && (rows.getD u 0).testBit v && ov t u && ov u v
def pivX (rows : List Nat) (ov : Int → Int → Bool) (x : Nat) : Bool := pivF rows ov (x / 16) (x / 4 % 4) (x % 4)
def pivR (rows : List Nat) (ov : Int → Int → Bool) : Option Nat := (List.range 64).find? (pivX rows ov)
def pivL : Option Nat → List Int
  | some x => [((x / 16 : Nat) : Int), ((x / 4 % 4 : Nat) : Int), ((x % 4 : Nat) : Int)]
  | none => []
theorem pivR_hit {rows : List Nat} {ov : Int → Int → Bool} {x : Nat} (hx : x < 64) (h : pivX rows ov x = true) (hno : ∀ y, y < x → pivX rows ov y = false) : pivR rows ov = some x := by
  unfold pivR
  rw [List.find?_eq_some_iff_getElem]
  exact ⟨h, x, by simpa using hx, by simp, fun j hj => by simp [hno j hj]⟩
theorem pivR_none {rows : List Nat} {ov : Int → Int → Bool} (hno : ∀ y, y < 64 → pivX rows ov y = false) : pivR rows ov = none := by
  unfold pivR
  rw [List.find?_eq_none]
  intro x hx
  rw [hno x (List.mem_range.1 hx)]; simp
theorem pivX_at {rows : List Nat} {ov : Int → Int → Bool} {t u v : Nat} (hu : u < 4) (hv : v < 4) : pivX rows ov (16 * t + 4 * u + v) = pivF rows ov t u v := by
  unfold pivX
  rw [show (16 * t + 4 * u + v) / 16 = t by omega, show (16 * t + 4 * u + v) / 4 % 4 = u by omega, show (16 * t + 4 * u + v) % 4 = v by omega]
/-- The call hands back these integers in new memory and a bool, and changes nothing. -/
def RetIntsB (w0 : World) (xs : List Int) (b : Bool) (e : Ending) (w : World) : Prop :=
  ∃ A c, e = .returned (.tuple #[.slice A xs.length c, .bool b]) ∧ xs.length ≤ c ∧ FreshInts w0 w A xs.length xs ∧ Below w0.heap.size w0 w
theorem RetIntsB.nil {w0 w : World} {b : Bool} (h : Below w0.heap.size w0 w) : RetIntsB w0 [] b (.returned (.tuple #[.slice none 0 0, .bool b])) w := ⟨none, 0, rfl, Nat.le_refl _, FreshInts.none_, h⟩
theorem RetIntsB.lit {w0 w : World} {H : Nat} (hH : w.heap.size = H) (h : Below w0.heap.size w0 w) (xs : List Int) (hl : xs.length ≤ 64) {b : Bool} : RetIntsB w0 xs b (.returned (.tuple #[.slice (some ⟨H, 0, none⟩) xs.length xs.length, .bool b])) (w.alloc (.cells (intCells xs).toArray 3)) := by
  subst hH
  refine ⟨_, _, rfl, Nat.le_refl _, ⟨RInts.lit w xs _ (by omega), fun ad had => ?_⟩, h.alloc h.size _⟩
  injection had with had
  subst had
  exact ⟨_, _, rfl, h.size, heap_alloc_new w _, by simp [intCells]⟩
end Go.Proofs.Ytofcpfabjfhjoaa
namespace Go.Proofs.Ytofcpfabjfhjoaa
open Go.RowKit Go.BigFrame
set_option linter.unusedVariables false

theorem rowsI_get {R : List Nat} (h : Rows4 R) {w : World} {A : Option Addr} (hr : RInts w A 4 (rowsI R)) {t : Nat} (ht : t < 4) : ∃ b off, A = some ⟨b, off, none⟩ ∧ b < w.heap.size ∧ w.cell? ⟨b, off + t, none⟩ = some (.int .i64 ((R.getD t 0 : Nat) : Int)) ∧ R.getD t 0 < 16 := by
  obtain ⟨b, off, x, hA, hb, hx, hc⟩ := hr.at_ (k := t) ht
  have e : R[t]? = some (R[t]'(by have := h.1; omega)) := List.getElem?_eq_getElem _
  have hg : R.getD t 0 = R[t]'(by have := h.1; omega) := by rw [List.getD_eq_getElem?_getD, e]; rfl
  refine ⟨b, off, hA, hb, ?_, by rw [hg]; exact h.2 _ (List.getElem_mem _)⟩
  rw [hc, hg]
  simp only [rowsI, List.getElem?_map, e, Option.map_some, Option.some.injEq] at hx
  rw [hx]

set_option maxRecDepth 100000 in
set_option maxHeartbeats 4000000 in
theorem PivotOf_any (A : Option Addr) (n c : Nat) (s : List OpV) (w : World) (hx : ROps w A n s) (hnc : n ≤ c) :
    Calls Try.prog 28 #[.slice A n c] w (RetIntsB w (orNil (validS s) (pivL (pivR (agI4 s) (ovI s)))) (validS s && (pivR (agI4 s) (ovI s)).isSome)) := by
  have hcl : ∀ W : World, W = w.alloc (.cells #[.slice A n c] 23) → Below w.heap.size w W ∧ ROps W A n s ∧ (∀ u : Later W, u.1.cell? ⟨w.heap.size, 0, none⟩ = some (.slice A n c)) := by
    intro W hW
    have hc : W.cell? ⟨w.heap.size, 0, none⟩ = some (.slice A n c) := by rw [hW]; exact box_at _ _ _ _ _ rfl
    have hb : Below w.heap.size w W := by rw [hW]; exact (Below.refl _ _).alloc (Nat.le_refl _) _
    exact ⟨hb, hx.below hb (Nat.le_refl _), Later.cell hc⟩
  have HC := Lib.hid hcl
  clear hcl hx
  go_enter Try.func28, Try.ntmps28
  go_wp2_with fail
  obtain ⟨W, hW⟩ : ∃ W : World, W = w.alloc (.cells #[.slice A n c] 23) := ⟨_, rfl⟩
  rw [← hW]
  obtain ⟨hbW, hxW, LS⟩ := HC.out W hW
  have HX := Lib.hid hxW
  clear hW HC hxW
  refine (ValidSchedule_any A n c s W HX.out hnc).mono ?_
  rintro e w1 ⟨rfl, hb1⟩
  cases hv : validS s
  · have HV := Lib.hid hv
    clear hv
    go_wp2_with fail
    go_ret2
    rw [HV.out]
    exact RetIntsB.nil (hbW.trans (hb1.mono hbW.size))
  · have HV := Lib.hid hv
    clear hv
    have q1 := LS ⟨w1, hb1⟩
    simp only at q1
    have hbw1 := hbW.trans (hb1.mono hbW.size)
    go_wp2_with fail
    refine (againstOf_any A n c s w1 (HX.out.below hb1 (Nat.le_refl _)) hnc HV.out).mono ?_
    have hok : Rows4 (agI4 s) := by unfold agI4; exact agTo_ok (survI_rng HV.out) _
    have hlen : (rowsI (agI4 s)).length = 4 := by simp [rowsI, hok.1]
    rintro e w2 ⟨LA, lc, rfl, hlc, ⟨hL, hLf⟩, hb2⟩
    rw [hlen] at hL hlc
    rw [hlen]
    have hbw2 := hbw1.trans (hb2.mono hbw1.size)
    have hbWW := hb1.trans (hb2.mono hb1.size)
    have hCl : ∀ (v : Later w2) (t u : Int), Calls Try.prog 83 #[.int .i64 t, .int .i64 u, .pointer (some ⟨w.heap.size, 0, none⟩)] v.1 fun e w' => e = .returned (.bool (ovI s t u)) ∧ Below v.1.heap.size v.1 w' := fun v t u => by
      have hbv := hbWW.trans (v.2.mono hbWW.size)
      exact PivotOf1_any t u A n c _ s v.1 (LS ⟨v.1, hbv⟩) (HX.out.below hbv (Nat.le_refl _))
    have hrun := runs_PivotOf1
    unfold Runs at hrun
    have HL := Lib.hid hL
    have HK := Lib.hid hok
    have HCl := Lib.hid hCl
    generalize hR : agI4 s = R at *
    have hpost : Hid (∀ x : Nat, x < 64 → pivX R (ovI s) x = true → (∀ y, y < x → pivX R (ovI s) y = false) → orNil true (pivL (pivR R (ovI s))) = [((x / 16 : Nat) : Int), ((x / 4 % 4 : Nat) : Int), ((x % 4 : Nat) : Int)] ∧ (true && (pivR R (ovI s)).isSome) = true) := by
      intro x h1 h2 h3
      rw [pivR_hit h1 h2 h3]
      exact ⟨rfl, rfl⟩
    have hpost0 : Hid ((∀ y, y < 64 → pivX R (ovI s) y = false) → orNil true (pivL (pivR R (ovI s))) = [] ∧ (true && (pivR R (ovI s)).isSome) = false) := by
      intro h
      rw [pivR_none h]
      exact ⟨rfl, rfl⟩
    clear hL hLf hok hCl hlen LS q1 hR hb1 hb2 hbw1 hbWW hbW
    go_wp2_with fail
    go_loopw [15] (fun i wr => ∃ k : Nat, k ≤ 4 ∧ i = .int .i64 k ∧ Below w2.heap.size w2 wr ∧ ∀ y, y < 16 * k → pivX R (ovI s) y = false) (fun i _ => 4 - (intOf i).toNat)
    case atStart => exact ⟨0, by omega, rfl, Below.refl _ _, by omega⟩
    case round =>
      obtain ⟨k, hk, rfl, hbo, hno⟩ := hrel
      by_cases hlt : k < 4
      · have HN := Lib.hid hno
        clear hno
        have hdk : decide ((k : Int) < 4) = true := by simp; omega
        go_wp2_with fail
        obtain ⟨wo, rfl⟩ : ∃ wo : World, wo = wr := ⟨_, rfl⟩
        go_loopw [18] (fun i wr => ∃ j : Nat, j ≤ 4 ∧ i = .int .i64 j ∧ Below w2.heap.size w2 wr ∧ ∀ y, y < 16 * k + 4 * j → pivX R (ovI s) y = false) (fun i _ => 4 - (intOf i).toNat)
        case atStart => exact ⟨0, by omega, rfl, hbo, HN.out⟩
        case round =>
          clear hbo HN
          obtain ⟨j, hj, rfl, hbo, hno⟩ := hrel
          by_cases hlt2 : j < 4
          · have HN := Lib.hid hno
            clear hno
            have hdj : decide ((j : Int) < 4) = true := by simp; omega
            go_wp2_with fail
            obtain ⟨wo2, rfl⟩ : ∃ wo2 : World, wo2 = wr := ⟨_, rfl⟩
            go_loopw [21] (fun i wr => ∃ q : Nat, q ≤ 4 ∧ i = .int .i64 q ∧ Below w2.heap.size w2 wr ∧ ∀ y, y < 16 * k + 4 * j + q → pivX R (ovI s) y = false) (fun i _ => 4 - (intOf i).toNat)
            case atStart => exact ⟨0, by omega, rfl, hbo, HN.out⟩
            case round =>
              clear hbo HN
              obtain ⟨q, hq, rfl, hbr, hno⟩ := hrel
              by_cases hlt3 : q < 4
              · have hat : pivX R (ovI s) (16 * k + 4 * j + q) = ((R.getD k 0).testBit j && (R.getD j 0).testBit q && ovI s k j && ovI s j q) := pivX_at hlt2 hlt3
                have hnext : Hid (pivX R (ovI s) (16 * k + 4 * j + q) = false → ∀ y, y < 16 * k + 4 * j + (q + 1) → pivX R (ovI s) y = false) := by
                  intro h y hy
                  by_cases e : y = 16 * k + 4 * j + q
                  · rw [e]; exact h
                  · exact hno y (by omega)
                have hdone : Hid (pivX R (ovI s) (16 * k + 4 * j + q) = true → orNil true (pivL (pivR R (ovI s))) = [(k : Int), (j : Int), (q : Int)] ∧ (true && (pivR R (ovI s)).isSome) = true) := by
                  intro h
                  have := hpost.out _ (by omega) h hno
                  rw [show (16 * k + 4 * j + q) / 16 = k by omega, show (16 * k + 4 * j + q) / 4 % 4 = j by omega, show (16 * k + 4 * j + q) % 4 = q by omega] at this
                  exact this
                obtain ⟨b1, hb1⟩ : ∃ b1, (R.getD k 0).testBit j = b1 := ⟨_, rfl⟩
                obtain ⟨b2, hb2⟩ : ∃ b2, (R.getD j 0).testBit q = b2 := ⟨_, rfl⟩
                obtain ⟨b3, hb3⟩ : ∃ b3, ovI s k j = b3 := ⟨_, rfl⟩
                obtain ⟨b4, hb4⟩ : ∃ b4, ovI s j q = b4 := ⟨_, rfl⟩
                rw [hb1, hb2, hb3, hb4] at hat
                have hrr := HL.out.below hbr (Nat.le_refl _)
                obtain ⟨bo, offo, hA, hbl, ck, hk16⟩ := rowsI_get HK.out hrr hlt
                obtain ⟨bo', offo', hA', _, cj, hj16⟩ := rowsI_get HK.out hrr hlt2
                rw [hA] at hA'
                injection hA' with hA'
                injection hA' with e1 e2 _
                subst e1; subst e2
                have hab1 := and_bit (R.getD k 0) j (by omega)
                have hab2 := and_bit (R.getD j 0) q (by omega)
                rw [hb1] at hab1
                rw [hb2] at hab2
                have hc3 : ∀ W : World, Below wr.heap.size wr W → Calls Try.prog 83 #[.int .i64 (k : Int), .int .i64 (j : Int), .pointer (some ⟨w.heap.size, 0, none⟩)] W fun e w' => e = .returned (.bool b3) ∧ Below W.heap.size W w' := fun W hW => by
                  have := HCl.out ⟨W, hbr.trans (hW.mono hbr.size)⟩ k j; rw [hb3] at this; exact this
                have hc4 : ∀ W : World, Below wr.heap.size wr W → Calls Try.prog 83 #[.int .i64 (j : Int), .int .i64 (q : Int), .pointer (some ⟨w.heap.size, 0, none⟩)] W fun e w' => e = .returned (.bool b4) ∧ Below W.heap.size W w' := fun W hW => by
                  have := HCl.out ⟨W, hbr.trans (hW.mono hbr.size)⟩ j q; rw [hb4] at this; exact this
                have HAT := Lib.hid hat
                have HC3 := Lib.hid hc3
                have HC4 := Lib.hid hc4
                subst hA
                clear hno hat hb1 hb2 hb3 hb4 hrr hc3 hc4
                generalize R.getD k 0 = rk at *
                generalize R.getD j 0 = rj at *
                cases b1
                · go_wp2_with fail
                  go_roundw
                  case rel => exact ⟨q + 1, by omega, by go_num, hbr, hnext.out (by rw [HAT.out]; rfl)⟩
                  case measure => simp [intOf]; omega
                · cases b2
                  · go_wp2_with fail
                    go_roundw
                    case rel => exact ⟨q + 1, by omega, by go_num, hbr, hnext.out (by rw [HAT.out]; rfl)⟩
                    case measure => simp [intOf]; omega
                  · go_wp2_with fail
                    refine (HC3.out wr (Below.refl _ _)).mono ?_
                    rintro e w3 ⟨rfl, hb3⟩
                    cases b3
                    · go_wp2_with fail
                      go_roundw
                      case rel => exact ⟨q + 1, by omega, by go_num, hbr.trans (hb3.mono hbr.size), hnext.out (by rw [HAT.out]; rfl)⟩
                      case measure => simp [intOf]; omega
                    · go_wp2_with fail
                      refine (HC4.out w3 hb3).mono ?_
                      rintro e w4 ⟨rfl, hb4⟩
                      have hbr4 := hbr.trans ((hb3.trans (hb4.mono hb3.size)).mono hbr.size)
                      cases b4
                      · go_wp2_with fail
                        go_roundw
                        case rel => exact ⟨q + 1, by omega, by go_num, hbr4, hnext.out (by rw [HAT.out]; rfl)⟩
                        case measure => simp [intOf]; omega
                      · have HD := Lib.hid (hdone.out (by rw [HAT.out]; rfl))
                        go_wp2_with fail
                        go_ret2
                        rw [HV.out, HD.out.1, HD.out.2]
                        exact RetIntsB.lit rfl (hbw2.trans (hbr4.mono hbw2.size)) [(k : Int), (j : Int), (q : Int)] (by simp)
              · have HN := Lib.hid hno
                clear hno
                go_wp2_with fail
                go_roundw
                case rel => exact ⟨j + 1, by omega, by go_num, hbr, fun y hy => HN.out y (by omega)⟩
                case measure => simp [intOf]; omega
          · have HN := Lib.hid hno
            clear hno
            go_wp2_with fail
            go_roundw
            case rel => exact ⟨k + 1, by omega, by go_num, hbo, fun y hy => HN.out y (by omega)⟩
            case measure => simp [intOf]; omega
      · have HN := Lib.hid (hpost0.out (fun y hy => hno y (by omega)))
        clear hno
        go_wp2_with fail
        go_ret2
        rw [HV.out, HN.out.1, HN.out.2]
        exact RetIntsB.nil (hbw2.trans (hbo.mono hbw2.size))
end Go.Proofs.Ytofcpfabjfhjoaa
namespace Go.Proofs.Ytofcpfabjfhjoaa
open Go.RowKit Go.BigFrame
set_option linter.unusedVariables false

set_option maxRecDepth 100000 in
set_option maxHeartbeats 4000000 in
theorem sPivotOf_any (A : Option Addr) (n c : Nat) (s : List OpV) (w : World) (hx : ROps w A n s) (hnc : n ≤ c) :
    Calls Try.prog 26 #[.slice A n c] w (RetIntsB w (orNil (validS s) (pivL (pivR (agS4 s) (ovS s)))) (validS s && (pivR (agS4 s) (ovS s)).isSome)) := by
  have HX := Lib.hid hx
  clear hx
  go_enter Try.func26, Try.ntmps26
  go_wp2_with fail
  refine (svalid'_any A n c s w HX.out hnc).mono ?_
  rintro e w1 ⟨rfl, hb1⟩
  cases hv : validS s
  · have HV := Lib.hid hv
    clear hv
    go_wp2_with fail
    go_ret2
    rw [HV.out]
    exact RetIntsB.nil hb1
  · have HV := Lib.hid hv
    clear hv
    have hbw1 := hb1
    go_wp2_with fail
    refine (against_any A n c s w1 (HX.out.below hb1 (Nat.le_refl _)) HV.out).mono ?_
    have hok : Rows4 (agS4 s) := by unfold agS4; exact agTo_ok (survS_rng HV.out) _
    have hlen : (rowsI (agS4 s)).length = 4 := by simp [rowsI, hok.1]
    rintro e w2 ⟨LA, lc, rfl, hlc, ⟨hL, hLf⟩, hb2⟩
    rw [hlen] at hL hlc
    rw [hlen]
    have hbw2 := hbw1.trans (hb2.mono hbw1.size)
    have hCl : ∀ (v : Later w2) (t u : Int), Calls Try.prog 80 #[.slice A n c, .int .i64 t, .int .i64 u] v.1 fun e w' => e = .returned (.bool (ovS s t u)) ∧ Below v.1.heap.size v.1 w' := fun v t u =>
      overlap_any A n c s t u v.1 (HX.out.below (hbw2.trans (v.2.mono hbw2.size)) (Nat.le_refl _))
    have HL := Lib.hid hL
    have HK := Lib.hid hok
    have HCl := Lib.hid hCl
    generalize hR : agS4 s = R at *
    have hpost : Hid (∀ x : Nat, x < 64 → pivX R (ovS s) x = true → (∀ y, y < x → pivX R (ovS s) y = false) → orNil true (pivL (pivR R (ovS s))) = [((x / 16 : Nat) : Int), ((x / 4 % 4 : Nat) : Int), ((x % 4 : Nat) : Int)] ∧ (true && (pivR R (ovS s)).isSome) = true) := by
      intro x h1 h2 h3
      rw [pivR_hit h1 h2 h3]
      exact ⟨rfl, rfl⟩
    have hpost0 : Hid ((∀ y, y < 64 → pivX R (ovS s) y = false) → orNil true (pivL (pivR R (ovS s))) = [] ∧ (true && (pivR R (ovS s)).isSome) = false) := by
      intro h
      rw [pivR_none h]
      exact ⟨rfl, rfl⟩
    clear hL hLf hok hCl hlen hR hb1 hb2 hbw1
    go_wp2_with fail
    go_loopw [5] (fun i wr => ∃ k : Nat, k ≤ 4 ∧ i = .int .i64 k ∧ Below w2.heap.size w2 wr ∧ ∀ y, y < 16 * k → pivX R (ovS s) y = false) (fun i _ => 4 - (intOf i).toNat)
    case atStart => exact ⟨0, by omega, rfl, Below.refl _ _, by omega⟩
    case round =>
      obtain ⟨k, hk, rfl, hbo, hno⟩ := hrel
      by_cases hlt : k < 4
      · have HN := Lib.hid hno
        clear hno
        have hdk : decide ((k : Int) < 4) = true := by simp; omega
        go_wp2_with fail
        obtain ⟨wo, rfl⟩ : ∃ wo : World, wo = wr := ⟨_, rfl⟩
        go_loopw [6] (fun i wr => ∃ j : Nat, j ≤ 4 ∧ i = .int .i64 j ∧ Below w2.heap.size w2 wr ∧ ∀ y, y < 16 * k + 4 * j → pivX R (ovS s) y = false) (fun i _ => 4 - (intOf i).toNat)
        case atStart => exact ⟨0, by omega, rfl, hbo, HN.out⟩
        case round =>
          clear hbo HN
          obtain ⟨j, hj, rfl, hbo, hno⟩ := hrel
          by_cases hlt2 : j < 4
          · have HN := Lib.hid hno
            clear hno
            have hdj : decide ((j : Int) < 4) = true := by simp; omega
            go_wp2_with fail
            obtain ⟨wo2, rfl⟩ : ∃ wo2 : World, wo2 = wr := ⟨_, rfl⟩
            go_loopw [7] (fun i wr => ∃ q : Nat, q ≤ 4 ∧ i = .int .i64 q ∧ Below w2.heap.size w2 wr ∧ ∀ y, y < 16 * k + 4 * j + q → pivX R (ovS s) y = false) (fun i _ => 4 - (intOf i).toNat)
            case atStart => exact ⟨0, by omega, rfl, hbo, HN.out⟩
            case round =>
              clear hbo HN
              obtain ⟨q, hq, rfl, hbr, hno⟩ := hrel
              by_cases hlt3 : q < 4
              · have hdq : decide ((q : Int) < 4) = true := by simp; omega
                have hat : pivX R (ovS s) (16 * k + 4 * j + q) = ((R.getD k 0).testBit j && (R.getD j 0).testBit q && ovS s k j && ovS s j q) := pivX_at hlt2 hlt3
                have hnext : Hid (pivX R (ovS s) (16 * k + 4 * j + q) = false → ∀ y, y < 16 * k + 4 * j + (q + 1) → pivX R (ovS s) y = false) := by
                  intro h y hy
                  by_cases e : y = 16 * k + 4 * j + q
                  · rw [e]; exact h
                  · exact hno y (by omega)
                have hdone : Hid (pivX R (ovS s) (16 * k + 4 * j + q) = true → orNil true (pivL (pivR R (ovS s))) = [(k : Int), (j : Int), (q : Int)] ∧ (true && (pivR R (ovS s)).isSome) = true) := by
                  intro h
                  have := hpost.out _ (by omega) h hno
                  rw [show (16 * k + 4 * j + q) / 16 = k by omega, show (16 * k + 4 * j + q) / 4 % 4 = j by omega, show (16 * k + 4 * j + q) % 4 = q by omega] at this
                  exact this
                obtain ⟨b1, hb1⟩ : ∃ b1, (R.getD k 0).testBit j = b1 := ⟨_, rfl⟩
                obtain ⟨b2, hb2⟩ : ∃ b2, (R.getD j 0).testBit q = b2 := ⟨_, rfl⟩
                obtain ⟨b3, hb3⟩ : ∃ b3, ovS s k j = b3 := ⟨_, rfl⟩
                obtain ⟨b4, hb4⟩ : ∃ b4, ovS s j q = b4 := ⟨_, rfl⟩
                rw [hb1, hb2, hb3, hb4] at hat
                have hrr := HL.out.below hbr (Nat.le_refl _)
                obtain ⟨bo, offo, hA, hbl, ck, hk16⟩ := rowsI_get HK.out hrr hlt
                obtain ⟨bo', offo', hA', _, cj, hj16⟩ := rowsI_get HK.out hrr hlt2
                rw [hA] at hA'
                injection hA' with hA'
                injection hA' with e1 e2 _
                subst e1; subst e2
                have hab1 : ∀ W : World, Calls Try.prog 79 #[.int .i64 ((R.getD k 0 : Nat) : Int), .int .i64 (j : Int)] W fun e w' => e = .returned (.int .i64 (if b1 then 1 else 0)) ∧ W = w' := fun W => by
                  have := sbit_any (R.getD k 0) j W (by omega) (by omega); rw [hb1] at this; exact this
                have hab2 : ∀ W : World, Calls Try.prog 79 #[.int .i64 ((R.getD j 0 : Nat) : Int), .int .i64 (q : Int)] W fun e w' => e = .returned (.int .i64 (if b2 then 1 else 0)) ∧ W = w' := fun W => by
                  have := sbit_any (R.getD j 0) q W (by omega) (by omega); rw [hb2] at this; exact this
                have hc3 : ∀ W : World, Below wr.heap.size wr W → Calls Try.prog 80 #[.slice A n c, .int .i64 (k : Int), .int .i64 (j : Int)] W fun e w' => e = .returned (.bool b3) ∧ Below W.heap.size W w' := fun W hW => by
                  have := HCl.out ⟨W, hbr.trans (hW.mono hbr.size)⟩ k j; rw [hb3] at this; exact this
                have hc4 : ∀ W : World, Below wr.heap.size wr W → Calls Try.prog 80 #[.slice A n c, .int .i64 (j : Int), .int .i64 (q : Int)] W fun e w' => e = .returned (.bool b4) ∧ Below W.heap.size W w' := fun W hW => by
                  have := HCl.out ⟨W, hbr.trans (hW.mono hbr.size)⟩ j q; rw [hb4] at this; exact this
                have HAT := Lib.hid hat
                have HC3 := Lib.hid hc3
                have HC4 := Lib.hid hc4
                subst hA
                clear hno hat hb1 hb2 hb3 hb4 hrr hc3 hc4
                generalize R.getD k 0 = rk at *
                generalize R.getD j 0 = rj at *
                have HB1 := Lib.hid hab1
                have HB2 := Lib.hid hab2
                clear hab1 hab2
                cases b1
                · go_wp2_with fail
                  refine (HB1.out _).mono ?_
                  rintro e wx ⟨rfl, rfl⟩
                  go_wp2_with fail
                  go_roundw
                  case rel => exact ⟨q + 1, by omega, by go_num, hbr, hnext.out (by rw [HAT.out]; rfl)⟩
                  case measure => simp [intOf]; omega
                · cases b2
                  · go_wp2_with fail
                    refine (HB1.out _).mono ?_
                    rintro e wx ⟨rfl, rfl⟩
                    go_wp2_with fail
                    refine (HB2.out _).mono ?_
                    rintro e wx ⟨rfl, rfl⟩
                    go_wp2_with fail
                    go_roundw
                    case rel => exact ⟨q + 1, by omega, by go_num, hbr, hnext.out (by rw [HAT.out]; rfl)⟩
                    case measure => simp [intOf]; omega
                  · go_wp2_with fail
                    refine (HB1.out _).mono ?_
                    rintro e wx ⟨rfl, rfl⟩
                    go_wp2_with fail
                    refine (HB2.out _).mono ?_
                    rintro e wx ⟨rfl, rfl⟩
                    go_wp2_with fail
                    refine (HC3.out wr (Below.refl _ _)).mono ?_
                    rintro e w3 ⟨rfl, hb3⟩
                    cases b3
                    · go_wp2_with fail
                      go_roundw
                      case rel => exact ⟨q + 1, by omega, by go_num, hbr.trans (hb3.mono hbr.size), hnext.out (by rw [HAT.out]; rfl)⟩
                      case measure => simp [intOf]; omega
                    · go_wp2_with fail
                      refine (HC4.out w3 hb3).mono ?_
                      rintro e w4 ⟨rfl, hb4⟩
                      have hbr4 := hbr.trans ((hb3.trans (hb4.mono hb3.size)).mono hbr.size)
                      cases b4
                      · go_wp2_with fail
                        go_roundw
                        case rel => exact ⟨q + 1, by omega, by go_num, hbr4, hnext.out (by rw [HAT.out]; rfl)⟩
                        case measure => simp [intOf]; omega
                      · have HD := Lib.hid (hdone.out (by rw [HAT.out]; rfl))
                        go_wp2_with fail
                        go_ret2
                        rw [HV.out, HD.out.1, HD.out.2]
                        exact RetIntsB.lit rfl (hbw2.trans (hbr4.mono hbw2.size)) [(k : Int), (j : Int), (q : Int)] (by simp)
              · have HN := Lib.hid hno
                clear hno
                go_wp2_with fail
                go_roundw
                case rel => exact ⟨j + 1, by omega, by go_num, hbr, fun y hy => HN.out y (by omega)⟩
                case measure => simp [intOf]; omega
          · have HN := Lib.hid hno
            clear hno
            go_wp2_with fail
            go_roundw
            case rel => exact ⟨k + 1, by omega, by go_num, hbo, fun y hy => HN.out y (by omega)⟩
            case measure => simp [intOf]; omega
      · have HN := Lib.hid (hpost0.out (fun y hy => hno y (by omega)))
        clear hno
        go_wp2_with fail
        go_ret2
        rw [HV.out, HN.out.1, HN.out.2]
        exact RetIntsB.nil (hbw2.trans (hbo.mono hbw2.size))
end Go.Proofs.Ytofcpfabjfhjoaa
namespace Go.Proofs.Ytofcpfabjfhjoaa
set_option linter.unusedVariables false

theorem rowSet_bit {rows : List Nat} (h : Rows4 rows) {T U t u : Nat} (hT : T ≤ 3) : ((rowSet rows T U).getD t 0).testBit u = ((rows.getD t 0).testBit u || (decide (t = T) && decide (u = U))) := by
  unfold rowSet
  simp only [Int.toNat_natCast]
  rw [List.getD_eq_getElem?_getD, List.getElem?_set]
  by_cases e : T = t
  · subst e
    have hl : T < rows.length := by rw [h.1]; omega
    rw [if_pos rfl, if_pos hl]
    simp only [Option.getD_some, Nat.testBit_or, Nat.one_shiftLeft, Nat.testBit_two_pow, decide_true, Bool.true_and]
    congr 1
    exact decide_eq_decide.2 ⟨fun h => h.symm, fun h => h.symm⟩
  · rw [if_neg e, List.getD_eq_getElem?_getD]
    have : ¬ t = T := fun h => e h.symm
    simp [this]
theorem agIn_bit {f : Int → Bool} {T : Nat} (hT : T ≤ 3) {list : List Int} (hl : ∀ u ∈ list, 0 ≤ u ∧ u ≤ 3) {t u : Nat} : ∀ {rows : List Nat}, Rows4 rows → ((agIn f T list rows).getD t 0).testBit u = ((rows.getD t 0).testBit u || (decide (t = T) && (list.any fun x => x == (u : Int) && f x))) := by
  induction list with
  | nil => intro rows h; simp [agIn]
  | cons x r ih =>
    intro rows h
    have hx := hl x (by simp)
    obtain ⟨X, rfl⟩ := Int.eq_ofNat_of_zero_le hx.1
    have e : agIn f T (↑X :: r) rows = agIn f T r (if f X then rowSet rows T X else rows) := rfl
    rw [e]
    cases hf : f X
    · rw [if_neg (by simp), ih (fun u hu => hl u (by simp [hu])) h]
      simp [hf]
    · rw [if_pos rfl, ih (fun u hu => hl u (by simp [hu])) (rowSet_ok h hx), rowSet_bit h hT]
      simp only [List.any_cons, hf, Bool.and_true]
      have : ((X : Int) == (u : Int)) = decide (u = X) := by
        rw [Bool.eq_iff_iff]; simp; omega
      rw [this]
      cases (rows.getD t 0).testBit u <;> cases decide (t = T) <;> cases decide (u = X) <;> simp
/-- Why a bit is set. -/
theorem agTo_bit {g : Nat → OpV → Bool} {f : OpV → Int → Bool} {list : List Int} {s : List OpV} (hl : ∀ u ∈ list, 0 ≤ u ∧ u ≤ 3) (hs : ∀ o ∈ s, 0 ≤ o.tx ∧ o.tx ≤ 3) {t u : Nat} (k : Nat) :
    ((agTo g f list s k).getD t 0).testBit u = true ↔ ∃ j o, j < k ∧ s[j]? = some o ∧ o.tx = t ∧ g j o = true ∧ (u : Int) ∈ list ∧ f o u = true := by
  induction k with
  | zero =>
    constructor
    · intro h
      exfalso
      have : (agTo g f list s 0).getD t 0 = 0 := by
        rcases t with _ | _ | _ | _ | t <;> rfl
      rw [this] at h
      simp at h
    · rintro ⟨j, o, hj, _⟩; omega
  | succ k ih =>
    cases he : s[k]? with
    | none =>
      have : agTo g f list s (k + 1) = agTo g f list s k := by simp only [agTo, he]
      rw [this, ih]
      constructor
      · rintro ⟨j, o, hj, r⟩; exact ⟨j, o, by omega, r⟩
      · rintro ⟨j, o, hj, ho, r⟩
        refine ⟨j, o, ?_, ho, r⟩
        rcases Nat.lt_or_ge j k with h | h
        · exact h
        · have : j = k := by omega
          subst this
          rw [he] at ho; cases ho
    | some o =>
      rw [agTo_succ he]
      have ho := hs o (List.mem_of_getElem? he)
      obtain ⟨t', kd, x⟩ := o
      obtain ⟨T, rfl⟩ := Int.eq_ofNat_of_zero_le ho.1
      simp only at ho
      cases hg : g k ⟨T, kd, x⟩
      · rw [if_neg (by simp), ih]
        constructor
        · rintro ⟨j, q, hj, r⟩; exact ⟨j, q, by omega, r⟩
        · rintro ⟨j, q, hj, hq, h1, h2, r⟩
          refine ⟨j, q, ?_, hq, h1, h2, r⟩
          rcases Nat.lt_or_ge j k with h | h
          · exact h
          · have : j = k := by omega
            subst this
            rw [he] at hq
            injection hq with hq
            subst hq
            rw [hg] at h2; cases h2
      · rw [if_pos rfl, agIn_bit (by omega) hl (agTo_ok hl k), Bool.or_eq_true, ih, Bool.and_eq_true, List.any_eq_true]
        constructor
        · rintro (⟨j, q, hj, r⟩ | ⟨h1, y, hy, h2⟩)
          · exact ⟨j, q, by omega, r⟩
          · simp only [Bool.and_eq_true, beq_iff_eq] at h2
            obtain ⟨rfl, h2⟩ := h2
            exact ⟨k, _, by omega, he, congrArg Int.ofNat (of_decide_eq_true h1).symm, hg, hy, h2⟩
        · rintro ⟨j, q, hj, hq, h1, h2, h3, h4⟩
          rcases Nat.lt_or_ge j k with h | h
          · exact .inl ⟨j, q, h, hq, h1, h2, h3, h4⟩
          · have : j = k := by omega
            subst this
            rw [he] at hq
            injection hq with hq
            subst hq
            simp only at h1
            exact .inr ⟨decide_eq_true (by omega), _, h3, by simp [h4]⟩
theorem ov_eq {s : List OpV} (h : validS s = true) {t u : Int} (ht : t ∈ survS s) (hu : u ∈ survS s) : ovI s t u = ovS s t u := by
  obtain ⟨o, ho, rfl, hk⟩ := surv_commit h ht
  obtain ⟨q, hq, rfl, hk'⟩ := surv_commit h hu
  unfold ovI ovS
  rw [firstI_eq ho, firstI_eq hq, commitI_eq h ho hk, commitI_eq h hq hk']
  congr 1
  · exact decide_eq_decide.2 (by omega)
  · exact decide_eq_decide.2 (by omega)
theorem any_mem {L : List Int} {x : Int} (h : (L.any fun y => y == x) = true) : x ∈ L := by
  rw [List.any_eq_true] at h
  obtain ⟨y, hy, e⟩ := h
  have : y = x := by simpa using e
  subst this; exact hy
/-- A bit tells of two survivors. -/
theorem agS_mem {s : List OpV} (h : validS s = true) {t u : Nat} (hb : ((agS4 s).getD t 0).testBit u = true) : (t : Int) ∈ survS s ∧ (u : Int) ∈ survS s := by
  unfold agS4 at hb
  rw [agTo_bit (survS_rng h) (fun o ho => validS_tx3 h ho)] at hb
  obtain ⟨j, o, _, ho, ht, hg, hu, _⟩ := hb
  unfold gS at hg
  rw [ht] at hg
  simp only [Bool.and_eq_true] at hg
  exact ⟨any_mem hg.1.2, hu⟩
theorem piv_eq {s : List OpV} (h : validS s = true) : pivR (agI4 s) (ovI s) = pivR (agS4 s) (ovS s) := by
  rw [ag_eq h]
  unfold pivR
  congr 1
  funext x
  unfold pivX pivF
  cases h1 : ((agS4 s).getD (x / 16) 0).testBit (x / 4 % 4)
  · simp
  · cases h2 : ((agS4 s).getD (x / 4 % 4) 0).testBit (x % 4)
    · simp
    · obtain ⟨m1, m2⟩ := agS_mem h h1
      obtain ⟨_, m3⟩ := agS_mem h h2
      rw [ov_eq h m1 m2, ov_eq h m2 m3]
theorem pivRes_eq (s : List OpV) : orNil (validS s) (pivL (pivR (agI4 s) (ovI s))) = orNil (validS s) (pivL (pivR (agS4 s) (ovS s))) ∧ (validS s && (pivR (agI4 s) (ovI s)).isSome) = (validS s && (pivR (agS4 s) (ovS s)).isSome) := by
  cases h : validS s
  · exact ⟨rfl, rfl⟩
  · rw [piv_eq h]
    exact ⟨rfl, rfl⟩
end Go.Proofs.Ytofcpfabjfhjoaa
namespace Go.Proofs.Ytofcpfabjfhjoaa
open Go.RowKit
set_option linter.unusedVariables false

theorem orN_true {α : Type} {b : Bool} {xs : List α} (h : b = true) : orNil b xs = xs := by subst h; rfl
theorem orN_false {α : Type} {b : Bool} {xs : List α} (h : b = false) : orNil b xs = [] := by subst h; rfl
def vsOut (m : Int → Int → Bool) (L : List Int) (rows : List Nat) : Nat → List Nat
  | 0 => rows
  | i + 1 => match L[i]? with | some t => agIn (m t) t (L.drop (i + 1)) (vsOut m L rows i) | none => vsOut m L rows i
theorem vsOut_succ {m : Int → Int → Bool} {L : List Int} {rows : List Nat} {i : Nat} {t : Int} (h : L[i]? = some t) : vsOut m L rows (i + 1) = agIn (m t) t (L.drop (i + 1)) (vsOut m L rows i) := by simp only [vsOut, h]
theorem vsOut_ok {m : Int → Int → Bool} {L : List Int} {rows : List Nat} (hl : ∀ u ∈ L, 0 ≤ u ∧ u ≤ 3) (h : Rows4 rows) (i : Nat) : Rows4 (vsOut m L rows i) := by
  induction i with
  | zero => exact h
  | succ i ih =>
    simp only [vsOut]
    split
    · exact agIn_ok (fun u hu => hl u (List.mem_of_mem_drop hu)) ih
    · exact ih
def vgS (s : List OpV) : List Nat := vgTo (verS s (survS s)) (survS s) s (vsOut (meetsB s) (survS s) (agS4 s) (survS s).length) s.length

theorem agIn_none {f : Int → Bool} {t : Int} {list : List Int} (h : ∀ u ∈ list, f u = false) (rows : List Nat) : agIn f t list rows = rows := by
  unfold agIn
  induction list with
  | nil => rfl
  | cons x r ih =>
    rw [List.foldl_cons, h x (by simp)]
    exact ih (fun u hu => h u (by simp [hu]))
theorem idxZ_at {L : List Int} (hd : L.Nodup) {i : Nat} {t : Int} (h : L[i]? = some t) : idxZ L t = (i : Int) := by
  refine idxZ_hit h (by simp) fun j hj y hy => ?_
  rw [beq_eq_false_iff_ne]
  intro e
  subst e
  have h1 := List.getElem?_eq_some_iff.1 h
  have h2 := List.getElem?_eq_some_iff.1 hy
  obtain ⟨a, ha⟩ := h1
  obtain ⟨b, hb⟩ := h2
  have := (List.pairwise_iff_getElem.1 hd) j i b a hj
  rw [ha, hb] at this
  exact this rfl
theorem fB_low {s : List OpV} {L : List Int} (hd : L.Nodup) {i : Nat} {t u : Int} (h : L[i]? = some t) (hu : u ∈ L.take (i + 1)) : fB s L t u = false := by
  obtain ⟨j, hj⟩ := List.getElem?_of_mem hu
  rw [List.getElem?_take] at hj
  split at hj
  · unfold fB behB
    rw [idxZ_at hd h, idxZ_at hd hj]
    have : decide ((i : Int) < (j : Int)) = false := decide_eq_false (by omega)
    rw [this, Bool.false_and]
  · cases hj
theorem fB_high {s : List OpV} (hi : itemsOk s) {L : List Int} (hd : L.Nodup) {i : Nat} {t u : Int} (h : L[i]? = some t) (hu : u ∈ L.drop (i + 1)) : fB s L t u = meetsB s t u := by
  obtain ⟨j, hj⟩ := List.getElem?_of_mem hu
  rw [List.getElem?_drop] at hj
  unfold fB behB
  rw [idxZ_at hd h, idxZ_at hd hj]
  have : decide ((i : Int) < ((i + 1 + j : Nat) : Int)) = true := decide_eq_true (by omega)
  rw [this, Bool.true_and, ← meets_eq hi t u, Nat.and_comm]
theorem vsOut_eq {s : List OpV} (hi : itemsOk s) {L : List Int} (hd : L.Nodup) (rows : List Nat) (i : Nat) (h : i ≤ L.length) : vgOut (fB s L) L (L.take i) rows = vsOut (meetsB s) L rows i := by
  induction i with
  | zero => simp [vgOut, vsOut]
  | succ i ih =>
    have ht : L[i]? = some L[i] := List.getElem?_eq_getElem (by omega)
    rw [vgOut_snoc ht, vsOut_succ ht, ih (by omega)]
    have e : L = L.take (i + 1) ++ L.drop (i + 1) := (List.take_append_drop _ _).symm
    have e2 : ∀ R, agIn (fB s L L[i]) L[i] L R = agIn (fB s L L[i]) L[i] (L.drop (i + 1)) (agIn (fB s L L[i]) L[i] (L.take (i + 1)) R) := by
      intro R
      unfold agIn
      rw [← List.foldl_append, List.take_append_drop]
    rw [e2, agIn_none (fun u hu => fB_low hd ht hu), agIn_congr (fun u hu => fB_high hi hd ht hu)]
theorem vgTo_congr {f g : Nat → OpV → Int} {L : List Int} {s : List OpV} (h : ∀ k o, s[k]? = some o → f k o = g k o) (rows : List Nat) (k : Nat) : vgTo f L s rows k = vgTo g L s rows k := by
  induction k with
  | zero => rfl
  | succ k ih =>
    simp only [vgTo]
    cases e : s[k]? with
    | none => exact ih
    | some o => simp only [vgStep, ih, h k o e]
theorem vg_eq {s : List OpV} (h : validS s = true) : vgI s = vgS s := by
  unfold vgI vgS
  rw [surv_eq h, ag_eq h, ← vsOut_eq (validS_items h) (surv_known h).2 _ _ (Nat.le_refl _), List.take_length]
  exact vgTo_congr (fun k o ho => ver_eq h ho) _ _
end Go.Proofs.Ytofcpfabjfhjoaa
namespace Go.Proofs.Ytofcpfabjfhjoaa
open Go.RowKit
set_option linter.unusedVariables false

theorem stampN_le {s : List OpV} {j : Nat} {o : OpV} (h : s[j]? = some o) : stampN s o.tx ≤ j := by
  rcases Nat.lt_or_ge j (stampN s o.tx) with hlt | hge
  · have := List.not_of_lt_findIdx (p := fun x : OpV => x.tx == o.tx) hlt
    rw [(List.getElem?_eq_some_iff.1 h).2] at this
    simp at this
  · exact hge
theorem commitN_le {s : List OpV} {j : Nat} {o : OpV} (h : s[j]? = some o) (hk : o.kind = 2) : commitN s o.tx ≤ j := by
  rcases Nat.lt_or_ge j (commitN s o.tx) with hlt | hge
  · have := List.not_of_lt_findIdx (p := fun x : OpV => x.tx == o.tx && x.kind == 2) hlt
    rw [(List.getElem?_eq_some_iff.1 h).2] at this
    simp [hk] at this
  · exact hge
theorem commitN_eq {s : List OpV} (h : validS s = true) {j : Nat} {o : OpV} (ho : s[j]? = some o) (hk : o.kind = 2) : commitN s o.tx = j := by
  have h1 := commitN_le ho hk
  obtain ⟨q, hq, ht, hqk⟩ := commitN_at (List.mem_of_getElem? ho) hk
  have := validS_after h hq ho (isEnd_two hqk) ht
  omega
/-- In a serial schedule: if t begins ahead of one operation of u, all of t stands ahead of all of u. -/
theorem ser_before {s : List OpV} (hs : isSer s = true) {t : Int} (ht : ∃ o ∈ s, o.tx = t) {j : Nat} {q : OpV} (hq : s[j]? = some q) (htu : t ≠ q.tx) (h : stampN s t < j) :
    stampN s t < stampN s q.tx ∧ ∀ i p, s[i]? = some p → p.tx = t → i < stampN s q.tx := by
  obtain ⟨o, ho, rfl⟩ := ht
  obtain ⟨o1, h1, e1⟩ := stampN_at ho
  obtain ⟨q1, h2, e2⟩ := stampN_at (List.mem_of_getElem? hq)
  have hlt : stampN s o.tx < stampN s q.tx := by
    rcases Nat.lt_trichotomy (stampN s o.tx) (stampN s q.tx) with a | a | a
    · exact a
    · exfalso
      rw [a, h2] at h1
      injection h1 with h1
      exact htu (by rw [← e1, ← e2, h1])
    · exfalso
      have := ser_between hs h2 hq e2 (stampN s o.tx) o1 (by omega) (by omega) h1
      exact htu (by rw [← e1, this, e2])
  refine ⟨hlt, fun i p hp hpt => ?_⟩
  rcases Nat.lt_or_ge i (stampN s q.tx) with a | a
  · exact a
  · exfalso
    have := ser_between hs h1 hp (by rw [e1, hpt]) (stampN s q.tx) q1 (by omega) a h2
    exact htu (by rw [← e1, ← this, e2])
theorem ag_edge {s : List OpV} (h : validS s = true) {t u : Nat} (hb : ((agS4 s).getD t 0).testBit u = true) : t ≠ u ∧ (t : Int) ∈ survS s ∧ (u : Int) ∈ survS s ∧ stampN s t < commitN s u := by
  obtain ⟨m1, m2⟩ := agS_mem h hb
  unfold agS4 at hb
  rw [agTo_bit (survS_rng h) (fun o ho => validS_tx3 h ho)] at hb
  obtain ⟨j, o, _, ho, ht, hg, hu, hf⟩ := hb
  unfold fT at hf
  simp only [Bool.and_eq_true, bne_iff_ne, decide_eq_true_eq] at hf
  refine ⟨fun e => hf.1.1 ?_, m1, m2, ?_⟩
  · rw [ht, e]
  · rw [← ht]; exact hf.1.2
theorem ser_edge {s : List OpV} (h : validS s = true) (hs : isSer s = true) {t u : Int} (hne : t ≠ u) (ht : t ∈ survS s) (hu : u ∈ survS s) (hlt : stampN s t < commitN s u) :
    stampN s t < stampN s u ∧ commitN s t < stampN s u ∧ commitN s t < commitN s u := by
  obtain ⟨o, ho, rfl, hk⟩ := surv_commit h ht
  obtain ⟨q, hq, rfl, hkq⟩ := surv_commit h hu
  obtain ⟨o1, h1, e1, _⟩ := commitN_at ho hk
  obtain ⟨q1, h2, e2, _⟩ := commitN_at hq hkq
  have := ser_before hs ⟨o, ho, rfl⟩ h2 (by rw [e2]; exact hne) hlt
  rw [e2] at this
  have h3 := this.2 _ _ h1 e1
  have h4 := stampN_le h2
  rw [e2] at h4
  exact ⟨this.1, h3, by omega⟩
/-- A pivot is none in a serial schedule. -/
theorem piv_ser {s : List OpV} (h : validS s = true) (hs : isSer s = true) : pivR (agS4 s) (ovS s) = none := by
  refine pivR_none fun x hx => ?_
  unfold pivX pivF
  cases h1 : ((agS4 s).getD (x / 16) 0).testBit (x / 4 % 4)
  · simp
  · obtain ⟨hne, m1, m2, hlt⟩ := ag_edge h h1
    have h3 := ser_edge (t := ((x / 16 : Nat) : Int)) (u := ((x / 4 % 4 : Nat) : Int)) h hs (fun e => hne (by omega)) m1 m2 hlt
    have : ovS s ((x / 16 : Nat) : Int) ((x / 4 % 4 : Nat) : Int) = false := by
      unfold ovS
      rw [Bool.and_eq_false_iff]
      right
      exact decide_eq_false (by omega)
    rw [this]
    simp only [Bool.and_false, Bool.false_and]

/-- The stamps: each transaction at its first operation. -/
def stTo (s : List OpV) : Nat → List Int
  | 0 => []
  | k + 1 => match s[k]? with | some o => if ((stTo s k).any fun y => y == o.tx) then stTo s k else stTo s k ++ [o.tx] | none => stTo s k
theorem stTo_succ {s : List OpV} {k : Nat} {o : OpV} (h : s[k]? = some o) : stTo s (k + 1) = if ((stTo s k).any fun y => y == o.tx) then stTo s k else stTo s k ++ [o.tx] := by simp only [stTo, h]
def stI (s : List OpV) : List Int := stTo s s.length
theorem any_eq_iff {L : List Int} {x : Int} : (L.any fun y => y == x) = true ↔ x ∈ L := by
  rw [List.any_eq_true]
  constructor
  · rintro ⟨y, hy, e⟩
    have : y = x := by simpa using e
    subst this; exact hy
  · intro h; exact ⟨x, h, by simp⟩
theorem stTo_known {s : List OpV} (k : Nat) (hk : k ≤ s.length) : (∀ t, t ∈ stTo s k ↔ ∃ j o, j < k ∧ s[j]? = some o ∧ o.tx = t) ∧ (stTo s k).Pairwise (fun a b => stampN s a < stampN s b) := by
  induction k with
  | zero => exact ⟨by simp [stTo], by simp [stTo]⟩
  | succ k ih =>
    obtain ⟨i1, i2⟩ := ih (by omega)
    have e : s[k]? = some (s[k]'(by omega)) := List.getElem?_eq_getElem (by omega)
    rw [stTo_succ e]
    generalize s[k]'(by omega) = o at *
    by_cases hm : o.tx ∈ stTo s k
    · rw [if_pos (any_eq_iff.2 hm)]
      refine ⟨fun t => ?_, i2⟩
      rw [i1]
      constructor
      · rintro ⟨j, p, hj, r⟩; exact ⟨j, p, by omega, r⟩
      · rintro ⟨j, p, hj, hp, rfl⟩
        by_cases hjk : j = k
        · subst hjk
          rw [e] at hp; injection hp with hp; subst hp
          exact (i1 _).1 hm
        · exact ⟨j, p, by omega, hp, rfl⟩
    · rw [if_neg (fun h => hm (any_eq_iff.1 h))]
      refine ⟨fun t => ?_, ?_⟩
      · rw [List.mem_append, i1, List.mem_singleton]
        constructor
        · rintro (⟨j, p, hj, r⟩ | rfl)
          · exact ⟨j, p, by omega, r⟩
          · exact ⟨k, o, by omega, e, rfl⟩
        · rintro ⟨j, p, hj, hp, rfl⟩
          by_cases hjk : j = k
          · subst hjk
            rw [e] at hp; injection hp with hp; subst hp
            exact .inr rfl
          · exact .inl ⟨j, p, by omega, hp, rfl⟩
      · rw [List.pairwise_append]
        refine ⟨i2, by simp, ?_⟩
        intro a ha b hb
        rw [List.mem_singleton] at hb
        subst hb
        obtain ⟨j, p, hj, hp, rfl⟩ := (i1 a).1 ha
        have h1 := stampN_le hp
        have h2 : k ≤ stampN s o.tx := by
          rcases Nat.lt_or_ge (stampN s o.tx) k with hlt | hge
          · exfalso
            obtain ⟨q, hq, hqt⟩ := stampN_at (List.mem_of_getElem? e)
            exact hm ((i1 _).2 ⟨_, q, hlt, hq, hqt⟩)
          · exact hge
        omega
theorem mem_stI {s : List OpV} {t : Int} : t ∈ stI s ↔ ∃ o ∈ s, o.tx = t := by
  unfold stI
  rw [(stTo_known _ (Nat.le_refl _)).1]
  constructor
  · rintro ⟨j, o, _, ho, e⟩; exact ⟨o, List.mem_of_getElem? ho, e⟩
  · rintro ⟨o, ho, e⟩
    obtain ⟨j, hj⟩ := List.mem_iff_getElem?.1 ho
    exact ⟨j, o, (List.getElem?_eq_some_iff.1 hj).1, hj, e⟩
theorem stI_sorted (s : List OpV) : (stI s).Pairwise (fun a b => stampN s a < stampN s b) := (stTo_known _ (Nat.le_refl _)).2
/-- What is left of a sorted list if two of it are kept. -/
theorem filter_one {f : Int → Nat} {u : Int} : ∀ {l : List Int}, l.Pairwise (fun a b => f a < f b) → u ∈ l → l.filter (fun x => x == u) = [u] := by
  intro l
  induction l with
  | nil => intro _ h; cases h
  | cons x r ih =>
    intro hp hu
    rw [List.pairwise_cons] at hp
    by_cases hx : x = u
    · subst hx
      rw [List.filter_cons_of_pos (by simp)]
      congr 1
      rw [List.filter_eq_nil_iff]
      intro y hy e
      have : y = x := by simpa using e
      subst this
      have := hp.1 y hy
      omega
    · rw [List.filter_cons_of_neg (by simpa using hx)]
      refine ih hp.2 ?_
      rcases List.mem_cons.1 hu with h | h
      · exact absurd h.symm hx
      · exact h
theorem filter_two {f : Int → Nat} {t u : Int} (htu : f t < f u) : ∀ {l : List Int}, l.Pairwise (fun a b => f a < f b) → t ∈ l → u ∈ l → l.filter (fun x => x == t || x == u) = [t, u] := by
  intro l
  induction l with
  | nil => intro _ h; cases h
  | cons x r ih =>
    intro hp ht hu
    rw [List.pairwise_cons] at hp
    have hne : t ≠ u := fun e => by rw [e] at htu; omega
    by_cases hx : x = t
    · subst hx
      rw [List.filter_cons_of_pos (by simp)]
      congr 1
      have hur : u ∈ r := by
        rcases List.mem_cons.1 hu with h | h
        · exact absurd h.symm hne
        · exact h
      rw [← filter_one hp.2 hur]
      refine List.filter_congr fun y hy => ?_
      have h1 := hp.1 y hy
      have : (y == x) = false := by
        rw [beq_eq_false_iff_ne]
        intro e
        rw [e] at h1; omega
      rw [this, Bool.false_or]
    · have htr : t ∈ r := by
        rcases List.mem_cons.1 ht with h | h
        · exact absurd h.symm hx
        · exact h
      have hxu : x ≠ u := fun e => by
        have := hp.1 t htr
        rw [e] at this; omega
      rw [List.filter_cons_of_neg (by simp [hx, hxu])]
      refine ih hp.2 htr ?_
      rcases List.mem_cons.1 hu with h | h
      · exact absurd h.symm hxu
      · exact h
end Go.Proofs.Ytofcpfabjfhjoaa
namespace Go.Proofs.Ytofcpfabjfhjoaa
open Go.RowKit
set_option linter.unusedVariables false

def rcOwn (s : List OpV) (i : Nat) (t : Int) : List OpV := (s.take i).filter fun p => p.tx == t
def rcWrites (s : List OpV) (i : Nat) (t : Int) : List OpV := (s.take i).filter fun p => p.tx == t && p.kind == 1
def rcBad (s C : List OpV) (i : Nat) (o : OpV) : Bool := C.any fun c => [(0 : Int), 1, 2].any fun x => decide ((stampN s o.tx : Int) < c.item) && touchB s i o.tx 0 x && touchB s c.item.toNat c.tx 1 x
def rcStep (s : List OpV) (i : Nat) (o : OpV) (st : List OpV × List Int × List OpV) : List OpV × List Int × List OpV :=
  if o.kind == 0 || o.kind == 3 then (st.1 ++ [o], st.2.1, st.2.2)
  else if o.kind == 2 then
    if rcBad s st.2.2 i o then (st.1 ++ [⟨o.tx, 3, 0⟩], st.2.1 ++ [o.tx], st.2.2)
    else (st.1 ++ rcWrites s i o.tx ++ [o], st.2.1, st.2.2 ++ [⟨o.tx, 0, (i : Int)⟩])
  else st
def rcTo (s : List OpV) : Nat → List OpV × List Int × List OpV
  | 0 => ([], [], [])
  | k + 1 => match s[k]? with | some o => rcStep s k o (rcTo s k) | none => rcTo s k
theorem rcTo_succ {s : List OpV} {k : Nat} {o : OpV} (h : s[k]? = some o) : rcTo s (k + 1) = rcStep s k o (rcTo s k) := by simp only [rcTo, h]
def rcWr (W : List Int) (i : Nat) (own : List OpV) : List Int := own.foldl (fun W p => if p.kind == 1 then W.set p.item.toNat (i : Int) else W) W
theorem rcWr_snoc {W : List Int} {i : Nat} {own : List OpV} {q : Nat} {p : OpV} (h : own[q]? = some p) : rcWr W i (own.take (q + 1)) = if p.kind == 1 then (rcWr W i (own.take q)).set p.item.toNat (i : Int) else rcWr W i (own.take q) := by
  unfold rcWr
  rw [take_snoc h, List.foldl_append]; rfl
theorem rcWr_len (W : List Int) (i : Nat) (own : List OpV) : (rcWr W i own).length = W.length := by
  unfold rcWr
  induction own generalizing W with
  | nil => rfl
  | cons p r ih =>
    rw [List.foldl_cons, ih]
    split
    · rw [List.length_set]
    · rfl
def riBad (s : List OpV) (W : List Int) (i : Nat) (o : OpV) : Bool := (rcOwn s i o.tx).any fun p => p.kind == 0 && decide (firstI s o.tx < W.getD p.item.toNat 0)
def riStep (s : List OpV) (i : Nat) (o : OpV) (st : List OpV × List Int × List Int) : List OpV × List Int × List Int :=
  if o.kind == 0 || o.kind == 3 then (st.1 ++ [o], st.2.1, st.2.2)
  else if o.kind == 1 then st
  else if riBad s st.2.2 i o then (st.1 ++ [⟨o.tx, 3, 0⟩], st.2.1 ++ [o.tx], st.2.2)
  else (st.1 ++ (rcOwn s i o.tx).filter (fun p => p.kind == 1) ++ [o], st.2.1, rcWr st.2.2 i (rcOwn s i o.tx))
def riTo (s : List OpV) : Nat → List OpV × List Int × List Int
  | 0 => ([], [], [-1, -1, -1])
  | k + 1 => match s[k]? with | some o => riStep s k o (riTo s k) | none => riTo s k
theorem riTo_succ {s : List OpV} {k : Nat} {o : OpV} (h : s[k]? = some o) : riTo s (k + 1) = riStep s k o (riTo s k) := by simp only [riTo, h]
theorem riTo_len (s : List OpV) (k : Nat) : (riTo s k).2.2.length = 3 := by
  induction k with
  | zero => rfl
  | succ k ih =>
    simp only [riTo]
    cases s[k]? with
    | none => exact ih
    | some o =>
      simp only [riStep]
      split
      · exact ih
      · split
        · exact ih
        · split
          · exact ih
          · simp only [rcWr_len]; exact ih

theorem rcWrites_eq (s : List OpV) (i : Nat) (t : Int) : (rcOwn s i t).filter (fun p => p.kind == 1) = rcWrites s i t := by
  unfold rcOwn rcWrites
  rw [List.filter_filter]
  refine List.filter_congr fun p _ => ?_
  exact Bool.and_comm _ _
theorem getD_setI {W : List Int} {i j : Nat} {v : Int} (hi : i < W.length) : (W.set i v).getD j 0 = if i = j then v else W.getD j 0 := by
  rw [List.getD_eq_getElem?_getD, List.getElem?_set, List.getD_eq_getElem?_getD]
  split
  · rename_i e; subst e; first | rfl | (rw [if_pos hi]; rfl)
  · rfl
/-- What the places of the last writes are behind one transaction more. -/
theorem rcWr_get {W : List Int} {i : Nat} {own : List OpV} (hW : W.length = 3) (hi : ∀ p ∈ own, 0 ≤ p.item ∧ p.item ≤ 2) {x : Nat} (hx : x < 3) :
    (rcWr W i own).getD x 0 = if (own.any fun p => p.kind == 1 && p.item == (x : Int)) then (i : Int) else W.getD x 0 := by
  induction own generalizing W with
  | nil => rfl
  | cons p r ih =>
    have hp := hi p (by simp)
    have hr : ∀ q ∈ r, 0 ≤ q.item ∧ q.item ≤ 2 := fun q hq => hi q (by simp [hq])
    have e : rcWr W i (p :: r) = rcWr (if p.kind == 1 then W.set p.item.toNat (i : Int) else W) i r := rfl
    rw [e, ih (by split; · rw [List.length_set]; exact hW
                  · exact hW) hr, List.any_cons]
    cases hk : (p.kind == 1)
    · simp
    · obtain ⟨P, hP⟩ := Int.eq_ofNat_of_zero_le hp.1
      rw [hP]
      simp only [Bool.true_and, if_true, Int.toNat_natCast]
      rw [getD_setI (by omega)]
      cases ha : (r.any fun p => p.kind == 1 && p.item == (x : Int))
      · simp only [Bool.or_false]
        by_cases hPx : P = x
        · subst hPx; simp
        · have : ((P : Int) == (x : Int)) = false := by rw [beq_eq_false_iff_ne]; omega
          rw [this, if_neg hPx]; first | done | simp
      · simp
theorem touch_own {s : List OpV} {i : Nat} {t k x : Int} : touchB s i t k x = (rcOwn s i t).any fun p => p.kind == k && p.item == x := by
  unfold touchB rcOwn
  rw [List.any_filter]
  congr 1
  funext p
  rw [Bool.and_assoc]

def WInv (s C : List OpV) (W : List Int) (k : Nat) : Prop :=
  (∀ c ∈ C, ∃ j : Nat, j < k ∧ c.item = (j : Int)) ∧ ∀ x, x < 3 → ∀ z : Nat, ((z : Int) < W.getD x 0 ↔ ∃ c ∈ C, (z : Int) < c.item ∧ touchB s c.item.toNat c.tx 1 (x : Int) = true)
theorem WInv.next {s C : List OpV} {W : List Int} {k : Nat} (h : WInv s C W k) : WInv s C W (k + 1) :=
  ⟨fun c hc => by obtain ⟨j, hj, e⟩ := h.1 c hc; exact ⟨j, by omega, e⟩, h.2⟩
theorem rcOwn_item {s : List OpV} (h : validS s = true) (i : Nat) (t : Int) : ∀ p ∈ rcOwn s i t, 0 ≤ p.item ∧ p.item ≤ 2 := by
  intro p hp
  exact validS_item h (List.mem_of_mem_take (List.mem_filter.1 hp).1)
theorem bad_eq {s C : List OpV} {W : List Int} {k : Nat} (h : validS s = true) (hw : WInv s C W k) {o : OpV} (ho : s[k]? = some o) : riBad s W k o = rcBad s C k o := by
  unfold riBad rcBad
  rw [firstI_eq (List.mem_of_getElem? ho), Bool.eq_iff_iff, List.any_eq_true, List.any_eq_true]
  constructor
  · rintro ⟨p, hp, e⟩
    simp only [Bool.and_eq_true, beq_iff_eq, decide_eq_true_eq] at e
    have hi := rcOwn_item h k o.tx p hp
    obtain ⟨P, hP⟩ := Int.eq_ofNat_of_zero_le hi.1
    rw [hP, Int.toNat_natCast] at e
    obtain ⟨c, hc, h1, h2⟩ := (hw.2 P (by omega) _).1 e.2
    refine ⟨c, hc, List.any_eq_true.2 ⟨(P : Int), ?_, ?_⟩⟩
    · rcases (by omega : P = 0 ∨ P = 1 ∨ P = 2) with rfl | rfl | rfl <;> simp
    · have ht : touchB s k o.tx 0 (P : Int) = true := by
        rw [touch_own, List.any_eq_true]
        exact ⟨p, hp, by simp [e.1, hP]⟩
      simp [h1, h2, ht]
  · rintro ⟨c, hc, e⟩
    rw [List.any_eq_true] at e
    obtain ⟨x, hx, e⟩ := e
    simp only [Bool.and_eq_true, decide_eq_true_eq] at e
    obtain ⟨⟨e1, e2⟩, e3⟩ := e
    obtain ⟨P, hP3, rfl⟩ : ∃ P : Nat, P < 3 ∧ x = (P : Int) := by
      simp only [List.mem_cons, List.not_mem_nil, or_false] at hx
      rcases hx with rfl | rfl | rfl
      · exact ⟨0, by omega, rfl⟩
      · exact ⟨1, by omega, rfl⟩
      · exact ⟨2, by omega, rfl⟩
    rw [touch_own, List.any_eq_true] at e2
    obtain ⟨p, hp, e2⟩ := e2
    simp only [Bool.and_eq_true, beq_iff_eq] at e2
    refine ⟨p, hp, ?_⟩
    simp only [Bool.and_eq_true, beq_iff_eq, decide_eq_true_eq]
    refine ⟨e2.1, ?_⟩
    rw [e2.2, Int.toNat_natCast]
    exact (hw.2 P hP3 _).2 ⟨c, hc, e1, e3⟩
theorem rc_eq {s : List OpV} (h : validS s = true) (k : Nat) (hk : k ≤ s.length) : (riTo s k).1 = (rcTo s k).1 ∧ (riTo s k).2.1 = (rcTo s k).2.1 ∧ WInv s (rcTo s k).2.2 (riTo s k).2.2 k := by
  induction k with
  | zero =>
    refine ⟨rfl, rfl, fun c hc => (by cases hc), fun x hx z => ?_⟩
    constructor
    · intro hz
      exfalso
      have : ([-1, -1, -1] : List Int).getD x 0 = -1 := by
        rcases (by omega : x = 0 ∨ x = 1 ∨ x = 2) with rfl | rfl | rfl <;> rfl
      simp only [riTo] at hz
      rw [this] at hz
      omega
    · rintro ⟨c, hc, _⟩; cases hc
  | succ k ih =>
    obtain ⟨i1, i2, i3⟩ := ih (by omega)
    have e : s[k]? = some (s[k]'(by omega)) := List.getElem?_eq_getElem (by omega)
    rw [riTo_succ e, rcTo_succ e]
    generalize s[k]'(by omega) = o at *
    have hlen := riTo_len s k
    generalize riTo s k = I at *
    generalize rcTo s k = S at *
    obtain ⟨I1, I2, I3⟩ := I
    obtain ⟨S1, S2, S3⟩ := S
    simp only at i1 i2 i3 hlen
    subst i1; subst i2
    have hbad := bad_eq h i3 e
    unfold riStep rcStep
    simp only
    rw [hbad, rcWrites_eq]
    cases h03 : (o.kind == 0 || o.kind == 3)
    · cases h1 : (o.kind == 1)
      · have h2 : (o.kind == 2) = true := by
          have hv := ((validS_iff s).1 h).2.1 o (List.mem_of_getElem? e)
          unfold validOp isAcc isEnd at hv
          simp only [Bool.or_eq_false_iff] at h03
          rw [h03.1, h03.2, h1] at hv
          simp only [Bool.or_false, Bool.false_and, Bool.false_or, Bool.and_eq_true] at hv
          exact hv.2.1
        rw [h2]
        cases hb : rcBad s S3 k o
        · simp only [Bool.false_eq_true, if_false, if_true]
          refine ⟨trivial, trivial, fun c hc => ?_, fun x hx z => ?_⟩
          · rcases List.mem_append.1 hc with hc | hc
            · obtain ⟨j, hj, e⟩ := i3.1 c hc; exact ⟨j, by omega, e⟩
            · rw [List.mem_singleton] at hc; subst hc; exact ⟨k, by omega, rfl⟩
          · rw [rcWr_get hlen (rcOwn_item h k o.tx) hx, ← touch_own]
            constructor
            · intro hz
              split at hz
              · rename_i ht
                exact ⟨_, List.mem_append_right _ (List.mem_singleton.2 rfl), hz, by simpa using ht⟩
              · obtain ⟨c, hc, r⟩ := (i3.2 x hx z).1 hz
                exact ⟨c, List.mem_append_left _ hc, r⟩
            · rintro ⟨c, hc, h1, h2⟩
              rcases List.mem_append.1 hc with hc | hc
              · split
                · obtain ⟨j, hj, e⟩ := i3.1 c hc
                  rw [e] at h1; omega
                · exact (i3.2 x hx z).2 ⟨c, hc, h1, h2⟩
              · rw [List.mem_singleton] at hc; subst hc
                simp only [Int.toNat_natCast] at h2
                rw [h2, if_pos rfl]; exact h1
        · simp only [Bool.false_eq_true, if_false, if_true]
          exact ⟨trivial, trivial, i3.next⟩
      · have h2 : (o.kind == 2) = false := by
          have : o.kind = 1 := by simpa using h1
          rw [this]; rfl
        rw [h2]
        simp only [Bool.false_eq_true, if_false, if_true]
        exact ⟨trivial, trivial, i3.next⟩
    · simp only [if_true]
      exact ⟨trivial, trivial, i3.next⟩
/-- Whether a schedule is run. -/
def runB (s : List OpV) : Bool := validS s && decide (s.length ≤ 12)
theorem runChecks_eq (s : List OpV) : orNil (runB s) (riTo s s.length).1 = orNil (runB s) (rcTo s s.length).1 ∧ orNil (runB s) (riTo s s.length).2.1 = orNil (runB s) (rcTo s s.length).2.1 := by
  cases h : validS s
  · unfold runB; rw [h]; exact ⟨rfl, rfl⟩
  · have := rc_eq h s.length (Nat.le_refl _)
    rw [this.1, this.2.1]; exact ⟨rfl, rfl⟩
end Go.Proofs.Ytofcpfabjfhjoaa
namespace Go.Proofs.Ytofcpfabjfhjoaa
open Go.RowKit
set_option linter.unusedVariables false

def confB (a b : OpV) : Bool := a.tx != b.tx && isAcc a && isAcc b && a.item == b.item && (a.kind == 1 || b.kind == 1)

/-- What is done, each with the place of the schedule at which it is done. -/
def rcBlock (s : List OpV) (C : List OpV) (i : Nat) (o : OpV) : List OpV :=
  if o.kind == 0 || o.kind == 3 then [o] else if o.kind == 2 then if rcBad s C i o then [⟨o.tx, 3, 0⟩] else rcWrites s i o.tx ++ [o] else []
def rcTag (s : List OpV) : Nat → List (Nat × OpV)
  | 0 => []
  | k + 1 => match s[k]? with | some o => rcTag s k ++ (rcBlock s (rcTo s k).2.2 k o).map (fun p => (k, p)) | none => rcTag s k
theorem rcTag_succ {s : List OpV} {k : Nat} {o : OpV} (h : s[k]? = some o) : rcTag s (k + 1) = rcTag s k ++ (rcBlock s (rcTo s k).2.2 k o).map (fun p => (k, p)) := by simp only [rcTag, h]
theorem rcTo_block {s : List OpV} {k : Nat} {o : OpV} (h : s[k]? = some o) : (rcTo s (k + 1)).1 = (rcTo s k).1 ++ rcBlock s (rcTo s k).2.2 k o := by
  rw [rcTo_succ h]
  unfold rcStep rcBlock
  split
  · rfl
  · split
    · split
      · rfl
      · rw [List.append_assoc]
    · rw [List.append_nil]
theorem rcTag_snd (s : List OpV) (k : Nat) : (rcTag s k).map Prod.snd = (rcTo s k).1 := by
  induction k with
  | zero => rfl
  | succ k ih =>
    cases e : s[k]? with
    | none => simp only [rcTag, rcTo, e]; exact ih
    | some o =>
      rw [rcTag_succ e, rcTo_block e, List.map_append, ih, List.map_map]
      congr 1
      simp [Function.comp_def]
theorem block_tx {s C : List OpV} {i : Nat} {o p : OpV} (h : p ∈ rcBlock s C i o) : p.tx = o.tx := by
  unfold rcBlock at h
  split at h
  · rw [List.mem_singleton] at h; rw [h]
  · split at h
    · split at h
      · rw [List.mem_singleton] at h; rw [h]
      · rcases List.mem_append.1 h with h | h
        · have := (List.mem_filter.1 h).2
          simp only [Bool.and_eq_true, beq_iff_eq] at this
          exact this.1
        · rw [List.mem_singleton] at h; rw [h]
    · cases h
/-- What the tags say. -/
structure TagInv (s : List OpV) (k : Nat) (E : List (Nat × OpV)) (K : List Int) (C : List OpV) : Prop where
  lt : ∀ e ∈ E, e.1 < k
  time : E.Pairwise (fun a b => a.1 ≤ b.1)
  same : ∀ e ∈ E, ∃ o, s[e.1]? = some o ∧ o.tx = e.2.tx
  rd : ∀ e ∈ E, e.2.kind = 0 → s[e.1]? = some e.2
  wr : ∀ e ∈ E, e.2.kind = 1 → (∃ c ∈ C, c.item = (e.1 : Int) ∧ c.tx = e.2.tx) ∧ touchB s e.1 e.2.tx 1 e.2.item = true ∧ ∃ o, s[e.1]? = some o ∧ o.kind = 2
  en : ∀ e ∈ E, isEnd e.2 = true → ∃ o, s[e.1]? = some o ∧ isEnd o = true
  ok : ∀ e ∈ E, validOp e.2 = true
  dead : ∀ t ∈ K, ∃ e ∈ E, e.2 = ⟨t, 3, 0⟩
  com : ∀ c ∈ C, ∃ (j : Nat) (o : OpV), c.item = (j : Int) ∧ s[j]? = some o ∧ o.kind = 2 ∧ o.tx = c.tx
theorem tagInv {s : List OpV} (h : validS s = true) (k : Nat) (hk : k ≤ s.length) : TagInv s k (rcTag s k) (rcTo s k).2.1 (rcTo s k).2.2 := by
  induction k with
  | zero => exact ⟨fun e he => (by cases he), by simp [rcTag], fun e he => (by cases he), fun e he => (by cases he), fun e he => (by cases he), fun e he => (by cases he), fun e he => (by cases he), fun e he => (by cases he), fun e he => (by cases he)⟩
  | succ k ih =>
    have hi := ih (by omega)
    have e : s[k]? = some (s[k]'(by omega)) := List.getElem?_eq_getElem (by omega)
    have hbl := rcTag_succ e
    generalize s[k]'(by omega) = o at *
    rw [hbl]
    have hov := ((validS_iff s).1 h).2.1 o (List.mem_of_getElem? e)
    -- what each of the block is
    have hmem : ∀ x ∈ (rcBlock s (rcTo s k).2.2 k o).map (fun p => (k, p)), x.1 = k ∧ x.2 ∈ rcBlock s (rcTo s k).2.2 k o := by
      intro x hx
      obtain ⟨p, hp, rfl⟩ := List.mem_map.1 hx
      exact ⟨rfl, hp⟩
    have hCsub : ∀ c ∈ (rcTo s k).2.2, c ∈ (rcTo s (k + 1)).2.2 := by
      intro c hc
      rw [rcTo_succ e]
      unfold rcStep
      split
      · exact hc
      · split
        · split
          · exact hc
          · exact List.mem_append_left _ hc
        · exact hc
    have hblk : ∀ p ∈ rcBlock s (rcTo s k).2.2 k o, (p = o ∧ o.kind ≠ 1) ∨ (p = ⟨o.tx, 3, 0⟩ ∧ o.kind = 2) ∨ (p.tx = o.tx ∧ p.kind = 1 ∧ o.kind = 2 ∧ p ∈ s.take k ∧ (⟨o.tx, 0, (k : Int)⟩ : OpV) ∈ (rcTo s (k + 1)).2.2) := by
      intro p hp
      rw [rcTo_succ e]
      unfold rcBlock at hp
      unfold rcStep
      cases h03 : (o.kind == 0 || o.kind == 3)
      · rw [h03] at hp
        simp only [Bool.false_eq_true, if_false] at hp ⊢
        cases h2 : (o.kind == 2)
        · rw [h2] at hp
          simp at hp
        · have h2' : o.kind = 2 := by simpa using h2
          rw [h2] at hp
          simp only [if_true] at hp ⊢
          cases hb : rcBad s (rcTo s k).2.2 k o
          · rw [hb] at hp
            simp only [Bool.false_eq_true, if_false] at hp ⊢
            rcases List.mem_append.1 hp with hp | hp
            · have hp' := List.mem_filter.1 hp
              have := hp'.2
              simp only [Bool.and_eq_true, beq_iff_eq] at this
              exact .inr (.inr ⟨this.1, this.2, h2', hp'.1, List.mem_append_right _ (List.mem_singleton.2 rfl)⟩)
            · rw [List.mem_singleton] at hp
              exact .inl ⟨hp, by omega⟩
          · rw [hb] at hp
            simp only [if_true] at hp
            rw [List.mem_singleton] at hp
            exact .inr (.inl ⟨hp, h2'⟩)
      · rw [h03] at hp
        simp only [if_true] at hp
        rw [List.mem_singleton] at hp
        refine .inl ⟨hp, ?_⟩
        simp only [Bool.or_eq_true, beq_iff_eq] at h03
        omega
    refine ⟨?_, ?_, ?_, ?_, ?_, ?_, ?_, ?_, ?_⟩
    · intro x hx
      rcases List.mem_append.1 hx with hx | hx
      · have := hi.lt x hx; omega
      · have := (hmem x hx).1; omega
    · rw [List.pairwise_append]
      refine ⟨hi.time, ?_, ?_⟩
      · rw [List.pairwise_map]
        exact List.Pairwise.imp (fun _ => Nat.le_refl _) (List.pairwise_of_forall (R := fun _ _ => True) (fun _ _ => trivial))
      · intro a ha b hb
        have h1 := hi.lt a ha
        have h2 := (hmem b hb).1
        omega
    · intro x hx
      rcases List.mem_append.1 hx with hx | hx
      · exact hi.same x hx
      · obtain ⟨h1, h2⟩ := hmem x hx
        exact ⟨o, by rw [h1]; exact e, (block_tx h2).symm⟩
    · intro x hx h0
      rcases List.mem_append.1 hx with hx | hx
      · exact hi.rd x hx h0
      · obtain ⟨h1, h2⟩ := hmem x hx
        rw [h1, e]
        rcases hblk x.2 h2 with ⟨r, _⟩ | ⟨r, _⟩ | ⟨_, r, _⟩
        · rw [r]
        · rw [r] at h0; cases h0
        · omega
    · intro x hx h1k
      rcases List.mem_append.1 hx with hx | hx
      · obtain ⟨⟨c, hc, r⟩, t⟩ := hi.wr x hx h1k
        exact ⟨⟨c, hCsub c hc, r⟩, t⟩
      · obtain ⟨h1, h2⟩ := hmem x hx
        rcases hblk x.2 h2 with ⟨r, rk⟩ | ⟨r, _⟩ | ⟨r1, r2, r3, r4, r5⟩
        · rw [r] at h1k; exact absurd h1k rk
        · rw [r] at h1k; cases h1k
        · refine ⟨⟨_, r5, by rw [h1], r1.symm⟩, ?_, o, by rw [h1]; exact e, r3⟩
          unfold touchB
          rw [h1]
          exact List.any_eq_true.2 ⟨x.2, r4, by simp [r2]⟩
    · intro x hx he
      rcases List.mem_append.1 hx with hx | hx
      · exact hi.en x hx he
      · obtain ⟨h1, h2⟩ := hmem x hx
        refine ⟨o, by rw [h1]; exact e, ?_⟩
        rcases hblk x.2 h2 with ⟨r, _⟩ | ⟨r, rk⟩ | ⟨_, r, _⟩
        · rw [← r]; exact he
        · exact isEnd_two rk
        · unfold isEnd at he; rw [r] at he; cases he
    · intro x hx
      rcases List.mem_append.1 hx with hx | hx
      · exact hi.ok x hx
      · obtain ⟨h1, h2⟩ := hmem x hx
        rcases hblk x.2 h2 with ⟨r, _⟩ | ⟨r, _⟩ | ⟨_, _, _, r, _⟩
        · rw [r]; exact hov
        · rw [r]
          have ht := validS_tx3 h (List.mem_of_getElem? e)
          unfold validOp inR isAcc isEnd
          simp [ht.1, ht.2]
        · exact ((validS_iff s).1 h).2.1 _ (List.mem_of_mem_take r)
    · intro t ht
      rw [rcTo_succ e] at ht
      have hold : t ∈ (rcTo s k).2.1 → ∃ x ∈ rcTag s k ++ (rcBlock s (rcTo s k).2.2 k o).map (fun p => (k, p)), x.2 = ⟨t, 3, 0⟩ := fun h' => by
        obtain ⟨x, hx, r⟩ := hi.dead t h'
        exact ⟨x, List.mem_append_left _ hx, r⟩
      unfold rcStep at ht
      cases h03 : (o.kind == 0 || o.kind == 3)
      · rw [h03] at ht
        simp only [Bool.false_eq_true, if_false] at ht
        cases h2 : (o.kind == 2)
        · rw [h2] at ht
          simp only [Bool.false_eq_true, if_false] at ht
          exact hold ht
        · rw [h2] at ht
          simp only [if_true] at ht
          cases hb : rcBad s (rcTo s k).2.2 k o
          · rw [hb] at ht
            simp only [Bool.false_eq_true, if_false] at ht
            exact hold ht
          · rw [hb] at ht
            simp only [if_true] at ht
            rcases List.mem_append.1 ht with ht | ht
            · exact hold ht
            · rw [List.mem_singleton] at ht
              subst ht
              refine ⟨(k, ⟨o.tx, 3, 0⟩), List.mem_append_right _ (List.mem_map.2 ⟨_, ?_, rfl⟩), rfl⟩
              unfold rcBlock
              rw [h03, h2, hb]
              simp
      · rw [h03] at ht
        simp only [if_true] at ht
        exact hold ht
    · intro c hc
      rw [rcTo_succ e] at hc
      unfold rcStep at hc
      split at hc
      · exact hi.com c hc
      · split at hc
        · rename_i h2
          split at hc
          · exact hi.com c hc
          · rcases List.mem_append.1 hc with hc | hc
            · exact hi.com c hc
            · rw [List.mem_singleton] at hc
              subst hc
              exact ⟨k, o, rfl, e, by simpa using h2, rfl⟩
        · exact hi.com c hc
end Go.Proofs.Ytofcpfabjfhjoaa
namespace Go.Proofs.Ytofcpfabjfhjoaa
open Go.RowKit
set_option linter.unusedVariables false

theorem block_ends (s C : List OpV) (i : Nat) (o : OpV) : (rcBlock s C i o).Pairwise (fun a b => isEnd a = true → a.tx ≠ b.tx) := by
  unfold rcBlock
  split
  · simp
  · split
    · split
      · simp
      · rw [List.pairwise_append]
        have hw : ∀ a ∈ rcWrites s i o.tx, isEnd a = false := by
          intro a ha
          have := (List.mem_filter.1 ha).2
          simp only [Bool.and_eq_true, beq_iff_eq] at this
          unfold isEnd
          rw [this.2]; rfl
        refine ⟨?_, by simp, ?_⟩
        · rw [List.pairwise_iff_getElem]
          intro a b ha hb _ he
          rw [hw _ (List.getElem_mem ha)] at he
          cases he
        · intro a ha b _ he
          rw [hw a ha] at he
          cases he
    · simp
theorem mem_tag {s : List OpV} {k : Nat} {p : OpV} (h : p ∈ (rcTo s k).1) : ∃ e ∈ rcTag s k, e.2 = p := by
  rw [← rcTag_snd] at h
  obtain ⟨e, he, rfl⟩ := List.mem_map.1 h
  exact ⟨e, he, rfl⟩
theorem done_ends {s : List OpV} (h : validS s = true) (k : Nat) (hk : k ≤ s.length) : (rcTo s k).1.Pairwise (fun a b => isEnd a = true → a.tx ≠ b.tx) := by
  induction k with
  | zero => simp [rcTo]
  | succ k ih =>
    have e : s[k]? = some (s[k]'(by omega)) := List.getElem?_eq_getElem (by omega)
    rw [rcTo_block e]
    generalize s[k]'(by omega) = o at *
    rw [List.pairwise_append]
    refine ⟨ih (by omega), block_ends _ _ _ _, fun a ha b hb he ht => ?_⟩
    obtain ⟨x, hx, rfl⟩ := mem_tag ha
    have hi := tagInv h k (by omega)
    obtain ⟨q, hq, hqe⟩ := hi.en x hx he
    obtain ⟨q', hq', hqt⟩ := hi.same x hx
    rw [hq] at hq'; injection hq' with hq'; subst hq'
    have h1 := hi.lt x hx
    have := validS_after h hq e hqe (by rw [hqt, ht, block_tx hb])
    omega

def endB (s : List OpV) (k : Nat) (t : Int) : Bool := (s.take k).any fun q => q.tx == t && isEnd q
def pendN (s : List OpV) (k : Nat) : Nat := ((s.take k).filter fun p => p.kind == 1 && !endB s k p.tx).length
theorem filter_split {α : Type} (l : List α) (p q : α → Bool) : (l.filter p).length = (l.filter fun x => p x && q x).length + (l.filter fun x => p x && !q x).length := by
  induction l with
  | nil => rfl
  | cons x r ih =>
    cases hp : p x <;> cases hq : q x <;> simp [hp, hq] <;> omega
theorem filter_le {α : Type} (l : List α) {p q : α → Bool} (h : ∀ x ∈ l, p x = true → q x = true) : (l.filter p).length ≤ (l.filter q).length := by
  induction l with
  | nil => exact Nat.le_refl _
  | cons x r ih =>
    have := ih (fun y hy => h y (by simp [hy]))
    cases hp : p x
    · cases hq : q x <;> simp [hp, hq] <;> omega
    · have := h x (by simp) hp
      simp [hp, this]; omega
theorem endB_succ {s : List OpV} {k : Nat} {o : OpV} (h : s[k]? = some o) (t : Int) : endB s (k + 1) t = (endB s k t || (o.tx == t && isEnd o)) := by
  unfold endB
  rw [take_snoc h, List.any_append]; simp
theorem done_len {s : List OpV} (h : validS s = true) (k : Nat) (hk : k ≤ s.length) : (rcTo s k).1.length + pendN s k ≤ k := by
  induction k with
  | zero => simp [rcTo, pendN]
  | succ k ih =>
    have hi := ih (by omega)
    have e : s[k]? = some (s[k]'(by omega)) := List.getElem?_eq_getElem (by omega)
    have hv := ((validS_iff s).1 h).2.1
    rw [rcTo_block e, List.length_append]
    generalize s[k]'(by omega) = o at *
    have hne : endB s k o.tx = false := by
      cases hb : endB s k o.tx
      · rfl
      · exfalso
        unfold endB at hb
        rw [List.any_eq_true] at hb
        obtain ⟨q, hq, r⟩ := hb
        simp only [Bool.and_eq_true, beq_iff_eq] at r
        obtain ⟨j, hj⟩ := List.mem_iff_getElem?.1 hq
        rw [List.getElem?_take] at hj
        split at hj
        · have := validS_after h hj e r.2 r.1
          omega
        · cases hj
    have hp1 : pendN s (k + 1) = ((s.take k).filter fun p => p.kind == 1 && !endB s (k + 1) p.tx).length + if (o.kind == 1 && !endB s (k + 1) o.tx) then 1 else 0 := by
      unfold pendN
      rw [take_snoc e, List.filter_append, List.length_append, List.filter_cons, List.filter_nil]
      congr 1
      split <;> rfl
    have hle : ((s.take k).filter fun p => p.kind == 1 && !endB s (k + 1) p.tx).length ≤ pendN s k := by
      unfold pendN
      refine filter_le _ fun x _ hx => ?_
      rw [endB_succ e] at hx
      simp only [Bool.and_eq_true, Bool.not_eq_true', Bool.or_eq_false_iff] at hx ⊢
      exact ⟨hx.1, hx.2.1⟩
    rw [hp1]
    by_cases h1 : o.kind = 1
    · have hb : rcBlock s (rcTo s k).2.2 k o = [] := by
        unfold rcBlock
        rw [h1]; rfl
      rw [hb]
      simp only [List.length_nil]
      split <;> omega
    · have hz : (o.kind == 1 && !endB s (k + 1) o.tx) = false := by
        rw [beq_eq_false_iff_ne.2 h1]; rfl
      rw [hz]
      simp only [Bool.false_eq_true, if_false]
      have hgood : (rcBlock s (rcTo s k).2.2 k o).length ≤ 1 ∨ (isEnd o = true ∧ (rcBlock s (rcTo s k).2.2 k o).length = (rcWrites s k o.tx).length + 1) := by
        unfold rcBlock
        split
        · exact .inl (by simp)
        · split
          · rename_i h2
            split
            · exact .inl (by simp)
            · exact .inr ⟨isEnd_two (by simpa using h2), by simp⟩
          · exact .inl (by simp)
      rcases hgood with hg | ⟨he, hg⟩
      · omega
      · rw [hg]
        have hsp : pendN s k = (rcWrites s k o.tx).length + ((s.take k).filter fun p => p.kind == 1 && !endB s (k + 1) p.tx).length := by
          have := filter_split (s.take k) (fun p => p.kind == 1 && !endB s k p.tx) (fun p => p.tx == o.tx)
          unfold pendN
          rw [this]
          congr 1
          · unfold rcWrites
            congr 1
            refine List.filter_congr fun p _ => ?_
            cases ht : (p.tx == o.tx)
            · simp
            · have : p.tx = o.tx := by simpa using ht
              rw [this, hne]; simp
          · congr 1
            refine List.filter_congr fun p _ => ?_
            rw [endB_succ e, he]
            cases ht : (p.tx == o.tx)
            · have : (o.tx == p.tx) = false := by
                rw [beq_eq_false_iff_ne] at ht ⊢
                exact fun e => ht e.symm
              rw [this]; simp
            · have : (o.tx == p.tx) = true := by
                have : p.tx = o.tx := by simpa using ht
                simp [this]
              rw [this]; simp
        omega
/-- What is done is a schedule. -/
theorem done_valid {s : List OpV} (h : validS s = true) : validS (rcTo s s.length).1 = true := by
  rw [validS_iff]
  have h16 := ((validS_iff s).1 h).1
  refine ⟨by have := done_len h s.length (Nat.le_refl _); omega, fun o ho => ?_, done_ends h _ (Nat.le_refl _)⟩
  obtain ⟨e, he, rfl⟩ := mem_tag ho
  exact (tagInv h s.length (Nat.le_refl _)).ok e he
theorem endOf_abort {s : List OpV} (h : validS s = true) {o : OpV} (ho : o ∈ s) (hk : o.kind = 3) : endOf s o.tx = 3 := by
  unfold endOf
  cases e : s.find? (fun x => x.tx == o.tx && isEnd x) with
  | none =>
    have := List.find?_eq_none.1 e o ho
    simp [isEnd, hk] at this
  | some q =>
    have hq := List.find?_some e
    simp only [Bool.and_eq_true, beq_iff_eq] at hq
    obtain ⟨i, hi⟩ := List.mem_iff_getElem?.1 ho
    obtain ⟨j, hj⟩ := List.mem_iff_getElem?.1 (List.mem_of_find?_eq_some e)
    have h1 := validS_after h hi hj (by simp [isEnd, hk]) hq.1.symm
    have h2 := validS_after h hj hi hq.2 hq.1
    have : i = j := by omega
    subst this
    rw [hi] at hj; injection hj with hj; subst hj
    simp [hk]
theorem done_dead {s : List OpV} (h : validS s = true) {t : Int} (ht : t ∈ (rcTo s s.length).2.1) : endOf (rcTo s s.length).1 t = 3 := by
  obtain ⟨e, he, r⟩ := (tagInv h s.length (Nat.le_refl _)).dead t ht
  have hm : (⟨t, 3, 0⟩ : OpV) ∈ (rcTo s s.length).1 := by
    rw [← rcTag_snd, ← r]
    exact List.mem_map.2 ⟨e, he, rfl⟩
  exact endOf_abort (done_valid h) hm rfl

/-- No write that is open is met by another transaction. -/
def StrictL (D : List OpV) : Prop := ∀ i q, D[i]? = some q → ∀ p ∈ D.take i, p.kind = 1 → confB p q = true → ∃ r ∈ D.take i, isEnd r = true ∧ r.tx = p.tx
theorem done_strict {s : List OpV} (h : validS s = true) (k : Nat) (hk : k ≤ s.length) : StrictL (rcTo s k).1 ∧ ∀ p ∈ (rcTo s k).1, p.kind = 1 → ∃ r ∈ (rcTo s k).1, isEnd r = true ∧ r.tx = p.tx := by
  induction k with
  | zero => exact ⟨fun i q hq => (by simp [rcTo] at hq), fun p hp => (by cases hp)⟩
  | succ k ih =>
    obtain ⟨i1, i2⟩ := ih (by omega)
    have e : s[k]? = some (s[k]'(by omega)) := List.getElem?_eq_getElem (by omega)
    rw [rcTo_block e]
    generalize s[k]'(by omega) = o at *
    generalize (rcTo s k).1 = D at *
    have hbt : ∀ p ∈ rcBlock s (rcTo s k).2.2 k o, p.tx = o.tx := fun p hp => block_tx hp
    have hbw : ∀ p ∈ rcBlock s (rcTo s k).2.2 k o, p.kind = 1 → ∃ r ∈ rcBlock s (rcTo s k).2.2 k o, isEnd r = true ∧ r.tx = p.tx := by
      intro p hp hk1
      have hpt := (hbt p hp).symm
      unfold rcBlock at hp ⊢
      cases h03 : (o.kind == 0 || o.kind == 3)
      · rw [h03] at hp
        simp only [Bool.false_eq_true, if_false] at hp ⊢
        cases h2 : (o.kind == 2)
        · rw [h2] at hp
          simp at hp
        · rw [h2] at hp
          simp only [if_true] at hp ⊢
          cases hb : rcBad s (rcTo s k).2.2 k o
          · simp only [Bool.false_eq_true, if_false]
            exact ⟨o, List.mem_append_right _ (List.mem_singleton.2 rfl), isEnd_two (by simpa using h2), hpt⟩
          · rw [hb] at hp
            simp only [if_true] at hp
            rw [List.mem_singleton] at hp
            subst hp
            cases hk1
      · rw [h03] at hp
        simp only [if_true] at hp
        rw [List.mem_singleton] at hp
        subst hp
        rw [hk1] at h03
        cases h03
    generalize rcBlock s (rcTo s k).2.2 k o = B at *
    refine ⟨fun i q hq p hp hk1 hc => ?_, fun p hp hk1 => ?_⟩
    · by_cases hi : i < D.length
      · rw [List.getElem?_append_left hi] at hq
        rw [List.take_append_of_le_length (by omega)] at hp ⊢
        exact i1 i q hq p hp hk1 hc
      · have hqb : q ∈ B := by
          rw [List.getElem?_append_right (by omega)] at hq
          exact List.mem_of_getElem? hq
        have hta : (D ++ B).take i = D ++ B.take (i - D.length) := by
          rw [List.take_append, List.take_of_length_le (by omega)]
        rw [hta] at hp ⊢
        rcases List.mem_append.1 hp with hp | hp
        · obtain ⟨r, hr, r1, r2⟩ := i2 p hp hk1
          exact ⟨r, List.mem_append_left _ hr, r1, r2⟩
        · exfalso
          have h1 := hbt p (List.mem_of_mem_take hp)
          have h2 := hbt q hqb
          unfold confB at hc
          simp only [Bool.and_eq_true, bne_iff_ne] at hc
          exact hc.1.1.1.1 (by rw [h1, h2])
    · rcases List.mem_append.1 hp with hp | hp
      · obtain ⟨r, hr, r1, r2⟩ := i2 p hp hk1
        exact ⟨r, List.mem_append_left _ hr, r1, r2⟩
      · obtain ⟨r, hr, r1, r2⟩ := hbw p hp hk1
        exact ⟨r, List.mem_append_right _ hr, r1, r2⟩

theorem tag_commit {s : List OpV} (k : Nat) (hk : k ≤ s.length) : ∀ e ∈ rcTag s k, e.2.kind = 2 → s[e.1]? = some e.2 ∧ rcBad s (rcTo s e.1).2.2 e.1 e.2 = false := by
  induction k with
  | zero => intro e he; cases he
  | succ k ih =>
    have e : s[k]? = some (s[k]'(by omega)) := List.getElem?_eq_getElem (by omega)
    have hbl := rcTag_succ e
    generalize s[k]'(by omega) = o at *
    rw [hbl]
    intro x hx h2
    rcases List.mem_append.1 hx with hx | hx
    · exact ih (by omega) x hx h2
    · obtain ⟨p, hp, rfl⟩ := List.mem_map.1 hx
      simp only at h2 ⊢
      unfold rcBlock at hp
      cases h03 : (o.kind == 0 || o.kind == 3)
      · rw [h03] at hp
        simp only [Bool.false_eq_true, if_false] at hp
        cases h2' : (o.kind == 2)
        · rw [h2'] at hp
          simp at hp
        · rw [h2'] at hp
          simp only [if_true] at hp
          cases hb : rcBad s (rcTo s k).2.2 k o
          · rw [hb] at hp
            simp only [Bool.false_eq_true, if_false] at hp
            rcases List.mem_append.1 hp with hp | hp
            · have := (List.mem_filter.1 hp).2
              simp only [Bool.and_eq_true, beq_iff_eq] at this
              omega
            · rw [List.mem_singleton] at hp
              subst hp
              exact ⟨e, hb⟩
          · rw [hb] at hp
            simp only [if_true] at hp
            rw [List.mem_singleton] at hp
            subst hp
            cases h2
      · rw [h03] at hp
        simp only [if_true] at hp
        rw [List.mem_singleton] at hp
        subst hp
        rw [h2] at h03
        cases h03
theorem com_old (s : List OpV) (k : Nat) : ∀ m, k ≤ m → ∀ c ∈ (rcTo s m).2.2, c.item < (k : Int) → c ∈ (rcTo s k).2.2 := by
  intro m hm
  obtain ⟨d, rfl⟩ := Nat.le.dest hm
  clear hm
  induction d with
  | zero => intro c hc _; exact hc
  | succ d ih =>
    intro c hc hi
    have : k + (d + 1) = (k + d) + 1 := by omega
    rw [this] at hc
    simp only [rcTo] at hc
    cases e : s[k + d]? with
    | none => rw [e] at hc; exact ih c hc hi
    | some o =>
      rw [e] at hc
      simp only [rcStep] at hc
      split at hc
      · exact ih c hc hi
      · split at hc
        · split at hc
          · exact ih c hc hi
          · rcases List.mem_append.1 hc with hc | hc
            · exact ih c hc hi
            · rw [List.mem_singleton] at hc
              subst hc
              simp only at hi
              omega
        · exact ih c hc hi
/-- What a transaction did ahead of its commit is met by nothing behind it. -/
def CommL (D : List OpV) : Prop := ∀ (i : Nat) (q : OpV), D[i]? = some q → q.kind = 2 → ∀ (k j : Nat) (p p' : OpV), k < j → j < i → D[k]? = some p → D[j]? = some p' → p.tx = q.tx → confB p p' = false
theorem done_commits {s : List OpV} (h : validS s = true) : CommL (rcTo s s.length).1 := by
  intro i q hq hq2 k j p p' hkj hji hp hp' ht
  have hinv := tagInv h s.length (Nat.le_refl _)
  have hE : ∀ (i : Nat) (q : OpV), (rcTo s s.length).1[i]? = some q → ∃ c, (rcTag s s.length)[i]? = some (c, q) := by
    intro i q hq
    rw [← rcTag_snd, List.getElem?_map] at hq
    cases e : (rcTag s s.length)[i]? with
    | none => rw [e] at hq; cases hq
    | some x =>
      rw [e] at hq
      simp only [Option.map_some, Option.some.injEq] at hq
      subst hq
      exact ⟨x.1, rfl⟩
  obtain ⟨c, hc⟩ := hE i q hq
  obtain ⟨a, ha⟩ := hE k p hp
  obtain ⟨b, hb⟩ := hE j p' hp'
  have htime : ∀ (i j : Nat) (x y : Nat × OpV), i < j → (rcTag s s.length)[i]? = some x → (rcTag s s.length)[j]? = some y → x.1 ≤ y.1 := by
    intro i j x y hij hx hy
    obtain ⟨l1, e1⟩ := List.getElem?_eq_some_iff.1 hx
    obtain ⟨l2, e2⟩ := List.getElem?_eq_some_iff.1 hy
    have := (List.pairwise_iff_getElem.1 hinv.time) i j l1 l2 hij
    rw [e1, e2] at this
    exact this
  have t1 := htime k j _ _ hkj ha hb
  have t2 := htime j i _ _ hji hb hc
  simp only at t1 t2
  have mc := List.mem_of_getElem? hc
  have ma := List.mem_of_getElem? ha
  have mb := List.mem_of_getElem? hb
  obtain ⟨hsc, hnb⟩ := tag_commit s.length (Nat.le_refl _) _ mc hq2
  simp only at hsc hnb
  cases hconf : confB p p'
  · rfl
  · exfalso
    unfold confB at hconf
    simp only [Bool.and_eq_true, bne_iff_ne, beq_iff_eq, Bool.or_eq_true] at hconf
    obtain ⟨⟨⟨⟨f1, f2⟩, f3⟩, f4⟩, f5⟩ := hconf
    obtain ⟨ob, hob, hobt⟩ := hinv.same _ mb
    simp only at hob hobt
    have hbc : b < c := by
      rcases Nat.lt_or_ge b c with hlt | hge
      · exact hlt
      · exfalso
        have : b = c := by omega
        subst this
        rw [hsc] at hob; injection hob with hob
        exact f1 (by rw [ht, hob, hobt])
    have hp0 : p.kind = 0 := by
      unfold isAcc at f2
      simp only [Bool.or_eq_true, beq_iff_eq] at f2
      rcases f2 with f2 | f2
      · exact f2
      · exfalso
        obtain ⟨⟨cm, _, _, _⟩, _, oa, hoa, hoa2⟩ := hinv.wr _ ma f2
        obtain ⟨oa', hoa', hoat⟩ := hinv.same _ ma
        simp only at hoa hoa' hoat
        rw [hoa] at hoa'; injection hoa' with hoa'; subst hoa'
        have := validS_after h hoa hsc (isEnd_two hoa2) (by rw [hoat, ht])
        omega
    have hp1 : p'.kind = 1 := by
      rcases f5 with f5 | f5
      · omega
      · exact f5
    have hsa := hinv.rd _ ma hp0
    obtain ⟨⟨cm, hcm, hcmi, hcmt⟩, htb, ob2, hob2, hob22⟩ := hinv.wr _ mb hp1
    simp only at hsa hcmi hcmt htb hob2
    have hab : a < b := by
      rcases Nat.lt_or_ge a b with hlt | hge
      · exact hlt
      · exfalso
        have : a = b := by omega
        subst this
        rw [hsa] at hob2; injection hob2 with hob2; subst hob2
        omega
    have hcm2 := com_old s c s.length (by have := (List.getElem?_eq_some_iff.1 hsc).1; omega) cm hcm (by rw [hcmi]; omega)
    have hbad : rcBad s (rcTo s c).2.2 c q = true := by
      unfold rcBad
      rw [List.any_eq_true]
      refine ⟨cm, hcm2, ?_⟩
      rw [List.any_eq_true]
      have hpi := validS_item h (List.mem_of_getElem? hsa)
      refine ⟨p.item, ?_, ?_⟩
      · rcases (by omega : p.item = 0 ∨ p.item = 1 ∨ p.item = 2) with e | e | e <;> rw [e] <;> simp
      · have h1 := stampN_le hsa
        rw [ht] at h1
        have h2 : touchB s c q.tx 0 p.item = true := by
          unfold touchB
          exact List.any_eq_true.2 ⟨p, List.mem_of_getElem? (i := a) (by rw [List.getElem?_take, if_pos (by omega)]; exact hsa), by simp [ht, hp0]⟩
        rw [hcmi, Int.toNat_natCast, hcmt, f4, htb]
        rw [f4] at h2
        rw [h2]
        simp
        omega
    rw [hbad] at hnb
    cases hnb
end Go.Proofs.Ytofcpfabjfhjoaa
namespace Go.Proofs.Ytofcpfabjfhjoaa
open Go.RowKit Go.BigFrame
set_option linter.unusedVariables false

set_option maxRecDepth 100000 in
set_option maxHeartbeats 2000000 in
theorem conflicts_any (a b : OpV) (w : World) :
    Calls Try.prog 171 #[a.val, b.val] w fun e w' => e = .returned (.bool (confB a b)) ∧ Below w.heap.size w w' := by
  obtain ⟨at_, ak, ai⟩ := a
  obtain ⟨bt, bk, bi⟩ := b
  obtain ⟨r1, h1⟩ : ∃ z, (at_ != bt) = z := ⟨_, rfl⟩
  obtain ⟨r2, h2⟩ : ∃ z, isAcc ⟨at_, ak, ai⟩ = z := ⟨_, rfl⟩
  obtain ⟨r3, h3⟩ : ∃ z, isAcc ⟨bt, bk, bi⟩ = z := ⟨_, rfl⟩
  obtain ⟨r4, h4⟩ : ∃ z, (ai == bi) = z := ⟨_, rfl⟩
  obtain ⟨r5, h5⟩ : ∃ z, (ak == 1) = z := ⟨_, rfl⟩
  obtain ⟨r6, h6⟩ : ∃ z, (bk == 1) = z := ⟨_, rfl⟩
  have HR : Hid (confB ⟨at_, ak, ai⟩ ⟨bt, bk, bi⟩ = (r1 && r2 && r3 && r4 && (r5 || r6))) := by
    show _ = _
    unfold confB
    simp only
    rw [h1, h2, h3, h4, h5, h6]
  have hA : ∀ W : World, Calls Try.prog 126 #[.agg #[.int .i64 at_, .int .i64 ak, .int .i64 ai]] W fun e w' => e = .returned (.bool r2) ∧ Below W.heap.size W w' := fun W => by
    have := access_any ⟨at_, ak, ai⟩ W; rw [h2] at this; exact this
  have hB : ∀ W : World, Calls Try.prog 126 #[.agg #[.int .i64 bt, .int .i64 bk, .int .i64 bi]] W fun e w' => e = .returned (.bool r3) ∧ Below W.heap.size W w' := fun W => by
    have := access_any ⟨bt, bk, bi⟩ W; rw [h3] at this; exact this
  have HA := Lib.hid hA
  have HB := Lib.hid hB
  obtain ⟨W, hW⟩ : ∃ W : World, W = (w.alloc (.cells #[.int .i64 at_, .int .i64 ak, .int .i64 ai] 46)).alloc (.cells #[.int .i64 bt, .int .i64 bk, .int .i64 bi] 46) := ⟨_, rfl⟩
  obtain ⟨W1, hW1⟩ : ∃ W : World, W = w.alloc (.cells #[.int .i64 at_, .int .i64 ak, .int .i64 ai] 46) := ⟨_, rfl⟩
  obtain ⟨L0, L1, L2, hbW1, hs1⟩ := op_box hW1
  rw [← hW1] at hW
  obtain ⟨M0, M1, M2, hbW, hs2⟩ := op_box hW
  have hsz : W1.heap.size = w.heap.size + 1 := by rw [hW1]; simp
  rw [hsz] at M0 M1 M2
  have hbb := hbW1.trans (hbW.mono hbW1.size)
  have l0 : ∀ u : Later W, u.1.cell? ⟨w.heap.size, 0, none⟩ = some (.int .i64 at_) := fun u => L0 ⟨u.1, hbW.trans (u.2.mono hbW.size)⟩
  have l1 : ∀ u : Later W, u.1.cell? ⟨w.heap.size, 1, none⟩ = some (.int .i64 ak) := fun u => L1 ⟨u.1, hbW.trans (u.2.mono hbW.size)⟩
  have l2 : ∀ u : Later W, u.1.cell? ⟨w.heap.size, 2, none⟩ = some (.int .i64 ai) := fun u => L2 ⟨u.1, hbW.trans (u.2.mono hbW.size)⟩
  have HW : Hid ((w.alloc (.cells #[.int .i64 at_, .int .i64 ak, .int .i64 ai] 46)).alloc (.cells #[.int .i64 bt, .int .i64 bk, .int .i64 bi] 46) = W) := by show _ = _; rw [hW, hW1]
  unfold OpV.val
  clear hA hB hW hW1 L0 L1 L2 h2 h3
  cases r1
  · go_enter Try.func171, Try.ntmps171
    go_wp2_with fail
    go_ret
    rw [HW.out]
    exact ⟨ret_bool (by rw [HR.out]; rfl), hbb⟩
  · go_enter Try.func171, Try.ntmps171
    go_wp2_with fail
    rw [HW.out]
    refine (HA.out W).mono ?_
    rintro e w1 ⟨rfl, hb1⟩
    have x0 := l0 ⟨w1, hb1⟩
    have x2 := l2 ⟨w1, hb1⟩
    have x1 := l1 ⟨w1, hb1⟩
    have y0 := M0 ⟨w1, hb1⟩
    have y1 := M1 ⟨w1, hb1⟩
    have y2 := M2 ⟨w1, hb1⟩
    simp only at x0 x1 x2 y0 y1 y2
    have hbw1 := hbb.trans (hb1.mono hbb.size)
    cases r2
    · go_wp2_with fail
      go_ret
      exact ⟨ret_bool (by rw [HR.out]; rfl), hbw1⟩
    · go_wp2_with fail
      refine (HB.out w1).mono ?_
      rintro e w2 ⟨rfl, hb2⟩
      have hbW2 := hb1.trans (hb2.mono hb1.size)
      have z1 := l1 ⟨w2, hbW2⟩
      have z2 := l2 ⟨w2, hbW2⟩
      have v1 := M1 ⟨w2, hbW2⟩
      have v2 := M2 ⟨w2, hbW2⟩
      simp only at z1 z2 v1 v2
      have hbw2 := hbb.trans (hbW2.mono hbb.size)
      clear x0 x1 x2 y0 y1 y2 HA HB
      cases r3
      · go_wp2_with fail
        go_ret
        exact ⟨ret_bool (by rw [HR.out]; rfl), hbw2⟩
      · cases r4
        · go_wp2_with fail
          go_ret
          exact ⟨ret_bool (by rw [HR.out]; rfl), hbw2⟩
        · cases r5
          · cases r6
            · go_wp2_with fail
              go_ret
              exact ⟨ret_bool (by rw [HR.out]; rfl), hbw2⟩
            · go_wp2_with fail
              go_ret
              exact ⟨ret_bool (by rw [HR.out]; rfl), hbw2⟩
          · go_wp2_with fail
            go_ret
            exact ⟨ret_bool (by rw [HR.out]; rfl), hbw2⟩

def isWr (o : OpV) : Bool := o.kind == 1
set_option maxHeartbeats 400000 in
theorem rules31_any (o : OpV) (w : World) :
    Calls Try.prog 168 #[o.val] w fun e w' => e = .returned (.bool (isWr o)) ∧ Below w.heap.size w w' := by
  obtain ⟨t, k, x⟩ := o
  unfold OpV.val isWr
  go_enter Try.func168, Try.ntmps168
  go_wp2_with fail
  go_ret
  exact ⟨rfl, (Below.refl _ _).alloc (Nat.le_refl _) _⟩
theorem runs_openW : Runs 168 := runs_of Try.func168 (by kernel_rfl) rfl

set_option maxRecDepth 100000 in
set_option maxHeartbeats 2000000 in
theorem openW_any (o q : OpV) (A : Option Addr) (n c b5 b3 b4 k : Nat) (s : List OpV) (w : World) (h5 : w.cell? ⟨b5, 0, none⟩ = some (.func (.func 168) #[] #[])) (h3 : w.cell? ⟨b3, 0, none⟩ = some (.slice A n c)) (h4 : w.cell? ⟨b4, 0, none⟩ = some (.int .i64 (k : Int))) (hx : ROps w A n s) (hk : k < n) (hnc : n ≤ c) (hq : s[k]? = some q) :
    Calls Try.prog 185 #[o.val, .pointer (some ⟨b5, 0, none⟩), .pointer (some ⟨b3, 0, none⟩), .pointer (some ⟨b4, 0, none⟩)] w fun e w' => e = .returned (.bool (isWr o && confB o q && decide (endOf (s.take k) o.tx < 0))) ∧ Below w.heap.size w w' := by
  have hn := hx.2.1
  obtain ⟨b, off, q', rfl, hbl, ho, c0, c1, c2⟩ := hx.at_ hk
  rw [hq] at ho
  injection ho with ho
  subst ho
  obtain ⟨r1, hr1⟩ : ∃ z, isWr o = z := ⟨_, rfl⟩
  obtain ⟨r2, hr2⟩ : ∃ z, confB o q = z := ⟨_, rfl⟩
  obtain ⟨E, hE⟩ : ∃ z, endOf (s.take k) o.tx = z := ⟨_, rfl⟩
  obtain ⟨r3, hr3⟩ : ∃ z, decide (E < 0) = z := ⟨_, rfl⟩
  rw [hr1, hr2, hE, hr3]
  obtain ⟨t, kd, x⟩ := o
  obtain ⟨W, hW⟩ : ∃ W : World, W = w.alloc (.cells #[.int .i64 t, .int .i64 kd, .int .i64 x] 46) := ⟨_, rfl⟩
  obtain ⟨L0, L1, L2, hbW, hWs⟩ := op_box hW
  have hxW := hx.below hbW (Nat.le_refl _)
  have hT : ∀ u : Later W, Calls Try.prog 168 #[.agg #[.int .i64 t, .int .i64 kd, .int .i64 x]] u.1 fun e w' => e = .returned (.bool r1) ∧ Below u.1.heap.size u.1 w' := fun u => by
    have := rules31_any ⟨t, kd, x⟩ u.1; rw [hr1] at this; exact this
  have hC : ∀ u : Later W, Calls Try.prog 171 #[.agg #[.int .i64 t, .int .i64 kd, .int .i64 x], .agg #[.int .i64 q.tx, .int .i64 q.kind, .int .i64 q.item]] u.1 fun e w' => e = .returned (.bool r2) ∧ Below u.1.heap.size u.1 w' := fun u => by
    have := conflicts_any ⟨t, kd, x⟩ q u.1; rw [hr2] at this; exact this
  have hEn : ∀ u : Later W, Calls Try.prog 73 #[.slice (some ⟨b, off, none⟩) k c, .int .i64 t] u.1 fun e w' => e = .returned (.int .i64 E) ∧ Below u.1.heap.size u.1 w' := fun u => by
    have := endOf_any (some ⟨b, off, none⟩) k c (s.take k) t u.1 ((hxW.take (by omega)).later u); simp only at hE; rw [hE] at this; exact this
  have HT := Lib.hid hT
  have HC := Lib.hid hC
  have HE := Lib.hid hEn
  have HW := Lib.hid hW
  have M5 : ∀ u : Later W, u.1.cell? ⟨b5, 0, none⟩ = some (.func (.func 168) #[] #[]) := fun u => Later.cell h5 ⟨u.1, hbW.trans (u.2.mono hbW.size)⟩
  have M3 : ∀ u : Later W, u.1.cell? ⟨b3, 0, none⟩ = some (.slice (some ⟨b, off, none⟩) n c) := fun u => Later.cell h3 ⟨u.1, hbW.trans (u.2.mono hbW.size)⟩
  have M4 : ∀ u : Later W, u.1.cell? ⟨b4, 0, none⟩ = some (.int .i64 (k : Int)) := fun u => Later.cell h4 ⟨u.1, hbW.trans (u.2.mono hbW.size)⟩
  have N0 : ∀ u : Later W, u.1.cell? ⟨b, off + k * 3, none⟩ = some (.int .i64 q.tx) := fun u => Later.cell c0 ⟨u.1, hbW.trans (u.2.mono hbW.size)⟩
  have N1 : ∀ u : Later W, u.1.cell? ⟨b, off + k * 3 + 1, none⟩ = some (.int .i64 q.kind) := fun u => Later.cell c1 ⟨u.1, hbW.trans (u.2.mono hbW.size)⟩
  have N2 : ∀ u : Later W, u.1.cell? ⟨b, off + k * 3 + 2, none⟩ = some (.int .i64 q.item) := fun u => Later.cell c2 ⟨u.1, hbW.trans (u.2.mono hbW.size)⟩
  have hki : (k : Int) < (n : Int) := by omega
  have hk0 : (0 : Int) ≤ (k : Int) := by omega
  have hkc : (k : Int) ≤ (c : Int) := by omega
  have hrun := runs_openW
  unfold Runs at hrun
  unfold OpV.val
  clear hT hC hEn hW h5 h3 h4 c0 c1 c2 hx hxW hr1 hr2 hE hq
  obtain ⟨q0, q1, q2⟩ := q
  simp only at N0 N1 N2 HC
  go_enter Try.func185, Try.ntmps185
  go_wp2_with fail
  rw [← HW.out]
  cases r1
  · refine region_later (by kernel_rfl) (by kernel_rfl) ?_
    repeat (go_big_quiet_step ((first | (go_at_call 168; exact later_call _ (HT.out _)) | (go_at_call 171; exact later_call _ (HC.out _)) | (go_at_call 73; exact later_call _ (HE.out _)))))
    refine wpQuiet_nil ?_
    rintro _ ⟨u, rfl⟩
    go_wp2_with fail
    go_ret
    exact ⟨ret_bool (by first | rfl | simp), hbW.trans (u.2.mono hbW.size)⟩
  · cases r2
    · refine region_later (by kernel_rfl) (by kernel_rfl) ?_
      repeat (go_big_quiet_step ((first | (go_at_call 168; exact later_call _ (HT.out _)) | (go_at_call 171; exact later_call _ (HC.out _)) | (go_at_call 73; exact later_call _ (HE.out _)))))
      refine wpQuiet_nil ?_
      rintro _ ⟨u, rfl⟩
      go_wp2_with fail
      go_ret
      exact ⟨ret_bool (by first | rfl | simp), hbW.trans (u.2.mono hbW.size)⟩
    · cases r3
      · refine region_later (by kernel_rfl) (by kernel_rfl) ?_
        repeat (go_big_quiet_step ((first | (go_at_call 168; exact later_call _ (HT.out _)) | (go_at_call 171; exact later_call _ (HC.out _)) | (go_at_call 73; exact later_call _ (HE.out _)))))
        refine wpQuiet_nil ?_
        rintro _ ⟨u, rfl⟩
        go_wp2_with fail
        go_ret
        exact ⟨ret_bool (by first | rfl | simp), hbW.trans (u.2.mono hbW.size)⟩
      · refine region_later (by kernel_rfl) (by kernel_rfl) ?_
        repeat (go_big_quiet_step ((first | (go_at_call 168; exact later_call _ (HT.out _)) | (go_at_call 171; exact later_call _ (HC.out _)) | (go_at_call 73; exact later_call _ (HE.out _)))))
        refine wpQuiet_nil ?_
        rintro _ ⟨u, rfl⟩
        go_wp2_with fail
        go_ret
        exact ⟨ret_bool (by first | rfl | simp), hbW.trans (u.2.mono hbW.size)⟩

end Go.Proofs.Ytofcpfabjfhjoaa
namespace Go.Proofs.Ytofcpfabjfhjoaa
open Go.RowKit Go.BigFrame
set_option linter.unusedVariables false

def openB (P : OpV → Bool) (s : List OpV) (k : Nat) : Bool := match s[k]? with | some q => (s.take k).any fun o => P o && confB o q && decide (endOf (s.take k) o.tx < 0) | none => false

theorem runs_open1 : Runs 185 := runs_of Try.func185 (by kernel_rfl) rfl
set_option maxRecDepth 100000 in
set_option maxHeartbeats 1000000 in
theorem open_w_any (A : Option Addr) (n c k : Nat) (s : List OpV) (w : World) (hx : ROps w A n s) (hnc : n ≤ c) (hk : k < n) :
    Calls Try.prog 167 #[.slice A n c, .int .i64 (k : Int), .func (.func 168) #[] #[]] w fun e w' => e = .returned (.bool (openB isWr s k)) ∧ Below w.heap.size w w' := by
  have hl := hx.1
  have e : s[k]? = some (s[k]'(by omega)) := List.getElem?_eq_getElem (by omega)
  have hO : openB isWr s k = (s.take k).any fun o => isWr o && confB o (s[k]'(by omega)) && decide (endOf (s.take k) o.tx < 0) := by unfold openB; rw [e]
  generalize s[k]'(by omega) = q at *
  obtain ⟨W1, hW1⟩ : ∃ W : World, W = w.alloc (.cells #[.slice A n c] 23) := ⟨_, rfl⟩
  obtain ⟨W2, hW2⟩ : ∃ W : World, W = W1.alloc (.cells #[.int .i64 (k : Int)] 3) := ⟨_, rfl⟩
  obtain ⟨W, hW⟩ : ∃ W : World, W = W2.alloc (.cells #[.func (.func 168) #[] #[]] 64) := ⟨_, rfl⟩
  have s1 : W1.heap.size = w.heap.size + 1 := by rw [hW1]; simp
  have s2 : W2.heap.size = w.heap.size + 2 := by rw [hW2]; simp [s1]
  have b1 : Below w.heap.size w W1 := by rw [hW1]; exact (Below.refl _ _).alloc (Nat.le_refl _) _
  have b2 : Below W1.heap.size W1 W2 := by rw [hW2]; exact (Below.refl _ _).alloc (Nat.le_refl _) _
  have b3 : Below W2.heap.size W2 W := by rw [hW]; exact (Below.refl _ _).alloc (Nat.le_refl _) _
  have x1 : W1.cell? ⟨w.heap.size, 0, none⟩ = some (.slice A n c) := by rw [hW1]; exact box_at _ _ _ _ _ rfl
  have x2 : W2.cell? ⟨w.heap.size + 1, 0, none⟩ = some (.int .i64 (k : Int)) := by rw [hW2, ← s1]; exact box_at _ _ _ _ _ rfl
  have x3 : W.cell? ⟨w.heap.size + 2, 0, none⟩ = some (.func (.func 168) #[] #[]) := by rw [hW, ← s2]; exact box_at _ _ _ _ _ rfl
  have b23 := b2.trans (b3.mono b2.size)
  have b123 := b1.trans (b23.mono b1.size)
  have y1 : W.cell? ⟨w.heap.size, 0, none⟩ = some (.slice A n c) := (b23.cell (p := ⟨w.heap.size, 0, none⟩) (block_lt_of_cell x1)).trans x1
  have y2 : W.cell? ⟨w.heap.size + 1, 0, none⟩ = some (.int .i64 (k : Int)) := (b3.cell (p := ⟨w.heap.size + 1, 0, none⟩) (block_lt_of_cell x2)).trans x2
  have hxW := hx.below b123 (Nat.le_refl _)
  have hclo : ClosOp W 185 #[.pointer (some ⟨w.heap.size + 2, 0, none⟩), .pointer (some ⟨w.heap.size, 0, none⟩), .pointer (some ⟨w.heap.size + 1, 0, none⟩)] (s.take k) (fun o => isWr o && confB o q && decide (endOf (s.take k) o.tx < 0)) := by
    refine ⟨runs_open1, fun W' o hb' ho => ?_⟩
    exact openW_any o q A n c _ _ _ k s W' ((hb'.cell (p := ⟨w.heap.size + 2, 0, none⟩) (block_lt_of_cell x3)).trans x3) ((hb'.cell (p := ⟨w.heap.size, 0, none⟩) (block_lt_of_cell y1)).trans y1) ((hb'.cell (p := ⟨w.heap.size + 1, 0, none⟩) (block_lt_of_cell y2)).trans y2) (hxW.below hb' (Nat.le_refl _)) hk hnc e
  have HC := Lib.hid (ContainsFuncOp_any A k c (s.take k) _ _ _ W (hxW.take (by omega)) hclo)
  have HW : Hid (((w.alloc (.cells #[.slice A n c] 23)).alloc (.cells #[.int .i64 (k : Int)] 3)).alloc (.cells #[.func (.func 168) #[] #[]] 64) = W) := by show _ = _; rw [hW, hW2, hW1]
  have HO := Lib.hid hO
  have hkc : (k : Int) ≤ (c : Int) := by omega
  have hk0 : (0 : Int) ≤ (k : Int) := by omega
  have hrun := runs_open1
  unfold Runs at hrun
  clear hclo hO hW hW2 hW1 x1 x2 x3 y1 y2 s1 s2 b1 b2 b3 b23 hx hxW
  go_enter Try.func167, Try.ntmps167
  go_wp2_with fail
  rw [HW.out]
  refine HC.out.mono ?_
  rintro e w1 ⟨rfl, hb1⟩
  go_wp2_with fail
  go_ret
  exact ⟨ret_bool HO.out.symm, b123.trans (hb1.mono b123.size)⟩
set_option maxHeartbeats 400000 in
theorem rules3_any (A : Option Addr) (n c k : Nat) (s : List OpV) (w : World) (hx : ROps w A n s) (hnc : n ≤ c) (hk : k < n) :
    Calls Try.prog 166 #[.slice A n c, .int .i64 (k : Int)] w fun e w' => e = .returned (.bool (openB isWr s k)) ∧ Below w.heap.size w w' := by
  have HC := Lib.hid (open_w_any A n c k s w hx hnc hk)
  clear hx
  go_enter Try.func166, Try.ntmps166
  go_wp2_with fail
  refine HC.out.mono ?_
  rintro e w1 ⟨rfl, hb1⟩
  go_wp2_with fail
  go_ret
  exact ⟨rfl, hb1⟩

end Go.Proofs.Ytofcpfabjfhjoaa
namespace Go.Proofs.Ytofcpfabjfhjoaa
open Go.RowKit Go.BigFrame
set_option linter.unusedVariables false

/-- Whether the commit at place k is met: by one with a commit ahead, behind an operation of its own. -/
def metIn (s : List OpV) (k : Nat) (q o p : OpV) : Bool := o.tx == q.tx && confB o p && endOf (s.take k) p.tx == 2
def metTo (s : List OpV) (k : Nat) (q o : OpV) (j : Nat) : Nat → Bool
  | 0 => false
  | m + 1 => metTo s k q o j m || match s[j + 1 + m]? with | some p => metIn s k q o p | none => false
def metUp (s : List OpV) (k : Nat) (q : OpV) : Nat → Bool
  | 0 => false
  | j + 1 => metUp s k q j || match s[j]? with | some o => metTo s k q o j (k - (j + 1)) | none => false
def commB (s : List OpV) (k : Nat) : Bool := match s[k]? with | some q => q.kind == 2 && metUp s k q k | none => false

set_option maxRecDepth 100000 in
set_option maxHeartbeats 1000000 in
theorem rules5_any (A : Option Addr) (n c k : Nat) (s : List OpV) (w : World) (hx : ROps w A n s) (hnc : n ≤ c) (hk : k < n) :
    Calls Try.prog 170 #[.slice A n c, .int .i64 (k : Int)] w fun e w' => e = .returned (.bool (commB s k)) ∧ Below w.heap.size w w' := by
  have hl := hx.1
  have hn := hx.2.1
  obtain ⟨b, off, q, rfl, hbl, hq, c0, c1, c2⟩ := hx.at_ hk
  have hC0 : commB s k = (q.kind == 2 && metUp s k q k) := by unfold commB; rw [hq]
  have HCB := Lib.hid hC0
  have HX := Lib.hid hx
  obtain ⟨qt, qk, qi⟩ := q
  simp only at c0 c1 c2 HCB
  clear hx hC0 hq
  have hki : (k : Int) < (n : Int) := by omega
  have hk0 : (0 : Int) ≤ (k : Int) := by omega
  have hkc : (k : Int) ≤ (c : Int) := by omega
  by_cases h2 : qk = 2
  · subst h2
    go_enter Try.func170, Try.ntmps170
    go_wp2_with fail
    go_loopw [19] (fun i wr => ∃ j : Nat, j ≤ k ∧ i = .int .i64 j ∧ Below w.heap.size w wr ∧ metUp s k ⟨qt, 2, qi⟩ j = false) (fun i _ => k - (intOf i).toNat)
    case atStart => exact ⟨0, Nat.zero_le _, rfl, Below.refl _ _, rfl⟩
    case round =>
      obtain ⟨wo, rfl⟩ : ∃ wo : World, wo = wr := ⟨_, rfl⟩
      obtain ⟨j, hj, rfl, hbo, hno⟩ := hrel
      by_cases hlt : j < k
      · obtain ⟨b', off', o, hA', _, ho, e0, e1, e2⟩ := (HX.out.below hbo (Nat.le_refl _)).at_ (k := j) (by omega)
        injection hA' with hA'; injection hA' with q1 q2 _; subst q1; subst q2
        have hup : metUp s k ⟨qt, 2, qi⟩ (j + 1) = metTo s k ⟨qt, 2, qi⟩ o j (k - (j + 1)) := by
          simp only [metUp, ho, hno, Bool.false_or]
        have HU := Lib.hid hup
        obtain ⟨ot, ok, oi⟩ := o
        simp only at e0 e1 e2
        obtain ⟨W, hW⟩ : ∃ W : World, W = wo.alloc (.cells #[.int .i64 ot, .int .i64 ok, .int .i64 oi] 46) := ⟨_, rfl⟩
        obtain ⟨L0, L1, L2, hbW, hWs⟩ := op_box hW
        have HW := Lib.hid hW
        have hji : (j : Int) < (k : Int) := by omega
        have hj0 : (0 : Int) ≤ (j : Int) := by omega
        have hj1 : ((j : Int) + 1) ≤ (k : Int) := by omega
        have hbwW := hbo.trans (hbW.mono hbo.size)
        have hmax : Hid (∀ m, m ≤ k - (j + 1) → metTo s k ⟨qt, 2, qi⟩ ⟨ot, ok, oi⟩ j m = true → metTo s k ⟨qt, 2, qi⟩ ⟨ot, ok, oi⟩ j (k - (j + 1)) = true) := by
          intro m hm h
          obtain ⟨d, hd⟩ := Nat.le.dest hm
          rw [← hd]
          clear hd
          induction d with
          | zero => exact h
          | succ d ih => show (metTo s k ⟨qt, 2, qi⟩ ⟨ot, ok, oi⟩ j (m + d) || _) = true; rw [ih]; rfl
        have HUT : Hid (metUp s k ⟨qt, 2, qi⟩ (j + 1) = true → commB s k = true) := by
          intro h
          rw [HCB.out]
          have : ∀ d, metUp s k ⟨qt, 2, qi⟩ (j + 1 + d) = true := by
            intro d
            induction d with
            | zero => exact h
            | succ d ih => show (metUp s k ⟨qt, 2, qi⟩ (j + 1 + d) || _) = true; rw [ih]; rfl
          have h3 := this (k - (j + 1))
          rw [Nat.add_sub_cancel' (by omega)] at h3
          rw [h3]; rfl
        have hjc : ¬ (j + 1 = c) := by omega
        have hjc2 : ¬ ((j : Int) + 1 = (c : Int)) := by omega
        have hjc3 : ¬ (c ≤ j + 1) := by omega
        have hjw : IntKind.i64.wrap ((j : Int) + 1) = (j : Int) + 1 := IntWalk.i64_in _ (by omega)
        have hjt : ((j : Int) + 1).toNat = j + 1 := by omega
        clear hW hup ho hno
        obtain ⟨M, hM⟩ : ∃ M : Nat, M = k - (j + 1) := ⟨_, rfl⟩
        have hMi : (k : Int) - ((j : Int) + 1) = (M : Int) := by omega
        go_wp2_with fail
        rw [← HW.out]
        go_loopw [30] (fun i wr => ∃ m : Nat, m ≤ M ∧ i = .int .i64 m ∧ Below W.heap.size W wr ∧ metTo s k ⟨qt, 2, qi⟩ ⟨ot, ok, oi⟩ j m = false) (fun i _ => M - (intOf i).toNat)
        case atStart => exact ⟨0, Nat.zero_le _, rfl, Below.refl _ _, rfl⟩
        case round =>
          obtain ⟨wi, rfl⟩ : ∃ wi : World, wi = wr := ⟨_, rfl⟩
          obtain ⟨m, hm, rfl, hbi, hnm⟩ := hrel
          have hbwi := hbwW.trans (hbi.mono hbwW.size)
          by_cases hltm : m < M
          · obtain ⟨b', off', p, hA', _, hp, f0, f1, f2⟩ := (HX.out.below hbwi (Nat.le_refl _)).at_ (k := j + 1 + m) (by omega)
            injection hA' with hA'; injection hA' with q1 q2 _; subst q1; subst q2
            obtain ⟨E, hE⟩ : ∃ E, endOf (s.take k) p.tx = E := ⟨_, rfl⟩
            obtain ⟨r1, hr1⟩ : ∃ z, (ot == qt) = z := ⟨_, rfl⟩
            obtain ⟨r2, hr2⟩ : ∃ z, confB ⟨ot, ok, oi⟩ p = z := ⟨_, rfl⟩
            obtain ⟨r3, hr3⟩ : ∃ z, (E == 2) = z := ⟨_, rfl⟩
            have hnx : metTo s k ⟨qt, 2, qi⟩ ⟨ot, ok, oi⟩ j (m + 1) = (r1 && r2 && r3) := by
              simp only [metTo, hp, hnm, Bool.false_or]
              unfold metIn
              rw [hE, hr2, hr3]
              simp only
              rw [hr1]
            have HNX := Lib.hid hnx
            have hCf : ∀ u : Later (wi.alloc (.cells #[.int .i64 p.tx, .int .i64 p.kind, .int .i64 p.item] 46)), Calls Try.prog 171 #[.agg #[.int .i64 ot, .int .i64 ok, .int .i64 oi], .agg #[.int .i64 p.tx, .int .i64 p.kind, .int .i64 p.item]] u.1 fun e w' => e = .returned (.bool r2) ∧ Below u.1.heap.size u.1 w' := fun u => by
              have := conflicts_any ⟨ot, ok, oi⟩ p u.1; rw [hr2] at this; exact this
            have hEn : ∀ u : Later wi, Calls Try.prog 73 #[.slice (some ⟨b, off, none⟩) k c, .int .i64 p.tx] u.1 fun e w' => e = .returned (.int .i64 E) ∧ Below u.1.heap.size u.1 w' := fun u => by
              have := endOf_any (some ⟨b, off, none⟩) k c (s.take k) p.tx u.1 (((HX.out.below hbwi (Nat.le_refl _)).take (by omega)).later u); rw [hE] at this; exact this
            obtain ⟨pt, pk, pit⟩ := p
            simp only at f0 f1 f2 hCf hEn
            obtain ⟨W3, hW3⟩ : ∃ W : World, W = wi.alloc (.cells #[.int .i64 pt, .int .i64 pk, .int .i64 pit] 46) := ⟨_, rfl⟩
            rw [← hW3] at hCf
            obtain ⟨M0, M1, M2, hbW3, hWs3⟩ := op_box hW3
            have HW3 := Lib.hid hW3
            have HC := Lib.hid hCf
            have hE3 : ∀ u : Later W3, Calls Try.prog 73 #[.slice (some ⟨b, off, none⟩) k c, .int .i64 pt] u.1 fun e w' => e = .returned (.int .i64 E) ∧ Below u.1.heap.size u.1 w' := fun u => hEn ⟨u.1, hbW3.trans (u.2.mono hbW3.size)⟩
            have HE := Lib.hid hE3
            have hbi3 := hbi.trans (hbW3.mono hbi.size)
            have hbo3 := hbwi.trans (hbW3.mono hbwi.size)
            have l0 : ∀ u : Later W3, u.1.cell? ⟨wo.heap.size, 0, none⟩ = some (.int .i64 ot) := fun u => L0 ⟨u.1, hbi3.trans (u.2.mono hbi3.size)⟩
            have l1 : ∀ u : Later W3, u.1.cell? ⟨wo.heap.size, 1, none⟩ = some (.int .i64 ok) := fun u => L1 ⟨u.1, hbi3.trans (u.2.mono hbi3.size)⟩
            have l2 : ∀ u : Later W3, u.1.cell? ⟨wo.heap.size, 2, none⟩ = some (.int .i64 oi) := fun u => L2 ⟨u.1, hbi3.trans (u.2.mono hbi3.size)⟩
            have n0 : ∀ u : Later W3, u.1.cell? ⟨b, off + k * 3, none⟩ = some (.int .i64 qt) := fun u => Later.cell c0 ⟨u.1, hbo3.trans (u.2.mono hbo3.size)⟩
            have eo : off + (j + 1) * 3 + m * 3 = off + (j + 1 + m) * 3 := by omega
            have g0 : wi.cell? ⟨b, off + (j + 1) * 3 + m * 3, none⟩ = some (.int .i64 pt) := by rw [eo]; exact f0
            have g1 : wi.cell? ⟨b, off + (j + 1) * 3 + m * 3 + 1, none⟩ = some (.int .i64 pk) := by rw [eo]; exact f1
            have g2 : wi.cell? ⟨b, off + (j + 1) * 3 + m * 3 + 2, none⟩ = some (.int .i64 pit) := by rw [eo]; exact f2
            have hmi : (m : Int) < (M : Int) := by omega
            have hm0 : (0 : Int) ≤ (m : Int) := by omega
            clear hCf hEn hE3 hW3 hp hnx hnm eo f0 f1 f2 hE hr2
            go_wp2_with fail
            rw [← HW3.out]
            clear g0 g1 g2
            cases r1
            · refine region_later (by kernel_rfl) (by kernel_rfl) ?_
              repeat (go_big_quiet_step ((first | (go_at_call 171; exact later_call _ (HC.out _)) | (go_at_call 73; exact later_call _ (HE.out _)))))
              refine wpQuiet_nil ?_
              rintro _ ⟨u, rfl⟩
              have hbu := hbi3.trans (u.2.mono hbi3.size)
              go_wp2_with fail
              go_roundw
              case rel => exact ⟨m + 1, by omega, by go_num, hbu, by rw [HNX.out]; rfl⟩
              case measure => simp [intOf]; omega
            · cases r2
              · refine region_later (by kernel_rfl) (by kernel_rfl) ?_
                repeat (go_big_quiet_step ((first | (go_at_call 171; exact later_call _ (HC.out _)) | (go_at_call 73; exact later_call _ (HE.out _)))))
                refine wpQuiet_nil ?_
                rintro _ ⟨u, rfl⟩
                have hbu := hbi3.trans (u.2.mono hbi3.size)
                go_wp2_with fail
                go_roundw
                case rel => exact ⟨m + 1, by omega, by go_num, hbu, by rw [HNX.out]; rfl⟩
                case measure => simp [intOf]; omega
              · cases r3
                · refine region_later (by kernel_rfl) (by kernel_rfl) ?_
                  repeat (go_big_quiet_step ((first | (go_at_call 171; exact later_call _ (HC.out _)) | (go_at_call 73; exact later_call _ (HE.out _)))))
                  refine wpQuiet_nil ?_
                  rintro _ ⟨u, rfl⟩
                  have hbu := hbi3.trans (u.2.mono hbi3.size)
                  go_wp2_with fail
                  go_roundw
                  case rel => exact ⟨m + 1, by omega, by go_num, hbu, by rw [HNX.out]; rfl⟩
                  case measure => simp [intOf]; omega
                · have hend : Hid (commB s k = true) := by
                    refine HUT.out ?_
                    rw [HU.out, ← hM]
                    have := hmax.out (m + 1) (by omega) HNX.out
                    rw [← hM] at this
                    exact this
                  refine region_later (by kernel_rfl) (by kernel_rfl) ?_
                  repeat (go_big_quiet_step ((first | (go_at_call 171; exact later_call _ (HC.out _)) | (go_at_call 73; exact later_call _ (HE.out _)))))
                  refine wpQuiet_nil ?_
                  rintro _ ⟨u, rfl⟩
                  have hbu := hbo3.trans (u.2.mono hbo3.size)
                  go_wp2_with fail
                  go_ret
                  exact ⟨ret_bool hend.out.symm, hbu⟩
          · have hfin : Hid (metUp s k ⟨qt, 2, qi⟩ (j + 1) = false) := by
              show _ = _
              rw [HU.out, ← hM]
              have : m = M := by omega
              rw [← this]; exact hnm
            clear hnm
            go_wp2_with fail
            go_roundw
            case rel => exact ⟨j + 1, by omega, by go_num, hbwi, hfin.out⟩
            case measure => simp [intOf]; omega
      · have hfin : Hid (commB s k = false) := by
          show _ = _
          rw [HCB.out]
          have : j = k := by omega
          rw [← this] at hno ⊢
          rw [hno]; rfl
        clear hno
        go_wp2_with fail
        go_ret
        exact ⟨ret_bool hfin.out.symm, hbo⟩
  · have hfin : Hid (commB s k = false) := by
      show _ = _
      rw [HCB.out]
      have : (qk == 2) = false := by simpa using h2
      rw [this]; rfl
    go_enter Try.func170, Try.ntmps170
    go_wp2_with fail
    go_ret
    exact ⟨ret_bool hfin.out.symm, Below.refl _ _⟩
end Go.Proofs.Ytofcpfabjfhjoaa
namespace Go.Proofs.Ytofcpfabjfhjoaa
open Go.RowKit Go.BigFrame
set_option linter.unusedVariables false

def faultZ (B : Nat → Bool) (n : Nat) : Int := match (List.range n).find? B with | some i => (i : Int) | none => -1
theorem faultZ_hit {B : Nat → Bool} {n k : Nat} (hk : k < n) (h : B k = true) (hno : ∀ j, j < k → B j = false) : faultZ B n = (k : Int) := by
  have : (List.range n).find? B = some k := by
    rw [List.find?_eq_some_iff_getElem]
    exact ⟨h, k, by simpa using hk, by simp, fun j hj => by simp [hno j hj]⟩
  unfold faultZ; rw [this]
theorem faultZ_none {B : Nat → Bool} {n : Nat} (hno : ∀ j, j < n → B j = false) : faultZ B n = -1 := by
  have : (List.range n).find? B = none := by
    rw [List.find?_eq_none]
    intro x hx
    rw [hno x (List.mem_range.1 hx)]; simp
  unfold faultZ; rw [this]
def FaultP (s : List OpV) (w : World) (z : Int) (e : Ending) (w' : World) : Prop := e = .returned (.tuple #[.int .i64 (if validS s then z else -1), .bool (validS s)]) ∧ Below w.heap.size w w'
theorem FaultP.no {s : List OpV} {w w' : World} {z : Int} (hv : validS s = false) (hb : Below w.heap.size w w') : FaultP s w z (.returned (.tuple #[.int .i64 (-1), .bool false])) w' := ⟨by rw [hv]; rfl, hb⟩
theorem FaultP.yes {s : List OpV} {w w' : World} {z i : Int} (hv : validS s = true) (hz : z = i) (hb : Below w.heap.size w w') : FaultP s w z (.returned (.tuple #[.int .i64 i, .bool true])) w' := ⟨by rw [hv, hz]; rfl, hb⟩
set_option maxHeartbeats 1000000 in
theorem rules_any (w : World) : Calls Try.prog 146 #[] w fun e w' => e = .returned (.slice (some ⟨w.heap.size, 0, none⟩) 5 5) ∧ w' = w.alloc (.cells #[.string { data := #[114, 101, 99, 111, 118, 101, 114, 97, 98, 108, 101] }, .func (.func 163) #[] #[], .string { data := #[99, 97, 115, 99, 97, 100, 101, 115] }, .func (.func 165) #[] #[], .string { data := #[115, 116, 114, 105, 99, 116] }, .func (.func 166) #[] #[], .string { data := #[114, 105, 103, 111, 114, 111, 117, 115] }, .func (.func 169) #[] #[], .string { data := #[99, 111, 109, 109, 105, 116, 115] }, .func (.func 170) #[] #[]] 115) := by
  go_enter Try.func146, Try.ntmps146
  go_wp2_with fail
  go_ret
  exact ⟨rfl, rfl⟩

set_option maxRecDepth 100000 in
set_option maxHeartbeats 2000000 in
theorem faultStrict_any (A : Option Addr) (n c : Nat) (s : List OpV) (w : World) (hx : ROps w A n s) (hnc : n ≤ c) :
    Calls Try.prog 108 #[.string { data := #[115, 116, 114, 105, 99, 116] }, .slice A n c] w (FaultP s w (faultZ (openB isWr s) s.length)) := by
  have hl := hx.1
  have hn := hx.2.1
  have HX := Lib.hid hx
  clear hx
  go_enter Try.func108, Try.ntmps108
  go_wp2_with fail
  refine (ValidSchedule_any A n c s w HX.out hnc).mono ?_
  rintro e w1 ⟨rfl, hb1⟩
  cases hv : validS s
  · have HV := Lib.hid hv
    clear hv
    go_wp2_with fail
    go_ret2
    exact FaultP.no HV.out hb1
  · have HV := Lib.hid hv
    clear hv
    go_wp2_with fail
    refine (rules_any w1).mono ?_
    rintro e w2 ⟨rfl, hw2⟩
    have hb12 : Below w1.heap.size w1 w2 := by rw [hw2]; exact (Below.refl _ _).alloc (Nat.le_refl _) _
    have hbV := hb1.trans (hb12.mono hb1.size)
    have hlt2 : w1.heap.size < w2.heap.size := by rw [hw2]; simp
    have HW2 := Lib.hid hw2
    clear hw2
    go_wp2_with fail
    go_loopw [14] (fun i wr => ∃ r : Nat, r ≤ 2 ∧ i = .int .i64 r ∧ Below w2.heap.size w2 wr) (fun i _ => 5 - (intOf i).toNat)
    case atStart => exact ⟨0, by omega, rfl, Below.refl _ _⟩
    case round =>
    obtain ⟨r, hr, rfl, hb⟩ := hrel
    rcases (by omega : r = 0 ∨ r = 1 ∨ r = 2) with rfl | rfl | rfl
    · have d0 : wr.cell? ⟨w1.heap.size, 0, none⟩ = some (.string { data := #[114, 101, 99, 111, 118, 101, 114, 97, 98, 108, 101] }) := (hb.cell (p := ⟨w1.heap.size, 0, none⟩) hlt2).trans (by rw [HW2.out]; exact box_at _ _ _ _ _ rfl)
      have d1 : wr.cell? ⟨w1.heap.size, 1, none⟩ = some (.func (.func 163) #[] #[]) := (hb.cell (p := ⟨w1.heap.size, 1, none⟩) hlt2).trans (by rw [HW2.out]; exact box_at _ _ _ _ _ rfl)
      have hne : (({ data := #[114, 101, 99, 111, 118, 101, 114, 97, 98, 108, 101] } : ByteArray) != { data := #[115, 116, 114, 105, 99, 116] }) = true := by decide
      go_wp2_with fail
      go_roundw
      case rel => exact ⟨1, by omega, by go_num, hb.trans ((by (repeat (first | exact Below.refl _ _ | assumption | refine B_alloc ?_ (Nat.le_refl _) _ | refine Below.drew ?_ | refine B_drewN ?_ _ | refine B_after (by assumption) ?_ | (refine B_set ?_ ?_; rotate_left; (first | exact Nat.le_refl _ | (simp; done) | (simp at *; omega))))) : Below wr.heap.size wr _).mono hb.size)⟩
      case measure => simp [intOf] <;> omega
    · have d0 : wr.cell? ⟨w1.heap.size, 2, none⟩ = some (.string { data := #[99, 97, 115, 99, 97, 100, 101, 115] }) := (hb.cell (p := ⟨w1.heap.size, 2, none⟩) hlt2).trans (by rw [HW2.out]; exact box_at _ _ _ _ _ rfl)
      have d1 : wr.cell? ⟨w1.heap.size, 3, none⟩ = some (.func (.func 165) #[] #[]) := (hb.cell (p := ⟨w1.heap.size, 3, none⟩) hlt2).trans (by rw [HW2.out]; exact box_at _ _ _ _ _ rfl)
      have hne : (({ data := #[99, 97, 115, 99, 97, 100, 101, 115] } : ByteArray) != { data := #[115, 116, 114, 105, 99, 116] }) = true := by decide
      go_wp2_with fail
      go_roundw
      case rel => exact ⟨2, by omega, by go_num, hb.trans ((by (repeat (first | exact Below.refl _ _ | assumption | refine B_alloc ?_ (Nat.le_refl _) _ | refine Below.drew ?_ | refine B_drewN ?_ _ | refine B_after (by assumption) ?_ | (refine B_set ?_ ?_; rotate_left; (first | exact Nat.le_refl _ | (simp; done) | (simp at *; omega))))) : Below wr.heap.size wr _).mono hb.size)⟩
      case measure => simp [intOf] <;> omega
    · rw [show ((2 : Nat) : Int) = 2 from rfl]
      have d0 : wr.cell? ⟨w1.heap.size, 4, none⟩ = some (.string { data := #[115, 116, 114, 105, 99, 116] }) := (hb.cell (p := ⟨w1.heap.size, 4, none⟩) hlt2).trans (by rw [HW2.out]; exact box_at _ _ _ _ _ rfl)
      have d1 : wr.cell? ⟨w1.heap.size, 5, none⟩ = some (.func (.func 166) #[] #[]) := (hb.cell (p := ⟨w1.heap.size, 5, none⟩) hlt2).trans (by rw [HW2.out]; exact box_at _ _ _ _ _ rfl)
      have hrun : Runs 166 := runs_of Try.func166 (by kernel_rfl) rfl
      unfold Runs at hrun
      obtain ⟨wo, rfl⟩ : ∃ wo : World, wo = wr := ⟨_, rfl⟩
      obtain ⟨W, hW⟩ : ∃ W : World, W = wo.alloc (.cells #[.string { data := #[115, 116, 114, 105, 99, 116] }, .func (.func 166) #[] #[]] 115) := ⟨_, rfl⟩
      have x1 : W.cell? ⟨wo.heap.size, 1, none⟩ = some (.func (.func 166) #[] #[]) := by rw [hW]; exact box_at _ _ _ _ _ rfl
      have hbW : Below wo.heap.size wo W := by rw [hW]; exact (Below.refl _ _).alloc (Nat.le_refl _) _
      have hbwW := hb.trans (hbW.mono hb.size)
      have HW := Lib.hid hW
      clear hW
      go_wp2_with fail
      rw [← HW.out]
      go_loopw [24] (fun i wr => ∃ k : Nat, k ≤ n ∧ i = .int .i64 k ∧ Below W.heap.size W wr ∧ ∀ j, j < k → openB isWr s j = false) (fun i _ => n - (intOf i).toNat)
      case atStart => exact ⟨0, Nat.zero_le _, rfl, Below.refl _ _, by omega⟩
      case round =>
        obtain ⟨wi, rfl⟩ : ∃ wi : World, wi = wr := ⟨_, rfl⟩
        obtain ⟨k, hk, rfl, hbi, hno⟩ := hrel
        have hbwi := hbwW.trans (hbi.mono hbwW.size)
        by_cases hlt : k < n
        · have y1 := (hbi.cell (p := ⟨wo.heap.size, 1, none⟩) (block_lt_of_cell x1)).trans x1
          obtain ⟨bb, hbb⟩ : ∃ b, openB isWr s k = b := ⟨_, rfl⟩
          have hC : Calls Try.prog 166 #[.slice A n c, .int .i64 (k : Int)] wi fun e w' => e = .returned (.bool bb) ∧ Below wi.heap.size wi w' := by
            have := rules3_any A n c k s wi (HX.out.below (hbV.trans (hbwi.mono hbV.size)) (Nat.le_refl _)) hnc hlt; rw [hbb] at this; exact this
          have HT : Hid (bb = true → faultZ (openB isWr s) s.length = (k : Int)) := fun h => by rw [hl]; exact faultZ_hit hlt (hbb.trans h) hno
          have HN : Hid (bb = false → ∀ j, j < k + 1 → openB isWr s j = false) := fun h j hj => by
            by_cases e : j = k
            · subst e; exact hbb.trans h
            · exact hno j (by omega)
          have HC := Lib.hid hC
          clear hC hno hbb
          go_wp2_with fail
          refine HC.out.mono ?_
          rintro e w5 ⟨rfl, hb5⟩
          cases bb
          · have hn2 := Lib.hid (HN.out (by first | rfl | trivial))
            go_wp2_with fail
            go_roundw
            case rel => exact ⟨k + 1, by omega, by go_num, hbi.trans (hb5.mono hbi.size), hn2.out⟩
            case measure => simp [intOf]; omega
          · have ht2 := Lib.hid (HT.out (by first | rfl | trivial))
            have hbe := hbV.trans ((hbwi.trans (hb5.mono hbwi.size)).mono hbV.size)
            go_wp2_with fail
            go_ret2
            exact FaultP.yes HV.out ht2.out hbe
        · have ht2 : Hid (faultZ (openB isWr s) s.length = -1) := faultZ_none (fun j hj => hno j (by omega))
          have hbe := hbV.trans (hbwi.mono hbV.size)
          clear hno
          go_wp2_with fail
          go_ret2
          exact FaultP.yes HV.out ht2.out hbe


set_option maxRecDepth 100000 in
set_option maxHeartbeats 2000000 in
theorem faultCommits_any (A : Option Addr) (n c : Nat) (s : List OpV) (w : World) (hx : ROps w A n s) (hnc : n ≤ c) :
    Calls Try.prog 108 #[.string { data := #[99, 111, 109, 109, 105, 116, 115] }, .slice A n c] w (FaultP s w (faultZ (commB s) s.length)) := by
  have hl := hx.1
  have hn := hx.2.1
  have HX := Lib.hid hx
  clear hx
  go_enter Try.func108, Try.ntmps108
  go_wp2_with fail
  refine (ValidSchedule_any A n c s w HX.out hnc).mono ?_
  rintro e w1 ⟨rfl, hb1⟩
  cases hv : validS s
  · have HV := Lib.hid hv
    clear hv
    go_wp2_with fail
    go_ret2
    exact FaultP.no HV.out hb1
  · have HV := Lib.hid hv
    clear hv
    go_wp2_with fail
    refine (rules_any w1).mono ?_
    rintro e w2 ⟨rfl, hw2⟩
    have hb12 : Below w1.heap.size w1 w2 := by rw [hw2]; exact (Below.refl _ _).alloc (Nat.le_refl _) _
    have hbV := hb1.trans (hb12.mono hb1.size)
    have hlt2 : w1.heap.size < w2.heap.size := by rw [hw2]; simp
    have HW2 := Lib.hid hw2
    clear hw2
    go_wp2_with fail
    go_loopw [14] (fun i wr => ∃ r : Nat, r ≤ 4 ∧ i = .int .i64 r ∧ Below w2.heap.size w2 wr) (fun i _ => 5 - (intOf i).toNat)
    case atStart => exact ⟨0, by omega, rfl, Below.refl _ _⟩
    case round =>
    obtain ⟨r, hr, rfl, hb⟩ := hrel
    rcases (by omega : r = 0 ∨ r = 1 ∨ r = 2 ∨ r = 3 ∨ r = 4) with rfl | rfl | rfl | rfl | rfl
    · have d0 : wr.cell? ⟨w1.heap.size, 0, none⟩ = some (.string { data := #[114, 101, 99, 111, 118, 101, 114, 97, 98, 108, 101] }) := (hb.cell (p := ⟨w1.heap.size, 0, none⟩) hlt2).trans (by rw [HW2.out]; exact box_at _ _ _ _ _ rfl)
      have d1 : wr.cell? ⟨w1.heap.size, 1, none⟩ = some (.func (.func 163) #[] #[]) := (hb.cell (p := ⟨w1.heap.size, 1, none⟩) hlt2).trans (by rw [HW2.out]; exact box_at _ _ _ _ _ rfl)
      have hne : (({ data := #[114, 101, 99, 111, 118, 101, 114, 97, 98, 108, 101] } : ByteArray) != { data := #[99, 111, 109, 109, 105, 116, 115] }) = true := by decide
      go_wp2_with fail
      go_roundw
      case rel => exact ⟨1, by omega, by go_num, hb.trans ((by (repeat (first | exact Below.refl _ _ | assumption | refine B_alloc ?_ (Nat.le_refl _) _ | refine Below.drew ?_ | refine B_drewN ?_ _ | refine B_after (by assumption) ?_ | (refine B_set ?_ ?_; rotate_left; (first | exact Nat.le_refl _ | (simp; done) | (simp at *; omega))))) : Below wr.heap.size wr _).mono hb.size)⟩
      case measure => simp [intOf] <;> omega
    · have d0 : wr.cell? ⟨w1.heap.size, 2, none⟩ = some (.string { data := #[99, 97, 115, 99, 97, 100, 101, 115] }) := (hb.cell (p := ⟨w1.heap.size, 2, none⟩) hlt2).trans (by rw [HW2.out]; exact box_at _ _ _ _ _ rfl)
      have d1 : wr.cell? ⟨w1.heap.size, 3, none⟩ = some (.func (.func 165) #[] #[]) := (hb.cell (p := ⟨w1.heap.size, 3, none⟩) hlt2).trans (by rw [HW2.out]; exact box_at _ _ _ _ _ rfl)
      have hne : (({ data := #[99, 97, 115, 99, 97, 100, 101, 115] } : ByteArray) != { data := #[99, 111, 109, 109, 105, 116, 115] }) = true := by decide
      go_wp2_with fail
      go_roundw
      case rel => exact ⟨2, by omega, by go_num, hb.trans ((by (repeat (first | exact Below.refl _ _ | assumption | refine B_alloc ?_ (Nat.le_refl _) _ | refine Below.drew ?_ | refine B_drewN ?_ _ | refine B_after (by assumption) ?_ | (refine B_set ?_ ?_; rotate_left; (first | exact Nat.le_refl _ | (simp; done) | (simp at *; omega))))) : Below wr.heap.size wr _).mono hb.size)⟩
      case measure => simp [intOf] <;> omega
    · have d0 : wr.cell? ⟨w1.heap.size, 4, none⟩ = some (.string { data := #[115, 116, 114, 105, 99, 116] }) := (hb.cell (p := ⟨w1.heap.size, 4, none⟩) hlt2).trans (by rw [HW2.out]; exact box_at _ _ _ _ _ rfl)
      have d1 : wr.cell? ⟨w1.heap.size, 5, none⟩ = some (.func (.func 166) #[] #[]) := (hb.cell (p := ⟨w1.heap.size, 5, none⟩) hlt2).trans (by rw [HW2.out]; exact box_at _ _ _ _ _ rfl)
      have hne : (({ data := #[115, 116, 114, 105, 99, 116] } : ByteArray) != { data := #[99, 111, 109, 109, 105, 116, 115] }) = true := by decide
      go_wp2_with fail
      go_roundw
      case rel => exact ⟨3, by omega, by go_num, hb.trans ((by (repeat (first | exact Below.refl _ _ | assumption | refine B_alloc ?_ (Nat.le_refl _) _ | refine Below.drew ?_ | refine B_drewN ?_ _ | refine B_after (by assumption) ?_ | (refine B_set ?_ ?_; rotate_left; (first | exact Nat.le_refl _ | (simp; done) | (simp at *; omega))))) : Below wr.heap.size wr _).mono hb.size)⟩
      case measure => simp [intOf] <;> omega
    · have d0 : wr.cell? ⟨w1.heap.size, 6, none⟩ = some (.string { data := #[114, 105, 103, 111, 114, 111, 117, 115] }) := (hb.cell (p := ⟨w1.heap.size, 6, none⟩) hlt2).trans (by rw [HW2.out]; exact box_at _ _ _ _ _ rfl)
      have d1 : wr.cell? ⟨w1.heap.size, 7, none⟩ = some (.func (.func 169) #[] #[]) := (hb.cell (p := ⟨w1.heap.size, 7, none⟩) hlt2).trans (by rw [HW2.out]; exact box_at _ _ _ _ _ rfl)
      have hne : (({ data := #[114, 105, 103, 111, 114, 111, 117, 115] } : ByteArray) != { data := #[99, 111, 109, 109, 105, 116, 115] }) = true := by decide
      go_wp2_with fail
      go_roundw
      case rel => exact ⟨4, by omega, by go_num, hb.trans ((by (repeat (first | exact Below.refl _ _ | assumption | refine B_alloc ?_ (Nat.le_refl _) _ | refine Below.drew ?_ | refine B_drewN ?_ _ | refine B_after (by assumption) ?_ | (refine B_set ?_ ?_; rotate_left; (first | exact Nat.le_refl _ | (simp; done) | (simp at *; omega))))) : Below wr.heap.size wr _).mono hb.size)⟩
      case measure => simp [intOf] <;> omega
    · rw [show ((4 : Nat) : Int) = 4 from rfl]
      have d0 : wr.cell? ⟨w1.heap.size, 8, none⟩ = some (.string { data := #[99, 111, 109, 109, 105, 116, 115] }) := (hb.cell (p := ⟨w1.heap.size, 8, none⟩) hlt2).trans (by rw [HW2.out]; exact box_at _ _ _ _ _ rfl)
      have d1 : wr.cell? ⟨w1.heap.size, 9, none⟩ = some (.func (.func 170) #[] #[]) := (hb.cell (p := ⟨w1.heap.size, 9, none⟩) hlt2).trans (by rw [HW2.out]; exact box_at _ _ _ _ _ rfl)
      have hrun : Runs 170 := runs_of Try.func170 (by kernel_rfl) rfl
      unfold Runs at hrun
      obtain ⟨wo, rfl⟩ : ∃ wo : World, wo = wr := ⟨_, rfl⟩
      obtain ⟨W, hW⟩ : ∃ W : World, W = wo.alloc (.cells #[.string { data := #[99, 111, 109, 109, 105, 116, 115] }, .func (.func 170) #[] #[]] 115) := ⟨_, rfl⟩
      have x1 : W.cell? ⟨wo.heap.size, 1, none⟩ = some (.func (.func 170) #[] #[]) := by rw [hW]; exact box_at _ _ _ _ _ rfl
      have hbW : Below wo.heap.size wo W := by rw [hW]; exact (Below.refl _ _).alloc (Nat.le_refl _) _
      have hbwW := hb.trans (hbW.mono hb.size)
      have HW := Lib.hid hW
      clear hW
      go_wp2_with fail
      rw [← HW.out]
      go_loopw [24] (fun i wr => ∃ k : Nat, k ≤ n ∧ i = .int .i64 k ∧ Below W.heap.size W wr ∧ ∀ j, j < k → commB s j = false) (fun i _ => n - (intOf i).toNat)
      case atStart => exact ⟨0, Nat.zero_le _, rfl, Below.refl _ _, by omega⟩
      case round =>
        obtain ⟨wi, rfl⟩ : ∃ wi : World, wi = wr := ⟨_, rfl⟩
        obtain ⟨k, hk, rfl, hbi, hno⟩ := hrel
        have hbwi := hbwW.trans (hbi.mono hbwW.size)
        by_cases hlt : k < n
        · have y1 := (hbi.cell (p := ⟨wo.heap.size, 1, none⟩) (block_lt_of_cell x1)).trans x1
          obtain ⟨bb, hbb⟩ : ∃ b, commB s k = b := ⟨_, rfl⟩
          have hC : Calls Try.prog 170 #[.slice A n c, .int .i64 (k : Int)] wi fun e w' => e = .returned (.bool bb) ∧ Below wi.heap.size wi w' := by
            have := rules5_any A n c k s wi (HX.out.below (hbV.trans (hbwi.mono hbV.size)) (Nat.le_refl _)) hnc hlt; rw [hbb] at this; exact this
          have HT : Hid (bb = true → faultZ (commB s) s.length = (k : Int)) := fun h => by rw [hl]; exact faultZ_hit hlt (hbb.trans h) hno
          have HN : Hid (bb = false → ∀ j, j < k + 1 → commB s j = false) := fun h j hj => by
            by_cases e : j = k
            · subst e; exact hbb.trans h
            · exact hno j (by omega)
          have HC := Lib.hid hC
          clear hC hno hbb
          go_wp2_with fail
          refine HC.out.mono ?_
          rintro e w5 ⟨rfl, hb5⟩
          cases bb
          · have hn2 := Lib.hid (HN.out (by first | rfl | trivial))
            go_wp2_with fail
            go_roundw
            case rel => exact ⟨k + 1, by omega, by go_num, hbi.trans (hb5.mono hbi.size), hn2.out⟩
            case measure => simp [intOf]; omega
          · have ht2 := Lib.hid (HT.out (by first | rfl | trivial))
            have hbe := hbV.trans ((hbwi.trans (hb5.mono hbwi.size)).mono hbV.size)
            go_wp2_with fail
            go_ret2
            exact FaultP.yes HV.out ht2.out hbe
        · have ht2 : Hid (faultZ (commB s) s.length = -1) := faultZ_none (fun j hj => hno j (by omega))
          have hbe := hbV.trans (hbwi.mono hbV.size)
          clear hno
          go_wp2_with fail
          go_ret2
          exact FaultP.yes HV.out ht2.out hbe

end Go.Proofs.Ytofcpfabjfhjoaa
namespace Go.Proofs.Ytofcpfabjfhjoaa
open Go.RowKit Go.BigFrame
set_option linter.unusedVariables false

/-- Block rb is a reader at position p, whose bytes lie in an older block. -/
def Rd (w : World) (rb : Nat) (p : Nat) : Prop :=
  ∃ (A : Option Addr) (m c : Nat), w.heap[rb]? = some (.cells #[.slice A m c, .int .i64 (p : Int)] 94 (0, 0)) ∧ m ≤ 2000 ∧
    (0 < m → ∃ (b off : Nat) (f : Nat → Int), A = some ⟨b, off, none⟩ ∧ b < rb ∧ ∀ i, i < m → 0 ≤ f i ∧ f i ≤ 255 ∧ w.cell? ⟨b, off + i, none⟩ = some (.int .u8 (f i)))

/-- Only block rb, and what is new, has turned. -/
def Only (rb : Nat) (w w' : World) : Prop := w.grownBy w' (some rb)

theorem Only.refl (rb : Nat) (w : World) : Only rb w w := ⟨rfl, rfl, rfl, Nat.le_refl _, fun _ _ _ => rfl⟩
theorem Only.trans {rb : Nat} {a b c : World} (h : Only rb a b) (k : Only rb b c) : Only rb a c := World.grownBy.trans h k
theorem Only.size {rb : Nat} {a b : World} (h : Only rb a b) : a.heap.size ≤ b.heap.size := World.grownBy.size h
theorem Only.of_below {rb : Nat} {a b : World} (h : Below a.heap.size a b) : Only rb a b := ⟨h.os, h.tape, h.output, h.size, fun i hi _ => h.block i hi⟩
theorem Only.cell {rb : Nat} {a w : World} (h : Only rb a w) {b o : Nat} (hb : b < a.heap.size) (hne : b ≠ rb) : w.cell? ⟨b, o, none⟩ = a.cell? ⟨b, o, none⟩ :=
  World.cell?_of_block (w := a) (a := ⟨b, o, none⟩) (h.block b hb (fun e => hne (by injection e)))
theorem Only.heap {rb : Nat} {a w : World} (h : Only rb a w) {b : Nat} (hb : b < a.heap.size) (hne : b ≠ rb) : w.heap[b]? = a.heap[b]? :=
  h.block b hb (fun e => hne (by injection e))
theorem Only.drewN {rb : Nat} {a w : World} (h : Only rb a w) (n : Nat) : Only rb a (w.drewN n) := ⟨h.os, h.tape, h.output, h.size, h.block⟩
theorem Only.alloc {rb : Nat} {a w : World} (h : Only rb a w) (o : Obj) : Only rb a (w.alloc o) :=
  ⟨h.os, h.tape, h.output, Nat.le_trans h.size (by simp), fun i hi hne => (Below.heap_alloc w o i (Nat.lt_of_lt_of_le hi h.size)).trans (h.block i hi hne)⟩
theorem Only.setCell {a w : World} {g : Nat} (h : Only g a w) {p : Addr} (hp : p.block = g ∨ a.heap.size ≤ p.block) (u : Value) : Only g a (w.setCell p u) :=
  ⟨h.os, h.tape, h.output, by simpa [World.setCell] using h.size, fun i hi hne => (Below.heap_setCell w p u i (by
    rintro rfl
    rcases hp with hp | hp
    · exact hne (by rw [hp])
    · omega)).trans (h.block i hi hne)⟩

theorem Rd.lt {w : World} {rb p : Nat} (h : Rd w rb p) : rb < w.heap.size := by
  obtain ⟨A, m, c, hh, _⟩ := h
  exact lt_of_block hh
theorem Rd.drewN {w : World} {rb p : Nat} (h : Rd w rb p) (n : Nat) : Rd (w.drewN n) rb p := h
/-- A reader is kept by whatever does not touch it. -/
theorem Rd.below {w w' : World} {rb p : Nat} (h : Rd w rb p) (hb : Below w.heap.size w w') : Rd w' rb p := by
  have hlt := h.lt
  obtain ⟨A, m, c, hh, hm, hc⟩ := h
  refine ⟨A, m, c, (hb.block rb hlt).trans hh, hm, fun h0 => ?_⟩
  obtain ⟨b, off, f, hA, hbl, hf⟩ := hc h0
  exact ⟨b, off, f, hA, hbl, fun i hi => ⟨(hf i hi).1, (hf i hi).2.1, (hb.cell (p := ⟨b, _, none⟩) (by simp; omega)).trans (hf i hi).2.2⟩⟩

theorem ofInt_i64 (a : Nat) (ha : a < 9223372036854775808) : (BitVec.ofInt 64 (a : Int)).toNat = a := by
  rw [BitVec.ofInt_natCast, BitVec.toNat_ofNat]; exact Nat.mod_eq_of_lt (by omega)
theorem xor_nat (a b : Nat) (ha : a < 9223372036854775808) (hb : b < 9223372036854775808) : bits .xor .i64 (a : Int) (b : Int) = ((a ^^^ b : Nat) : Int) := by
  have hx : a ^^^ b < 2 ^ 63 := Nat.xor_lt_two_pow (by omega) (by omega)
  show IntKind.i64.wrap ((BitVec.ofInt 64 (a : Int) ^^^ BitVec.ofInt 64 (b : Int)).toNat : Int) = _
  rw [BitVec.toNat_xor, ofInt_i64 a ha, ofInt_i64 b hb, IntKind.wrap_i64]
  omega
/-- The mixture is not below 0, so its remainder is in range. -/
theorem mix_rng (x n : Int) (h0 : 0 ≤ x) (h1 : x < 9223372036854775808) (hn : 1 ≤ n) : 0 ≤ (bits .xor .i64 x (x / 64)).tmod n ∧ (bits .xor .i64 x (x / 64)).tmod n < n := by
  obtain ⟨a, rfl⟩ := Int.eq_ofNat_of_zero_le h0
  have e : ((a : Int) / 64) = ((a / 64 : Nat) : Int) := by omega
  rw [e, xor_nat a (a / 64) (by omega) (by omega)]
  exact ⟨Int.tmod_nonneg _ (by omega), Int.tmod_lt_of_pos _ (by omega)⟩

def Picked (rb p : Nat) (n : Int) (w : World) (e : Ending) (w' : World) : Prop :=
  ∃ v : Int, e = .returned (.int .i64 v) ∧ Rd w' rb (p + 1) ∧ (n < 1 → v = 0) ∧ (1 ≤ n → 0 ≤ v ∧ v < n) ∧ Only rb w w'

set_option maxHeartbeats 400000 in
theorem pick_any (rb p : Nat) (n : Int) (w : World) (h : Rd w rb p) (hp : p ≤ 100000) (hn : n ≤ 1099511627776) :
    Calls Try.prog 109 #[.pointer (some ⟨rb, 0, none⟩), .int .i64 n] w (Picked rb p n w) := by
  have hlt := h.lt
  obtain ⟨A, m, c, hh, hm, hc⟩ := h
  have c0 : w.cell? ⟨rb, 0, none⟩ = some (.slice A m c) := by simp [World.cell?, hh]
  have c1 : w.cell? ⟨rb, 1, none⟩ = some (.int .i64 (p : Int)) := by simp [World.cell?, hh]
  have f1 : w.frozen? ⟨rb, 1, none⟩ = false := by simp [World.frozen?, hh]
  have HO : Hid (Only rb w (w.setCell ⟨rb, 1, none⟩ (.int .i64 ((p : Int) + 1)))) := (Only.refl rb w).setCell (.inl rfl) _
  have HR : Hid (Rd (w.setCell ⟨rb, 1, none⟩ (.int .i64 ((p : Int) + 1))) rb (p + 1)) := by
    refine ⟨A, m, c, by simp [World.setCell, Array.getElem?_modify, hh], hm, fun h0 => ?_⟩
    obtain ⟨b, off, f, hA, hbl, hf⟩ := hc h0
    refine ⟨b, off, f, hA, hbl, fun i hi => ⟨(hf i hi).1, (hf i hi).2.1, ?_⟩⟩
    rw [World.cell?_setCell_other _ _ _ _ (by simp; try omega)]
    exact (hf i hi).2.2
  clear hh
  by_cases hn1 : n < 1
  · clear hc
    go_enter Try.func109, Try.ntmps109
    go_wp2
    go_ret
    exact ⟨0, rfl, HR.out, fun _ => rfl, fun h => absurd h (by omega), HO.out⟩
  · by_cases hm0 : m = 0
    · subst hm0
      clear hc
      go_enter Try.func109, Try.ntmps109
      go_wp2
      go_ret
      exact ⟨0, rfl, HR.out, fun _ => rfl, fun h => ⟨by omega, by omega⟩, HO.out⟩
    · obtain ⟨b, off, f, rfl, hbl, hf⟩ := hc (by omega)
      have hbr : b ≠ rb := by omega
      by_cases hk : p < m
      · obtain ⟨g0, g1, g2⟩ := hf p hk
        clear hf
        go_enter Try.func109, Try.ntmps109
        go_wp2
        go_ret
        exact ⟨f p % n, rfl, HR.out, fun h => absurd h (by omega), fun _ => ⟨Int.emod_nonneg _ (by omega), Int.emod_lt_of_pos _ (by omega)⟩, HO.out⟩
      · have hmp : 0 < m := by omega
        have hq1 : p % m < m := Nat.mod_lt _ hmp
        have hq2 : (p * 7 + 3) % m < m := Nat.mod_lt _ hmp
        have hq3 : (p / m) ≤ p := Nat.div_le_self _ _
        obtain ⟨g0, g1, g2⟩ := hf (p % m) hq1
        obtain ⟨k0, k1, k2⟩ := hf ((p * 7 + 3) % m) hq2
        clear hf
        have e1 : 0 ≤ ((p : Int) % (m : Int)) := Int.emod_nonneg _ (by omega)
        have e2 : ((p : Int) % (m : Int)) < m := Int.emod_lt_of_pos _ (by omega)
        have e5 : 0 ≤ ((p : Int) / (m : Int)) := Int.ediv_nonneg (by omega) (by omega)
        have e6 : ((p : Int) / (m : Int)) ≤ 100000 := Int.le_trans (Int.ediv_le_self _ (by omega)) (by omega)
        have e3 : 0 ≤ (((p : Int) * 7 + 3) % (m : Int)) := Int.emod_nonneg _ (by omega)
        have e4 : (((p : Int) * 7 + 3) % (m : Int)) < m := Int.emod_lt_of_pos _ (by omega)
        go_enter Try.func109, Try.ntmps109
        go_wp2
        refine wp_region_quiet_lit (by kernel_rfl) (by kernel_rfl) ?_
        iterate 46 (go_big_quiet_want; go_big_quiet_op; go_big_quiet_on)
        refine wpQuiet_nil ?_
        intro _ hw'
        obtain ⟨nq, hw''⟩ := hw'
        subst hw''
        go_wp2
        go_ret
        exact ⟨_, rfl, HR.out.drewN nq, fun h => absurd h (by omega), fun _ => mix_rng _ _ (by omega) (by omega) (by omega), HO.out.drewN nq⟩

def OneOf (rb p : Nat) (xs : List Int) (w : World) (e : Ending) (w' : World) : Prop :=
  ∃ v : Int, e = .returned (.int .i64 v) ∧ v ∈ xs ∧ Rd w' rb (p + 1) ∧ Only rb w w'

set_option maxHeartbeats 400000 in
theorem one_any (rb p : Nat) (A : Option Addr) (k c : Nat) (xs : List Int) (w : World) (h : Rd w rb p) (hp : p ≤ 100000) (hx : RInts w A k xs) (hk : 0 < k)
    (hne : ∀ ad, A = some ad → ad.block ≠ rb) :
    Calls Try.prog 150 #[.pointer (some ⟨rb, 0, none⟩), .slice A k c] w (OneOf rb p xs w) := by
  have hkb := hx.2.1
  have hat : ∀ (v : Int) (w1 : World), Only rb w w1 → 0 ≤ v → v < k → ∃ b off x, A = some ⟨b, off, none⟩ ∧ x ∈ xs ∧ w1.cell? ⟨b, off + v.toNat, none⟩ = some (.int .i64 x) := by
    intro v w1 ho h0 h1
    obtain ⟨b, off, x, hA, hlt, hxx, hc⟩ := hx.at_ (k := v.toNat) (by omega)
    exact ⟨b, off, x, hA, List.mem_of_getElem? hxx, (ho.cell hlt (hne _ hA)).trans hc⟩
  have HA := Lib.hid hat
  clear hat hx hne
  go_enter Try.func150, Try.ntmps150
  go_wp2_with fail
  refine (pick_any rb p _ w h hp (by omega)).mono ?_
  rintro e w1 ⟨v, rfl, hr, _, hv, ho⟩
  obtain ⟨hv0, hv1⟩ := hv (by omega)
  obtain ⟨b, off, x, hA, hxm, hc⟩ := HA.out v w1 ho hv0 hv1
  subst hA
  go_wp2_with fail
  go_ret
  exact ⟨x, rfl, hxm, hr, ho⟩

def Made (w : World) (e : Ending) (w' : World) : Prop :=
  ∃ rb, e = .returned (.pointer (some ⟨rb, 0, none⟩)) ∧ w.heap.size ≤ rb ∧ Rd w' rb 0 ∧ Below w.heap.size w w'

set_option maxHeartbeats 400000 in
theorem newReader_any (A : Option Addr) (n c : Nat) (w : World) (hx : RBytes w A n) (hc : n ≤ c) :
    Calls Try.prog 68 #[.slice A n c] w (Made w) := by
  obtain ⟨hn, hx⟩ := hx
  have hin : ∀ m c', m ≤ n → m ≤ 2000 → Rd (w.alloc (.cells #[.slice A m c', .int .i64 0] 94)) w.heap.size 0 := by
    intro m c' hm h2
    refine ⟨A, m, c', heap_alloc_new w _, h2, fun h0 => ?_⟩
    obtain ⟨b, off, hA, hlt, hf⟩ := hx (by omega)
    have hch := fun i => if h : i < n then (hf i h).choose else (0 : Int)
    refine ⟨b, off, fun i => if h : i < n then (hf i h).choose else 0, hA, hlt, fun i hi => ?_⟩
    have hin : i < n := by omega
    simp only [hin, dif_pos]
    have hs := (hf i hin).choose_spec
    exact ⟨hs.1, hs.2.1, (World.cell?_alloc_lt w _ ⟨b, off + i, none⟩ (by simpa using hlt)).trans hs.2.2⟩
  have HI := Lib.hid hin
  clear hin hx
  by_cases h2 : 2000 < n
  · go_enter Try.func68, Try.ntmps68
    go_wp2
    go_ret
    exact ⟨_, rfl, Nat.le_refl _, HI.out 2000 _ (by omega) (by omega), (Below.refl _ _).alloc (Nat.le_refl _) _⟩
  · go_enter Try.func68, Try.ntmps68
    go_wp2
    go_ret
    exact ⟨_, rfl, Nat.le_refl _, HI.out n _ (by omega) (by omega), (Below.refl _ _).alloc (Nat.le_refl _) _⟩

end Go.Proofs.Ytofcpfabjfhjoaa
namespace Go.Proofs.Ytofcpfabjfhjoaa
open Go.RowKit Go.BigFrame
set_option linter.unusedVariables false

theorem rowInfo : (Try.prog.info? 23).map (fun i => (i.zero, i.size, i.bytes)) = some (some (.slice none 0 0), 1, 24) := by kernel_rfl

/-- A value that is a row of at most five operations, its block between lo and hi. -/
def RowV (w : World) (lo hi : Nat) (v : Value) : Prop :=
  ∃ (A : Option Addr) (n c : Nat) (xs : List OpV), v = .slice A n c ∧ n ≤ c ∧ n ≤ 5 ∧ ROps w A n xs ∧
    ∀ ad, A = some ad → lo ≤ ad.block ∧ ad.block < hi ∧ ∃ cs fr, w.heap[ad.block]? = some (.cells cs 46 fr)
def RowsV (w : World) (lo hi : Nat) (vs : List Value) : Prop := ∀ v ∈ vs, RowV w lo hi v

theorem RowV.keep {w w' : World} {lo hi : Nat} {v : Value} (h : RowV w lo hi v) (hk : ∀ b, lo ≤ b → b < hi → (∃ cs fr, w.heap[b]? = some (.cells cs 46 fr)) → w'.heap[b]? = w.heap[b]?)
    (hs : w.heap.size ≤ w'.heap.size) : RowV w' lo hi v := by
  obtain ⟨A, n, c, xs, hv, hnc, hn, ⟨h1, h2, h3⟩, hA⟩ := h
  refine ⟨A, n, c, xs, hv, hnc, hn, ⟨h1, h2, fun h0 => ?_⟩, fun ad had => ?_⟩
  · obtain ⟨b, off, rfl, hb, hc⟩ := h3 h0
    obtain ⟨a1, a2, a3⟩ := hA _ rfl
    have hh := hk b a1 a2 a3
    refine ⟨b, off, rfl, by omega, fun i o ho => ?_⟩
    obtain ⟨c0, c1, c2⟩ := hc i o ho
    exact ⟨(World.cell?_of_block (w := w) (a := ⟨b, _, none⟩) hh).trans c0, (World.cell?_of_block (w := w) (a := ⟨b, _, none⟩) hh).trans c1, (World.cell?_of_block (w := w) (a := ⟨b, _, none⟩) hh).trans c2⟩
  · obtain ⟨a1, a2, cs, fr, a3⟩ := hA _ had
    exact ⟨a1, a2, cs, fr, (hk _ a1 a2 ⟨cs, fr, a3⟩).trans a3⟩
theorem RowV.wider {w : World} {lo hi hi' : Nat} {v : Value} (h : RowV w lo hi v) (hh : hi ≤ hi') : RowV w lo hi' v := by
  obtain ⟨A, n, c, xs, hv, hnc, hn, hr, hA⟩ := h
  exact ⟨A, n, c, xs, hv, hnc, hn, hr, fun ad had => ⟨(hA ad had).1, by have := (hA ad had).2.1; omega, (hA ad had).2.2⟩⟩
theorem RowsV.keep {w w' : World} {lo hi : Nat} {vs : List Value} (h : RowsV w lo hi vs) (hk : ∀ b, lo ≤ b → b < hi → (∃ cs fr, w.heap[b]? = some (.cells cs 46 fr)) → w'.heap[b]? = w.heap[b]?)
    (hs : w.heap.size ≤ w'.heap.size) : RowsV w' lo hi vs := fun v hv => (h v hv).keep hk hs
/-- An own row of operations, as a row value. -/
theorem RowV.of_own {w : World} {lo base c n : Nat} {A : Option Addr} {xs : List OpV} (h : w.ownsRow base 46 3 (.slice A n c) n (opCells xs)) (hlo : lo ≤ base) (hn : n ≤ 5) : RowV w lo w.heap.size (.slice A n c) := by
  refine ⟨A, n, c, xs, rfl, ?_, hn, ROps.of_own h (by omega), fun ad had => ?_⟩
  · rcases h.2 with ⟨h1, h2⟩ | ⟨g, cap, cur, h1, h2, h3, h4, h5, h6, h7⟩
    · omega
    · injection h1 with _ _ hc
      subst hc
      exact h4
  · subst had
    rcases h.2 with ⟨h1, h2⟩ | ⟨g, cap, cur, h1, h2, h3, h4, h5, h6, h7⟩
    · cases h1
    · injection h1 with ha _ _
      injection ha with ha
      subst ha
      exact ⟨by simp; omega, lt_of_block h3, cur, _, h3⟩
theorem own_form {w : World} {base : Nat} {e : TypeId} {size n : Nat} {v : Value} {xs : List Value} (h : w.ownsRow base e size v n xs) : ∃ A c, v = .slice A n c := by
  rcases h.2 with ⟨h1, h2⟩ | ⟨g, cap, cur, h1, _⟩
  · exact ⟨none, 0, by rw [h1, h2]⟩
  · exact ⟨_, _, h1⟩

theorem own_only {w w' : World} {rb L : Nat} {e : TypeId} {size n : Nat} {v : Value} {xs : List Value} (h : w.ownsRow L e size v n xs) (ho : Only rb w w') (hrb : rb < L) : w'.ownsRow L e size v n xs := by
  refine World.ownsRow.kept h ho ?_
  cases hv : v.ownBlock with
  | none => exact .inl rfl
  | some g =>
    refine .inr (fun e => ?_)
    injection e with e
    have := (World.ownsRow.lt h g hv).1
    omega
theorem Only.grown {rb : Nat} {a w w' : World} {row : Option Nat} (h : Only rb a w) (hg : w.grownBy w' row) (hr : ∀ k, row = some k → a.heap.size ≤ k) : Only rb a w' :=
  ⟨hg.os.trans h.os, hg.tape.trans h.tape, hg.output.trans h.output, Nat.le_trans h.size hg.size, fun i hi hne =>
    (hg.block i (Nat.lt_of_lt_of_le hi h.size) (fun e => by have := hr i e.symm; omega)).trans (h.block i hi hne)⟩
theorem Only.own {rb : Nat} {a w w' : World} {L : Nat} {e : TypeId} {size n : Nat} {v : Value} {xs : List Value} (h : Only rb a w) (hown : w.ownsRow L e size v n xs) (hL : a.heap.size ≤ L) (hg : w.grownBy w' v.ownBlock) : Only rb a w' :=
  h.grown hg fun k hk => Nat.le_trans hL (World.ownsRow.lt hown k hk).1
theorem RowsV.only {w w' : World} {rb lo hi : Nat} {vs : List Value} (h : RowsV w lo hi vs) (ho : Only rb w w') (hhi : hi ≤ w.heap.size) (hrb : rb < lo) : RowsV w' lo hi vs :=
  h.keep (fun b h1 h2 _ => ho.heap (by omega) (by omega)) ho.size
theorem RowsV.grown {w w' : World} {lo hi L : Nat} {vs : List Value} {size n : Nat} {v : Value} {xs : List Value} (h : RowsV w lo hi vs) (hown : w.ownsRow L 23 size v n xs) (hg : w.grownBy w' v.ownBlock) (hhi : hi ≤ w.heap.size) : RowsV w' lo hi vs := by
  refine h.keep (fun b h1 h2 h3 => hg.block b (by omega) (fun e => ?_)) hg.size
  obtain ⟨cs, fr, h3⟩ := h3
  rcases hown.2 with ⟨h4, h5⟩ | ⟨g, cap, cur, h4, _, h6, _⟩
  · rw [h4] at e; simp [Value.ownBlock] at e
  · rw [h4] at e
    simp [Value.ownBlock] at e
    subst e
    rw [h3] at h6
    injection h6 with h6
    injection h6 with _ h6 _
    exact absurd h6 (by decide)

def lenOf : Value → Nat | .slice _ n _ => n | _ => 0
/-- What the inner loop of 'programs' carries. -/
def Inner (ws : World) (rb p0 : Nat) (v : Value) (k left : Int) (w : World) : Prop :=
  ∃ (n : Nat) (xs : List OpV) (p : Nat), w.ownsRow ws.heap.size 46 3 v n (opCells xs) ∧ 0 ≤ k ∧ n + k.toNat ≤ 4 ∧ 0 ≤ left ∧ left ≤ 16 ∧ Rd w rb p ∧ p ≤ p0 + 2 * n ∧ Only rb ws w
/-- What the outer loop of 'programs' carries. -/
def Outer (w0 : World) (rb p0 : Nat) (v : Value) (left : Int) (vs : List Value) (w : World) : Prop :=
  ∃ p : Nat, w.ownsRow w0.heap.size 23 1 v vs.length vs ∧ vs.length ≤ 4 ∧ RowsV w w0.heap.size w.heap.size vs ∧ 0 ≤ left ∧ left ≤ 16 ∧ Rd w rb p ∧ p ≤ p0 + 20 * vs.length ∧ Only rb w0 w
def Programs (w0 : World) (rb p0 : Nat) (e : Ending) (w : World) : Prop :=
  ∃ (v : Value) (vs : List Value) (left : Int), e = .returned v ∧ Outer w0 rb p0 v left vs w

theorem Rd.lt_size {w : World} {rb p : Nat} (h : Rd w rb p) : rb < w.heap.size := h.lt
theorem Rd.alloc {w : World} {rb p : Nat} (h : Rd w rb p) (o : Obj) : Rd (w.alloc o) rb p := h.below ((Below.refl _ _).alloc (Nat.le_refl _) _)
theorem lit3 {w : World} {H : Nat} (hH : w.heap.size = H) (a b c : Int) : RInts (w.alloc (.cells #[.int .i64 a, .int .i64 b, .int .i64 c] 3)) (some ⟨H, 0, none⟩) 3 [a, b, c] := by subst hH; exact RInts.lit w [a, b, c] _ (by simp)
theorem lit4 {w : World} {H : Nat} (hH : w.heap.size = H) (a b c d : Int) : RInts (w.alloc (.cells #[.int .i64 a, .int .i64 b, .int .i64 c, .int .i64 d] 3)) (some ⟨H, 0, none⟩) 4 [a, b, c, d] := by subst hH; exact RInts.lit w [a, b, c, d] _ (by simp)
theorem lit5 {w : World} {H : Nat} (hH : w.heap.size = H) (a b c d e : Int) : RInts (w.alloc (.cells #[.int .i64 a, .int .i64 b, .int .i64 c, .int .i64 d, .int .i64 e] 3)) (some ⟨H, 0, none⟩) 5 [a, b, c, d, e] := by subst hH; exact RInts.lit w [a, b, c, d, e] _ (by simp)
theorem lit6 {w : World} {H : Nat} (hH : w.heap.size = H) (a b c d e f : Int) : RInts (w.alloc (.cells #[.int .i64 a, .int .i64 b, .int .i64 c, .int .i64 d, .int .i64 e, .int .i64 f] 3)) (some ⟨H, 0, none⟩) 6 [a, b, c, d, e, f] := by subst hH; exact RInts.lit w [a, b, c, d, e, f] _ (by simp)
theorem far_lit {rb H : Nat} (h : rb < H) : ∀ ad : Addr, some (⟨H, 0, none⟩ : Addr) = some ad → ad.block ≠ rb := by
  intro ad e
  injection e with e
  subst e
  simp; omega

theorem own_one {w : World} {base : Nat} {e : TypeId} {size n : Nat} {v : Value} {xs : List Value} (h : w.ownsRow base e size v n xs) : v.oneCell' = true := by
  obtain ⟨A, c, rfl⟩ := own_form h
  rfl
theorem Rd.grown {w w' : World} {rb p : Nat} {row : Option Nat} (h : Rd w rb p) (hg : w.grownBy w' row) (hr : ∀ k, row = some k → rb < k) : Rd w' rb p := by
  have hlt := h.lt
  obtain ⟨A, m, c, hh, hm, hc⟩ := h
  have hk : ∀ b, b ≤ rb → w'.heap[b]? = w.heap[b]? := fun b hb => hg.block b (by omega) (fun e => by have := hr b e.symm; omega)
  refine ⟨A, m, c, (hk rb (Nat.le_refl _)).trans hh, hm, fun h0 => ?_⟩
  obtain ⟨b, off, f, hA, hbl, hf⟩ := hc h0
  exact ⟨b, off, f, hA, hbl, fun i hi => ⟨(hf i hi).1, (hf i hi).2.1, (World.cell?_of_block (w := w) (a := ⟨b, _, none⟩) (hk b (by omega))).trans (hf i hi).2.2⟩⟩

section
variable {w : World} {ops : Array Oper} {rest : List Oper} {o : Oper} {a : Act} {Q : Exit → Act → World → Prop}
/-- append of one row. -/
theorem app_row (s x : Operand) {base : Nat} {v : Value} {n : Nat} {vs : List Value} (hown : w.ownsRow base 23 1 v n vs) (hbase : base ≤ w.heap.size)
    {u : Value} (hu : u.oneCell' = true) {H : Nat} {T : TypeId} (hH : w.heap[H]? = some (.cells #[u] T (0, 0))) (hn : n ≤ 1099511627776) {c : Nat}
    (hgd : o.guard = none) (ho : o.op = .call { callee := .builtin .append, args := #[s, x], argTypes := #[128, 128] }) (hs : a.eval s = v) (hx : a.eval x = .slice (some ⟨H, 0, none⟩) 1 c)
    (h : ∀ v' w', w'.ownsRow base 23 1 v' (n + 1) (vs ++ [u]) → w.grownBy w' v.ownBlock → wpList Try.prog ops Q rest (a.put o.dst v') w') : wpList Try.prog ops Q (o :: rest) a w := by
  obtain ⟨i0, hi, hz0, hz1, hz2⟩ := info_parts rowInfo
  refine wpList_app hgd s x _ ho base _ i0 _ 1 24 Try.underlying128 hi hz0 hz1 hz2 rfl (by decide) v n _ hs hown _ 1 c [u] hx ⟨rfl, by simpa using hu, fun _ => ⟨_, rfl, fun j u' hu' => ?_⟩⟩ (by simp only [maxLen]; omega) (by omega) hbase ?_
  · match j, hu' with
    | 0, hu' =>
      simp at hu'; subst hu'
      rw [addr_add, cell_of_row w H (0 + 0) _ T (0, 0) hH]; rfl
  · intro v' w' h1 h2 h3
    exact h v' w' h1 h2
end

/-- What a round of the outer loop comes to. -/
theorem outer_step {w0 wr w w1 w' : World} {rb p0 p' n : Nat} {v lv v' : Value} {vs : List Value} {xs : List OpV} {left : Int} (hown : wr.ownsRow w0.heap.size 23 1 v vs.length vs)
    (hrows : RowsV wr w0.heap.size wr.heap.size vs) (hO : Only rb w0 wr) (hrb : rb < w0.heap.size) (hO3 : Only rb wr w) (hl : w.ownsRow wr.heap.size 46 3 lv n (opCells xs)) (hn : n ≤ 5)
    (ob : Obj) (hw1 : w1 = w.alloc ob) (hown' : w'.ownsRow w0.heap.size 23 1 v' (vs.length + 1) (vs ++ [lv])) (hg : w1.grownBy w' v.ownBlock) (hr : Rd w rb p') (hv : vs.length < 4)
    (h0 : 0 ≤ left) (h1 : left ≤ 16) (hp : p' ≤ p0 + 20 * (vs.length + 1)) : Outer w0 rb p0 v' left (vs ++ [lv]) w' := by
  have hsz := hO.size
  have hsz3 := hO3.size
  have hownw : w1.ownsRow w0.heap.size 23 1 v vs.length vs := by rw [hw1]; exact World.ownsRow.alloc (own_only hown hO3 hrb) _
  have hsz1 : w1.heap.size = w.heap.size + 1 := by rw [hw1]; simp
  obtain ⟨A, c, rfl⟩ := own_form hl
  have hlv : RowV w w0.heap.size w.heap.size (.slice A n c) := RowV.of_own hl (by omega) hn
  have hlv1 : RowsV w1 w0.heap.size w.heap.size [.slice A n c] := by
    intro u hu
    simp at hu
    subst hu
    rw [hw1]
    exact hlv.keep (fun b h1 h2 _ => Below.heap_alloc _ _ _ h2) (by simp)
  have hlv2 := hlv1.grown hownw hg (by omega)
  have hvs1 : RowsV w1 w0.heap.size wr.heap.size vs := by
    rw [hw1]
    exact (hrows.only hO3 (Nat.le_refl _) hrb).keep (fun b h1 h2 _ => Below.heap_alloc _ _ _ (by omega)) (by simp)
  have hvs2 := hvs1.grown hownw hg (by omega)
  have hgs := hg.size
  refine ⟨p', by simpa using hown', by simp; omega, ?_, h0, h1, ?_, by simp; omega, ?_⟩
  · intro u hu
    simp only [List.mem_append, List.mem_singleton] at hu
    rcases hu with hu | hu
    · exact (hvs2 u hu).wider (by omega)
    · exact (hlv2 u (by simp [hu])).wider (by omega)
  · exact Rd.grown (w := w1) (by rw [hw1]; exact hr.alloc _) hg fun k hk => by have := (World.ownsRow.lt hownw k hk).1; omega
  · have : Only rb w0 w1 := by rw [hw1]; exact (hO.trans hO3).alloc _
    exact this.own hownw (Nat.le_refl _) hg

set_option maxHeartbeats 2000000 in
theorem programs_any (rb p most : Nat) (w0 : World) (h : Rd w0 rb p) (hp : p ≤ 50000) (hm : most ≤ 16) :
    Calls Try.prog 151 #[.pointer (some ⟨rb, 0, none⟩), .int .i64 (most : Int)] w0 (Programs w0 rb (p + 2)) := by
  have hlt := h.lt
  go_enter Try.func151, Try.ntmps151
  go_wp2_with fail
  refine (one_any rb p _ _ _ _ _ ((h.alloc _).alloc _) (by omega) (lit3 (by simp) 2 3 1) (by omega) (far_lit (by omega))).mono ?_
  rintro e w1 ⟨items, rfl, hi, hr1, ho1⟩
  go_wp2_with fail
  have hlt1 := hr1.lt
  refine (one_any rb _ _ _ _ _ _ (hr1.alloc _) (by omega) (lit5 rfl 3 2 4 3 1) (by omega) (far_lit hlt1)).mono ?_
  rintro e w2 ⟨n, rfl, hn, hr2, ho2⟩
  have hown : w2.ownsRow w0.heap.size 23 1 (.slice (some ⟨w0.heap.size, 0, none⟩) 0 0) 0 [] :=
    own_only (World.ownsRow.alloc (own_only (World.ownsRow.alloc (World.ownsRow_made w0 #[] 0 (Nat.le_refl _) (by decide) rfl) _) ho1 hlt) _) ho2 hlt
  have hO : Only rb w0 w2 := (((Only.refl rb w0).alloc _).alloc _).trans ho1 |>.trans (((Only.refl rb w1).alloc _).trans ho2)
  have hn4 : 1 ≤ n ∧ n ≤ 4 := by simp at hn; omega
  have hi4 : 1 ≤ items ∧ items ≤ 3 := by simp at hi; omega
  have HST : Hid (Outer w0 rb (p + 2) (.slice (some ⟨w0.heap.size, 0, none⟩) 0 0) (most : Int) [] w2) :=
    ⟨p + 1 + 1, hown, by simp, by intro v hv; simp at hv, by omega, by omega, hr2, by simp, hO⟩
  clear hown hO hr2 hr1 ho1 ho2 hn hi
  go_wp2_with fail
  go_loopw [5, 6] (fun v l w => ∃ (left : Int) (vs : List Value), l = .int .i64 left ∧ (vs.length : Int) ≤ n ∧ Outer w0 rb (p + 2) v left vs w) (fun v _ _ => 4 - lenOf v)
  case atStart => exact ⟨(most : Int), [], rfl, by simp; try omega, HST.out⟩
  case round =>
    obtain ⟨wo, rfl⟩ : ∃ wo : World, wo = wr := ⟨_, rfl⟩
    obtain ⟨left, vs, rfl, hvn, q, hown, hv4, hrows, hl0, hl1, hr, hq, hO⟩ := hrel
    obtain ⟨A, c, rfl⟩ := own_form hown
    have hlr := hr.lt
    by_cases hlen : (vs.length : Int) < n
    · go_wp2_with fail
      refine (one_any rb q _ _ _ _ _ ((hr.alloc _).alloc _) (by omega) (lit4 (by simp) 2 3 1 4) (by omega) (far_lit (by omega))).mono ?_
      rintro e w3 ⟨k, rfl, hk, hr3, ho3⟩
      have hk4 : 1 ≤ k ∧ k ≤ 4 := by simp at hk; omega
      have HIN : Hid (Inner wo rb (q + 1) (.slice (some ⟨wo.heap.size, 0, none⟩) 0 0) k left w3) :=
        ⟨0, [], q + 1, own_only (World.ownsRow.alloc (World.ownsRow_made wo #[] 0 (Nat.le_refl _) (by decide) rfl) _) ho3 hlr, by omega, by omega, hl0, hl1, hr3, by omega,
          (((Only.refl rb wo).alloc _).alloc _).trans ho3⟩
      have HOUT := Lib.hid (And.intro hown (And.intro hrows (And.intro hO hr)))
      clear hown hrows hO hr hr3 ho3 hk
      go_wp2_with fail
      go_loopw [6, 10, 11] (fun l v k w => ∃ (left k' : Int), l = .int .i64 left ∧ k = .int .i64 k' ∧ Inner wo rb (q + 1) v k' left w) (fun _ _ k _ => (intOf k).toNat)
      case atStart => exact ⟨left, k, rfl, rfl, HIN.out⟩
      case round =>
        clear HIN
        obtain ⟨left, k, rfl, rfl, nx, xs, q3, hown, hk0, hk1, hl0, hl1, hr, hq3, hO⟩ := hrel
        by_cases hkk : 0 < k
        · by_cases hll : 1 < left
          · go_wp2_with fail
            have hlrr := hr.lt
            refine (one_any rb _ _ _ _ _ _ (hr.alloc _) (by omega) (lit4 rfl 0 1 0 1) (by omega) (far_lit hlrr)).mono ?_
            rintro e w4 ⟨kd, rfl, hkd, hr4, ho4⟩
            go_wp2_with fail
            refine (pick_any rb _ items _ hr4 (by omega) (by omega)).mono ?_
            rintro e w5 ⟨it, rfl, hr5, _, hit, ho5⟩
            have hO5 := ((hO.alloc _).trans ho4).trans ho5
            have hown5 := own_only (own_only (hown.alloc _) ho4 hlr) ho5 hlr
            have hs5 := hO5.size
            go_wp2_with (at_builtin; refine app_ops (.tmp 38) (.tmp 47) (hown5.alloc _) (by simp; omega) (ROps.lit1 _ ⟨_, _, _⟩ _) (by omega) rfl rfl rfl rfl ?_; intro v6 w6 hown6 hg6 hat6)
            have hg6' := World.grownBy.trans (World.grownBy_alloc w5 _ _) hg6
            have hO6 := hO5.own hown5 (Nat.le_refl _) hg6'
            have hr6 := hr5.grown hg6' fun k hk => by have := (World.ownsRow.lt hown5 k hk).1; omega
            go_wp2_with fail
            go_roundw
            case rel => exact ⟨left - 1, k - 1, rfl, rfl, nx + 1, _, _, hown6, by omega, by omega, by omega, by omega, hr6, by omega, hO6⟩
            case measure => simp [intOf]; omega
          · skip
            obtain ⟨Al, cl, rfl⟩ := own_form hown
            by_cases hlp : 0 < left
            · go_wp2_with fail
              refine (pick_any rb _ 10 _ hr (by omega) (by omega)).mono ?_
              rintro e w4 ⟨pv, rfl, hr4, _, _, ho4⟩
              have hown4 := own_only hown ho4 hlr
              have hO4 := hO.trans ho4
              have hlr4 := hr4.lt
              have hgo4 : w4.ownsRow w0.heap.size 23 1 (.slice A vs.length c) vs.length vs := own_only HOUT.out.1 hO4 hlt
              have hs4 := hO4.size
              have hs0 := HOUT.out.2.2.1.size
              by_cases hpv : 0 < pv
              · go_wp2_with fail
                refine (one_any rb _ _ _ _ _ _ (hr4.alloc _) (by omega) (lit6 rfl 2 2 2 2 2 3) (by omega) (far_lit hlr4)).mono ?_
                rintro e w5 ⟨kd, rfl, hkd, hr5, ho5⟩
                have hown5 := own_only (hown4.alloc _) ho5 hlr
                have hO5 := (hO4.alloc _).trans ho5
                have hgo5 := own_only (hgo4.alloc _) ho5 hlt
                have hs5 := hO5.size
                go_wp2_with (first | (at_builtin; refine app_ops (.tmp 58) (.tmp 64) (hown5.alloc _) (by simp; omega) (ROps.lit1 _ ⟨_, _, _⟩ _) (by omega) rfl rfl rfl rfl ?_; intro v6 w6 hown6 hg6 hat6; obtain ⟨A6, c6, rfl⟩ := own_form hown6; have hg6' := World.grownBy.trans (World.grownBy_alloc w5 _ _) hg6; have hO6 := hO5.own hown5 (Nat.le_refl _) hg6'; have hr6 := hr5.grown hg6' (fun k hk => by have := (World.ownsRow.lt hown5 k hk).1; omega); have hgo6 := own_only HOUT.out.1 hO6 hlt; have hs6 := hO6.size) | (at_builtin; refine app_row (.tmp 68) (.tmp 70) (hgo6.alloc _) (by simp; omega) (own_one hown6) (heap_alloc_new _ _) (by omega) rfl rfl rfl rfl ?_; intro v7 w7 hown7 hg7))
                have hout := outer_step (left := left - 1) (p0 := p + 2) HOUT.out.1 HOUT.out.2.1 HOUT.out.2.2.1 hlt hO6 hown6 (by omega) _ rfl hown7 hg7 hr6 (by omega) (by omega) (by omega) (by omega)
                go_wp2_with fail
                go_roundw
                case rel => exact ⟨left - 1, vs ++ [_], rfl, by simp; omega, hout⟩
                case measure => obtain ⟨q7, h7, _⟩ := hout; obtain ⟨A7, c7, rfl⟩ := own_form h7; simp [lenOf]; omega
              · go_wp2_with (at_builtin; refine app_row (.tmp 68) (.tmp 70) (hgo4.alloc _) (by simp; omega) (own_one hown4) (heap_alloc_new _ _) (by omega) rfl rfl rfl rfl ?_; intro v7 w7 hown7 hg7)
                have hout := outer_step (left := left) (p0 := p + 2) HOUT.out.1 HOUT.out.2.1 HOUT.out.2.2.1 hlt hO4 hown4 (by omega) _ rfl hown7 hg7 hr4 (by omega) (by omega) (by omega) (by omega)
                go_wp2_with fail
                go_roundw
                case rel => exact ⟨left, vs ++ [_], rfl, by simp; omega, hout⟩
                case measure => obtain ⟨q7, h7, _⟩ := hout; obtain ⟨A7, c7, rfl⟩ := own_form h7; simp [lenOf]; omega
            · have hgo4 : wr.ownsRow w0.heap.size 23 1 (.slice A vs.length c) vs.length vs := own_only HOUT.out.1 hO hlt
              have hs4 := hO.size
              have hs0 := HOUT.out.2.2.1.size
              go_wp2_with (at_builtin; refine app_row (.tmp 68) (.tmp 70) (hgo4.alloc _) (by simp; omega) (own_one hown) (heap_alloc_new _ _) (by omega) rfl rfl rfl rfl ?_; intro v7 w7 hown7 hg7)
              have hout := outer_step (left := left) (p0 := p + 2) HOUT.out.1 HOUT.out.2.1 HOUT.out.2.2.1 hlt hO hown (by omega) _ rfl hown7 hg7 hr (by omega) (by omega) (by omega) (by omega)
              go_wp2_with fail
              go_roundw
              case rel => exact ⟨left, vs ++ [_], rfl, by simp; omega, hout⟩
              case measure => obtain ⟨q7, h7, _⟩ := hout; obtain ⟨A7, c7, rfl⟩ := own_form h7; simp [lenOf]; omega

        · skip
          obtain ⟨Al, cl, rfl⟩ := own_form hown
          by_cases hlp : 0 < left
          · go_wp2_with fail
            refine (pick_any rb _ 10 _ hr (by omega) (by omega)).mono ?_
            rintro e w4 ⟨pv, rfl, hr4, _, _, ho4⟩
            have hown4 := own_only hown ho4 hlr
            have hO4 := hO.trans ho4
            have hlr4 := hr4.lt
            have hgo4 : w4.ownsRow w0.heap.size 23 1 (.slice A vs.length c) vs.length vs := own_only HOUT.out.1 hO4 hlt
            have hs4 := hO4.size
            have hs0 := HOUT.out.2.2.1.size
            by_cases hpv : 0 < pv
            · go_wp2_with fail
              refine (one_any rb _ _ _ _ _ _ (hr4.alloc _) (by omega) (lit6 rfl 2 2 2 2 2 3) (by omega) (far_lit hlr4)).mono ?_
              rintro e w5 ⟨kd, rfl, hkd, hr5, ho5⟩
              have hown5 := own_only (hown4.alloc _) ho5 hlr
              have hO5 := (hO4.alloc _).trans ho5
              have hgo5 := own_only (hgo4.alloc _) ho5 hlt
              have hs5 := hO5.size
              go_wp2_with (first | (at_builtin; refine app_ops (.tmp 58) (.tmp 64) (hown5.alloc _) (by simp; omega) (ROps.lit1 _ ⟨_, _, _⟩ _) (by omega) rfl rfl rfl rfl ?_; intro v6 w6 hown6 hg6 hat6; obtain ⟨A6, c6, rfl⟩ := own_form hown6; have hg6' := World.grownBy.trans (World.grownBy_alloc w5 _ _) hg6; have hO6 := hO5.own hown5 (Nat.le_refl _) hg6'; have hr6 := hr5.grown hg6' (fun k hk => by have := (World.ownsRow.lt hown5 k hk).1; omega); have hgo6 := own_only HOUT.out.1 hO6 hlt; have hs6 := hO6.size) | (at_builtin; refine app_row (.tmp 68) (.tmp 70) (hgo6.alloc _) (by simp; omega) (own_one hown6) (heap_alloc_new _ _) (by omega) rfl rfl rfl rfl ?_; intro v7 w7 hown7 hg7))
              have hout := outer_step (left := left - 1) (p0 := p + 2) HOUT.out.1 HOUT.out.2.1 HOUT.out.2.2.1 hlt hO6 hown6 (by omega) _ rfl hown7 hg7 hr6 (by omega) (by omega) (by omega) (by omega)
              go_wp2_with fail
              go_roundw
              case rel => exact ⟨left - 1, vs ++ [_], rfl, by simp; omega, hout⟩
              case measure => obtain ⟨q7, h7, _⟩ := hout; obtain ⟨A7, c7, rfl⟩ := own_form h7; simp [lenOf]; omega
            · go_wp2_with (at_builtin; refine app_row (.tmp 68) (.tmp 70) (hgo4.alloc _) (by simp; omega) (own_one hown4) (heap_alloc_new _ _) (by omega) rfl rfl rfl rfl ?_; intro v7 w7 hown7 hg7)
              have hout := outer_step (left := left) (p0 := p + 2) HOUT.out.1 HOUT.out.2.1 HOUT.out.2.2.1 hlt hO4 hown4 (by omega) _ rfl hown7 hg7 hr4 (by omega) (by omega) (by omega) (by omega)
              go_wp2_with fail
              go_roundw
              case rel => exact ⟨left, vs ++ [_], rfl, by simp; omega, hout⟩
              case measure => obtain ⟨q7, h7, _⟩ := hout; obtain ⟨A7, c7, rfl⟩ := own_form h7; simp [lenOf]; omega
          · have hgo4 : wr.ownsRow w0.heap.size 23 1 (.slice A vs.length c) vs.length vs := own_only HOUT.out.1 hO hlt
            have hs4 := hO.size
            have hs0 := HOUT.out.2.2.1.size
            go_wp2_with (at_builtin; refine app_row (.tmp 68) (.tmp 70) (hgo4.alloc _) (by simp; omega) (own_one hown) (heap_alloc_new _ _) (by omega) rfl rfl rfl rfl ?_; intro v7 w7 hown7 hg7)
            have hout := outer_step (left := left) (p0 := p + 2) HOUT.out.1 HOUT.out.2.1 HOUT.out.2.2.1 hlt hO hown (by omega) _ rfl hown7 hg7 hr (by omega) (by omega) (by omega) (by omega)
            go_wp2_with fail
            go_roundw
            case rel => exact ⟨left, vs ++ [_], rfl, by simp; omega, hout⟩
            case measure => obtain ⟨q7, h7, _⟩ := hout; obtain ⟨A7, c7, rfl⟩ := own_form h7; simp [lenOf]; omega

    · go_wp2_with fail
      go_ret
      exact ⟨_, vs, left, rfl, q, hown, hv4, hrows, hl0, hl1, hr, hq, hO⟩
end Go.Proofs.Ytofcpfabjfhjoaa
namespace Go.Proofs.Ytofcpfabjfhjoaa
open Go.RowKit Go.BigFrame
set_option linter.unusedVariables false

theorem ROps.drop {w : World} {A : Option Addr} {n : Nat} {xs : List OpV} (h : ROps w A n xs) {k c : Nat} (hk : k ≤ n) (hc : n ≤ c) :
    ROps w (if c = k then A else A.map (·.add (k * 3))) (n - k) (xs.drop k) := by
  obtain ⟨h1, h2, h3⟩ := h
  refine ⟨by simp; omega, by omega, fun hn => ?_⟩
  obtain ⟨b, off, rfl, hlt, hcell⟩ := h3 (by omega)
  rw [if_neg (by omega)]
  refine ⟨b, off + k * 3, by simp [addr_add], hlt, fun i o ho => ?_⟩
  rw [List.getElem?_drop] at ho
  have := hcell _ o ho
  have e1 : off + (k + i) * 3 = off + k * 3 + i * 3 := by omega
  rw [e1] at this
  exact this

def tot (vs : List Value) : Nat := (vs.map lenOf).sum
theorem tot_set (vs : List Value) (t : Nat) (u x : Value) (h : vs[t]? = some x) : tot (vs.set t u) + lenOf x = tot vs + lenOf u := by
  induction vs generalizing t with
  | nil => simp at h
  | cons y r ih =>
    cases t with
    | zero => simp at h; subst h; simp [tot]; omega
    | succ t =>
      have := ih t (by simpa using h)
      simp [tot] at *
      omega
theorem tot_le (vs : List Value) (k : Nat) (h : ∀ v ∈ vs, lenOf v ≤ k) : tot vs ≤ vs.length * k := by
  induction vs with
  | nil => simp [tot]
  | cons y r ih =>
    have h1 := ih (fun v hv => h v (by simp [hv]))
    have h2 := h y (by simp)
    simp [tot] at *
    rw [Nat.add_mul]; omega

/-- The cut of a row. -/
theorem RowV.cut {w : World} {lo hi n c k : Nat} {A : Option Addr} (h : RowV w lo hi (.slice A n c)) (hk : k ≤ n) : RowV w lo hi (.slice (if c = k then A else A.map (·.add (k * 3))) (n - k) (c - k)) := by
  obtain ⟨A', n', c', xs, hv, hnc, hn, hr, hA⟩ := h
  injection hv with h1 h2 h3
  subst h1; subst h2; subst h3
  refine ⟨_, _, _, _, rfl, by omega, by omega, hr.drop hk hnc, fun ad had => ?_⟩
  split at had
  · exact hA _ had
  · cases A with
    | none => cases had
    | some a =>
      simp at had
      subst had
      have : (a.add (k * 3)).block = a.block := by unfold Addr.add; split <;> rfl
      rw [this]
      exact hA _ rfl

/-- What the great loop of goodSchedule carries. -/
def Good (w0 : World) (rb L P K : Nat) (lv ov : Value) (w : World) : Prop := K ≤ 4 ∧
  ∃ (n : Nat) (xs : List OpV) (vs : List Value) (p : Nat), w.ownsRow w0.heap.size 23 1 lv K vs ∧ RowsV w w0.heap.size L vs ∧ w.ownsRow L 46 3 ov n (opCells xs) ∧
    n + tot vs ≤ 20 ∧ Rd w rb p ∧ p ≤ P + 4 * n ∧ Only rb w0 w ∧ L ≤ w.heap.size
/-- What the loop over the rows carries: only rows that are not empty are listed. -/
def Some_ (ws : World) (rb p k : Nat) (vs : List Value) (sv : Value) (w : World) : Prop :=
  ∃ (ts : List Int), ts.length ≤ k ∧ w.ownsRow ws.heap.size 3 1 sv ts.length (intCells ts) ∧ (∀ x ∈ ts, 0 ≤ x ∧ ∃ A n c, vs[x.toNat]? = some (.slice A n c) ∧ 0 < n) ∧ Rd w rb p ∧ Only rb ws w
def GoodPost (w0 : World) (rb : Nat) (e : Ending) (w : World) : Prop :=
  ∃ (v : Value) (n : Nat) (xs : List OpV) (p : Nat), e = .returned v ∧ w.ownsRow w0.heap.size 46 3 v n (opCells xs) ∧ n ≤ 20 ∧ Rd w rb p ∧ p ≤ 60000 ∧ Only rb w0 w


theorem mem_snoc {P : Int → Prop} {ts : List Int} {x : Int} (h : ∀ y ∈ ts, P y) (hx : P x) : ∀ y ∈ ts ++ [x], P y := by
  intro y hy
  simp only [List.mem_append, List.mem_singleton] at hy
  rcases hy with hy | rfl
  · exact h y hy
  · exact hx
theorem own_len {w : World} {base : Nat} {e : TypeId} {size n : Nat} {v : Value} {xs : List Value} (h : w.ownsRow base e size v n xs) : lenOf v = n := by
  obtain ⟨A, c, rfl⟩ := own_form h
  rfl
theorem row_len {w : World} {lo hi n c : Nat} {A : Option Addr} (h : RowV w lo hi (.slice A n c)) : n ≤ 5 := by
  obtain ⟨A', n', c', xs, hv, hnc, hn, _⟩ := h
  injection hv with h1 h2 h3
  omega
theorem own_block {w : World} {base : Nat} {e : TypeId} {size n : Nat} {v : Value} {xs : List Value} (h : w.ownsRow base e size v n xs) (hn : 0 < n) : ∃ g c, v = .slice (some ⟨g, 0, none⟩) n c ∧ base ≤ g ∧ g < w.heap.size := by
  rcases h.2 with ⟨h1, h2⟩ | ⟨g, cap, cur, h1, h2, h3, _⟩
  · omega
  · exact ⟨g, cap, h1, h2, lt_of_block h3⟩

theorem own_base {w : World} {base base' : Nat} {e : TypeId} {size n : Nat} {v : Value} {xs : List Value} (h : w.ownsRow base e size v n xs) (hb : base' ≤ base) : w.ownsRow base' e size v n xs := by
  refine ⟨h.1, ?_⟩
  rcases h.2 with h2 | ⟨g, cap, cur, h1, h2, r⟩
  · exact .inl h2
  · exact .inr ⟨g, cap, cur, h1, by omega, r⟩
theorem own_apart {w w' : World} {b1 b2 : Nat} {e1 e2 : TypeId} {s1 s2 n1 n2 : Nat} {v1 v2 : Value} {x1 x2 : List Value} (h1 : w.ownsRow b1 e1 s1 v1 n1 x1) (h2 : w.ownsRow b2 e2 s2 v2 n2 x2) (hne : e1 ≠ e2)
    (hg : w.grownBy w' v2.ownBlock) : w'.ownsRow b1 e1 s1 v1 n1 x1 := by
  refine World.ownsRow.kept h1 hg ?_
  rcases h1.2 with ⟨rfl, _⟩ | ⟨g, cap, cur, rfl, _, hh, _⟩
  · exact .inl rfl
  · refine .inr (fun e => ?_)
    rcases h2.2 with ⟨rfl, _⟩ | ⟨g', cap', cur', rfl, _, hh', _⟩
    · simp [Value.ownBlock] at e
    · simp [Value.ownBlock] at e
      subst e
      rw [hh] at hh'
      injection hh' with hh'
      injection hh' with _ hh' _
      exact hne hh'

/-- What a round of the great loop comes to: the row t is cut by k operations, which went to 'out'. -/
theorem good_step {w0 w w6 : World} {rb L P K n nt ct k p t g cl : Nat} {ov v' : Value} {vs : List Value} {xs ys : List OpV} {A : Option Addr} (hrb : rb < w0.heap.size) (hK : K ≤ 4)
    (hlv : w.ownsRow w0.heap.size 23 1 (.slice (some ⟨g, 0, none⟩) K cl) K vs) (hrows : RowsV w w0.heap.size L vs) (hL : L ≤ w.heap.size) (hov : w.ownsRow L 46 3 ov n (opCells xs)) (hL0 : w0.heap.size ≤ L)
    (hsum : n + tot vs ≤ 20) (hr : Rd w rb p) (hO : Only rb w0 w) (ht : vs[t]? = some (.slice A nt ct)) (hk1 : 1 ≤ k) (hk2 : k ≤ nt)
    (hown6 : w6.ownsRow L 46 3 v' (n + k) (opCells (xs ++ ys))) (hg6 : w.grownBy w6 ov.ownBlock) (hp : p ≤ P + 4 * (n + k)) :
    Good w0 rb L P K (.slice (some ⟨g, 0, none⟩) K cl) v' (w6.setCell ⟨g, t, none⟩ (.slice (if ct = k then A else A.map (·.add (k * 3))) (nt - k) (ct - k))) ∧ w6.cell? ⟨g, t, none⟩ = some (.slice A nt ct) ∧ w6.frozen? ⟨g, t, none⟩ = false := by
  have htl : t < vs.length := by
    rcases Nat.lt_or_ge t vs.length with h | h
    · exact h
    · rw [List.getElem?_eq_none h] at ht; cases ht
  have hvl : vs.length = K := by simpa using hlv.1
  have hg0 := World.ownsRow.lt hlv g rfl
  have hO6 := hO.own hov (by omega) hg6
  have hr6 := hr.grown hg6 fun j hj => by have := (World.ownsRow.lt hov j hj).1; omega
  have hlv6 := own_apart hlv hov (by decide) hg6
  have hs6 := hg6.size
  have hrows6 : RowsV w6 w0.heap.size L vs := by
    refine hrows.keep (fun b h1 h2 _ => hg6.block b (by omega) (fun e => ?_)) hs6
    have := (World.ownsRow.lt hov b e.symm).1
    omega
  have hst := hlv6.stored t (.slice (if ct = k then A else A.map (·.add (k * 3))) (nt - k) (ct - k))
  refine ⟨⟨hK, n + k, xs ++ ys, vs.set t (.slice (if ct = k then A else A.map (·.add (k * 3))) (nt - k) (ct - k)), p, hst.1, ?_, ?_, ?_, ?_, hp, ?_, by simp [World.setCell]; omega⟩, ?_, hlv6.frozenAt t⟩
  · have hkeep : ∀ b, w0.heap.size ≤ b → b < L → (∃ cs fr, w6.heap[b]? = some (.cells cs 46 fr)) → (w6.setCell ⟨g, t, none⟩ (.slice (if ct = k then A else A.map (·.add (k * 3))) (nt - k) (ct - k))).heap[b]? = w6.heap[b]? := by
      intro b _ _ ⟨cs, fr, hb⟩
      refine Below.heap_setCell _ _ _ _ (fun e => ?_)
      simp at e
      subst e
      rcases hlv6.2 with ⟨h1, _⟩ | ⟨g', cap', cur', h1, _, hh', _⟩
      · cases h1
      · injection h1 with h1 _ _
        injection h1 with h1
        injection h1 with h1
        subst h1
        rw [hb] at hh'
        injection hh' with hh'
        injection hh' with _ hh' _
        exact absurd hh' (by decide)
    intro u hu
    rcases List.mem_or_eq_of_mem_set hu with hu | rfl
    · exact (hrows6 u hu).keep hkeep (by simp [World.setCell])
    · exact ((hrows6 _ (List.mem_of_getElem? ht)).cut (by omega)).keep hkeep (by simp [World.setCell])
  · exact own_apart (e2 := 23) hown6 hlv6 (by decide) (by simpa [Value.ownBlock] using hst.2)
  · have := tot_set vs t (.slice (if ct = k then A else A.map (·.add (k * 3))) (nt - k) (ct - k)) _ ht
    simp [lenOf] at this
    omega
  · exact hr6.grown hst.2 fun j hj => by injection hj with hj; omega
  · exact hO6.grown hst.2 fun j hj => by injection hj with hj; omega
  · have := hlv6.cellAt t (by omega)
    rw [this]; exact ht

set_option maxRecDepth 100000 in
set_option maxHeartbeats 2000000 in
theorem goodSchedule_any (rb p most : Nat) (w0 : World) (h : Rd w0 rb p) (hp : p ≤ 50000) (hm : most ≤ 16) :
    Calls Try.prog 116 #[.pointer (some ⟨rb, 0, none⟩), .int .i64 (most : Int)] w0 (GoodPost w0 rb) := by
  have hlt := h.lt
  go_enter Try.func116, Try.ntmps116
  go_wp2_with fail
  refine (programs_any rb p most w0 h hp hm).mono ?_
  rintro e w1 ⟨lv, vs, left, rfl, q, hlv, hv4, hrows, _, _, hr1, hq1, hO1⟩
  have hlt1 := hr1.lt
  go_wp2_with fail
  refine (pick_any rb q 4 _ (hr1.alloc _) (by omega) (by omega)).mono ?_
  rintro e w2 ⟨sw, rfl, hr2, _, _, ho2⟩
  have hs2 := ho2.size
  have hs1 := hO1.size
  have ht5 : ∀ v ∈ vs, lenOf v ≤ 5 := by
    intro v hv
    obtain ⟨A, n, c, xs, rfl, _, hn, _⟩ := hrows v hv
    exact hn
  have htot := tot_le vs 5 ht5
  have HST : Hid (Good w0 rb w1.heap.size 50100 vs.length lv (.slice (some ⟨w1.heap.size, 0, none⟩) 0 0) w2) :=
    ⟨hv4, 0, [], vs, q + 1, own_only (hlv.alloc _) ho2 hlt, (hrows.keep (fun b h1 h2 _ => Below.heap_alloc _ _ _ h2) (by simp)).only ho2 (by simp) hlt,
      own_only (World.ownsRow_made w1 #[] 0 (Nat.le_refl _) (by decide) rfl) ho2 hlt1, by omega, hr2, by omega, (hO1.alloc _).trans ho2, by simp at hs2; omega⟩
  obtain ⟨Al, cl, rfl⟩ := own_form hlv
  generalize hk : vs.length = K at *
  have HK := Lib.hid hk
  clear hk hlv hrows hr1 hq1 hO1 hr2 ho2 ht5 htot
  go_wp2_with fail
  go_loopw [6] (fun ov w => Good w0 rb w1.heap.size 50100 K (.slice Al K cl) ov w) (fun ov _ => 21 - lenOf ov)
  case atStart => exact HST.out
  case round =>
    clear HST HK vs
    obtain ⟨wo, rfl⟩ : ∃ wo : World, wo = wr := ⟨_, rfl⟩
    obtain ⟨hK4, n, xs, vs, p3, hlv, hrows, hov, hsum, hr, hp3, hO, hLw⟩ := hrel
    have hlr := hr.lt
    have hvl : vs.length = K := by simpa using hlv.1
    have HIN : Hid (Some_ wo rb p3 0 vs (.slice (some ⟨wo.heap.size, 0, none⟩) 0 0) (wo.alloc (.cells #[] 3))) :=
      ⟨[], by simp, World.ownsRow_made wo #[] 0 (Nat.le_refl _) (by decide) rfl, by simp, hr.alloc _, (Only.refl _ _).alloc _⟩
    have HO := Lib.hid (And.intro hlv (And.intro hrows (And.intro hov (And.intro hr (And.intro hO hvl)))))
    clear hlv hrows hov hr hO hvl
    go_wp2_with fail
    go_loopw [8, 9] (fun sv t w => ∃ k : Nat, k ≤ K ∧ t = .int .i64 k ∧ Some_ wo rb p3 k vs sv w) (fun _ t _ => K - (intOf t).toNat)
    case atStart => exact ⟨0, by omega, rfl, HIN.out⟩
    case round =>
      clear HIN
      obtain ⟨k, hk, rfl, ts, htk, hts, hin, hr, hOi⟩ := hrel
      by_cases hkK : k < K
      · have hlw := own_only HO.out.1 hOi hlt
        obtain ⟨g, cl', hve, hg1, hg2⟩ := own_block hlw (by omega)
        injection hve with hA _ hc
        subst hA; subst hc
        have hcell : wr.cell? ⟨g, k, none⟩ = vs[k]? := by simpa using hlw.cellAt k (by omega)
        obtain ⟨u, hu⟩ : ∃ u, vs[k]? = some u := ⟨vs[k]'(by have := HO.out.2.2.2.2.2; omega), List.getElem?_eq_getElem _⟩
        obtain ⟨A, nt, ct, ys, rfl, hnc, hn5, hro, hAA⟩ := HO.out.2.1 u (List.mem_of_getElem? hu)
        rw [hu] at hcell
        have HU := Lib.hid hu
        clear hu hro hAA hlw
        have hsz := hOi.size
        by_cases hnt : 0 < nt
        · go_wp2_with (at_builtin; refine app_ints (.tmp 32) (.tmp 34) (hts.alloc _) (by simp; omega) (lit1 rfl (k : Int)) (by omega) rfl rfl rfl rfl ?_; intro v6 w6 hown6 hg6 hat6)
          have hg6' := World.grownBy.trans (World.grownBy_alloc wr _ _) hg6
          have hO6 := hOi.own hts (Nat.le_refl _) hg6'
          have hr6 := hr.grown hg6' fun j hj => by have := (World.ownsRow.lt hts j hj).1; omega
          go_wp2_with fail
          go_roundw
          case rel => exact ⟨k + 1, by omega, by go_num, ts ++ [(k : Int)], by simp; omega, by simpa using hown6, mem_snoc hin ⟨by omega, _, _, _, by simpa using HU.out, hnt⟩, hr6, hO6⟩
          case measure => simp [intOf]; omega
        · go_wp2_with fail
          go_roundw
          case rel => exact ⟨k + 1, by omega, by go_num, ts, by omega, hts, hin, hr, hOi⟩
          case measure => simp [intOf]; omega
      · obtain ⟨As, cs, rfl⟩ := own_form hts
        have hsz := hOi.size
        by_cases hts0 : ts.length = 0
        · have hovr := own_only HO.out.2.2.1 hOi hlt1
          have hO' := HO.out.2.2.2.2.1.trans hOi
          go_wp2_with fail
          go_ret
          exact ⟨_, n, xs, p3, rfl, own_base hovr (by omega), by omega, hr, by omega, hO'⟩
        · go_wp2_with fail
          refine (pick_any rb p3 _ _ hr (by omega) (by omega)).mono ?_
          rintro e w4 ⟨pv, rfl, hr4, _, hpv, ho4⟩
          obtain ⟨hpv0, hpv1⟩ := hpv (by omega)
          have hso := HO.out.2.2.2.2.1.size
          have hs4 := ho4.size
          obtain ⟨b, off, x, hAs, _, hx, hc4⟩ := (RInts.of_own (own_only hts ho4 (by omega)) (by omega)).at_ (k := pv.toNat) (by omega)
          subst hAs
          obtain ⟨hx0, A, nt, ct, hvx, hnt⟩ := hin x (List.mem_of_getElem? hx)
          obtain ⟨X, rfl⟩ := Int.eq_ofNat_of_zero_le hx0
          rw [Int.toNat_natCast] at hvx
          have hxK : X < K := by
            have h1 := HO.out.2.2.2.2.2
            rcases Nat.lt_or_ge X vs.length with h | h
            · omega
            · rw [List.getElem?_eq_none h] at hvx; cases hvx
          have hlw4 := own_only (own_only HO.out.1 hOi hlt) ho4 hlt
          obtain ⟨g, cl', hve, hg1, hg2⟩ := own_block hlw4 (by omega)
          injection hve with hA _ hc
          subst hA; subst hc
          have hcell4 : w4.cell? ⟨g, X, none⟩ = some (.slice A nt ct) := by rw [hlw4.cellAt X (by omega)]; exact hvx
          have HU := Lib.hid hvx
          have hnt5 := row_len (HO.out.2.1 _ (List.mem_of_getElem? hvx))
          clear hvx hx hin hlw4 hts
          by_cases hsw : sw = 0
          · go_wp2_with fail
            refine (pick_any rb _ _ _ hr4 (by omega) (by omega)).mono ?_
            rintro e w5 ⟨pk, rfl, hr5, _, hpk, ho5⟩
            obtain ⟨hpk0, hpk1⟩ := hpk (by omega)
            obtain ⟨k, rfl⟩ := Int.eq_ofNat_of_zero_le hpk0
            have hs5 := ho5.size
            have ho45 := ho4.trans ho5
            have hlwf := own_only (own_only HO.out.1 hOi hlt) ho45 hlt
            have hcell5 : w5.cell? ⟨g, X, none⟩ = some (.slice A nt ct) := by rw [hlwf.cellAt X (by omega)]; exact HU.out
            have hov5 := own_only (own_only HO.out.2.2.1 hOi hlt1) ho45 hlt1
            have hrows5 := (HO.out.2.1.only hOi (by omega) hlt).only ho45 (by omega) hlt
            obtain ⟨A', n', c', ys, hv', hnc, hn5, hro, _⟩ := hrows5 _ (List.mem_of_getElem? HU.out)
            injection hv' with e1 e2 e3
            subst e1; subst e2; subst e3
            have hro' := hro.take (k := 1 + k) (by omega)
            have HR := Lib.hid (And.intro hlwf (And.intro hrows5 (And.intro hov5 hro')))
            clear hlwf hrows5 hro hro'
            go_wp2_with (at_builtin; refine app_ops (.tmp 56) (.tmp 62) hov5 (by omega) HR.out.2.2.2 (by omega) rfl rfl rfl rfl ?_; intro v6 w6 hown6 hg6 hat6; obtain ⟨hgood, hcell6, hfr6⟩ := good_step (k := 1 + k) (P := 50100) hlt hK4 HR.out.1 HR.out.2.1 (by omega) hov5 (by omega) hsum hr5 ((HO.out.2.2.2.2.1.trans hOi).trans ho45) HU.out (by omega) (by omega) hown6 hg6 (by omega))
            all_goals
              go_roundw
              case rel =>
                first
                  | (have e : ct = 1 + k := by assumption
                     rw [if_pos e, show ct - (1 + k) = 0 from by omega] at hgood
                     exact hgood)
                  | (rw [if_neg (by omega)] at hgood
                     exact hgood)
              case measure =>
                have e6 := own_len hown6
                have e5 := own_len hov5
                omega
          · have hlwf := own_only (own_only HO.out.1 hOi hlt) ho4 hlt
            have hcell5 : w4.cell? ⟨g, X, none⟩ = some (.slice A nt ct) := by rw [hlwf.cellAt X (by omega)]; exact HU.out
            have hov5 := own_only (own_only HO.out.2.2.1 hOi hlt1) ho4 hlt1
            have hrows5 := (HO.out.2.1.only hOi (by omega) hlt).only ho4 (by omega) hlt
            obtain ⟨A', n', c', ys, hv', hnc, hn5, hro, _⟩ := hrows5 _ (List.mem_of_getElem? HU.out)
            injection hv' with e1 e2 e3
            subst e1; subst e2; subst e3
            have hro' := hro.take (k := 1) (by omega)
            have HR := Lib.hid (And.intro hlwf (And.intro hrows5 (And.intro hov5 hro')))
            clear hlwf hrows5 hro hro'
            go_wp2_with (at_builtin; refine app_ops (.tmp 56) (.tmp 62) hov5 (by omega) HR.out.2.2.2 (by omega) rfl rfl rfl rfl ?_; intro v6 w6 hown6 hg6 hat6; obtain ⟨hgood, hcell6, hfr6⟩ := good_step (k := 1) (P := 50100) hlt hK4 HR.out.1 HR.out.2.1 (by omega) hov5 (by omega) hsum hr4 ((HO.out.2.2.2.2.1.trans hOi).trans ho4) HU.out (by omega) (by omega) hown6 hg6 (by omega))
            all_goals
              go_roundw
              case rel =>
                first
                  | (have e : ct = 1 := by assumption
                     rw [if_pos e, show ct - (1) = 0 from by omega] at hgood
                     exact hgood)
                  | (rw [if_neg (by omega)] at hgood
                     exact hgood)
              case measure =>
                have e6 := own_len hown6
                have e5 := own_len hov5
                omega
end Go.Proofs.Ytofcpfabjfhjoaa
namespace Go.Proofs.Ytofcpfabjfhjoaa
open Go.RowKit Go.BigFrame
set_option linter.unusedVariables false

theorem opCells_set (xs : List OpV) : ∀ (i : Nat) (o : OpV), xs[i]? = some o → ∀ v : Int,
    (opCells xs).set (i * 3) (.int .i64 v) = opCells (xs.set i ⟨v, o.kind, o.item⟩) ∧ (opCells xs).set (i * 3 + 1) (.int .i64 v) = opCells (xs.set i ⟨o.tx, v, o.item⟩) ∧
    (opCells xs).set (i * 3 + 2) (.int .i64 v) = opCells (xs.set i ⟨o.tx, o.kind, v⟩) := by
  induction xs with
  | nil => intro i o h; simp at h
  | cons x r ih =>
    intro i o h v
    cases i with
    | zero => simp at h; subst h; simp [opCells]
    | succ i =>
      obtain ⟨h0, h1, h2⟩ := ih i o (by simpa using h) v
      have e : (i + 1) * 3 = i * 3 + 3 := by omega
      refine ⟨?_, ?_, ?_⟩
      · rw [e]; simp [opCells, h0]
      · rw [e]; simp [opCells, h1]
      · rw [e]; simp [opCells, h2]

def BentPost (w0 : World) (rb L n : Nat) (v : Value) (e : Ending) (w : World) : Prop :=
  ∃ (xs : List OpV) (p : Nat), e = .returned v ∧ w.ownsRow L 46 3 v n (opCells xs) ∧ Rd w rb p ∧ p ≤ 80000 ∧ Only rb w0 w

theorem bent_step {w0 w : World} {rb L n p g c : Nat} {xs : List OpV} (hown : w.ownsRow L 46 3 (.slice (some ⟨g, 0, none⟩) n c) n (opCells xs)) (hr : Rd w rb p) (hp : p ≤ 80000) (hO : Only rb w0 w)
    (hL : w0.heap.size ≤ L) (hrb : rb < w0.heap.size) (i : Nat) (hi : i < n) (v : Int) :
    BentPost w0 rb L n (.slice (some ⟨g, 0, none⟩) n c) (.returned (.slice (some ⟨g, 0, none⟩) n c)) (w.setCell ⟨g, i * 3, none⟩ (.int .i64 v)) ∧
    BentPost w0 rb L n (.slice (some ⟨g, 0, none⟩) n c) (.returned (.slice (some ⟨g, 0, none⟩) n c)) (w.setCell ⟨g, i * 3 + 1, none⟩ (.int .i64 v)) ∧
    BentPost w0 rb L n (.slice (some ⟨g, 0, none⟩) n c) (.returned (.slice (some ⟨g, 0, none⟩) n c)) (w.setCell ⟨g, i * 3 + 2, none⟩ (.int .i64 v)) := by
  have hl := hown.1
  rw [length_opCells] at hl
  have e : xs[i]? = some (xs[i]'(by omega)) := List.getElem?_eq_getElem (by omega)
  have hset := opCells_set xs i _ e v
  have hg := World.ownsRow.lt hown g rfl
  have hk : ∀ j, Rd (w.setCell ⟨g, j, none⟩ (.int .i64 v)) rb p ∧ Only rb w0 (w.setCell ⟨g, j, none⟩ (.int .i64 v)) := fun j =>
    ⟨hr.grown (hown.stored j _).2 fun k hk => by injection hk with hk; omega, hO.grown (hown.stored j _).2 fun k hk => by injection hk with hk; omega⟩
  have h0 := (hown.stored (i * 3) (.int .i64 v)).1
  have h1 := (hown.stored (i * 3 + 1) (.int .i64 v)).1
  have h2 := (hown.stored (i * 3 + 2) (.int .i64 v)).1
  rw [hset.1] at h0
  rw [hset.2.1] at h1
  rw [hset.2.2] at h2
  exact ⟨⟨_, p, rfl, h0, (hk _).1, hp, (hk _).2⟩, ⟨_, p, rfl, h1, (hk _).1, hp, (hk _).2⟩, ⟨_, p, rfl, h2, (hk _).1, hp, (hk _).2⟩⟩

theorem own_cells3 {w : World} {L n c g : Nat} {xs : List OpV} (hown : w.ownsRow L 46 3 (.slice (some ⟨g, 0, none⟩) n c) n (opCells xs)) {i : Nat} (hi : i < n) : ∃ o : OpV,
    w.cell? ⟨g, i * 3, none⟩ = some (.int .i64 o.tx) ∧ w.cell? ⟨g, i * 3 + 1, none⟩ = some (.int .i64 o.kind) ∧ w.cell? ⟨g, i * 3 + 2, none⟩ = some (.int .i64 o.item) := by
  have hl := hown.1
  rw [length_opCells] at hl
  have e : xs[i]? = some (xs[i]'(by omega)) := List.getElem?_eq_getElem (by omega)
  obtain ⟨c0, c1, c2⟩ := opCells_at xs i _ e
  exact ⟨_, (hown.cellAt _ (by omega)).trans c0, (hown.cellAt _ (by omega)).trans c1, (hown.cellAt _ (by omega)).trans c2⟩

set_option maxRecDepth 100000 in
set_option maxHeartbeats 2000000 in
theorem bent_any (rb p L n c : Nat) (A : Option Addr) (xs : List OpV) (w0 w : World) (h : Rd w rb p) (hp : p ≤ 70000) (hown : w.ownsRow L 46 3 (.slice A n c) n (opCells xs)) (hn : n ≤ 20) (hO : Only rb w0 w)
    (hL : w0.heap.size ≤ L) (hrb : rb < w0.heap.size) :
    Calls Try.prog 115 #[.pointer (some ⟨rb, 0, none⟩), .slice A n c] w (BentPost w0 rb L n (.slice A n c)) := by
  have hsz := hO.size
  go_enter Try.func115, Try.ntmps115
  go_wp2_with fail
  refine (pick_any rb p 40 w h (by omega) (by omega)).mono ?_
  rintro e w1 ⟨k, rfl, hr1, _, _, ho1⟩
  have hown1 := own_only hown ho1 (by omega)
  have hO1 := hO.trans ho1
  have hend : Hid (BentPost w0 rb L n (.slice A n c) (.returned (.slice A n c)) w1) := ⟨xs, _, rfl, hown1, hr1, by omega, hO1⟩
  by_cases hn0 : 0 < n
  · obtain ⟨g, c', hve, hg1, hg2⟩ := own_block hown1 hn0
    injection hve with hA _ hc
    subst hA; subst hc
    clear hown
    by_cases h0 : k = 0
    · go_wp2_with fail
      refine (pick_any rb _ _ _ hr1 (by omega) (by omega)).mono ?_
      rintro e w2 ⟨i, rfl, hr2, _, hi, ho2⟩
      obtain ⟨hi0, hi1⟩ := hi (by omega)
      obtain ⟨i, rfl⟩ := Int.eq_ofNat_of_zero_le hi0
      have hown2 := own_only hown1 ho2 (by omega)
      have hs2 := ho2.size
      have hlt2 := hr2.lt
      go_wp2_with fail
      refine (one_any rb _ _ _ _ _ _ (hr2.alloc _) (by omega) (lit3 rfl 4 (-1) 2) (by omega) (far_lit hlt2)).mono ?_
      rintro e w3 ⟨v, rfl, _, hr3, ho3⟩
      have hown3 := own_only (hown2.alloc _) ho3 (by omega)
      have hst := (bent_step hown3 hr3 (by omega) (((hO1.trans ho2).alloc _).trans ho3) hL hrb i (by omega) v).2.1
      obtain ⟨o, d0, d1, d2⟩ := own_cells3 hown3 (i := i) (by omega)
      have hf := hown3.frozenAt (i * 3 + 1)
      go_wp2_with fail
      go_ret
      exact hst
    · by_cases h1 : k = 1
      · go_wp2_with fail
        refine (pick_any rb _ _ _ hr1 (by omega) (by omega)).mono ?_
        rintro e w2 ⟨i, rfl, hr2, _, hi, ho2⟩
        obtain ⟨hi0, hi1⟩ := hi (by omega)
        obtain ⟨i, rfl⟩ := Int.eq_ofNat_of_zero_le hi0
        have hown2 := own_only hown1 ho2 (by omega)
        have hs2 := ho2.size
        have hlt2 := hr2.lt
        go_wp2_with fail
        refine (one_any rb _ _ _ _ _ _ (hr2.alloc _) (by omega) (lit3 rfl 4 (-1) 0) (by omega) (far_lit hlt2)).mono ?_
        rintro e w3 ⟨v, rfl, _, hr3, ho3⟩
        have hown3 := own_only (hown2.alloc _) ho3 (by omega)
        have hst := (bent_step hown3 hr3 (by omega) (((hO1.trans ho2).alloc _).trans ho3) hL hrb i (by omega) v).1
        obtain ⟨o, d0, d1, d2⟩ := own_cells3 hown3 (i := i) (by omega)
        have hf := hown3.frozenAt (i * 3)
        go_wp2_with fail
        go_ret
        exact hst
      · by_cases h2 : k = 2
        · go_wp2_with fail
          refine (pick_any rb _ _ _ hr1 (by omega) (by omega)).mono ?_
          rintro e w2 ⟨i, rfl, hr2, _, hi, ho2⟩
          obtain ⟨hi0, hi1⟩ := hi (by omega)
          obtain ⟨i, rfl⟩ := Int.eq_ofNat_of_zero_le hi0
          have hown2 := own_only hown1 ho2 (by omega)
          have hs2 := ho2.size
          have hlt2 := hr2.lt
          go_wp2_with fail
          refine (one_any rb _ _ _ _ _ _ (hr2.alloc _) (by omega) (lit3 rfl 3 (-1) 1) (by omega) (far_lit hlt2)).mono ?_
          rintro e w3 ⟨v, rfl, _, hr3, ho3⟩
          have hown3 := own_only (hown2.alloc _) ho3 (by omega)
          have hst := (bent_step hown3 hr3 (by omega) (((hO1.trans ho2).alloc _).trans ho3) hL hrb i (by omega) v).2.2
          obtain ⟨o, d0, d1, d2⟩ := own_cells3 hown3 (i := i) (by omega)
          have hf := hown3.frozenAt (i * 3 + 2)
          go_wp2_with fail
          go_ret
          exact hst
        · clear hown1 hr1 ho1 hO1
          go_wp2_with fail
          go_ret
          exact hend.out
  · have hn1 : n = 0 := by omega
    subst hn1
    clear hown hown1 hr1 ho1 hO1
    by_cases h0 : k = 0
    · go_wp2_with fail
      go_ret
      exact hend.out
    · by_cases h1 : k = 1
      · go_wp2_with fail
        go_ret
        exact hend.out
      · by_cases h2 : k = 2
        · go_wp2_with fail
          go_ret
          exact hend.out
        · go_wp2_with fail
          go_ret
          exact hend.out

/-- Some operations, at most twenty, in memory of the call's own. -/
def Drawn (w0 : World) (e : Ending) (w : World) : Prop :=
  ∃ (A : Option Addr) (n c : Nat) (xs : List OpV), e = .returned (.slice A n c) ∧ w.ownsRow w0.heap.size 46 3 (.slice A n c) n (opCells xs) ∧ n ≤ 20 ∧ Below w0.heap.size w0 w

def SomeSched (w0 : World) (rb : Nat) (e : Ending) (w : World) : Prop :=
  ∃ (A : Option Addr) (n c p : Nat) (xs : List OpV), e = .returned (.slice A n c) ∧ w.ownsRow w0.heap.size 46 3 (.slice A n c) n (opCells xs) ∧ n ≤ 20 ∧ Rd w rb p ∧ p ≤ 80000 ∧ Only rb w0 w

set_option maxHeartbeats 400000 in
theorem someSchedule_any (rb p : Nat) (w : World) (h : Rd w rb p) (hp : p ≤ 50000) :
    Calls Try.prog 67 #[.pointer (some ⟨rb, 0, none⟩)] w (SomeSched w rb) := by
  have hlt := h.lt
  go_enter Try.func67, Try.ntmps67
  go_wp2_with fail
  refine (goodSchedule_any rb p 16 w h hp (by omega)).mono ?_
  rintro e w1 ⟨v, n, xs, q, rfl, hown, hn, hr, hq, hO⟩
  obtain ⟨A, c, rfl⟩ := own_form hown
  go_wp2_with fail
  refine (bent_any rb q w.heap.size n c A xs w w1 hr (by omega) hown hn hO (Nat.le_refl _) hlt).mono ?_
  rintro e w2 ⟨xs', q', rfl, hown', hr', hq', hO'⟩
  go_wp2_with fail
  go_ret
  exact ⟨A, n, c, q', xs', rfl, hown', hn, hr', hq', hO'⟩

set_option maxHeartbeats 400000 in
theorem DrawSurvivorsOf_any (A : Option Addr) (n c : Nat) (w : World) (hx : RBytes w A n) (hc : n ≤ c) :
    Calls Try.prog 15 #[.slice A n c] w (Drawn w) := by
  go_enter Try.func15, Try.ntmps15
  go_wp2_with fail
  refine (newReader_any A n c w hx hc).mono ?_
  rintro e w1 ⟨rb, rfl, hrb, hr, hb⟩
  go_wp2_with fail
  refine (someSchedule_any rb 0 w1 hr (by omega)).mono ?_
  rintro e w2 ⟨A', n', c', p', xs, rfl, hown, hn', _, _, hO⟩
  go_wp2_with fail
  go_ret
  have hs := hb.size
  exact ⟨A', n', c', xs, rfl, own_base hown hs, hn', hb.trans ⟨hO.os, hO.tape, hO.output, hO.size, fun k hk => hO.heap (by omega) (by omega)⟩⟩
#print axioms DrawSurvivorsOf_any
end Go.Proofs.Ytofcpfabjfhjoaa
