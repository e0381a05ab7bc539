/-
  PointsOf of the reference.
-/
import Derived.Test.YtcakjhappchlmaaQWLkP1
import Derived.Test.YtcakjhappchlmaaPkLkG
namespace Go.Proofs.Ytcakjhappchlmaa
open Go.RowKit Go.BigFrame
set_option linter.unusedVariables false

def lastPt (st : List OpV) (i : Nat) (o : OpV) (j : Nat) : Bool := decide (o.kind ≤ 1) && ((st.take j).drop (i + 1)).all fun p => p.tx != o.tx || decide (1 < p.kind)
theorem lastPt_start (st : List OpV) (i : Nat) (o : OpV) : lastPt st i o (i + 1) = decide (o.kind ≤ 1) := by
  unfold lastPt
  rw [List.drop_eq_nil_of_le (List.length_take_le _ _)]
  simp
theorem lastPt_succ {st : List OpV} {i j : Nat} {o p : OpV} (hij : i + 1 ≤ j) (h : st[j]? = some p) : lastPt st i o (j + 1) = (lastPt st i o j && (p.tx != o.tx || decide (1 < p.kind))) := by
  have hj : j < st.length := (List.getElem?_eq_some_iff.1 h).1
  unfold lastPt
  rw [take_snoc h, List.drop_append_of_le_length (by rw [List.length_take]; omega), List.all_append]
  simp [Bool.and_assoc]
theorem lastPt_end {st : List OpV} {i n : Nat} {o : OpV} (h : st.length ≤ n) : lastPt st i o n = lastB st i o := by
  unfold lastPt lastB
  rw [List.take_of_length_le h]

set_option maxRecDepth 100000 in
set_option maxHeartbeats 4000000 in
theorem sPointsOf_any (A : Option Addr) (n c : Nat) (st : List OpV) (w : World) (hx : ROps w A n st) :
    Calls Try.prog 27 #[.slice A n c] w (RetInts w (orNil (validL st) (ptI st))) := by
  have hn := hx.2.1
  have hl := hx.1
  have HX := Lib.hid hx
  have hva := svalidSteps_any A n c st w hx
  obtain ⟨bv, hbv⟩ : ∃ b, validL st = b := ⟨_, rfl⟩
  rw [hbv] at hva
  rw [hbv]
  have HVA := Lib.hid hva
  have HBV := Lib.hid hbv
  clear hx hva hbv
  cases bv
  · go_enter Try.func27, Try.ntmps27
    go_wp2_with (go_at_call 76; refine HVA.out.mono ?_; rintro e w1 ⟨rfl, hbw⟩)
    go_ret
    exact RetInts.nil hbw
  · have h40 : n ≤ 40 := by have := (validL_iff.1 HBV.out).1; omega
    go_enter Try.func27, Try.ntmps27
    go_wp2_with (go_at_call 76; refine HVA.out.mono ?_; rintro e w1 ⟨rfl, hbw⟩; have HST : Hid ((w1.alloc (.cells #[] 3)).ownsRow w.heap.size 3 1 (.slice (some ⟨w1.heap.size, 0, none⟩) 0 0) 0 (intCells (ptTo st 0))) := World.ownsRow_made w1 #[] 0 hbw.size (by decide) rfl; have HB1 : Hid (Below w.heap.size w (w1.alloc (.cells #[] 3))) := hbw.alloc hbw.size _)
    go_loopw [3, 4] (fun ov i wr => ∃ (k m : Nat), k ≤ n ∧ m ≤ k ∧ i = .int .i64 k ∧ Below w.heap.size w wr ∧ wr.ownsRow w.heap.size 3 1 ov m (intCells (ptTo st k))) (fun _ i _ => n - (intOf i).toNat)
    case atStart => exact ⟨0, 0, by omega, by omega, rfl, HB1.out, HST.out⟩
    case round =>
      clear HST HB1
      obtain ⟨wo, rfl⟩ : ∃ wo : World, wo = wr := ⟨_, rfl⟩
      obtain ⟨k, m, hk, hmk, rfl, hb, hown⟩ := hrel
      obtain ⟨Ao, co, rfl, hmc⟩ := own_form2 hown
      by_cases hlt : k < n
      · obtain ⟨b, off, o, rfl, hbl, ho, c0, c1, c2⟩ := (HX.out.below hb (Nat.le_refl _)).at_ hlt
        have HT := Lib.hid (ptTo_succ ho)
        have HL0 := Lib.hid (lastPt_start st k o)
        have HOWN := Lib.hid hown
        have hs := hb.size
        have hkd : decide ((k : Int) < (n : Int)) = true := by simp; omega
        have HCO : Hid (∀ u : World, Below wo.heap.size wo u → u.cell? ⟨b, off + k * 3, none⟩ = some (.int .i64 o.tx) ∧ u.cell? ⟨b, off + k * 3 + 1, none⟩ = some (.int .i64 o.kind)) := fun u hu => ⟨Later.cell c0 ⟨u, hu⟩, Later.cell c1 ⟨u, hu⟩⟩
        clear ho hown
        obtain ⟨tx, kd, it⟩ := o
        simp only at c0 c1 c2 HCO HT HL0
        go_wp2_with fail
        clear c0 c1 c2
        go_loopw [5, 6] (fun lv i' wr' => ∃ j : Nat, k + 1 ≤ j ∧ j ≤ n ∧ lv = .bool (lastPt st k ⟨tx, kd, it⟩ j) ∧ i' = .int .i64 j ∧ Below wo.heap.size wo wr') (fun _ i' _ => n - (intOf i').toNat)
        case atStart => exact ⟨k + 1, by omega, by omega, by rw [HL0.out], by go_num, Below.refl _ _⟩
        case round =>
          obtain ⟨j, hkj, hj, rfl, rfl, hbr⟩ := hrel
          obtain ⟨bl, hbl'⟩ : ∃ q, lastPt st k ⟨tx, kd, it⟩ j = q := ⟨_, rfl⟩
          rw [hbl']
          have HBL := Lib.hid hbl'
          clear hbl'
          obtain ⟨c0, c1⟩ := HCO.out wr hbr
          have hb2 := hb.trans (hbr.mono hs)
          by_cases hlt2 : j < n
          · have hat := (HX.out.below hb2 (Nat.le_refl _)).at_ hlt2
            obtain ⟨b', off', p, hA, hbl2, hp, d0, d1, d2⟩ := hat
            injection hA with hA
            injection hA with hA1 hA2
            subst hA1; subst hA2
            have HS := Lib.hid (lastPt_succ (o := ⟨tx, kd, it⟩) hkj hp)
            rw [HBL.out] at HS
            have hjd : decide ((j : Int) < (n : Int)) = true := by simp; omega
            clear hp
            obtain ⟨px, pk, pi⟩ := p
            simp only at d0 d1 d2 HS
            have L0 := Later.cell c0
            have L1 := Later.cell c1
            have M0 := Later.cell d0
            have M1 := Later.cell d1
            cases bl
            · go_wp2_with fail
              refine region_later (by kernel_rfl) (by kernel_rfl) ?_
              repeat (go_big_quiet_step (fail))
              refine wpQuiet_nil ?_
              rintro _ ⟨u, rfl⟩
              go_wp2_with fail
              go_roundw
              case rel => exact ⟨j + 1, by omega, by omega, by rw [HS.out]; rfl, by go_num, hbr.trans (u.2.mono hbr.size)⟩
              case measure => simp [intOf]; omega
            · by_cases hpx : px = tx
              · subst hpx
                have hne : (px != px) = false := by simp
                by_cases hpk : 1 < pk
                · have hpd : decide (1 < pk) = true := by simpa using hpk
                  rw [hne, hpd] at HS
                  go_wp2_with fail
                  refine region_later (by kernel_rfl) (by kernel_rfl) ?_
                  repeat (go_big_quiet_step (fail))
                  refine wpQuiet_nil ?_
                  rintro _ ⟨u, rfl⟩
                  go_wp2_with fail
                  go_roundw
                  case rel => exact ⟨j + 1, by omega, by omega, by rw [HS.out]; rfl, by go_num, hbr.trans (u.2.mono hbr.size)⟩
                  case measure => simp [intOf]; omega
                · have hpd : decide (1 < pk) = false := by simpa using hpk
                  rw [hne, hpd] at HS
                  go_wp2_with fail
                  refine region_later (by kernel_rfl) (by kernel_rfl) ?_
                  repeat (go_big_quiet_step (fail))
                  refine wpQuiet_nil ?_
                  rintro _ ⟨u, rfl⟩
                  go_wp2_with fail
                  go_roundw
                  case rel => exact ⟨j + 1, by omega, by omega, by rw [HS.out]; rfl, by go_num, hbr.trans (u.2.mono hbr.size)⟩
                  case measure => simp [intOf]; omega
              · have hne : (px != tx) = true := by simpa using hpx
                rw [hne] at HS
                go_wp2_with fail
                refine region_later (by kernel_rfl) (by kernel_rfl) ?_
                repeat (go_big_quiet_step (fail))
                refine wpQuiet_nil ?_
                rintro _ ⟨u, rfl⟩
                go_wp2_with fail
                go_roundw
                case rel => exact ⟨j + 1, by omega, by omega, by rw [HS.out]; rfl, by go_num, hbr.trans (u.2.mono hbr.size)⟩
                case measure => simp [intOf]; omega
          · have hjd : decide ((j : Int) < (n : Int)) = false := by simp; omega
            have hjn : j = n := by omega
            have HE : Hid (lastB st k ⟨tx, kd, it⟩ = bl) := by show _ = _; rw [← lastPt_end (n := n) (by omega), ← hjn]; exact HBL.out
            rw [HE.out] at HT
            have hown2 := own_below HOWN.out hbr
            clear hjn
            cases bl
            · go_wp2_with fail
              go_roundw
              case rel => exact ⟨k + 1, m, by omega, by omega, by go_num, hb2, by rw [HT.out]; exact hown2⟩
              case measure => simp [intOf]; omega
            · go_wp2_with (at_builtin; go_loud (refine app_ints (.tmp 54) (.tmp 60) (hown2.alloc _) (by have := hb2.size; simp; omega) (lit1 rfl _) (by omega) rfl rfl rfl rfl ?_; intro v5 w5 hown5 hg5 hat5; have hb5 := Below.own hb2 hown2 (Nat.le_refl _) (World.grownBy.trans (World.grownBy_alloc _ _ _) hg5); have HF := Lib.hid (And.intro hb5 hown5); clear hb5 hown5 hg5 hat5))
              go_roundw
              case rel => exact ⟨k + 1, m + 1, by omega, by omega, by go_num, HF.out.1, by rw [HT.out]; exact HF.out.2⟩
              case measure => simp [intOf]; omega
      · obtain rfl : k = n := by omega
        have hkd : decide ((k : Int) < (k : Int)) = false := by simp
        have e : ptTo st k = ptI st := by unfold ptI; rw [hl]
        rw [e] at hown
        have HO := Lib.hid (RetInts.mk (c := co) (own_lenInts hown) hmc (FreshInts.of_own hown (Nat.le_refl _) (by omega)) hb)
        clear hown e
        go_wp2_with fail
        go_ret
        exact HO.out
end Go.Proofs.Ytcakjhappchlmaa
