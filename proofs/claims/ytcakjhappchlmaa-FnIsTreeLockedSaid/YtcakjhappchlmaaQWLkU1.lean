/-
  The reference's IsTreeLocked.
-/
import Derived.Test.YtcakjhappchlmaaQWLkU0
namespace Go.Proofs.Ytcakjhappchlmaa
open Go.RowKit Go.BigFrame
set_option linter.unusedVariables false

/-- Another LkOwn of t ahead; one of the item. -/
def hasOwn (p : List OpV) (t : Int) : Bool := p.any fun q => q.tx == t && q.kind == 1
def hasOwnX (p : List OpV) (t x : Int) : Bool := p.any fun q => q.tx == t && q.kind == 1 && q.item == x
theorem hasOwn_snoc (p : List OpV) (q : OpV) (t : Int) : hasOwn (p ++ [q]) t = (hasOwn p t || (q.tx == t && q.kind == 1)) := by simp [hasOwn]
theorem hasOwnX_snoc (p : List OpV) (q : OpV) (t x : Int) : hasOwnX (p ++ [q]) t x = (hasOwnX p t x || (q.tx == t && q.kind == 1 && q.item == x)) := by simp [hasOwnX]
theorem treeAt_own (ps : List Int) (p : List OpV) {o : OpV} (h : o.kind = 1) : treeAt ps p o = (!hasOwnX p o.tx o.item && (!hasOwn p o.tx || (decide (0 ≤ ps.getD o.item.toNat (-1)) && heldI p o.tx (ps.getD o.item.toNat (-1)) == 1))) := by
  unfold treeAt
  rw [if_neg (by omega), if_pos h]
  rfl
/-- All is well up to k. -/
def treeTo (ps : List Int) (st : List OpV) (k : Nat) : Prop := ∀ j, j < k → ∀ o, st[j]? = some o → treeAt ps (st.take j) o = true
theorem treeTo_succ {ps : List Int} {st : List OpV} {k : Nat} {o : OpV} (h : treeTo ps st k) (ho : st[k]? = some o) (hk : treeAt ps (st.take k) o = true) : treeTo ps st (k + 1) := fun j hj p hp => by
  by_cases e : j = k
  · subst e; rw [ho] at hp; injection hp with hp; subst hp; exact hk
  · exact h j (by omega) p hp
theorem treeB_no {ps : List Int} {st : List OpV} {k : Nat} {o : OpV} (ho : st[k]? = some o) (hk : treeAt ps (st.take k) o = false) : treeB ps st = false := by
  cases h : treeB ps st
  · rfl
  · rw [treeB_iff.1 h k o ho] at hk; cases hk
theorem treeB_yes {ps : List Int} {st : List OpV} {k : Nat} (h : treeTo ps st k) (hk : st.length ≤ k) : treeB ps st = true := treeB_iff.2 fun i o ho => h i (by have := (List.getElem?_eq_some_iff.1 ho).1; omega) o ho
theorem ok_item {o : OpV} (h : okStep o = true) : ∃ x : Nat, o.item = (x : Int) ∧ x < 3 := by
  have := okStep_iff.1 h
  exact ⟨o.item.toNat, by omega, by omega⟩

set_option maxRecDepth 100000 in
set_option maxHeartbeats 4000000 in
theorem sIsTreeLocked_any (A B : Option Addr) (n c m d : Nat) (st : List OpV) (ps : List Int) (w : World) (hx : ROps w A n st) (hy : RInts w B m ps) :
    Calls Try.prog 43 #[.slice A n c, .slice B m d] w fun e w' => e = .returned (.bool (validL st && parB ps && treeB ps st)) ∧ Below w.heap.size w w' := by
  have hn := hx.2.1
  have hl := hx.1
  have hlm := hy.1
  have HX := Lib.hid hx
  have HY := Lib.hid hy
  have hva := svalidSteps_any A n c st w hx
  obtain ⟨bv, hbv⟩ : ∃ b, validL st = b := ⟨_, rfl⟩
  rw [hbv] at hva ⊢
  have HVA := Lib.hid hva
  have HBV := Lib.hid hbv
  have hpa : ∀ W : World, Below w.heap.size w W → Calls Try.prog 108 #[.slice B m d] W fun e w' => e = .returned (.bool (parB ps)) ∧ W = w' := fun W hW => validTree_any B m d ps W (HY.out.below hW (Nat.le_refl _))
  obtain ⟨bp, hbp⟩ : ∃ b, parB ps = b := ⟨_, rfl⟩
  rw [hbp] at hpa ⊢
  have HPA := Lib.hid hpa
  have HBP := Lib.hid hbp
  have HL := Lib.hid hl
  have HLM := Lib.hid hlm
  clear hx hy hva hbv hpa hbp hl hlm
  cases bv
  · go_enter Try.func43, Try.ntmps43
    go_wp2_with (go_at_call 76; refine HVA.out.mono ?_; rintro e w1 ⟨rfl, hb1⟩)
    go_ret
    exact ⟨rfl, hb1⟩
  · cases bp
    · go_enter Try.func43, Try.ntmps43
      go_wp2_with (first
        | (go_at_call 76; refine HVA.out.mono ?_; rintro e w1 ⟨rfl, hb1⟩)
        | (go_at_call 108; refine (HPA.out w1 hb1).mono ?_; rintro e w2 ⟨rfl, rfl⟩))
      go_ret
      exact ⟨rfl, hb1⟩
    · have hm3 : m = 3 := by
        have := HLM.out
        rcases parB_iff.1 HBP.out with e | e <;> rw [e] at this <;> simp at this <;> omega
      subst hm3
      have HOK : Hid (∀ s ∈ st, okStep s = true) := (validL_iff.1 HBV.out).2
      simp only [Bool.true_and]
      go_enter Try.func43, Try.ntmps43
      go_wp2_with (first
        | (go_at_call 76; refine HVA.out.mono ?_; rintro e w1 ⟨rfl, hb1⟩)
        | (go_at_call 108; go_loud (refine (HPA.out w1 hb1).mono ?_; rintro e w2 ⟨rfl, rfl⟩; have HB1 := Lib.hid hb1; clear hb1)))
      go_loopw [5] (fun i wr => ∃ k : Nat, k ≤ n ∧ i = .int .i64 k ∧ Below w.heap.size w wr ∧ treeTo ps st k) (fun i _ => n - (intOf i).toNat)
      case atStart => exact ⟨0, by omega, rfl, HB1.out, fun j hj => by omega⟩
      case round =>
        clear HB1
        obtain ⟨wo, rfl⟩ : ∃ wo : World, wo = wr := ⟨_, rfl⟩
        obtain ⟨k, hk, rfl, hb, htr⟩ := hrel
        by_cases hlt : k < n
        · obtain ⟨b, off, o, rfl, hbl, ho, c0, c1, c2⟩ := (HX.out.below hb (Nat.le_refl _)).at_ hlt
          have hs := hb.size
          have hkd : decide ((k : Int) < (n : Int)) = true := by simp; omega
          have HTS : Hid (treeAt ps (st.take k) o = true → treeTo ps st (k + 1)) := fun h => treeTo_succ htr ho h
          have HTN : Hid (treeAt ps (st.take k) o = false → treeB ps st = false) := fun h => treeB_no ho h
          obtain ⟨X, hX, hX3⟩ := ok_item (HOK.out o (List.mem_of_getElem? ho))
          have HCO : Hid (∀ u : World, Below wo.heap.size wo u → u.cell? ⟨b, off + k * 3, none⟩ = some (.int .i64 o.tx) ∧ u.cell? ⟨b, off + k * 3 + 1, none⟩ = some (.int .i64 o.kind) ∧ u.cell? ⟨b, off + k * 3 + 2, none⟩ = some (.int .i64 o.item)) := fun u hu => ⟨Later.cell c0 ⟨u, hu⟩, Later.cell c1 ⟨u, hu⟩, Later.cell c2 ⟨u, hu⟩⟩
          obtain ⟨tx, kd, it⟩ := o
          simp only at c0 c1 c2 hX HCO
          subst hX
          clear htr ho
          by_cases k0 : kd = 0
          · subst k0
            have HV := Lib.hid (HTN.out (by unfold treeAt; simp))
            clear HTN HTS HCO
            go_wp2_with fail
            go_ret
            exact ⟨ret_bool HV.out.symm, hb⟩
          · have k0d : (kd == 0) = false := by simpa using k0
            by_cases k1 : kd = 1
            · subst k1
              obtain ⟨P, hP⟩ : ∃ P, st.take k = P := ⟨_, rfl⟩
              rw [hP] at HTS HTN
              rw [treeAt_own ps P rfl] at HTS HTN
              simp only [Int.toNat_natCast] at HTS HTN
              have hgX := (HY.out.below hb (Nat.le_refl _)).at_ (k := X) (by omega)
              obtain ⟨bp, offp, v, hpA, hbp, hv, cv⟩ := hgX
              subst hpA
              have hvd : ps.getD X (-1) = v := by rw [List.getD_eq_getElem?_getD, hv]; rfl
              simp only [hvd] at HTS HTN
              have HCV : Hid (∀ u : World, Below wo.heap.size wo u → u.cell? ⟨bp, offp + X, none⟩ = some (.int .i64 v)) := fun u hu => Later.cell cv ⟨u, hu⟩
              have HVR : Hid (v < 3 ∧ -1 ≤ v) := by
                have := parB_okPar HBP.out X v hv
                unfold okPar at this
                show _ ∧ _
                omega
              have HPP := Lib.hid hP
              clear hv hvd hP cv
              go_wp2_with fail
              clear c0 c1 c2
              go_loopw [6, 7] (fun f i' wr' => ∃ j : Nat, j ≤ k ∧ i' = .int .i64 j ∧ f = .bool (!hasOwn (st.take j) tx) ∧ hasOwnX (st.take j) tx (X : Int) = false ∧ Below wo.heap.size wo wr') (fun _ i' _ => k - (intOf i').toNat)
              case atStart => exact ⟨0, by omega, rfl, rfl, rfl, Below.refl _ _⟩
              case round =>
                obtain ⟨j, hj, rfl, rfl, hno, hbr⟩ := hrel
                obtain ⟨c0, c1, c2⟩ := HCO.out wr hbr
                have hb2 := hb.trans (hbr.mono hs)
                obtain ⟨ho1, hho⟩ : ∃ q, hasOwn (st.take j) tx = q := ⟨_, rfl⟩
                rw [hho]
                by_cases hjk : j < k
                · have hjd : decide ((j : Int) < (k : Int)) = true := by simp; omega
                  have hat := (HX.out.below hb2 (Nat.le_refl _)).at_ (k := j) (by omega)
                  obtain ⟨b', off', p, hA, hbl2, hp, d0, d1, d2⟩ := hat
                  injection hA with hA
                  injection hA with hA1 hA2
                  subst hA1; subst hA2
                  have HN1 : Hid (hasOwn (st.take (j + 1)) tx = (ho1 || (p.tx == tx && p.kind == 1))) := by show _ = _; rw [take_snoc hp, hasOwn_snoc, hho]
                  have HN2 : Hid (hasOwnX (st.take (j + 1)) tx (X : Int) = (p.tx == tx && p.kind == 1 && p.item == (X : Int))) := by show _ = _; rw [take_snoc hp, hasOwnX_snoc, hno, Bool.false_or]
                  have HST : Hid (hasOwnX (st.take (j + 1)) tx (X : Int) = true → treeB ps st = false) := fun h => by
                    refine HTN.out ?_
                    have : hasOwnX P tx (X : Int) = true := by
                      rw [← HPP.out]
                      unfold hasOwnX at h ⊢
                      obtain ⟨q, hq, hh⟩ := List.any_eq_true.1 h
                      refine List.any_eq_true.2 ⟨q, ?_, hh⟩
                      have : st.take (j + 1) = (st.take k).take (j + 1) := by rw [List.take_take, Nat.min_eq_left (by omega)]
                      rw [this] at hq
                      exact List.mem_of_mem_take hq
                    rw [this]; rfl
                  clear hp hno hho
                  obtain ⟨px, pk, pi⟩ := p
                  simp only at d0 d1 d2 HN1 HN2
                  have L0 := Later.cell c0
                  have L2 := Later.cell c2
                  have M0 := Later.cell d0
                  have M1 := Later.cell d1
                  have M2 := Later.cell d2
                  have hjk3 : (j : Int) < (n : Int) := by omega
                  have hkn3 : (k : Int) < (n : Int) := by omega
                  clear c0 c1 c2 d0 d1 d2
                  by_cases hpx : px = tx
                  · subst hpx
                    have e1 : (px == px) = true := by simp
                    by_cases hpk : pk = 1
                    · subst hpk
                      by_cases hpi : pi = (X : Int)
                      · subst hpi
                        have HV := Lib.hid (HST.out (by rw [HN2.out]; simp))
                        clear HST HN1 HN2 HTS HTN
                        go_wp2_with fail
                        refine region_later (by kernel_rfl) (by kernel_rfl) ?_
                        repeat (go_big_quiet_step (fail))
                        refine wpQuiet_nil ?_
                        rintro _ ⟨u, rfl⟩
                        have hbu := hbr.trans (u.2.mono hbr.size)
                        obtain ⟨c0, c1, c2⟩ := HCO.out u.1 hbu
                        have L3 := Later.cell c2
                        have M3 := Later.cell (M2 u)
                        clear c0 c1 c2 L0 L2 M0 M1 M2
                        go_wp2_with fail
                        refine region_later (by kernel_rfl) (by kernel_rfl) ?_
                        repeat (go_big_quiet_step (fail))
                        refine wpQuiet_nil ?_
                        rintro _ ⟨u2, rfl⟩
                        go_wp2_with fail
                        go_ret
                        exact ⟨ret_bool HV.out.symm, hb.trans ((hbu.trans (u2.2.mono hbu.size)).mono hs)⟩
                      · have hpid : (pi == (X : Int)) = false := by simpa using hpi
                        clear HST HTS HTN
                        go_wp2_with fail
                        refine region_later (by kernel_rfl) (by kernel_rfl) ?_
                        repeat (go_big_quiet_step (fail))
                        refine wpQuiet_nil ?_
                        rintro _ ⟨u, rfl⟩
                        have hbu := hbr.trans (u.2.mono hbr.size)
                        obtain ⟨c0, c1, c2⟩ := HCO.out u.1 hbu
                        have L3 := Later.cell c2
                        have M3 := Later.cell (M2 u)
                        clear c0 c1 c2 L0 L2 M0 M1 M2
                        go_wp2_with fail
                        refine region_later (by kernel_rfl) (by kernel_rfl) ?_
                        repeat (go_big_quiet_step (fail))
                        refine wpQuiet_nil ?_
                        rintro _ ⟨u2, rfl⟩
                        go_wp2_with fail
                        go_roundw
                        case rel => exact ⟨j + 1, by omega, by go_num, by rw [HN1.out]; simp, by rw [HN2.out]; simp [hpi], hbu.trans (u2.2.mono hbu.size)⟩
                        case measure => simp [intOf]; omega
                    · have hpkd : (pk == 1) = false := by simpa using hpk
                      clear HST HTS HTN
                      go_wp2_with fail
                      refine region_later (by kernel_rfl) (by kernel_rfl) ?_
                      repeat (go_big_quiet_step (fail))
                      refine wpQuiet_nil ?_
                      rintro _ ⟨u, rfl⟩
                      have hbu := hbr.trans (u.2.mono hbr.size)
                      go_wp2_with fail
                      go_roundw
                      case rel => exact ⟨j + 1, by omega, by go_num, by rw [HN1.out]; simp [hpk], by rw [HN2.out]; simp [hpk], hbu⟩
                      case measure => simp [intOf]; omega
                  · have e1 : (px == tx) = false := by simpa using hpx
                    clear HST HTS HTN
                    go_wp2_with fail
                    refine region_later (by kernel_rfl) (by kernel_rfl) ?_
                    repeat (go_big_quiet_step (fail))
                    refine wpQuiet_nil ?_
                    rintro _ ⟨u, rfl⟩
                    have hbu := hbr.trans (u.2.mono hbr.size)
                    go_wp2_with fail
                    go_roundw
                    case rel => exact ⟨j + 1, by omega, by go_num, by rw [HN1.out]; simp [hpx], by rw [HN2.out]; simp [hpx], hbu⟩
                    case measure => simp [intOf]; omega
                · have hjd : decide ((j : Int) < (k : Int)) = false := by simp; omega
                  obtain rfl : j = k := by omega
                  rw [HPP.out] at hno hho
                  rw [hno, hho] at HTS HTN
                  have cv := HCV.out wr hbr
                  have hvr := HVR.out
                  have hjn3 : (j : Int) < (n : Int) := by omega
                  clear hno hho
                  cases ho1
                  · have HG := Lib.hid (HTS.out rfl)
                    clear HTS HTN
                    go_wp2_with fail
                    go_roundw
                    case rel => exact ⟨j + 1, by omega, by go_num, hb2, HG.out⟩
                    case measure => simp [intOf]; omega
                  · by_cases hv0 : v < 0
                    · have hv0d : decide (v < 0) = true := by simpa using hv0
                      have HV := Lib.hid (HTN.out (by simp; omega))
                      clear HTS HTN
                      go_wp2_with fail
                      go_ret
                      exact ⟨ret_bool HV.out.symm, hb2⟩
                    · have hv0d : decide (v < 0) = false := by simp; omega
                      obtain ⟨h, hh⟩ : ∃ h, heldI P tx v = h := ⟨_, rfl⟩
                      have hcl := held_any (some ⟨b, off, none⟩) n c st j tx v wr (HX.out.below hb2 (Nat.le_refl _)) (by omega)
                      rw [HPP.out, hh] at hcl
                      rw [hh] at HTS HTN
                      have HCL := Lib.hid hcl
                      clear hcl hh
                      by_cases h1 : h = 1
                      · subst h1
                        have HG := Lib.hid (HTS.out (by simp; omega))
                        clear HTS HTN
                        go_wp2_with (go_at_call 81; refine HCL.out.mono ?_; rintro e w5 ⟨rfl, hb5⟩)
                        go_roundw
                        case rel => exact ⟨j + 1, by omega, by go_num, hb2.trans (hb5.mono hb2.size), HG.out⟩
                        case measure => simp [intOf]; omega
                      · have h1d : (h != 1) = true := by simpa using h1
                        have HV := Lib.hid (HTN.out (by simp [h1]))
                        clear HTS HTN
                        go_wp2_with (go_at_call 81; refine HCL.out.mono ?_; rintro e w5 ⟨rfl, hb5⟩)
                        go_ret
                        exact ⟨ret_bool HV.out.symm, hb2.trans (hb5.mono hb2.size)⟩
            · have k1d : (kd != 1) = true := by simpa using k1
              have HG := Lib.hid (HTS.out (by unfold treeAt; rw [if_neg k0, if_neg k1]))
              clear HTS HTN HCO
              go_wp2_with fail
              go_roundw
              case rel => exact ⟨k + 1, by omega, by go_num, hb, HG.out⟩
              case measure => simp [intOf]; omega
        · have hkd : decide ((k : Int) < (n : Int)) = false := by simp; omega
          have HV := Lib.hid (treeB_yes htr (by have := HL.out; omega))
          clear htr
          go_wp2_with fail
          go_ret
          exact ⟨ret_bool HV.out.symm, hb⟩

end Go.Proofs.Ytcakjhappchlmaa
