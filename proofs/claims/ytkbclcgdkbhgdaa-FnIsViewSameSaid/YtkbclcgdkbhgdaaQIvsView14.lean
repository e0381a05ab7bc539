/-
  viewSame of the program: the walk.
-/
import Derived.Test.YtkbclcgdkbhgdaaQIvsView13
import Derived.Test.YtkbclcgdkbhgdaaQIvsView8
import Derived.Test.YtkbclcgdkbhgdaaPkOrdX1
namespace Go.Proofs.Ytkbclcgdkbhgdaa
open Go.RowKit Go.BigFrame
set_option linter.unusedVariables false

/-- What a view tells for a read is the same in both. -/
def VwT (a b : List OpV) (i : Nat) (o : OpV) : Prop := o.kind = 0 → vsrc a i o = vsrc b (mirN a b i) o

set_option maxRecDepth 100000 in
set_option maxHeartbeats 2000000 in
theorem viewSame_any (A B : Option Addr) (n m c d : Nat) (a b : List OpV) (w : World) (hx : ROps w A n a) (hy : ROps w B m b) (hnc : n ≤ c) (hmd : m ≤ d) (hva : validS a = true) (hvb : validS b = true) :
    Calls Try.prog 60 #[.slice A n c, .slice B m d] w fun e w' => e = .returned (.bool (viewB a b)) ∧ Below w.heap.size w w' := by
  have hna : a.length ≤ 1099511627776 := by rw [hx.1]; exact hx.2.1
  have hnb : b.length ≤ 1099511627776 := by rw [hy.1]; exact hy.2.1
  have hxa : Tx4 a := fun o ho => validS_tx3 hva ho
  have hxb : Tx4 b := fun o ho => validS_tx3 hvb ho
  have HX := Lib.hid hx
  have HY := Lib.hid hy
  have HNA := Lib.hid hna
  have HNB := Lib.hid hnb
  have HXA := Lib.hid hxa
  have HXB := Lib.hid hxb
  have HSO := Lib.hid (sameOps_any A B n m c d a b w hx hy)
  have HSI := Lib.hid (sameOps_iff hxa hxb)
  have HOA := Lib.hid (validS_ops hva)
  have HOB := Lib.hid (validS_ops hvb)
  clear hx hy hva hvb hxa hxb hna hnb
  go_enter Try.func60, Try.ntmps60
  go_wp2_with fail
  cases hso : sameOpsB a b
  · have HF : Hid (viewB a b = false) := view_not_ops fun h => by have := HSI.out.2 h; rw [hso] at this; cases this
    rw [hso] at HSO
    refine HSO.out.mono ?_
    rintro e w3 ⟨rfl, hb3⟩
    go_wp2_with fail
    go_ret
    exact ⟨ret_bool HF.out.symm, hb3⟩
  have HS : Hid (SameOps a b) := HSI.out.1 hso
  rw [hso] at HSO
  clear hso HSI
  refine HSO.out.mono ?_
  rintro e w3 ⟨rfl, hb3⟩
  have HFA := Lib.hid (finalsOf_any A n c a w3 (HX.out.below hb3 (Nat.le_refl _)) HOA.out)
  clear HSO
  go_wp2_with fail
  refine HFA.out.mono ?_
  rintro e w4 ⟨X, xc, rfl, hxc, hfx, hb4'⟩
  have hb4 := hb3.trans (hb4'.mono hb3.size)
  have HXF := Lib.hid hfx.1
  have HFB := Lib.hid (finalsOf_any B m d b w4 (HY.out.below hb4 (Nat.le_refl _)) HOB.out)
  clear hfx HFA hb4' hb3
  go_wp2_with fail
  refine HFB.out.mono ?_
  rintro e w5 ⟨Y, yc, rfl, hyc, hfy, hb5'⟩
  have hb5 := hb4.trans (hb5'.mono hb4.size)
  have HEQ := Lib.hid (EqualS_any X Y (finI a).length xc (finI b).length yc (finI a) (finI b) w5 (HXF.out.below hb5' (Nat.le_refl _)) hfy.1)
  have e1 : (finI a).length = 3 := rfl
  have e2 : (finI b).length = 3 := rfl
  clear hfy HFB HXF hb5' hb4
  by_cases hfe : finI a = finI b
  rotate_left
  · have HF : Hid (viewB a b = false) := view_not_fin hfe
    have e3 : (finI a == finI b) = false := by rw [beq_eq_false_iff_ne]; exact hfe
    rw [e3] at HEQ
    clear hfe e3 e1 e2 hxc hyc
    go_wp2_with fail
    refine HEQ.out.mono ?_
    rintro e w6 ⟨rfl, hb6⟩
    go_wp2_with fail
    go_ret
    exact ⟨ret_bool HF.out.symm, hb5.trans (hb6.mono hb5.size)⟩
  have HFE := Lib.hid hfe
  have e3 : (finI a == finI b) = true := by rw [hfe]; simp
  rw [e3] at HEQ
  clear hfe e3 e1 e2 hxc hyc
  go_wp2_with fail
  refine HEQ.out.mono ?_
  rintro e w6 ⟨rfl, hb6'⟩
  have hb6 := hb5.trans (hb6'.mono hb5.size)
  have HVB := Lib.hid (viewOf_any B m d b w6 (HY.out.below hb6 (Nat.le_refl _)) hmd HXB.out)
  clear HEQ hb6' hb5
  go_wp2_with fail
  refine HVB.out.mono ?_
  rintro e w7 ⟨m2, D2, N2, rfl, hm2, hN2, hown2, hkv2, hb7'⟩
  have hb7 := hb6.trans (hb7'.mono hb6.size)
  have hm2l := hown2.lt
  have HKV2 := Lib.hid hkv2
  have HO2' := Lib.hid hown2
  have HVA := Lib.hid (viewOf_any A n c a w7 (HX.out.below hb7 (Nat.le_refl _)) hnc HXA.out)
  clear HVB hb7' hb6 hown2 hkv2
  go_wp2_with fail
  refine HVA.out.mono ?_
  rintro e wP ⟨m1, D1, N1, rfl, hm1, hN1, hown1, hkv1, hbP'⟩
  have hbP := hb7.trans (hbP'.mono hb7.size)
  have hown2 := ownsMap_blk HO2'.out (hbP'.block m2 hm2l)
  have hm1l := hown1.lt
  have hm2P : m2 < wP.heap.size := by have := hbP'.size; omega
  have HO1 := Lib.hid hown1
  have HO2 := Lib.hid hown2
  have HKV1 := Lib.hid hkv1
  have HBP := Lib.hid hbP
  have hwP := hbP.size
  clear HVA hown1 hown2 hkv1 hbP' hb7 HO2' hbP
  go_wp2_with (at_range; refine wpList_range_own _ rfl _ 70 rfl 73 3 plkeyed Try.underlying70 (plainElem (H := Unit) Try.prog 3) m1 N1 D1 rfl HO1.out ?_; intro w0 hrg0 hg0 hs0)
  have hb0 : Below wP.heap.size wP w0 := ⟨hg0.os, hg0.tape, hg0.output, hg0.size, fun k hk => hg0.block k hk (by simp)⟩
  have HST : Hid (∃ left cnt, Below wP.heap.size wP w0 ∧ w0.ranges Try.prog 73 (plainElem (H := Unit) Try.prog 3) m1 wP.heap.size N1 D1 left cnt ∧ (∀ kl, left kl = true → Maps.has D1 kl = true) ∧ KDone a left (VwT a b)) := by
    refine ⟨_, _, hb0, hrg0, fun _ h => h, HKV1.out.start HXA.out HNA.out fun i o hi hf h0 => ?_⟩
    unfold vwF at hf
    rw [if_pos h0] at hf
    cases hf
  clear hrg0 hg0 hs0 hb0
  try go_frame
  obtain ⟨r1, hr1⟩ : ∃ r1, wP.heap.size = r1 := ⟨_, rfl⟩
  rw [hr1] at HST hm1l hm2P hwP ⊢
  have HR1 := Lib.hid hr1
  clear hr1
  go_loopw [6] (fun _ wr => ∃ left cnt, Below r1 wP wr ∧ wr.ranges Try.prog 73 (plainElem (H := Unit) Try.prog 3) m1 r1 N1 D1 left cnt ∧ (∀ kl, left kl = true → Maps.has D1 kl = true) ∧ KDone a left (VwT a b)) (fun _ wr => wr.rangeLeft m1 r1)
  case atStart => exact HST.out
  case round =>
    clear HST
    obtain ⟨wo, rfl⟩ : ∃ wo : World, wo = wr := ⟨_, rfl⟩
    obtain ⟨left, cnt, hbo, hrg, hlh, hdone⟩ := hrel
    have HRG := Lib.hid hrg
    have HLH := Lib.hid hlh
    have HDN := Lib.hid hdone
    have hro := hrg.lt
    clear hrg hlh hdone
    go_wp2_with (at_next; refine plint_next rfl _ rfl _ _ _ D1 left cnt rfl HRG.out (fun hc0 hl0 => ?_) (fun t u i0 w1 cnt1 hwt hwu hwi hlx hat hrg1 hlt1 hg1 hs1 hen1 => ?_))
    · have HF : Hid (viewB a b = true) := view_done HS.out (fun i o hi h0 => HDN.out i o hi (hl0 _) h0) HFE.out
      clear hl0
      go_ret
      exact ⟨ret_bool HF.out.symm, HBP.out.trans (hbo.mono hwP)⟩
    · obtain ⟨i, o, hi, hot, hcu, hfi⟩ := HKV1.out.key hwt hwu (HLH.out _ hlx) hat
      have hk0 : o.kind = 0 ∧ i0 = vsrc a i o := by
        unfold vwF at hfi
        split at hfi
        · rename_i h; injection hfi with hfi; exact ⟨h, hfi.symm⟩
        · cases hfi
      obtain ⟨hk0, rfl⟩ := hk0
      subst hot
      obtain ⟨mi, hmi⟩ : ∃ mi, mirN a b i = mi := ⟨_, rfl⟩
      obtain ⟨hbi1, hbi2⟩ := mirN_spec HS.out hi
      rw [hmi] at hbi1 hbi2
      have hb1o : Below r1 wP w1 := hbo.grown hg1 (by omega) (fun k e => by cases e; exact Nat.le_refl _)
      obtain ⟨V, hV⟩ : ∃ V, V = w1.alloc (.cells #[.int .i64 o.tx, .int .i64 u] 73) := ⟨_, rfl⟩
      have hbV : Below w1.heap.size w1 V := by rw [hV]; exact (Below.refl _ _).alloc (Nat.le_refl _) _
      have v0 : V.cell? ⟨wo.heap.size, 0, none⟩ = some (.int .i64 o.tx) := by rw [hV, ← hs1]; exact box_at _ _ _ _ _ rfl
      have v1 : V.cell? ⟨wo.heap.size, 1, none⟩ = some (.int .i64 u) := by rw [hV, ← hs1]; exact box_at _ _ _ _ _ rfl
      have hr1w : r1 ≤ w1.heap.size := by omega
      have hb1V : Below r1 wP V := hb1o.trans (hbV.mono hr1w)
      have hown2 := ownsMap_blk HO2.out (hb1V.block m2 (by omega))
      have hl := lookup_at hown2 HKV2.out HXB.out HNB.out hbi1 (u := u) (v := vsrc b mi o) (by rw [hbi2]; exact hcu) (by simp [vwF, hk0]) ⟨V, Below.refl _ _⟩
      simp only at hl
      have hrgV := ranges_blk hrg1 (hbV.block m1 (by omega)) (hbV.block r1 (by omega))
      have HFL : Hid (vsrc a i o ≠ vsrc b mi o → viewB a b = false) := fun h => view_fail hi hk0 (by rw [hmi]; exact h)
      have HNX : Hid (vsrc a i o = vsrc b mi o → (∃ left cnt, Below r1 wP V ∧ V.ranges Try.prog 73 (plainElem (H := Unit) Try.prog 3) m1 r1 N1 D1 left cnt ∧ (∀ kl, left kl = true → Maps.has D1 kl = true) ∧ KDone a left (VwT a b)) ∧ V.rangeLeft m1 r1 < wo.rangeLeft m1 r1) := by
        intro h
        have e1 := hrgV.left_eq
        have e2 := HRG.out.left_eq
        have h2 : ∀ kl, (fun z => left z && !z.sameKey (pllit o.tx u)) kl = true → Maps.has D1 kl = true := fun kl hk => HLH.out kl (by simp only [Bool.and_eq_true] at hk; exact hk.1)
        have hT : VwT a b i o := fun _ => by rw [hmi]; exact h
        have h3 := HDN.out.step HXA.out HNA.out hi hcu hT
        refine ⟨⟨_, cnt1, hb1V, hrgV, h2, h3⟩, ?_⟩
        rw [e1, e2]
        exact hlt1
      have HBW := Lib.hid (HBP.out.trans (hb1V.mono hwP))
      have HV := Lib.hid hV
      obtain ⟨x1, hx1⟩ : ∃ x, vsrc a i o = x := ⟨_, rfl⟩
      obtain ⟨x2, hx2⟩ : ∃ x, vsrc b mi o = x := ⟨_, rfl⟩
      rw [hx1, hx2] at HFL HNX
      rw [hx2] at hl
      simp only [hx1]
      obtain ⟨ot, ok, oi⟩ := o
      simp only at v0 v1 hl HV ⊢
      rw [← HV.out]
      clear hV hbV hr1w hb1V hown2 hrgV hb1o hx1 hx2 hbi1 hbi2 hmi hi hcu hfi hlx hat hrg1 hg1 hen1 hlt1 hwt hwu hk0 hwi
      by_cases hxx : x1 = x2
      · have HN := Lib.hid (HNX.out hxx)
        have hne : (x2 != x1) = false := by rw [hxx]; simp
        clear hxx HFL HNX
        go_wp2_with fail
        rw [hl]
        go_wp2_with fail
        exact HN.out
      · have HN := Lib.hid (HFL.out hxx)
        have hne : (x2 != x1) = true := by rw [bne_iff_ne]; exact fun e => hxx e.symm
        clear hxx HFL HNX
        go_wp2_with fail
        rw [hl]
        go_wp2_with fail
        go_ret
        exact ⟨ret_bool HN.out.symm, HBW.out⟩

set_option maxRecDepth 100000 in
set_option maxHeartbeats 1000000 in
theorem IsViewSame_any (A B : Option Addr) (n m c d : Nat) (a b : List OpV) (w : World) (hx : ROps w A n a) (hy : ROps w B m b) (hnc : n ≤ c) (hmd : m ≤ d) :
    Calls Try.prog 17 #[.slice A n c, .slice B m d] w fun e w' => e = .returned (.bool (validS a && validS b && viewB (committed a) (committed b))) ∧ Below w.heap.size w w' := by
  have HX := Lib.hid hx
  have HY := Lib.hid hy
  have HV := Lib.hid (ValidSchedule_any A n c a w hx hnc)
  clear hx hy
  go_enter Try.func17, Try.ntmps17
  go_wp2_with fail
  refine HV.out.mono ?_
  rintro e w1 ⟨rfl, hb1⟩
  clear HV
  cases hva : validS a
  · have HVA := Lib.hid hva
    clear hva
    go_wp2_with fail
    go_ret
    exact ⟨ret_bool (by rw [HVA.out]; rfl), hb1⟩
  have HV2 := Lib.hid (ValidSchedule_any B m d b w1 (HY.out.below hb1 (Nat.le_refl _)) hmd)
  have HVA := Lib.hid hva
  clear hva
  go_wp2_with fail
  refine HV2.out.mono ?_
  rintro e w2 ⟨rfl, hb2'⟩
  have hb2 := hb1.trans (hb2'.mono hb1.size)
  clear HV2 hb2'
  cases hvb : validS b
  · have HVB := Lib.hid hvb
    clear hvb
    go_wp2_with fail
    go_ret
    exact ⟨ret_bool (by rw [HVA.out, HVB.out]; rfl), hb2⟩
  have HVB := Lib.hid hvb
  have HC1 := Lib.hid (committedOf_any A n c a w2 (HX.out.below hb2 (Nat.le_refl _)))
  clear hvb
  go_wp2_with fail
  refine HC1.out.mono ?_
  rintro e w3 ⟨C, cc, rfl, hcc, ⟨hfc, _⟩, hb3'⟩
  have hb3 := hb2.trans (hb3'.mono hb2.size)
  have HFC := Lib.hid hfc
  have HC2 := Lib.hid (committedOf_any B m d b w3 (HY.out.below hb3 (Nat.le_refl _)))
  clear hfc HC1 hb3'
  go_wp2_with fail
  refine HC2.out.mono ?_
  rintro e w4 ⟨C2, cc2, rfl, hcc2, ⟨hfc2, _⟩, hb4'⟩
  have hb4 := hb3.trans (hb4'.mono hb3.size)
  have HVS := Lib.hid (viewSame_any C C2 _ _ cc cc2 (committed a) (committed b) w4 (HFC.out.below hb4' (Nat.le_refl _)) hfc2 hcc hcc2 (validS_committed HVA.out) (validS_committed HVB.out))
  obtain ⟨vb, hvb⟩ : ∃ vb, viewB (committed a) (committed b) = vb := ⟨_, rfl⟩
  rw [hvb] at HVS
  have HVBB := Lib.hid hvb
  clear hfc2 HC2 hb4' hvb
  go_wp2_with fail
  refine HVS.out.mono ?_
  rintro e w5 ⟨rfl, hb5⟩
  go_wp2_with fail
  go_ret
  exact ⟨ret_bool (by rw [HVA.out, HVB.out, HVBB.out]; rfl), hb4.trans (hb5.mono hb4.size)⟩
end Go.Proofs.Ytkbclcgdkbhgdaa
