/-
  viewSame and IsViewSame of the reference: the walks.
-/
import Derived.Test.YtkbclcgdkbhgdaaQIvsView9
import Derived.Test.YtkbclcgdkbhgdaaQIvsView7
namespace Go.Proofs.Ytkbclcgdkbhgdaa
open Go.RowKit Go.BigFrame
set_option linter.unusedVariables false

def SrcArg (w : World) (C : Option Addr) (n : Nat) (j : Nat) (v : Int) : Prop := ∃ s o, ROps w C n s ∧ s[j]? = some o ∧ sfTo s j o.item j = v
def vsPre (a b : List OpV) (k : Nat) : Prop := ∀ i o, i < k → a[i]? = some o → o.kind = 0 → vsrc a i o = vsrc b (mirN a b i) o
theorem vsPre_succ {a b : List OpV} {k : Nat} {o : OpV} (h : vsPre a b k) (ho : a[k]? = some o) (ht : o.kind = 0 → vsrc a k o = vsrc b (mirN a b k) o) : vsPre a b (k + 1) := by
  intro i p hi hp hk
  by_cases e : i = k
  · subst e; rw [ho] at hp; injection hp with hp; subst hp; exact ht hk
  · exact h i p (by omega) hp hk
theorem vs_done {a b : List OpV} (ho : SameOps a b) (h : vsPre a b a.length) (hf : finI a = finI b) : viewB a b = true :=
  view_done ho (fun i o hi hk => h i o (List.getElem?_eq_some_iff.1 hi).1 hi hk) hf

set_option maxRecDepth 100000 in
set_option maxHeartbeats 2000000 in
theorem sviewSame_any (A B : Option Addr) (n m c d : Nat) (a b : List OpV) (w : World) (hx : ROps w A n a) (hy : ROps w B m b) (hva : validS a = true) (hvb : validS b = true) :
    Calls Try.prog 57 #[.slice A n c, .slice B m d] w fun e w' => e = .returned (.bool (viewB a b)) ∧ Below w.heap.size w w' := by
  have hn := hx.2.1
  have hla := hx.1
  have HX := Lib.hid hx
  have HY := Lib.hid hy
  have HLA := Lib.hid hla
  have hxa : Tx4 a := fun o ho => validS_tx3 hva ho
  have hxb : Tx4 b := fun o ho => validS_tx3 hvb ho
  have HSO := Lib.hid (ssameOps_any A B n m c d a b w hx hy)
  have HSI := Lib.hid (sameOps_iff hxa hxb)
  have HVA := Lib.hid hva
  have HVB := Lib.hid hvb
  clear hx hy hva hvb hxa hxb
  go_enter Try.func57, Try.ntmps57
  go_wp2_with fail
  cases hso : sameOpsB a b
  · have HF : Hid (viewB a b = false) := view_not_ops fun h => by have := HSI.out.2 h; rw [hso] at this; cases this
    rw [hso] at HSO
    refine HSO.out.mono ?_
    rintro e w3 ⟨rfl, hb3⟩
    go_wp2_with fail
    go_ret
    exact ⟨ret_bool HF.out.symm, hb3⟩
  have HS : Hid (SameOps a b) := HSI.out.1 hso
  rw [hso] at HSO
  clear hso HSI
  refine HSO.out.mono ?_
  rintro e w3 ⟨rfl, hb3⟩
  clear HSO
  go_wp2_with fail
  go_loopw [5] (fun i wr => ∃ k : Nat, k ≤ n ∧ i = .int .i64 k ∧ Below w.heap.size w wr ∧ vsPre a b k) (fun i _ => n - (intOf i).toNat)
  case atStart => exact ⟨0, Nat.zero_le _, rfl, hb3, fun i o h => by omega⟩
  case round =>
    obtain ⟨wi, rfl⟩ : ∃ wo : World, wo = wr := ⟨_, rfl⟩
    obtain ⟨i, hi, rfl, hb, hpre⟩ := hrel
    have HPRE := Lib.hid hpre
    clear hpre
    by_cases hlt : i < n
    · have hxi := HX.out.below hb (Nat.le_refl _)
      have hyi := HY.out.below hb (Nat.le_refl _)
      obtain ⟨b0, off, o, rfl, hbl, ho, c0, c1, _⟩ := hxi.at_ hlt
      have HSN := Lib.hid (vsPre_succ HPRE.out ho)
      obtain ⟨mi, hmi⟩ : ∃ mi, mirN a b i = mi := ⟨_, rfl⟩
      obtain ⟨hbi1, hbi2⟩ := mirN_spec HS.out ho
      rw [hmi] at hbi1 hbi2 HSN
      obtain ⟨v1, hv1⟩ : ∃ v, vsrc a i o = v := ⟨_, rfl⟩
      obtain ⟨v2, hv2⟩ : ∃ v, vsrc b mi o = v := ⟨_, rfl⟩
      rw [hv1, hv2] at HSN
      have HF : Hid (o.kind = 0 → v1 ≠ v2 → viewB a b = false) := fun h1 h2 => view_fail ho h1 (by rw [hmi, hv1, hv2]; exact h2)
      have hS1 : SrcArg wi (some ⟨b0, off, none⟩) n i v1 := ⟨a, o, hxi, ho, by rw [sf_eq HVA.out]; exact hv1⟩
      have hS2 : SrcArg wi B m mi v2 := ⟨b, o, hyi, hbi1, by rw [sf_eq HVB.out]; exact hv2⟩
      have hN1 : NumIs a i (cntN a o.tx i) := ⟨o, ho, rfl⟩
      have hA1' : At b o.tx (cntN a o.tx i) mi := ⟨o, hbi1, rfl, hbi2⟩
      have hss : ∀ (z : Later wi) (C : Option Addr) (nn cc j : Nat) (v : Int), SrcArg wi C nn j v → Calls Try.prog 106 #[.slice C nn cc, .int .i64 (j : Int)] z.1 fun e w' => e = .returned (.int .i64 v) ∧ Below z.1.heap.size z.1 w' := by
        rintro z C nn cc j v ⟨s, o, h1, h2, rfl⟩
        exact source_any C nn cc j s o z.1 (h1.later z) h2
      have hnn : ∀ (z : Later wi) (j v : Nat), NumIs a j v → Calls Try.prog 92 #[.slice (some ⟨b0, off, none⟩) n c, .int .i64 (j : Int)] z.1 fun e w' => e = .returned (.int .i64 (v : Int)) ∧ Below z.1.heap.size z.1 w' := by
        rintro z j v ⟨p, hp, rfl⟩
        exact numberOf_any (some ⟨b0, off, none⟩) n c j a p z.1 (hxi.later z) hp
      have hpp : ∀ (z : Later wi) (t : Int) (K j : Nat), At b t K j → Calls Try.prog 91 #[.slice B m d, .int .i64 t, .int .i64 (K : Int)] z.1 fun e w' => e = .returned (.int .i64 (j : Int)) ∧ Below z.1.heap.size z.1 w' := fun z t K j h =>
        placeOf_any B m d K j b t z.1 (hyi.later z) h
      generalize cntN a o.tx i = ci at *
      have L0 := Later.cell c0
      have L1 := Later.cell c1
      have H1 := Lib.hid hss
      have H2 := Lib.hid hnn
      have H4 := Lib.hid hpp
      have hii : (i : Int) < (n : Int) := by omega
      have hi0 : (0 : Int) ≤ (i : Int) := by omega
      obtain ⟨ot, ok, oi⟩ := o
      simp only at L0 L1 hA1' HF HSN
      clear hss hnn hpp c0 c1 ho hmi hv1 hv2 hbi1 hbi2 hxi hyi HPRE
      by_cases hk : ok = 0
      · subst hk
        by_cases hv : v1 = v2
        · subst hv
          have HN := Lib.hid (HSN.out (fun _ => rfl))
          clear HF HSN
          go_wp2_with fail
          refine region_later (by kernel_rfl) (by kernel_rfl) ?_
          repeat (go_big_quiet_step (first | (go_at_call 106; exact later_call _ (H1.out _ _ _ _ _ _ (by assumption))) | (go_at_call 92; exact later_call _ (H2.out _ _ _ (by assumption))) | (go_at_call 91; exact later_call _ (H4.out _ _ _ _ (by assumption)))))
          refine wpQuiet_nil ?_
          rintro _ ⟨z, rfl⟩
          go_wp2_with fail
          go_roundw
          case rel => exact ⟨i + 1, by omega, by go_num, hb.trans (z.2.mono hb.size), HN.out⟩
          case measure => simp [intOf]; omega
        · have HFF := Lib.hid (HF.out rfl hv)
          have hvn : (v1 != v2) = true := by rw [bne_iff_ne]; exact hv
          clear HF HSN
          go_wp2_with fail
          refine region_later (by kernel_rfl) (by kernel_rfl) ?_
          repeat (go_big_quiet_step (first | (go_at_call 106; exact later_call _ (H1.out _ _ _ _ _ _ (by assumption))) | (go_at_call 92; exact later_call _ (H2.out _ _ _ (by assumption))) | (go_at_call 91; exact later_call _ (H4.out _ _ _ _ (by assumption)))))
          refine wpQuiet_nil ?_
          rintro _ ⟨z, rfl⟩
          go_wp2_with fail
          go_ret
          exact ⟨ret_bool HFF.out.symm, hb.trans (z.2.mono hb.size)⟩
      · have HN := Lib.hid (HSN.out (fun e => absurd e hk))
        have hkn : (ok == 0) = false := by rw [beq_eq_false_iff_ne]; exact hk
        clear HF HSN
        go_wp2_with fail
        refine region_later (by kernel_rfl) (by kernel_rfl) ?_
        repeat (go_big_quiet_step (fail))
        refine wpQuiet_nil ?_
        rintro _ ⟨z, rfl⟩
        go_wp2_with fail
        go_roundw
        case rel => exact ⟨i + 1, by omega, by go_num, hb.trans (z.2.mono hb.size), HN.out⟩
        case measure => simp [intOf]; omega
    · obtain rfl : i = n := by omega
      have HP : Hid (vsPre a b a.length) := by show vsPre _ _ _; rw [HLA.out]; exact HPRE.out
      have HFA := Lib.hid (sfinals_any A i c a wi (HX.out.below hb (Nat.le_refl _)))
      have HD : Hid (finI a = finI b → viewB a b = true) := fun h => vs_done HS.out HP.out h
      have HE : Hid (finI a ≠ finI b → viewB a b = false) := fun h => view_not_fin h
      go_wp2_with fail
      refine HFA.out.mono ?_
      rintro e w4 ⟨X, xc, rfl, hxc, hfx, hb4⟩
      have hbw4 := hb.trans (hb4.mono hb.size)
      have HXF := Lib.hid hfx.1
      have HFB := Lib.hid (sfinals_any B m d b w4 (HY.out.below hbw4 (Nat.le_refl _)))
      clear hfx HFA
      go_wp2_with fail
      refine HFB.out.mono ?_
      rintro e w5 ⟨Y, yc, rfl, hyc, hfy, hb5⟩
      have hbw5 := hbw4.trans (hb5.mono hbw4.size)
      have HYF := Lib.hid hfy.1
      have HXF5 := Lib.hid (HXF.out.below hb5 (Nat.le_refl _))
      have e1 : (finI a).length = 3 := rfl
      have e2 : (finI b).length = 3 := rfl
      rw [e1] at HXF5 ⊢
      rw [e2] at HYF ⊢
      clear hfy HFB HXF hxc hyc
      generalize hfa : finI a = xs at *
      generalize hfb : finI b = ys at *
      clear hfa hfb
      have HE1 := Lib.hid e1
      have HE2 := Lib.hid e2
      clear e1 e2
      go_wp2_with fail
      go_loopw [8] (fun j wr => ∃ q : Nat, q ≤ 3 ∧ j = .int .i64 q ∧ Below w5.heap.size w5 wr ∧ ∀ j, j < q → xs[j]? = ys[j]?) (fun j _ => 3 - (intOf j).toNat)
      case atStart => exact ⟨0, Nat.zero_le _, rfl, Below.refl _ _, by omega⟩
      case round =>
        obtain ⟨q, hq, rfl, hb6, hsame⟩ := hrel
        have hbw6 := hbw5.trans (hb6.mono hbw5.size)
        by_cases hltq : q < 3
        · obtain ⟨b1, off1, x, rfl, hbl1, hox, c0⟩ := (HXF5.out.below hb6 (Nat.le_refl _)).at_ hltq
          obtain ⟨b2, off2, y, rfl, hbl2, hoy, d0⟩ := (HYF.out.below hb6 (Nat.le_refl _)).at_ hltq
          have HSN : Hid (x = y → ∀ j, j < q + 1 → xs[j]? = ys[j]?) := fun h j hj => by
            by_cases e : j = q
            · subst e; rw [hox, hoy, h]
            · exact hsame j (by omega)
          have HT : Hid (¬ x = y → viewB a b = false) := fun h => HE.out fun e => by
            rw [e, hoy] at hox
            injection hox with hox
            exact h hox.symm
          have L0 := Later.cell c0
          have M0 := Later.cell d0
          have hqi : (q : Int) < 3 := by omega
          have hq0 : (0 : Int) ≤ (q : Int) := by omega
          clear hsame hox hoy c0 d0
          by_cases hxy : x = y
          · subst hxy
            have HN := Lib.hid (HSN.out rfl)
            go_wp2_with fail
            refine region_later (by kernel_rfl) (by kernel_rfl) ?_
            repeat (go_big_quiet_step (fail))
            refine wpQuiet_nil ?_
            rintro _ ⟨z, rfl⟩
            go_wp2_with fail
            go_roundw
            case rel => exact ⟨q + 1, by omega, by go_num, hb6.trans (z.2.mono hb6.size), HN.out⟩
            case measure => simp [intOf]; omega
          · have HN := Lib.hid (HT.out hxy)
            have hxyn : (x != y) = true := by rw [bne_iff_ne]; exact hxy
            go_wp2_with fail
            refine region_later (by kernel_rfl) (by kernel_rfl) ?_
            repeat (go_big_quiet_step (fail))
            refine wpQuiet_nil ?_
            rintro _ ⟨z, rfl⟩
            go_wp2_with fail
            go_ret
            exact ⟨ret_bool HN.out.symm, hbw6.trans (z.2.mono hbw6.size)⟩
        · have HN : Hid (viewB a b = true) := HD.out (List.ext_getElem? fun j => by
            by_cases hj : j < 3
            · exact hsame j (by omega)
            · rw [List.getElem?_eq_none (by rw [HE1.out]; omega), List.getElem?_eq_none (by rw [HE2.out]; omega)])
          clear hsame
          go_wp2_with fail
          go_ret
          exact ⟨ret_bool HN.out.symm, hbw6⟩
end Go.Proofs.Ytkbclcgdkbhgdaa
