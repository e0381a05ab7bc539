/-
  IsSame of the reference: the walk.
-/
import Derived.Test.YtkbclcgdkbhgdaaQIvsView6
import Derived.Test.YtkbclcgdkbhgdaaPkOrdX2
import Derived.Test.YtkbclcgdkbhgdaaPkOrdX1
namespace Go.Proofs.Ytkbclcgdkbhgdaa
open Go.RowKit Go.BigFrame
set_option linter.unusedVariables false

/-- The pairs that have been looked at pass. -/
def ssRow (a b : List OpV) (i : Nat) (o : OpV) (q : Nat) : Prop := ∀ k p, i < k → k < q → a[k]? = some p → confB o p = true → ¬ mirN a b k < mirN a b i
def ssPre (a b : List OpV) (k : Nat) : Prop := ∀ i o, i < k → a[i]? = some o → ssRow a b i o a.length
theorem ssPre_succ {a b : List OpV} {k : Nat} {o : OpV} (h : ssPre a b k) (ho : a[k]? = some o) (hr : ssRow a b k o a.length) : ssPre a b (k + 1) := by
  intro i p hi hp
  by_cases e : i = k
  · subst e; rw [ho] at hp; injection hp with hp; subst hp; exact hr
  · exact h i p (by omega) hp
theorem ssRow_succ {a b : List OpV} {i q : Nat} {o p : OpV} (h : ssRow a b i o (i + 1 + q)) (hp : a[i + 1 + q]? = some p) (ht : confB o p = true → ¬ mirN a b (i + 1 + q) < mirN a b i) : ssRow a b i o (i + 1 + (q + 1)) := by
  intro k r h1 h2 hr
  by_cases e : k = i + 1 + q
  · subst e; rw [hp] at hr; injection hr with hr; subst hr; exact ht
  · exact h k r h1 (by omega) hr
theorem ss_done {a b : List OpV} (ho : SameOps a b) (h : ssPre a b a.length) : sameB a b = true :=
  same_doneS ho fun i k o p hik hi hk hc => h i o (List.getElem?_eq_some_iff.1 hi).1 hi k p hik (List.getElem?_eq_some_iff.1 hk).1 hk hc

def NumIs (a : List OpV) (j v : Nat) : Prop := ∃ p, a[j]? = some p ∧ cntN a p.tx j = v

set_option maxRecDepth 100000 in
set_option maxHeartbeats 2000000 in
theorem sIsSame_any (A B : Option Addr) (n m c d : Nat) (a b : List OpV) (w : World) (hx : ROps w A n a) (hy : ROps w B m b) :
    Calls Try.prog 41 #[.slice A n c, .slice B m d] w fun e w' => e = .returned (.bool (validS a && validS b && sameB a b)) ∧ Below w.heap.size w w' := by
  have hn := hx.2.1
  have hla := hx.1
  have hlb := hy.1
  have hm := hy.2.1
  have HX := Lib.hid hx
  have HY := Lib.hid hy
  have HV := Lib.hid (svalid_any A n c a w hx)
  have HLA := Lib.hid hla
  clear hx hy
  go_enter Try.func41, Try.ntmps41
  go_wp2_with fail
  refine HV.out.mono ?_
  rintro e w1 ⟨rfl, hb1⟩
  clear HV
  cases hva : validS a
  · have HVA := Lib.hid hva
    clear hva
    go_wp2_with fail
    go_ret
    exact ⟨ret_bool (by rw [HVA.out]; rfl), hb1⟩
  have HV2 := Lib.hid (svalid_any B m d b w1 (HY.out.below hb1 (Nat.le_refl _)))
  have HVA := Lib.hid hva
  clear hva
  go_wp2_with fail
  refine HV2.out.mono ?_
  rintro e w2 ⟨rfl, hb2'⟩
  have hb2 := hb1.trans (hb2'.mono hb1.size)
  clear HV2 hb2'
  cases hvb : validS b
  · have HVB := Lib.hid hvb
    clear hvb
    go_wp2_with fail
    go_ret
    exact ⟨ret_bool (by rw [HVA.out, HVB.out]; rfl), hb2⟩
  have HVB := Lib.hid hvb
  have hxa : Tx4 a := fun o ho => validS_tx3 HVA.out ho
  have hxb : Tx4 b := fun o ho => validS_tx3 hvb ho
  have HSO := Lib.hid (ssameOps_any A B n m c d a b w2 (HX.out.below hb2 (Nat.le_refl _)) (HY.out.below hb2 (Nat.le_refl _)))
  have HSI := Lib.hid (sameOps_iff hxa hxb)
  clear hvb hxa hxb
  cases hso : sameOpsB a b
  · have HF : Hid (sameB a b = false) := same_not_ops fun h => by have := HSI.out.2 h; rw [hso] at this; cases this
    rw [hso] at HSO
    go_wp2_with fail
    refine HSO.out.mono ?_
    rintro e w3 ⟨rfl, hb3⟩
    go_wp2_with fail
    go_ret
    exact ⟨ret_bool (by rw [HVA.out, HVB.out, HF.out]; rfl), hb2.trans (hb3.mono hb2.size)⟩
  have HS : Hid (SameOps a b) := HSI.out.1 hso
  rw [hso] at HSO
  clear hso HSI
  go_wp2_with fail
  refine HSO.out.mono ?_
  rintro e w3 ⟨rfl, hb3'⟩
  have hb3 := hb2.trans (hb3'.mono hb2.size)
  clear HSO hb3' hb2 hb1
  go_wp2_with fail
  go_loopw [5] (fun i wr => ∃ k : Nat, k ≤ n ∧ i = .int .i64 k ∧ Below w.heap.size w wr ∧ ssPre a b k) (fun i _ => n - (intOf i).toNat)
  case atStart => exact ⟨0, Nat.zero_le _, rfl, hb3, fun i o h => by omega⟩
  case round =>
    obtain ⟨wo, rfl⟩ : ∃ wo : World, wo = wr := ⟨_, rfl⟩
    obtain ⟨i, hi, rfl, hb, hpre⟩ := hrel
    have HPRE := Lib.hid hpre
    clear hpre
    by_cases hlt : i < n
    · obtain ⟨b0, off, o, rfl, hbl, ho, c0, _, _⟩ := (HX.out.below hb (Nat.le_refl _)).at_ hlt
      have HO := Lib.hid ho
      have hvo := validS_ops HVA.out o (List.mem_of_getElem? ho)
      have HVO := Lib.hid hvo
      obtain ⟨mi, hmi⟩ : ∃ mi, mirN a b i = mi := ⟨_, rfl⟩
      obtain ⟨hbi1, hbi2⟩ := mirN_spec HS.out ho
      rw [hmi] at hbi1 hbi2
      have HMI := Lib.hid (And.intro hmi (And.intro hbi1 hbi2))
      obtain ⟨ot, ok, oi⟩ := o
      simp only at c0 hbi2
      clear ho c0 hvo hmi hbi1 hbi2
      go_wp2_with fail
      go_loopw [6] (fun j wr => ∃ q : Nat, i + 1 + q ≤ n ∧ j = .int .i64 ((i + 1 + q : Nat) : Int) ∧ Below w.heap.size w wr ∧ ssRow a b i ⟨ot, ok, oi⟩ (i + 1 + q)) (fun j _ => n - (intOf j).toNat)
      case atStart => exact ⟨0, by omega, by go_num, hb, fun k p h1 h2 => by omega⟩
      case round =>
        obtain ⟨wi, rfl⟩ : ∃ wi : World, wi = wr := ⟨_, rfl⟩
        obtain ⟨q, hq, rfl, hbi, hrow⟩ := hrel
        have HROW := Lib.hid hrow
        obtain ⟨k, hK⟩ : ∃ k : Nat, i + 1 + q = k := ⟨_, rfl⟩
        have HKK := Lib.hid hK
        by_cases hltk : i + 1 + q < n
        · have hxi := HX.out.below hbi (Nat.le_refl _)
          obtain ⟨b1, off1, a1, hA1, hbl1, ha1, c0, c1, c2⟩ := hxi.at_ hlt
          injection hA1 with hA1; injection hA1 with q1 q2 _; subst q1; subst q2
          rw [HO.out] at ha1
          injection ha1 with ha1
          subst ha1
          obtain ⟨b2, off2, p, hA2, hbl2, hp, d0, d1, d2⟩ := hxi.at_ hltk
          injection hA2 with hA2; injection hA2 with q1 q2 _; subst q1; subst q2
          have hvp := validS_ops HVA.out p (List.mem_of_getElem? hp)
          have HP := Lib.hid hp
          have HRS := Lib.hid (ssRow_succ HROW.out hp)
          rw [hK] at hp hltk d0 d1 d2
          obtain ⟨mk, hmk⟩ : ∃ mk, mirN a b k = mk := ⟨_, rfl⟩
          obtain ⟨hbk1, hbk2⟩ := mirN_spec HS.out hp
          rw [hmk] at hbk1 hbk2
          obtain ⟨pt, pk, pi⟩ := p
          simp only at c0 c1 c2 d0 d1 d2 hbk2
          have hik : i < k := by omega
          obtain ⟨cb, hcb⟩ : ∃ cb, confB ⟨ot, ok, oi⟩ ⟨pt, pk, pi⟩ = cb := ⟨_, rfl⟩
          obtain ⟨ci, hci⟩ : ∃ ci, cntN a ot i = ci := ⟨_, rfl⟩
          obtain ⟨ck, hck⟩ : ∃ ck, cntN a pt k = ck := ⟨_, rfl⟩
          have hcf : ∀ z : Later wi, Calls Try.prog 90 #[.agg #[.int .i64 ot, .int .i64 ok, .int .i64 oi], .agg #[.int .i64 pt, .int .i64 pk, .int .i64 pi]] z.1 fun e w' => e = .returned (.bool cb) ∧ Below z.1.heap.size z.1 w' := fun z => by
            have := sconflict_any ⟨ot, ok, oi⟩ ⟨pt, pk, pi⟩ z.1; rw [sconf_eq HVO.out hvp, hcb] at this; exact this
          have hnn : ∀ (z : Later wi) (j v : Nat), NumIs a j v → Calls Try.prog 92 #[.slice (some ⟨b0, off, none⟩) n c, .int .i64 (j : Int)] z.1 fun e w' => e = .returned (.int .i64 (v : Int)) ∧ Below z.1.heap.size z.1 w' := by
            rintro z j v ⟨p, hp, rfl⟩
            exact numberOf_any (some ⟨b0, off, none⟩) n c j a p z.1 (hxi.later z) hp
          have hpp : ∀ (z : Later wi) (t : Int) (K j : Nat), At b t K j → Calls Try.prog 91 #[.slice B m d, .int .i64 t, .int .i64 (K : Int)] z.1 fun e w' => e = .returned (.int .i64 (j : Int)) ∧ Below z.1.heap.size z.1 w' := fun z t K j h =>
            placeOf_any B m d K j b t z.1 (HY.out.below (hbi.trans (z.2.mono hbi.size)) (Nat.le_refl _)) h
          have hN1 : NumIs a i ci := ⟨_, HO.out, hci⟩
          have hN2 : NumIs a k ck := ⟨_, hp, hck⟩
          have hA1' : At b ot ci mi := ⟨_, HMI.out.2.1, rfl, HMI.out.2.2.trans hci⟩
          have hA2' : At b pt ck mk := ⟨_, hbk1, rfl, hbk2.trans hck⟩
          have HF : Hid (cb = true → mk < mi → sameB a b = false) := fun h1 h2 => same_failS hik HO.out hp (hcb.trans h1) (by rw [hmk, HMI.out.1]; exact h2)
          have HN : Hid ((cb = true → ¬ mk < mi) → ssRow a b i ⟨ot, ok, oi⟩ (i + 1 + (q + 1))) := fun h => HRS.out fun hc => by
            rw [hK, hmk, HMI.out.1]
            exact h (hcb.symm.trans hc)
          have H1 := Lib.hid hcf
          have H2 := Lib.hid hnn
          have H4 := Lib.hid hpp
          have L0 := Later.cell c0
          have L1 := Later.cell c1
          have L2 := Later.cell c2
          have M0 := Later.cell d0
          have M1 := Later.cell d1
          have M2 := Later.cell d2
          have hKi : (k : Int) < (n : Int) := by omega
          have hK0 : (0 : Int) ≤ (k : Int) := by omega
          have hki : (i : Int) < (n : Int) := by omega
          have hk0 : (0 : Int) ≤ (i : Int) := by omega
          rw [hK]
          clear hcf hnn hpp c0 c1 c2 d0 d1 d2 hp hxi hrow hK hvp hbk1 hbk2 hmk hcb hci hck HRS
          cases cb
          · have HNN := Lib.hid (HN.out (fun h => by cases h))
            clear HN HF
            go_wp2_with fail
            refine region_later (by kernel_rfl) (by kernel_rfl) ?_
            repeat (go_big_quiet_step (first | (go_at_call 90; exact later_call _ (H1.out _)) | (go_at_call 92; exact later_call _ (H2.out _ _ _ (by assumption))) | (go_at_call 91; exact later_call _ (H4.out _ _ _ _ (by assumption)))))
            refine wpQuiet_nil ?_
            rintro _ ⟨z, rfl⟩
            go_wp2_with fail
            go_roundw
            case rel => exact ⟨q + 1, by have := HKK.out; omega, by have := HKK.out; go_num, hbi.trans (z.2.mono hbi.size), HNN.out⟩
            case measure => have := HKK.out; simp [intOf]; omega
          · by_cases hmm : mk < mi
            · have HFF := Lib.hid (HF.out rfl hmm)
              have hmmi : (mk : Int) < (mi : Int) := by omega
              clear HN HF
              go_wp2_with fail
              refine region_later (by kernel_rfl) (by kernel_rfl) ?_
              repeat (go_big_quiet_step (first | (go_at_call 90; exact later_call _ (H1.out _)) | (go_at_call 92; exact later_call _ (H2.out _ _ _ (by assumption))) | (go_at_call 91; exact later_call _ (H4.out _ _ _ _ (by assumption)))))
              refine wpQuiet_nil ?_
              rintro _ ⟨z, rfl⟩
              go_wp2_with fail
              go_ret
              exact ⟨ret_bool (by rw [HVA.out, HVB.out, HFF.out]; rfl), hbi.trans (z.2.mono hbi.size)⟩
            · have HNN := Lib.hid (HN.out (fun _ => hmm))
              have hmmi : decide ((mk : Int) < (mi : Int)) = false := by rw [decide_eq_false_iff_not]; omega
              have hmmn : decide (mk < mi) = false := by rw [decide_eq_false_iff_not]; exact hmm
              clear HN HF
              go_wp2_with fail
              refine region_later (by kernel_rfl) (by kernel_rfl) ?_
              repeat (go_big_quiet_step (first | (go_at_call 90; exact later_call _ (H1.out _)) | (go_at_call 92; exact later_call _ (H2.out _ _ _ (by assumption))) | (go_at_call 91; exact later_call _ (H4.out _ _ _ _ (by assumption)))))
              refine wpQuiet_nil ?_
              rintro _ ⟨z, rfl⟩
              go_wp2_with fail
              go_roundw
              case rel => exact ⟨q + 1, by have := HKK.out; omega, by have := HKK.out; go_num, hbi.trans (z.2.mono hbi.size), HNN.out⟩
              case measure => have := HKK.out; simp [intOf]; omega
        · have hkn : i + 1 + q = n := by omega
          have HN : Hid (ssPre a b (i + 1)) := ssPre_succ HPRE.out HO.out (by rw [HLA.out]; rw [hkn] at hrow; exact hrow)
          rw [hK] at hltk ⊢
          have hKi : ¬ (k : Int) < (n : Int) := by omega
          clear hrow hK hkn
          go_wp2_with fail
          go_roundw
          case rel => exact ⟨i + 1, by omega, by go_num, hbi, HN.out⟩
          case measure => simp [intOf]; omega
    · obtain rfl : i = n := by omega
      have HF : Hid (sameB a b = true) := ss_done HS.out (by rw [HLA.out]; exact HPRE.out)
      go_wp2_with fail
      go_ret
      exact ⟨ret_bool (by rw [HVA.out, HVB.out, HF.out]; rfl), hb⟩
end Go.Proofs.Ytkbclcgdkbhgdaa
