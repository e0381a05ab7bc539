/-
  Blind writes: slices.Contains over operations, HasBlind of the program and of the reference, twice: the walks.
-/
import Derived.Test.YtkbclcgdkbhgdaaQHblViewP0
import Derived.Test.YtkbclcgdkbhgdaaQHblSpan
import Derived.Test.YtkbclcgdkbhgdaaPkOrdX3
import Derived.Test.YtkbclcgdkbhgdaaQHblEqOp
import Derived.IntWalk
namespace Go.Proofs.Ytkbclcgdkbhgdaa
open Go.RowKit Go.BigFrame
set_option linter.unusedVariables false

theorem idxI_any (s : List OpV) (q : OpV) : (s.any fun o => o == q) = decide (0 ≤ idxI s q) := by
  cases h : (s.any fun o => o == q)
  · rw [List.any_eq_false] at h
    rw [idxI_none fun j hj o ho => by have := h o (List.mem_of_getElem? ho); simpa using this]
    rfl
  · unfold idxI
    rw [List.any_eq_true] at h
    obtain ⟨o, ho, hq⟩ := h
    have hs : (s.find? fun o => o == q).isSome = true := List.find?_isSome.2 ⟨o, ho, hq⟩
    symm
    rw [decide_eq_true_eq]
    split
    · omega
    · rename_i hn
      first
        | omega
        | (exfalso; simp_all)
set_option maxHeartbeats 400000 in
theorem ContainsOp_any (A : Option Addr) (n c : Nat) (s : List OpV) (q : OpV) (w : World) (hx : ROps w A n s) :
    Calls Try.prog 95 #[.slice A n c, q.val] w fun e w' => e = .returned (.bool (s.any fun o => o == q)) ∧ Below w.heap.size w w' := by
  obtain ⟨qt, qk, qi⟩ := q
  have hz := idxI_any s ⟨qt, qk, qi⟩
  have hba : Below w.heap.size w (w.alloc (.cells #[.int .i64 qt, .int .i64 qk, .int .i64 qi] 32)) := (Below.refl _ w).alloc (Nat.le_refl _) _
  have HI := Lib.hid (IndexOp_any A n c s ⟨qt, qk, qi⟩ _ (hx.below hba (Nat.le_refl _)))
  have HBA := Lib.hid hba
  unfold OpV.val at *
  clear hx hba
  go_enter Try.func95, Try.ntmps95
  go_wp2_with fail
  refine HI.out.mono ?_
  rintro e w1 ⟨rfl, hb'⟩
  have hb := HBA.out.trans (hb'.mono HBA.out.size)
  generalize idxI s ⟨qt, qk, qi⟩ = z at *
  by_cases h0 : 0 ≤ z
  · rw [decide_eq_true h0] at hz
    have HA := Lib.hid hz
    clear hz HI
    go_wp2_with fail
    go_ret
    exact ⟨ret_bool HA.out.symm, hb⟩
  · rw [decide_eq_false h0] at hz
    have HA := Lib.hid hz
    clear hz HI
    go_wp2_with fail
    go_ret
    exact ⟨ret_bool (by rw [HA.out]; exact decide_eq_false (by omega)), hb⟩

/-- The write that is looked at has no read of its own ahead. -/
def blindAt (c : List OpV) (i : Nat) (o : OpV) : Bool := o.kind == 1 && !((c.take i).any fun q => q == ⟨o.tx, 0, o.item⟩)
def Blind (c : List OpV) : Prop := ∃ i o, c[i]? = some o ∧ blindAt c i o = true
noncomputable def blindB (c : List OpV) : Bool := @decide (Blind c) (Classical.propDecidable _)
theorem blind_hit {c : List OpV} {i : Nat} {o : OpV} (h : c[i]? = some o) (hb : blindAt c i o = true) : blindB c = true := by
  unfold blindB
  exact (@decide_eq_true_iff _ (Classical.propDecidable _)).2 ⟨i, o, h, hb⟩
theorem blind_none {c : List OpV} (h : ∀ i, i < c.length → ∀ o, c[i]? = some o → blindAt c i o = false) : blindB c = false := by
  cases e : blindB c
  · rfl
  · unfold blindB at e
    obtain ⟨i, o, h1, h2⟩ := (@decide_eq_true_iff _ (Classical.propDecidable _)).1 e
    rw [h i (List.getElem?_eq_some_iff.1 h1).1 o h1] at h2
    cases h2
theorem blind_no {c : List OpV} (h : blindB c = false) : NoBlind c := by
  intro k o ho hk
  cases hb : blindAt c k o
  · unfold blindAt at hb
    rw [hk] at hb
    simp only [beq_self_eq_true, Bool.true_and, Bool.not_eq_false', List.any_eq_true, beq_iff_eq] at hb
    obtain ⟨q, hq, rfl⟩ := hb
    obtain ⟨j, hj⟩ := List.mem_iff_getElem?.1 hq
    have hjk : j < k := by
      have := (List.getElem?_eq_some_iff.1 hj).1
      simp at this; omega
    rw [List.getElem?_take_of_lt hjk] at hj
    exact ⟨j, _, hjk, hj, rfl, rfl, rfl⟩
  · rw [blind_hit ho hb] at h
    cases h

set_option maxRecDepth 100000 in
set_option maxHeartbeats 1000000 in
theorem HasBlind_any (A : Option Addr) (n c : Nat) (s : List OpV) (w : World) (hx : ROps w A n s) (hnc : n ≤ c) :
    Calls Try.prog 48 #[.slice A n c] w fun e w' => e = .returned (.bool (validS s && blindB (committed s))) ∧ Below w.heap.size w w' := by
  have HX := Lib.hid hx
  have HVC := Lib.hid (ValidSchedule_any A n c s w hx hnc)
  clear hx
  go_enter Try.func48, Try.ntmps48
  go_wp2_with fail
  refine HVC.out.mono ?_
  rintro e w1 ⟨rfl, hb1⟩
  cases hv : validS s
  · have HV := Lib.hid hv
    clear HVC hv
    go_wp2_with fail
    go_ret
    exact ⟨ret_bool (by rw [HV.out]; rfl), hb1⟩
  have HC := Lib.hid (committedOf_any A n c s w1 (HX.out.below hb1 (Nat.le_refl _)))
  have HV := Lib.hid hv
  clear HVC hv
  obtain ⟨KL, hKE⟩ : ∃ KL, committed s = KL := ⟨_, rfl⟩
  rw [hKE] at HC
  have HKE := Lib.hid hKE
  clear hKE
  obtain ⟨k, hk⟩ : ∃ k, KL.length = k := ⟨_, rfl⟩
  go_wp2_with fail
  refine HC.out.mono ?_
  rintro e w2 ⟨C, cc, rfl, hcc, ⟨hfc, _⟩, hb2'⟩
  have hb2 := hb1.trans (hb2'.mono hb1.size)
  rw [hk] at hfc hcc ⊢
  have HFC := Lib.hid hfc
  have HK := Lib.hid hk
  have hk9 := hfc.2.1
  clear hfc hb2' HC hk
  go_wp2_with fail
  go_loopw [13] (fun i wr => ∃ j : Nat, j ≤ k ∧ i = .int .i64 j ∧ Below w2.heap.size w2 wr ∧ ∀ i, i < j → ∀ o, KL[i]? = some o → blindAt KL i o = false) (fun i _ => k - (intOf i).toNat)
  case atStart => exact ⟨0, Nat.zero_le _, rfl, Below.refl _ _, by omega⟩
  case round =>
    obtain ⟨wo, rfl⟩ : ∃ wo : World, wo = wr := ⟨_, rfl⟩
    obtain ⟨j, hj, rfl, hb, hno⟩ := hrel
    have hbw := hb2.trans (hb.mono hb2.size)
    by_cases hlt : j < k
    · have hxo := HFC.out.below hb (Nat.le_refl _)
      obtain ⟨b, off, o, rfl, hbl, ho, c0, c1, c2⟩ := hxo.at_ hlt
      have HN : Hid (blindAt KL j o = false → ∀ i, i < j + 1 → ∀ o, KL[i]? = some o → blindAt KL i o = false) := fun h i hi p hp => by
        by_cases e : i = j
        · subst e; rw [ho] at hp; injection hp with hp; subst hp; exact h
        · exact hno i (by omega) p hp
      have HT : Hid (blindAt KL j o = true → blindB KL = true) := fun h => blind_hit ho h
      have hbA : blindAt KL j o = (o.kind == 1 && !((KL.take j).any fun q => q == ⟨o.tx, 0, o.item⟩)) := rfl
      obtain ⟨V, hV⟩ : ∃ V, V = wo.alloc (.cells #[.int .i64 o.tx, .int .i64 o.kind, .int .i64 o.item] 32) := ⟨_, rfl⟩
      have hbV : Below wo.heap.size wo V := by rw [hV]; exact (Below.refl _ _).alloc (Nat.le_refl _) _
      obtain ⟨K0, K1, K2, _, _⟩ := op_box hV
      have hC : ∀ u : Later V, Calls Try.prog 95 #[.slice (some ⟨b, off, none⟩) j cc, .agg #[.int .i64 o.tx, .int .i64 0, .int .i64 o.item]] u.1 fun e w' => e = .returned (.bool ((KL.take j).any fun q => q == ⟨o.tx, 0, o.item⟩)) ∧ Below u.1.heap.size u.1 w' := fun u =>
        ContainsOp_any (some ⟨b, off, none⟩) j cc (KL.take j) ⟨o.tx, 0, o.item⟩ u.1 (((hxo.below hbV (Nat.le_refl _)).take (by omega)).later u)
      obtain ⟨ot, ok, oi⟩ := o
      simp only at c0 c1 c2 hC hbA K0 K1 K2 hV
      generalize ((KL.take j).any fun q => q == ⟨ot, 0, oi⟩) = bc at *
      have HC := Lib.hid hC
      have HVV := Lib.hid hV
      have HBV := Lib.hid hbV
      have hjc : (j : Int) ≤ (cc : Int) := by omega
      have hji : (j : Int) < (k : Int) := by omega
      have hj0 : (0 : Int) ≤ (j : Int) := by omega
      clear hno ho hC hbV hV hxo
      by_cases h1 : ok = 1
      · subst h1
        cases bc
        · have HR := Lib.hid (HT.out (by rw [hbA]; rfl))
          clear hbA HN HT
          go_wp2_with fail
          rw [← HVV.out]
          refine region_later (by kernel_rfl) (by kernel_rfl) ?_
          repeat (go_big_quiet_step ((go_at_call 95; exact later_call _ (HC.out _))))
          refine wpQuiet_nil ?_
          rintro _ ⟨u, rfl⟩
          have hbu := hbw.trans ((HBV.out.trans (u.2.mono HBV.out.size)).mono hbw.size)
          go_wp2_with fail
          go_ret
          exact ⟨ret_bool (by rw [HV.out, HKE.out, HR.out]; rfl), hbu⟩
        · have HR := Lib.hid (HN.out (by rw [hbA]; rfl))
          clear hbA HN HT
          go_wp2_with fail
          rw [← HVV.out]
          refine region_later (by kernel_rfl) (by kernel_rfl) ?_
          repeat (go_big_quiet_step ((go_at_call 95; exact later_call _ (HC.out _))))
          refine wpQuiet_nil ?_
          rintro _ ⟨u, rfl⟩
          have hbu := hb.trans ((HBV.out.trans (u.2.mono HBV.out.size)).mono hb.size)
          go_wp2_with fail
          go_roundw
          case rel => exact ⟨j + 1, by omega, by go_num, hbu, HR.out⟩
          case measure => simp [intOf]; omega
      · have h1' : (ok == 1) = false := by rw [beq_eq_false_iff_ne]; exact h1
        have HR := Lib.hid (HN.out (by rw [hbA, h1']; rfl))
        clear hbA HN HT
        go_wp2_with fail
        rw [← HVV.out]
        refine region_later (by kernel_rfl) (by kernel_rfl) ?_
        repeat (go_big_quiet_step (fail))
        refine wpQuiet_nil ?_
        rintro _ ⟨u, rfl⟩
        have hbu := hb.trans ((HBV.out.trans (u.2.mono HBV.out.size)).mono hb.size)
        go_wp2_with fail
        go_roundw
        case rel => exact ⟨j + 1, by omega, by go_num, hbu, HR.out⟩
        case measure => simp [intOf]; omega
    · obtain rfl : j = k := by omega
      have HR : Hid (blindB KL = false) := blind_none fun i hi => hno i (by have := HK.out; omega)
      clear hno
      go_wp2_with fail
      go_ret
      exact ⟨ret_bool (by rw [HV.out, HKE.out, HR.out]; rfl), hbw⟩

theorem any_take_succ {c : List OpV} {q : Nat} {p : OpV} {f : OpV → Bool} (h : c[q]? = some p) : (c.take (q + 1)).any f = ((c.take q).any f || f p) := by
  rw [take_snoc h, List.any_append]
  simp

set_option maxRecDepth 100000 in
set_option maxHeartbeats 2000000 in
theorem sHasBlind_any (A : Option Addr) (n c : Nat) (s : List OpV) (w : World) (hx : ROps w A n s) :
    Calls Try.prog 49 #[.slice A n c] w fun e w' => e = .returned (.bool (validS s && blindB (committed s))) ∧ Below w.heap.size w w' := by
  have HX := Lib.hid hx
  have HVC := Lib.hid (svalid_any A n c s w hx)
  clear hx
  go_enter Try.func49, Try.ntmps49
  go_wp2_with fail
  refine HVC.out.mono ?_
  rintro e w1 ⟨rfl, hb1⟩
  cases hv : validS s
  · have HV := Lib.hid hv
    clear HVC hv
    go_wp2_with fail
    go_ret
    exact ⟨ret_bool (by rw [HV.out]; rfl), hb1⟩
  have HC := Lib.hid (scommitted_any A n c s w1 (HX.out.below hb1 (Nat.le_refl _)))
  have HV := Lib.hid hv
  clear HVC hv
  obtain ⟨KL, hKE⟩ : ∃ KL, committed s = KL := ⟨_, rfl⟩
  rw [hKE] at HC
  have HKE := Lib.hid hKE
  clear hKE
  obtain ⟨k, hk⟩ : ∃ k, KL.length = k := ⟨_, rfl⟩
  go_wp2_with fail
  refine HC.out.mono ?_
  rintro e w2 ⟨C, cc, rfl, hcc, ⟨hfc, _⟩, hb2'⟩
  have hb2 := hb1.trans (hb2'.mono hb1.size)
  rw [hk] at hfc hcc ⊢
  have HFC := Lib.hid hfc
  have HK := Lib.hid hk
  have hk9 := hfc.2.1
  clear hfc hb2' HC hk
  go_wp2_with fail
  go_loopw [4] (fun i wr => ∃ j : Nat, j ≤ k ∧ i = .int .i64 j ∧ Below w2.heap.size w2 wr ∧ ∀ i, i < j → ∀ o, KL[i]? = some o → blindAt KL i o = false) (fun i _ => k - (intOf i).toNat)
  case atStart => exact ⟨0, Nat.zero_le _, rfl, Below.refl _ _, by omega⟩
  case round =>
    obtain ⟨wo, rfl⟩ : ∃ wo : World, wo = wr := ⟨_, rfl⟩
    obtain ⟨j, hj, rfl, hb, hno⟩ := hrel
    have hbw := hb2.trans (hb.mono hb2.size)
    by_cases hlt : j < k
    · have hxo := HFC.out.below hb (Nat.le_refl _)
      obtain ⟨b, off, o, rfl, hbl, ho, c0, c1, c2⟩ := hxo.at_ hlt
      have HN : Hid (blindAt KL j o = false → ∀ i, i < j + 1 → ∀ o, KL[i]? = some o → blindAt KL i o = false) := fun h i hi p hp => by
        by_cases e : i = j
        · subst e; rw [ho] at hp; injection hp with hp; subst hp; exact h
        · exact hno i (by omega) p hp
      have HT : Hid (blindAt KL j o = true → blindB KL = true) := fun h => blind_hit ho h
      have HBA : Hid (blindAt KL j o = (o.kind == 1 && !((KL.take j).any fun q => q == ⟨o.tx, 0, o.item⟩))) := rfl
      have HO := Lib.hid ho
      have hji : (j : Int) < (k : Int) := by omega
      have hj0 : (0 : Int) ≤ (j : Int) := by omega
      clear hno ho c0 c1 c2
      go_wp2_with fail
      go_loopw [5, 6] (fun r i wr => ∃ q : Nat, q ≤ j ∧ i = .int .i64 q ∧ r = .bool ((KL.take q).any fun p => p == ⟨o.tx, 0, o.item⟩) ∧ Below w2.heap.size w2 wr) (fun _ i _ => j - (intOf i).toNat)
      case atStart => exact ⟨0, Nat.zero_le _, rfl, by simp, hb⟩
      case round =>
        obtain ⟨wi, rfl⟩ : ∃ wi : World, wi = wr := ⟨_, rfl⟩
        obtain ⟨q, hq, rfl, rfl, hbi⟩ := hrel
        have hxi := HFC.out.below hbi (Nat.le_refl _)
        obtain ⟨bo, offo, o', hA', hblo, ho', d0, d1, d2⟩ := hxi.at_ (k := j) (by omega)
        injection hA' with hA'; injection hA' with q1 q2 _; subst q1; subst q2
        rw [HO.out] at ho'
        injection ho' with ho'
        subst ho'
        by_cases hltq : q < j
        · obtain ⟨bp, offp, p, hA2, hblp, hp, e0, e1, e2⟩ := hxi.at_ (k := q) (by omega)
          injection hA2 with hA2; injection hA2 with q1 q2 _; subst q1; subst q2
          have HAS : Hid ((KL.take (q + 1)).any (fun p => p == ⟨o.tx, 0, o.item⟩) = ((KL.take q).any (fun p => p == ⟨o.tx, 0, o.item⟩) || (p.tx == o.tx && p.kind == 0 && p.item == o.item))) := by
            show _ = _
            rw [any_take_succ hp]
            congr 1
            obtain ⟨pt, pk, pi⟩ := p
            simp only
            rw [Bool.eq_iff_iff]
            simp only [beq_iff_eq, Bool.and_eq_true, OpV.mk.injEq]
            constructor
            · rintro ⟨h1, h2, h3⟩; exact ⟨⟨h1, h2⟩, h3⟩
            · rintro ⟨⟨h1, h2⟩, h3⟩; exact ⟨h1, h2, h3⟩
          obtain ⟨ot, ok, oi⟩ := o
          obtain ⟨pt, pk, pi⟩ := p
          simp only at d0 d1 d2 e0 e1 e2 HAS
          generalize ((KL.take q).any fun p => p == (⟨ot, 0, oi⟩ : OpV)) = r at *
          obtain ⟨b1, hb1'⟩ : ∃ z, (pt == ot) = z := ⟨_, rfl⟩
          obtain ⟨b2, hb2'⟩ : ∃ z, (pk == 0) = z := ⟨_, rfl⟩
          obtain ⟨b3, hb3'⟩ : ∃ z, (pi == oi) = z := ⟨_, rfl⟩
          rw [hb1', hb2', hb3'] at HAS
          have L0 := Later.cell e0
          have L1 := Later.cell e1
          have L2 := Later.cell e2
          have M0 := Later.cell d0
          have M1 := Later.cell d1
          have M2 := Later.cell d2
          have hqi : (q : Int) < (j : Int) := by omega
          have hqk : (q : Int) < (k : Int) := by omega
          have hq0 : (0 : Int) ≤ (q : Int) := by omega
          clear hp HO HBA HN HT d0 d1 d2 e0 e1 e2 hxi
          cases r <;> (try cases b1) <;> (try cases b2) <;> (try cases b3)
          all_goals
            go_wp2_with fail
            refine region_later (by kernel_rfl) (by kernel_rfl) ?_
            repeat (go_big_quiet_step (fail))
            refine wpQuiet_nil ?_
            rintro _ ⟨u, rfl⟩
            have hbu := hbi.trans (u.2.mono hbi.size)
            go_wp2_with fail
            go_roundw
            case rel => exact ⟨q + 1, by omega, by go_num, by rw [HAS.out]; rfl, hbu⟩
            case measure => simp [intOf]; omega
        · obtain rfl : q = j := by omega
          obtain ⟨ot, ok, oi⟩ := o
          simp only at d0 d1 d2 HBA
          generalize ((KL.take q).any fun p => p == (⟨ot, 0, oi⟩ : OpV)) = r at *
          have hbwi := hb2.trans (hbi.mono hb2.size)
          have L1 := Later.cell d1
          clear hxi d0 d2 HO
          by_cases h1 : ok = 1
          · subst h1
            cases r
            · have HR := Lib.hid (HT.out (by rw [HBA.out]; rfl))
              clear HBA HN HT
              go_wp2_with fail
              try (refine region_later (by kernel_rfl) (by kernel_rfl) ?_; repeat (go_big_quiet_step (fail)); refine wpQuiet_nil ?_; rintro _ ⟨u, rfl⟩; go_wp2_with fail)
              go_ret
              exact ⟨ret_bool (by rw [HV.out, HKE.out, HR.out]; rfl), by first | exact hbwi | exact hbwi.trans (u.2.mono hbwi.size)⟩
            · have HR := Lib.hid (HN.out (by rw [HBA.out]; rfl))
              clear HBA HN HT
              go_wp2_with fail
              try (refine region_later (by kernel_rfl) (by kernel_rfl) ?_; repeat (go_big_quiet_step (fail)); refine wpQuiet_nil ?_; rintro _ ⟨u, rfl⟩; go_wp2_with fail)
              go_roundw
              case rel => exact ⟨q + 1, by omega, by go_num, by first | exact hbi | exact hbi.trans (u.2.mono hbi.size), HR.out⟩
              case measure => simp [intOf]; omega
          · have h1' : (ok == 1) = false := by rw [beq_eq_false_iff_ne]; exact h1
            have HR := Lib.hid (HN.out (by rw [HBA.out, h1']; rfl))
            clear HBA HN HT
            go_wp2_with fail
            try (refine region_later (by kernel_rfl) (by kernel_rfl) ?_; repeat (go_big_quiet_step (fail)); refine wpQuiet_nil ?_; rintro _ ⟨u, rfl⟩; go_wp2_with fail)
            go_roundw
            case rel => exact ⟨q + 1, by omega, by go_num, by first | exact hbi | exact hbi.trans (u.2.mono hbi.size), HR.out⟩
            case measure => simp [intOf]; omega
    · obtain rfl : j = k := by omega
      have HR : Hid (blindB KL = false) := blind_none fun i hi => hno i (by have := HK.out; omega)
      clear hno
      go_wp2_with fail
      go_ret
      exact ⟨ret_bool (by rw [HV.out, HKE.out, HR.out]; rfl), hbw⟩
end Go.Proofs.Ytkbclcgdkbhgdaa
