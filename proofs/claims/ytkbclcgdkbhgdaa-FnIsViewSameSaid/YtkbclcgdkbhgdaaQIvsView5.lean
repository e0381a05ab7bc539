/-
  The same operations of each transaction: the program's walk and the reference's; places and numbers of the reference.
-/
import Derived.Test.YtkbclcgdkbhgdaaQIvsView2
import Derived.Test.YtkbclcgdkbhgdaaQIvsLaw1
import Derived.Test.YtkbclcgdkbhgdaaPkOrdX2
import Derived.IntWalk
namespace Go.Proofs.Ytkbclcgdkbhgdaa
open Go.RowKit Go.BigFrame
set_option linter.unusedVariables false

set_option maxRecDepth 100000 in
set_option maxHeartbeats 1000000 in
theorem EqualOp_any (A B : Option Addr) (n m c d : Nat) (xs ys : List OpV) (w : World) (hx : ROps w A n xs) (hy : ROps w B m ys) :
    Calls Try.prog 129 #[.slice A n c, .slice B m d] w fun e w' => e = .returned (.bool (xs == ys)) ∧ Below w.heap.size w w' := by
  have hn := hx.2.1
  have hl := hx.1
  have hm := hy.2.1
  have hly := hy.1
  have HX := Lib.hid hx
  have HY := Lib.hid hy
  clear hx hy
  by_cases hnm : n = m
  · subst hnm
    go_enter Try.func129, Try.ntmps129
    go_wp2_with fail
    go_loopw [13] (fun i wr => ∃ k : Nat, k ≤ n ∧ i = .int .i64 k ∧ Below w.heap.size w wr ∧ ∀ j, j < k → xs[j]? = ys[j]?) (fun i _ => n - (intOf i).toNat)
    case atStart => exact ⟨0, Nat.zero_le _, rfl, Below.refl _ _, by omega⟩
    case round =>
      obtain ⟨k, hk, rfl, hb, hno⟩ := hrel
      by_cases hlt : k < n
      · obtain ⟨b, off, x, rfl, hbl, hox, c0, c1, c2⟩ := (HX.out.below hb (Nat.le_refl _)).at_ hlt
        obtain ⟨b', off', y, rfl, hbl', hoy, d0, d1, d2⟩ := (HY.out.below hb (Nat.le_refl _)).at_ hlt
        have HN : Hid (x = y → ∀ j, j < k + 1 → xs[j]? = ys[j]?) := fun h j hj => by
          by_cases e : j = k
          · subst e; rw [hox, hoy, h]
          · exact hno j (by omega)
        have HT : Hid (¬ x = y → (xs == ys) = false) := fun h => by
          rw [beq_eq_false_iff_ne]
          intro e
          rw [e, hoy] at hox
          injection hox with hox
          exact h hox.symm
        have L0 := Later.cell c0
        have L1 := Later.cell c1
        have L2 := Later.cell c2
        have M0 := Later.cell d0
        have M1 := Later.cell d1
        have M2 := Later.cell d2
        have hki : (k : Int) < (n : Int) := by omega
        obtain ⟨bb, hbb⟩ : ∃ bb, (y == x) = bb := ⟨_, rfl⟩
        have HB := Lib.hid hbb
        obtain ⟨x0, x1, x2⟩ := x
        obtain ⟨y0, y1, y2⟩ := y
        simp only at L0 L1 L2 M0 M1 M2
        have hbq := beq_op x0 x1 x2 y0 y1 y2
        rw [hbb] at hbq
        have hne : ∀ w : World, (binOp .neq 32 (.agg #[.int .i64 x0, .int .i64 x1, .int .i64 x2]) (.agg #[.int .i64 y0, .int .i64 y1, .int .i64 y2])).run Try.prog w = .ok (.bool (!bb)) w := fun w => by
          rw [neq_op, hbq]
        have hgd := op_guard
        clear hno hox hoy c0 c1 c2 d0 d1 d2 hbb hbq
        cases bb
        · simp only [Bool.not_false] at hne
          have hs := Lib.hid (HT.out (fun e => by have := HB.out; rw [beq_eq_false_iff_ne] at this; exact this e.symm))
          go_wp2_with fail
          refine region_later (by kernel_rfl) (by kernel_rfl) ?_
          repeat (go_big_quiet_step (fail))
          refine wpQuiet_nil ?_
          rintro _ ⟨u, rfl⟩
          have hbu := hb.trans (u.2.mono hb.size)
          go_wp2_with fail
          go_ret
          exact ⟨ret_bool hs.out.symm, hbu⟩
        · simp only [Bool.not_true] at hne
          have hs := Lib.hid (HN.out (by have := HB.out; rw [beq_iff_eq] at this; exact this.symm))
          go_wp2_with fail
          refine region_later (by kernel_rfl) (by kernel_rfl) ?_
          repeat (go_big_quiet_step (fail))
          refine wpQuiet_nil ?_
          rintro _ ⟨u, rfl⟩
          have hbu := hb.trans (u.2.mono hb.size)
          go_wp2_with fail
          go_roundw
          case rel => exact ⟨k + 1, by omega, by go_num, hbu, hs.out⟩
          case measure => simp [intOf]; omega
      · have hs : Hid ((xs == ys) = true) := by
          show _ = _
          rw [beq_iff_eq]
          exact eq_of_get (by omega) (fun j hj => hno j (by omega))
        clear hno
        go_wp2_with fail
        go_ret
        exact ⟨ret_bool hs.out.symm, hb⟩
  · have hs : Hid ((xs == ys) = false) := by
      show _ = _
      rw [beq_eq_false_iff_ne]
      intro e
      rw [e] at hl
      omega
    go_enter Try.func129, Try.ntmps129
    go_wp2_with fail
    go_ret
    exact ⟨ret_bool hs.out.symm, Below.refl _ _⟩


def soTo (a b : List OpV) (k : Nat) : Prop := ∀ t : Nat, t < k → opsOf a (t : Int) = opsOf b (t : Int)
theorem soTo_all {a b : List OpV} (h : soTo a b 4) : sameOpsB a b = true := by
  unfold sameOpsB
  rw [List.all_eq_true]
  intro t ht
  simp at ht
  rw [beq_iff_eq]
  exact h t ht
theorem soTo_not {a b : List OpV} {t : Nat} (ht : t < 4) (h : opsOf a (t : Int) ≠ opsOf b (t : Int)) : sameOpsB a b = false := by
  cases e : sameOpsB a b
  · rfl
  · unfold sameOpsB at e
    rw [List.all_eq_true] at e
    have := e t (by simpa using ht)
    rw [beq_iff_eq] at this
    exact absurd this h
theorem soTo_succ {a b : List OpV} {k : Nat} (h : soTo a b k) (e : opsOf a (k : Int) = opsOf b (k : Int)) : soTo a b (k + 1) := fun t ht => by
  by_cases hk : t = k
  · subst hk; exact e
  · exact h t (by omega)

set_option maxRecDepth 100000 in
set_option maxHeartbeats 1000000 in
theorem sameOps_any (A B : Option Addr) (n m c d : Nat) (a b : List OpV) (w : World) (hx : ROps w A n a) (hy : ROps w B m b) :
    Calls Try.prog 86 #[.slice A n c, .slice B m d] w fun e w' => e = .returned (.bool (sameOpsB a b)) ∧ Below w.heap.size w w' := by
  have HX := Lib.hid hx
  have HY := Lib.hid hy
  clear hx hy
  go_enter Try.func86, Try.ntmps86
  go_wp2_with fail
  go_loopw [6] (fun i wr => ∃ k : Nat, k ≤ 4 ∧ i = .int .i64 k ∧ Below w.heap.size w wr ∧ soTo a b k) (fun i _ => 4 - (intOf i).toNat)
  case atStart => exact ⟨0, by omega, rfl, Below.refl _ _, fun t h => by omega⟩
  case round =>
    obtain ⟨k, hk, rfl, hb, hno⟩ := hrel
    by_cases hlt : k < 4
    · have HS := Lib.hid hno
      have HA := Lib.hid (opsOf_any A n c a (k : Int) wr (HX.out.below hb (Nat.le_refl _)))
      clear hno
      have hki : (k : Int) < 4 := by omega
      go_wp2_with fail
      refine HA.out.mono ?_
      rintro e w1 ⟨P, pc, rfl, hpc, hf1, hb1⟩
      have hbw1 := hb.trans (hb1.mono hb.size)
      have HP := Lib.hid hf1.1
      have HB := Lib.hid (opsOf_any B m d b (k : Int) w1 (HY.out.below hbw1 (Nat.le_refl _)))
      clear hf1
      go_wp2_with fail
      refine HB.out.mono ?_
      rintro e w2 ⟨Q, qc, rfl, hqc, hf2, hb2⟩
      have hbw2 := hbw1.trans (hb2.mono hbw1.size)
      have HE := Lib.hid (EqualOp_any P Q _ _ pc qc (opsOf a (k : Int)) (opsOf b (k : Int)) w2 (HP.out.below hb2 (Nat.le_refl _)) hf2.1)
      clear hf2
      by_cases he : opsOf a (k : Int) = opsOf b (k : Int)
      · have HN := Lib.hid (soTo_succ HS.out he)
        have e1 : (opsOf a (k : Int) == opsOf b (k : Int)) = true := by rw [he]; simp
        rw [e1] at HE
        clear he e1
        go_wp2_with fail
        refine HE.out.mono ?_
        rintro e w3 ⟨rfl, hb3⟩
        go_wp2_with fail
        go_roundw
        case rel => exact ⟨k + 1, by omega, by go_num, hbw2.trans (hb3.mono hbw2.size), HN.out⟩
        case measure => simp [intOf]; omega
      · have HN := Lib.hid (soTo_not hlt he)
        have e1 : (opsOf a (k : Int) == opsOf b (k : Int)) = false := by rw [beq_eq_false_iff_ne]; exact he
        rw [e1] at HE
        clear he e1
        go_wp2_with fail
        refine HE.out.mono ?_
        rintro e w3 ⟨rfl, hb3⟩
        go_wp2_with fail
        go_ret
        exact ⟨ret_bool HN.out.symm, hbw2.trans (hb3.mono hbw2.size)⟩
    · obtain rfl : k = 4 := by omega
      have HN := Lib.hid (soTo_all hno)
      clear hno
      go_wp2_with fail
      go_ret
      exact ⟨ret_bool HN.out.symm, hb⟩

set_option maxRecDepth 100000 in
set_option maxHeartbeats 2000000 in
theorem ssameOps_any (A B : Option Addr) (n m c d : Nat) (a b : List OpV) (w : World) (hx : ROps w A n a) (hy : ROps w B m b) :
    Calls Try.prog 89 #[.slice A n c, .slice B m d] w fun e w' => e = .returned (.bool (sameOpsB a b)) ∧ Below w.heap.size w w' := by
  have HX := Lib.hid hx
  have HY := Lib.hid hy
  clear hx hy
  go_enter Try.func89, Try.ntmps89
  go_wp2_with fail
  go_loopw [5] (fun i wr => ∃ k : Nat, k ≤ 4 ∧ i = .int .i64 k ∧ Below w.heap.size w wr ∧ soTo a b k) (fun i _ => 4 - (intOf i).toNat)
  case atStart => exact ⟨0, by omega, rfl, Below.refl _ _, fun t h => by omega⟩
  case round =>
    obtain ⟨wo, rfl⟩ : ∃ wo : World, wo = wr := ⟨_, rfl⟩
    obtain ⟨k, hk, rfl, hb, hno⟩ := hrel
    by_cases hlt : k < 4
    · have HS := Lib.hid hno
      have HA := Lib.hid (sopsOf_any A n c a (k : Int) wo (HX.out.below hb (Nat.le_refl _)))
      clear hno
      have hki : (k : Int) < 4 := by omega
      go_wp2_with fail
      refine HA.out.mono ?_
      rintro e w1 ⟨P, pc, rfl, hpc, hf1, hb1⟩
      have hbw1 := hb.trans (hb1.mono hb.size)
      have HP := Lib.hid hf1.1
      have HB := Lib.hid (sopsOf_any B m d b (k : Int) w1 (HY.out.below hbw1 (Nat.le_refl _)))
      clear hf1
      go_wp2_with fail
      refine HB.out.mono ?_
      rintro e w2 ⟨Q, qc, rfl, hqc, hf2, hb2⟩
      have hbw2 := hbw1.trans (hb2.mono hbw1.size)
      have HQ := Lib.hid hf2.1
      have HP2 := Lib.hid (HP.out.below hb2 (Nat.le_refl _))
      have HN1 : Hid (opsOf a (k : Int) = opsOf b (k : Int) → soTo a b (k + 1)) := fun e => soTo_succ HS.out e
      have HN2 : Hid (opsOf a (k : Int) ≠ opsOf b (k : Int) → sameOpsB a b = false) := fun e => soTo_not hlt e
      have hpn := HP.out.2.1
      have hqn := HQ.out.2.1

      clear hf2 HA HB HP
      generalize opsOf a (k : Int) = xs at *
      generalize opsOf b (k : Int) = ys at *
      obtain ⟨x, hxl⟩ : ∃ x, xs.length = x := ⟨_, rfl⟩
      obtain ⟨y, hyl⟩ : ∃ y, ys.length = y := ⟨_, rfl⟩
      rw [hxl] at HP2 hpc hpn ⊢
      rw [hyl] at HQ hqc hqn ⊢
      have HXL := Lib.hid hxl
      have HYL := Lib.hid hyl
      clear hxl hyl
      by_cases hxy : x = y
      · subst hxy
        go_wp2_with fail
        go_loopw [8] (fun i wr => ∃ q : Nat, q ≤ x ∧ i = .int .i64 q ∧ Below w2.heap.size w2 wr ∧ ∀ j, j < q → xs[j]? = ys[j]?) (fun i _ => x - (intOf i).toNat)
        case atStart => exact ⟨0, Nat.zero_le _, rfl, Below.refl _ _, by omega⟩
        case round =>
          obtain ⟨wi, rfl⟩ : ∃ wi : World, wi = wr := ⟨_, rfl⟩
          obtain ⟨q, hq, rfl, hbi, hsame⟩ := hrel
          have hbwi := hbw2.trans (hbi.mono hbw2.size)
          by_cases hltq : q < x
          · obtain ⟨b1, off1, o, rfl, hbl1, ho, c0, c1, c2⟩ := (HP2.out.below hbi (Nat.le_refl _)).at_ hltq
            obtain ⟨b2, off2, p, rfl, hbl2, hp, d0, d1, d2⟩ := (HQ.out.below hbi (Nat.le_refl _)).at_ hltq
            have HSN : Hid (o = p → ∀ j, j < q + 1 → xs[j]? = ys[j]?) := fun h j hj => by
              by_cases e : j = q
              · subst e; rw [ho, hp, h]
              · exact hsame j (by omega)
            have HT : Hid (¬ o = p → sameOpsB a b = false) := fun h => HN2.out fun e => by
              rw [e, hp] at ho
              injection ho with ho
              exact h ho.symm
            have L0 := Later.cell c0
            have L1 := Later.cell c1
            have L2 := Later.cell c2
            have M0 := Later.cell d0
            have M1 := Later.cell d1
            have M2 := Later.cell d2
            have hqi : (q : Int) < (x : Int) := by omega
            have hq0 : (0 : Int) ≤ (q : Int) := by omega
            obtain ⟨bb, hbb⟩ : ∃ bb, (p == o) = bb := ⟨_, rfl⟩
            have HB := Lib.hid hbb
            obtain ⟨x0, x1, x2⟩ := o
            obtain ⟨y0, y1, y2⟩ := p
            simp only at L0 L1 L2 M0 M1 M2
            have hbq := beq_op x0 x1 x2 y0 y1 y2
            rw [hbb] at hbq
            have hne : ∀ w : World, (binOp .neq 32 (.agg #[.int .i64 x0, .int .i64 x1, .int .i64 x2]) (.agg #[.int .i64 y0, .int .i64 y1, .int .i64 y2])).run Try.prog w = .ok (.bool (!bb)) w := fun w => by
              rw [neq_op, hbq]
            have hgd := op_guard
            clear hsame ho hp c0 c1 c2 d0 d1 d2 hbb hbq
            cases bb
            · simp only [Bool.not_false] at hne
              have hs := Lib.hid (HT.out (fun e => by have := HB.out; rw [beq_eq_false_iff_ne] at this; exact this e.symm))
              go_wp2_with fail
              refine region_later (by kernel_rfl) (by kernel_rfl) ?_
              repeat (go_big_quiet_step (fail))
              refine wpQuiet_nil ?_
              rintro _ ⟨u, rfl⟩
              have hbu := hbwi.trans (u.2.mono hbwi.size)
              go_wp2_with fail
              go_ret
              exact ⟨ret_bool hs.out.symm, hbu⟩
            · simp only [Bool.not_true] at hne
              have hs := Lib.hid (HSN.out (by have := HB.out; rw [beq_iff_eq] at this; exact this.symm))
              go_wp2_with fail
              refine region_later (by kernel_rfl) (by kernel_rfl) ?_
              repeat (go_big_quiet_step (fail))
              refine wpQuiet_nil ?_
              rintro _ ⟨u, rfl⟩
              have hbu := hbi.trans (u.2.mono hbi.size)
              go_wp2_with fail
              go_roundw
              case rel => exact ⟨q + 1, by omega, by go_num, hbu, hs.out⟩
              case measure => simp [intOf]; omega
          · have HNN := Lib.hid (HN1.out (eq_of_get (by rw [HXL.out, HYL.out]) (fun j hj => hsame j (by have := HXL.out; omega))))
            clear hsame
            go_wp2_with fail
            go_roundw
            case rel => exact ⟨k + 1, by omega, by go_num, hbwi, HNN.out⟩
            case measure => simp [intOf]; omega
      · have HNN := Lib.hid (HN2.out (fun e => hxy (by rw [← HXL.out, ← HYL.out, e])))
        have hxyi : ((x : Int) != (y : Int)) = true := by rw [bne_iff_ne]; omega
        go_wp2_with fail
        go_ret
        exact ⟨ret_bool HNN.out.symm, hbw2⟩
    · obtain rfl : k = 4 := by omega
      have HN := Lib.hid (soTo_all hno)
      clear hno
      go_wp2_with fail
      go_ret
      exact ⟨ret_bool HN.out.symm, hb⟩

set_option maxRecDepth 100000 in
set_option maxHeartbeats 1000000 in
theorem numberOf_any (A : Option Addr) (n c k : Nat) (s : List OpV) (o : OpV) (w : World) (hx : ROps w A n s) (ho : s[k]? = some o) :
    Calls Try.prog 92 #[.slice A n c, .int .i64 (k : Int)] w fun e w' => e = .returned (.int .i64 (cntN s o.tx k : Int)) ∧ Below w.heap.size w w' := by
  have hn := hx.2.1
  have hkn : k < n := by have := (List.getElem?_eq_some_iff.1 ho).1; have := hx.1; omega
  have HX := Lib.hid hx
  have HO := Lib.hid ho
  clear hx ho
  go_enter Try.func92, Try.ntmps92
  go_wp2_with fail
  go_loopw [5, 6] (fun x i wr => ∃ (j C : Nat), j ≤ k ∧ C ≤ j ∧ i = .int .i64 j ∧ x = .int .i64 C ∧ cntN s o.tx j = C ∧ Below w.heap.size w wr) (fun _ i _ => k - (intOf i).toNat)
  case atStart => exact ⟨0, 0, Nat.zero_le _, Nat.le_refl _, rfl, rfl, cntN_zero, Below.refl _ _⟩
  case round =>
    obtain ⟨j, C, hj, hCj, rfl, rfl, hC, hb⟩ := hrel
    have HCC := Lib.hid hC
    by_cases hlt : j < k
    · have hr := HX.out.below hb (Nat.le_refl _)
      obtain ⟨b, off, o', hA, hbl, ho', c0, _, _⟩ := hr.at_ hkn
      rw [HO.out] at ho'
      injection ho' with ho'
      subst ho'
      obtain ⟨b2, off2, p, hA2, hbl2, hp, d0, _, _⟩ := hr.at_ (k := j) (by omega)
      rw [hA] at hA2
      injection hA2 with hA2; injection hA2 with q1 q2 _; subst q1; subst q2
      subst hA
      have HS := Lib.hid (cntN_succ (t := o.tx) hp)
      have L0 := Later.cell c0
      have M0 := Later.cell d0
      have hji : (j : Int) < (k : Int) := by omega
      have hjn : (j : Int) < (n : Int) := by omega
      have hkni : (k : Int) < (n : Int) := by omega
      have hk0 : (0 : Int) ≤ (k : Int) := by omega
      have hj0 : (0 : Int) ≤ (j : Int) := by omega
      clear hC hp c0 d0 hr
      obtain ⟨pt, pk, pi⟩ := p
      simp only at M0
      by_cases h1 : pt = o.tx
      · have HN : Hid (cntN s o.tx (j + 1) = C + 1) := by show _ = _; rw [HS.out, HCC.out, if_pos h1]
        have h1d : (pt == o.tx) = true := by simpa using h1
        clear h1
        go_wp2_with fail
        refine region_later (by kernel_rfl) (by kernel_rfl) ?_
        repeat (go_big_quiet_step (fail))
        refine wpQuiet_nil ?_
        rintro _ ⟨u, rfl⟩
        have hbu := hb.trans (u.2.mono hb.size)
        go_wp2_with fail
        go_roundw
        case rel => exact ⟨j + 1, C + 1, by omega, by omega, by go_num, by go_num, HN.out, hbu⟩
        case measure => simp [intOf]; omega
      · have HN : Hid (cntN s o.tx (j + 1) = C) := by show _ = _; rw [HS.out, HCC.out, if_neg h1]; rfl
        have h1d : (pt == o.tx) = false := by simpa using h1
        clear h1
        go_wp2_with fail
        refine region_later (by kernel_rfl) (by kernel_rfl) ?_
        repeat (go_big_quiet_step (fail))
        refine wpQuiet_nil ?_
        rintro _ ⟨u, rfl⟩
        have hbu := hb.trans (u.2.mono hb.size)
        go_wp2_with fail
        go_roundw
        case rel => exact ⟨j + 1, C, by omega, by omega, by go_num, rfl, HN.out, hbu⟩
        case measure => simp [intOf]; omega
    · obtain rfl : j = k := by omega
      go_wp2_with fail
      go_ret
      exact ⟨ret_int (by rw [HCC.out]), hb⟩

set_option maxRecDepth 100000 in
set_option maxHeartbeats 1000000 in
theorem placeOf_any (A : Option Addr) (n c K j : Nat) (s : List OpV) (t : Int) (w : World) (hx : ROps w A n s) (hat : At s t K j) :
    Calls Try.prog 91 #[.slice A n c, .int .i64 t, .int .i64 (K : Int)] w fun e w' => e = .returned (.int .i64 (j : Int)) ∧ Below w.heap.size w w' := by
  have hn := hx.2.1
  have hjn : j < n := by obtain ⟨o, ho, _⟩ := hat; have := (List.getElem?_eq_some_iff.1 ho).1; have := hx.1; omega
  have hKj : K ≤ j := by obtain ⟨o, _, _, h⟩ := hat; rw [← h]; exact cntN_le
  have HX := Lib.hid hx
  have HAT := Lib.hid hat
  clear hx hat
  go_enter Try.func91, Try.ntmps91
  go_wp2_with fail
  go_loopw [2, 7] (fun x i wr => ∃ (q C : Nat), q ≤ j ∧ C ≤ K ∧ i = .int .i64 q ∧ x = .int .i64 ((K : Int) - (C : Int)) ∧ cntN s t q = C ∧ Below w.heap.size w wr) (fun _ i _ => j + 1 - (intOf i).toNat)
  case atStart => exact ⟨0, 0, Nat.zero_le _, Nat.zero_le _, rfl, by simp, cntN_zero, Below.refl _ _⟩
  case round =>
    obtain ⟨q, C, hq, hCK, rfl, rfl, hC, hb⟩ := hrel
    have HCC := Lib.hid hC
    obtain ⟨b, off, o, rfl, hbl, ho, c0, _, _⟩ := (HX.out.below hb (Nat.le_refl _)).at_ (k := q) (by omega)
    have HS := Lib.hid (cntN_succ (t := t) ho)
    have HO := Lib.hid ho
    have hqn : (q : Int) < (n : Int) := by omega
    clear hC ho
    obtain ⟨ot, ok, oi⟩ := o
    simp only at c0
    by_cases h1 : ot = t
    · subst h1
      by_cases h2 : C = K
      · subst h2
        have hqj : q = j := At.uniq (s := s) (t := ot) (k := C) ⟨_, HO.out, rfl, HCC.out⟩ HAT.out
        subst hqj
        have hz : ((C : Int) - (C : Int)) = 0 := by omega
        go_wp2_with fail
        go_ret
        exact ⟨rfl, hb⟩
      · have hlt : q < j := by
          rcases Nat.lt_or_ge q j with e | e
          · exact e
          · exfalso
            obtain rfl : q = j := by omega
            obtain ⟨o, h3, h4, h5⟩ := HAT.out
            exact h2 (by rw [← HCC.out, h5])
        have HN : Hid (cntN s ot (q + 1) = C + 1) := by show _ = _; rw [HS.out, HCC.out, if_pos rfl]
        have hz : ¬ ((K : Int) - (C : Int) = 0) := by omega
        have hw : IntKind.i64.wrap ((K : Int) - (C : Int) - 1) = (K : Int) - (C : Int) - 1 := IntWalk.i64_in _ (by omega)
        go_wp2_with fail
        go_roundw
        case rel => exact ⟨q + 1, C + 1, by omega, by omega, by go_num, by congr 1; omega, HN.out, hb⟩
        case measure => simp [intOf]; omega
    · have hlt : q < j := by
        rcases Nat.lt_or_ge q j with e | e
        · exact e
        · exfalso
          obtain rfl : q = j := by omega
          obtain ⟨o, h3, h4, h5⟩ := HAT.out
          rw [HO.out] at h3
          injection h3 with h3
          subst h3
          exact h1 h4
      have HN : Hid (cntN s t (q + 1) = C) := by show _ = _; rw [HS.out, HCC.out, if_neg h1]; rfl
      go_wp2_with fail
      go_roundw
      case rel => exact ⟨q + 1, C, by omega, by omega, by go_num, rfl, HN.out, hb⟩
      case measure => simp [intOf]; omega
end Go.Proofs.Ytkbclcgdkbhgdaa
