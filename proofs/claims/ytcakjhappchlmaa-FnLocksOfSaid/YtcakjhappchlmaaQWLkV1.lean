/-
  IsTwoPhase of the reference.
-/
import Derived.Test.YtcakjhappchlmaaQWLkP1
import Derived.Test.YtcakjhappchlmaaPkLkG
namespace Go.Proofs.Ytcakjhappchlmaa
open Go.RowKit Go.BigFrame
set_option linter.unusedVariables false

theorem twoPB_true {st : List OpV} (h : ∀ (a b : Nat) (o p : OpV), a < b → st[a]? = some o → st[b]? = some p → twoR o p) : twoPB st = true := by
  unfold twoPB
  rw [decide_eq_true_eq, List.pairwise_iff_getElem]
  intro i j hi hj hij
  exact h i j _ _ hij (List.getElem?_eq_getElem hi) (List.getElem?_eq_getElem hj)
theorem twoPB_false {st : List OpV} {a b : Nat} {o p : OpV} (hab : a < b) (ho : st[a]? = some o) (hp : st[b]? = some p) (h : ¬ twoR o p) : twoPB st = false := by
  unfold twoPB
  rw [decide_eq_false_iff_not, List.pairwise_iff_getElem]
  intro hh
  obtain ⟨hi, rfl⟩ := List.getElem?_eq_some_iff.1 ho
  obtain ⟨hj, rfl⟩ := List.getElem?_eq_some_iff.1 hp
  exact h (hh a b hi hj hab)
def rowTwo (st : List OpV) (k : Nat) : Prop := ∀ (a b : Nat) (o p : OpV), a < k → a < b → st[a]? = some o → st[b]? = some p → twoR o p
theorem rowTwo_succ {st : List OpV} {k : Nat} {o : OpV} (h : rowTwo st k) (ho : st[k]? = some o) (hk : ∀ b p, k < b → st[b]? = some p → twoR o p) : rowTwo st (k + 1) := fun a b x y ha hab hx hy => by
  rcases Nat.lt_or_ge a k with h1 | h1
  · exact h a b x y h1 hab hx hy
  · obtain rfl : a = k := by omega
    rw [ho] at hx
    injection hx with hx
    subst hx
    exact hk b y hab hy

set_option maxRecDepth 100000 in
set_option maxHeartbeats 4000000 in
theorem stwoPhase_any (A : Option Addr) (n c : Nat) (st : List OpV) (w : World) (hx : ROps w A n st) :
    Calls Try.prog 109 #[.slice A n c] w fun e w' => e = .returned (.bool (twoPB st)) ∧ Below w.heap.size w w' := by
  have hn := hx.2.1
  have hl := hx.1
  have HX := Lib.hid hx
  clear hx
  go_enter Try.func109, Try.ntmps109
  go_wp2_with fail
  go_loopw [3] (fun i wr => ∃ k : Nat, k ≤ n ∧ i = .int .i64 k ∧ Below w.heap.size w wr ∧ rowTwo st k) (fun i _ => n - (intOf i).toNat)
  case atStart => exact ⟨0, by omega, rfl, Below.refl _ _, fun a b o p ha => by omega⟩
  case round =>
    obtain ⟨wo, rfl⟩ : ∃ wo : World, wo = wr := ⟨_, rfl⟩
    obtain ⟨k, hk, rfl, hb, hrow⟩ := hrel
    by_cases hlt : k < n
    · obtain ⟨b, off, o, rfl, hbl, ho, c0, c1, c2⟩ := (HX.out.below hb (Nat.le_refl _)).at_ hlt
      have hs := hb.size
      have hkd : decide ((k : Int) < (n : Int)) = true := by simp; omega
      have HCO : Hid (∀ u : World, Below wo.heap.size wo u → u.cell? ⟨b, off + k * 3, none⟩ = some (.int .i64 o.tx) ∧ u.cell? ⟨b, off + k * 3 + 1, none⟩ = some (.int .i64 o.kind)) := fun u hu => ⟨Later.cell c0 ⟨u, hu⟩, Later.cell c1 ⟨u, hu⟩⟩
      have HRS : Hid ((∀ b p, k < b → st[b]? = some p → twoR o p) → rowTwo st (k + 1)) := rowTwo_succ hrow ho
      have HO := Lib.hid ho
      clear hrow ho
      obtain ⟨tx, kd, it⟩ := o
      simp only at c0 c1 c2 HCO
      go_wp2_with fail
      clear c0 c1 c2
      go_loopw [4] (fun i' wr' => ∃ j : Nat, k + 1 ≤ j ∧ j ≤ n ∧ i' = .int .i64 j ∧ Below wo.heap.size wo wr' ∧ ∀ b p, k < b → b < j → st[b]? = some p → twoR ⟨tx, kd, it⟩ p) (fun i' _ => n - (intOf i').toNat)
      case atStart => exact ⟨k + 1, by omega, by omega, by go_num, Below.refl _ _, fun b p h1 h2 => by omega⟩
      case round =>
        obtain ⟨j, hkj, hj, rfl, hbr, hno⟩ := hrel
        obtain ⟨c0, c1⟩ := HCO.out wr hbr
        have hb2 := hb.trans (hbr.mono hs)
        by_cases hlt2 : j < n
        · have hat := (HX.out.below hb2 (Nat.le_refl _)).at_ hlt2
          obtain ⟨b', off', p, hA, hbl2, hp, d0, d1, d2⟩ := hat
          injection hA with hA
          injection hA with hA1 hA2
          subst hA1; subst hA2
          have hjd : decide ((j : Int) < (n : Int)) = true := by simp; omega
          have HGO : Hid (twoR ⟨tx, kd, it⟩ p → ∀ b q, k < b → b < j + 1 → st[b]? = some q → twoR ⟨tx, kd, it⟩ q) := fun hR b q h1 h2 h3 => by
            rcases Nat.lt_or_ge b j with h4 | h4
            · exact hno b q h1 h4 h3
            · obtain rfl : b = j := by omega
              rw [hp] at h3
              injection h3 with h3
              subst h3
              exact hR
          have HBAD : Hid (¬ twoR ⟨tx, kd, it⟩ p → twoPB st = false) := twoPB_false (by omega) HO.out hp
          clear hp hno
          obtain ⟨px, pk, pi⟩ := p
          simp only at d0 d1 d2
          have L0 := Later.cell c0
          have L1 := Later.cell c1
          have M0 := Later.cell d0
          have M1 := Later.cell d1
          by_cases hpx : tx = px
          · subst hpx
            have e1 : (tx == tx) = true := by simp
            by_cases hk2 : kd = 2
            · subst hk2
              by_cases hpk : pk ≤ 1
              · have e3 : decide (pk ≤ 1) = true := by simpa using hpk
                have HV : Hid (twoPB st = false) := HBAD.out fun h => h ⟨rfl, rfl, hpk⟩
                clear HBAD HGO
                go_wp2_with fail
                refine region_later (by kernel_rfl) (by kernel_rfl) ?_
                repeat (go_big_quiet_step (fail))
                refine wpQuiet_nil ?_
                rintro _ ⟨u, rfl⟩
                go_wp2_with fail
                go_ret
                exact ⟨ret_bool (by rw [HV.out]), hb2.trans (u.2.mono hb2.size)⟩
              · have e3 : decide (pk ≤ 1) = false := by simpa using hpk
                have HG := Lib.hid (HGO.out fun h => hpk h.2.2)
                clear HBAD HGO
                go_wp2_with fail
                refine region_later (by kernel_rfl) (by kernel_rfl) ?_
                repeat (go_big_quiet_step (fail))
                refine wpQuiet_nil ?_
                rintro _ ⟨u, rfl⟩
                go_wp2_with fail
                go_roundw
                case rel => exact ⟨j + 1, by omega, by omega, by go_num, hbr.trans (u.2.mono hbr.size), HG.out⟩
                case measure => simp [intOf]; omega
            · have e2 : (kd == 2) = false := by simpa using hk2
              have HG := Lib.hid (HGO.out fun h => hk2 h.2.1)
              clear HBAD HGO
              go_wp2_with fail
              refine region_later (by kernel_rfl) (by kernel_rfl) ?_
              repeat (go_big_quiet_step (fail))
              refine wpQuiet_nil ?_
              rintro _ ⟨u, rfl⟩
              go_wp2_with fail
              go_roundw
              case rel => exact ⟨j + 1, by omega, by omega, by go_num, hbr.trans (u.2.mono hbr.size), HG.out⟩
              case measure => simp [intOf]; omega
          · have e1 : (tx == px) = false := by simpa using hpx
            have HG := Lib.hid (HGO.out fun h => hpx h.1)
            clear HBAD HGO
            go_wp2_with fail
            refine region_later (by kernel_rfl) (by kernel_rfl) ?_
            repeat (go_big_quiet_step (fail))
            refine wpQuiet_nil ?_
            rintro _ ⟨u, rfl⟩
            go_wp2_with fail
            go_roundw
            case rel => exact ⟨j + 1, by omega, by omega, by go_num, hbr.trans (u.2.mono hbr.size), HG.out⟩
            case measure => simp [intOf]; omega
        · have hjd : decide ((j : Int) < (n : Int)) = false := by simp; omega
          have HR : Hid (rowTwo st (k + 1)) := HRS.out fun b p h1 h2 => hno b p h1 (by have := (List.getElem?_eq_some_iff.1 h2).1; omega) h2
          clear hno
          go_wp2_with fail
          go_roundw
          case rel => exact ⟨k + 1, by omega, by go_num, hb2, HR.out⟩
          case measure => simp [intOf]; omega
    · have hkd : decide ((k : Int) < (n : Int)) = false := by simp; omega
      have HV : Hid (twoPB st = true) := twoPB_true fun a b o p hab h1 h2 => hrow a b o p (by have := (List.getElem?_eq_some_iff.1 h1).1; omega) hab h1 h2
      clear hrow
      go_wp2_with fail
      go_ret
      exact ⟨ret_bool (by rw [HV.out]), hb⟩
set_option maxRecDepth 100000 in
set_option maxHeartbeats 1000000 in
theorem sIsTwoPhase_any (A : Option Addr) (n c : Nat) (st : List OpV) (w : World) (hx : ROps w A n st) :
    Calls Try.prog 46 #[.slice A n c] w fun e w' => e = .returned (.bool (validL st && twoPB st)) ∧ Below w.heap.size w w' := by
  have hva := svalidSteps_any A n c st w hx
  have HX := Lib.hid hx
  obtain ⟨bv, hbv⟩ : ∃ b, validL st = b := ⟨_, rfl⟩
  rw [hbv] at hva
  rw [hbv]
  have HVA := Lib.hid hva
  clear hx hva hbv
  cases bv
  · go_enter Try.func46, Try.ntmps46
    go_wp2_with (go_at_call 76; refine HVA.out.mono ?_; rintro e w1 ⟨rfl, hbw⟩)
    go_ret
    exact ⟨rfl, hbw⟩
  · obtain ⟨bt, hbt⟩ : ∃ b, twoPB st = b := ⟨_, rfl⟩
    have HT : Hid (∀ W, Below w.heap.size w W → Calls Try.prog 109 #[.slice A n c] W fun e w' => e = .returned (.bool bt) ∧ Below W.heap.size W w') := fun W h => by
      have := stwoPhase_any A n c st W (HX.out.below h (Nat.le_refl _)); rw [hbt] at this; exact this
    rw [hbt]
    clear hbt
    go_enter Try.func46, Try.ntmps46
    go_wp2_with (first | (go_at_call 76; refine HVA.out.mono ?_; rintro e w1 ⟨rfl, hbw⟩) | (go_at_call 109; refine (HT.out w1 hbw).mono ?_; rintro e w2 ⟨rfl, hb2⟩))
    go_ret
    exact ⟨rfl, hbw.trans (hb2.mono hbw.size)⟩
end Go.Proofs.Ytcakjhappchlmaa
