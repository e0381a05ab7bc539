/-
  twice of the laws: whether a transaction writes an item twice: the walk.
-/
import Derived.Test.YtkbclcgdkbhgdaaQHblBlind0
namespace Go.Proofs.Ytkbclcgdkbhgdaa
open Go.RowKit Go.BigFrame
set_option linter.unusedVariables false

def Twice (c : List OpV) : Prop := ∃ (i k : Nat) (o : OpV), k < i ∧ c[i]? = some o ∧ c[k]? = some o ∧ o.kind = 1
noncomputable def twiceB (c : List OpV) : Bool := @decide (Twice c) (Classical.propDecidable _)
theorem twice_hit {c : List OpV} {i k : Nat} {o p : OpV} (hki : k < i) (h : c[i]? = some o) (h2 : c[k]? = some p) (hk : o.kind = 1) (he : o = p) : twiceB c = true := by
  unfold twiceB
  subst he
  exact (@decide_eq_true_iff _ (Classical.propDecidable _)).2 ⟨i, k, o, hki, h, h2, hk⟩
theorem twice_none {c : List OpV} (h : ∀ i, i < c.length → ∀ k, k < i → ∀ o p, c[i]? = some o → c[k]? = some p → o.kind = 1 → o ≠ p) : twiceB c = false := by
  cases e : twiceB c
  · rfl
  · unfold twiceB at e
    obtain ⟨i, k, o, h1, h2, h3, h4⟩ := (@decide_eq_true_iff _ (Classical.propDecidable _)).1 e
    exact absurd rfl (h i (List.getElem?_eq_some_iff.1 h2).1 k h1 o o h2 h3 h4)
theorem twice_no {c : List OpV} (h : twiceB c = false) : NoTwice c := by
  intro i k o p hi hk ho hp ht hit
  obtain ⟨ot, ok, oi⟩ := o
  obtain ⟨pt, pk, pi⟩ := p
  simp only at ho hp ht hit
  subst ho; subst hp; subst ht; subst hit
  rcases Nat.lt_trichotomy i k with e | e | e
  · rw [twice_hit e hk hi rfl rfl] at h; cases h
  · exact e
  · rw [twice_hit e hi hk rfl rfl] at h; cases h

set_option maxRecDepth 100000 in
set_option maxHeartbeats 2000000 in
theorem twice_any (A : Option Addr) (n c : Nat) (s : List OpV) (w : World) (hx : ROps w A n s) :
    Calls Try.prog 50 #[.slice A n c] w fun e w' => e = .returned (.bool (twiceB s)) ∧ Below w.heap.size w w' := by
  have hn := hx.2.1
  have hl := hx.1
  have HX := Lib.hid hx
  have HL := Lib.hid hl
  clear hx hl
  go_enter Try.func50, Try.ntmps50
  go_wp2_with fail
  go_loopw [3] (fun i wr => ∃ j : Nat, j ≤ n ∧ i = .int .i64 j ∧ Below w.heap.size w wr ∧ ∀ i, i < j → ∀ k, k < i → ∀ o p, s[i]? = some o → s[k]? = some p → o.kind = 1 → o ≠ p) (fun i _ => n - (intOf i).toNat)
  case atStart => exact ⟨0, Nat.zero_le _, rfl, Below.refl _ _, by omega⟩
  case round =>
    obtain ⟨wo, rfl⟩ : ∃ wo : World, wo = wr := ⟨_, rfl⟩
    obtain ⟨j, hj, rfl, hb, hno⟩ := hrel
    have HNO := Lib.hid hno
    clear hno
    by_cases hlt : j < n
    · have hji : (j : Int) < (n : Int) := by omega
      have hj0 : (0 : Int) ≤ (j : Int) := by omega
      go_wp2_with fail
      go_loopw [4] (fun i wr => ∃ q : Nat, q ≤ j ∧ i = .int .i64 q ∧ Below w.heap.size w wr ∧ ∀ k, k < q → ∀ o p, s[j]? = some o → s[k]? = some p → o.kind = 1 → o ≠ p) (fun i _ => j - (intOf i).toNat)
      case atStart => exact ⟨0, Nat.zero_le _, rfl, hb, by omega⟩
      case round =>
        obtain ⟨wi, rfl⟩ : ∃ wi : World, wi = wr := ⟨_, rfl⟩
        obtain ⟨q, hq, rfl, hbi, hrow⟩ := hrel
        by_cases hltq : q < j
        · have hxi := HX.out.below hbi (Nat.le_refl _)
          obtain ⟨b, off, o, rfl, hbl, ho, c0, c1, c2⟩ := hxi.at_ hlt
          obtain ⟨b', off', p, hA2, hbl2, hp, d0, d1, d2⟩ := hxi.at_ (k := q) (by omega)
          injection hA2 with hA2; injection hA2 with q1 q2 _; subst q1; subst q2
          have HN : Hid ((o.kind = 1 → o ≠ p) → ∀ k, k < q + 1 → ∀ o p, s[j]? = some o → s[k]? = some p → o.kind = 1 → o ≠ p) := fun h k hk o' p' h1 h2 => by
            by_cases e : k = q
            · subst e
              rw [ho] at h1; injection h1 with h1; subst h1
              rw [hp] at h2; injection h2 with h2; subst h2
              exact h
            · exact hrow k (by omega) o' p' h1 h2
          have HT : Hid (o.kind = 1 → o = p → twiceB s = true) := fun h1 h2 => twice_hit hltq ho hp h1 h2
          obtain ⟨ot, ok, oi⟩ := o
          obtain ⟨pt, pk, pi⟩ := p
          simp only at c0 c1 c2 d0 d1 d2
          have C0 := Later.cell c0
          have C1 := Later.cell c1
          have C2 := Later.cell c2
          have D0 := Later.cell d0
          have D1 := Later.cell d1
          have D2 := Later.cell d2
          have hqi : (q : Int) < (j : Int) := by omega
          have hqn : (q : Int) < (n : Int) := by omega
          have hq0 : (0 : Int) ≤ (q : Int) := by omega
          have hbq : Hid ((ot == pt && ok == pk && oi == pi) = ((⟨pt, pk, pi⟩ : OpV) == ⟨ot, ok, oi⟩)) := beq_op _ _ _ _ _ _
          have hgd := op_guard
          clear hrow ho hp c0 c1 c2 d0 d1 d2 hxi
          by_cases h1 : ok = 1
          · subst h1
            by_cases he : (⟨ot, 1, oi⟩ : OpV) = ⟨pt, pk, pi⟩
            · have HR := Lib.hid (HT.out rfl he)
              have heq : ∀ w : World, (binOp .eql 32 (.agg #[.int .i64 ot, .int .i64 1, .int .i64 oi]) (.agg #[.int .i64 pt, .int .i64 pk, .int .i64 pi])).run Try.prog w = .ok (.bool true) w := fun w => by
                rw [eql_op, hbq.out, he, beq_self_eq_true]
              clear he HN HT
              go_wp2_with fail
              refine region_later (by kernel_rfl) (by kernel_rfl) ?_
              repeat (go_big_quiet_step (fail))
              refine wpQuiet_nil ?_
              rintro _ ⟨u, rfl⟩
              have hbu := hbi.trans (u.2.mono hbi.size)
              go_wp2_with fail
              go_ret
              exact ⟨ret_bool HR.out.symm, hbu⟩
            · have HR := Lib.hid (HN.out (fun _ => he))
              have heq : ∀ w : World, (binOp .eql 32 (.agg #[.int .i64 ot, .int .i64 1, .int .i64 oi]) (.agg #[.int .i64 pt, .int .i64 pk, .int .i64 pi])).run Try.prog w = .ok (.bool false) w := fun w => by
                rw [eql_op, hbq.out, beq_eq_false_iff_ne.2 (fun e => he e.symm)]
              clear he HN HT
              go_wp2_with fail
              refine region_later (by kernel_rfl) (by kernel_rfl) ?_
              repeat (go_big_quiet_step (fail))
              refine wpQuiet_nil ?_
              rintro _ ⟨u, rfl⟩
              have hbu := hbi.trans (u.2.mono hbi.size)
              go_wp2_with fail
              go_roundw
              case rel => exact ⟨q + 1, by omega, by go_num, hbu, HR.out⟩
              case measure => simp [intOf]; omega
          · have HR := Lib.hid (HN.out (fun e => absurd e h1))
            have h1' : (ok == 1) = false := by rw [beq_eq_false_iff_ne]; exact h1
            clear HN HT
            go_wp2_with fail
            refine region_later (by kernel_rfl) (by kernel_rfl) ?_
            repeat (go_big_quiet_step (fail))
            refine wpQuiet_nil ?_
            rintro _ ⟨u, rfl⟩
            have hbu := hbi.trans (u.2.mono hbi.size)
            go_wp2_with fail
            go_roundw
            case rel => exact ⟨q + 1, by omega, by go_num, hbu, HR.out⟩
            case measure => simp [intOf]; omega
        · obtain rfl : q = j := by omega
          have HN : Hid (∀ i, i < q + 1 → ∀ k, k < i → ∀ o p, s[i]? = some o → s[k]? = some p → o.kind = 1 → o ≠ p) := fun i hi k hk => by
            by_cases e : i = q
            · subst e; exact hrow k hk
            · exact HNO.out i (by omega) k hk
          clear hrow
          go_wp2_with fail
          go_roundw
          case rel => exact ⟨q + 1, by omega, by go_num, hbi, HN.out⟩
          case measure => simp [intOf]; omega
    · obtain rfl : j = n := by omega
      have HR : Hid (twiceB s = false) := twice_none fun i hi => HNO.out i (by have := HL.out; omega)
      go_wp2_with fail
      go_ret
      exact ⟨ret_bool HR.out.symm, hb⟩
end Go.Proofs.Ytkbclcgdkbhgdaa
