/-
  Lists of lists in the laws without marks: equality.
-/
import Derived.Test.YtkbclcgdkbhgdaaPkOrdX3
namespace Go.Proofs.Ytkbclcgdkbhgdaa
open Go.RowKit Go.BigFrame
set_option linter.unusedVariables false

theorem retL {P : Program} {f : FuncId} {args : Array Value} {w : World} {R R' : Ending → World → Prop} (h : ∀ e w, R e w → R' e w) (hc : Calls P f args w R) : Calls P f args w R' := hc.mono h

set_option maxRecDepth 100000 in
set_option maxHeartbeats 1000000 in
theorem equalLists_any (A B : Option Addr) (n c d : Nat) (xss : List (List Int)) (w : World) (hx : LstsAt w A n xss) (hy : LstsAt w B n xss) :
    Calls Try.prog 43 #[.slice A n c, .slice B n d] w fun e w' => e = .returned (.bool true) ∧ Below w.heap.size w w' := by
  have hn := hx.small
  have HX := Lib.hid hx
  have HY := Lib.hid hy
  clear hx hy
  go_enter Try.func43, Try.ntmps43
  go_wp2_with fail
  go_loopw [5] (fun i wr => ∃ k : Nat, k ≤ n ∧ i = .int .i64 k ∧ Below w.heap.size w wr) (fun i _ => n - (intOf i).toNat)
  case atStart => exact ⟨0, Nat.zero_le _, rfl, Below.refl _ _⟩
  case round =>
    obtain ⟨k, hk, rfl, hb⟩ := hrel
    by_cases hlt : k < n
    · obtain ⟨b, off, xs, C, e, rfl, hbl, ho, c0, hr0⟩ := (HX.out.below hb).get hlt
      obtain ⟨b', off', ys, C', e', rfl, hbl', ho', d0, hr1⟩ := (HY.out.below hb).get hlt
      rw [ho] at ho'
      injection ho' with ho'
      subst ho'
      have L0 := Later.cell c0
      have M0 := Later.cell d0
      have hc : ∀ u : Later wr, Calls Try.prog 33 #[.slice C xs.length e, .slice C' xs.length e'] u.1 fun e w' => e = .returned (.bool true) ∧ Below u.1.heap.size u.1 w' := fun u => by
        have := equalInts_any C C' xs.length xs.length e e' xs xs u.1 (hr0.below u.2 (Nat.le_refl _)) (hr1.below u.2 (Nat.le_refl _)); rw [beq_self_eq_true] at this; exact this
      have HC := Lib.hid hc
      have hki : (k : Int) < (n : Int) := by omega
      clear ho c0 d0 hr0 hr1 hc
      generalize xs.length = xl at *
      go_wp2_with fail
      refine region_later (by kernel_rfl) (by kernel_rfl) ?_
      repeat (go_big_quiet_step ((go_at_call 33; exact later_call _ (HC.out _))))
      refine wpQuiet_nil ?_
      rintro _ ⟨u, rfl⟩
      have hbu := hb.trans (u.2.mono hb.size)
      go_wp2_with fail
      go_roundw
      case rel => exact ⟨k + 1, by omega, by go_num, hbu⟩
      case measure => simp [intOf]; omega
    · go_wp2_with fail
      go_ret
      exact ⟨rfl, hb⟩

end Go.Proofs.Ytkbclcgdkbhgdaa
