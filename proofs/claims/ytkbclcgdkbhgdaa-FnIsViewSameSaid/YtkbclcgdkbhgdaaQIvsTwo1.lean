/-
  The draws of IsSame and IsViewSame.
-/
import Derived.Test.YtkbclcgdkbhgdaaQIvsTwo0
namespace Go.Proofs.Ytkbclcgdkbhgdaa
open Go.RowKit Go.BigFrame
set_option linter.unusedVariables false

def DrawnTwo (w0 : World) (e : Ending) (w : World) : Prop :=
  ∃ (A : Option Addr) (n c : Nat) (xs : List OpV) (B : Option Addr) (m d : Nat) (ys : List OpV), e = .returned (.tuple #[.slice A n c, .slice B m d]) ∧ n ≤ c ∧ m ≤ d ∧ n ≤ 64 ∧ m ≤ 64 ∧ ROps w A n xs ∧ ROps w B m ys ∧ Below w0.heap.size w0 w
set_option maxHeartbeats 1000000 in
theorem DrawIsSame_any (A : Option Addr) (n c : Nat) (w : World) (hx : RBytes w A n) (hc : n ≤ c) :
    Calls Try.prog 39 #[.slice A n c] w (DrawnTwo w) := by
  go_enter Try.func39, Try.ntmps39
  go_wp2_with fail
  refine (newReader_any A n c w hx hc).mono ?_
  rintro e w1 ⟨rb, rfl, hrb, hr, hb⟩
  go_wp2_with fail
  refine (twoSchedules_any rb 0 w1 hr (by omega)).mono ?_
  rintro e w2 ⟨A', n', c', xs, B, m, d, ys, rfl, h1, h2, h3, h4, h5, h6, hO⟩
  have hs := hb.size
  have HF : Hid (DrawnTwo w (.returned (.tuple #[.slice A' n' c', .slice B m d])) w2) :=
    ⟨A', n', c', xs, B, m, d, ys, rfl, h1, h2, h3, h4, h5, h6, hb.trans ⟨hO.os, hO.tape, hO.output, hO.size, fun k hk => hO.heap (by omega) (by omega)⟩⟩
  clear h5 h6 hO
  go_wp2_with fail
  go_ret2
  exact HF.out
set_option maxHeartbeats 1000000 in
theorem DrawIsViewSame_any (A : Option Addr) (n c : Nat) (w : World) (hx : RBytes w A n) (hc : n ≤ c) :
    Calls Try.prog 52 #[.slice A n c] w (DrawnTwo w) := by
  go_enter Try.func52, Try.ntmps52
  go_wp2_with fail
  refine (newReader_any A n c w hx hc).mono ?_
  rintro e w1 ⟨rb, rfl, hrb, hr, hb⟩
  go_wp2_with fail
  refine (twoSchedules_any rb 0 w1 hr (by omega)).mono ?_
  rintro e w2 ⟨A', n', c', xs, B, m, d, ys, rfl, h1, h2, h3, h4, h5, h6, hO⟩
  have hs := hb.size
  have HF : Hid (DrawnTwo w (.returned (.tuple #[.slice A' n' c', .slice B m d])) w2) :=
    ⟨A', n', c', xs, B, m, d, ys, rfl, h1, h2, h3, h4, h5, h6, hb.trans ⟨hO.os, hO.tape, hO.output, hO.size, fun k hk => hO.heap (by omega) (by omega)⟩⟩
  clear h5 h6 hO
  go_wp2_with fail
  go_ret2
  exact HF.out
end Go.Proofs.Ytkbclcgdkbhgdaa
