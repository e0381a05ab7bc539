/-
  slices.Clone of integers.
-/
import Derived.Test.YtmookobaljcpbaaKept3
import Derived.Test.YtmookobaljcpbaaRows0
import Derived.Test.YtmookobaljcpbaaApp
import Derived.Lib.SliceRun
import Derived.Maps.AppendAt
namespace Go.Proofs.Ytmookobaljcpbaa
open Go.RowKit Go.BigFrame
set_option linter.unusedVariables false

theorem RInts.drop1 {w : World} {A : Option Addr} {n : Nat} {xs : List Int} (h : RInts w A n xs) {k c : Nat} (hk : k ≤ n) (hc : n ≤ c) :
    RInts w (if c = k then A else A.map (·.add k)) (n - k) (xs.drop k) := by
  obtain ⟨h1, h2, h3⟩ := h
  refine ⟨by simp; omega, by omega, fun hn => ?_⟩
  obtain ⟨b, off, rfl, hlt, hcell⟩ := h3 (by omega)
  rw [if_neg (by omega)]
  refine ⟨b, off + k, by simp [addr_add], hlt, fun i o ho => ?_⟩
  rw [List.getElem?_drop] at ho
  have := hcell _ o ho
  have e1 : off + (k + i) = off + k + i := by omega
  rw [e1] at this
  exact this

set_option maxRecDepth 100000 in
set_option maxHeartbeats 1000000 in
theorem CloneI_any (b off n c : Nat) (xs : List Int) (w : World) (hx : RInts w (some ⟨b, off, none⟩) n xs) :
    Calls Try.prog 67 #[.slice (some ⟨b, off, none⟩) n c] w (RetInts w xs) := by
  have hl := hx.1
  have hn := hx.2.1
  have HX1 : Hid (RInts (w.alloc (.cells #[] 3)) (some ⟨b, off, none⟩) n xs) := hx.below ((Below.refl _ w).alloc (Nat.le_refl _) _) (Nat.le_refl _)
  have HST : Hid ((w.alloc (.cells #[] 3)).ownsRow w.heap.size 3 1 (.slice (some ⟨w.heap.size, 0, none⟩) 0 0) 0 (intCells [])) :=
    World.ownsRow_made w #[] 0 (Nat.le_refl _) (by decide) rfl
  have hz : ∀ w1 : World, (binOp .eql 28 (.slice (some ⟨b, off, none⟩) n c) (.slice none 0 0)).run Try.prog w1 = .ok (.bool false) w1 := fun w1 => Go.Lib.run_eql_slice_nil w1 28 3 (some ⟨b, off, none⟩) n c 0 0 Try.underlying28
  clear hx
  go_enter Try.func67, Try.ntmps67
  go_wp2_with (at_builtin; refine app_ints (.tmp 5) (.tmp 6) HST.out (by simp) HX1.out (by omega) rfl rfl rfl rfl ?_; intro v1 w1 hown1 hg1 hat1)
  have hb1 : Below w.heap.size w w1 := Below.own ((Below.refl _ w).alloc (Nat.le_refl _) _) HST.out (Nat.le_refl _) hg1
  rw [List.nil_append, Nat.zero_add] at hown1
  obtain ⟨A1, c1, rfl, hc1⟩ := own_form2 hown1
  have HO := Lib.hid (RetInts.mk hl hc1 (FreshInts.of_own (w0 := w) hown1 (Nat.le_refl _) (by omega)) hb1)
  clear hown1 hg1 hat1 HST HX1 hb1
  go_wp2_with fail
  go_ret
  exact HO.out

end Go.Proofs.Ytmookobaljcpbaa
