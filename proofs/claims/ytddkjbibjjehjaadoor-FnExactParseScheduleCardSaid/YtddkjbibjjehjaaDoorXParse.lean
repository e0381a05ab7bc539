/-
  The walk of the law FnExactParseSchedule.
-/
import Derived.Test.YtddkjbibjjehjaaDoorTx6
import Derived.Test.YtddkjbibjjehjaaDoorEx2
import Derived.Test.YtddkjbibjjehjaaDoorOpen0
namespace Go.Proofs.YtddkjbibjjehjaaDoor
open Go.RowKit Go.BigFrame
set_option linter.unusedVariables false

set_option maxRecDepth 100000 in
set_option maxHeartbeats 2000000 in
theorem exact_parse (s : ByteArray) (w : World) (hs : s.size ≤ maxLen) :
    Calls Tryd.prog 3 #[.string s] w fun e w' => e = .returned (.bool true) ∧ Below w.heap.size w w' := by
  unfold maxLen at hs
  obtain ⟨n, hn⟩ : ∃ n, s.size = n := ⟨_, rfl⟩
  by_cases hbig : 1048576 < n
  · have hbi : (1048576 : Int) < (n : Int) := by omega
    go_enter Tryd.func3, Tryd.ntmps3
    go_wp2_with fail
    go_ret
    exact ⟨rfl, Below.refl _ _⟩
  · have hbi : ¬ (1048576 : Int) < (n : Int) := by omega
    have hll : s.data.toList.length ≤ 1073741824 := by
      have : s.data.toList.length = n := by rw [← Lib.size_eq]; exact hn
      omega
    have HA : Hid (∀ W, Calls Tryd.prog 7 #[.string s] W (RetOB W (orNil (validS (parL s.data.toList)) (parL s.data.toList)) (validS (parL s.data.toList)))) := fun W => Parse_any s.data.toList W hll
    have HB : Hid (∀ W, Calls Tryd.prog 6 #[.string s] W (RetOB W (orNil (validS (parL s.data.toList)) (parL s.data.toList)) (validS (parL s.data.toList)))) := fun W => sParse_any s.data.toList W hll
    generalize validS (parL s.data.toList) = V at *
    generalize orNil V (parL s.data.toList) = xs at *
    clear hll hs
    go_enter Tryd.func3, Tryd.ntmps3
    go_wp2_with fail
    refine (HB.out w).mono ?_
    rintro e w1 ⟨Y, dy, rfl, hdy, hfy, hb1⟩
    have hbw1 : Hid (Below w.heap.size w w1) := hb1
    have hYlt : ∀ b, Y = some b → b.block < w1.heap.size := fun b hb => (hfy.at_ b hb).2
    have ry1 := Lib.hid hfy.1
    clear hfy hb1
    go_wp2_with fail
    refine (HA.out w1).mono ?_
    rintro e w2 ⟨X, dx, rfl, hdx, hfx, hb2⟩
    have hXge : ∀ a, X = some a → w1.heap.size ≤ a.block := fun a ha => (hfx.at_ a ha).1
    have hXlt : ∀ a, X = some a → a.block < w2.heap.size := fun a ha => (hfx.at_ a ha).2
    have hbw2 : Hid (Below w.heap.size w w2) := hbw1.out.trans (hb2.mono hbw1.out.size)
    have ry2 := Lib.hid (ry1.out.below hb2 (Nat.le_refl _))
    have rx2 := Lib.hid hfx
    have hs12 := hb2.size
    have HXY : Hid (Apart X Y) := Apart.of_lt hXge hYlt
    have HXw : Hid (∀ a, X = some a → w.heap.size ≤ a.block) := fun a ha => Nat.le_trans hbw1.out.size (hXge a ha)
    have HXLT := Lib.hid hXlt
    have HYLT : Hid (∀ b, Y = some b → b.block < w2.heap.size) := fun b hb => Nat.lt_of_lt_of_le (hYlt b hb) hs12
    have hyl : xs.length ≤ 1099511627776 := hfx.1.2.1
    clear hfx hb2 ry1 hbw1 hXge hXlt hYlt hs12
    go_wp2_with fail
    refine (eqOpS_any X Y _ _ dx dy xs xs w2 rx2.out.1 ry2.out).mono ?_
    rw [beq_self_eq_true]
    rintro e w3 ⟨rfl, hb3⟩
    have hbw3 : Hid (Below w.heap.size w w3) := hbw2.out.trans (hb3.mono hbw2.out.size)
    have ry3 := Lib.hid (ry2.out.below hb3 (Nat.le_refl _))
    have rx3 := Lib.hid (rx2.out.below hb3)
    have hs23 := hb3.size
    have HX3 : Hid (∀ a, X = some a → a.block < w3.heap.size) := fun a ha => Nat.lt_of_lt_of_le (HXLT.out a ha) hs23
    clear hb3 hbw2 ry2 rx2 hs23 HXLT HYLT
    have hVV : (V != V) = false := by simp
    go_wp2_with fail
    refine (markOpS_any X xs.length dx xs 1 _ w3 rx3.out (by omega) (by omega)).mono ?_
    rintro e w4 ⟨rfl, hm4, hg4⟩
    have hbw4 : Hid (Below w.heap.size w w4) := below_marked hbw3.out hg4 HXw.out
    have ry4 := Lib.hid (ry3.out.grown hg4 HXY.out.row)
    have rm4 := Lib.hid hm4
    have hs34 := World.grownBy.size hg4
    have HX4 : Hid (∀ a, X = some a → a.block < w4.heap.size) := fun a ha => Nat.lt_of_lt_of_le (HX3.out a ha) hs34
    clear hm4 hg4 hbw3 ry3 rx3 hs34 HX3
    go_wp2_with fail
    refine (heldOpS_any X xs.length dx 1 w4 rm4.out (by omega) (by omega)).mono ?_
    rintro e w5 ⟨rfl, hb5⟩
    have hbw5 : Hid (Below w.heap.size w w5) := hbw4.out.trans (hb5.mono hbw4.out.size)
    have ry5 := Lib.hid (ry4.out.below hb5 (Nat.le_refl _))
    have rm5 := Lib.hid (rm4.out.below hb5 (Nat.le_refl _))
    clear hb5 hbw4 ry4 rm4
    have hk0 : ¬ ((1 : Int) + 3 * (xs.length : Int) < 0) := by omega
    go_wp2_with fail
    refine (HA.out w5).mono ?_
    rintro e w6 ⟨Z, dz, rfl, hdz, hfz, hb6⟩
    have hbw6 : Hid (Below w.heap.size w w6) := hbw5.out.trans (hb6.mono hbw5.out.size)
    have ry6 := Lib.hid (ry5.out.below hb6 (Nat.le_refl _))
    have rm6 := Lib.hid (rm5.out.below hb6 (Nat.le_refl _))
    have rz6 := Lib.hid hfz.1
    clear hfz hb6 hbw5 ry5 rm5
    go_wp2_with fail
    refine (eqOpS_any Z Y _ _ dz dy xs xs w6 rz6.out ry6.out).mono ?_
    rw [beq_self_eq_true]
    rintro e w7 ⟨rfl, hb7⟩
    have hbw7 : Hid (Below w.heap.size w w7) := hbw6.out.trans (hb7.mono hbw6.out.size)
    have rm7 := Lib.hid (rm6.out.below hb7 (Nat.le_refl _))
    clear hb7 hbw6 ry6 rm6 rz6
    go_wp2_with fail
    refine (heldOpS_any X xs.length dx 1 w7 rm7.out (by omega) (by omega)).mono ?_
    rintro e w8 ⟨rfl, hb8⟩
    go_wp2_with fail
    go_ret
    exact ⟨rfl, hbw7.out.trans (hb8.mono hbw7.out.size)⟩
end Go.Proofs.YtddkjbibjjehjaaDoor
