/-
  The walk of FnExactDragsOf: whatever the arguments, the program's DragsOf and the reference's agree.
-/
import Derived.Test.YtmookobaljcpbaaDrag5
import Derived.Test.YtmookobaljcpbaaOpen0
import Derived.Test.YtmookobaljcpbaaEx2
namespace Go.Proofs.Ytmookobaljcpbaa
open Go.RowKit Go.BigFrame
set_option linter.unusedVariables false

set_option maxRecDepth 100000 in
set_option maxHeartbeats 4000000 in
theorem exact_dragsOf (A : Option Addr) (n c : Nat) (z : Int) (w : World) (hin : OpsIn w A n c) (hzi : IntIn z) :
    Calls Try.prog 7 #[.slice A n c, .int .i64 z] w fun e w' => e = .returned (.bool true) ∧ Below w.heap.size w w' := by
  obtain ⟨hnc, hcm, hx0⟩ := hin
  unfold maxLen at hcm
  clear hzi
  by_cases hbig : 1048576 < n
  · clear hx0
    go_enter Try.func7, Try.ntmps7
    go_wp2_with fail
    refine (szOpS_any A n c 1048576 w (by omega) (by omega) (by omega)).mono ?_
    rw [if_pos (by omega)]
    rintro e w1 ⟨rfl, rfl⟩
    go_wp2_with fail
    go_ret
    exact ⟨rfl, Below.refl _ _⟩
  · obtain ⟨s, hx⟩ := hx0 (by omega)
    have HX := Lib.hid hx
    obtain rfl : n = s.length := hx.1.symm
    clear hx0 hx
    obtain ⟨ys, hys⟩ : ∃ ys, orNil (validS s) (dragL s z) = ys := ⟨_, rfl⟩
    obtain ⟨bb, hbb⟩ : ∃ bb, (validS s && dragB s z) = bb := ⟨_, rfl⟩
    have c1 : ∀ (W : World) (B : Option Addr) (d : Nat), ROps W B s.length s → s.length ≤ d → Calls Try.prog 33 #[.slice B s.length d, .int .i64 z] W (RetIntsB W ys bb) := fun W B d h hd => by
      have := DragsOf_any B _ d s z W h hd; rw [hys, hbb] at this; exact this
    have c2 : ∀ (W : World) (B : Option Addr) (d : Nat), ROps W B s.length s → s.length ≤ d → Calls Try.prog 32 #[.slice B s.length d, .int .i64 z] W (RetIntsB W ys bb) := fun W B d h hd => by
      have := sDragsOf_any B _ d s z W h; rw [hys, hbb] at this; exact this
    have c3 : ∀ (W : World), Below w.heap.size w W → Calls Try.prog 23 #[.slice A s.length c] W (RetOps W s) := fun W h => toOpS_any A s.length c s W (HX.out.below h (Nat.le_refl _)) (by omega)
    have C1 := Lib.hid c1
    have C2 := Lib.hid c2
    have C3 := Lib.hid c3
    clear c1 c2 c3 hys hbb
    go_enter Try.func7, Try.ntmps7
    go_wp2_with fail
    refine (szOpS_any A s.length c 1048576 w (by omega) (by omega) (by omega)).mono ?_
    rw [if_neg (by omega)]
    rintro e w1 ⟨rfl, rfl⟩
    have hsz0 : ¬ ((1048576 : Int) - (s.length : Int) < 0) := by omega
    go_wp2_with fail
    refine (C3.out w (Below.refl _ _)).mono ?_
    rintro e w1 ⟨B1, d1, rfl, hd1, ⟨hr1, _⟩, hb1⟩
    go_wp2_with fail
    refine (C2.out w1 B1 d1 hr1 hd1).mono ?_
    rintro e w2 ⟨Y, dy, rfl, hdy, hfy, hb2⟩
    have hbw2 := hb1.trans (hb2.mono hb1.size)
    clear hr1 hb1 hb2
    go_wp2_with fail
    refine (C3.out w2 hbw2).mono ?_
    rintro e w3 ⟨X, dx, rfl, hdx, hfx, hb3⟩
    have hbw3 := hbw2.trans (hb3.mono hbw2.size)
    have hYlt : ∀ b, Y = some b → b.block < w2.heap.size := fun b hb => (hfy.at_ b hb).2
    have hXge : ∀ a, X = some a → w2.heap.size ≤ a.block := fun a ha => (hfx.at_ a ha).1
    have hXlt : ∀ a, X = some a → a.block < w3.heap.size := fun a ha => (hfx.at_ a ha).2
    have hsz23 := hb3.size
    have hwz := hbw2.size
    have ry3 := Lib.hid (hfy.1.below hb3 (Nat.le_refl _))
    have rx3 := Lib.hid hfx
    have hX1 := Lib.hid hfx.1
    clear hfy hfx hb3 hbw2
    go_wp2_with fail
    refine (C1.out w3 X dx hX1.out hdx).mono ?_
    rintro e w4 ⟨G, dg, rfl, hdg, hfg, hb4⟩
    have hGge : ∀ a, G = some a → w3.heap.size ≤ a.block := fun a ha => (hfg.at_ a ha).1
    have hbw4 := hbw3.trans (hb4.mono hbw3.size)
    have ry4 := Lib.hid (ry3.out.below hb4 (Nat.le_refl _))
    have rx4 := Lib.hid (rx3.out.below hb4)
    have rg4 := Lib.hid hfg
    have hyl : ys.length ≤ 1099511627776 := hfg.1.2.1
    have hXY : Apart X Y := Apart.of_lt hXge hYlt
    have hGX : Apart G X := Apart.of_lt hGge hXlt
    have hGY : Apart G Y := Apart.of_lt hGge (fun b hb => Nat.lt_of_lt_of_le (hYlt b hb) hsz23)
    have HXY := Lib.hid hXY
    have HGX := Lib.hid hGX
    have HGY := Lib.hid hGY
    have HXw : Hid (∀ a, X = some a → w.heap.size ≤ a.block) := fun a ha => Nat.le_trans hwz (hXge a ha)
    have HGw : Hid (∀ a, G = some a → w.heap.size ≤ a.block) := fun a ha => Nat.le_trans hbw3.size (hGge a ha)
    clear hfg hb4 ry3 rx3 hX1 hXY hGX hGY hYlt hXge hXlt hGge hbw3
    go_wp2_with fail
    refine (eqIntS_any G Y _ _ dg dy ys ys w4 rg4.out.1 ry4.out).mono ?_
    rw [beq_self_eq_true]
    rintro e w5 ⟨rfl, hb5⟩
    have hbw5 := hbw4.trans (hb5.mono hbw4.size)
    have ry5 := Lib.hid (ry4.out.below hb5 (Nat.le_refl _))
    have rx5 := Lib.hid (rx4.out.below hb5)
    have rg5 := Lib.hid (rg4.out.below hb5)
    clear ry4 rx4 rg4 hb5 hbw4
    go_wp2_with fail
    refine (C3.out w5 hbw5).mono ?_
    rintro e w6 ⟨Z, dz, rfl, hdz, ⟨hrz, _⟩, hb6⟩
    have hbw6 := hbw5.trans (hb6.mono hbw5.size)
    have ry6 := Lib.hid (ry5.out.below hb6 (Nat.le_refl _))
    have rx6 := Lib.hid (rx5.out.below hb6)
    have rg6 := Lib.hid (rg5.out.below hb6)
    have hrz := Lib.hid hrz
    clear ry5 rx5 rg5 hb6 hbw5
    go_wp2_with fail
    refine (eqOpS_any X Z _ _ dx dz s s w6 rx6.out.1 hrz.out).mono ?_
    rw [beq_self_eq_true]
    rintro e w7 ⟨rfl, hb7⟩
    have hbw7 := hbw6.trans (hb7.mono hbw6.size)
    have ry7 := Lib.hid (ry6.out.below hb7 (Nat.le_refl _))
    have rx7 := Lib.hid (rx6.out.below hb7)
    have rg7 := Lib.hid (rg6.out.below hb7)
    clear ry6 rx6 rg6 hrz hb7 hbw6
    go_wp2_with fail
    refine (markOpS_any X s.length dx s 1 w2 w7 rx7.out (by omega) (by omega)).mono ?_
    rintro e w8 ⟨rfl, _, hg8⟩
    have hbw8 := below_marked hbw7 hg8 HXw.out
    have ry8 := Lib.hid (ry7.out.grown hg8 HXY.out.row)
    have rg8 := Lib.hid (rg7.out.grown hg8 HGX.out.symm.row)
    clear ry7 rx7 rg7 hg8 hbw7
    have hk0 : ¬ ((1 : Int) + 3 * (s.length : Int) < 0) := by omega
    go_wp2_with fail
    refine (eqIntS_any G Y _ _ dg dy ys ys w8 rg8.out.1 ry8.out).mono ?_
    rw [beq_self_eq_true]
    rintro e w9 ⟨rfl, hb9⟩
    have hbw9 := hbw8.trans (hb9.mono hbw8.size)
    have ry9 := Lib.hid (ry8.out.below hb9 (Nat.le_refl _))
    have rg9 := Lib.hid (rg8.out.below hb9)
    clear ry8 rg8 hb9 hbw8
    go_wp2_with fail
    refine (markIntS_any G ys.length dg ys 1 w3 w9 rg9.out (by omega) (by omega)).mono ?_
    rintro e w10 ⟨rfl, hm10, hg10⟩
    have hbw10 := below_marked hbw9 hg10 HGw.out
    have ry10 := Lib.hid (ry9.out.grown hg10 HGY.out.row)
    have rm10 := Lib.hid hm10
    clear ry9 rg9 hg10 hbw9 hm10
    go_wp2_with fail
    refine (heldIntS_any G ys.length dg 1 w10 rm10.out (by omega) (by omega)).mono ?_
    rintro e w11 ⟨rfl, hb11⟩
    have hbw11 := hbw10.trans (hb11.mono hbw10.size)
    have ry11 := Lib.hid (ry10.out.below hb11 (Nat.le_refl _))
    have rm11 := Lib.hid (rm10.out.below hb11 (Nat.le_refl _))
    clear ry10 rm10 hb11 hbw10
    have hq0 : ¬ ((1 : Int) + (ys.length : Int) < 0) := by omega
    go_wp2_with fail
    refine (C3.out w11 hbw11).mono ?_
    rintro e w12 ⟨V, dv, rfl, hdv, ⟨hrv, _⟩, hb12⟩
    have hbw12 := hbw11.trans (hb12.mono hbw11.size)
    have ry12 := Lib.hid (ry11.out.below hb12 (Nat.le_refl _))
    have rm12 := Lib.hid (rm11.out.below hb12 (Nat.le_refl _))
    have hrv := Lib.hid hrv
    clear ry11 rm11 hb12 hbw11
    go_wp2_with fail
    refine (C1.out w12 V dv hrv.out hdv).mono ?_
    rintro e w13 ⟨U, du, rfl, hdu, ⟨hru, _⟩, hb13⟩
    have hbw13 := hbw12.trans (hb13.mono hbw12.size)
    have ry13 := Lib.hid (ry12.out.below hb13 (Nat.le_refl _))
    have rm13 := Lib.hid (rm12.out.below hb13 (Nat.le_refl _))
    have hru := Lib.hid hru
    clear ry12 rm12 hb13 hbw12
    go_wp2_with fail
    refine (eqIntS_any U Y _ _ du dy ys ys w13 hru.out ry13.out).mono ?_
    rw [beq_self_eq_true]
    rintro e w14 ⟨rfl, hb14⟩
    have hbw14 := hbw13.trans (hb14.mono hbw13.size)
    have rm14 := Lib.hid (rm13.out.below hb14 (Nat.le_refl _))
    clear ry13 rm13 hb14 hbw13
    go_wp2_with fail
    refine (heldIntS_any G ys.length dg 1 w14 rm14.out (by omega) (by omega)).mono ?_
    rintro e w15 ⟨rfl, hb15⟩
    have hbw15 := hbw14.trans (hb15.mono hbw14.size)
    clear rm14 hb15 hbw14
    go_wp2_with fail
    go_ret
    exact ⟨rfl, hbw15⟩
end Go.Proofs.Ytmookobaljcpbaa
