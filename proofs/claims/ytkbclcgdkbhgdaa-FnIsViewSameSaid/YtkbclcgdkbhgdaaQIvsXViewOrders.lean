/-
  The walk of FnExactViewOrders: whatever the operations, the program's ViewOrders and the reference's agree.
-/
import Derived.Test.YtkbclcgdkbhgdaaQIvsView15
import Derived.Test.YtkbclcgdkbhgdaaQIvsView16
import Derived.Test.YtkbclcgdkbhgdaaPkOrdX3
namespace Go.Proofs.Ytkbclcgdkbhgdaa
open Go.RowKit Go.BigFrame
set_option linter.unusedVariables false

theorem vwO_eq' {s : List OpV} (h : validS s = true) : vwO s = vwOS s := vwO_eq s
theorem vwO_bd {s : List OpV} (h : validS s = true) : (orNil true (vwO s)).length ≤ 1024 ∧ ∀ xs ∈ orNil true (vwO s), xs.length ≤ 4 := by
  refine ⟨Nat.le_trans (vwL_len _) (by omega), fun xs hx => ?_⟩
  have h1 := permF_length _ _ _ (List.mem_filter.1 hx).1
  have := txsOf_len (committed s)
  simp at h1
  omega
set_option maxRecDepth 100000 in
set_option maxHeartbeats 4000000 in
theorem exact_viewOrders (A : Option Addr) (n c : Nat) (w : World) (hin : OpsIn w A n c) :
    Calls Try.prog 12 #[.slice A n c] w fun e w' => e = .returned (.bool true) ∧ Below w.heap.size w w' := by
  obtain ⟨hnc, hcm, hx0⟩ := hin
  unfold maxLen at hcm
  by_cases hbig : 1048576 < n
  · clear hx0
    go_enter Try.func12, Try.ntmps12
    go_wp2_with fail
    refine (szOpS_any A n c 1048576 w (by omega) (by omega) (by omega)).mono ?_
    rw [if_pos (by omega)]
    rintro e w1 ⟨rfl, rfl⟩
    go_wp2_with fail
    go_ret
    exact ⟨rfl, Below.refl _ _⟩
  · obtain ⟨s, hx⟩ := hx0 (by omega)
    have HX := Lib.hid hx
    obtain rfl : n = s.length := hx.1.symm
    clear hx0 hx
    obtain ⟨ys, hys⟩ : ∃ ys, orNil (validS s) (vwOS s) = ys := ⟨_, rfl⟩
    have hys1 : orNil (validS s) (vwO s) = ys := by
      rw [← hys]
      cases hv : validS s
      · rfl
      · rw [vwO_eq' hv]
    have HBD : Hid (ys.length ≤ 1024 ∧ ∀ xs ∈ ys, xs.length ≤ 4) := by
      show _ ∧ _
      rw [← hys1]
      cases hv : validS s
      · exact ⟨by simp [orNil], fun xs h => by simp [orNil] at h⟩
      · exact vwO_bd hv
    have c1 : ∀ (W : World) (B : Option Addr) (d : Nat), ROps W B s.length s → s.length ≤ d → Calls Try.prog 51 #[.slice B s.length d] W (RetListsA W ys) := fun W B d h hd => by
      have := ViewOrders_any B _ d s W h hd; rw [hys1] at this; exact this
    have c2 : ∀ (W : World) (B : Option Addr) (d : Nat), ROps W B s.length s → s.length ≤ d → Calls Try.prog 53 #[.slice B s.length d] W (RetLists W ys) := fun W B d h hd => by
      have := sViewOrders_any B _ d s W h hd; rw [hys] at this; exact this
    have c3 : ∀ (W : World), Below w.heap.size w W → Calls Try.prog 16 #[.slice A s.length c] W (RetOps W s) := fun W h => toOpS_any A s.length c s W (HX.out.below h (Nat.le_refl _)) (by omega)
    have C1 := Lib.hid c1
    have C2 := Lib.hid c2
    have C3 := Lib.hid c3
    clear c1 c2 c3 hys hys1
    obtain ⟨N, hN⟩ : ∃ N, ys.length = N := ⟨_, rfl⟩
    have HN := Lib.hid hN
    have hN1 : N ≤ 1024 := by have := HBD.out.1; omega
    have htt := totL_le HBD.out.2 N
    clear hN
    go_enter Try.func12, Try.ntmps12
    go_wp2_with fail
    refine (szOpS_any A s.length c 1048576 w (by omega) (by omega) (by omega)).mono ?_
    rw [if_neg (by omega)]
    rintro e w1 ⟨rfl, rfl⟩
    have hsz0 : ¬ ((1048576 : Int) - (s.length : Int) < 0) := by omega
    go_wp2_with fail
    refine (C3.out w (Below.refl _ _)).mono ?_
    rintro e w1 ⟨B1, d1, rfl, hd1, ⟨hr1, _⟩, hb1⟩
    go_wp2_with fail
    refine (C2.out w1 B1 d1 hr1 hd1).mono ?_
    rintro e w2 ⟨Y, dy, rvy, rfl, hdy, hoy, hry, hb2⟩
    rw [HN.out] at hdy hoy ⊢
    have HY : Hid (LstsAt w2 Y N ys) := LstsAt.of hoy hry HN.out (by omega)
    have hbw2 := hb1.trans (hb2.mono hb1.size)
    clear hr1 hb1 hb2 hoy hry
    go_wp2_with fail
    refine (C3.out w2 hbw2).mono ?_
    rintro e w3 ⟨X, dx, rfl, hdx, hfx, hb3⟩
    have hbw3 := hbw2.trans (hb3.mono hbw2.size)
    have hXge : ∀ a, X = some a → w2.heap.size ≤ a.block := fun a ha => (hfx.at_ a ha).1
    have hXlt : ∀ a, X = some a → a.block < w3.heap.size := fun a ha => (hfx.at_ a ha).2
    have hsz23 := hb3.size
    have hwz := hbw2.size
    have HY3 := Lib.hid hb3
    have rx3 := Lib.hid hfx
    have hX1 := Lib.hid hfx.1
    clear hfx hb3 hbw2
    go_wp2_with fail
    refine (C1.out w3 X dx hX1.out hdx).mono ?_
    rintro e w4 ⟨G, dg, rv, rfl, hdg, hog, hrg, hapg, hb4⟩
    rw [HN.out] at hdg hog ⊢
    have hbw4 := hbw3.trans (hb4.mono hbw3.size)
    have HAP := Lib.hid hapg
    have HY4 : Hid (Below w2.heap.size w2 w4) := HY3.out.trans (hb4.mono hsz23)
    have rx4 := Lib.hid (rx3.out.below hb4)
    have rg4 : Hid (GLists w3 w4 G N rv ys) := ⟨hog, hrg⟩
    have HXw : Hid (∀ a, X = some a → w.heap.size ≤ a.block) := fun a ha => Nat.le_trans hwz (hXge a ha)
    have HX2 := Lib.hid hXge
    have HX3 := Lib.hid hXlt
    have hw03 := hbw3.size
    have h34 := hb4.size
    clear hog hrg hapg hb4 rx3 hX1 hXge hXlt hbw3 HY3
    go_wp2_with fail
    refine (eqIntSS_any G Y N dg dy ys w4 (rg4.out.at_ HN.out (by omega)) (HY.out.below HY4.out)).mono ?_
    rintro e w5 ⟨rfl, hb5⟩
    have hbw5 := hbw4.trans (hb5.mono hbw4.size)
    have HY5 : Hid (Below w2.heap.size w2 w5) := HY4.out.trans (hb5.mono HY4.out.size)
    have rx5 := Lib.hid (rx4.out.below hb5)
    have rg5 := Lib.hid (rg4.out.below hb5)
    have h45 := hb5.size
    clear HY4 rx4 rg4 hb5 hbw4
    go_wp2_with fail
    refine (C3.out w5 hbw5).mono ?_
    rintro e w6 ⟨Z, dz, rfl, hdz, ⟨hrz, _⟩, hb6⟩
    have hbw6 := hbw5.trans (hb6.mono hbw5.size)
    have HY6 : Hid (Below w2.heap.size w2 w6) := HY5.out.trans (hb6.mono HY5.out.size)
    have rx6 := Lib.hid (rx5.out.below hb6)
    have rg6 := Lib.hid (rg5.out.below hb6)
    have h56 := hb6.size
    have hrz := Lib.hid hrz
    clear HY5 rx5 rg5 hb6 hbw5
    go_wp2_with fail
    refine (eqOpS_any X Z _ _ dx dz s s w6 rx6.out.1 hrz.out).mono ?_
    rw [beq_self_eq_true]
    rintro e w7 ⟨rfl, hb7⟩
    have hbw7 := hbw6.trans (hb7.mono hbw6.size)
    have HY7 : Hid (Below w2.heap.size w2 w7) := HY6.out.trans (hb7.mono HY6.out.size)
    have rx7 := Lib.hid (rx6.out.below hb7)
    have rg7 := Lib.hid (rg6.out.below hb7)
    have h67 := hb7.size
    clear HY6 rx6 rg6 hrz hb7 hbw6
    go_wp2_with fail
    refine (markOpS_any X s.length dx s 1 w2 w7 rx7.out (by omega) (by omega)).mono ?_
    rintro e w8 ⟨rfl, _, hg8⟩
    have hbw8 := below_marked hbw7 hg8 HXw.out
    have HY8 : Hid (Below w2.heap.size w2 w8) := below_marked HY7.out hg8 HX2.out
    have rg8 := Lib.hid (rg7.out.marked hg8 HX3.out)
    have h78 := World.grownBy.size hg8
    clear HY7 rx7 rg7 hg8 hbw7
    have hk0 : ¬ ((1 : Int) + 3 * (s.length : Int) < 0) := by omega
    go_wp2_with fail
    refine (eqIntSS_any G Y N dg dy ys w8 (rg8.out.at_ HN.out (by omega)) (HY.out.below HY8.out)).mono ?_
    rintro e w9 ⟨rfl, hb9⟩
    have hbw9 := hbw8.trans (hb9.mono hbw8.size)
    have HY9 : Hid (Below w2.heap.size w2 w9) := HY8.out.trans (hb9.mono HY8.out.size)
    have rg9 := Lib.hid (rg8.out.below hb9)
    have h39 : w3.heap.size ≤ w9.heap.size := by have := hb9.size; omega
    clear HY8 rg8 hb9 hbw8
    go_wp2_with fail
    refine (markIntSS_any G N dg rv ys 1 w3 w9 rg9.out.1 rg9.out.2 HAP.out HN.out HBD.out.2 hN1 (by omega) (by omega) h39).mono ?_
    rintro e w10 ⟨rfl, hbm, hm10⟩
    have hbw10 := hbw9.trans (hbm.mono hw03)
    have HY10 : Hid (Below w2.heap.size w2 w10) := HY9.out.trans (hbm.mono hsz23)
    have rm10 : Hid (HeldAt_ w10 G N ys 1) := hm10
    clear HY9 rg9 hbm hbw9 hm10
    go_wp2_with fail
    refine (heldIntSS_any G N dg ys 1 w10 rm10.out HN.out HBD.out.2 hN1 (by omega) (by omega)).mono ?_
    rintro e w11 ⟨rfl, hb11⟩
    have hbw11 := hbw10.trans (hb11.mono hbw10.size)
    have HY11 : Hid (Below w2.heap.size w2 w11) := HY10.out.trans (hb11.mono HY10.out.size)
    have rm11 := Lib.hid (rm10.out.below hb11)
    clear HY10 rm10 hb11 hbw10
    have hq0 : ¬ ((1 : Int) + (totL ys N : Int) < 0) := by omega
    go_wp2_with fail
    refine (C3.out w11 hbw11).mono ?_
    rintro e w12 ⟨V, dv, rfl, hdv, ⟨hrv, _⟩, hb12⟩
    have hbw12 := hbw11.trans (hb12.mono hbw11.size)
    have HY12 : Hid (Below w2.heap.size w2 w12) := HY11.out.trans (hb12.mono HY11.out.size)
    have rm12 := Lib.hid (rm11.out.below hb12)
    have hrv := Lib.hid hrv
    clear HY11 rm11 hb12 hbw11
    go_wp2_with fail
    refine (C1.out w12 V dv hrv.out hdv).mono ?_
    rintro e w13 ⟨U, du, rvu, rfl, hdu, hou, hru, _, hb13⟩
    rw [HN.out] at hdu hou ⊢
    have hbw13 := hbw12.trans (hb13.mono hbw12.size)
    have HY13 : Hid (Below w2.heap.size w2 w13) := HY12.out.trans (hb13.mono HY12.out.size)
    have rm13 := Lib.hid (rm12.out.below hb13)
    have HU : Hid (LstsAt w13 U N ys) := LstsAt.of hou hru HN.out (by omega)
    clear HY12 rm12 hb13 hbw12 hou hru
    go_wp2_with fail
    refine (eqIntSS_any U Y N du dy ys w13 HU.out (HY.out.below HY13.out)).mono ?_
    rintro e w14 ⟨rfl, hb14⟩
    have hbw14 := hbw13.trans (hb14.mono hbw13.size)
    have rm14 := Lib.hid (rm13.out.below hb14)
    clear HY13 rm13 hb14 hbw13
    go_wp2_with fail
    refine (heldIntSS_any G N dg ys 1 w14 rm14.out HN.out HBD.out.2 hN1 (by omega) (by omega)).mono ?_
    rintro e w15 ⟨rfl, hb15⟩
    have hbw15 := hbw14.trans (hb15.mono hbw14.size)
    clear rm14 hb15 hbw14
    go_wp2_with fail
    go_ret
    exact ⟨rfl, hbw15⟩

end Go.Proofs.Ytkbclcgdkbhgdaa
