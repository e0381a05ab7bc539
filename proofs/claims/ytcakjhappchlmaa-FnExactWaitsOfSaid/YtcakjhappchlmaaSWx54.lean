/-
  Texts that the proof rests on, joined: part 54.
-/
import Derived.Test.YtcakjhappchlmaaSWx2
import Derived.Test.YtcakjhappchlmaaSWx48
import Derived.Test.YtcakjhappchlmaaSWx53
namespace Go.Proofs.Ytcakjhappchlmaa
open Go.RowKit Go.BigFrame
set_option linter.unusedVariables false

theorem rints_keep {w w' : World} {A Y : Option Addr} {n : Nat} {xs : List Int} (h : RInts w Y n xs) (hg : w.grownBy w' (A.map Addr.block)) (ha : n ≠ 0 → Apart A Y) : RInts w' Y n xs := by
  rcases Nat.eq_zero_or_pos n with h0 | h0
  · exact ⟨h.1, h.2.1, fun h1 => by omega⟩
  · exact h.grown hg (ha (by omega)).row
set_option maxRecDepth 100000 in
set_option maxHeartbeats 1500000 in
theorem exact_waitsOf (b : ByteArray) (A : Option Addr) (n c : Nat) (w : World) (hbs : b.size ≤ maxLen) (hin : OpsIn w A n c) :
    Calls Try.prog 12 #[.string b, .slice A n c] w fun e w' => e = .returned (.bool true) ∧ Below w.heap.size w w' := by
  obtain ⟨hnc, hcm, hx0⟩ := hin
  unfold maxLen at hcm hbs
  by_cases hbm : 1048576 < b.size
  · clear hx0
    have hbmi : (1048576 : Int) < (b.size : Int) := by omega
    go_enter Try.func12, Try.ntmps12
    go_wp2_with fail
    go_ret
    exact ⟨rfl, Below.refl _ _⟩
  have hbmi : ¬ (1048576 : Int) < (b.size : Int) := by omega
  by_cases hbig : 1048576 < n
  · clear hx0
    go_enter Try.func12, Try.ntmps12
    go_wp2_with fail
    refine (szOpS_any A n c 1048576 w (by omega) (by omega) (by omega)).mono ?_
    rw [if_pos (by omega)]
    rintro e w1 ⟨rfl, rfl⟩
    go_wp2_with fail
    go_ret
    exact ⟨rfl, Below.refl _ _⟩
  · obtain ⟨s, hx⟩ := hx0 (by omega)
    have HX := Lib.hid hx
    obtain rfl : n = s.length := hx.1.symm
    clear hx0 hx
    obtain ⟨ys, hys⟩ : ∃ ys, waitsV b s = ys := ⟨_, rfl⟩
    have c1 : ∀ (W : World) (P : Option Addr) (p : Nat), ROps W P s.length s → s.length ≤ p → Calls Try.prog 52 #[.string b, .slice P s.length p] W (RetInts W ys) := fun W P p h hp => by
      have := WaitsOf_any b P _ p s W h hp; rw [hys] at this; exact this
    have c2 : ∀ (W : World) (P : Option Addr) (p : Nat), ROps W P s.length s → s.length ≤ p → Calls Try.prog 53 #[.string b, .slice P s.length p] W (HasInts W ys) := fun W P p h hp => by
      have := sWaitsOf_any b P _ p s W h hp; rw [hys] at this; exact this
    have c3 : ∀ (W : World), Below w.heap.size w W → Calls Try.prog 57 #[.slice A s.length c] W (RetOps W s) := fun W h => toOpS_any A s.length c s W (HX.out.below h (Nat.le_refl _)) (by omega)
    have C1 := Lib.hid c1
    have C2 := Lib.hid c2
    have C3 := Lib.hid c3
    clear c1 c2 c3 hys
    go_enter Try.func12, Try.ntmps12
    go_wp2_with fail
    refine (szOpS_any A s.length c 1048576 w (by omega) (by omega) (by omega)).mono ?_
    rw [if_neg (by omega)]
    rintro e w0 ⟨rfl, rfl⟩
    have hsz0 : ¬ ((1048576 : Int) - (s.length : Int) < 0) := by omega
    have hbw0 : Below w.heap.size w w := Below.refl _ _
    go_wp2_with fail
    refine (C3.out w hbw0).mono ?_
    rintro e w1 ⟨B1, d1, rfl, hd1, ⟨hr1, _⟩, hb1⟩
    have rb1 := Lib.hid hr1
    have hbw1 := hbw0.trans (hb1.mono hbw0.size)
    clear hr1 hb1 hbw0
    go_wp2_with fail
    refine (C2.out w1 B1 d1 rb1.out hd1).mono ?_
    rintro e w2 ⟨Y, ny, dy, rfl, hry, hb2⟩
    have hbw2 := hbw1.trans (hb2.mono hbw1.size)
    obtain rfl : ny = ys.length := hry.1.symm
    have ry2 := Lib.hid hry
    clear hry hb2 hbw1 rb1
    go_wp2_with fail
    refine (C3.out w2 hbw2).mono ?_
    rintro e w3 ⟨X, dx, rfl, hdx, hfx, hb3⟩
    have hXge : ∀ a, X = some a → w2.heap.size ≤ a.block := fun a ha => (hfx.at_ a ha).1
    have hXlt : ∀ a, X = some a → a.block < w3.heap.size := fun a ha => (hfx.at_ a ha).2
    have hYlt : ∀ a, Y = some a → ys.length ≠ 0 → a.block < w2.heap.size := fun a ha h0 => by
      obtain ⟨b', off, e, hl, _⟩ := ry2.out.2.2 (by omega)
      rw [ha] at e; injection e with e; rw [e]; exact hl
    have hs23 := hb3.size
    have hwz2 := hbw2.size
    have hbw3 := hbw2.trans (hb3.mono hbw2.size)
    have ry3 := Lib.hid (ry2.out.below hb3 (Nat.le_refl _))
    clear ry2 hb3 hbw2
    have rx3 := Lib.hid hfx
    clear hfx
    have HC1 := Lib.hid (C1.out w3 X dx rx3.out.1 hdx)
    go_wp2_with fail
    refine HC1.out.mono ?_
    clear HC1
    rintro e w4 ⟨G, dg, rfl, hdg, hfg, hb4⟩
    have hGge : ∀ a, G = some a → w3.heap.size ≤ a.block := fun a ha => (hfg.at_ a ha).1
    have hyl : ys.length ≤ 1099511627776 := hfg.1.2.1
    have hwz3 := hbw3.size
    have HGX : Hid (Apart G X) := Apart.of_lt hGge hXlt
    have HXw : Hid (∀ a, X = some a → w.heap.size ≤ a.block) := fun a ha => Nat.le_trans hwz2 (hXge a ha)
    have HGw : Hid (∀ a, G = some a → w.heap.size ≤ a.block) := fun a ha => Nat.le_trans hwz3 (hGge a ha)
    have HXY : Hid (ys.length ≠ 0 → Apart X Y) := fun h0 a b' ha hb e => by have := hXge a ha; have := hYlt b' hb h0; omega
    have HGY : Hid (ys.length ≠ 0 → Apart G Y) := fun h0 a b' ha hb e => by have := hGge a ha; have := hYlt b' hb h0; omega
    clear hYlt hXge hXlt hGge hs23 hwz2 hwz3
    have hbw4 := hbw3.trans (hb4.mono hbw3.size)
    have ry4 := Lib.hid (ry3.out.below hb4 (Nat.le_refl _))
    have rx4 := Lib.hid (rx3.out.below hb4)
    clear ry3 rx3 hb4 hbw3
    have rg4 := Lib.hid hfg
    clear hfg
    go_wp2_with fail
    refine (eqIntS_any G Y _ _ dg dy ys ys w4 rg4.out.1 ry4.out).mono ?_
    rw [beq_self_eq_true]
    rintro e w5 ⟨rfl, hb5⟩
    have hbw5 := hbw4.trans (hb5.mono hbw4.size)
    have ry5 := Lib.hid (ry4.out.below hb5 (Nat.le_refl _))
    have rx5 := Lib.hid (rx4.out.below hb5)
    have rg5 := Lib.hid (rg4.out.below hb5)
    clear ry4 rx4 rg4 hb5 hbw4
    go_wp2_with fail
    refine (C3.out w5 hbw5).mono ?_
    rintro e w6 ⟨V, dv, rfl, hdv, ⟨hr6, _⟩, hb6⟩
    have hbw6 := hbw5.trans (hb6.mono hbw5.size)
    have ry6 := Lib.hid (ry5.out.below hb6 (Nat.le_refl _))
    have rx6 := Lib.hid (rx5.out.below hb6)
    have rg6 := Lib.hid (rg5.out.below hb6)
    clear ry5 rx5 rg5 hb6 hbw5
    have rv6 := Lib.hid hr6
    clear hr6
    go_wp2_with fail
    refine (eqOpS_any X V _ _ dx dv s s w6 rx6.out.1 rv6.out).mono ?_
    rw [beq_self_eq_true]
    rintro e w7 ⟨rfl, hb7⟩
    have hbw7 := hbw6.trans (hb7.mono hbw6.size)
    have ry7 := Lib.hid (ry6.out.below hb7 (Nat.le_refl _))
    have rx7 := Lib.hid (rx6.out.below hb7)
    have rg7 := Lib.hid (rg6.out.below hb7)
    have rv7 := Lib.hid (rv6.out.below hb7 (Nat.le_refl _))
    clear ry6 rx6 rg6 rv6 hb7 hbw6
    clear rv7
    go_wp2_with fail
    refine (markOpS_any X s.length dx s 1 w2 w7 rx7.out (by omega) (by omega)).mono ?_
    rintro e w8 ⟨rfl, _, hg8⟩
    clear rx7
    have hbw8 := below_marked hbw7 hg8 HXw.out
    have ry8 := Lib.hid (rints_keep ry7.out hg8 HXY.out)
    have rg8 := Lib.hid (rg7.out.grown hg8 HGX.out.symm.row)
    clear ry7 rg7 hg8 hbw7
    have hk0 : ¬ ((1 : Int) + 3 * (s.length : Int) < 0) := by omega
    go_wp2_with fail
    refine (eqIntS_any G Y _ _ dg dy ys ys w8 rg8.out.1 ry8.out).mono ?_
    rw [beq_self_eq_true]
    rintro e w9 ⟨rfl, hb9⟩
    have hbw9 := hbw8.trans (hb9.mono hbw8.size)
    have ry9 := Lib.hid (ry8.out.below hb9 (Nat.le_refl _))
    have rg9 := Lib.hid (rg8.out.below hb9)
    clear ry8 rg8 hb9 hbw8
    go_wp2_with fail
    refine (markIntS_any G ys.length dg ys 1 w3 w9 rg9.out (by omega) (by omega)).mono ?_
    rintro e w10 ⟨rfl, hm10, hg10⟩
    clear rg9
    have hbw10 := below_marked hbw9 hg10 HGw.out
    have ry10 := Lib.hid (rints_keep ry9.out hg10 HGY.out)
    clear ry9 hg10 hbw9
    have rm10 := Lib.hid hm10
    clear hm10
    go_wp2_with fail
    refine (heldIntS_any G ys.length dg 1 w10 rm10.out (by omega) (by omega)).mono ?_
    rintro e w11 ⟨rfl, hb11⟩
    have hbw11 := hbw10.trans (hb11.mono hbw10.size)
    have ry11 := Lib.hid (ry10.out.below hb11 (Nat.le_refl _))
    have rm11 := Lib.hid (rm10.out.below hb11 (Nat.le_refl _))
    clear ry10 rm10 hb11 hbw10
    have hq0 : ¬ ((1 : Int) + (ys.length : Int) < 0) := by omega
    go_wp2_with fail
    refine (C3.out w11 hbw11).mono ?_
    rintro e w12 ⟨P, dp, rfl, hdp, ⟨hr12, _⟩, hb12⟩
    have hbw12 := hbw11.trans (hb12.mono hbw11.size)
    have ry12 := Lib.hid (ry11.out.below hb12 (Nat.le_refl _))
    have rm12 := Lib.hid (rm11.out.below hb12 (Nat.le_refl _))
    clear ry11 rm11 hb12 hbw11
    have rp12 := Lib.hid hr12
    clear hr12
    have HC1 := Lib.hid (C1.out w12 P dp rp12.out hdp)
    clear rp12
    go_wp2_with fail
    refine HC1.out.mono ?_
    clear HC1
    rintro e w13 ⟨H, dh, rfl, hdh, ⟨hrh, _⟩, hb13⟩
    have hbw13 := hbw12.trans (hb13.mono hbw12.size)
    have ry13 := Lib.hid (ry12.out.below hb13 (Nat.le_refl _))
    have rm13 := Lib.hid (rm12.out.below hb13 (Nat.le_refl _))
    clear ry12 rm12 hb13 hbw12
    have rh13 := Lib.hid hrh
    clear hrh
    go_wp2_with fail
    refine (eqIntS_any H Y _ _ dh dy ys ys w13 rh13.out ry13.out).mono ?_
    rw [beq_self_eq_true]
    rintro e w14 ⟨rfl, hb14⟩
    have hbw14 := hbw13.trans (hb14.mono hbw13.size)
    have ry14 := Lib.hid (ry13.out.below hb14 (Nat.le_refl _))
    have rm14 := Lib.hid (rm13.out.below hb14 (Nat.le_refl _))
    have rh14 := Lib.hid (rh13.out.below hb14 (Nat.le_refl _))
    clear ry13 rm13 rh13 hb14 hbw13
    clear rh14
    clear ry14
    go_wp2_with fail
    refine (heldIntS_any G ys.length dg 1 w14 rm14.out (by omega) (by omega)).mono ?_
    rintro e w15 ⟨rfl, hb15⟩
    have hbw15 := hbw14.trans (hb15.mono hbw14.size)
    have rm15 := Lib.hid (rm14.out.below hb15 (Nat.le_refl _))
    clear rm14 hb15 hbw14
    go_wp2_with fail
    go_ret
    exact ⟨rfl, hbw15⟩

end Go.Proofs.Ytcakjhappchlmaa
