/-
  The walk of FnExactRunChecks: whatever the operations, the program's RunChecks and the reference's agree.
-/
import Derived.Test.YtofcpfabjfhjoaaRc3
import Derived.Test.YtofcpfabjfhjoaaRc6
namespace Go.Proofs.Ytofcpfabjfhjoaa
open Go.RowKit Go.BigFrame
set_option linter.unusedVariables false

theorem rcTo_len (s : List OpV) (k : Nat) : (rcTo s k).1.length ≤ k * (s.length + 2) := by
  induction k with
  | zero => simp [rcTo]
  | succ k ih =>
    have hm : (k + 1) * (s.length + 2) = k * (s.length + 2) + (s.length + 2) := by rw [Nat.add_mul, Nat.one_mul]
    have hw : ∀ t, (rcWrites s k t).length ≤ s.length := fun t => by
      unfold rcWrites
      exact Nat.le_trans (List.length_filter_le _ _) (by rw [List.length_take]; omega)
    rw [hm]
    simp only [rcTo]
    cases s[k]? with
    | none => simp only; omega
    | some o =>
      simp only [rcStep]
      have := hw o.tx
      split
      · simp; omega
      · split
        · split
          · simp; omega
          · simp; omega
        · omega
theorem run_len (s : List OpV) : (orNil (runB s) (rcTo s s.length).1).length ≤ 1000 := by
  cases h : runB s
  · exact Nat.zero_le _
  · have h2 : s.length ≤ 12 := by unfold runB at h; simp only [Bool.and_eq_true, decide_eq_true_eq] at h; exact h.2
    have h1 := rcTo_len s s.length
    have h3 : s.length * (s.length + 2) ≤ 12 * 14 := Nat.mul_le_mul h2 (by omega)
    show (rcTo s s.length).1.length ≤ 1000
    omega

set_option maxRecDepth 100000 in
set_option maxHeartbeats 8000000 in
theorem exact_runChecks (A : Option Addr) (n c : Nat) (w : World) (hin : OpsIn w A n c) :
    Calls Try.prog 12 #[.slice A n c] w fun e w' => e = .returned (.bool true) ∧ Below w.heap.size w w' := by
  obtain ⟨hnc, hcm, hx0⟩ := hin
  unfold maxLen at hcm
  by_cases hbig : 1048576 < n
  · clear hx0
    go_enter Try.func12, Try.ntmps12
    go_wp2_with fail
    refine (szOpS_any A n c 1048576 w (by omega) (by omega) (by omega)).mono ?_
    rw [if_pos (by omega)]
    rintro e w1 ⟨rfl, rfl⟩
    go_wp2_with fail
    go_ret
    exact ⟨rfl, Below.refl _ _⟩
  · obtain ⟨s, hx⟩ := hx0 (by omega)
    have HX := Lib.hid hx
    obtain rfl : n = s.length := hx.1.symm
    clear hx0 hx
    have hlen := run_len s
    obtain ⟨xs, hxs⟩ : ∃ xs, orNil (runB s) (rcTo s s.length).1 = xs := ⟨_, rfl⟩
    obtain ⟨ys, hys⟩ : ∃ ys, orNil (runB s) (rcTo s s.length).2.1 = ys := ⟨_, rfl⟩
    have c1 : ∀ (W : World) (B : Option Addr) (d : Nat), ROps W B s.length s → s.length ≤ d → Calls Try.prog 59 #[.slice B s.length d] W (RetOI W xs ys) := fun W B d h hd => by
      have := RunChecks_any B _ d s W h hd; rw [(runChecks_eq s).1, (runChecks_eq s).2, hxs, hys] at this; exact this
    have c2 : ∀ (W : World) (B : Option Addr) (d : Nat), ROps W B s.length s → s.length ≤ d → Calls Try.prog 58 #[.slice B s.length d] W (RetOI W xs ys) := fun W B d h hd => by
      have := sRunChecks_any B _ d s W h hd; rw [hxs, hys] at this; exact this
    have c3 : ∀ (W : World), Below w.heap.size w W → Calls Try.prog 27 #[.slice A s.length c] W (RetOps W s) := fun W h => toOpS_any A s.length c s W (HX.out.below h (Nat.le_refl _)) (by omega)
    have C1 := Lib.hid c1
    have C2 := Lib.hid c2
    have C3 := Lib.hid c3
    rw [hxs] at hlen
    clear c1 c2 c3 hxs hys
    go_enter Try.func12, Try.ntmps12
    go_wp2_with fail
    refine (szOpS_any A s.length c 1048576 w (by omega) (by omega) (by omega)).mono ?_
    rw [if_neg (by omega)]
    rintro e w1 ⟨rfl, rfl⟩
    have hsz0 : ¬ ((1048576 : Int) - (s.length : Int) < 0) := by omega
    go_wp2_with fail
    refine (C3.out w (Below.refl _ _)).mono ?_
    rintro e w1 ⟨B1, d1, rfl, hd1, ⟨hr1, _⟩, hb1⟩
    go_wp2_with fail
    refine (C2.out w1 B1 d1 hr1 hd1).mono ?_
    rintro e w2 ⟨Y, dy, Yi, dyi, rfl, hdy, hdyi, hfy, hfyi, hb2⟩
    have hbw2 := hb1.trans (hb2.mono hb1.size)
    clear hr1 hb1 hb2
    go_wp2_with fail
    refine (C3.out w2 hbw2).mono ?_
    rintro e w3 ⟨X, dx, rfl, hdx, hfx, hb3⟩
    have hbw3 := hbw2.trans (hb3.mono hbw2.size)
    have hYlt : ∀ b, Y = some b → b.block < w2.heap.size := fun b hb => (hfy.at_ b hb).2
    have hYilt : ∀ b, Yi = some b → b.block < w2.heap.size := fun b hb => (hfyi.at_ b hb).2
    have hXge : ∀ a, X = some a → w2.heap.size ≤ a.block := fun a ha => (hfx.at_ a ha).1
    have hXlt : ∀ a, X = some a → a.block < w3.heap.size := fun a ha => (hfx.at_ a ha).2
    have hsz23 := hb3.size
    have hwz := hbw2.size
    have ry3 := Lib.hid (hfy.1.below hb3 (Nat.le_refl _))
    have ri3 := Lib.hid (hfyi.1.below hb3 (Nat.le_refl _))
    have rx3 := Lib.hid hfx
    have hX1 := Lib.hid hfx.1
    clear hfy hfyi hfx hb3 hbw2
    go_wp2_with fail
    refine (C1.out w3 X dx hX1.out hdx).mono ?_
    rintro e w4 ⟨G, dg, Gi, dgi, rfl, hdg, hdgi, hfg, hfgi, hb4⟩
    have hGge : ∀ a, G = some a → w3.heap.size ≤ a.block := fun a ha => (hfg.at_ a ha).1
    have hGige : ∀ a, Gi = some a → w3.heap.size ≤ a.block := fun a ha => (hfgi.at_ a ha).1
    have hbw4 := hbw3.trans (hb4.mono hbw3.size)
    have ry4 := Lib.hid (ry3.out.below hb4 (Nat.le_refl _))
    have ri4 := Lib.hid (ri3.out.below hb4 (Nat.le_refl _))
    have rx4 := Lib.hid (rx3.out.below hb4)
    have rg4 := Lib.hid hfg
    have rgi4 := Lib.hid hfgi
    have hxl : xs.length ≤ 1099511627776 := hfg.1.2.1
    have hyl : ys.length ≤ 1099511627776 := hfgi.1.2.1
    have HGGi := Lib.hid (fresh_apart hfg hfgi)
    have HXY : Hid (Apart X Y) := Apart.of_lt hXge hYlt
    have HXYi : Hid (Apart X Yi) := Apart.of_lt hXge hYilt
    have HGX : Hid (Apart G X) := Apart.of_lt hGge hXlt
    have HGiX : Hid (Apart Gi X) := Apart.of_lt hGige hXlt
    have HGY : Hid (Apart G Y) := Apart.of_lt hGge (fun b hb => Nat.lt_of_lt_of_le (hYlt b hb) hsz23)
    have HGYi : Hid (Apart G Yi) := Apart.of_lt hGge (fun b hb => Nat.lt_of_lt_of_le (hYilt b hb) hsz23)
    have HGiY : Hid (Apart Gi Y) := Apart.of_lt hGige (fun b hb => Nat.lt_of_lt_of_le (hYlt b hb) hsz23)
    have HGiYi : Hid (Apart Gi Yi) := Apart.of_lt hGige (fun b hb => Nat.lt_of_lt_of_le (hYilt b hb) hsz23)
    have HXw : Hid (∀ a, X = some a → w.heap.size ≤ a.block) := fun a ha => Nat.le_trans hwz (hXge a ha)
    have HGw : Hid (∀ a, G = some a → w.heap.size ≤ a.block) := fun a ha => Nat.le_trans hbw3.size (hGge a ha)
    have HGiw : Hid (∀ a, Gi = some a → w.heap.size ≤ a.block) := fun a ha => Nat.le_trans hbw3.size (hGige a ha)
    clear hfg hfgi hb4 ry3 ri3 rx3 hX1 hYlt hYilt hXge hXlt hGge hGige hbw3
    go_wp2_with fail
    refine (eqOpS_any G Y _ _ dg dy xs xs w4 rg4.out.1 ry4.out).mono ?_
    rw [beq_self_eq_true]
    rintro e w5 ⟨rfl, hb5⟩
    have hbw5 := hbw4.trans (hb5.mono hbw4.size)
    have ry5 := Lib.hid (ry4.out.below hb5 (Nat.le_refl _))
    have ri5 := Lib.hid (ri4.out.below hb5 (Nat.le_refl _))
    have rx5 := Lib.hid (rx4.out.below hb5)
    have rg5 := Lib.hid (rg4.out.below hb5)
    have rgi5 := Lib.hid (rgi4.out.below hb5)
    clear ry4 ri4 rx4 rg4 rgi4 hb5 hbw4
    go_wp2_with fail
    refine (eqIntS_any Gi Yi _ _ dgi dyi ys ys w5 rgi5.out.1 ri5.out).mono ?_
    rw [beq_self_eq_true]
    rintro e w55 ⟨rfl, hb5⟩
    have hbw55 := hbw5.trans (hb5.mono hbw5.size)
    have ry55 := Lib.hid (ry5.out.below hb5 (Nat.le_refl _))
    have ri55 := Lib.hid (ri5.out.below hb5 (Nat.le_refl _))
    have rx55 := Lib.hid (rx5.out.below hb5)
    have rg55 := Lib.hid (rg5.out.below hb5)
    have rgi55 := Lib.hid (rgi5.out.below hb5)
    clear ry5 ri5 rx5 rg5 rgi5 hb5 hbw5
    go_wp2_with fail
    refine (C3.out w55 hbw55).mono ?_
    rintro e w6 ⟨Z, dz, rfl, hdz, ⟨hrz, _⟩, hb6⟩
    have hbw6 := hbw55.trans (hb6.mono hbw55.size)
    have ry6 := Lib.hid (ry55.out.below hb6 (Nat.le_refl _))
    have ri6 := Lib.hid (ri55.out.below hb6 (Nat.le_refl _))
    have rx6 := Lib.hid (rx55.out.below hb6)
    have rg6 := Lib.hid (rg55.out.below hb6)
    have rgi6 := Lib.hid (rgi55.out.below hb6)
    have hrz := Lib.hid hrz
    clear ry55 ri55 rx55 rg55 rgi55 hb6 hbw55
    go_wp2_with fail
    refine (eqOpS_any X Z _ _ dx dz s s w6 rx6.out.1 hrz.out).mono ?_
    rw [beq_self_eq_true]
    rintro e w7 ⟨rfl, hb7⟩
    have hbw7 := hbw6.trans (hb7.mono hbw6.size)
    have ry7 := Lib.hid (ry6.out.below hb7 (Nat.le_refl _))
    have ri7 := Lib.hid (ri6.out.below hb7 (Nat.le_refl _))
    have rx7 := Lib.hid (rx6.out.below hb7)
    have rg7 := Lib.hid (rg6.out.below hb7)
    have rgi7 := Lib.hid (rgi6.out.below hb7)
    clear ry6 ri6 rx6 rg6 rgi6 hrz hb7 hbw6
    go_wp2_with fail
    refine (markOpS_any X s.length dx s 1 w2 w7 rx7.out (by omega) (by omega)).mono ?_
    rintro e w8 ⟨rfl, _, hg8⟩
    have hbw8 := below_marked hbw7 hg8 HXw.out
    have ry8 := Lib.hid (ry7.out.grown hg8 HXY.out.row)
    have ri8 := Lib.hid (ri7.out.grown hg8 HXYi.out.row)
    have rg8 := Lib.hid (rg7.out.grown hg8 HGX.out.symm.row)
    have rgi8 := Lib.hid (rgi7.out.grown hg8 HGiX.out.symm.row)
    clear ry7 ri7 rx7 rg7 rgi7 hg8 hbw7
    have hk0 : ¬ ((1 : Int) + 3 * (s.length : Int) < 0) := by omega
    go_wp2_with fail
    refine (eqOpS_any G Y _ _ dg dy xs xs w8 rg8.out.1 ry8.out).mono ?_
    rw [beq_self_eq_true]
    rintro e w9 ⟨rfl, hb9⟩
    have hbw9 := hbw8.trans (hb9.mono hbw8.size)
    have ry9 := Lib.hid (ry8.out.below hb9 (Nat.le_refl _))
    have ri9 := Lib.hid (ri8.out.below hb9 (Nat.le_refl _))
    have rg9 := Lib.hid (rg8.out.below hb9)
    have rgi9 := Lib.hid (rgi8.out.below hb9)
    clear ry8 ri8 rg8 rgi8 hb9 hbw8
    go_wp2_with fail
    refine (eqIntS_any Gi Yi _ _ dgi dyi ys ys w9 rgi9.out.1 ri9.out).mono ?_
    rw [beq_self_eq_true]
    rintro e w95 ⟨rfl, hb9⟩
    have hbw95 := hbw9.trans (hb9.mono hbw9.size)
    have ry95 := Lib.hid (ry9.out.below hb9 (Nat.le_refl _))
    have ri95 := Lib.hid (ri9.out.below hb9 (Nat.le_refl _))
    have rg95 := Lib.hid (rg9.out.below hb9)
    have rgi95 := Lib.hid (rgi9.out.below hb9)
    clear ry9 ri9 rg9 rgi9 hb9 hbw9
    go_wp2_with fail
    refine (markOpS_any G xs.length dg xs 1 w3 w95 rg95.out (by omega) (by omega)).mono ?_
    rintro e w10 ⟨rfl, hm10, hg10⟩
    have hbw10 := below_marked hbw95 hg10 HGw.out
    have ry10 := Lib.hid (ry95.out.grown hg10 HGY.out.row)
    have ri10 := Lib.hid (ri95.out.grown hg10 HGYi.out.row)
    have rgi10 := Lib.hid (rgi95.out.grown hg10 HGGi.out.row)
    have rm10 := Lib.hid hm10
    clear ry95 ri95 rg95 rgi95 hg10 hbw95 hm10
    go_wp2_with fail
    refine (markIntS_any Gi ys.length dgi ys (1 + 3 * (xs.length : Int)) w3 w10 rgi10.out (by omega) (by omega)).mono ?_
    rintro e w105 ⟨rfl, hm105, hg105⟩
    have hbw105 := below_marked hbw10 hg105 HGiw.out
    have ry105 := Lib.hid (ry10.out.grown hg105 HGiY.out.row)
    have ri105 := Lib.hid (ri10.out.grown hg105 HGiYi.out.row)
    have rm105 := Lib.hid (rm10.out.grown hg105 HGGi.out.symm.row)
    have rmi105 := Lib.hid hm105
    clear ry10 ri10 rgi10 rm10 hg105 hbw10 hm105
    go_wp2_with fail
    refine (heldOpS_any G xs.length dg 1 w105 rm105.out (by omega) (by omega)).mono ?_
    rintro e w11 ⟨rfl, hb11⟩
    have hbw11 := hbw105.trans (hb11.mono hbw105.size)
    have ry11 := Lib.hid (ry105.out.below hb11 (Nat.le_refl _))
    have ri11 := Lib.hid (ri105.out.below hb11 (Nat.le_refl _))
    have rm11 := Lib.hid (rm105.out.below hb11 (Nat.le_refl _))
    have rmi11 := Lib.hid (rmi105.out.below hb11 (Nat.le_refl _))
    clear ry105 ri105 rm105 rmi105 hb11 hbw105
    have hq0 : ¬ ((1 : Int) + 3 * (xs.length : Int) < 0) := by omega
    go_wp2_with fail
    refine (heldIntS_any Gi ys.length dgi (1 + 3 * (xs.length : Int)) w11 rmi11.out (by omega) (by omega)).mono ?_
    rintro e w115 ⟨rfl, hb115⟩
    have hbw115 := hbw11.trans (hb115.mono hbw11.size)
    have ry115 := Lib.hid (ry11.out.below hb115 (Nat.le_refl _))
    have ri115 := Lib.hid (ri11.out.below hb115 (Nat.le_refl _))
    have rm115 := Lib.hid (rm11.out.below hb115 (Nat.le_refl _))
    have rmi115 := Lib.hid (rmi11.out.below hb115 (Nat.le_refl _))
    clear ry11 ri11 rm11 rmi11 hb115 hbw11
    have hq1 : ¬ ((1 : Int) + 3 * (xs.length : Int) + (ys.length : Int) < 0) := by omega
    go_wp2_with fail
    refine (C3.out w115 hbw115).mono ?_
    rintro e w12 ⟨V, dv, rfl, hdv, ⟨hrv, _⟩, hb12⟩
    have hbw12 := hbw115.trans (hb12.mono hbw115.size)
    have ry12 := Lib.hid (ry115.out.below hb12 (Nat.le_refl _))
    have ri12 := Lib.hid (ri115.out.below hb12 (Nat.le_refl _))
    have rm12 := Lib.hid (rm115.out.below hb12 (Nat.le_refl _))
    have rmi12 := Lib.hid (rmi115.out.below hb12 (Nat.le_refl _))
    have hrv := Lib.hid hrv
    clear ry115 ri115 rm115 rmi115 hb12 hbw115
    go_wp2_with fail
    refine (C1.out w12 V dv hrv.out hdv).mono ?_
    rintro e w13 ⟨U, du, Ui, dui, rfl, hdu, hdui, ⟨hru, _⟩, ⟨hrui, _⟩, hb13⟩
    have hbw13 := hbw12.trans (hb13.mono hbw12.size)
    have ry13 := Lib.hid (ry12.out.below hb13 (Nat.le_refl _))
    have ri13 := Lib.hid (ri12.out.below hb13 (Nat.le_refl _))
    have rm13 := Lib.hid (rm12.out.below hb13 (Nat.le_refl _))
    have rmi13 := Lib.hid (rmi12.out.below hb13 (Nat.le_refl _))
    have hru := Lib.hid hru
    have hrui := Lib.hid hrui
    clear ry12 ri12 rm12 rmi12 hb13 hbw12
    go_wp2_with fail
    refine (eqOpS_any U Y _ _ du dy xs xs w13 hru.out ry13.out).mono ?_
    rw [beq_self_eq_true]
    rintro e w14 ⟨rfl, hb14⟩
    have hbw14 := hbw13.trans (hb14.mono hbw13.size)
    have ri14 := Lib.hid (ri13.out.below hb14 (Nat.le_refl _))
    have rm14 := Lib.hid (rm13.out.below hb14 (Nat.le_refl _))
    have rmi14 := Lib.hid (rmi13.out.below hb14 (Nat.le_refl _))
    have hrui14 := Lib.hid (hrui.out.below hb14 (Nat.le_refl _))
    clear ry13 ri13 rm13 rmi13 hrui hb14 hbw13
    go_wp2_with fail
    refine (eqIntS_any Ui Yi _ _ dui dyi ys ys w14 hrui14.out ri14.out).mono ?_
    rw [beq_self_eq_true]
    rintro e w145 ⟨rfl, hb145⟩
    have hbw145 := hbw14.trans (hb145.mono hbw14.size)
    have rm145 := Lib.hid (rm14.out.below hb145 (Nat.le_refl _))
    have rmi145 := Lib.hid (rmi14.out.below hb145 (Nat.le_refl _))
    clear ri14 rm14 rmi14 hrui14 hb145 hbw14
    go_wp2_with fail
    refine (heldOpS_any G xs.length dg 1 w145 rm145.out (by omega) (by omega)).mono ?_
    rintro e w15 ⟨rfl, hb15⟩
    have hbw15 := hbw145.trans (hb15.mono hbw145.size)
    have rmi15 := Lib.hid (rmi145.out.below hb15 (Nat.le_refl _))
    clear rm145 rmi145 hb15 hbw145
    go_wp2_with fail
    refine (heldIntS_any Gi ys.length dgi (1 + 3 * (xs.length : Int)) w15 rmi15.out (by omega) (by omega)).mono ?_
    rintro e w16 ⟨rfl, hb16⟩
    have hbw16 := hbw15.trans (hb16.mono hbw15.size)
    clear rmi15 hb16 hbw15
    go_wp2_with fail
    go_ret
    exact ⟨rfl, hbw16⟩
end Go.Proofs.Ytofcpfabjfhjoaa
