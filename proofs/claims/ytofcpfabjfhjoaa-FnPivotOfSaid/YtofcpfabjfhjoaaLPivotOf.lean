/-
  The walk of the law FnPivotOf: whatever the input, it returns true and changes nothing.
-/
import Derived.Test.YtofcpfabjfhjoaaPlain7
import Derived.Test.YtofcpfabjfhjoaaPiv1
import Derived.Test.YtofcpfabjfhjoaaPiv2
import Derived.Test.YtofcpfabjfhjoaaAg3
import Derived.Test.YtofcpfabjfhjoaaOnly0
import Derived.Test.YtofcpfabjfhjoaaDraws1
import Derived.Test.YtofcpfabjfhjoaaOpen0
import Derived.Test.YtofcpfabjfhjoaaSerial
namespace Go.Proofs.Ytofcpfabjfhjoaa
open Go.RowKit Go.BigFrame
set_option linter.unusedVariables false

theorem pivR_some {s : List OpV} (h : validS s = true) (hp : (pivR (agS4 s) (ovS s)).isSome = true) : ∃ t u v : Nat, t < 4 ∧ u < 4 ∧ v < 4 ∧ pivL (pivR (agS4 s) (ovS s)) = [(t : Int), (u : Int), (v : Int)] ∧ ((agS4 s).getD t 0).testBit u = true ∧ ((agS4 s).getD u 0).testBit v = true ∧ isSer s = false := by
  have hser : isSer s = false := by
    cases hs : isSer s
    · rfl
    · rw [piv_ser h hs] at hp; cases hp
  obtain ⟨x, hx⟩ := Option.isSome_iff_exists.1 hp
  have hx' := hx
  unfold pivR at hx
  have h1 := List.find?_some hx
  have h2 := List.mem_range.1 (List.mem_of_find?_eq_some hx)
  unfold pivX pivF at h1
  simp only [Bool.and_eq_true] at h1
  exact ⟨x / 16, x / 4 % 4, x % 4, by omega, by omega, by omega, by rw [hx']; rfl, h1.1.1.1, h1.1.1.2, hser⟩

set_option maxRecDepth 100000 in
set_option maxHeartbeats 2000000 in
theorem law_pivotOf (A : Option Addr) (n c : Nat) (w : World) (hin : BytesIn w A n c) :
    Calls Try.prog 6 #[.slice A n c] w fun e w' => e = .returned (.bool true) ∧ Below w.heap.size w w' := by
  obtain ⟨hx, hnc⟩ := hin
  have hn := hx.1
  by_cases hbig : 1048576 < n
  · clear hx
    go_enter Try.func6, Try.ntmps6
    go_wp2_with fail
    go_ret
    exact ⟨rfl, Below.refl _ _⟩
  · have HD := Lib.hid (DrawPivotOf_any A n c w hx hnc)
    clear hx
    go_enter Try.func6, Try.ntmps6
    go_wp2_with fail
    refine HD.out.mono ?_
    rintro e w1 ⟨S, m, d, s, rfl, hown, hm, hb1⟩
    have hmd : m ≤ d := by obtain ⟨A', c', he, h⟩ := own_form2 hown; injection he with _ _ he; omega
    have HS := Lib.hid (ROps.of_own hown (by omega))
    obtain ⟨ys, hys⟩ : ∃ ys, orNil (validS s) (pivL (pivR (agS4 s) (ovS s))) = ys := ⟨_, rfl⟩
    obtain ⟨bb, hbb⟩ : ∃ bb, (validS s && (pivR (agS4 s) (ovS s)).isSome) = bb := ⟨_, rfl⟩
    have c1 : ∀ W : World, ROps W S m s → Calls Try.prog 28 #[.slice S m d] W (RetIntsB W ys bb) := fun W h => by
      have := PivotOf_any S m d s W h hmd; rw [(pivRes_eq s).1, (pivRes_eq s).2, hys, hbb] at this; exact this
    have c2 : ∀ W : World, ROps W S m s → Calls Try.prog 26 #[.slice S m d] W (RetIntsB W ys bb) := fun W h => by
      have := sPivotOf_any S m d s W h hmd; rw [hys, hbb] at this; exact this
    have C1 := Lib.hid c1
    have C2 := Lib.hid c2
    have HY := Lib.hid hys
    have HB := Lib.hid hbb
    clear hown HD c1 c2 hys hbb
    go_wp2_with fail
    refine (C1.out w1 HS.out).mono ?_
    rintro e w2 ⟨O, oc, rfl, hoc, ⟨hro, _⟩, hb2⟩
    have hb12 : Below w.heap.size w w2 := hb1.trans (hb2.mono hb1.size)
    have HS2 := Lib.hid (HS.out.below hb2 (Nat.le_refl _))
    have HRO := Lib.hid hro
    clear hro
    go_wp2_with fail
    refine (C2.out w2 HS2.out).mono ?_
    rintro e w3 ⟨O3, c3, rfl, hc3, ⟨hr3, _⟩, hb3⟩
    have HR3 := Lib.hid hr3
    have HRO3 := Lib.hid (HRO.out.below hb3 (Nat.le_refl _))
    go_wp2_with fail
    refine (equalInts_any O O3 _ _ oc c3 ys ys w3 HRO3.out hr3).mono ?_
    rw [beq_self_eq_true]
    rintro e w4 ⟨rfl, hb4⟩
    have hb24 : Below w2.heap.size w2 w4 := hb3.trans (hb4.mono hb3.size)
    clear hr3
    cases bb
    · go_wp2_with fail
      refine (equalInts_any O O3 _ _ oc c3 ys ys w4 (HRO3.out.below hb4 (Nat.le_refl _)) (HR3.out.below hb4 (Nat.le_refl _))).mono ?_
      rw [beq_self_eq_true]
      rintro e w5 ⟨rfl, hb5⟩
      go_wp2_with fail
      go_ret
      exact ⟨rfl, hb12.trans ((hb24.trans (hb5.mono hb24.size)).mono hb12.size)⟩
    · have hV : validS s = true := by have := HB.out; simp only [Bool.and_eq_true] at this; exact this.1
      have hP : (pivR (agS4 s) (ovS s)).isSome = true := by have := HB.out; simp only [Bool.and_eq_true] at this; exact this.2
      obtain ⟨t, u, v, ht, hu, hv, hl, hb_1, hb_2, hser⟩ := pivR_some hV hP
      have hye : ys = [(t : Int), (u : Int), (v : Int)] := by
        have := HY.out
        rw [orN_true hV, hl] at this
        exact this.symm
      subst hye
      have hr16a := (rowsI_at (agS_ok hV) (T := t) (by omega)).2
      have hr16b := (rowsI_at (agS_ok hV) (T := u) (by omega)).2
      have hag : orNil (validS s) (rowsI (agI4 s)) = rowsI (agS4 s) := by rw [orN_true hV, ag_eq hV]
      have hlen : (rowsI (agS4 s)).length = 4 := by simp [rowsI, (agS_ok hV).1]
      have hsv : isSerV s = false := by unfold isSerV; rw [hser]; rfl
      have hget : ∀ k, k < 4 → (rowsI (agS4 s))[k]? = some (((agS4 s).getD k 0 : Nat) : Int) := fun k hk => by
        have hk' : k < (agS4 s).length := by rw [(agS_ok hV).1]; exact hk
        simp [rowsI, List.getElem?_map, List.getElem?_eq_getElem hk', List.getD_eq_getElem?_getD]
      have HAG := Lib.hid (AgainstOf_any S m d s w4 (HS2.out.below hb24 (Nat.le_refl _)) hmd)
      have HO4 := Lib.hid (HRO3.out.below hb4 (Nat.le_refl _))
      clear hb3 hb4 HRO3 HR3 HY HB C1 C2
      go_wp2_with fail
      refine HAG.out.mono ?_
      rw [hag]
      rintro e w5 ⟨G, gc, rfl, hgc, ⟨hrg, _⟩, hb5⟩
      rw [hlen] at hrg hgc
      rw [hlen]
      have hb25 : Below w2.heap.size w2 w5 := hb24.trans (hb5.mono hb24.size)
      have hO5 := HO4.out.below hb5 (Nat.le_refl _)
      obtain ⟨bo, offo, x0, hOe, hbo, e0, d0⟩ := hO5.at_ (k := 0) (by simp)
      obtain ⟨bo1, offo1, x1, hOe1, _, e1, d1⟩ := hO5.at_ (k := 1) (by simp)
      obtain ⟨bo2, offo2, x2, hOe2, _, e2, d2⟩ := hO5.at_ (k := 2) (by simp)
      subst hOe
      injection hOe1 with hOe1; injection hOe1 with q1 q2 _; subst q1; subst q2
      injection hOe2 with hOe2; injection hOe2 with q1 q2 _; subst q1; subst q2
      simp at e0 e1 e2
      subst e0; subst e1; subst e2
      obtain ⟨bg, offg, y0, hGe, hbg, f0, g0⟩ := hrg.at_ (k := t) ht
      obtain ⟨bg1, offg1, y1, hGe1, _, f1, g1⟩ := hrg.at_ (k := u) hu
      subst hGe
      injection hGe1 with hGe1; injection hGe1 with q1 q2 _; subst q1; subst q2
      rw [hget t ht] at f0
      rw [hget u hu] at f1
      injection f0 with f0; injection f1 with f1
      subst f0; subst f1
      have cB1 : ∀ z : Later w5, Calls Try.prog 38 #[.int .i64 (((agS4 s).getD t 0 : Nat) : Int), .int .i64 (u : Int)] z.1 fun e w' => e = .returned (.int .i64 1) ∧ z.1 = w' := fun z => by
        have := lbit_any ((agS4 s).getD t 0) u z.1 (by omega) (by omega); rw [if_pos hb_1] at this; exact this
      have cB2 : ∀ z : Later w5, Calls Try.prog 38 #[.int .i64 (((agS4 s).getD u 0 : Nat) : Int), .int .i64 (v : Int)] z.1 fun e w' => e = .returned (.int .i64 1) ∧ z.1 = w' := fun z => by
        have := lbit_any ((agS4 s).getD u 0) v z.1 (by omega) (by omega); rw [if_pos hb_2] at this; exact this
      have cS : ∀ z : Later w5, Calls Try.prog 22 #[.slice S m d] z.1 fun e w' => e = .returned (.bool false) ∧ Below z.1.heap.size z.1 w' := fun z => by
        have := IsSerial_any S m d s z.1 ((HS2.out.below hb25 (Nat.le_refl _)).later z) hmd; rw [hsv] at this; exact this
      generalize (agS4 s).getD t 0 = r1 at *
      generalize (agS4 s).getD u 0 = r2 at *
      have CB1 := Lib.hid cB1
      have CB2 := Lib.hid cB2
      have CS := Lib.hid cS
      have D0 := Later.cell d0
      have D1 := Later.cell d1
      have D2 := Later.cell d2
      have G0 := Later.cell g0
      have G1 := Later.cell g1
      have ht4 : (t : Int) < 4 := by omega
      have hu4 : (u : Int) < 4 := by omega
      have ht0 : (0 : Int) ≤ (t : Int) := by omega
      have hu0 : (0 : Int) ≤ (u : Int) := by omega
      simp only [Nat.add_zero] at D0
      clear cB1 cB2 cS d0 d1 d2 g0 g1 hrg hO5 HO4 HAG hget hag hlen hsv hb_1 hb_2 hl hser hP hV hr16a hr16b HRO hb5 hb24
      go_wp2_with fail
      refine region_later (by kernel_rfl) (by kernel_rfl) ?_
      repeat (go_big_quiet_step ((first | (go_at_call 38; first | exact later_same _ (CB1.out _) | exact later_same _ (CB2.out _)) | (go_at_call 22; exact later_call _ (CS.out _)))))
      refine wpQuiet_nil ?_
      rintro _ ⟨z, rfl⟩
      have hbz := hb25.trans (z.2.mono hb25.size)
      go_wp2_with fail
      go_ret
      exact ⟨rfl, hb12.trans (hbz.mono hb12.size)⟩
end Go.Proofs.Ytofcpfabjfhjoaa
