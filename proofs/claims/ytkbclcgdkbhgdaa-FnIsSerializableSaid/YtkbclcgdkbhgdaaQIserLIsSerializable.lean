/-
  The walk of the law FnIsSerializable: whatever the input, it returns true and changes nothing.
-/
import Derived.Test.YtkbclcgdkbhgdaaPkOrdX3
import Derived.Test.YtkbclcgdkbhgdaaQIserIserP0
import Derived.Test.YtkbclcgdkbhgdaaQIserDraws3
import Derived.Test.YtkbclcgdkbhgdaaPkOrdX1
import Derived.IntWalk
namespace Go.Proofs.Ytkbclcgdkbhgdaa
open Go.RowKit Go.BigFrame
set_option linter.unusedVariables false

set_option maxRecDepth 100000 in
set_option maxHeartbeats 2000000 in
theorem law_isSerializable (A : Option Addr) (n c : Nat) (w : World) (hin : BytesIn w A n c) :
    Calls Try.prog 4 #[.slice A n c] w fun e w' => e = .returned (.bool true) ∧ Below w.heap.size w w' := by
  obtain ⟨hx, hnc⟩ := hin
  have hn := hx.1
  by_cases hbig : 1048576 < n
  · clear hx
    go_enter Try.func4, Try.ntmps4
    go_wp2_with fail
    go_ret
    exact ⟨rfl, Below.refl _ _⟩
  · have HD := Lib.hid (DrawIsSerializable_any A n c w hx hnc)
    clear hx
    go_enter Try.func4, Try.ntmps4
    go_wp2_with fail
    refine HD.out.mono ?_
    rintro e w1 ⟨S, m, d, s, rfl, hown, hm, hb1⟩
    have hmd : m ≤ d := by obtain ⟨A', c', he, h⟩ := own_form2 hown; injection he with _ _ he; omega
    have hR : ∀ W, Below w1.heap.size w1 W → ROps W S m s := fun W h => (ROps.of_own hown (by omega)).below h (Nat.le_refl _)
    have HR := Lib.hid hR
    have hsl := (hR w1 (Below.refl _ _)).1
    obtain ⟨V, hV⟩ : ∃ V, validS s = V := ⟨_, rfl⟩
    obtain ⟨N, hN⟩ : ∃ N, (ordO s).length = N := ⟨_, rfl⟩
    obtain ⟨ls, hls⟩ : ∃ b, (validS (s.take (m - 1)) && decide (0 < (ordO (s.take (m - 1))).length)) = b := ⟨_, rfl⟩
    obtain ⟨sv, hsv⟩ : ∃ b, isSerV s = b := ⟨_, rfl⟩
    have c1 : ∀ W : World, Below w1.heap.size w1 W → Calls Try.prog 20 #[.slice S m d] W fun e w' => e = .returned (.bool (V && decide (0 < N))) ∧ Below W.heap.size W w' := fun W h => by
      have := IsSerializable_any S m d s W (hR W h) hmd; rw [hV, hN] at this; exact this
    have c2 : ∀ W : World, Below w1.heap.size w1 W → Calls Try.prog 21 #[.slice S m d] W fun e w' => e = .returned (.bool (V && decide (0 < N))) ∧ Below W.heap.size W w' := fun W h => by
      have := sIsSerializable_any S m d s W (hR W h) hmd
      cases hv : validS s
      · rw [hv] at this hV; rw [← hV]; exact this
      · rw [← ordO_eq hv, hN, hV] at this; exact this
    have c3 : ∀ W : World, Below w1.heap.size w1 W → Calls Try.prog 22 #[.slice S m d] W fun e w' => e = .returned (.bool V) ∧ Below W.heap.size W w' := fun W h => by
      have := ValidSchedule_any S m d s W (hR W h) hmd; rw [hV] at this; exact this
    have c4 : ∀ W : World, Below w1.heap.size w1 W → Calls Try.prog 20 #[.slice S (m - 1) d] W fun e w' => e = .returned (.bool ls) ∧ Below W.heap.size W w' := fun W h => by
      have := IsSerializable_any S (m - 1) d (s.take (m - 1)) W ((hR W h).take (by omega)) (by omega); rw [hls] at this; exact this
    have c5 : V = true → ∀ W : World, Below w1.heap.size w1 W → Calls Try.prog 23 #[.slice S m d] W fun e w' => ∃ A c, e = .returned (.slice A N c) ∧ N ≤ c ∧ Below W.heap.size W w' := fun hv W h => by
      have := OrdersOf_any S m d s W (hR W h) hmd
      rw [hV, hv] at this
      refine this.mono fun e w' hr => ?_
      obtain ⟨A6, c6, rv, h1, h2, _, _, _, h6⟩ := hr
      exact ⟨A6, c6, by rw [h1]; show Ending.returned (.slice A6 (ordO s).length c6) = _; rw [hN], by show N ≤ c6; rw [← hN]; exact h2, h6⟩
    have c6 : ∀ W : World, Below w1.heap.size w1 W → Calls Try.prog 24 #[.slice S m d] W fun e w' => e = .returned (.bool sv) ∧ Below W.heap.size W w' := fun W h => by
      have := IsSerial_any S m d s W (hR W h) hmd; rw [hsv] at this; exact this
    have h1 : V = true → ¬ 0 < N → sv = false := fun hv h0 => by
      cases h : sv
      · rfl
      · rw [h] at hsv
        exact absurd (hN ▸ iser_serial (hV.trans hv) hsv) h0
    have h2 : V = true → 0 < N → ls = true := fun hv h0 => by rw [← hls]; exact iser_less (hV.trans hv) _ (hN ▸ h0)
    have C1 := Lib.hid c1
    have C2 := Lib.hid c2
    have C3 := Lib.hid c3
    have C4 := Lib.hid c4
    have C5' := Lib.hid c5
    have C6 := Lib.hid c6
    have H1 := Lib.hid h1
    have H2 := Lib.hid h2
    clear hown HD hR c1 c2 c3 c4 c5 c6 hV hN hls hsv h1 h2
    go_wp2_with fail
    refine (C1.out w1 (Below.refl _ _)).mono ?_
    rintro e w2 ⟨rfl, hb2⟩
    go_wp2_with fail
    refine (C2.out w2 hb2).mono ?_
    rintro e w3 ⟨rfl, hb3⟩
    have hb13 := hb2.trans (hb3.mono hb2.size)
    cases V
    · go_wp2_with fail
      refine (C3.out w3 hb13).mono ?_
      rintro e w4 ⟨rfl, hb4⟩
      have hb14 := hb13.trans (hb4.mono hb13.size)
      go_wp2_with fail
      refine (C2.out w4 hb14).mono ?_
      rintro e w5 ⟨rfl, hb5⟩
      go_wp2_with fail
      go_ret
      exact ⟨rfl, hb1.trans ((hb14.trans (hb5.mono hb14.size)).mono hb1.size)⟩
    · have C5 := Lib.hid (C5'.out (by trivial))
      have HSV := Lib.hid (H1.out (by trivial))
      have HLS := Lib.hid (H2.out (by trivial))
      clear C5' H1 H2
      by_cases h0 : 0 < N
      · have hls := HLS.out h0
        subst hls
        go_wp2_with fail
        refine (C3.out w3 hb13).mono ?_
        rintro e w4 ⟨rfl, hb4⟩
        have hb14 := hb13.trans (hb4.mono hb13.size)
        by_cases hm0 : m = 0
        · subst hm0
          go_wp2_with fail
          refine (C5.out w4 hb14).mono ?_
          rintro e w9 ⟨O, oc, rfl, hoc, hb9⟩
          go_wp2_with fail
          go_ret
          exact ⟨rfl, hb1.trans ((hb14.trans (hb9.mono hb14.size)).mono hb1.size)⟩
        · have hrx := HR.out w4 hb14
          obtain ⟨b, off, o, rfl, hbl, ho, e0, e1, e2⟩ := hrx.at_ (k := m - 1) (by omega)
          have hm1 : (m : Int) - 1 = ((m - 1 : Nat) : Int) := by omega
          have hmw : IntKind.i64.wrap ((m : Int) - 1) = (m : Int) - 1 := IntWalk.i64_in _ (by omega)
          have hmt : ((m : Int) - 1).toNat = m - 1 := by omega
          have hmn : (m : Int) - 1 < (m : Int) := by omega
          have hm1i : (1 : Int) ≤ (m : Int) := by omega
          have hm10 : (0 : Int) ≤ (m : Int) - 1 := by omega
          have hmd2 : (m : Int) - 1 ≤ (d : Int) := by omega
          have hmz : ((m : Int) == 0) = false := by rw [beq_eq_false_iff_ne]; omega
          obtain ⟨ot, ok, oi⟩ := o
          simp only at e0 e1 e2
          clear hrx ho e0 e2 hm1
          by_cases hk : ok = 2
          · subst hk
            go_wp2_with fail
            refine (C4.out w4 hb14).mono ?_
            rintro e w5 ⟨rfl, hb5⟩
            have hb15 := hb14.trans (hb5.mono hb14.size)
            go_wp2_with fail
            refine (C5.out w5 hb15).mono ?_
            rintro e w9 ⟨O, oc, rfl, hoc, hb9⟩
            go_wp2_with fail
            go_ret
            exact ⟨rfl, hb1.trans ((hb15.trans (hb9.mono hb15.size)).mono hb1.size)⟩
          · have hk' : (ok != 2) = true := by simpa using hk
            have hk'' : (ok == 2) = false := by simpa using hk
            go_wp2_with fail
            refine (C5.out w4 hb14).mono ?_
            rintro e w9 ⟨O, oc, rfl, hoc, hb9⟩
            go_wp2_with fail
            go_ret
            exact ⟨rfl, hb1.trans ((hb14.trans (hb9.mono hb14.size)).mono hb1.size)⟩
      · have HSV := Lib.hid (fun _ : True => HSV.out h0)
        go_wp2_with fail
        refine (C3.out w3 hb13).mono ?_
        rintro e w4 ⟨rfl, hb4⟩
        have hb14 := hb13.trans (hb4.mono hb13.size)
        by_cases hm0 : m = 0
        · subst hm0
          go_wp2_with fail
          refine (C5.out w4 hb14).mono ?_
          rintro e w9 ⟨O, oc, rfl, hoc, hb9⟩
          have hb19 := hb14.trans (hb9.mono hb14.size)
          have HC6 := Lib.hid (C6.out w9 hb19)
          rw [HSV.out (by trivial)] at HC6
          go_wp2_with fail
          refine HC6.out.mono ?_
          rintro e w10 ⟨rfl, hb10⟩
          go_wp2_with fail
          go_ret
          exact ⟨rfl, hb1.trans ((hb19.trans (hb10.mono hb19.size)).mono hb1.size)⟩
        · have hrx := HR.out w4 hb14
          obtain ⟨b, off, o, rfl, hbl, ho, e0, e1, e2⟩ := hrx.at_ (k := m - 1) (by omega)
          have hm1 : (m : Int) - 1 = ((m - 1 : Nat) : Int) := by omega
          have hmw : IntKind.i64.wrap ((m : Int) - 1) = (m : Int) - 1 := IntWalk.i64_in _ (by omega)
          have hmt : ((m : Int) - 1).toNat = m - 1 := by omega
          have hmn : (m : Int) - 1 < (m : Int) := by omega
          have hm1i : (1 : Int) ≤ (m : Int) := by omega
          have hm10 : (0 : Int) ≤ (m : Int) - 1 := by omega
          have hmd2 : (m : Int) - 1 ≤ (d : Int) := by omega
          have hmz : ((m : Int) == 0) = false := by rw [beq_eq_false_iff_ne]; omega
          obtain ⟨ot, ok, oi⟩ := o
          simp only at e0 e1 e2
          clear hrx ho e0 e2 hm1
          by_cases hk : ok = 2
          · subst hk
            go_wp2_with fail
            refine (C4.out w4 hb14).mono ?_
            rintro e w5 ⟨rfl, hb5⟩
            have hb15 := hb14.trans (hb5.mono hb14.size)
            go_wp2_with fail
            refine (C5.out w5 hb15).mono ?_
            rintro e w9 ⟨O, oc, rfl, hoc, hb9⟩
            have hb19 := hb15.trans (hb9.mono hb15.size)
            have HC6 := Lib.hid (C6.out w9 hb19)
            rw [HSV.out (by trivial)] at HC6
            go_wp2_with fail
            refine HC6.out.mono ?_
            rintro e w10 ⟨rfl, hb10⟩
            go_wp2_with fail
            go_ret
            exact ⟨rfl, hb1.trans ((hb19.trans (hb10.mono hb19.size)).mono hb1.size)⟩
          · have hk' : (ok != 2) = true := by simpa using hk
            have hk'' : (ok == 2) = false := by simpa using hk
            go_wp2_with fail
            refine (C5.out w4 hb14).mono ?_
            rintro e w9 ⟨O, oc, rfl, hoc, hb9⟩
            have hb19 := hb14.trans (hb9.mono hb14.size)
            have HC6 := Lib.hid (C6.out w9 hb19)
            rw [HSV.out (by trivial)] at HC6
            go_wp2_with fail
            refine HC6.out.mono ?_
            rintro e w10 ⟨rfl, hb10⟩
            go_wp2_with fail
            go_ret
            exact ⟨rfl, hb1.trans ((hb19.trans (hb10.mono hb19.size)).mono hb1.size)⟩
end Go.Proofs.Ytkbclcgdkbhgdaa
