/-
  The walk of the law FnTimeOrders: whatever the input, it returns true and changes nothing.
-/
import Derived.Test.YtkbclcgdkbhgdaaQTimTime2
import Derived.Test.YtkbclcgdkbhgdaaQTimTime3
import Derived.Test.YtkbclcgdkbhgdaaQTimTimeL0
import Derived.Test.YtkbclcgdkbhgdaaQTimLawL0
import Derived.Test.YtkbclcgdkbhgdaaQTimDraws3
import Derived.Test.YtkbclcgdkbhgdaaPkOrdX1
import Derived.Test.YtkbclcgdkbhgdaaPkOrdX2
namespace Go.Proofs.Ytkbclcgdkbhgdaa
open Go.RowKit Go.BigFrame
set_option linter.unusedVariables false

set_option maxRecDepth 100000 in
set_option maxHeartbeats 4000000 in
theorem law_timeOrders (A : Option Addr) (n c : Nat) (w : World) (hin : BytesIn w A n c) :
    Calls Try.prog 9 #[.slice A n c] w fun e w' => e = .returned (.bool true) ∧ Below w.heap.size w w' := by
  obtain ⟨hx, hnc⟩ := hin
  have hn := hx.1
  by_cases hbig : 1048576 < n
  · clear hx
    go_enter Try.func9, Try.ntmps9
    go_wp2_with fail
    go_ret
    exact ⟨rfl, Below.refl _ _⟩
  · have HD := Lib.hid (DrawTimeOrders_any A n c w hx hnc)
    clear hx
    go_enter Try.func9, Try.ntmps9
    go_wp2_with fail
    refine HD.out.mono ?_
    rintro e w1 ⟨S, m, d, s, rfl, hown, hm, hb1⟩
    have hmd : m ≤ d := by obtain ⟨A', c', he, h⟩ := own_form2 hown; injection he with _ _ he; omega
    have hR : ∀ W, Below w1.heap.size w1 W → ROps W S m s := fun W h => (ROps.of_own hown (by omega)).below h (Nat.le_refl _)
    have HR := Lib.hid hR
    obtain ⟨V, hV⟩ : ∃ V, validS s = V := ⟨_, rfl⟩
    obtain ⟨T, hT⟩ : ∃ T, orNil V (timeI s) = T := ⟨_, rfl⟩
    obtain ⟨K, hK⟩ : ∃ K, committed s = K := ⟨_, rfl⟩
    obtain ⟨O, hO⟩ : ∃ O, ordO s = O := ⟨_, rfl⟩
    obtain ⟨sv, hsv⟩ : ∃ b, isSerV K = b := ⟨_, rfl⟩
    have hTS : orNil V (timeS s) = T := by
      rw [← hT, ← hV]
      cases hv : validS s
      · rfl
      · rw [time_eq hv]
    have c1 : ∀ W : World, Below w1.heap.size w1 W → Calls Try.prog 38 #[.slice S m d] W (RetListsA W T) := fun W h => by
      have := TimeOrders_any S m d s W (hR W h) hmd; rw [hV, hT] at this; exact this
    have c2 : ∀ W : World, Below w1.heap.size w1 W → Calls Try.prog 37 #[.slice S m d] W (RetLists W T) := fun W h => by
      have := sTimeOrders_any S m d s W (hR W h) hmd; rw [hV, hTS] at this; exact this
    have c3 : ∀ W : World, Below w1.heap.size w1 W → Calls Try.prog 22 #[.slice S m d] W fun e w' => e = .returned (.bool V) ∧ Below W.heap.size W w' := fun W h => by
      have := ValidSchedule_any S m d s W (hR W h) hmd; rw [hV] at this; exact this
    have c4 : V = true → ∀ W : World, Below w1.heap.size w1 W → Calls Try.prog 23 #[.slice S m d] W (RetListsA W O) := fun hv W h => by
      have := OrdersOf_any S m d s W (hR W h) hmd; rw [hV, hv, hO] at this; exact this
    have c5 : V = true → ∀ W : World, Below w1.heap.size w1 W → Calls Try.prog 44 #[.slice S m d] W (RetOps W K) := fun hv W h => by
      have := CommittedOf_any S m d s W (hR W h) hmd; rw [hV, hv, hK] at this; exact this
    have c6 : ∀ (W : World) (C : Option Addr) (k cc : Nat), ROps W C k K → k ≤ cc → Calls Try.prog 24 #[.slice C k cc] W fun e w' => e = .returned (.bool sv) ∧ Below W.heap.size W w' := fun W C k cc h hc => by
      have := IsSerial_any C k cc K W h hc; rw [hsv] at this; exact this
    have c7 : V = true → ∀ (W : World) (C : Option Addr) (k cc : Nat), ROps W C k K → k ≤ cc → Calls Try.prog 46 #[.slice C k cc] W (RetInts W (stI K)) := fun hv W C k cc h hc => by
      have := StampsOf_any C k cc K W h hc
      have hvk : validS K = true := by rw [← hK]; exact validS_committed (hV.trans hv)
      rw [hvk] at this; exact this
    have h1 : V = true → sv = true → T = [stI K] := fun hv h => by
      rw [← hT, hv]
      show timeI s = _
      rw [h] at hsv
      have : isSer K = true := by unfold isSerV at hsv; simp only [Bool.and_eq_true] at hsv; exact hsv.1
      rw [← hK] at this ⊢
      exact time_serial (hV.trans hv) this
    have h2 : V = true → ∀ xs ∈ T, xs ∈ O := fun hv => by
      rw [← hT, hv, ← hO]
      exact time_sub
    have h3 : T.length ≤ 1024 ∧ (V = true → O.length ≤ 1024) := by
      rw [← hT, ← hO]
      refine ⟨?_, fun hv => ?_⟩
      · cases hv : V
        · simp [orNil]
        · have := (ordO_bd (hV.trans hv)).1
          simp only [orNil, if_true] at this ⊢
          unfold timeI
          exact Nat.le_trans (List.length_filter_le _ _) this
      · have := (ordO_bd (hV.trans hv)).1
        simpa only [orNil, if_true] using this
    have C1 := Lib.hid c1
    have C2 := Lib.hid c2
    have C3 := Lib.hid c3
    have C4' := Lib.hid c4
    have C5' := Lib.hid c5
    have C6 := Lib.hid c6
    have C7' := Lib.hid c7
    have H1' := Lib.hid h1
    have H2' := Lib.hid h2
    have H3 := Lib.hid h3
    obtain ⟨N, hN⟩ : ∃ N, T.length = N := ⟨_, rfl⟩
    have HN := Lib.hid hN
    have hN1 : N ≤ 1024 := by have := h3.1; omega
    clear hown HD hR c1 c2 c3 c4 c5 c6 c7 hV hT hK hO hsv h1 h2 h3 hTS hN
    go_wp2_with fail
    refine (C1.out w1 (Below.refl _ _)).mono ?_
    rintro e w2 ⟨P, pc, rv, rfl, hpc, hou, hro, hap, hb2⟩
    rw [HN.out] at hpc hou ⊢
    have HP : Hid (LstsAt w2 P N T ∧ RLists w2 P N T) := ⟨LstsAt.of hou hro HN.out (by omega), RLists.of hou hro HN.out (by omega)⟩
    clear hou hro hap
    go_wp2_with fail
    refine (C2.out w2 hb2).mono ?_
    rintro e w3 ⟨Y, yc, ry, rfl, hyc, houy, hroy, hb3⟩
    rw [HN.out] at hyc houy ⊢
    have hb13 := hb2.trans (hb3.mono hb2.size)
    have HEQ := Lib.hid (equalLists_any P Y N pc yc T w3 (HP.out.1.below hb3) (LstsAt.of houy hroy HN.out (by omega)))
    clear houy hroy
    go_wp2_with fail
    refine HEQ.out.mono ?_
    rintro e w4 ⟨rfl, hb4⟩
    have hb24 := hb3.trans (hb4.mono hb3.size)
    have hb14 := hb2.trans (hb24.mono hb2.size)
    have HCV := Lib.hid (C3.out w4 hb14)
    clear HEQ hb3 hb4 hb13
    cases V
    · go_wp2_with fail
      refine HCV.out.mono ?_
      rintro e w5 ⟨rfl, hb5⟩
      have hb25 := hb24.trans (hb5.mono hb24.size)
      have hb15 := hb2.trans (hb25.mono hb2.size)
      go_wp2_with fail
      refine (C2.out w5 hb15).mono ?_
      rintro e w6 ⟨Z, zc, rz, rfl, hzc, houz, hroz, hb6⟩
      rw [HN.out] at hzc houz ⊢
      have hb26 := hb25.trans (hb6.mono hb25.size)
      have HEQ := Lib.hid (equalLists_any P Z N pc zc T w6 (HP.out.1.below hb26) (LstsAt.of houz hroz HN.out (by omega)))
      clear houz hroz hb6
      go_wp2_with fail
      refine HEQ.out.mono ?_
      rintro e w7 ⟨rfl, hb7⟩
      have hb27 := hb26.trans (hb7.mono hb26.size)
      go_wp2_with fail
      go_ret
      exact ⟨rfl, hb1.trans ((hb2.trans (hb27.mono hb2.size)).mono hb1.size)⟩
    · have C4 := Lib.hid (C4'.out (by trivial))
      have C5 := Lib.hid (C5'.out (by trivial))
      have C7 := Lib.hid (C7'.out (by trivial))
      have H1 := Lib.hid (H1'.out (by trivial))
      have H2 := Lib.hid (H2'.out (by trivial))
      have H3b := Lib.hid (H3.out.2 (by trivial))
      clear C4' C5' C7' H1' H2' H3
      go_wp2_with fail
      refine HCV.out.mono ?_
      rintro e w5 ⟨rfl, hb5⟩
      have hb25 := hb24.trans (hb5.mono hb24.size)
      have hb15 := hb2.trans (hb25.mono hb2.size)
      clear HCV
      go_wp2_with fail
      refine (C5.out w5 hb15).mono ?_
      rintro e w6 ⟨C, cc, rfl, hcc, hfc, hb6⟩
      have HFC := Lib.hid hfc.1
      have hb26 := hb25.trans (hb6.mono hb25.size)
      have hb16 := hb2.trans (hb26.mono hb2.size)
      obtain ⟨k, hk⟩ : ∃ k, K.length = k := ⟨_, rfl⟩
      rw [hk] at hcc HFC ⊢
      clear hfc hb6 hk
      go_wp2_with fail
      refine (C4.out w6 hb16).mono ?_
      rintro e w7 ⟨Q, qc, rq, rfl, hqc, houq, hroq, _, hb7⟩
      have HQ : Hid (RLists w7 Q O.length O) := RLists.of houq hroq rfl (by have := H3b.out; omega)
      obtain ⟨M, hM⟩ : ∃ M, O.length = M := ⟨_, rfl⟩
      rw [hM] at HQ hqc ⊢
      have hb27 := hb26.trans (hb7.mono hb26.size)
      have hb17 := hb2.trans (hb27.mono hb2.size)
      have HAM := Lib.hid (among_any P Q N M pc qc T O w7 (HP.out.2.below hb27 (Nat.le_refl _)) HQ.out H2.out)
      have HFC7 := Lib.hid (HFC.out.below hb7 (Nat.le_refl _))
      clear houq hroq hM hb7 HFC HQ
      go_wp2_with fail
      refine HAM.out.mono ?_
      rintro e w8 ⟨rfl, hb8⟩
      have hb28 := hb27.trans (hb8.mono hb27.size)
      have HFC8 := Lib.hid (HFC7.out.below hb8 (Nat.le_refl _))
      have HCS := Lib.hid (C6.out w8 C k cc HFC8.out hcc)
      clear HAM hb8 HFC7
      go_wp2_with fail
      refine HCS.out.mono ?_
      rintro e w9 ⟨rfl, hb9⟩
      have hb29 := hb28.trans (hb9.mono hb28.size)
      have HFC9 := Lib.hid (HFC8.out.below hb9 (Nat.le_refl _))
      clear hb9 HFC8 HCS
      cases sv
      · go_wp2_with fail
        go_ret
        exact ⟨rfl, hb1.trans ((hb2.trans (hb29.mono hb2.size)).mono hb1.size)⟩
      · have HT := Lib.hid (H1.out (by trivial))
        have HCT := Lib.hid (C7.out w9 C k cc HFC9.out hcc)
        clear H1
        go_wp2_with fail
        refine HCT.out.mono ?_
        rintro e w10 ⟨X, xc, rfl, hxc, hfx, hb10⟩
        have hb210 := hb29.trans (hb10.mono hb29.size)
        have hsx : (stI K).length ≤ xc := hxc
        obtain ⟨wx, hwx⟩ : ∃ wx, wx = w10.alloc (.cells #[.slice X (stI K).length xc] 40) := ⟨_, rfl⟩
        have hbx : Below w10.heap.size w10 wx := by rw [hwx]; exact (Below.refl _ _).alloc (Nat.le_refl _) _
        have hb2x := hb210.trans (hbx.mono hb210.size)
        have HL1 : Hid (LstsAt wx (some ⟨w10.heap.size, 0, none⟩) N T) := by
          have hN1 : N = 1 := by rw [← HN.out, HT.out]; rfl
          subst hN1
          rw [HT.out]
          refine ⟨rfl, by omega, fun _ => ⟨w10.heap.size, 0, rfl, by rw [hwx]; simp, fun i xs hi => ?_⟩⟩
          match i, hi with
          | 0, hi =>
            simp only [List.getElem?_cons_zero, Option.some.injEq] at hi
            subst hi
            exact ⟨X, xc, by rw [hwx]; exact box_at _ _ _ _ _ (by simp), hfx.1.below hbx (Nat.le_refl _)⟩
          | i + 1, hi => simp at hi
        have hN1 : Hid (N = 1) := by show N = 1; rw [← HN.out, HT.out]; rfl
        have HEQ : Hid (Calls Try.prog 43 #[.slice P N pc, .slice (some ⟨w10.heap.size, 0, none⟩) 1 1] wx fun e w' => e = .returned (.bool true) ∧ Below wx.heap.size wx w') := by
          have := equalLists_any P (some ⟨w10.heap.size, 0, none⟩) N pc 1 T wx (HP.out.1.below hb2x) HL1.out
          have e := hN1.out
          subst e
          exact this
        obtain ⟨sl, hsl⟩ : ∃ sl, (stI K).length = sl := ⟨_, rfl⟩
        rw [hsl] at hwx ⊢
        clear hfx HL1 hsl hsx hxc
        go_wp2_with fail
        rw [← hwx]
        refine HEQ.out.mono ?_
        rintro e w11 ⟨rfl, hb11⟩
        have hb211 := hb2x.trans (hb11.mono hb2x.size)
        go_wp2_with fail
        go_ret
        exact ⟨rfl, hb1.trans ((hb2.trans (hb211.mono hb2.size)).mono hb1.size)⟩
end Go.Proofs.Ytkbclcgdkbhgdaa
