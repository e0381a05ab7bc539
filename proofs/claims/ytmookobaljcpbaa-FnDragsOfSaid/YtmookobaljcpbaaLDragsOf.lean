/-
  The walk of the law FnDragsOf: whatever the input, it returns true and changes nothing.
-/
import Derived.Test.YtmookobaljcpbaaDragL0
import Derived.Test.YtmookobaljcpbaaDrag5
import Derived.Test.YtmookobaljcpbaaOnly0
import Derived.Test.YtmookobaljcpbaaOpen0
namespace Go.Proofs.Ytmookobaljcpbaa
open Go.RowKit Go.BigFrame
set_option linter.unusedVariables false

set_option maxRecDepth 100000 in
set_option maxHeartbeats 2000000 in
theorem law_dragsOf (A : Option Addr) (n c : Nat) (w : World) (hin : BytesIn w A n c) :
    Calls Try.prog 8 #[.slice A n c] w fun e w' => e = .returned (.bool true) ∧ Below w.heap.size w w' := by
  obtain ⟨hx, hnc⟩ := hin
  have hn := hx.1
  by_cases hbig : 1048576 < n
  · clear hx
    go_enter Try.func8, Try.ntmps8
    go_wp2_with fail
    go_ret
    exact ⟨rfl, Below.refl _ _⟩
  · have HD := Lib.hid (DrawDragsOf_any A n c w hx hnc)
    clear hx
    go_enter Try.func8, Try.ntmps8
    go_wp2_with fail
    refine HD.out.mono ?_
    rintro e w1 ⟨S, m, d, s, t, rfl, hown, hm, hb1⟩
    have hmd : m ≤ d := by obtain ⟨A', c', he, h⟩ := own_form2 hown; injection he with _ _ he; omega
    have hR : ∀ W, Below w1.heap.size w1 W → ROps W S m s := fun W h => (ROps.of_own hown (by omega)).below h (Nat.le_refl _)
    have HR := Lib.hid hR
    obtain ⟨ys, hys⟩ : ∃ ys, orNil (validS s) (dragL s t) = ys := ⟨_, rfl⟩
    obtain ⟨bb, hbb⟩ : ∃ bb, (validS s && dragB s t) = bb := ⟨_, rfl⟩
    obtain ⟨V, hV⟩ : ∃ V, validS s = V := ⟨_, rfl⟩
    obtain ⟨E, hE⟩ : ∃ E, endOfV s t = E := ⟨_, rfl⟩
    obtain ⟨K1, hK1⟩ : ∃ K, (validS s && faultZ (recB s) s.length == -1) = K := ⟨_, rfl⟩
    obtain ⟨K2, hK2⟩ : ∃ K, (validS s && faultZ (casB s) s.length == -1) = K := ⟨_, rfl⟩
    have hasc : ys.Pairwise fun a b => a < b := by
      rw [← hys]; unfold orNil; split
      · exact drag_asc s t
      · exact List.Pairwise.nil
    have hnot : (ys.any fun y => y == t) = false := by
      rw [← hys]; unfold orNil; split
      · exact drag_not s t
      · rfl
    have hr1 : V = true → ¬ E = 2 → bb = false → K1 = false := fun h1 h2 h3 => by
      rw [← hK1, hV, h1]
      cases hf : faultZ (recB s) s.length == -1
      · rfl
      · have hv := hV.trans h1
        have hE2 : endOf s t ≠ 2 := by rw [← hE] at h2; unfold endOfV at h2; rw [hv] at h2; exact h2
        have := drag_rec hv (by simpa using hf) hE2
        rw [this, hv] at hbb
        rw [← hbb] at h3; cases h3
    have hr2 : V = true → ¬ E = 2 → ys.length ≠ 0 → K2 = false := fun h1 h2 h3 => by
      rw [← hK2, hV, h1]
      cases hf : faultZ (casB s) s.length == -1
      · rfl
      · have hv := hV.trans h1
        have hE2 : endOf s t ≠ 2 := by rw [← hE] at h2; unfold endOfV at h2; rw [hv] at h2; exact h2
        have := drag_cas (t := t) (by simpa using hf) hE2
        rw [this] at hys
        exfalso
        apply h3
        rw [← hys, hv]; rfl
    have c1 : ∀ W : World, Below w1.heap.size w1 W → Calls Try.prog 33 #[.slice S m d, .int .i64 t] W (RetIntsB W ys bb) := fun W h => by
      have := DragsOf_any S m d s t W (hR W h) hmd; rw [hys, hbb] at this; exact this
    have c2 : ∀ W : World, Below w1.heap.size w1 W → Calls Try.prog 32 #[.slice S m d, .int .i64 t] W (RetIntsB W ys bb) := fun W h => by
      have := sDragsOf_any S m d s t W (hR W h); rw [hys, hbb] at this; exact this
    have c3 : ∀ W : World, Below w1.heap.size w1 W → Calls Try.prog 12 #[.slice S m d] W fun e w' => e = .returned (.bool V) ∧ Below W.heap.size W w' := fun W h => by
      have := ValidSchedule_any S m d s W (hR W h) hmd; rw [hV] at this; exact this
    have c4 : ∀ W : World, Below w1.heap.size w1 W → Calls Try.prog 36 #[.slice S m d, .int .i64 t] W fun e w' => e = .returned (.int .i64 E) ∧ Below W.heap.size W w' := fun W h => by
      have := EndOf_any S m d s t W (hR W h) hmd; rw [hE] at this; exact this
    have c5 : ∀ W : World, Below w1.heap.size w1 W → Calls Try.prog 39 #[.string { data := #[114, 101, 99, 111, 118, 101, 114, 97, 98, 108, 101] }, .slice S m d] W fun e w' => e = .returned (.bool K1) ∧ Below W.heap.size W w' := fun W h => by
      have := keepsRec_any S m d s W (hR W h) hmd; rw [hK1] at this; exact this
    have c6 : ∀ W : World, Below w1.heap.size w1 W → Calls Try.prog 39 #[.string { data := #[99, 97, 115, 99, 97, 100, 101, 115] }, .slice S m d] W fun e w' => e = .returned (.bool K2) ∧ Below W.heap.size W w' := fun W h => by
      have := keepsCas_any S m d s W (hR W h) hmd; rw [hK2] at this; exact this
    have C1 := Lib.hid c1
    have C2 := Lib.hid c2
    have C3 := Lib.hid c3
    have C4 := Lib.hid c4
    have C5 := Lib.hid c5
    have C6 := Lib.hid c6
    have HASC := Lib.hid hasc
    have HNOT := Lib.hid hnot
    have HR1 := Lib.hid hr1
    have HR2 := Lib.hid hr2
    clear hown HD hR c1 c2 c3 c4 c5 c6 hys hbb hV hE hK1 hK2 hasc hnot hr1 hr2
    go_wp2_with fail
    refine (C1.out w1 (Below.refl _ _)).mono ?_
    rintro e w2 ⟨O, oc, rfl, hoc, ⟨hro, _⟩, hb2⟩
    have hO : ∀ W, Below w2.heap.size w2 W → RInts W O ys.length ys := fun W h => hro.below h (Nat.le_refl _)
    have HO := Lib.hid hO
    clear hro hO
    go_wp2_with fail
    refine (C2.out w2 hb2).mono ?_
    rintro e w3 ⟨O3, c3, rfl, hc3, ⟨hr3, _⟩, hb3⟩
    have hb13 := hb2.trans (hb3.mono hb2.size)
    have hE3 := Lib.hid (equalInts_any O O3 _ _ oc c3 ys ys w3 (HO.out w3 hb3) hr3)
    rw [beq_self_eq_true] at hE3
    have hE4 : ∀ W, Below w3.heap.size w3 W → Calls Try.prog 17 #[.slice O ys.length oc, .slice O3 ys.length c3] W fun e w' => e = .returned (.bool true) ∧ Below W.heap.size W w' := fun W h => by
      have := equalInts_any O O3 _ _ oc c3 ys ys W (HO.out W (hb3.trans (h.mono hb3.size))) (hr3.below h (Nat.le_refl _))
      rw [beq_self_eq_true] at this; exact this
    have HE4 := Lib.hid hE4
    clear hE4 hr3
    go_wp2_with fail
    refine hE3.out.mono ?_
    rintro e w4 ⟨rfl, hb4⟩
    have hb14 := hb13.trans (hb4.mono hb13.size)
    clear hE3
    go_wp2_with fail
    refine (C3.out w4 hb14).mono ?_
    rintro e w5 ⟨rfl, hb5⟩
    have hb15 := hb14.trans (hb5.mono hb14.size)
    cases V
    · go_wp2_with fail
      refine (HE4.out w5 (hb4.trans (hb5.mono hb4.size))).mono ?_
      rintro e w6 ⟨rfl, hb6⟩
      go_wp2_with fail
      go_ret
      exact ⟨rfl, hb1.trans ((hb15.trans (hb6.mono hb15.size)).mono hb1.size)⟩
    · have hb25 := hb3.trans ((hb4.trans (hb5.mono hb4.size)).mono hb3.size)
      clear hb2 hb3 hb4 hb5 hb13 hb14
      go_wp2_with fail
      refine (C4.out w5 hb15).mono ?_
      rintro e w6 ⟨rfl, hb6⟩
      have hb16 := hb15.trans (hb6.mono hb15.size)
      have hb26 := hb25.trans (hb6.mono hb25.size)
      by_cases hE2 : E = 2
      · subst hE2
        go_wp2_with fail
        refine (ascends_true O _ oc ys w6 (HO.out w6 hb26) HASC.out).mono ?_
        rintro e w7 ⟨rfl, hb7⟩
        have hb17 := hb16.trans (hb7.mono hb16.size)
        have hI := isIn_any O _ oc ys t w7 (HO.out w7 (hb26.trans (hb7.mono hb26.size)))
        rw [HNOT.out] at hI
        have HI := Lib.hid hI
        clear hI
        go_wp2_with fail
        refine HI.out.mono ?_
        rintro e w8 ⟨rfl, hb8⟩
        go_wp2_with fail
        go_ret
        exact ⟨rfl, hb1.trans ((hb17.trans (hb8.mono hb17.size)).mono hb1.size)⟩
      · have hE2' : (E == 2) = false := by simpa using hE2
        have HK1 := Lib.hid (HR1.out (by trivial) hE2)
        have HK2 := Lib.hid (HR2.out (by trivial) hE2)
        clear HR1 HR2
        go_wp2_with fail
        refine (ascends_true O _ oc ys w6 (HO.out w6 hb26) HASC.out).mono ?_
        rintro e w7 ⟨rfl, hb7⟩
        have hb17 := hb16.trans (hb7.mono hb16.size)
        have hI := isIn_any O _ oc ys t w7 (HO.out w7 (hb26.trans (hb7.mono hb26.size)))
        rw [HNOT.out] at hI
        have HI := Lib.hid hI
        clear hI
        go_wp2_with fail
        refine HI.out.mono ?_
        rintro e w8 ⟨rfl, hb8⟩
        have hb18 := hb17.trans (hb8.mono hb17.size)
        by_cases hy : ys.length = 0
        · obtain rfl : ys = [] := List.eq_nil_of_length_eq_zero hy
          clear hy HK2
          cases bb
          · have hk := HK1.out (by trivial)
            subst hk
            go_wp2_with fail
            refine (C5.out w8 hb18).mono ?_
            rintro e w9 ⟨rfl, hb9⟩
            go_wp2_with fail
            go_ret
            exact ⟨rfl, hb1.trans ((hb18.trans (hb9.mono hb18.size)).mono hb1.size)⟩
          · go_wp2_with fail
            go_ret
            exact ⟨rfl, hb1.trans (hb18.mono hb1.size)⟩
        · have hk2 := HK2.out hy
          subst hk2
          have hy0 : ((ys.length : Int) == 0) = false := by rw [beq_eq_false_iff_ne]; omega
          clear hy HK2
          cases bb
          · have hk := HK1.out (by trivial)
            subst hk
            go_wp2_with fail
            refine (C5.out w8 hb18).mono ?_
            rintro e w9 ⟨rfl, hb9⟩
            have hb19 := hb18.trans (hb9.mono hb18.size)
            go_wp2_with fail
            refine (C6.out w9 hb19).mono ?_
            rintro e w10 ⟨rfl, hb10⟩
            go_wp2_with fail
            go_ret
            exact ⟨rfl, hb1.trans ((hb19.trans (hb10.mono hb19.size)).mono hb1.size)⟩
          · go_wp2_with fail
            refine (C6.out w8 hb18).mono ?_
            rintro e w9 ⟨rfl, hb9⟩
            go_wp2_with fail
            go_ret
            exact ⟨rfl, hb1.trans ((hb18.trans (hb9.mono hb18.size)).mono hb1.size)⟩
end Go.Proofs.Ytmookobaljcpbaa
