/-
  The walk of the law FnHeldAt: whatever the input, it returns true and changes nothing.
-/
import Derived.Test.YtcakjhappchlmaaQHlaLkT2
import Derived.Test.YtcakjhappchlmaaPkLkA
namespace Go.Proofs.Ytcakjhappchlmaa
open Go.RowKit Go.BigFrame
set_option linter.unusedVariables false

/-- Steps, and three integers, are drawn. -/
def DrawnSt3 (w : World) (e : Ending) (w' : World) : Prop := ∃ (A : Option Addr) (m c : Nat) (xs : List OpV) (i t x : Int), e = .returned (.tuple #[.slice A m c, .int .i64 i, .int .i64 t, .int .i64 x]) ∧ ROps w' A m xs ∧ m ≤ 40 ∧ m ≤ c ∧ Below w.heap.size w w'
set_option maxHeartbeats 1000000 in
theorem DrawHeldAt_any (A : Option Addr) (n c : Nat) (w : World) (hx : RBytes w A n) (hc : n ≤ c) :
    Calls Try.prog 18 #[.slice A n c] w (DrawnSt3 w) := by
  go_enter Try.func18, Try.ntmps18
  go_wp2_with fail
  refine (newReader_any A n c w hx hc).mono ?_
  rintro e w1 ⟨rb, rfl, hrb, hr, hb⟩
  have hlt1 := hr.lt
  go_wp2_with fail
  refine (someSteps_any rb 0 w1 hr (by omega)).mono ?_
  rintro e w2 ⟨A', m', c', p', xs, rfl, hmc, hm, hx', hr2, hp2, hO, hfar⟩
  have hw2 : m' + 1 ≤ 41 := by omega
  have HX := Lib.hid hx'
  have HF := Lib.hid hfar
  clear hx' hfar
  go_wp2_with fail
  refine (pick_any rb p' _ w2 hr2 (by omega) (by omega)).mono ?_
  rintro e w3 ⟨v3, rfl, hr3, _, _, ho3⟩
  go_wp2_with fail
  refine (pick_any rb (p' + 1) _ w3 hr3 (by omega) (by omega)).mono ?_
  rintro e w4 ⟨v4, rfl, hr4, _, _, ho4⟩
  have hlt4 := hr4.lt
  go_wp2_with fail
  refine (one_any rb (p' + 1 + 1) _ 4 4 [(m' : Int), v3, v4, -1] _ (hr4.alloc _) (by omega) (lit4 rfl _ _ _ _) (by omega) (far_lit hlt4)).mono ?_
  rintro e w5 ⟨v5, rfl, _, hr5, ho5⟩
  have hlt5 := hr5.lt
  go_wp2_with fail
  refine (one_any rb (p' + 1 + 1 + 1) _ 4 4 [0, 1, 2, 4] _ (hr5.alloc _) (by omega) (lit4 rfl _ _ _ _) (by omega) (far_lit hlt5)).mono ?_
  rintro e w6 ⟨v6, rfl, _, hr6, ho6⟩
  have hlt6 := hr6.lt
  go_wp2_with fail
  refine (one_any rb (p' + 1 + 1 + 1 + 1) _ 4 4 [0, 1, 2, 3] _ (hr6.alloc _) (by omega) (lit4 rfl _ _ _ _) (by omega) (far_lit hlt6)).mono ?_
  rintro e w7 ⟨v7, rfl, _, hr7, ho7⟩
  have hO7 : Only rb w2 w7 := ((((((ho3.trans ho4).alloc _).trans ho5).alloc _).trans ho6).alloc _).trans ho7
  have hs := hb.size
  have hOO := hO.trans hO7
  have hE : Hid (DrawnSt3 w (.returned (.tuple #[.slice A' m' c', .int .i64 v5, .int .i64 v6, .int .i64 v7])) w7) :=
    ⟨A', m', c', xs, v5, v6, v7, rfl, HX.out.grown hO7 (fun ad had e => by injection e with e; have := HF.out ad had; omega), hm, hmc, hb.trans ⟨hOO.os, hOO.tape, hOO.output, hOO.size, fun k hk => hOO.heap (by omega) (by omega)⟩⟩
  go_wp2_with fail
  refine bodyPost_ret (v := .tuple #[.slice A' m' c', .int .i64 v5, .int .i64 v6, .int .i64 v7]) (by simp [results, Try.results18, go_sem]) rfl ?_
  exact hE.out

set_option maxRecDepth 100000 in
set_option maxHeartbeats 4000000 in
theorem law_heldAt (A : Option Addr) (n c : Nat) (w : World) (hin : BytesIn w A n c) :
    Calls Try.prog 4 #[.slice A n c] w fun e w' => e = .returned (.bool true) ∧ Below w.heap.size w w' := by
  obtain ⟨hx, hnc⟩ := hin
  have hn := hx.1
  by_cases hbig : 1048576 < n
  · clear hx
    go_enter Try.func4, Try.ntmps4
    go_wp2_with fail
    go_ret
    exact ⟨rfl, Below.refl _ _⟩
  · have HD := Lib.hid (DrawHeldAt_any A n c w hx hnc)
    clear hx
    go_enter Try.func4, Try.ntmps4
    go_wp2_with fail
    refine HD.out.mono ?_
    rintro e w1 ⟨S, m, d, st, i, t, x, rfl, hS, hm, hmd, hb1⟩
    have HS := Lib.hid hS
    have hlen := hS.1
    obtain ⟨bv, hbv⟩ : ∃ b, validL st = b := ⟨_, rfl⟩
    obtain ⟨h, hh⟩ : ∃ h, heldV st i t x = h := ⟨_, rfl⟩
    have c1 : ∀ W : World, Below w1.heap.size w1 W → Calls Try.prog 19 #[.slice S m d, .int .i64 i, .int .i64 t, .int .i64 x] W fun e w' => e = .returned (.int .i64 h) ∧ Below W.heap.size W w' := fun W hW => by
      have := HeldAt_any S m d st i t x W (HS.out.below hW (Nat.le_refl _)) hmd; rw [hh] at this; exact this
    have c2 : ∀ W : World, Below w1.heap.size w1 W → Calls Try.prog 20 #[.slice S m d, .int .i64 i, .int .i64 t, .int .i64 x] W fun e w' => e = .returned (.int .i64 h) ∧ Below W.heap.size W w' := fun W hW => by
      have := sHeldAt_any S m d st i t x W (HS.out.below hW (Nat.le_refl _)); rw [hh] at this; exact this
    have c3 : ∀ W : World, Below w1.heap.size w1 W → Calls Try.prog 16 #[.slice S m d] W fun e w' => e = .returned (.bool bv) ∧ Below W.heap.size W w' := fun W hW => by
      have := ValidSteps_any S m d st W (HS.out.below hW (Nat.le_refl _)); rw [hbv] at this; exact this
    have c4 : ∀ W : World, Below w1.heap.size w1 W → Calls Try.prog 19 #[.slice S m d, .int .i64 (i - 1), .int .i64 t, .int .i64 x] W fun e w' => e = .returned (.int .i64 (heldV st (i - 1) t x)) ∧ Below W.heap.size W w' := fun W hW => by
      exact HeldAt_any S m d st (i - 1) t x W (HS.out.below hW (Nat.le_refl _)) hmd
    have C1 := Lib.hid c1
    have C2 := Lib.hid c2
    have C3 := Lib.hid c3
    have C4 := Lib.hid c4
    have HBV := Lib.hid hbv
    have HH := Lib.hid hh
    have hs1 := hb1.size
    clear HD c1 c2 c3 c4 hbv hS hh
    go_wp2_with fail
    refine (C1.out w1 (Below.refl _ _)).mono ?_
    rintro e w2 ⟨rfl, hb2⟩
    have hs2 := hb2.size
    go_wp2_with fail
    refine (C2.out w2 hb2).mono ?_
    rintro e w3 ⟨rfl, hb3'⟩
    have hb3 := hb2.trans (hb3'.mono hs2)
    have hs3 := hb3.size
    have hhh : (h == h) = true := by simp
    go_wp2_with fail
    refine (C3.out w3 hb3).mono ?_
    rintro e w4 ⟨rfl, hb4'⟩
    have hb4 := hb3.trans (hb4'.mono hs3)
    have hs4 := hb4.size
    by_cases hgood : bv = true ∧ 1 ≤ i ∧ i ≤ m
    · obtain ⟨rfl, hi1, him⟩ := hgood
      obtain ⟨k, hik⟩ : ∃ k : Nat, i = (k : Int) + 1 := ⟨(i - 1).toNat, by omega⟩
      have hk : k < m := by omega
      obtain ⟨bs, os, o, hA, hbl, ho, c0, c1, c2⟩ := (HS.out.below hb4 (Nat.le_refl _)).at_ hk
      subst hA
      have hv := (validL_iff.1 HBV.out).2
      have e1 : heldV st i t x = heldI (st.take (k + 1)) t x := by
        rw [hik, show (k : Int) + 1 = ((k + 1 : Nat) : Int) by omega]
        unfold heldV
        rw [HBV.out, hlen, show inR ((k + 1 : Nat) : Int) 0 (m : Int) = true from inR_iff.2 ⟨by omega, by omega⟩, Int.toNat_natCast]
        rfl
      have e2 : heldV st (k : Int) t x = heldI (st.take k) t x := by
        unfold heldV
        rw [HBV.out, hlen, show inR (k : Int) 0 (m : Int) = true from inR_iff.2 ⟨by omega, by omega⟩, Int.toNat_natCast]
        rfl
      obtain ⟨l1, l2⟩ := heldAt_law hv ho t x
      rw [← e1, ← e2, HH.out] at l1
      rw [← e1, HH.out] at l2
      obtain ⟨h', hh'⟩ : ∃ z, heldV st (k : Int) t x = z := ⟨_, rfl⟩
      rw [hh'] at l1
      have c5 : ∀ W : World, Below w1.heap.size w1 W → Calls Try.prog 19 #[.slice (some ⟨bs, os, none⟩) m d, .int .i64 (k : Int), .int .i64 t, .int .i64 x] W fun e w' => e = .returned (.int .i64 h') ∧ Below W.heap.size W w' := fun W hW => by
        have := HeldAt_any (some ⟨bs, os, none⟩) m d st (k : Int) t x W (HS.out.below hW (Nat.le_refl _)) hmd; rw [hh'] at this; exact this
      have C5 := Lib.hid c5
      obtain ⟨tx, kd, it⟩ := o
      simp only at l1 l2 c0 c1 c2
      have L1 := Lib.hid l1
      have L2 := Lib.hid l2
      have hki : i - 1 = (k : Int) := by omega
      have hi1' : ¬ i < 1 := by omega
      have him' : ¬ (m : Int) < i := by omega
      have hkm : (k : Int) < (m : Int) := by omega
      have hk0 : (0 : Int) ≤ (k : Int) := by omega
      clear e1 e2 ho hv c5 hh' l1 l2 hik C4 C2 C1 C3
      by_cases ht : tx = t
      · subst ht
        by_cases hxx : it = x
        · subst hxx
          by_cases hk3 : 3 ≤ kd
          · have hl := L1.out (.inr (.inr hk3))
            subst hl
            have hhh2 : (h == h) = true := by simp
            go_wp2_with fail
            have hbo : Below w4.heap.size w4 (w4.alloc (.cells #[.int .i64 tx, .int .i64 kd, .int .i64 it] 31)) := (Below.refl _ _).alloc (Nat.le_refl _) _
            refine (C5.out _ (hb4.trans (hbo.mono hs4))).mono ?_
            rintro e w6 ⟨rfl, hb6⟩
            have hbz := hbo.trans (hb6.mono hbo.size)
            clear hbo
            go_wp2_with fail
            go_ret
            exact ⟨by first | rfl | (exact ret_bool (by simp)), hb1.trans ((hb4.trans (hbz.mono hs4)).mono hs1)⟩
          · have hl := L2.out (by omega)
            by_cases hk2 : kd = 2
            · by_cases hm1 : h = -1
              · subst hk2; subst hm1
                go_wp2_with fail
                go_ret
                exact ⟨by first | rfl | (exact ret_bool (by simp)), by first | exact hb1.trans ((hb4.trans ((Below.refl _ _).alloc (Nat.le_refl _) _ |>.mono hs4)).mono hs1)⟩
              · have hkh : kd = h := by rcases hl with ⟨_, h2⟩ | h2; exact absurd h2 hm1; exact h2
                have hhm : (h == -1) = false := by simp [hm1]
                subst hkh
                have hkb : (kd == 2) = true := by simp [hk2]
                clear hk2 hl L1 L2
                go_wp2_with fail
                go_ret
                exact ⟨by first | rfl | (exact ret_bool (by simp)), by first | exact hb1.trans ((hb4.trans ((Below.refl _ _).alloc (Nat.le_refl _) _ |>.mono hs4)).mono hs1)⟩
            · have hkh : kd = h := by rcases hl with ⟨h2, _⟩ | h2; exact absurd h2 hk2; exact h2
              have hkb : (kd == 2) = false := by simp [hk2]
              subst hkh
              clear hl L1 L2
              go_wp2_with fail
              go_ret
              exact ⟨by first | rfl | (exact ret_bool (by simp)), by first | exact hb1.trans ((hb4.trans ((Below.refl _ _).alloc (Nat.le_refl _) _ |>.mono hs4)).mono hs1)⟩
        · have hl := L1.out (.inr (.inl hxx))
          subst hl
          have hhh2 : (h == h) = true := by simp
          go_wp2_with fail
          have hbo : Below w4.heap.size w4 (w4.alloc (.cells #[.int .i64 tx, .int .i64 kd, .int .i64 it] 31)) := (Below.refl _ _).alloc (Nat.le_refl _) _
          refine (C5.out _ (hb4.trans (hbo.mono hs4))).mono ?_
          rintro e w6 ⟨rfl, hb6⟩
          have hbz := hbo.trans (hb6.mono hbo.size)
          clear hbo
          go_wp2_with fail
          go_ret
          exact ⟨by first | rfl | (exact ret_bool (by simp)), hb1.trans ((hb4.trans (hbz.mono hs4)).mono hs1)⟩
      · have hl := L1.out (.inl ht)
        subst hl
        have hhh2 : (h == h) = true := by simp
        go_wp2_with fail
        have hbo : Below w4.heap.size w4 (w4.alloc (.cells #[.int .i64 tx, .int .i64 kd, .int .i64 it] 31)) := (Below.refl _ _).alloc (Nat.le_refl _) _
        refine (C5.out _ (hb4.trans (hbo.mono hs4))).mono ?_
        rintro e w6 ⟨rfl, hb6⟩
        have hbz := hbo.trans (hb6.mono hbo.size)
        clear hbo
        go_wp2_with fail
        go_ret
        exact ⟨by first | rfl | (exact ret_bool (by simp)), hb1.trans ((hb4.trans (hbz.mono hs4)).mono hs1)⟩
    · have hor : bv = false ∨ (bv = true ∧ (i < 1 ∨ (m : Int) < i)) := by
        cases bv
        · exact .inl rfl
        · refine .inr ⟨rfl, ?_⟩
          rcases Int.lt_or_le i 1 with h | h
          · exact .inl h
          · rcases Int.lt_or_le (m : Int) i with h2 | h2
            · exact .inr h2
            · exact absurd ⟨rfl, h, h2⟩ hgood
      rcases hor with rfl | ⟨rfl, hi | hi⟩
      · go_wp2_with fail
        refine (C2.out w4 hb4).mono ?_
        rintro e w5 ⟨rfl, hb5⟩
        go_wp2_with fail
        go_ret
        exact ⟨rfl, hb1.trans ((hb4.trans (hb5.mono hs4)).mono hs1)⟩
      · go_wp2_with fail
        refine (C2.out w4 hb4).mono ?_
        rintro e w5 ⟨rfl, hb5⟩
        go_wp2_with fail
        go_ret
        exact ⟨rfl, hb1.trans ((hb4.trans (hb5.mono hs4)).mono hs1)⟩
      · have hi1 : ¬ i < 1 := by omega
        go_wp2_with fail
        refine (C2.out w4 hb4).mono ?_
        rintro e w5 ⟨rfl, hb5⟩
        go_wp2_with fail
        go_ret
        exact ⟨rfl, hb1.trans ((hb4.trans (hb5.mono hs4)).mono hs1)⟩
end Go.Proofs.Ytcakjhappchlmaa
