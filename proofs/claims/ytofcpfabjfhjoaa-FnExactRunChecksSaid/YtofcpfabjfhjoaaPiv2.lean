/-
  PivotOf of the reference: the walk.
-/
import Derived.Test.YtofcpfabjfhjoaaPiv1
namespace Go.Proofs.Ytofcpfabjfhjoaa
open Go.RowKit Go.BigFrame
set_option linter.unusedVariables false

set_option maxRecDepth 100000 in
set_option maxHeartbeats 4000000 in
theorem sPivotOf_any (A : Option Addr) (n c : Nat) (s : List OpV) (w : World) (hx : ROps w A n s) (hnc : n ≤ c) :
    Calls Try.prog 26 #[.slice A n c] w (RetIntsB w (orNil (validS s) (pivL (pivR (agS4 s) (ovS s)))) (validS s && (pivR (agS4 s) (ovS s)).isSome)) := by
  have HX := Lib.hid hx
  clear hx
  go_enter Try.func26, Try.ntmps26
  go_wp2_with fail
  refine (svalid'_any A n c s w HX.out hnc).mono ?_
  rintro e w1 ⟨rfl, hb1⟩
  cases hv : validS s
  · have HV := Lib.hid hv
    clear hv
    go_wp2_with fail
    go_ret2
    rw [HV.out]
    exact RetIntsB.nil hb1
  · have HV := Lib.hid hv
    clear hv
    have hbw1 := hb1
    go_wp2_with fail
    refine (against_any A n c s w1 (HX.out.below hb1 (Nat.le_refl _)) HV.out).mono ?_
    have hok : Rows4 (agS4 s) := by unfold agS4; exact agTo_ok (survS_rng HV.out) _
    have hlen : (rowsI (agS4 s)).length = 4 := by simp [rowsI, hok.1]
    rintro e w2 ⟨LA, lc, rfl, hlc, ⟨hL, hLf⟩, hb2⟩
    rw [hlen] at hL hlc
    rw [hlen]
    have hbw2 := hbw1.trans (hb2.mono hbw1.size)
    have hCl : ∀ (v : Later w2) (t u : Int), Calls Try.prog 80 #[.slice A n c, .int .i64 t, .int .i64 u] v.1 fun e w' => e = .returned (.bool (ovS s t u)) ∧ Below v.1.heap.size v.1 w' := fun v t u =>
      overlap_any A n c s t u v.1 (HX.out.below (hbw2.trans (v.2.mono hbw2.size)) (Nat.le_refl _))
    have HL := Lib.hid hL
    have HK := Lib.hid hok
    have HCl := Lib.hid hCl
    generalize hR : agS4 s = R at *
    have hpost : Hid (∀ x : Nat, x < 64 → pivX R (ovS s) x = true → (∀ y, y < x → pivX R (ovS s) y = false) → orNil true (pivL (pivR R (ovS s))) = [((x / 16 : Nat) : Int), ((x / 4 % 4 : Nat) : Int), ((x % 4 : Nat) : Int)] ∧ (true && (pivR R (ovS s)).isSome) = true) := by
      intro x h1 h2 h3
      rw [pivR_hit h1 h2 h3]
      exact ⟨rfl, rfl⟩
    have hpost0 : Hid ((∀ y, y < 64 → pivX R (ovS s) y = false) → orNil true (pivL (pivR R (ovS s))) = [] ∧ (true && (pivR R (ovS s)).isSome) = false) := by
      intro h
      rw [pivR_none h]
      exact ⟨rfl, rfl⟩
    clear hL hLf hok hCl hlen hR hb1 hb2 hbw1
    go_wp2_with fail
    go_loopw [5] (fun i wr => ∃ k : Nat, k ≤ 4 ∧ i = .int .i64 k ∧ Below w2.heap.size w2 wr ∧ ∀ y, y < 16 * k → pivX R (ovS s) y = false) (fun i _ => 4 - (intOf i).toNat)
    case atStart => exact ⟨0, by omega, rfl, Below.refl _ _, by omega⟩
    case round =>
      obtain ⟨k, hk, rfl, hbo, hno⟩ := hrel
      by_cases hlt : k < 4
      · have HN := Lib.hid hno
        clear hno
        have hdk : decide ((k : Int) < 4) = true := by simp; omega
        go_wp2_with fail
        obtain ⟨wo, rfl⟩ : ∃ wo : World, wo = wr := ⟨_, rfl⟩
        go_loopw [6] (fun i wr => ∃ j : Nat, j ≤ 4 ∧ i = .int .i64 j ∧ Below w2.heap.size w2 wr ∧ ∀ y, y < 16 * k + 4 * j → pivX R (ovS s) y = false) (fun i _ => 4 - (intOf i).toNat)
        case atStart => exact ⟨0, by omega, rfl, hbo, HN.out⟩
        case round =>
          clear hbo HN
          obtain ⟨j, hj, rfl, hbo, hno⟩ := hrel
          by_cases hlt2 : j < 4
          · have HN := Lib.hid hno
            clear hno
            have hdj : decide ((j : Int) < 4) = true := by simp; omega
            go_wp2_with fail
            obtain ⟨wo2, rfl⟩ : ∃ wo2 : World, wo2 = wr := ⟨_, rfl⟩
            go_loopw [7] (fun i wr => ∃ q : Nat, q ≤ 4 ∧ i = .int .i64 q ∧ Below w2.heap.size w2 wr ∧ ∀ y, y < 16 * k + 4 * j + q → pivX R (ovS s) y = false) (fun i _ => 4 - (intOf i).toNat)
            case atStart => exact ⟨0, by omega, rfl, hbo, HN.out⟩
            case round =>
              clear hbo HN
              obtain ⟨q, hq, rfl, hbr, hno⟩ := hrel
              by_cases hlt3 : q < 4
              · have hdq : decide ((q : Int) < 4) = true := by simp; omega
                have hat : pivX R (ovS s) (16 * k + 4 * j + q) = ((R.getD k 0).testBit j && (R.getD j 0).testBit q && ovS s k j && ovS s j q) := pivX_at hlt2 hlt3
                have hnext : Hid (pivX R (ovS s) (16 * k + 4 * j + q) = false → ∀ y, y < 16 * k + 4 * j + (q + 1) → pivX R (ovS s) y = false) := by
                  intro h y hy
                  by_cases e : y = 16 * k + 4 * j + q
                  · rw [e]; exact h
                  · exact hno y (by omega)
                have hdone : Hid (pivX R (ovS s) (16 * k + 4 * j + q) = true → orNil true (pivL (pivR R (ovS s))) = [(k : Int), (j : Int), (q : Int)] ∧ (true && (pivR R (ovS s)).isSome) = true) := by
                  intro h
                  have := hpost.out _ (by omega) h hno
                  rw [show (16 * k + 4 * j + q) / 16 = k by omega, show (16 * k + 4 * j + q) / 4 % 4 = j by omega, show (16 * k + 4 * j + q) % 4 = q by omega] at this
                  exact this
                obtain ⟨b1, hb1⟩ : ∃ b1, (R.getD k 0).testBit j = b1 := ⟨_, rfl⟩
                obtain ⟨b2, hb2⟩ : ∃ b2, (R.getD j 0).testBit q = b2 := ⟨_, rfl⟩
                obtain ⟨b3, hb3⟩ : ∃ b3, ovS s k j = b3 := ⟨_, rfl⟩
                obtain ⟨b4, hb4⟩ : ∃ b4, ovS s j q = b4 := ⟨_, rfl⟩
                rw [hb1, hb2, hb3, hb4] at hat
                have hrr := HL.out.below hbr (Nat.le_refl _)
                obtain ⟨bo, offo, hA, hbl, ck, hk16⟩ := rowsI_get HK.out hrr hlt
                obtain ⟨bo', offo', hA', _, cj, hj16⟩ := rowsI_get HK.out hrr hlt2
                rw [hA] at hA'
                injection hA' with hA'
                injection hA' with e1 e2 _
                subst e1; subst e2
                have hab1 : ∀ W : World, Calls Try.prog 79 #[.int .i64 ((R.getD k 0 : Nat) : Int), .int .i64 (j : Int)] W fun e w' => e = .returned (.int .i64 (if b1 then 1 else 0)) ∧ W = w' := fun W => by
                  have := sbit_any (R.getD k 0) j W (by omega) (by omega); rw [hb1] at this; exact this
                have hab2 : ∀ W : World, Calls Try.prog 79 #[.int .i64 ((R.getD j 0 : Nat) : Int), .int .i64 (q : Int)] W fun e w' => e = .returned (.int .i64 (if b2 then 1 else 0)) ∧ W = w' := fun W => by
                  have := sbit_any (R.getD j 0) q W (by omega) (by omega); rw [hb2] at this; exact this
                have hc3 : ∀ W : World, Below wr.heap.size wr W → Calls Try.prog 80 #[.slice A n c, .int .i64 (k : Int), .int .i64 (j : Int)] W fun e w' => e = .returned (.bool b3) ∧ Below W.heap.size W w' := fun W hW => by
                  have := HCl.out ⟨W, hbr.trans (hW.mono hbr.size)⟩ k j; rw [hb3] at this; exact this
                have hc4 : ∀ W : World, Below wr.heap.size wr W → Calls Try.prog 80 #[.slice A n c, .int .i64 (j : Int), .int .i64 (q : Int)] W fun e w' => e = .returned (.bool b4) ∧ Below W.heap.size W w' := fun W hW => by
                  have := HCl.out ⟨W, hbr.trans (hW.mono hbr.size)⟩ j q; rw [hb4] at this; exact this
                have HAT := Lib.hid hat
                have HC3 := Lib.hid hc3
                have HC4 := Lib.hid hc4
                subst hA
                clear hno hat hb1 hb2 hb3 hb4 hrr hc3 hc4
                generalize R.getD k 0 = rk at *
                generalize R.getD j 0 = rj at *
                have HB1 := Lib.hid hab1
                have HB2 := Lib.hid hab2
                clear hab1 hab2
                cases b1
                · go_wp2_with fail
                  refine (HB1.out _).mono ?_
                  rintro e wx ⟨rfl, rfl⟩
                  go_wp2_with fail
                  go_roundw
                  case rel => exact ⟨q + 1, by omega, by go_num, hbr, hnext.out (by rw [HAT.out]; rfl)⟩
                  case measure => simp [intOf]; omega
                · cases b2
                  · go_wp2_with fail
                    refine (HB1.out _).mono ?_
                    rintro e wx ⟨rfl, rfl⟩
                    go_wp2_with fail
                    refine (HB2.out _).mono ?_
                    rintro e wx ⟨rfl, rfl⟩
                    go_wp2_with fail
                    go_roundw
                    case rel => exact ⟨q + 1, by omega, by go_num, hbr, hnext.out (by rw [HAT.out]; rfl)⟩
                    case measure => simp [intOf]; omega
                  · go_wp2_with fail
                    refine (HB1.out _).mono ?_
                    rintro e wx ⟨rfl, rfl⟩
                    go_wp2_with fail
                    refine (HB2.out _).mono ?_
                    rintro e wx ⟨rfl, rfl⟩
                    go_wp2_with fail
                    refine (HC3.out wr (Below.refl _ _)).mono ?_
                    rintro e w3 ⟨rfl, hb3⟩
                    cases b3
                    · go_wp2_with fail
                      go_roundw
                      case rel => exact ⟨q + 1, by omega, by go_num, hbr.trans (hb3.mono hbr.size), hnext.out (by rw [HAT.out]; rfl)⟩
                      case measure => simp [intOf]; omega
                    · go_wp2_with fail
                      refine (HC4.out w3 hb3).mono ?_
                      rintro e w4 ⟨rfl, hb4⟩
                      have hbr4 := hbr.trans ((hb3.trans (hb4.mono hb3.size)).mono hbr.size)
                      cases b4
                      · go_wp2_with fail
                        go_roundw
                        case rel => exact ⟨q + 1, by omega, by go_num, hbr4, hnext.out (by rw [HAT.out]; rfl)⟩
                        case measure => simp [intOf]; omega
                      · have HD := Lib.hid (hdone.out (by rw [HAT.out]; rfl))
                        go_wp2_with fail
                        go_ret2
                        rw [HV.out, HD.out.1, HD.out.2]
                        exact RetIntsB.lit rfl (hbw2.trans (hbr4.mono hbw2.size)) [(k : Int), (j : Int), (q : Int)] (by simp)
              · have HN := Lib.hid hno
                clear hno
                go_wp2_with fail
                go_roundw
                case rel => exact ⟨j + 1, by omega, by go_num, hbr, fun y hy => HN.out y (by omega)⟩
                case measure => simp [intOf]; omega
          · have HN := Lib.hid hno
            clear hno
            go_wp2_with fail
            go_roundw
            case rel => exact ⟨k + 1, by omega, by go_num, hbo, fun y hy => HN.out y (by omega)⟩
            case measure => simp [intOf]; omega
      · have HN := Lib.hid (hpost0.out (fun y hy => hno y (by omega)))
        clear hno
        go_wp2_with fail
        go_ret2
        rw [HV.out, HN.out.1, HN.out.2]
        exact RetIntsB.nil (hbw2.trans (hbo.mono hbw2.size))
end Go.Proofs.Ytofcpfabjfhjoaa
