/-
  PivotOf of the program and of the reference: the walks.
-/
import Derived.Test.YtofcpfabjfhjoaaPiv0
namespace Go.Proofs.Ytofcpfabjfhjoaa
open Go.RowKit Go.BigFrame
set_option linter.unusedVariables false

theorem rowsI_get {R : List Nat} (h : Rows4 R) {w : World} {A : Option Addr} (hr : RInts w A 4 (rowsI R)) {t : Nat} (ht : t < 4) : ∃ b off, A = some ⟨b, off, none⟩ ∧ b < w.heap.size ∧ w.cell? ⟨b, off + t, none⟩ = some (.int .i64 ((R.getD t 0 : Nat) : Int)) ∧ R.getD t 0 < 16 := by
  obtain ⟨b, off, x, hA, hb, hx, hc⟩ := hr.at_ (k := t) ht
  have e : R[t]? = some (R[t]'(by have := h.1; omega)) := List.getElem?_eq_getElem _
  have hg : R.getD t 0 = R[t]'(by have := h.1; omega) := by rw [List.getD_eq_getElem?_getD, e]; rfl
  refine ⟨b, off, hA, hb, ?_, by rw [hg]; exact h.2 _ (List.getElem_mem _)⟩
  rw [hc, hg]
  simp only [rowsI, List.getElem?_map, e, Option.map_some, Option.some.injEq] at hx
  rw [hx]

set_option maxRecDepth 100000 in
set_option maxHeartbeats 4000000 in
theorem PivotOf_any (A : Option Addr) (n c : Nat) (s : List OpV) (w : World) (hx : ROps w A n s) (hnc : n ≤ c) :
    Calls Try.prog 28 #[.slice A n c] w (RetIntsB w (orNil (validS s) (pivL (pivR (agI4 s) (ovI s)))) (validS s && (pivR (agI4 s) (ovI s)).isSome)) := by
  have hcl : ∀ W : World, W = w.alloc (.cells #[.slice A n c] 23) → Below w.heap.size w W ∧ ROps W A n s ∧ (∀ u : Later W, u.1.cell? ⟨w.heap.size, 0, none⟩ = some (.slice A n c)) := by
    intro W hW
    have hc : W.cell? ⟨w.heap.size, 0, none⟩ = some (.slice A n c) := by rw [hW]; exact box_at _ _ _ _ _ rfl
    have hb : Below w.heap.size w W := by rw [hW]; exact (Below.refl _ _).alloc (Nat.le_refl _) _
    exact ⟨hb, hx.below hb (Nat.le_refl _), Later.cell hc⟩
  have HC := Lib.hid hcl
  clear hcl hx
  go_enter Try.func28, Try.ntmps28
  go_wp2_with fail
  obtain ⟨W, hW⟩ : ∃ W : World, W = w.alloc (.cells #[.slice A n c] 23) := ⟨_, rfl⟩
  rw [← hW]
  obtain ⟨hbW, hxW, LS⟩ := HC.out W hW
  have HX := Lib.hid hxW
  clear hW HC hxW
  refine (ValidSchedule_any A n c s W HX.out hnc).mono ?_
  rintro e w1 ⟨rfl, hb1⟩
  cases hv : validS s
  · have HV := Lib.hid hv
    clear hv
    go_wp2_with fail
    go_ret2
    rw [HV.out]
    exact RetIntsB.nil (hbW.trans (hb1.mono hbW.size))
  · have HV := Lib.hid hv
    clear hv
    have q1 := LS ⟨w1, hb1⟩
    simp only at q1
    have hbw1 := hbW.trans (hb1.mono hbW.size)
    go_wp2_with fail
    refine (againstOf_any A n c s w1 (HX.out.below hb1 (Nat.le_refl _)) hnc HV.out).mono ?_
    have hok : Rows4 (agI4 s) := by unfold agI4; exact agTo_ok (survI_rng HV.out) _
    have hlen : (rowsI (agI4 s)).length = 4 := by simp [rowsI, hok.1]
    rintro e w2 ⟨LA, lc, rfl, hlc, ⟨hL, hLf⟩, hb2⟩
    rw [hlen] at hL hlc
    rw [hlen]
    have hbw2 := hbw1.trans (hb2.mono hbw1.size)
    have hbWW := hb1.trans (hb2.mono hb1.size)
    have hCl : ∀ (v : Later w2) (t u : Int), Calls Try.prog 83 #[.int .i64 t, .int .i64 u, .pointer (some ⟨w.heap.size, 0, none⟩)] v.1 fun e w' => e = .returned (.bool (ovI s t u)) ∧ Below v.1.heap.size v.1 w' := fun v t u => by
      have hbv := hbWW.trans (v.2.mono hbWW.size)
      exact PivotOf1_any t u A n c _ s v.1 (LS ⟨v.1, hbv⟩) (HX.out.below hbv (Nat.le_refl _))
    have hrun := runs_PivotOf1
    unfold Runs at hrun
    have HL := Lib.hid hL
    have HK := Lib.hid hok
    have HCl := Lib.hid hCl
    generalize hR : agI4 s = R at *
    have hpost : Hid (∀ x : Nat, x < 64 → pivX R (ovI s) x = true → (∀ y, y < x → pivX R (ovI s) y = false) → orNil true (pivL (pivR R (ovI s))) = [((x / 16 : Nat) : Int), ((x / 4 % 4 : Nat) : Int), ((x % 4 : Nat) : Int)] ∧ (true && (pivR R (ovI s)).isSome) = true) := by
      intro x h1 h2 h3
      rw [pivR_hit h1 h2 h3]
      exact ⟨rfl, rfl⟩
    have hpost0 : Hid ((∀ y, y < 64 → pivX R (ovI s) y = false) → orNil true (pivL (pivR R (ovI s))) = [] ∧ (true && (pivR R (ovI s)).isSome) = false) := by
      intro h
      rw [pivR_none h]
      exact ⟨rfl, rfl⟩
    clear hL hLf hok hCl hlen LS q1 hR hb1 hb2 hbw1 hbWW hbW
    go_wp2_with fail
    go_loopw [15] (fun i wr => ∃ k : Nat, k ≤ 4 ∧ i = .int .i64 k ∧ Below w2.heap.size w2 wr ∧ ∀ y, y < 16 * k → pivX R (ovI s) y = false) (fun i _ => 4 - (intOf i).toNat)
    case atStart => exact ⟨0, by omega, rfl, Below.refl _ _, by omega⟩
    case round =>
      obtain ⟨k, hk, rfl, hbo, hno⟩ := hrel
      by_cases hlt : k < 4
      · have HN := Lib.hid hno
        clear hno
        have hdk : decide ((k : Int) < 4) = true := by simp; omega
        go_wp2_with fail
        obtain ⟨wo, rfl⟩ : ∃ wo : World, wo = wr := ⟨_, rfl⟩
        go_loopw [18] (fun i wr => ∃ j : Nat, j ≤ 4 ∧ i = .int .i64 j ∧ Below w2.heap.size w2 wr ∧ ∀ y, y < 16 * k + 4 * j → pivX R (ovI s) y = false) (fun i _ => 4 - (intOf i).toNat)
        case atStart => exact ⟨0, by omega, rfl, hbo, HN.out⟩
        case round =>
          clear hbo HN
          obtain ⟨j, hj, rfl, hbo, hno⟩ := hrel
          by_cases hlt2 : j < 4
          · have HN := Lib.hid hno
            clear hno
            have hdj : decide ((j : Int) < 4) = true := by simp; omega
            go_wp2_with fail
            obtain ⟨wo2, rfl⟩ : ∃ wo2 : World, wo2 = wr := ⟨_, rfl⟩
            go_loopw [21] (fun i wr => ∃ q : Nat, q ≤ 4 ∧ i = .int .i64 q ∧ Below w2.heap.size w2 wr ∧ ∀ y, y < 16 * k + 4 * j + q → pivX R (ovI s) y = false) (fun i _ => 4 - (intOf i).toNat)
            case atStart => exact ⟨0, by omega, rfl, hbo, HN.out⟩
            case round =>
              clear hbo HN
              obtain ⟨q, hq, rfl, hbr, hno⟩ := hrel
              by_cases hlt3 : q < 4
              · have hat : pivX R (ovI s) (16 * k + 4 * j + q) = ((R.getD k 0).testBit j && (R.getD j 0).testBit q && ovI s k j && ovI s j q) := pivX_at hlt2 hlt3
                have hnext : Hid (pivX R (ovI s) (16 * k + 4 * j + q) = false → ∀ y, y < 16 * k + 4 * j + (q + 1) → pivX R (ovI s) y = false) := by
                  intro h y hy
                  by_cases e : y = 16 * k + 4 * j + q
                  · rw [e]; exact h
                  · exact hno y (by omega)
                have hdone : Hid (pivX R (ovI s) (16 * k + 4 * j + q) = true → orNil true (pivL (pivR R (ovI s))) = [(k : Int), (j : Int), (q : Int)] ∧ (true && (pivR R (ovI s)).isSome) = true) := by
                  intro h
                  have := hpost.out _ (by omega) h hno
                  rw [show (16 * k + 4 * j + q) / 16 = k by omega, show (16 * k + 4 * j + q) / 4 % 4 = j by omega, show (16 * k + 4 * j + q) % 4 = q by omega] at this
                  exact this
                obtain ⟨b1, hb1⟩ : ∃ b1, (R.getD k 0).testBit j = b1 := ⟨_, rfl⟩
                obtain ⟨b2, hb2⟩ : ∃ b2, (R.getD j 0).testBit q = b2 := ⟨_, rfl⟩
                obtain ⟨b3, hb3⟩ : ∃ b3, ovI s k j = b3 := ⟨_, rfl⟩
                obtain ⟨b4, hb4⟩ : ∃ b4, ovI s j q = b4 := ⟨_, rfl⟩
                rw [hb1, hb2, hb3, hb4] at hat
                have hrr := HL.out.below hbr (Nat.le_refl _)
                obtain ⟨bo, offo, hA, hbl, ck, hk16⟩ := rowsI_get HK.out hrr hlt
                obtain ⟨bo', offo', hA', _, cj, hj16⟩ := rowsI_get HK.out hrr hlt2
                rw [hA] at hA'
                injection hA' with hA'
                injection hA' with e1 e2 _
                subst e1; subst e2
                have hab1 := and_bit (R.getD k 0) j (by omega)
                have hab2 := and_bit (R.getD j 0) q (by omega)
                rw [hb1] at hab1
                rw [hb2] at hab2
                have hc3 : ∀ W : World, Below wr.heap.size wr W → Calls Try.prog 83 #[.int .i64 (k : Int), .int .i64 (j : Int), .pointer (some ⟨w.heap.size, 0, none⟩)] W fun e w' => e = .returned (.bool b3) ∧ Below W.heap.size W w' := fun W hW => by
                  have := HCl.out ⟨W, hbr.trans (hW.mono hbr.size)⟩ k j; rw [hb3] at this; exact this
                have hc4 : ∀ W : World, Below wr.heap.size wr W → Calls Try.prog 83 #[.int .i64 (j : Int), .int .i64 (q : Int), .pointer (some ⟨w.heap.size, 0, none⟩)] W fun e w' => e = .returned (.bool b4) ∧ Below W.heap.size W w' := fun W hW => by
                  have := HCl.out ⟨W, hbr.trans (hW.mono hbr.size)⟩ j q; rw [hb4] at this; exact this
                have HAT := Lib.hid hat
                have HC3 := Lib.hid hc3
                have HC4 := Lib.hid hc4
                subst hA
                clear hno hat hb1 hb2 hb3 hb4 hrr hc3 hc4
                generalize R.getD k 0 = rk at *
                generalize R.getD j 0 = rj at *
                cases b1
                · go_wp2_with fail
                  go_roundw
                  case rel => exact ⟨q + 1, by omega, by go_num, hbr, hnext.out (by rw [HAT.out]; rfl)⟩
                  case measure => simp [intOf]; omega
                · cases b2
                  · go_wp2_with fail
                    go_roundw
                    case rel => exact ⟨q + 1, by omega, by go_num, hbr, hnext.out (by rw [HAT.out]; rfl)⟩
                    case measure => simp [intOf]; omega
                  · go_wp2_with fail
                    refine (HC3.out wr (Below.refl _ _)).mono ?_
                    rintro e w3 ⟨rfl, hb3⟩
                    cases b3
                    · go_wp2_with fail
                      go_roundw
                      case rel => exact ⟨q + 1, by omega, by go_num, hbr.trans (hb3.mono hbr.size), hnext.out (by rw [HAT.out]; rfl)⟩
                      case measure => simp [intOf]; omega
                    · go_wp2_with fail
                      refine (HC4.out w3 hb3).mono ?_
                      rintro e w4 ⟨rfl, hb4⟩
                      have hbr4 := hbr.trans ((hb3.trans (hb4.mono hb3.size)).mono hbr.size)
                      cases b4
                      · go_wp2_with fail
                        go_roundw
                        case rel => exact ⟨q + 1, by omega, by go_num, hbr4, hnext.out (by rw [HAT.out]; rfl)⟩
                        case measure => simp [intOf]; omega
                      · have HD := Lib.hid (hdone.out (by rw [HAT.out]; rfl))
                        go_wp2_with fail
                        go_ret2
                        rw [HV.out, HD.out.1, HD.out.2]
                        exact RetIntsB.lit rfl (hbw2.trans (hbr4.mono hbw2.size)) [(k : Int), (j : Int), (q : Int)] (by simp)
              · have HN := Lib.hid hno
                clear hno
                go_wp2_with fail
                go_roundw
                case rel => exact ⟨j + 1, by omega, by go_num, hbr, fun y hy => HN.out y (by omega)⟩
                case measure => simp [intOf]; omega
          · have HN := Lib.hid hno
            clear hno
            go_wp2_with fail
            go_roundw
            case rel => exact ⟨k + 1, by omega, by go_num, hbo, fun y hy => HN.out y (by omega)⟩
            case measure => simp [intOf]; omega
      · have HN := Lib.hid (hpost0.out (fun y hy => hno y (by omega)))
        clear hno
        go_wp2_with fail
        go_ret2
        rw [HV.out, HN.out.1, HN.out.2]
        exact RetIntsB.nil (hbw2.trans (hbo.mono hbw2.size))
end Go.Proofs.Ytofcpfabjfhjoaa
