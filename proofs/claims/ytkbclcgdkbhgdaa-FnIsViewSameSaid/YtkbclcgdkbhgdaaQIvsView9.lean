/-
  finals of the reference: the walk.
-/
import Derived.Test.YtkbclcgdkbhgdaaQIvsView8
import Derived.Test.YtkbclcgdkbhgdaaPkOrdX2
namespace Go.Proofs.Ytkbclcgdkbhgdaa
open Go.RowKit Go.BigFrame
set_option linter.unusedVariables false

theorem finI_take {s : List OpV} {x : Nat} (h : x < 3) : (finI s).take (x + 1) = (finI s).take x ++ [lw (fnB s (x : Int)) s s.length] := by
  unfold finI
  rcases (by omega : x = 0 ∨ x = 1 ∨ x = 2) with rfl | rfl | rfl <;> rfl

set_option maxRecDepth 100000 in
set_option maxHeartbeats 1000000 in
theorem sfinals_any (A : Option Addr) (n c : Nat) (s : List OpV) (w : World) (hx : ROps w A n s) :
    Calls Try.prog 107 #[.slice A n c] w (RetInts w (finI s)) := by
  have hn := hx.2.1
  have hl := hx.1
  have HX := Lib.hid hx
  have HL := Lib.hid hl
  clear hx hl
  have HST : Hid ((w.alloc (.cells #[] 3)).ownsRow w.heap.size 3 1 (.slice (some ⟨w.heap.size, 0, none⟩) 0 0) 0 (intCells ((finI s).take 0))) :=
    World.ownsRow_made w #[] 0 (Nat.le_refl _) (by decide) rfl
  go_enter Try.func107, Try.ntmps107
  go_wp2_with fail
  go_loopw [3, 4] (fun ov i wr => ∃ x : Nat, x ≤ 3 ∧ i = .int .i64 x ∧ Below w.heap.size w wr ∧ wr.ownsRow w.heap.size 3 1 ov x (intCells ((finI s).take x))) (fun _ i _ => 3 - (intOf i).toNat)
  case atStart => exact ⟨0, Nat.zero_le _, rfl, (Below.refl _ _).alloc (Nat.le_refl _) _, HST.out⟩
  case round =>
    clear HST
    obtain ⟨wo, rfl⟩ : ∃ wo : World, wo = wr := ⟨_, rfl⟩
    obtain ⟨x, hx3, rfl, hb, hown⟩ := hrel
    have HOWN := Lib.hid hown
    by_cases hlt : x < 3
    · clear hown
      have hxi : (x : Int) < 3 := by omega
      go_wp2_with fail
      go_loopw [5, 6] (fun v i wr => ∃ k : Nat, k ≤ n ∧ i = .int .i64 k ∧ v = .int .i64 (lw (fnB s (x : Int)) s k) ∧ Below wo.heap.size wo wr) (fun _ i _ => n - (intOf i).toNat)
      case atStart => exact ⟨0, Nat.zero_le _, rfl, rfl, Below.refl _ _⟩
      case round =>
        obtain ⟨wi, rfl⟩ : ∃ wi : World, wi = wr := ⟨_, rfl⟩
        obtain ⟨k, hk, rfl, rfl, hbi⟩ := hrel
        have hbwi := hb.trans (hbi.mono hb.size)
        by_cases hltk : k < n
        · obtain ⟨b, off, o, rfl, hbl, ho, c0, c1, c2⟩ := (HX.out.below hbwi (Nat.le_refl _)).at_ hltk
          have HS := Lib.hid (lw_succ (W := fnB s (x : Int)) ho)
          have hcE := sendOf_any (some ⟨b, off, none⟩) n c s o.tx wi (HX.out.below hbwi (Nat.le_refl _))
          obtain ⟨E, hE⟩ : ∃ E, endOf s o.tx = E := ⟨_, rfl⟩
          rw [hE] at hcE
          have HCE := Lib.hid hcE
          have HEE := Lib.hid hE
          generalize hP : lw (fnB s (x : Int)) s k = P at *
          obtain ⟨ot, ok, oi⟩ := o
          simp only at c0 c1 c2
          have hki : (k : Int) < (n : Int) := by omega
          clear ho hcE hE hP
          by_cases hk1 : ok = 1
          · by_cases hxo : oi = (x : Int)
            · subst hk1; subst hxo
              by_cases h3 : E = 3
              · subst h3
                have HN : Hid (lw (fnB s (x : Int)) s (k + 1) = P) := by
                  show _ = _
                  rw [HS.out, if_neg]
                  unfold fnB
                  simp only [HEE.out]
                  simp
                clear HS
                go_wp2_with fail
                refine HCE.out.mono ?_
                rintro e w2 ⟨rfl, hb2⟩
                go_wp2_with fail
                go_roundw
                case rel => exact ⟨k + 1, by omega, by go_num, by rw [HN.out], hbi.trans (hb2.mono hbi.size)⟩
                case measure => simp [intOf]; omega
              · have HN : Hid (lw (fnB s (x : Int)) s (k + 1) = ot) := by
                  show _ = _
                  rw [HS.out, if_pos]
                  unfold fnB
                  simp only [HEE.out]
                  simp [h3]
                have h3' : (E != 3) = true := by rw [bne_iff_ne]; exact h3
                have c0' : ∀ w2 : World, Below wi.heap.size wi w2 → w2.cell? ⟨b, off + k * 3, none⟩ = some (.int .i64 ot) := fun w2 h => (h.cell (p := ⟨b, off + k * 3, none⟩) hbl).trans c0
                have HC0 := Lib.hid c0'
                clear HS c0'
                go_wp2_with fail
                refine HCE.out.mono ?_
                rintro e w2 ⟨rfl, hb2⟩
                have c00 := HC0.out w2 hb2
                clear c0 c1 c2
                go_wp2_with fail
                go_roundw
                case rel => exact ⟨k + 1, by omega, by go_num, by rw [HN.out], hbi.trans (hb2.mono hbi.size)⟩
                case measure => simp [intOf]; omega
            · have hxo' : (oi == (x : Int)) = false := by rw [beq_eq_false_iff_ne]; exact hxo
              have HN : Hid (lw (fnB s (x : Int)) s (k + 1) = P) := by
                show _ = _
                rw [HS.out, if_neg]
                unfold fnB
                simp [hxo]
              subst hk1
              clear HS HCE
              go_wp2_with fail
              go_roundw
              case rel => exact ⟨k + 1, by omega, by go_num, by rw [HN.out], hbi⟩
              case measure => simp [intOf]; omega
          · have hk1' : (ok == 1) = false := by rw [beq_eq_false_iff_ne]; exact hk1
            have HN : Hid (lw (fnB s (x : Int)) s (k + 1) = P) := by
              show _ = _
              rw [HS.out, if_neg]
              unfold fnB
              simp [hk1]
            clear HS HCE
            go_wp2_with fail
            go_roundw
            case rel => exact ⟨k + 1, by omega, by go_num, by rw [HN.out], hbi⟩
            case measure => simp [intOf]; omega
        · obtain rfl : k = n := by omega
          have HT : Hid ((finI s).take (x + 1) = (finI s).take x ++ [lw (fnB s (x : Int)) s k]) := by
            show _ = _
            rw [← HL.out]
            exact finI_take hlt
          have hown2 := own_below HOWN.out hbi
          have hszw := hbwi.size
          generalize hP : lw (fnB s (x : Int)) s k = P at *
          clear hP
          go_wp2_with (at_builtin; refine app_ints (.tmp 48) (.tmp 50) (hown2.alloc _) (by simp; omega) (lit1 rfl P) (by omega) rfl rfl rfl rfl ?_; intro v3 w3 hown3 hg3 hat3)
          go_roundw
          case rel => exact ⟨x + 1, by omega, by go_num, (hbwi.alloc hbwi.size _).grown hg3 (by simp; have := hbwi.size; omega) (fun j e => (World.ownsRow.lt hown2 j e).1), by rw [HT.out]; exact hown3⟩
          case measure => simp [intOf]; omega
    · obtain rfl : x = 3 := by omega
      obtain ⟨Ao, co, rfl, hco⟩ := own_form2 hown
      have HR : Hid (RetInts w (finI s) (.returned (.slice Ao 3 co)) wo) := by
        have hown' : wo.ownsRow w.heap.size 3 1 (.slice Ao 3 co) 3 (intCells (finI s)) := hown
        exact RetInts.mk rfl hco (FreshInts.of_own hown' (Nat.le_refl _) (by omega)) hb
      clear hown HOWN
      go_wp2_with fail
      go_ret
      exact HR.out
end Go.Proofs.Ytkbclcgdkbhgdaa
