/-
  DragsOf of the reference: the walk.
-/
import Derived.Test.YtmookobaljcpbaaDrag2
import Derived.Test.YtmookobaljcpbaaSpV0
import Derived.Test.YtmookobaljcpbaaRIB0
namespace Go.Proofs.Ytmookobaljcpbaa
open Go.RowKit Go.BigFrame
set_option linter.unusedVariables false

theorem own_lit1 {w : World} {base H : Nat} (hH : w.heap.size = H) (t : Int) (hb : base ≤ w.heap.size) : (w.alloc (.cells #[.int .i64 t] 3)).ownsRow base 3 1 (.slice (some ⟨H, 0, none⟩) 1 1) 1 (intCells [t]) := by
  subst hH
  exact ⟨rfl, .inr ⟨w.heap.size, 1, #[.int .i64 t], rfl, hb, heap_alloc_new w _, Nat.le_refl _, by decide, rfl, rfl⟩⟩
/-- Those of 0, 1, .. below k of whom f tells. -/
def upTo (f : Int → Bool) (k : Nat) : List Int := ((List.range k).map fun i : Nat => (i : Int)).filter f
theorem upTo_succ (f : Int → Bool) (k : Nat) : upTo f (k + 1) = upTo f k ++ if f (k : Int) then [(k : Int)] else [] := by
  unfold upTo
  rw [List.range_succ, List.map_append, List.filter_append]
  cases h : f (k : Int) <;> simp [h]
def dragF (s : List OpV) (t u : Int) : Bool := u != t && (dIt s 4 [t]).any fun y => y == u
theorem drag_upTo (s : List OpV) (t : Int) : dragL s t = upTo (dragF s t) 4 := drag_filter t

/-- What the rounds know; opaque, so that no step takes it apart. -/
def DIn (s : List OpV) (D : List Int) (w : World) (n m : Nat) (ov i : Value) (wr : World) : Prop :=
  ∃ (k m' : Nat), k ≤ n ∧ m' ≤ m + k ∧ i = .int .i64 k ∧ Below w.heap.size w wr ∧ wr.ownsRow w.heap.size 3 1 ov m' (intCells (dTo s D k))
def DOut (s : List OpV) (F : Int → Bool) (wo : World) (ov okv i : Value) (wr : World) : Prop :=
  ∃ (k q : Nat), k ≤ 4 ∧ q ≤ k ∧ i = .int .i64 k ∧ okv = .bool ((upTo F k).all fun u => endOf s u != 2) ∧ Below wo.heap.size wo wr ∧ wr.ownsRow wo.heap.size 3 1 ov q (intCells (upTo F k))

set_option maxRecDepth 100000 in
set_option maxHeartbeats 2000000 in
theorem sDragsOf_any (A : Option Addr) (n c : Nat) (s : List OpV) (t : Int) (w : World) (hx : ROps w A n s) :
    Calls Try.prog 32 #[.slice A n c, .int .i64 t] w (RetIntsB w (orNil (validS s) (dragL s t)) (validS s && dragB s t)) := by
  have hn := hx.2.1
  have hl := hx.1
  have HX := Lib.hid hx
  clear hx
  have HV0 := Lib.hid (svalid_any A n c s w HX.out)
  go_enter Try.func32, Try.ntmps32
  go_wp2_with fail
  refine HV0.out.mono ?_
  rintro e w1 ⟨rfl, hb1⟩
  cases hv : validS s
  · have HV := Lib.hid hv
    clear hv
    go_wp2_with fail
    go_ret2
    rw [HV.out]
    exact RetIntsB.nil hb1
  · have HV := Lib.hid hv
    have hn16 := ((validS_iff s).1 hv).1
    rw [hl] at hn16
    clear hv
    have hs1 := hb1.size
    have HST : Hid ((w1.alloc (.cells #[.int .i64 t] 3)).ownsRow w.heap.size 3 1 (.slice (some ⟨w1.heap.size, 0, none⟩) 1 1) 1 (intCells (dIt s 0 [t]))) := own_lit1 rfl t hs1
    have HB0 : Hid (Below w.heap.size w (w1.alloc (.cells #[.int .i64 t] 3))) := hb1.alloc hs1 _
    go_wp2_with fail
    go_loopw [6, 7] (fun ov i wr => ∃ (r m : Nat), r ≤ 4 ∧ m ≤ 1 + r * 16 ∧ i = .int .i64 r ∧ Below w.heap.size w wr ∧ wr.ownsRow w.heap.size 3 1 ov m (intCells (dIt s r [t]))) (fun _ i _ => 4 - (intOf i).toNat)
    case atStart => exact ⟨0, 1, by omega, by omega, rfl, HB0.out, HST.out⟩
    case round =>
      clear HST HB0
      obtain ⟨wo, rfl⟩ : ∃ wo : World, wo = wr := ⟨_, rfl⟩
      obtain ⟨ov, rfl⟩ : ∃ z : Value, z = u6 := ⟨_, rfl⟩
      obtain ⟨r, m, hr, hm, rfl, hb, hown⟩ := hrel
      have HSN := Lib.hid (dIt_snoc s r [t])
      generalize hD : dIt s r [t] = D at *
      by_cases hlt : r < 4
      · have HOWN := Lib.hid hown
        have hrl : (r : Int) < 4 := by omega
        clear hown hD
        go_wp2_with fail
        go_loopw [6, 8] (fun ov i' wr => DIn s D w n m ov i' wr) (fun _ i' _ => n - (intOf i').toNat)
        case atStart => exact ⟨0, m, Nat.zero_le _, by omega, rfl, hb, HOWN.out⟩
        case round =>
          clear HOWN hb
          obtain ⟨k, m', hk, hm', rfl, hb, hown⟩ := hrel
          obtain ⟨Ao, co, rfl, hmc⟩ := own_form2 hown
          by_cases hlt2 : k < n
          · have hxr := HX.out.below hb (Nat.le_refl _)
            obtain ⟨b, off, o, rfl, hbl, ho, c0, c1, c2⟩ := hxr.at_ hlt2
            have hs := hb.size
            have HT := Lib.hid (dTo_succ (D := D) ho)
            have hsrc : ∀ u : Later wr, Calls Try.prog 62 #[.slice (some ⟨b, off, none⟩) n c, .int .i64 (k : Int)] u.1 fun e w' => e = .returned (.int .i64 (srcN s k o)) ∧ Below u.1.heap.size u.1 w' := fun u => by
              have := source_any (some ⟨b, off, none⟩) n c k s o u.1 (hxr.later u) ho
              rw [sf_eq HV.out] at this; exact this
            have hri := RInts.of_own hown (by omega)
            generalize hE : dTo s D k = E at *
            obtain ⟨b2, hb2e⟩ : ∃ z, (E.any fun y => y == o.tx) = z := ⟨_, rfl⟩
            obtain ⟨b4, hb4e⟩ : ∃ z, (E.any fun y => y == srcN s k o) = z := ⟨_, rfl⟩
            have hh2 : ∀ u : Later wr, Calls Try.prog 61 #[.slice Ao m' co, .int .i64 o.tx] u.1 fun e w' => e = .returned (.bool b2) ∧ Below u.1.heap.size u.1 w' := fun u => by
              have := hasInt_any Ao m' co E o.tx u.1 (hri.later u); rw [hb2e] at this; exact this
            have hh4 : ∀ u : Later wr, Calls Try.prog 61 #[.slice Ao m' co, .int .i64 (srcN s k o)] u.1 fun e w' => e = .returned (.bool b4) ∧ Below u.1.heap.size u.1 w' := fun u => by
              have := hasInt_any Ao m' co E (srcN s k o) u.1 (hri.later u); rw [hb4e] at this; exact this
            unfold dStep dOk at HT
            rw [hb2e, hb4e] at HT
            generalize srcN s k o = src at *
            obtain ⟨tx, kd, it⟩ := o
            simp only at HT c0 c1 c2 hh2
            have HSRC := Lib.hid hsrc
            have H2 := Lib.hid hh2
            have H4 := Lib.hid hh4
            have HOWN := Lib.hid hown
            have L0 := Later.cell c0
            have HKP : Hid ((kd == 0 && !b2 && decide (0 ≤ src) && b4) = false → dTo s D (k + 1) = E) := fun h => by rw [HT.out, h]; rfl
            have HAD : Hid ((kd == 0 && !b2 && decide (0 ≤ src) && b4) = true → dTo s D (k + 1) = E ++ [tx]) := fun h => by rw [HT.out, h]; rfl
            clear hsrc hh2 hh4 hown hri hxr ho hE hb2e hb4e HT
            by_cases h1 : kd = 0
            · subst h1
              have x0 := L0 ⟨wr, Below.refl _ _⟩
              simp only at x0
              go_wp2_with fail
              refine (H2.out ⟨wr, Below.refl _ _⟩).mono ?_
              rintro e w2 ⟨rfl, hb2⟩
              have hbw2 := hb.trans (hb2.mono hs)
              cases b2
              · go_wp2_with fail
                refine (HSRC.out ⟨w2, hb2⟩).mono ?_
                rintro e w3 ⟨rfl, hb3⟩
                have hb13 := hb2.trans (hb3.mono hb2.size)
                by_cases h3 : 0 ≤ src
                · go_wp2_with fail
                  refine (HSRC.out ⟨w3, hb13⟩).mono ?_
                  rintro e w4 ⟨rfl, hb4⟩
                  have hb14 := hb13.trans (hb4.mono hb13.size)
                  go_wp2_with fail
                  refine (H4.out ⟨w4, hb14⟩).mono ?_
                  rintro e w5 ⟨rfl, hb5⟩
                  have hb15 := hb14.trans (hb5.mono hb14.size)
                  have hown5 := own_below HOWN.out hb15
                  have hbw5 := hb.trans (hb15.mono hs)
                  have hs5 := hbw5.size
                  have x5 := L0 ⟨w5, hb15⟩
                  simp only at x5
                  clear hb2 hb3 hb4 hb5 hb13 hb14
                  cases b4
                  · have hz := Lib.hid (HKP.out (by simp))
                    clear HKP HAD
                    go_wp2_with fail
                    go_roundw
                    case rel => exact ⟨k + 1, m', by omega, by omega, by go_num, hbw5, by rw [hz.out]; exact hown5⟩
                    case measure => simp [intOf]; omega
                  · have hz := Lib.hid (HAD.out (by simp [h3]))
                    clear HKP HAD
                    go_wp2_with (at_builtin; refine app_ints (.tmp 56) (.tmp 62) (hown5.alloc _) (by simp; omega) (lit1 rfl tx) (by omega) rfl rfl rfl rfl ?_; intro v6 w6 hown6 hg6 hat6)
                    have hb6 := Below.own hbw5 hown5 (Nat.le_refl _) (World.grownBy.trans (World.grownBy_alloc w5 _ _) hg6)
                    go_wp2_with fail
                    go_roundw
                    case rel => exact ⟨k + 1, m' + 1, by omega, by omega, by go_num, hb6, by rw [hz.out]; exact hown6⟩
                    case measure => simp [intOf]; omega
                · have hz := Lib.hid (HKP.out (by simp [h3]))
                  have hown3 := own_below HOWN.out hb13
                  have hbw3 := hb.trans (hb13.mono hs)
                  clear HKP HAD hb2 hb3 hb13
                  go_wp2_with fail
                  go_roundw
                  case rel => exact ⟨k + 1, m', by omega, by omega, by go_num, hbw3, by rw [hz.out]; exact hown3⟩
                  case measure => simp [intOf]; omega
              · have hz := Lib.hid (HKP.out (by simp))
                have hown3 := own_below HOWN.out hb2
                clear HKP HAD hb2
                go_wp2_with fail
                go_roundw
                case rel => exact ⟨k + 1, m', by omega, by omega, by go_num, hbw2, by rw [hz.out]; exact hown3⟩
                case measure => simp [intOf]; omega
            · have h1' : (kd == 0) = false := by simpa using h1
              have hz := Lib.hid (HKP.out (by rw [h1']; simp))
              clear HKP HAD
              go_wp2_with fail
              go_roundw
              case rel => exact ⟨k + 1, m', by omega, by omega, by go_num, hb, by rw [hz.out]; exact HOWN.out⟩
              case measure => simp [intOf]; omega
          · have e : dTo s D k = dIt s (r + 1) [t] := by
              rw [HSN.out]
              unfold dPass
              have : k = s.length := by omega
              rw [this]
            rw [e] at hown
            have HOWN := Lib.hid hown
            clear hown e
            go_wp2_with fail
            go_roundw
            case rel => exact ⟨r + 1, m', by omega, by omega, by go_num, hb, HOWN.out⟩
            case measure => simp [intOf]; omega
      · have hr4 : r = 4 := by omega
        have hri4 : ¬ ((r : Int) < 4) := by omega
        have hD4 : dIt s 4 [t] = D := by rw [← hD, hr4]
        obtain ⟨Ao, co, rfl, hmc⟩ := own_form2 hown
        have hri := RInts.of_own hown (by omega)
        have hso := hb.size
        have HLB : Hid (dragL s t = upTo (dragF s t) 4) := drag_upTo s t
        have HLD : Hid (dragB s t = (dragL s t).all fun u => endOf s u != 2) := rfl
        have hF : ∀ u : Int, dragF s t u = (u != t && D.any fun y => y == u) := fun u => by unfold dragF; rw [hD4]
        have HFF := Lib.hid hF
        have HRI : Hid (∀ W, Below wo.heap.size wo W → RInts W Ao m D) := fun W h => hri.below h (Nat.le_refl _)
        have HST : Hid ((wo.alloc (.cells #[] 3)).ownsRow wo.heap.size 3 1 (.slice (some ⟨wo.heap.size, 0, none⟩) 0 0) 0 (intCells (upTo (dragF s t) 0))) := World.ownsRow_made wo #[] 0 (Nat.le_refl _) (by decide) rfl
        have HB0 : Hid (Below wo.heap.size wo (wo.alloc (.cells #[] 3))) := (Below.refl _ _).alloc (Nat.le_refl _) _
        have HBO := Lib.hid hb
        clear hown hri hF hD hD4 HSN hb hr4 hlt
        generalize dragF s t = F at *
        go_wp2_with fail
        go_loopw [9, 10, 11] (fun ov okv i wr => DOut s F wo ov okv i wr) (fun _ _ i _ => 4 - (intOf i).toNat)
        case atStart => exact ⟨0, 0, by omega, Nat.le_refl _, rfl, rfl, HB0.out, HST.out⟩
        case round =>
          clear HST HB0
          obtain ⟨k, q, hk, hq, rfl, rfl, hb, hown⟩ := hrel
          obtain ⟨Bo, bo, rfl, hqc⟩ := own_form2 hown
          by_cases hlt2 : k < 4
          · have HT := Lib.hid (upTo_succ F k)
            have hs := hb.size
            obtain ⟨b2, hb2e⟩ : ∃ z, (D.any fun y => y == (k : Int)) = z := ⟨_, rfl⟩
            have hh2 := hasInt_any Ao m co D (k : Int) wr (HRI.out wr hb)
            rw [hb2e] at hh2
            have hFk := HFF.out (k : Int)
            rw [hb2e] at hFk
            obtain ⟨EE, hEE⟩ : ∃ z, endOf s (k : Int) = z := ⟨_, rfl⟩
            have hh3 : ∀ W, Below wo.heap.size wo W → Calls Try.prog 63 #[.slice A n c, .int .i64 (k : Int)] W fun e w' => e = .returned (.int .i64 EE) ∧ Below W.heap.size W w' := fun W h => by
              have := sendOf_any A n c s (k : Int) W ((HX.out.below HBO.out (Nat.le_refl _)).below h (Nat.le_refl _)); rw [hEE] at this; exact this
            have HAL : Hid ((upTo F k ++ [(k : Int)]).all (fun u => endOf s u != 2) = ((upTo F k).all (fun u => endOf s u != 2) && EE != 2)) := by
              show _ = _
              rw [List.all_append, ← hEE]; simp
            have H2 := Lib.hid hh2
            have H3 := Lib.hid hh3
            have HOWN := Lib.hid hown
            generalize hok : ((upTo F k).all fun u => endOf s u != 2) = ok at *
            have HOK := Lib.hid hok
            have HFK := Lib.hid hFk
            clear hh2 hh3 hb2e hEE hFk hown hok
            by_cases h1 : (k : Int) = t
            · have h1' : ((k : Int) != t) = false := by simp [h1]
              have hz : Hid (upTo F (k + 1) = upTo F k) := by show _ = _; rw [HT.out, HFK.out, h1']; simp
              clear HT
              go_wp2_with fail
              go_roundw
              case rel => exact ⟨k + 1, q, by omega, by omega, by go_num, by rw [hz.out, HOK.out], hb, by rw [hz.out]; exact HOWN.out⟩
              case measure => simp [intOf]; omega
            · have h1' : ((k : Int) != t) = true := by simp [h1]
              go_wp2_with fail
              refine H2.out.mono ?_
              rintro e w2 ⟨rfl, hb2⟩
              have hbw2 := hb.trans (hb2.mono hs)
              have hown2 := own_below HOWN.out hb2
              have hs2 := hbw2.size
              clear hb2
              cases b2
              · have hz : Hid (upTo F (k + 1) = upTo F k) := by show _ = _; rw [HT.out, HFK.out]; simp
                clear HT
                go_wp2_with fail
                go_roundw
                case rel => exact ⟨k + 1, q, by omega, by omega, by go_num, by rw [hz.out, HOK.out], hbw2, by rw [hz.out]; exact hown2⟩
                case measure => simp [intOf]; omega
              · have hz : Hid (upTo F (k + 1) = upTo F k ++ [(k : Int)]) := by show _ = _; rw [HT.out, HFK.out, h1']; simp
                clear HT
                have hok2 : ok = false ∨ ok = true := by cases ok <;> simp
                rcases hok2 with rfl | rfl
                · go_wp2_with (at_builtin; refine app_ints (.tmp 77) (.tmp 79) (hown2.alloc _) (by simp; omega) (lit1 rfl (k : Int)) (by omega) rfl rfl rfl rfl ?_; intro v6 w6 hown6 hg6 hat6)
                  have hb6 := Below.own hbw2 hown2 (Nat.le_refl _) (World.grownBy.trans (World.grownBy_alloc w2 _ _) hg6)
                  have hs6 := hb6.size
                  go_wp2_with fail
                  go_roundw
                  case rel => exact ⟨k + 1, q + 1, by omega, by omega, by go_num, by rw [hz.out, HAL.out]; rfl, hb6, by rw [hz.out]; exact hown6⟩
                  case measure => simp [intOf]; omega
                · go_wp2_with (at_builtin; refine app_ints (.tmp 77) (.tmp 79) (hown2.alloc _) (by simp; omega) (lit1 rfl (k : Int)) (by omega) rfl rfl rfl rfl ?_; intro v6 w6 hown6 hg6 hat6)
                  have hb6 := Below.own hbw2 hown2 (Nat.le_refl _) (World.grownBy.trans (World.grownBy_alloc w2 _ _) hg6)
                  have hs6 := hb6.size
                  have HO6 := Lib.hid hown6
                  clear hown6 hg6 hat6
                  go_wp2_with fail
                  refine (H3.out w6 hb6).mono ?_
                  rintro e w7 ⟨rfl, hb7⟩
                  have hown7 := own_below HO6.out hb7
                  have hb17 := hb6.trans (hb7.mono hs6)
                  clear hb7
                  by_cases h2 : EE = 2
                  · go_wp2_with fail
                    go_roundw
                    case rel => exact ⟨k + 1, q + 1, by omega, by omega, by go_num, by rw [hz.out, HAL.out, h2]; rfl, hb17, by rw [hz.out]; exact hown7⟩
                    case measure => simp [intOf]; omega
                  · have h2' : (EE == 2) = false := by simpa using h2
                    go_wp2_with fail
                    go_roundw
                    case rel => exact ⟨k + 1, q + 1, by omega, by omega, by go_num, by rw [hz.out, HAL.out]; simp [bne, h2'], hb17, by rw [hz.out]; exact hown7⟩
                    case measure => simp [intOf]; omega
          · have hk4 : k = 4 := by omega
            have hki4 : ¬ ((k : Int) < 4) := by omega
            have hb0 := HBO.out.trans (hb.mono HBO.out.size)
            have hql := own_lenInts hown
            rw [hk4] at hown hql
            have HOKV : Hid (((upTo F k).all fun u => endOf s u != 2) = ((upTo F 4).all fun u => endOf s u != 2)) := by show _ = _; rw [hk4]
            have HO : Hid (RetIntsB w (upTo F 4) ((upTo F 4).all fun u => endOf s u != 2) (.returned (.tuple #[.slice Bo q bo, .bool ((upTo F 4).all fun u => endOf s u != 2)])) wr) := by
              subst hql
              exact ⟨Bo, bo, rfl, hqc, FreshInts.of_own hown hso (by omega), hb0⟩
            clear hown hb0 hk4 hql
            rw [HOKV.out]
            go_wp2_with fail
            go_ret2
            rw [HV.out, Bool.true_and, HLD.out, HLB.out]
            exact HO.out
end Go.Proofs.Ytmookobaljcpbaa
