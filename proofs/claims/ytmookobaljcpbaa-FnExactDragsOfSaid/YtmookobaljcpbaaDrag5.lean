/-
  DragsOf of the program: the walk. DRAFT.
-/
import Derived.Test.YtmookobaljcpbaaDrag4
import Derived.Test.YtmookobaljcpbaaRIB0
import Derived.Test.YtmookobaljcpbaaIdx0
import Derived.Test.YtmookobaljcpbaaSort3
import Derived.Test.YtmookobaljcpbaaClone0
import Derived.Test.YtmookobaljcpbaaRf0
import Derived.Test.YtmookobaljcpbaaArg0
import Derived.Test.YtmookobaljcpbaaClip0
import Derived.Test.YtmookobaljcpbaaDrag3
import Derived.Test.YtmookobaljcpbaaGen
namespace Go.Proofs.Ytmookobaljcpbaa
open Go.RowKit Go.BigFrame
set_option linter.unusedVariables false

def foundOf : Value → Nat | .bool true => 1 | _ => 0
theorem found_dec (p : Prop) [Decidable p] : foundOf (.bool (decide p)) = if p then 1 else 0 := by by_cases h : p <;> simp [h, foundOf]
/-- What the rounds of the program know, between them. -/
def DImp (s : List OpV) (t : Int) (w : World) (ov fv : Value) (wr : World) : Prop :=
  ∃ (j m : Nat) (fb : Bool), fv = .bool fb ∧ m ≤ 4 ∧ (fb = false → dPass s (dIt s j [t]) = dIt s j [t]) ∧ Below w.heap.size w wr ∧ wr.ownsRow w.heap.size 3 1 ov m (intCells (dIt s j [t]))
/-- And within one. -/
def DImpIn (s : List OpV) (D : List Int) (w : World) (n m0 : Nat) (ov fv i : Value) (wr : World) : Prop :=
  ∃ (k m : Nat), k ≤ n ∧ m ≤ 4 ∧ i = .int .i64 k ∧ fv = .bool (decide (m0 < m)) ∧ Below w.heap.size w wr ∧ wr.ownsRow w.heap.size 3 1 ov m (intCells (dTo s D k))

set_option maxRecDepth 100000 in
set_option maxHeartbeats 1000000 in
theorem DragsOf_any (A : Option Addr) (n c : Nat) (s : List OpV) (t : Int) (w : World) (hx : ROps w A n s) (hnc : n ≤ c) :
    Calls Try.prog 33 #[.slice A n c, .int .i64 t] w (RetIntsB w (orNil (validS s) (dragL s t)) (validS s && dragB s t)) := by
  have hn := hx.2.1
  have hl := hx.1
  have HX := Lib.hid hx
  clear hx
  go_enter Try.func33, Try.ntmps33
  go_wp2_with fail
  obtain ⟨W, hW⟩ : ∃ W : World, W = w.alloc (.cells #[.slice A n c] 23) := ⟨_, rfl⟩
  rw [← hW]
  have hbW : Below w.heap.size w W := by rw [hW]; exact (Below.refl _ _).alloc (Nat.le_refl _) _
  have hcW : W.cell? ⟨w.heap.size, 0, none⟩ = some (.slice A n c) := by rw [hW]; exact box_at _ _ _ _ _ rfl
  have LS := Later.cell hcW
  have HXW := Lib.hid (HX.out.below hbW (Nat.le_refl _))
  have HBW := Lib.hid hbW
  clear hW hcW hbW
  refine (ValidSchedule_any A n c s W HXW.out hnc).mono ?_
  rintro e w1 ⟨rfl, hb1⟩
  have l1 := LS ⟨w1, hb1⟩
  simp only at l1
  have HB1 := Lib.hid (HBW.out.trans (hb1.mono HBW.out.size))
  cases hv : validS s
  · have HV := Lib.hid hv
    clear hv
    go_wp2_with fail
    go_ret2
    rw [HV.out]
    exact RetIntsB.nil HB1.out
  · have HV := Lib.hid hv
    have hn16 := ((validS_iff s).1 hv).1
    rw [hl] at hn16
    clear hv
    go_wp2_with fail
    refine (txsOf_any A n c s w1 (HXW.out.below hb1 (Nat.le_refl _))).mono ?_
    rintro e w2 ⟨C, g, rfl, hg, ⟨hf, _⟩, hb2⟩
    have hb12 := hb1.trans (hb2.mono hb1.size)
    obtain ⟨bt, hbt⟩ : ∃ z, ((txsOf s).any fun y => y == t) = z := ⟨_, rfl⟩
    have HC := ContainsS_any C (txsOf s).length g (txsOf s) t w2 hf
    rw [hbt] at HC
    have HBT := Lib.hid hbt
    have HCC := Lib.hid HC
    clear HC hbt hf hb2 hb1
    generalize htl : (txsOf s).length = tl at *
    clear htl
    go_wp2_with fail
    refine HCC.out.mono ?_
    rintro e w3 ⟨rfl, hb3⟩
    have hb13 := hb12.trans (hb3.mono hb12.size)
    have l3 := LS ⟨w3, hb13⟩
    simp only at l3
    have HB3 := Lib.hid (HBW.out.trans (hb13.mono HBW.out.size))
    clear hb3 hb12
    cases bt
    · have hnt : t ∉ txsOf s := fun h => by have := any_eq_iff.2 h; rw [HBT.out] at this; cases this
      have HD := Lib.hid (drag_none HV.out hnt)
      go_wp2_with fail
      go_ret2
      unfold dragB
      rw [HV.out, HD.out]
      exact RetIntsB.nil HB3.out
    · have ht : t ∈ txsOf s := any_eq_iff.1 HBT.out
      have HTX := Lib.hid ht
      have hs3 := HB3.out.size
      have HST : Hid ((w3.alloc (.cells #[.int .i64 t] 3)).ownsRow W.heap.size 3 1 (.slice (some ⟨w3.heap.size, 0, none⟩) 1 1) 1 (intCells (dIt s 0 [t]))) := own_lit1 rfl t hb13.size
      have HLS : Hid (∀ W', Below W.heap.size W W' → W'.cell? ⟨w.heap.size, 0, none⟩ = some (.slice A n c)) := fun W' h => LS ⟨W', h⟩
      have HW3 := Lib.hid (hb13.alloc hb13.size (.cells #[.int .i64 t] 3))
      clear ht hb13 l1 l3
      go_wp2_with fail
      go_loopw [6, 7] (fun ov fv wr => DImp s t W ov fv wr) (fun ov fv _ => (5 - lenOf ov) * 2 + foundOf fv)
      case atStart => exact ⟨0, 1, true, rfl, by omega, (fun h => by cases h), HW3.out, HST.out⟩
      case round =>
        clear HST HW3
        obtain ⟨j, m, fb, rfl, hm, hfix, hbW, hown⟩ := hrel
        have hg := DGood.it (s := s) (t := t) j (DGood.start s t)
        have HSN := Lib.hid (dIt_snoc s j [t])
        have lS := HLS.out _ hbW
        cases fb
        · have hD4 := dIt_end HV.out HTX.out (hfix rfl)
          have hsrt := drag_sort HV.out HTX.out hD4
          obtain ⟨E, hE⟩ := hg.head
          have hml := own_lenInts hown
          have hm1 : 1 ≤ m := by rw [← hml, hE]; simp
          have hown2 := hown
          rcases hown2.2 with ⟨h1, h2⟩ | ⟨g, cap, cur, rfl, hbase, hgb, r1, r2, r3, r4⟩
          · omega
          · have hri := RInts.of_own hown (by omega)
            unfold maxLen at r2
            have htl : RInts wr (some ⟨g, if cap = 1 then 0 else 1, none⟩) (m - 1) (dIt s j [t]).tail := by
              have := hri.drop1 (k := 1) (c := cap) hm1 r1
              rw [List.drop_one] at this
              by_cases hc : cap = 1
              · simpa [hc] using this
              · simpa [hc, addr_add] using this
            have HSO : Hid (∀ (off c' : Nat) (xs : List Int), xs = (dIt s j [t]).tail → RInts wr (some ⟨g, off, none⟩) (m - 1) xs → Calls Try.prog 66 #[.slice (some ⟨g, off, none⟩) (m - 1) c'] wr fun e w' =>
              e = .returned (.tuple #[]) ∧ RInts w' (some ⟨g, off, none⟩) (m - 1) (dragL s t) ∧ Below W.heap.size wr w') := fun off c' xs hxs h => by
              have := SortI_any g off (m - 1) c' xs wr h hgb
              rw [hxs, hsrt] at this
              exact this.mono fun e w' ⟨h1, h2, h3⟩ => ⟨h1, h2, h3.mono hbase⟩
            have HTL := Lib.hid htl
            have HBW0 := Lib.hid hbW
            clear hfix hD4 hsrt hE hg hml hri hown hown2 hbW r3 r4 hgb HSN htl
            by_cases hc : cap = 1
            · subst hc
              obtain rfl : m = 1 := by omega
              simp only [if_true] at HTL
              go_wp2_with fail
              refine (ClipInts_any (some ⟨g, 0, none⟩) 0 0 wr (by omega) (by omega)).mono ?_
              rintro e w4 ⟨rfl, hw4⟩
              subst hw4
              go_wp2_with fail
              refine (HSO.out 0 0 _ rfl HTL.out).mono ?_
              rintro e w4 ⟨rfl, hrs, hb4⟩
              have hbW4 := HBW0.out.trans hb4
              have hb04 := HBW.out.trans (hbW4.mono HBW.out.size)
              have HRS := Lib.hid hrs
              have HCL := Lib.hid (CloneI_any g 0 0 0 (dragL s t) w4 hrs)
              clear hrs hb4
              go_wp2_with fail
              refine HCL.out.mono ?_
              rintro e w5 ⟨A5, c5, rfl, hc5, hf5, hb5⟩
              have hbW5 := hbW4.trans (hb5.mono hbW4.size)
              have hclo : ClosInt w5 69 #[.pointer (some ⟨w.heap.size, 0, none⟩)] (dragL s t) (fun u => endOf s u == 2) :=
                ⟨runs_DragsOf1, fun W' x hb' _ => DragsOf1_any x A n c w.heap.size s W' (HLS.out W' (hbW5.trans (hb'.mono hbW5.size))) (HXW.out.below (hbW5.trans (hb'.mono hbW5.size)) (Nat.le_refl _))⟩
              have hcf := ContainsFuncS_any (some ⟨g, 0, none⟩) 0 0 (dragL s t) _ _ _ w5 (HRS.out.below hb5 (Nat.le_refl _)) hclo
              obtain ⟨B, hB⟩ : ∃ B, (dragL s t).any (fun u => endOf s u == 2) = B := ⟨_, rfl⟩
              rw [hB] at hcf
              have HDB : Hid (dragB s t = !B) := by
                show _ = _
                unfold dragB
                rw [← hB, List.all_eq_not_any_not]
                congr 1
                exact congrArg (fun f => (dragL s t).any f) (funext fun u => by simp [bne])
              have HCF := Lib.hid hcf
              have HF5 := Lib.hid hf5
              have hrun := runs_DragsOf1
              unfold Runs at hrun
              have hb05 := hb04.trans (hb5.mono hb04.size)
              clear hf5 hcf hB hclo
              go_wp2_with fail
              refine HCF.out.mono ?_
              rintro e w6 ⟨rfl, hb6⟩
              have HFIN : Hid (RetIntsB w (dragL s t) (!B) (.returned (.tuple #[.slice A5 (dragL s t).length c5, .bool (!B)])) w6) :=
                ⟨A5, c5, rfl, hc5, (HF5.out.lat hb6).since hb04.size, hb05.trans (hb6.mono hb05.size)⟩
              clear hb6
              go_wp2_with fail
              go_ret2
              rw [HV.out, Bool.true_and, HDB.out]
              exact HFIN.out
            · rw [if_neg hc] at HTL
              obtain ⟨N, hN⟩ : ∃ N, m - 1 = N := ⟨_, rfl⟩
              obtain ⟨C', hC'⟩ : ∃ N, cap - 1 = N := ⟨_, rfl⟩
              have hNC : N ≤ C' := by omega
              have hN4 : N ≤ 4 := by omega
              rw [hN] at HTL HSO
              have HNN := Lib.hid hN
              have HCC := Lib.hid hC'
              clear hN hC'
              have hci : ¬ (cap : Int) = 1 := by omega
              have hci1 : (1 : Int) ≤ (m : Int) := by omega
              have hmc : (m : Int) ≤ (cap : Int) := by omega
              go_wp2_with fail
              rw [HNN.out, HCC.out]
              refine (ClipInts_any (some ⟨g, 1, none⟩) N C' wr (by omega) (by omega)).mono ?_
              rintro e w4 ⟨rfl, hw4⟩
              subst hw4
              go_wp2_with fail
              refine (HSO.out 1 N _ rfl HTL.out).mono ?_
              rintro e w4 ⟨rfl, hrs, hb4⟩
              have hbW4 := HBW0.out.trans hb4
              have hb04 := HBW.out.trans (hbW4.mono HBW.out.size)
              have HRS := Lib.hid hrs
              have HCL := Lib.hid (CloneI_any g 1 N N (dragL s t) w4 hrs)
              clear hrs hb4
              go_wp2_with fail
              refine HCL.out.mono ?_
              rintro e w5 ⟨A5, c5, rfl, hc5, hf5, hb5⟩
              have hbW5 := hbW4.trans (hb5.mono hbW4.size)
              have hclo : ClosInt w5 69 #[.pointer (some ⟨w.heap.size, 0, none⟩)] (dragL s t) (fun u => endOf s u == 2) :=
                ⟨runs_DragsOf1, fun W' x hb' _ => DragsOf1_any x A n c w.heap.size s W' (HLS.out W' (hbW5.trans (hb'.mono hbW5.size))) (HXW.out.below (hbW5.trans (hb'.mono hbW5.size)) (Nat.le_refl _))⟩
              have hcf := ContainsFuncS_any (some ⟨g, 1, none⟩) N N (dragL s t) _ _ _ w5 (HRS.out.below hb5 (Nat.le_refl _)) hclo
              obtain ⟨B, hB⟩ : ∃ B, (dragL s t).any (fun u => endOf s u == 2) = B := ⟨_, rfl⟩
              rw [hB] at hcf
              have HDB : Hid (dragB s t = !B) := by
                show _ = _
                unfold dragB
                rw [← hB, List.all_eq_not_any_not]
                congr 1
                exact congrArg (fun f => (dragL s t).any f) (funext fun u => by simp [bne])
              have HCF := Lib.hid hcf
              have HF5 := Lib.hid hf5
              have hrun := runs_DragsOf1
              unfold Runs at hrun
              have hb05 := hb04.trans (hb5.mono hb04.size)
              clear hf5 hcf hB hclo
              go_wp2_with fail
              refine HCF.out.mono ?_
              rintro e w6 ⟨rfl, hb6⟩
              have HFIN : Hid (RetIntsB w (dragL s t) (!B) (.returned (.tuple #[.slice A5 (dragL s t).length c5, .bool (!B)])) w6) :=
                ⟨A5, c5, rfl, hc5, (HF5.out.lat hb6).since hb04.size, hb05.trans (hb6.mono hb05.size)⟩
              clear hb6
              go_wp2_with fail
              go_ret2
              rw [HV.out, Bool.true_and, HDB.out]
              exact HFIN.out
        · generalize hD : dIt s j [t] = D at *
          have hml := own_lenInts hown
          have HG := Lib.hid hg
          have HOWN := Lib.hid hown
          have HB := Lib.hid hbW
          have hdf : (decide (m < m)) = false := by simp
          have HDF := Lib.hid hdf
          have HML := Lib.hid hml
          obtain ⟨Aq, cq, rfl, _⟩ := own_form2 hown
          clear hg hown hbW hfix hdf hD hml
          go_wp2_with fail
          go_loopw [6, 7, 24] (fun ov' fv' i' wr' => DImpIn s D W n m ov' fv' i' wr') (fun _ _ i' _ => n - (intOf i').toNat)
          case atStart => exact ⟨0, m, Nat.zero_le _, hm, rfl, by rw [HDF.out], HB.out, HOWN.out⟩
          case round =>
            clear HOWN HB
            obtain ⟨k, m', hk, hm', rfl, rfl, hbW, hown⟩ := hrel
            obtain ⟨Ao, co, rfl, hmc⟩ := own_form2 hown
            have hsW := hbW.size
            have lS := HLS.out _ hbW
            have hgE := HG.out.to k
            have hEl := own_lenInts hown
            have hDle : m ≤ m' := by rw [← hEl, ← HML.out]; exact dTo_len s D k
            by_cases hlt : k < n
            · have hxr := HXW.out.below hbW (Nat.le_refl _)
              obtain ⟨b, off, o, rfl, hbl, ho, c0, c1, c2⟩ := hxr.at_ hlt
              have HTS := Lib.hid (dTo_succ (D := D) ho)
              have hdk := dOk_prog hgE HV.out HTX.out k o
              have hlen2 := (HG.out.to (k + 1)).len HV.out HTX.out
              have hri := RInts.of_own hown (by omega)
              generalize hE : dTo s D k = E at *
              obtain ⟨b2, hb2e⟩ : ∃ z, (E.any fun y => y == o.tx) = z := ⟨_, rfl⟩
              obtain ⟨b4, hb4e⟩ : ∃ z, (E.any fun y => y == srcN s k o) = z := ⟨_, rfl⟩
              rw [hb2e, hb4e] at hdk
              have HKP : Hid ((o.kind == 0 && !b2 && b4) = false → dTo s D (k + 1) = E) := fun h => by rw [HTS.out]; unfold dStep; rw [hdk, h]; rfl
              have HAD : Hid ((o.kind == 0 && !b2 && b4) = true → dTo s D (k + 1) = E ++ [o.tx]) := fun h => by rw [HTS.out]; unfold dStep; rw [hdk, h]; rfl
              obtain ⟨V, hV⟩ : ∃ V : World, V = wr.alloc (.cells #[.int .i64 o.tx, .int .i64 o.kind, .int .i64 o.item] 55) := ⟨_, rfl⟩
              obtain ⟨L0, L1, L2, hbV, hszV⟩ := op_box hV
              have H2 : Hid (∀ u : Later V, Calls Try.prog 53 #[.slice Ao m' co, .int .i64 o.tx] u.1 fun e w' => e = .returned (.bool b2) ∧ Below u.1.heap.size u.1 w') := fun u => by
                have := ContainsS_any Ao m' co E o.tx u.1 ((hri.below hbV (Nat.le_refl _)).later u); rw [hb2e] at this; exact this
              have H4 : Hid (∀ u : Later V, Calls Try.prog 53 #[.slice Ao m' co, .int .i64 (srcN s k o)] u.1 fun e w' => e = .returned (.bool b4) ∧ Below u.1.heap.size u.1 w') := fun u => by
                have := ContainsS_any Ao m' co E (srcN s k o) u.1 ((hri.below hbV (Nat.le_refl _)).later u); rw [hb4e] at this; exact this
              have HSRC : Hid (∀ u : Later V, Calls Try.prog 64 #[.slice (some ⟨b, off, none⟩) n c, .int .i64 (k : Int)] u.1 fun e w' => e = .returned (.int .i64 (srcN s k o)) ∧ Below u.1.heap.size u.1 w') := fun u =>
                readFrom_any (some ⟨b, off, none⟩) n c k s o u.1 ((hxr.below hbV (Nat.le_refl _)).later u) ho hnc
              have lV : V.cell? ⟨w.heap.size, 0, none⟩ = some (.slice (some ⟨b, off, none⟩) n c) := (hbV.cell (p := ⟨w.heap.size, 0, none⟩) (block_lt_of_cell lS)).trans lS
              have LSV := Later.cell lV
              have HOWN := Lib.hid (own_below hown hbV)
              have hbWV := hbW.trans (hbV.mono hsW)
              generalize srcN s k o = src at *
              obtain ⟨tx, kd, it⟩ := o
              simp only at L0 L1 L2 HKP HAD H2 hV c0 c1 c2
              have hsWV := hbWV.size
              have HDT : Hid (decide (m < m' + 1) = true) := by show _ = _; simp; omega
              have HEL := Lib.hid hEl
              clear hri hxr ho hE hb2e hb4e HTS hdk hown hbl hgE hEl lV hDle
              by_cases h1 : kd = 0
              · subst h1
                have x0 := L0 ⟨V, Below.refl _ _⟩
                simp only at x0
                go_wp2_with fail
                rw [← hV]
                refine (H2.out ⟨V, Below.refl _ _⟩).mono ?_
                rintro e w2 ⟨rfl, hb2⟩
                have ls2 := LSV ⟨w2, hb2⟩
                simp only at ls2
                cases b2
                · go_wp2_with fail
                  refine (HSRC.out ⟨w2, hb2⟩).mono ?_
                  rintro e w3 ⟨rfl, hb3⟩
                  have hb13 := hb2.trans (hb3.mono hb2.size)
                  go_wp2_with fail
                  refine (H4.out ⟨w3, hb13⟩).mono ?_
                  rintro e w4 ⟨rfl, hb4⟩
                  have hb14 := hb13.trans (hb4.mono hb13.size)
                  have hown4 := own_below HOWN.out hb14
                  have hbW4 := hbWV.trans (hb14.mono hsWV)
                  have hs4 := hbW4.size
                  have x4 := L0 ⟨w4, hb14⟩
                  simp only at x4
                  clear hb2 hb3 hb4 hb13 hb14 ls2
                  cases b4
                  · have hz := Lib.hid (HKP.out (by simp))
                    clear HKP HAD
                    go_wp2_with fail
                    go_roundw
                    case rel => exact ⟨k + 1, m', by omega, by omega, by go_num, rfl, hbW4, by rw [hz.out]; exact hown4⟩
                    case measure => simp [intOf]; omega
                  · have hz := Lib.hid (HAD.out (by simp))
                    rw [hz.out, List.length_append, HEL.out] at hlen2
                    simp only [List.length_cons, List.length_nil] at hlen2
                    clear HKP HAD
                    go_wp2_with (at_builtin; refine app_ints (.tmp 46) (.tmp 49) (hown4.alloc _) (by simp; omega) (lit1 rfl tx) (by omega) rfl rfl rfl rfl ?_; intro v6 w6 hown6 hg6 hat6)
                    have hb6 := Below.own hbW4 hown4 (Nat.le_refl _) (World.grownBy.trans (World.grownBy_alloc w4 _ _) hg6)
                    go_wp2_with fail
                    go_roundw
                    case rel => exact ⟨k + 1, m' + 1, by omega, by omega, by go_num, by rw [HDT.out], hb6, by rw [hz.out]; exact hown6⟩
                    case measure => simp [intOf]; omega
                · have hz := Lib.hid (HKP.out (by simp))
                  have hown3 := own_below HOWN.out hb2
                  have hbW3 := hbWV.trans (hb2.mono hsWV)
                  clear HKP HAD hb2 ls2
                  go_wp2_with fail
                  go_roundw
                  case rel => exact ⟨k + 1, m', by omega, by omega, by go_num, rfl, hbW3, by rw [hz.out]; exact hown3⟩
                  case measure => simp [intOf]; omega
              · have h1' : (kd == 0) = false := by simpa using h1
                have hz := Lib.hid (HKP.out (by rw [h1']; simp))
                clear HKP HAD
                go_wp2_with fail
                rw [← hV]
                go_roundw
                case rel => exact ⟨k + 1, m', by omega, by omega, by go_num, rfl, hbWV, by rw [hz.out]; exact HOWN.out⟩
                case measure => simp [intOf]; omega
            · have hkn : k = n := by omega
              have e : dTo s D k = dIt s (j + 1) [t] := by
                rw [HSN.out]
                unfold dPass
                rw [hl, hkn]
              have hfx : decide (m < m') = false → dPass s (dIt s (j + 1) [t]) = dIt s (j + 1) [t] := by
                intro h
                have hd : m = m' := by simp at h; omega
                have h1 : dTo s D k = D := dTo_same (by rw [hEl, HML.out, hd])
                have h2 : dPass s D = D := by unfold dPass; rw [hl, ← hkn]; exact h1
                rw [← e, h1, h2]
              rw [e] at hown
              have HOWN := Lib.hid hown
              have HFX := Lib.hid hfx
              have HMS : Hid ((5 - m') * 2 + foundOf (.bool (decide (m < m'))) < (5 - m) * 2 + 1) := by
                show _ < _
                rw [found_dec]
                split <;> omega
              clear hown e hfx hEl
              go_wp2_with fail
              go_roundw
              case rel => exact ⟨j + 1, m', _, rfl, hm', HFX.out, hbW, HOWN.out⟩
              case measure => exact HMS.out
end Go.Proofs.Ytmookobaljcpbaa
