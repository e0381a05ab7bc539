/-
  finalsOf of the program and finals of the reference: the walks.
-/
import Derived.Test.YtkbclcgdkbhgdaaQIvsView2
import Derived.Test.YtkbclcgdkbhgdaaQIvsRep0
import Derived.Test.YtkbclcgdkbhgdaaPkOrdX1
import Derived.IntWalk
namespace Go.Proofs.Ytkbclcgdkbhgdaa
open Go.RowKit Go.BigFrame
set_option linter.unusedVariables false

def fins (s : List OpV) (k : Nat) : List Int := [lw (fnB s 0) s k, lw (fnB s 1) s k, lw (fnB s 2) s k]
theorem fins_zero (s : List OpV) : fins s 0 = [-1, -1, -1] := rfl
theorem fins_succ {s : List OpV} {k X : Nat} {o : OpV} (h : s[k]? = some o) (hi : o.item = (X : Int)) (hX : X ≤ 2) : fins s (k + 1) = if (o.kind == 1 && endOf s o.tx != 3) = true then (fins s k).set X o.tx else fins s k := by
  unfold fins
  rw [lw_succ h, lw_succ h, lw_succ h]
  unfold fnB
  rw [hi]
  cases e : (o.kind == 1 && endOf s o.tx != 3)
  · have : ∀ b : Bool, (o.kind == 1 && b && endOf s o.tx != 3) = false := fun b => by
      cases b <;> cases h1 : (o.kind == 1) <;> cases h2 : (endOf s o.tx != 3) <;> simp_all
    simp only [this, Bool.false_eq_true, if_false]
  · simp only [Bool.and_eq_true] at e
    rw [e.1, e.2]
    simp only [Bool.true_and, Bool.and_true]
    rcases (by omega : X = 0 ∨ X = 1 ∨ X = 2) with rfl | rfl | rfl <;> simp
structure FnInv (w : World) (g : Nat) (rest : List Value) (s : List OpV) (k : Nat) (wr : World) : Prop where
  below : Below w.heap.size w wr
  row : RowIs wr g 3 (intCells (fins s k) ++ rest)
  ge : w.heap.size ≤ g
theorem FnInv.later {w : World} {g : Nat} {rest : List Value} {s : List OpV} {k : Nat} {wr W : World} (h : FnInv w g rest s k wr) (hb : Below wr.heap.size wr W) : FnInv w g rest s k W :=
  ⟨h.below.trans (hb.mono h.below.size), h.row.below hb (Nat.le_refl _), h.ge⟩
theorem FnInv.set {w : World} {g : Nat} {rest : List Value} {s : List OpV} {k X : Nat} {o : OpV} {wr : World} (h : FnInv w g rest s k wr) (ho : s[k]? = some o) (hi : o.item = (X : Int)) (hX : X ≤ 2) (hc : (o.kind == 1 && endOf s o.tx != 3) = true) : FnInv w g rest s (k + 1) (wr.setCell ⟨g, X, none⟩ (.int .i64 o.tx)) := by
  refine ⟨h.below.setCell (by simpa using h.ge) _, ?_, h.ge⟩
  rw [fins_succ ho hi hX, if_pos hc]
  exact row_setInt h.row (by simp [fins]; omega)
theorem FnInv.skip {w : World} {g : Nat} {rest : List Value} {s : List OpV} {k X : Nat} {o : OpV} {wr : World} (h : FnInv w g rest s k wr) (ho : s[k]? = some o) (hi : o.item = (X : Int)) (hX : X ≤ 2) (hc : (o.kind == 1 && endOf s o.tx != 3) = false) : FnInv w g rest s (k + 1) wr := by
  refine ⟨h.below, ?_, h.ge⟩
  rw [fins_succ ho hi hX, if_neg (by rw [hc]; simp)]
  exact h.row
theorem valid_item {o : OpV} (h : validOp o = true) : 0 ≤ o.item ∧ o.item ≤ 2 := by
  simp only [validOp, inR, Bool.and_eq_true, Bool.or_eq_true, decide_eq_true_eq, beq_iff_eq] at h
  rcases h.2 with ⟨_, h1⟩ | ⟨_, h1⟩ <;> omega

set_option maxRecDepth 100000 in
set_option maxHeartbeats 1000000 in
theorem finalsOf_any (A : Option Addr) (n c : Nat) (s : List OpV) (w : World) (hx : ROps w A n s) (hv : ∀ o ∈ s, validOp o = true) :
    Calls Try.prog 109 #[.slice A n c] w (RetInts w (finI s)) := by
  have hn := hx.2.1
  have hl := hx.1
  have HX := Lib.hid hx
  have HV := Lib.hid hv
  have HL := Lib.hid hl
  have hb0 : Below w.heap.size w (w.alloc (.cells #[.int .i64 (-1)] 3)) := (Below.refl _ w).alloc (Nat.le_refl _) _
  have HR := Lib.hid (Repeat3_any (some ⟨w.heap.size, 0, none⟩) 1 (-1) (w.alloc (.cells #[.int .i64 (-1)] 3)) (lit1 rfl (-1)))
  have HB0 := Lib.hid hb0
  clear hx hv hl hb0
  go_enter Try.func109, Try.ntmps109
  go_wp2_with fail
  refine HR.out.mono ?_
  rintro e w1 ⟨G, gc, rfl, hgc, hfr, hb1⟩
  obtain ⟨g, rest, rfl, hge, hrow⟩ := hfr.row (by simp)
  have HST : Hid (FnInv w g rest s 0 w1) := ⟨HB0.out.trans (hb1.mono HB0.out.size), hrow, by simp at hge; omega⟩
  have hgc3 : 3 ≤ gc := hgc
  clear hfr hb1 hge hrow HR hgc
  go_wp2_with fail
  go_loopw [10] (fun i wr => ∃ k : Nat, k ≤ n ∧ i = .int .i64 k ∧ FnInv w g rest s k wr) (fun i _ => n - (intOf i).toNat)
  case atStart => exact ⟨0, Nat.zero_le _, rfl, HST.out⟩
  case round =>
    clear HST
    obtain ⟨wo, rfl⟩ : ∃ wo : World, wo = wr := ⟨_, rfl⟩
    obtain ⟨k, hk, rfl, hI⟩ := hrel
    have HI := Lib.hid hI
    by_cases hlt : k < n
    · obtain ⟨b, off, o, rfl, hbl, ho, c0, c1, c2⟩ := (HX.out.below hI.below (Nat.le_refl _)).at_ hlt
      have hit := valid_item (HV.out o (List.mem_of_getElem? ho))
      have HO := Lib.hid ho
      obtain ⟨ot, ok, oi⟩ := o
      simp only at c0 c1 c2 hit
      obtain ⟨X, rfl⟩ := Int.eq_ofNat_of_zero_le hit.1
      have hX2 : X ≤ 2 := by omega
      obtain ⟨V, hV⟩ : ∃ V : World, V = wo.alloc (.cells #[.int .i64 ot, .int .i64 ok, .int .i64 (X : Int)] 32) := ⟨_, rfl⟩
      have hbV : Below wo.heap.size wo V := by rw [hV]; exact (Below.refl _ _).alloc (Nat.le_refl _) _
      have v0 : V.cell? ⟨wo.heap.size, 0, none⟩ = some (.int .i64 ot) := by rw [hV]; exact box_at _ _ _ _ _ rfl
      have v1 : V.cell? ⟨wo.heap.size, 1, none⟩ = some (.int .i64 ok) := by rw [hV]; exact box_at _ _ _ _ _ rfl
      have v2 : V.cell? ⟨wo.heap.size, 2, none⟩ = some (.int .i64 (X : Int)) := by rw [hV]; exact box_at _ _ _ _ _ rfl
      have HIV := Lib.hid (hI.later hbV)
      obtain ⟨E, hE⟩ : ∃ E, endOf s ot = E := ⟨_, rfl⟩
      have hcE := endOf_any (some ⟨b, off, none⟩) n c s ot V (HX.out.below (hI.later hbV).below (Nat.le_refl _))
      rw [hE] at hcE
      have HCE := Lib.hid hcE
      have HEE := Lib.hid hE
      have HV2 := Lib.hid hV
      have hwoV : wo.heap.size < V.heap.size := by rw [hV]; simp
      clear hI ho hV hbV hcE hE
      by_cases hk1 : ok = 1
      · subst hk1
        go_wp2_with fail
        rw [← HV2.out]
        refine HCE.out.mono ?_
        rintro e w2 ⟨rfl, hb2⟩
        have HI2 := Lib.hid (HIV.out.later hb2)
        have e0 := (hb2.cell (p := ⟨wo.heap.size, 0, none⟩) hwoV).trans v0
        have e2 := (hb2.cell (p := ⟨wo.heap.size, 2, none⟩) hwoV).trans v2
        clear hb2 v0 v1 v2 HCE c0 c1 c2
        by_cases h3 : E = 3
        · subst h3
          have HN := Lib.hid (HI2.out.skip HO.out rfl hX2 (by simp only [HEE.out]; rfl))
          go_wp2_with fail
          go_roundw
          case rel => exact ⟨k + 1, by omega, by go_num, HN.out⟩
          case measure => simp [intOf]; omega
        · have h3' : (E != 3) = true := by rw [bne_iff_ne]; exact h3
          have HN := Lib.hid (HI2.out.set HO.out rfl hX2 (by simp only [HEE.out, h3']; rfl))
          have hfz := HI2.out.row.frozen X
          have hX3 : (X : Int) < 3 := by omega
          have hX0 : (0 : Int) ≤ (X : Int) := by omega
          have hgx : w2.cell? ⟨g, X, none⟩ = some (.int .i64 ((fins s k).getD X 0)) := by
            refine HI2.out.row.cell ?_
            rw [List.getElem?_append_left (by simp [intCells, fins]; omega)]
            rcases (by omega : X = 0 ∨ X = 1 ∨ X = 2) with rfl | rfl | rfl <;> rfl
          go_wp2_with fail
          go_roundw
          case rel => exact ⟨k + 1, by omega, by go_num, HN.out⟩
          case measure => simp [intOf]; omega
      · have hk1' : (ok == 1) = false := by rw [beq_eq_false_iff_ne]; exact hk1
        have HN := Lib.hid (HIV.out.skip HO.out rfl hX2 (by simp only [hk1', Bool.false_and]))
        clear v0 v1 v2
        go_wp2_with fail
        go_roundw
        case rel => exact ⟨k + 1, by omega, by go_num, by rw [← HV2.out]; exact HN.out⟩
        case measure => simp [intOf]; omega
    · obtain rfl : k = n := by omega
      have HO : Hid (RetInts w (finI s) (.returned (.slice (some ⟨g, 0, none⟩) 3 gc)) wo) := by
        have hr := hI.row
        rw [← HL.out] at hr
        refine RetInts.mk rfl hgc3 ⟨RowIs.ints (ys := finI s) hr rfl (by omega), fun ad had => ?_⟩ hI.below
        injection had with had
        subst had
        exact ⟨_, _, rfl, hI.ge, hr, by simp [intCells, fins]⟩
      clear hI
      go_wp2_with fail
      go_ret
      exact HO.out
end Go.Proofs.Ytkbclcgdkbhgdaa
