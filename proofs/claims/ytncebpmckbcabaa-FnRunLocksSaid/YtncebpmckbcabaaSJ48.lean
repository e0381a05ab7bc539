/-
  Texts that the proof rests on, joined: part 48.
-/
import Derived.Laws.EntriesVeiled
import Derived.Test.YtncebpmckbcabaaSJ1
import Derived.Test.YtncebpmckbcabaaSJ3
import Derived.Test.YtncebpmckbcabaaSJ23
import Derived.Test.YtncebpmckbcabaaSJ44
import Derived.Test.YtncebpmckbcabaaSJ46
import Derived.Test.YtncebpmckbcabaaSJ47
namespace Go.Proofs.Ytncebpmckbcabaa
open Go.RowKit Go.BigFrame
set_option linter.unusedVariables false

theorem str_eqB (b : ByteArray) (r : Rul) : (b.toList == r.str.data.toList) = decide (b = r.str) := by
  by_cases h : b = r.str
  · rw [decide_eq_true h, h, ByteArray.toList_eq]; simp
  · rw [decide_eq_false h]; exact str_beq h
theorem runOk_rul {b : ByteArray} {s : List OpV} (h : runOk b s = true) : ∃ r, rulOf b = some r ∧ b = r.str := by
  unfold runOk at h
  cases hr : rulOf b with
  | none => rw [hr] at h; cases h
  | some r => exact ⟨r, rfl, rulOf_str hr⟩
theorem bits_at {R : List Nat} (h4 : Rows4 R) {w : World} {A : Option Addr} (hr : RInts w A 4 (rowsI R)) {t : Nat} (ht : t < 4) : ∃ b off, A = some ⟨b, off, none⟩ ∧ b < w.heap.size ∧ w.cell? ⟨b, off + t, none⟩ = some (.int .i64 ((R.getD t 0 : Nat) : Int)) ∧ R.getD t 0 < 16 := by
  obtain ⟨b, off, hA, hl, hc⟩ := hr.2.2 (by omega)
  obtain ⟨_, h16⟩ := rowsI_at h4 (show t ≤ 3 by omega)
  refine ⟨b, off, hA, hl, hc t _ ?_, h16⟩
  unfold rowsI
  rw [List.getElem?_map, List.getD_eq_getElem?_getD, List.getElem?_eq_getElem (by rw [h4.1]; exact ht)]
  rfl
theorem runOk_items {b : ByteArray} {s : List OpV} (h : runOk b s = true) : ItemsOk s := by
  unfold runOk at h
  simp only [Bool.and_eq_true] at h
  exact items_valid ((validS_iff s).1 h.2.1).2.1
set_option maxRecDepth 100000 in
set_option maxHeartbeats 4000000 in
theorem law_waitsOf (A : Option Addr) (n c : Nat) (w : World) (hin : BytesIn w A n c) :
    Calls Try.prog 4 #[.slice A n c] w fun e w' => e = .returned (.bool true) ∧ Below w.heap.size w w' := by
  obtain ⟨hx, hnc⟩ := hin
  have hn := hx.1
  by_cases hbig : 1048576 < n
  · clear hx
    go_enter Try.func4, Try.ntmps4
    go_wp2_with fail
    go_ret
    exact ⟨rfl, Below.refl _ _⟩
  · have HD := Lib.hid (DrawWaitsOf_any A n c w hx hnc)
    clear hx
    go_enter Try.func4, Try.ntmps4
    go_wp2_with fail
    refine HD.out.mono ?_
    rintro e w1 ⟨b, S, m, d, s, rfl, hmd, hS, hm, hb1⟩
    have HS := Lib.hid hS
    have hlen := hS.1
    have HB1 := Lib.hid hb1
    clear HD hS hb1
    cases hok : runOk b s
    · have hv : waitsV b s = [] := by unfold waitsV; rw [hok]; rfl
      have c1 : ∀ W : World, Below w1.heap.size w1 W → Calls Try.prog 18 #[.string b, .slice S m d] W fun e w' => ∃ G dg, e = .returned (.slice G 0 dg) ∧ RInts w' G 0 [] ∧ Below W.heap.size W w' := fun W hW => by
        have := WaitsOf_any b S m d s W (HS.out.below hW (Nat.le_refl _)) hmd
        rw [hv] at this
        exact this.mono fun e w' ⟨G, dg, h1, _, h3, h4⟩ => ⟨G, dg, h1, h3.1, h4⟩
      have c2 : ∀ W : World, Below w1.heap.size w1 W → Calls Try.prog 20 #[.string b, .slice S m d] W fun e w' => ∃ Y dy, e = .returned (.slice Y 0 dy) ∧ RInts w' Y 0 [] ∧ Below W.heap.size W w' := fun W hW => by
        have := sWaitsOf_any b S m d s W (HS.out.below hW (Nat.le_refl _)) hmd
        rw [hv] at this
        exact this.mono fun e w' ⟨Y, ny, dy, h1, h3, h4⟩ => by
          obtain rfl : ny = 0 := h3.1.symm
          exact ⟨Y, dy, h1, h3, h4⟩
      have C1 := Lib.hid c1
      have C2 := Lib.hid c2
      clear c1 c2 hok hv
      go_wp2_with fail
      refine (C1.out w1 (Below.refl _ _)).mono ?_
      rintro e w2 ⟨G, dg, rfl, hG, hb2⟩
      have HG := Lib.hid hG
      clear hG
      go_wp2_with fail
      refine (C2.out w2 hb2).mono ?_
      rintro e w3 ⟨Y, dy, rfl, hY, hb3⟩
      have HE := Lib.hid (equalInts_any G Y 0 0 dg dy [] [] w3 (HG.out.below hb3 (Nat.le_refl _)) hY)
      have HB3 := Lib.hid (hb2.trans (hb3.mono hb2.size))
      have HG3 := Lib.hid (HG.out.below hb3 (Nat.le_refl _))
      clear hY hb2 hb3 HG
      go_wp2_with fail
      refine HE.out.mono ?_
      rw [beq_self_eq_true]
      rintro e w4 ⟨rfl, hb4⟩
      have HB4 := Lib.hid (HB3.out.trans (hb4.mono HB3.out.size))
      have HG4 := Lib.hid (HG3.out.below hb4 (Nat.le_refl _))
      clear hb4 HB3 HG3 HE
      go_wp2_with fail
      refine (C2.out w4 HB4.out).mono ?_
      rintro e w5 ⟨Y2, dy2, rfl, hY2, hb5⟩
      have HE := Lib.hid (equalInts_any G Y2 0 0 dg dy2 [] [] w5 (HG4.out.below hb5 (Nat.le_refl _)) hY2)
      have HB5 := Lib.hid (HB4.out.trans (hb5.mono HB4.out.size))
      clear hY2 hb5 HG4
      go_wp2_with fail
      refine HE.out.mono ?_
      rw [beq_self_eq_true]
      rintro e w6 ⟨rfl, hb6⟩
      have hb := HB1.out.trans ((HB5.out.trans (hb6.mono HB5.out.size)).mono HB1.out.size)
      go_wp2_with fail
      go_ret
      exact ⟨rfl, hb⟩
    · obtain ⟨r, hr, hbr⟩ := runOk_rul hok
      obtain ⟨R, hR⟩ : ∃ R, waitsR (runDV b s) = R := ⟨_, rfl⟩
      have hv : waitsV b s = rowsI R := by unfold waitsV; rw [hok, hR]; rfl
      have h4 : Rows4 R := by rw [← hR]; exact waitsR_ok _
      have hdv := runDV_of hok hr
      have hnx : nextD r (runD r s) = none := runD_next (runOk_items hok)
      have hturn : turnB R = false := by rw [← hR, hdv]; exact waits_turn hnx
      obtain ⟨bd, hbd⟩ : ∃ z, (b.toList == [100, 105, 101]) = z := ⟨_, rfl⟩
      obtain ⟨bw, hbw⟩ : ∃ z, (b.toList == [119, 111, 117, 110, 100]) = z := ⟨_, rfl⟩
      have hdie : bd = true → ∀ t u : Nat, (R.getD t 0).testBit u = true → ¬ (u : Int) < (t : Int) := fun h t u hbit => by
        have e : b = Rul.die.str := by
          have := str_eqB b .die
          rw [show Rul.die.str.data.toList = [100, 105, 101] from rfl, hbd, h] at this
          exact of_decide_eq_true this.symm
        have hrd : r = .die := by
          rw [e] at hr
          have : rulOf Rul.die.str = some .die := by decide
          rw [this] at hr
          injection hr with hr
          exact hr.symm
        rw [← hR, hdv] at hbit
        subst hrd
        have := edge_die hnx hbit
        omega
      have hwnd : bw = true → ∀ t u : Nat, (R.getD t 0).testBit u = true → ¬ (t : Int) < (u : Int) := fun h t u hbit => by
        have e : b = Rul.wound.str := by
          have := str_eqB b .wound
          rw [show Rul.wound.str.data.toList = [119, 111, 117, 110, 100] from rfl, hbw, h] at this
          exact of_decide_eq_true this.symm
        have hrd : r = .wound := by
          rw [e] at hr
          have : rulOf Rul.wound.str = some .wound := by decide
          rw [this] at hr
          injection hr with hr
          exact hr.symm
        rw [← hR, hdv] at hbit
        subst hrd
        have := edge_wound hnx hbit
        omega
      have c1 : ∀ W : World, Below w1.heap.size w1 W → Calls Try.prog 18 #[.string b, .slice S m d] W fun e w' => ∃ G dg, e = .returned (.slice G 4 dg) ∧ RInts w' G 4 (rowsI R) ∧ Below W.heap.size W w' := fun W hW => by
        have := WaitsOf_any b S m d s W (HS.out.below hW (Nat.le_refl _)) hmd
        rw [hv] at this
        have hl4 : (rowsI R).length = 4 := by unfold rowsI; rw [List.length_map, h4.1]
        exact this.mono fun e w' ⟨G, dg, h1, _, h3, h5⟩ => ⟨G, dg, by rw [← hl4]; exact h1, by have := h3.1; rw [hl4] at this; exact this, h5⟩
      have c2 : ∀ W : World, Below w1.heap.size w1 W → Calls Try.prog 20 #[.string b, .slice S m d] W fun e w' => ∃ Y dy, e = .returned (.slice Y 4 dy) ∧ RInts w' Y 4 (rowsI R) ∧ Below W.heap.size W w' := fun W hW => by
        have := sWaitsOf_any b S m d s W (HS.out.below hW (Nat.le_refl _)) hmd
        rw [hv] at this
        have hl4 : (rowsI R).length = 4 := by unfold rowsI; rw [List.length_map, h4.1]
        exact this.mono fun e w' ⟨Y, ny, dy, h1, h3, h5⟩ => by
          obtain rfl : ny = 4 := h3.1.symm.trans hl4
          exact ⟨Y, dy, h1, h3, h5⟩
      have C1 := Lib.hid c1
      have C2 := Lib.hid c2
      have HDI := Lib.hid hdie
      have HWO := Lib.hid hwnd
      have HT := Lib.hid hturn
      have H4 := Lib.hid h4
      clear c1 c2 hok hv hr hbr hR h4 hdv hnx hturn hdie hwnd
      go_wp2_with fail
      refine (C1.out w1 (Below.refl _ _)).mono ?_
      rintro e w2 ⟨G, dg, rfl, hG, hb2⟩
      have HG := Lib.hid hG
      clear hG
      go_wp2_with fail
      refine (C2.out w2 hb2).mono ?_
      rintro e w3 ⟨Y, dy, rfl, hY, hb3⟩
      have HE := Lib.hid (equalInts_any G Y 4 4 dg dy (rowsI R) (rowsI R) w3 (HG.out.below hb3 (Nat.le_refl _)) hY)
      have HB3 := Lib.hid (hb2.trans (hb3.mono hb2.size))
      have HG3 := Lib.hid (HG.out.below hb3 (Nat.le_refl _))
      clear hY hb2 hb3 HG
      go_wp2_with fail
      refine HE.out.mono ?_
      rw [beq_self_eq_true]
      rintro e w4 ⟨rfl, hb4⟩
      have HB4 := Lib.hid (HB1.out.trans ((HB3.out.trans (hb4.mono HB3.out.size)).mono HB1.out.size))
      have HG4 := Lib.hid (HG3.out.below hb4 (Nat.le_refl _))
      clear hb4 HB3 HG3 HE C1 C2 HS HB1
      go_wp2_with fail
      go_loopw [6] (fun i wr => ∃ k : Nat, k ≤ 4 ∧ i = .int .i64 k ∧ RInts wr G 4 (rowsI R) ∧ Below w.heap.size w wr) (fun i _ => 4 - (intOf i).toNat)
      case atStart => exact ⟨0, by omega, rfl, HG4.out, HB4.out⟩
      case round =>
        clear HG4 HB4
        obtain ⟨wo, rfl⟩ : ∃ z : World, z = wr := ⟨_, rfl⟩
        obtain ⟨k, hk, rfl, hGr, hb⟩ := hrel
        have HGR := Lib.hid hGr
        have HBR := Lib.hid hb
        clear hGr hb
        by_cases hlt : k < 4
        · have hk0 : (0 : Int) ≤ (k : Int) := by omega
          have hk4 : (k : Int) < 4 := by omega
          go_wp2_with fail
          go_loopw [7] (fun i wr => ∃ q : Nat, q ≤ 4 ∧ i = .int .i64 q ∧ RInts wr G 4 (rowsI R) ∧ Below w.heap.size w wr) (fun i _ => 4 - (intOf i).toNat)
          case atStart => exact ⟨0, by omega, rfl, HGR.out, HBR.out⟩
          case round =>
            clear HGR HBR
            obtain ⟨wi, rfl⟩ : ∃ z : World, z = wr := ⟨_, rfl⟩
            obtain ⟨q, hq, rfl, hGr, hb⟩ := hrel
            by_cases hlt2 : q < 4
            · obtain ⟨g, og, hGA, hgl, hcell, h16⟩ := bits_at H4.out hGr hlt
              subst hGA
              have HGR := Lib.hid hGr
              have HBR := Lib.hid hb
              have hq0 : (0 : Int) ≤ (q : Int) := by omega
              have hq4 : (q : Int) < 4 := by omega
              obtain ⟨x, hxv⟩ : ∃ x, R.getD k 0 = x := ⟨_, rfl⟩
              have hd1 : bd = true → x.testBit q = true → ¬ (q : Int) < (k : Int) := fun h1 h2 => by
                have := HDI.out h1 k q (by rw [hxv]; exact h2)
                omega
              have hw1 : bw = true → x.testBit q = true → ¬ (k : Int) < (q : Int) := fun h1 h2 => by
                have := HWO.out h1 k q (by rw [hxv]; exact h2)
                omega
              rw [hxv] at hcell h16
              obtain ⟨bb, hbb⟩ : ∃ z, x.testBit q = z := ⟨_, rfl⟩
              rw [hbb] at hd1 hw1
              have hB : Calls Try.prog 21 #[.int .i64 (x : Int), .int .i64 (q : Int)] wi fun e w' => e = .returned (.int .i64 (if bb then 1 else 0)) ∧ wi = w' := by
                have := lbit_any x q wi (by omega) (by omega); rw [hbb] at this; exact this
              have HB := Lib.hid hB
              clear hB hbb hGr hb hxv
              cases bb
              · clear hd1 hw1
                go_wp2_with fail
                refine HB.out.mono ?_
                rintro e w5 ⟨rfl, rfl⟩
                go_wp2_with fail
                go_roundw
                case rel => exact ⟨q + 1, by omega, by go_num, HGR.out, HBR.out⟩
                case measure => simp [intOf]; omega
              · cases bd
                · cases bw
                  · clear hd1 hw1
                    go_wp2_with fail
                    refine HB.out.mono ?_
                    rintro e w5 ⟨rfl, rfl⟩
                    go_wp2_with fail
                    go_roundw
                    case rel => exact ⟨q + 1, by omega, by go_num, HGR.out, HBR.out⟩
                    case measure => simp [intOf]; omega
                  · have h1 := hw1 rfl rfl
                    clear hd1 hw1
                    go_wp2_with fail
                    refine HB.out.mono ?_
                    rintro e w5 ⟨rfl, rfl⟩
                    go_wp2_with fail
                    go_roundw
                    case rel => exact ⟨q + 1, by omega, by go_num, HGR.out, HBR.out⟩
                    case measure => simp [intOf]; omega
                · have h0 := hd1 rfl rfl
                  cases bw
                  · clear hd1 hw1
                    go_wp2_with fail
                    refine HB.out.mono ?_
                    rintro e w5 ⟨rfl, rfl⟩
                    go_wp2_with fail
                    go_roundw
                    case rel => exact ⟨q + 1, by omega, by go_num, HGR.out, HBR.out⟩
                    case measure => simp [intOf]; omega
                  · have h1 := hw1 rfl rfl
                    clear hd1 hw1
                    go_wp2_with fail
                    refine HB.out.mono ?_
                    rintro e w5 ⟨rfl, rfl⟩
                    go_wp2_with fail
                    go_roundw
                    case rel => exact ⟨q + 1, by omega, by go_num, HGR.out, HBR.out⟩
                    case measure => simp [intOf]; omega
            · have HF := Lib.hid (And.intro hGr hb)
              have hq4 : ¬ (q : Int) < 4 := by omega
              clear hGr hb
              go_wp2_with fail
              go_roundw
              case rel => exact ⟨k + 1, by omega, by go_num, HF.out⟩
              case measure => simp [intOf]; omega
        · have hk4 : ¬ (k : Int) < 4 := by omega
          have HTU := Lib.hid (turns_any G dg R wo HGR.out H4.out)
          go_wp2_with fail
          refine HTU.out.mono ?_
          rw [HT.out]
          rintro e w6 ⟨rfl, hb6⟩
          have hbF := HBR.out.trans (hb6.mono HBR.out.size)
          go_wp2_with fail
          go_ret
          exact ⟨rfl, hbF⟩
end Go.Proofs.Ytncebpmckbcabaa
namespace Go.Proofs.Ytncebpmckbcabaa
open Go.RowKit Go.BigFrame
set_option linter.unusedVariables false

def faultZ (B : Nat → Bool) (n : Nat) : Int := match (List.range n).find? B with | some i => (i : Int) | none => -1
theorem faultZ_hit {B : Nat → Bool} {n k : Nat} (hk : k < n) (h : B k = true) (hno : ∀ j, j < k → B j = false) : faultZ B n = (k : Int) := by
  have : (List.range n).find? B = some k := by
    rw [List.find?_eq_some_iff_getElem]
    exact ⟨h, k, by simpa using hk, by simp, fun j hj => by simp [hno j hj]⟩
  unfold faultZ; rw [this]
theorem faultZ_none {B : Nat → Bool} {n : Nat} (hno : ∀ j, j < n → B j = false) : faultZ B n = -1 := by
  have : (List.range n).find? B = none := by
    rw [List.find?_eq_none]
    intro x hx
    rw [hno x (List.mem_range.1 hx)]; simp
  unfold faultZ; rw [this]
def FaultP (s : List OpV) (w : World) (z : Int) (e : Ending) (w' : World) : Prop := e = .returned (.tuple #[.int .i64 (if validS s then z else -1), .bool (validS s)]) ∧ Below w.heap.size w w'
theorem FaultP.no {s : List OpV} {w w' : World} {z : Int} (hv : validS s = false) (hb : Below w.heap.size w w') : FaultP s w z (.returned (.tuple #[.int .i64 (-1), .bool false])) w' := ⟨by rw [hv]; rfl, hb⟩
theorem FaultP.yes {s : List OpV} {w w' : World} {z i : Int} (hv : validS s = true) (hz : z = i) (hb : Below w.heap.size w w') : FaultP s w z (.returned (.tuple #[.int .i64 i, .bool true])) w' := ⟨by rw [hv, hz]; rfl, hb⟩
set_option maxHeartbeats 1000000 in
theorem rules_any (w : World) : Calls Try.prog 112 #[] w fun e w' => e = .returned (.slice (some ⟨w.heap.size, 0, none⟩) 5 5) ∧ w' = w.alloc (.cells #[.string { data := #[114, 101, 99, 111, 118, 101, 114, 97, 98, 108, 101] }, .func (.func 138) #[] #[], .string { data := #[99, 97, 115, 99, 97, 100, 101, 115] }, .func (.func 140) #[] #[], .string { data := #[115, 116, 114, 105, 99, 116] }, .func (.func 141) #[] #[], .string { data := #[114, 105, 103, 111, 114, 111, 117, 115] }, .func (.func 144) #[] #[], .string { data := #[99, 111, 109, 109, 105, 116, 115] }, .func (.func 145) #[] #[]] 127) := by
  go_enter Try.func112, Try.ntmps112
  go_wp2_with fail
  go_ret
  exact ⟨rfl, rfl⟩
end Go.Proofs.Ytncebpmckbcabaa
namespace Go.Proofs.Ytncebpmckbcabaa
open Go.RowKit Go.BigFrame
set_option linter.unusedVariables false

theorem faultZ_iff {B : Nat → Bool} {n : Nat} : faultZ B n = -1 ↔ ∀ j, j < n → B j = false := by
  refine ⟨fun h j hj => ?_, faultZ_none⟩
  cases hb : B j
  · rfl
  · exfalso
    unfold faultZ at h
    cases e : (List.range n).find? B with
    | none =>
      have := List.find?_eq_none.1 e j (List.mem_range.2 hj)
      exact this hb
    | some i =>
      rw [e] at h
      simp only at h
      omega
theorem step_struct : Try.prog.underlying 73 = some (.struct (Try.prog.fieldsOf 73)) := by kernel_rfl
theorem step_held : Try.prog.stoodInHeld 73 = false := by kernel_rfl
theorem step_guard : Try.prog.eqGuardType Try.prog.depth 73 = false := by kernel_rfl

theorem neq_step (w : World) (a b c a' b' c' : Int) :
    (binOp .neq 73 (.agg #[.int .i64 a, .int .i64 b, .int .i64 c]) (.agg #[.int .i64 a', .int .i64 b', .int .i64 c'])).run Try.prog w = .ok (.bool (!(a == a' && b == b' && c == c'))) w := by
  rw [run_neq_struct, show (10000 : Nat) = 9999 + 1 from rfl, run_equalIn_agg w 9999 73 _ _ step_struct step_held]
  cases h1 : (a == a') <;> cases h2 : (b == b') <;> cases h3 : (c == c') <;> simp [go_sem, Try.underlying73, h1, h2, h3]
set_option maxRecDepth 100000 in
set_option maxHeartbeats 1000000 in
theorem equalSteps_any (A B : Option Addr) (n m c d : Nat) (xs ys : List OpV) (w : World) (hx : ROps w A n xs) (hy : ROps w B m ys) :
    Calls Try.prog 65 #[.slice A n c, .slice B m d] w fun e w' => e = .returned (.bool (xs == ys)) ∧ Below w.heap.size w w' := by
  have hn := hx.2.1
  have hl := hx.1
  have hm := hy.2.1
  have hly := hy.1
  have HX := Lib.hid hx
  have HY := Lib.hid hy
  clear hx hy
  by_cases hnm : n = m
  · subst hnm
    go_enter Try.func65, Try.ntmps65
    go_wp2_with fail
    go_loopw [5] (fun i wr => ∃ k : Nat, k ≤ n ∧ i = .int .i64 k ∧ Below w.heap.size w wr ∧ ∀ j, j < k → xs[j]? = ys[j]?) (fun i _ => n - (intOf i).toNat)
    case atStart => exact ⟨0, Nat.zero_le _, rfl, Below.refl _ _, by omega⟩
    case round =>
      obtain ⟨k, hk, rfl, hb, hno⟩ := hrel
      by_cases hlt : k < n
      · obtain ⟨b, off, x, rfl, hbl, hox, c0, c1, c2⟩ := (HX.out.below hb (Nat.le_refl _)).at_ hlt
        obtain ⟨b', off', y, rfl, hbl', hoy, d0, d1, d2⟩ := (HY.out.below hb (Nat.le_refl _)).at_ hlt
        have HN : Hid (x = y → ∀ j, j < k + 1 → xs[j]? = ys[j]?) := fun h j hj => by
          by_cases e : j = k
          · subst e; rw [hox, hoy, h]
          · exact hno j (by omega)
        have HT : Hid (¬ x = y → (xs == ys) = false) := fun h => by
          rw [beq_eq_false_iff_ne]
          intro e
          rw [e, hoy] at hox
          injection hox with hox
          exact h hox.symm
        have L0 := Later.cell c0
        have L1 := Later.cell c1
        have L2 := Later.cell c2
        have M0 := Later.cell d0
        have M1 := Later.cell d1
        have M2 := Later.cell d2
        have hki : (k : Int) < (n : Int) := by omega
        obtain ⟨bb, hbb⟩ : ∃ bb, (y == x) = bb := ⟨_, rfl⟩
        have HB := Lib.hid hbb
        obtain ⟨x0, x1, x2⟩ := x
        obtain ⟨y0, y1, y2⟩ := y
        simp only at L0 L1 L2 M0 M1 M2
        have hbq := beq_op x0 x1 x2 y0 y1 y2
        rw [hbb] at hbq
        have hne : ∀ w : World, (binOp .neq 73 (.agg #[.int .i64 x0, .int .i64 x1, .int .i64 x2]) (.agg #[.int .i64 y0, .int .i64 y1, .int .i64 y2])).run Try.prog w = .ok (.bool (!bb)) w := fun w => by
          rw [neq_step, hbq]
        have hgd := step_guard
        clear hno hox hoy c0 c1 c2 d0 d1 d2 hbb hbq
        cases bb
        · simp only [Bool.not_false] at hne
          have hs := Lib.hid (HT.out (fun e => by have := HB.out; rw [beq_eq_false_iff_ne] at this; exact this e.symm))
          go_wp2_with fail
          refine region_later (by kernel_rfl) (by kernel_rfl) ?_
          repeat (go_big_quiet_step (fail))
          refine wpQuiet_nil ?_
          rintro _ ⟨u, rfl⟩
          have hbu := hb.trans (u.2.mono hb.size)
          go_wp2_with fail
          go_ret
          exact ⟨ret_bool hs.out.symm, hbu⟩
        · simp only [Bool.not_true] at hne
          have hs := Lib.hid (HN.out (by have := HB.out; rw [beq_iff_eq] at this; exact this.symm))
          go_wp2_with fail
          refine region_later (by kernel_rfl) (by kernel_rfl) ?_
          repeat (go_big_quiet_step (fail))
          refine wpQuiet_nil ?_
          rintro _ ⟨u, rfl⟩
          have hbu := hb.trans (u.2.mono hb.size)
          go_wp2_with fail
          go_roundw
          case rel => exact ⟨k + 1, by omega, by go_num, hbu, hs.out⟩
          case measure => simp [intOf]; omega
      · have hs : Hid ((xs == ys) = true) := by
          show _ = _
          rw [beq_iff_eq]
          exact eq_of_get (by omega) (fun j hj => hno j (by omega))
        clear hno
        go_wp2_with fail
        go_ret
        exact ⟨ret_bool hs.out.symm, hb⟩
  · have hs : Hid ((xs == ys) = false) := by
      show _ = _
      rw [beq_eq_false_iff_ne]
      intro e
      rw [e] at hl
      omega
    go_enter Try.func65, Try.ntmps65
    go_wp2_with fail
    go_ret
    exact ⟨ret_bool hs.out.symm, Below.refl _ _⟩

end Go.Proofs.Ytncebpmckbcabaa
