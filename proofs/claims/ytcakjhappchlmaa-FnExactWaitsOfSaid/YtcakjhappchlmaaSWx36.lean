/-
  Texts that the proof rests on, joined: part 36.
-/
import Derived.Test.YtcakjhappchlmaaSWx35
namespace Go.Proofs.Ytcakjhappchlmaa
open Go.RowKit Go.BigFrame
set_option linter.unusedVariables false

set_option maxRecDepth 100000 in
set_option maxHeartbeats 4000000 in
theorem DeleteFunc_run (B : Nat) (A : Option Addr) (n c b : Nat) (xs : List OpV) (t : Int) (w : World) (hown : w.ownsRow B 92 3 (.slice A n c) n (opCells xs)) (hn : n ≤ 30000) (hc : RowIs w b 3 [.int .i64 t]) :
    Calls Try.prog 180 #[.slice A n c, .func (.func 181) #[] #[.pointer (some ⟨b, 0, none⟩)]] w (DelPost B A n c (xs.filter fun o => o.tx != t) w) := by
  have hl := own_lenOps hown
  have hro : ROps w A n xs := ROps.of_own hown (by omega)
  have hclo : ClosOp w 181 #[.pointer (some ⟨b, 0, none⟩)] xs (fun o => o.tx == t) := ⟨runs_abort1, fun W o hW _ => abort1_any o t b W (RowIs.cell (RowIs.below hc hW (Nat.le_refl _)) rfl)⟩
  have HI := Lib.hid (IndexFuncOp_any A n c xs _ _ _ w hro hclo)
  have hnc : n ≤ c := by
    obtain ⟨A', c', hv, h⟩ := own_form2 hown
    injection hv with _ _ hv
    omega
  have hrun := runs_abort1
  unfold Runs at hrun
  have HO := Lib.hid hown
  have HC := Lib.hid hc
  clear hown hro hclo hc
  go_enter Try.func180, Try.ntmps180
  go_wp2_with fail
  refine HI.out.mono ?_
  rintro e w1 ⟨hb1, ⟨ha, rfl⟩ | ⟨ha, k, hk, ⟨o, hok, hot⟩, hno, rfl⟩⟩
  · have hfl : (xs.filter fun o => o.tx != t) = xs := filter_all fun o ho => by
      have := List.any_eq_false.1 ha o ho
      simpa using this
    have HF : Hid (DelPost B A n c (xs.filter fun o => o.tx != t) w (.returned (.slice A n c)) w1) := by
      show DelPost _ _ _ _ _ _ _ _
      rw [hfl]
      exact ⟨by rw [hl], by rw [hl]; exact own_below HO.out hb1, grown_below hb1⟩
    clear ha hfl
    go_wp2_with fail
    go_ret
    exact HF.out
  · obtain ⟨g, rest, rfl, hBg, hrow, _, hcm, hfull⟩ := own_cells HO.out (by omega)
    have hot' : o.tx = t := by simpa using hot
    have hft : xs.take k = (xs.take k).filter fun o => o.tx != t := by
      symm
      refine filter_all fun q hq => ?_
      obtain ⟨j, hj⟩ := List.mem_iff_getElem?.1 hq
      rw [List.getElem?_take] at hj
      split at hj
      · rename_i hjk
        simpa using hno j hjk q hj
      · cases hj
    have hd : DelI w g c k xs t k (k + 1) xs rest w1 := ⟨RowIs.below hrow hb1 (Nat.le_refl _), rfl, hfull, by rw [take_snoc hok, List.filter_append, ← hft]; simp [hot'], fun _ _ => rfl, by omega, by omega, grown_below hb1⟩
    have hgb : g ≠ b := fun e => by
      subst e
      exact own_ne HO.out HC.out (by decide) rfl
    have hgw := RowIs.lt hrow
    have HST : Hid (DelI w g c k xs t k (k + 1) xs rest w1 ∧ RowIs w1 b 3 [.int .i64 t]) := ⟨hd, RowIs.below HC.out hb1 (Nat.le_refl _)⟩
    have hkn : k < n := by omega
    have hkb : ((k : Int) == -1) = false := by simp
    clear hd hft hno ha hrow hok hot hot' HI hfull
    go_wp2_with fail
    go_loopw [5, 6] (fun i j wr => ∃ (a q : Nat) (ys : List OpV), i = .int .i64 a ∧ j = .int .i64 q ∧ DelI w g c k xs t a q ys rest wr ∧ RowIs wr b 3 [.int .i64 t]) (fun _ j _ => n - (intOf j).toNat)
    case atStart => exact ⟨k, k + 1, xs, rfl, by go_num, HST.out.1, HST.out.2⟩
    case round =>
      clear HST
      obtain ⟨wo, rfl⟩ : ∃ z : World, z = wr := ⟨_, rfl⟩
      obtain ⟨a, q, ys, rfl, rfl, hD, hcb⟩ := hrel
      have hqn := hD.le
      have haq := hD.lt
      have hyl := hD.len
      by_cases hlt : q < n
      · have ho : xs[q]? = some (xs[q]'(by omega)) := List.getElem?_eq_getElem (by omega)
        have hyo : ys[q]? = some (xs[q]'(by omega)) := (hD.back q (Nat.le_refl _)).trans ho
        generalize xs[q]'(by omega) = o at ho hyo
        obtain ⟨_, _, o', hA', _, ho', c0, c1, c2⟩ := (RowIs.ops hD.row (n := n) (by omega) (by omega)).at_ hlt
        injection hA' with hA'
        injection hA' with e1 e2 _
        subst e1; subst e2
        rw [hyo] at ho'
        injection ho' with ho'
        subst ho'
        simp only [Nat.zero_add] at c0 c1 c2
        obtain ⟨W, hW⟩ : ∃ W : World, W = wo.alloc (.cells #[.int .i64 o.tx, .int .i64 o.kind, .int .i64 o.item] 92) := ⟨_, rfl⟩
        have hbW : Below wo.heap.size wo W := by rw [hW]; exact (Below.refl _ _).alloc (Nat.le_refl _) _
        have hbx : RowIs W wo.heap.size 92 [.int .i64 o.tx, .int .i64 o.kind, .int .i64 o.item] := by rw [hW]; exact heap_alloc_new wo _
        have hcW := RowIs.below hcb hbW (Nat.le_refl _)
        have hcl := abort1_any o t b W (RowIs.cell hcW rfl)
        have hgo := RowIs.lt hD.row
        have HW := Lib.hid hW
        have HBX := Lib.hid hbx
        have HCW := Lib.hid hcW
        have HD := Lib.hid hD
        have HON := Lib.hid ho
        have HBW := Lib.hid hbW
        obtain ⟨tx, kd, it⟩ := o
        unfold OpV.val at hcl
        simp only at hcl c0 c1 c2 HW HBX
        have hqi : (q : Int) < (n : Int) := by omega
        have hq0 : (0 : Int) ≤ (q : Int) := by omega
        have hai : (a : Int) < (n : Int) := by omega
        have ha0 : (0 : Int) ≤ (a : Int) := by omega
        by_cases ht : tx = t
        · have htb : (tx == t) = true := by simpa using ht
          rw [htb] at hcl
          have HCL := Lib.hid hcl
          have HT := Lib.hid ht
          clear ht hcl hbx hcW hD ho hyo hbW hW
          go_wp2_with fail
          rw [← HW.out]
          refine HCL.out.mono ?_
          rintro e w5 ⟨rfl, hb5⟩
          have hb := HBW.out.trans (hb5.mono HBW.out.size)
          go_wp2_with fail
          go_roundw
          case rel => exact ⟨a, q + 1, ys, rfl, by go_num, HD.out.skip HON.out HT.out hb, RowIs.below HCW.out hb5 (Nat.le_refl _)⟩
          case measure => simp [intOf]; omega
        · have htb : (tx == t) = false := by simpa using ht
          rw [htb] at hcl
          have HCL := Lib.hid hcl
          have HT := Lib.hid ht
          clear ht hcl hbx hcW hD ho hyo hbW hW
          go_wp2_with fail
          rw [← HW.out]
          refine HCL.out.mono ?_
          rintro e w5 ⟨rfl, hb5⟩
          have hb := HBW.out.trans (hb5.mono HBW.out.size)
          have hbx5 := RowIs.below HBX.out hb5 (Nat.le_refl _)
          have d0 : w5.cell? ⟨wo.heap.size, 0, none⟩ = some (.int .i64 tx) := RowIs.cell hbx5 rfl
          have d1 : w5.cell? ⟨wo.heap.size, 1, none⟩ = some (.int .i64 kd) := RowIs.cell hbx5 rfl
          have d2 : w5.cell? ⟨wo.heap.size, 2, none⟩ = some (.int .i64 it) := RowIs.cell hbx5 rfl
          have HR5 := Lib.hid (RowIs.below HD.out.row hb (Nat.le_refl _))
          have hay : a < ys.length := by omega
          clear c0 c1 c2 hbx5
          go_wp2_with (refine store_op (.tmp 33) (.tmp 32) ⟨tx, kd, it⟩ HR5.out hay rfl rfl rfl rfl ?_; intro w6 hrow6 hg6; have HF := Lib.hid (And.intro (HD.out.keep HON.out HT.out hb hrow6 hg6) (RowIs.grown (RowIs.below HCW.out hb5 (Nat.le_refl _)) hg6 (fun e => hgb (by injection e)))); clear hrow6 hg6)
          go_roundw
          case rel => exact ⟨a + 1, q + 1, _, by go_num, by go_num, HF.out.1, HF.out.2⟩
          case measure => simp [intOf]; omega
      · obtain rfl : q = n := by omega
        have hfr := hD.front
        rw [show xs.take q = xs from List.take_of_length_le (by omega)] at hfr
        have hfull := hD.full
        have hrow := hD.row
        have hg := hD.grown
        have hac : ¬ c = a := by omega
        have hlen : a * 3 + (q - a) * 3 ≤ (opCells ys ++ rest).length := by rw [hfull]; omega
        have hcl : ∀ ty, (Builtin.clear_ #[38] ty #[.slice (some ⟨g, a * 3, none⟩) (q - a) (c - a)]).run Try.prog wo = .ok (.tuple #[]) (wo.setCells g (a * 3) (List.replicate ((q - a) * 3) (.int .i64 0))) := fun ty => run_clear_ops wo ty hrow (by omega) hlen
        have HF : Hid (DelPost B (some ⟨g, 0, none⟩) q c (xs.filter fun o => o.tx != t) w (.returned (.slice (some ⟨g, 0, none⟩) a c)) (wo.setCells g (a * 3) (List.replicate ((q - a) * 3) (.int .i64 0)))) :=
          del_end hrow hBg (by omega) hcm hfull haq hnc hfr hg
        have hai : (a : Int) ≤ (q : Int) := by omega
        have haic : (a : Int) ≤ (c : Int) := by omega
        have ha0 : (0 : Int) ≤ (a : Int) := by omega
        clear hD hcb hfr hfull hrow hg hlen
        go_wp2_with fail
        go_ret
        exact HF.out
end Go.Proofs.Ytcakjhappchlmaa
