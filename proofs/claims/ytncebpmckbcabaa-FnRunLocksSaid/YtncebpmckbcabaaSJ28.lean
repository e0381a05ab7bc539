/-
  Texts that the proof rests on, joined: part 28.
-/
import Derived.Deep.RegionLaw
import Derived.Lib.SliceRun
import Derived.Lib.Walk
import Derived.Test.YtncebpmckbcabaaSJ24
namespace Go.Proofs.Ytncebpmckbcabaa
open Go.RowKit Go.BigFrame
set_option linter.unusedVariables false

theorem rowIs_cells {g : Nat} {T : TypeId} : ∀ (vs : List Value) (o : Nat) (w : World) (cs : List Value), RowIs w g T cs → o + vs.length ≤ cs.length → RowIs (w.setCells g o vs) g T (cs.take o ++ vs ++ cs.drop (o + vs.length))
  | [], o, w, cs, h, hl => by simpa [World.setCells] using h
  | v :: r, o, w, cs, h, hl => by
    simp only [List.length_cons] at hl
    have ih := rowIs_cells r (o + 1) (w.setCell ⟨g, o, none⟩ v) (cs.set o v) (RowIs.set h o v) (by simp; omega)
    have e : (cs.set o v).take (o + 1) ++ r ++ (cs.set o v).drop (o + 1 + r.length) = cs.take o ++ (v :: r) ++ cs.drop (o + (v :: r).length) := by
      have h1 : (cs.set o v).take (o + 1) = cs.take o ++ [v] := by
        rw [List.take_succ_eq_append_getElem (by simp; omega), List.getElem_set_self, List.take_set_of_le (Nat.le_refl _)]
      have h2 : (cs.set o v).drop (o + 1 + r.length) = cs.drop (o + (v :: r).length) := by
        rw [List.drop_set_of_lt (by omega), List.length_cons]
        congr 1
        omega
      rw [h1, h2]
      simp
    rw [← e]
    exact ih
theorem grown_cells {g : Nat} : ∀ (vs : List Value) (o : Nat) (w : World), w.grownBy (w.setCells g o vs) (some g)
  | [], o, w => grown_below (Below.refl _ _)
  | v :: r, o, w => World.grownBy.trans grown_set (grown_cells r (o + 1) (w.setCell ⟨g, o, none⟩ v))
theorem zeros_op (n : Nat) : (Builtin.zeroCells #[.int .i64 0, .int .i64 0, .int .i64 0] n).toList = List.replicate (n * 3) (.int .i64 0) := by
  unfold Builtin.zeroCells
  apply List.ext_getElem
  · simp
  · intro i h1 h2
    simp only [Array.getElem_toList, Array.getElem_map, Array.getElem_range, List.getElem_replicate]
    show (#[Value.int .i64 0, .int .i64 0, .int .i64 0] : Array Value)[i % 3]! = _
    rcases (by omega : i % 3 = 0 ∨ i % 3 = 1 ∨ i % 3 = 2) with e | e | e <;> rw [e] <;> rfl
/-- 'clear' of a part of a row of operations. -/
theorem run_clear_ops (w : World) (ty : TypeId) {g o n c : Nat} {T : TypeId} {cs : List Value} (hr : RowIs w g T cs) (hn : 0 < n) (hl : o + n * 3 ≤ cs.length) :
    (Builtin.clear_ #[24] ty #[.slice (some ⟨g, o, none⟩) n c]).run Try.prog w = .ok (.tuple #[]) (w.setCells g o (List.replicate (n * 3) (.int .i64 0))) := by
  have hst := run_storeCells_cells (P := Try.prog) g o (List.replicate (n * 3) (.int .i64 0)) 0 w (fun j hj => by
    have hj : j < n * 3 := by simpa using hj
    rw [hr.cell (List.getElem?_eq_getElem (show o + 0 + j < cs.length by omega))]; rfl) (fun j hj => hr.frozen _) (by intro v hv'; rw [List.eq_of_mem_replicate hv']; rfl)
  simp only [Nat.add_zero] at hst
  obtain ⟨m, rfl⟩ : ∃ m, n = m + 1 := ⟨n - 1, by omega⟩
  have hz : ∀ w : World, (zeroValue 62).run Try.prog w = .ok (.agg #[.int .i64 0, .int .i64 0, .int .i64 0]) w := fun w => by kernel_rfl
  have hc : (Value.agg #[.int .i64 0, .int .i64 0, .int .i64 0]).cells = #[.int .i64 0, .int .i64 0, .int .i64 0] := by kernel_rfl
  simp [Builtin.clear_, run_underlying Try.underlying24, hz, hc, zeros_op, hst]
/-- A row of the call's own, as cells. -/
theorem own_cells {w : World} {B n c : Nat} {A : Option Addr} {xs : List OpV} (h : w.ownsRow B 62 3 (.slice A n c) n (opCells xs)) (hn : 0 < n) : ∃ g rest, A = some ⟨g, 0, none⟩ ∧ B ≤ g ∧ RowIs w g 62 (opCells xs ++ rest) ∧ n ≤ c ∧ c ≤ maxLen ∧ (opCells xs ++ rest).length = c * 3 := by
  rcases h.2 with ⟨h1, h2⟩ | ⟨g, cap, cur, h1, h2, h3, h4, h5, h6, h7⟩
  · omega
  · injection h1 with ha _ hc
    subst hc
    refine ⟨g, cur.toList.drop (n * 3), ha, h2, ?_, h4, h5, ?_⟩
    · unfold RowIs
      rw [h3, ← h7, List.take_append_drop]
    · rw [← h7, List.take_append_drop, Array.length_toList, h6]
/-- Cells, as a row of the call's own. -/
theorem cells_own {w : World} {B g n c : Nat} {xs : List OpV} {rest : List Value} (h : RowIs w g 62 (opCells xs ++ rest)) (hB : B ≤ g) (hx : xs.length = n) (hnc : n ≤ c) (hc : c ≤ maxLen) (hl : (opCells xs ++ rest).length = c * 3) : w.ownsRow B 62 3 (.slice (some ⟨g, 0, none⟩) n c) n (opCells xs) := by
  have hlen := length_opCells xs
  refine ⟨by omega, .inr ⟨g, c, (opCells xs ++ rest).toArray, rfl, hB, h, hnc, hc, by simpa using hl, ?_⟩⟩
  rw [List.toList_toArray, List.take_left' (by omega)]
theorem filter_all {α : Type} {l : List α} {p : α → Bool} (h : ∀ x ∈ l, p x = true) : l.filter p = l := List.filter_eq_self.2 h
theorem opCells_take (xs : List OpV) : ∀ k, (opCells xs).take (k * 3) = opCells (xs.take k) := by
  induction xs with
  | nil => intro k; simp [opCells]
  | cons x r ih =>
    intro k
    cases k with
    | zero => simp [opCells]
    | succ k =>
      have e : (k + 1) * 3 = k * 3 + 1 + 1 + 1 := by omega
      rw [e]
      simp only [List.take_succ_cons, opCells, ih]
theorem opCells_drop (xs : List OpV) : ∀ k, (opCells xs).drop (k * 3) = opCells (xs.drop k) := by
  induction xs with
  | nil => intro k; simp [opCells]
  | cons x r ih =>
    intro k
    cases k with
    | zero => simp [opCells]
    | succ k =>
      have e : (k + 1) * 3 = k * 3 + 1 + 1 + 1 := by omega
      rw [e]
      simp only [List.drop_succ_cons, opCells, ih]
/-- What a deletion leaves: the same block, cut. -/
def DelPost (B : Nat) (A : Option Addr) (n c : Nat) (ys : List OpV) (w : World) (e : Ending) (w' : World) : Prop :=
  e = .returned (.slice A ys.length c) ∧ w'.ownsRow B 62 3 (.slice A ys.length c) ys.length (opCells ys) ∧ w.grownBy w' (Value.slice A n c).ownBlock
/-- The end of a deletion: what stands first is kept, what is behind it is cleared. -/
theorem del_end {w wr : World} {B g n c i : Nat} {xs ys : List OpV} {rest : List Value} (hr : RowIs wr g 62 (opCells xs ++ rest)) (hB : B ≤ g) (hx : xs.length = n) (hc : c ≤ maxLen) (hl : (opCells xs ++ rest).length = c * 3) (hi : i < n) (hnc : n ≤ c) (hy : xs.take i = ys) (hg : w.grownBy wr (some g)) :
    DelPost B (some ⟨g, 0, none⟩) n c ys w (.returned (.slice (some ⟨g, 0, none⟩) i c)) (wr.setCells g (i * 3) (List.replicate ((n - i) * 3) (.int .i64 0))) := by
  have hlen := length_opCells xs
  have hyl : ys.length = i := by rw [← hy, List.length_take]; omega
  have h1 := rowIs_cells (List.replicate ((n - i) * 3) (.int .i64 0)) (i * 3) wr _ hr (by simp only [List.length_replicate, List.length_append]; omega)
  have h2 : (opCells xs ++ rest).take (i * 3) = opCells ys := by
    rw [List.take_append_of_le_length (by omega), opCells_take, hy]
  rw [h2, List.append_assoc] at h1
  have hg2 := grown_cells (g := g) (List.replicate ((n - i) * 3) (Value.int .i64 0)) (i * 3) wr
  refine ⟨by rw [hyl], ?_, World.grownBy.trans hg hg2⟩
  refine cells_own h1 hB rfl (by omega) hc ?_
  simp only [List.length_append, List.length_replicate, List.length_drop, length_opCells] at hl hlen ⊢
  omega

/-- The program's closure: is it of this transaction? -/
theorem abort1_any (o : OpV) (t : Int) (b : Nat) (w : World) (hc : w.cell? ⟨b, 0, none⟩ = some (.int .i64 t)) :
    Calls Try.prog 159 #[o.val, .pointer (some ⟨b, 0, none⟩)] w fun e w' => e = .returned (.bool (o.tx == t)) ∧ Below w.heap.size w w' := by
  obtain ⟨x, k, i⟩ := o
  unfold OpV.val
  have hbl : b < w.heap.size := block_lt_of_cell hc
  go_enter Try.func159, Try.ntmps159
  go_wp2_with fail
  go_ret
  exact ⟨rfl, (Below.refl _ _).alloc (Nat.le_refl _) _⟩
theorem runs_abort1 : Runs 159 := runs_of Try.func159 (by kernel_rfl) rfl

/-- Between two rounds of DeleteFunc: what is kept stands first, what is not looked at yet stands where it stood. -/
structure DelI (w : World) (g c k : Nat) (xs : List OpV) (t : Int) (i j : Nat) (ys : List OpV) (rest : List Value) (wr : World) : Prop where
  row : RowIs wr g 62 (opCells ys ++ rest)
  len : ys.length = xs.length
  full : (opCells ys ++ rest).length = c * 3
  front : ys.take i = (xs.take j).filter fun o => o.tx != t
  back : ∀ q, j ≤ q → ys[q]? = xs[q]?
  lt : i < j
  le : j ≤ xs.length
  grown : w.grownBy wr (some g)
theorem DelI.skip {w wr w' : World} {g c k i j : Nat} {xs ys : List OpV} {t : Int} {rest : List Value} {o : OpV} (h : DelI w g c k xs t i j ys rest wr) (ho : xs[j]? = some o) (ht : o.tx = t) (hb : Below wr.heap.size wr w') : DelI w g c k xs t i (j + 1) ys rest w' := by
  have hj := (List.getElem?_eq_some_iff.1 ho).1
  refine ⟨RowIs.below h.row hb (Nat.le_refl _), h.len, h.full, ?_, fun q hq => h.back q (by omega), by have := h.lt; omega, by omega, World.grownBy.trans h.grown (grown_below hb)⟩
  rw [take_snoc ho, List.filter_append, h.front]
  simp [ht]
theorem DelI.keep {w wr w1 w' : World} {g c k i j : Nat} {xs ys : List OpV} {t : Int} {rest : List Value} {o : OpV} (h : DelI w g c k xs t i j ys rest wr) (ho : xs[j]? = some o) (ht : o.tx ≠ t) (hb : Below wr.heap.size wr w1) (hr : RowIs w' g 62 (opCells (ys.set i o) ++ rest)) (hg : w1.grownBy w' (some g)) : DelI w g c k xs t (i + 1) (j + 1) (ys.set i o) rest w' := by
  have hj := (List.getElem?_eq_some_iff.1 ho).1
  have hi := h.lt
  have hl := h.len
  have hf := h.full
  simp only [List.length_append, length_opCells] at hf
  refine ⟨hr, by simp [hl], by simp only [List.length_append, length_opCells, List.length_set]; omega, ?_, fun q hq => ?_, by omega, by omega, World.grownBy.trans h.grown (World.grownBy.trans (grown_below hb) hg)⟩
  · rw [take_snoc ho, List.filter_append, ← h.front]
    have e : (ys.set i o)[i]? = some o := by rw [List.getElem?_set_self (by omega)]
    rw [take_snoc e, List.take_set_of_le (Nat.le_refl _)]
    simp [ht]
  · rw [List.getElem?_set_ne (by omega)]
    exact h.back q (by omega)
end Go.Proofs.Ytncebpmckbcabaa
namespace Go.Proofs.Ytncebpmckbcabaa
open Go.RowKit Go.BigFrame
set_option linter.unusedVariables false

set_option maxRecDepth 100000 in
set_option maxHeartbeats 4000000 in
theorem DeleteFunc_run (B : Nat) (A : Option Addr) (n c b : Nat) (xs : List OpV) (t : Int) (w : World) (hown : w.ownsRow B 62 3 (.slice A n c) n (opCells xs)) (hn : n ≤ 30000) (hc : RowIs w b 3 [.int .i64 t]) :
    Calls Try.prog 158 #[.slice A n c, .func (.func 159) #[] #[.pointer (some ⟨b, 0, none⟩)]] w (DelPost B A n c (xs.filter fun o => o.tx != t) w) := by
  have hl := own_lenOps hown
  have hro : ROps w A n xs := ROps.of_own hown (by omega)
  have hclo : ClosOp w 159 #[.pointer (some ⟨b, 0, none⟩)] xs (fun o => o.tx == t) := ⟨runs_abort1, fun W o hW _ => abort1_any o t b W (RowIs.cell (RowIs.below hc hW (Nat.le_refl _)) rfl)⟩
  have HI := Lib.hid (IndexFuncOp_any A n c xs _ _ _ w hro hclo)
  have hnc : n ≤ c := by
    obtain ⟨A', c', hv, h⟩ := own_form2 hown
    injection hv with _ _ hv
    omega
  have hrun := runs_abort1
  unfold Runs at hrun
  have HO := Lib.hid hown
  have HC := Lib.hid hc
  clear hown hro hclo hc
  go_enter Try.func158, Try.ntmps158
  go_wp2_with fail
  refine HI.out.mono ?_
  rintro e w1 ⟨hb1, ⟨ha, rfl⟩ | ⟨ha, k, hk, ⟨o, hok, hot⟩, hno, rfl⟩⟩
  · have hfl : (xs.filter fun o => o.tx != t) = xs := filter_all fun o ho => by
      have := List.any_eq_false.1 ha o ho
      simpa using this
    have HF : Hid (DelPost B A n c (xs.filter fun o => o.tx != t) w (.returned (.slice A n c)) w1) := by
      show DelPost _ _ _ _ _ _ _ _
      rw [hfl]
      exact ⟨by rw [hl], by rw [hl]; exact own_below HO.out hb1, grown_below hb1⟩
    clear ha hfl
    go_wp2_with fail
    go_ret
    exact HF.out
  · obtain ⟨g, rest, rfl, hBg, hrow, _, hcm, hfull⟩ := own_cells HO.out (by omega)
    have hot' : o.tx = t := by simpa using hot
    have hft : xs.take k = (xs.take k).filter fun o => o.tx != t := by
      symm
      refine filter_all fun q hq => ?_
      obtain ⟨j, hj⟩ := List.mem_iff_getElem?.1 hq
      rw [List.getElem?_take] at hj
      split at hj
      · rename_i hjk
        simpa using hno j hjk q hj
      · cases hj
    have hd : DelI w g c k xs t k (k + 1) xs rest w1 := ⟨RowIs.below hrow hb1 (Nat.le_refl _), rfl, hfull, by rw [take_snoc hok, List.filter_append, ← hft]; simp [hot'], fun _ _ => rfl, by omega, by omega, grown_below hb1⟩
    have hgb : g ≠ b := fun e => by
      subst e
      exact own_ne HO.out HC.out (by decide) rfl
    have hgw := RowIs.lt hrow
    have HST : Hid (DelI w g c k xs t k (k + 1) xs rest w1 ∧ RowIs w1 b 3 [.int .i64 t]) := ⟨hd, RowIs.below HC.out hb1 (Nat.le_refl _)⟩
    have hkn : k < n := by omega
    have hkb : ((k : Int) == -1) = false := by simp
    clear hd hft hno ha hrow hok hot hot' HI hfull
    go_wp2_with fail
    go_loopw [5, 6] (fun i j wr => ∃ (a q : Nat) (ys : List OpV), i = .int .i64 a ∧ j = .int .i64 q ∧ DelI w g c k xs t a q ys rest wr ∧ RowIs wr b 3 [.int .i64 t]) (fun _ j _ => n - (intOf j).toNat)
    case atStart => exact ⟨k, k + 1, xs, rfl, by go_num, HST.out.1, HST.out.2⟩
    case round =>
      clear HST
      obtain ⟨wo, rfl⟩ : ∃ z : World, z = wr := ⟨_, rfl⟩
      obtain ⟨a, q, ys, rfl, rfl, hD, hcb⟩ := hrel
      have hqn := hD.le
      have haq := hD.lt
      have hyl := hD.len
      by_cases hlt : q < n
      · have ho : xs[q]? = some (xs[q]'(by omega)) := List.getElem?_eq_getElem (by omega)
        have hyo : ys[q]? = some (xs[q]'(by omega)) := (hD.back q (Nat.le_refl _)).trans ho
        generalize xs[q]'(by omega) = o at ho hyo
        obtain ⟨_, _, o', hA', _, ho', c0, c1, c2⟩ := (RowIs.ops hD.row (n := n) (by omega) (by omega)).at_ hlt
        injection hA' with hA'
        injection hA' with e1 e2 _
        subst e1; subst e2
        rw [hyo] at ho'
        injection ho' with ho'
        subst ho'
        simp only [Nat.zero_add] at c0 c1 c2
        obtain ⟨W, hW⟩ : ∃ W : World, W = wo.alloc (.cells #[.int .i64 o.tx, .int .i64 o.kind, .int .i64 o.item] 62) := ⟨_, rfl⟩
        have hbW : Below wo.heap.size wo W := by rw [hW]; exact (Below.refl _ _).alloc (Nat.le_refl _) _
        have hbx : RowIs W wo.heap.size 62 [.int .i64 o.tx, .int .i64 o.kind, .int .i64 o.item] := by rw [hW]; exact heap_alloc_new wo _
        have hcW := RowIs.below hcb hbW (Nat.le_refl _)
        have hcl := abort1_any o t b W (RowIs.cell hcW rfl)
        have hgo := RowIs.lt hD.row
        have HW := Lib.hid hW
        have HBX := Lib.hid hbx
        have HCW := Lib.hid hcW
        have HD := Lib.hid hD
        have HON := Lib.hid ho
        have HBW := Lib.hid hbW
        obtain ⟨tx, kd, it⟩ := o
        unfold OpV.val at hcl
        simp only at hcl c0 c1 c2 HW HBX
        have hqi : (q : Int) < (n : Int) := by omega
        have hq0 : (0 : Int) ≤ (q : Int) := by omega
        have hai : (a : Int) < (n : Int) := by omega
        have ha0 : (0 : Int) ≤ (a : Int) := by omega
        by_cases ht : tx = t
        · have htb : (tx == t) = true := by simpa using ht
          rw [htb] at hcl
          have HCL := Lib.hid hcl
          have HT := Lib.hid ht
          clear ht hcl hbx hcW hD ho hyo hbW hW
          go_wp2_with fail
          rw [← HW.out]
          refine HCL.out.mono ?_
          rintro e w5 ⟨rfl, hb5⟩
          have hb := HBW.out.trans (hb5.mono HBW.out.size)
          go_wp2_with fail
          go_roundw
          case rel => exact ⟨a, q + 1, ys, rfl, by go_num, HD.out.skip HON.out HT.out hb, RowIs.below HCW.out hb5 (Nat.le_refl _)⟩
          case measure => simp [intOf]; omega
        · have htb : (tx == t) = false := by simpa using ht
          rw [htb] at hcl
          have HCL := Lib.hid hcl
          have HT := Lib.hid ht
          clear ht hcl hbx hcW hD ho hyo hbW hW
          go_wp2_with fail
          rw [← HW.out]
          refine HCL.out.mono ?_
          rintro e w5 ⟨rfl, hb5⟩
          have hb := HBW.out.trans (hb5.mono HBW.out.size)
          have hbx5 := RowIs.below HBX.out hb5 (Nat.le_refl _)
          have d0 : w5.cell? ⟨wo.heap.size, 0, none⟩ = some (.int .i64 tx) := RowIs.cell hbx5 rfl
          have d1 : w5.cell? ⟨wo.heap.size, 1, none⟩ = some (.int .i64 kd) := RowIs.cell hbx5 rfl
          have d2 : w5.cell? ⟨wo.heap.size, 2, none⟩ = some (.int .i64 it) := RowIs.cell hbx5 rfl
          have HR5 := Lib.hid (RowIs.below HD.out.row hb (Nat.le_refl _))
          have hay : a < ys.length := by omega
          clear c0 c1 c2 hbx5
          go_wp2_with (refine store_op (.tmp 33) (.tmp 32) ⟨tx, kd, it⟩ HR5.out hay rfl rfl rfl rfl ?_; intro w6 hrow6 hg6; have HF := Lib.hid (And.intro (HD.out.keep HON.out HT.out hb hrow6 hg6) (RowIs.grown (RowIs.below HCW.out hb5 (Nat.le_refl _)) hg6 (fun e => hgb (by injection e)))); clear hrow6 hg6)
          go_roundw
          case rel => exact ⟨a + 1, q + 1, _, by go_num, by go_num, HF.out.1, HF.out.2⟩
          case measure => simp [intOf]; omega
      · obtain rfl : q = n := by omega
        have hfr := hD.front
        rw [show xs.take q = xs from List.take_of_length_le (by omega)] at hfr
        have hfull := hD.full
        have hrow := hD.row
        have hg := hD.grown
        have hac : ¬ c = a := by omega
        have hlen : a * 3 + (q - a) * 3 ≤ (opCells ys ++ rest).length := by rw [hfull]; omega
        have hcl : ∀ ty, (Builtin.clear_ #[24] ty #[.slice (some ⟨g, a * 3, none⟩) (q - a) (c - a)]).run Try.prog wo = .ok (.tuple #[]) (wo.setCells g (a * 3) (List.replicate ((q - a) * 3) (.int .i64 0))) := fun ty => run_clear_ops wo ty hrow (by omega) hlen
        have HF : Hid (DelPost B (some ⟨g, 0, none⟩) q c (xs.filter fun o => o.tx != t) w (.returned (.slice (some ⟨g, 0, none⟩) a c)) (wo.setCells g (a * 3) (List.replicate ((q - a) * 3) (.int .i64 0)))) :=
          del_end hrow hBg (by omega) hcm hfull haq hnc hfr hg
        have hai : (a : Int) ≤ (q : Int) := by omega
        have haic : (a : Int) ≤ (c : Int) := by omega
        have ha0 : (0 : Int) ≤ (a : Int) := by omega
        clear hD hcb hfr hfull hrow hg hlen
        go_wp2_with fail
        go_ret
        exact HF.out
end Go.Proofs.Ytncebpmckbcabaa
