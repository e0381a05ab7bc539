/-
  Texts that the proof rests on, joined: part 46.
-/
import Derived.Test.YtcakjhappchlmaaSWx7
namespace Go.Proofs.Ytcakjhappchlmaa
open Go.RowKit Go.BigFrame
set_option linter.unusedVariables false

set_option maxHeartbeats 400000 in
theorem szOpS_any (A : Option Addr) (n c : Nat) (left : Int) (w : World) (h0 : 0 ≤ left) (h1 : left ≤ 1048576) (hn : n ≤ 9223372036854775807) :
    Calls Try.prog 56 #[.slice A n c, .int .i64 left] w fun e w' => e = .returned (.int .i64 (if left < n then -1 else left - n)) ∧ w = w' := by
  by_cases hl : left < n
  · rw [if_pos hl]
    go_enter Try.func56, Try.ntmps56
    go_wp2_with fail
    go_ret
    exact ⟨rfl, rfl⟩
  · rw [if_neg hl]
    go_enter Try.func56, Try.ntmps56
    go_wp2_with fail
    go_ret
    exact ⟨rfl, rfl⟩

set_option maxHeartbeats 400000 in
theorem toOp_any (o : OpV) (w : World) :
    Calls Try.prog 116 #[o.val] w fun e w' => e = .returned o.val ∧ Below w.heap.size w w' := by
  obtain ⟨t, k, x⟩ := o
  unfold OpV.val
  go_enter Try.func116, Try.ntmps116
  go_wp2_with fail
  (try simp only [Exit.inBlock, Exit.then])
  refine bodyPost_ret (v := .agg #[.int .i64 t, .int .i64 k, .int .i64 x]) (by simp [results, Try.results116, go_sem]) rfl ?_
  exact ⟨rfl, by (repeat (first | exact Below.refl _ _ | assumption | refine B_alloc ?_ (Nat.le_refl _) _ | refine Below.drew ?_ | refine B_drewN ?_ _ | refine B_after (by assumption) ?_ | (refine B_set ?_ ?_; rotate_left; (first | exact Nat.le_refl _ | (simp; done) | (simp at *; omega)))))⟩

set_option maxHeartbeats 400000 in
theorem eqOp_any (o p : OpV) (w : World) :
    Calls Try.prog 117 #[o.val, p.val] w fun e w' => e = .returned (.bool (o == p)) ∧ Below w.heap.size w w' := by
  obtain ⟨t, k, x⟩ := o
  obtain ⟨t', k', x'⟩ := p
  unfold OpV.val
  have hq : Hid (((⟨t, k, x⟩ : OpV) == ⟨t', k', x'⟩) = (t == t' && k == k' && x == x')) := by
    show _ = _
    rw [Bool.eq_iff_iff]; simp [and_assoc]
  by_cases h1 : t = t' <;> by_cases h2 : k = k' <;> by_cases h3 : x = x'
  all_goals
    go_enter Try.func117, Try.ntmps117
    go_wp2_with fail
    go_ret
    exact ⟨ret_bool (by rw [hq.out]; simp [h1, h2, h3]), by (repeat (first | exact Below.refl _ _ | assumption | refine B_alloc ?_ (Nat.le_refl _) _ | refine Below.drew ?_ | refine B_drewN ?_ _ | refine B_after (by assumption) ?_ | (refine B_set ?_ ?_; rotate_left; (first | exact Nat.le_refl _ | (simp; done) | (simp at *; omega)))))⟩

set_option maxRecDepth 100000 in
set_option maxHeartbeats 1000000 in
theorem toOpS_any (A : Option Addr) (n c : Nat) (s : List OpV) (w : World) (hx : ROps w A n s) (hm : n ≤ 1048576) :
    Calls Try.prog 57 #[.slice A n c] w (RetOps w s) := by
  have hl := hx.1
  have HX := Lib.hid hx
  clear hx
  obtain ⟨i0, hi, hz0, hz1, hz2⟩ := info_parts opInfo
  go_enter Try.func57, Try.ntmps57
  go_wp2_with (at_make; refine wpList_make_full _ rfl _ _ 38 rfl w.heap.size 92 i0 _ 3 Try.underlying38 hi hz0 hz1 .i64 .i64 _ _ n rfl rfl rfl rfl (by rw [hz2]; omega) (by unfold maxLen; omega) (Nat.le_refl _) ?_; intro w1 hown1 hg1)
  have hb1 : Below w.heap.size w w1 := ⟨hg1.os, hg1.tape, hg1.output, hg1.size, fun k hk => hg1.block k hk (by simp)⟩
  have hrow : ∃ cur : Array Value, w1.heap[w.heap.size]? = some (.cells cur 92 (0, 0)) ∧ cur.toList = opCells (List.replicate n OpV.zero) := by
    rcases hown1.2 with ⟨h1, _⟩ | ⟨g, cap, cur, h1, h2, h3, h4, h5, h6, h7⟩
    · cases h1
    · injection h1 with ha hb hc
      injection ha with ha
      injection ha with ha
      subst ha; subst hc
      refine ⟨cur, h3, ?_⟩
      rw [opCells_zero]
      have : cur.toList = cur.toList.take (n * 3) := by rw [List.take_of_length_le (by simpa using Nat.le_of_eq h6)]
      rw [this, h7]
      apply List.ext_getElem?
      intro j
      rw [List.getElem?_replicate]
      split
      · rename_i hj
        rw [List.getElem?_eq_getElem (by simpa [size_madeCells] using hj)]
        simp only [madeCells, Array.getElem_toList, Array.getElem_map, Array.getElem_range]
        congr 1
        show (#[Value.int .i64 0, .int .i64 0, .int .i64 0] : Array Value)[j % 3]! = _
        rcases (by omega : j % 3 = 0 ∨ j % 3 = 1 ∨ j % 3 = 2) with e | e | e <;> rw [e] <;> rfl
      · rename_i hj
        rw [List.getElem?_eq_none (by simpa [size_madeCells] using hj)]
  have HST : Hid (RowIs w1 w.heap.size 92 (opCells (s.take 0 ++ List.replicate n OpV.zero) ++ []) ∧ Below w.heap.size w w1) := by
    obtain ⟨cur, h1, h2⟩ := hrow
    refine ⟨?_, hb1⟩
    unfold RowIs
    rw [h1]
    simp [← h2]
  clear hown1 hb1 hg1 hrow hi hz0 hz1 hz2
  go_loopw [4] (fun i wr => ∃ k : Nat, k ≤ n ∧ i = .int .i64 k ∧ Below w.heap.size w wr ∧ RowIs wr w.heap.size 92 (opCells (s.take k ++ List.replicate (n - k) OpV.zero) ++ [])) (fun i _ => n - (intOf i).toNat)
  case atStart => exact ⟨0, Nat.zero_le _, rfl, HST.out.2, HST.out.1⟩
  case round =>
    clear HST
    obtain ⟨wo, rfl⟩ : ∃ wo : World, wo = wr := ⟨_, rfl⟩
    obtain ⟨k, hk, rfl, hb, hrow⟩ := hrel
    by_cases hlt : k < n
    · obtain ⟨b, off, o, rfl, hbl, ho, c0, c1, c2⟩ := (HX.out.below hb (Nat.le_refl _)).at_ hlt
      have hs := hb.size
      have hC : ∀ W, Calls Try.prog 116 #[.agg #[.int .i64 o.tx, .int .i64 o.kind, .int .i64 o.item]] W fun e w' => e = .returned (.agg #[.int .i64 o.tx, .int .i64 o.kind, .int .i64 o.item]) ∧ Below W.heap.size W w' := toOp_any o
      have HC := Lib.hid hC
      have hlen : k < (s.take k ++ List.replicate (n - k) OpV.zero).length := by simp; omega
      have HE : Hid ((s.take k ++ List.replicate (n - k) OpV.zero).set k o = s.take (k + 1) ++ List.replicate (n - (k + 1)) OpV.zero) := by
        show _ = _
        rw [show n - k = (n - (k + 1)) + 1 by omega, set_snoc _ _ _ _ _ ho]
      have HR := Lib.hid hrow
      clear ho hC hrow
      obtain ⟨tx, kd, it⟩ := o
      go_wp2_with fail
      refine (HC.out _).mono ?_
      rintro e w2 ⟨rfl, hb2⟩
      have hrow2 := HR.out.below hb2 (Nat.le_refl _)
      have HR2 := Lib.hid hrow2
      have hbw := hb.trans (hb2.mono hs)
      clear hrow2
      go_wp2_with (refine store_op (.tmp 21) (.tmp 20) ⟨tx, kd, it⟩ HR2.out hlen rfl rfl rfl rfl ?_; intro w3 hrow3 hg3; rw [HE.out] at hrow3)
      go_roundw
      case rel => exact ⟨k + 1, by omega, by go_num, hbw.grown hg3 hbw.size (fun q hq => by injection hq with hq; omega), hrow3⟩
      case measure => simp [intOf]; omega
    · obtain rfl : k = n := by omega
      have e : s.take k ++ List.replicate (k - k) OpV.zero = s := by rw [Nat.sub_self, List.take_of_length_le (by omega)]; simp
      rw [e] at hrow
      have hlt2 := hrow.lt
      have HO : Hid (RetOps w s (.returned (.slice (some ⟨w.heap.size, 0, none⟩) k k)) wo) := by
        refine RetOps.mk hl (Nat.le_refl _) ⟨hrow.ops hl (by omega), fun ad had => ?_⟩ hb
        injection had with had
        subst had
        exact ⟨_, _, rfl, Nat.le_refl _, hrow, by simp [length_opCells]; omega⟩
      clear hrow e
      go_wp2_with fail
      go_ret
      exact HO.out
end Go.Proofs.Ytcakjhappchlmaa
