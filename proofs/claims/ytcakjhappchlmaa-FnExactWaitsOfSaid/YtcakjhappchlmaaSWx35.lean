/-
  Texts that the proof rests on, joined: part 35.
-/
import Derived.Deep.RegionLaw
import Derived.Lib.SliceRun
import Derived.Lib.Walk
import Derived.Test.YtcakjhappchlmaaSWx31
namespace Go.Proofs.Ytcakjhappchlmaa
open Go.RowKit Go.BigFrame
set_option linter.unusedVariables false

theorem rowIs_cells {g : Nat} {T : TypeId} : ∀ (vs : List Value) (o : Nat) (w : World) (cs : List Value), RowIs w g T cs → o + vs.length ≤ cs.length → RowIs (w.setCells g o vs) g T (cs.take o ++ vs ++ cs.drop (o + vs.length))
  | [], o, w, cs, h, hl => by simpa [World.setCells] using h
  | v :: r, o, w, cs, h, hl => by
    simp only [List.length_cons] at hl
    have ih := rowIs_cells r (o + 1) (w.setCell ⟨g, o, none⟩ v) (cs.set o v) (RowIs.set h o v) (by simp; omega)
    have e : (cs.set o v).take (o + 1) ++ r ++ (cs.set o v).drop (o + 1 + r.length) = cs.take o ++ (v :: r) ++ cs.drop (o + (v :: r).length) := by
      have h1 : (cs.set o v).take (o + 1) = cs.take o ++ [v] := by
        rw [List.take_succ_eq_append_getElem (by simp; omega), List.getElem_set_self, List.take_set_of_le (Nat.le_refl _)]
      have h2 : (cs.set o v).drop (o + 1 + r.length) = cs.drop (o + (v :: r).length) := by
        rw [List.drop_set_of_lt (by omega), List.length_cons]
        congr 1
        omega
      rw [h1, h2]
      simp
    rw [← e]
    exact ih
theorem grown_cells {g : Nat} : ∀ (vs : List Value) (o : Nat) (w : World), w.grownBy (w.setCells g o vs) (some g)
  | [], o, w => grown_below (Below.refl _ _)
  | v :: r, o, w => World.grownBy.trans grown_set (grown_cells r (o + 1) (w.setCell ⟨g, o, none⟩ v))
theorem zeros_op (n : Nat) : (Builtin.zeroCells #[.int .i64 0, .int .i64 0, .int .i64 0] n).toList = List.replicate (n * 3) (.int .i64 0) := by
  unfold Builtin.zeroCells
  apply List.ext_getElem
  · simp
  · intro i h1 h2
    simp only [Array.getElem_toList, Array.getElem_map, Array.getElem_range, List.getElem_replicate]
    show (#[Value.int .i64 0, .int .i64 0, .int .i64 0] : Array Value)[i % 3]! = _
    rcases (by omega : i % 3 = 0 ∨ i % 3 = 1 ∨ i % 3 = 2) with e | e | e <;> rw [e] <;> rfl
/-- 'clear' of a part of a row of operations. -/
theorem run_clear_ops (w : World) (ty : TypeId) {g o n c : Nat} {T : TypeId} {cs : List Value} (hr : RowIs w g T cs) (hn : 0 < n) (hl : o + n * 3 ≤ cs.length) :
    (Builtin.clear_ #[38] ty #[.slice (some ⟨g, o, none⟩) n c]).run Try.prog w = .ok (.tuple #[]) (w.setCells g o (List.replicate (n * 3) (.int .i64 0))) := by
  have hst := run_storeCells_cells (P := Try.prog) g o (List.replicate (n * 3) (.int .i64 0)) 0 w (fun j hj => by
    have hj : j < n * 3 := by simpa using hj
    rw [hr.cell (List.getElem?_eq_getElem (show o + 0 + j < cs.length by omega))]; rfl) (fun j hj => hr.frozen _) (by intro v hv'; rw [List.eq_of_mem_replicate hv']; rfl)
  simp only [Nat.add_zero] at hst
  obtain ⟨m, rfl⟩ : ∃ m, n = m + 1 := ⟨n - 1, by omega⟩
  have hz : ∀ w : World, (zeroValue 92).run Try.prog w = .ok (.agg #[.int .i64 0, .int .i64 0, .int .i64 0]) w := fun w => by kernel_rfl
  have hc : (Value.agg #[.int .i64 0, .int .i64 0, .int .i64 0]).cells = #[.int .i64 0, .int .i64 0, .int .i64 0] := by kernel_rfl
  simp [Builtin.clear_, run_underlying Try.underlying38, hz, hc, zeros_op, hst]
/-- A row of the call's own, as cells. -/
theorem own_cells {w : World} {B n c : Nat} {A : Option Addr} {xs : List OpV} (h : w.ownsRow B 92 3 (.slice A n c) n (opCells xs)) (hn : 0 < n) : ∃ g rest, A = some ⟨g, 0, none⟩ ∧ B ≤ g ∧ RowIs w g 92 (opCells xs ++ rest) ∧ n ≤ c ∧ c ≤ maxLen ∧ (opCells xs ++ rest).length = c * 3 := by
  rcases h.2 with ⟨h1, h2⟩ | ⟨g, cap, cur, h1, h2, h3, h4, h5, h6, h7⟩
  · omega
  · injection h1 with ha _ hc
    subst hc
    refine ⟨g, cur.toList.drop (n * 3), ha, h2, ?_, h4, h5, ?_⟩
    · unfold RowIs
      rw [h3, ← h7, List.take_append_drop]
    · rw [← h7, List.take_append_drop, Array.length_toList, h6]
/-- Cells, as a row of the call's own. -/
theorem cells_own {w : World} {B g n c : Nat} {xs : List OpV} {rest : List Value} (h : RowIs w g 92 (opCells xs ++ rest)) (hB : B ≤ g) (hx : xs.length = n) (hnc : n ≤ c) (hc : c ≤ maxLen) (hl : (opCells xs ++ rest).length = c * 3) : w.ownsRow B 92 3 (.slice (some ⟨g, 0, none⟩) n c) n (opCells xs) := by
  have hlen := length_opCells xs
  refine ⟨by omega, .inr ⟨g, c, (opCells xs ++ rest).toArray, rfl, hB, h, hnc, hc, by simpa using hl, ?_⟩⟩
  rw [List.toList_toArray, List.take_left' (by omega)]
theorem filter_all {α : Type} {l : List α} {p : α → Bool} (h : ∀ x ∈ l, p x = true) : l.filter p = l := List.filter_eq_self.2 h
theorem opCells_take (xs : List OpV) : ∀ k, (opCells xs).take (k * 3) = opCells (xs.take k) := by
  induction xs with
  | nil => intro k; simp [opCells]
  | cons x r ih =>
    intro k
    cases k with
    | zero => simp [opCells]
    | succ k =>
      have e : (k + 1) * 3 = k * 3 + 1 + 1 + 1 := by omega
      rw [e]
      simp only [List.take_succ_cons, opCells, ih]
theorem opCells_drop (xs : List OpV) : ∀ k, (opCells xs).drop (k * 3) = opCells (xs.drop k) := by
  induction xs with
  | nil => intro k; simp [opCells]
  | cons x r ih =>
    intro k
    cases k with
    | zero => simp [opCells]
    | succ k =>
      have e : (k + 1) * 3 = k * 3 + 1 + 1 + 1 := by omega
      rw [e]
      simp only [List.drop_succ_cons, opCells, ih]
/-- What a deletion leaves: the same block, cut. -/
def DelPost (B : Nat) (A : Option Addr) (n c : Nat) (ys : List OpV) (w : World) (e : Ending) (w' : World) : Prop :=
  e = .returned (.slice A ys.length c) ∧ w'.ownsRow B 92 3 (.slice A ys.length c) ys.length (opCells ys) ∧ w.grownBy w' (Value.slice A n c).ownBlock
/-- The end of a deletion: what stands first is kept, what is behind it is cleared. -/
theorem del_end {w wr : World} {B g n c i : Nat} {xs ys : List OpV} {rest : List Value} (hr : RowIs wr g 92 (opCells xs ++ rest)) (hB : B ≤ g) (hx : xs.length = n) (hc : c ≤ maxLen) (hl : (opCells xs ++ rest).length = c * 3) (hi : i < n) (hnc : n ≤ c) (hy : xs.take i = ys) (hg : w.grownBy wr (some g)) :
    DelPost B (some ⟨g, 0, none⟩) n c ys w (.returned (.slice (some ⟨g, 0, none⟩) i c)) (wr.setCells g (i * 3) (List.replicate ((n - i) * 3) (.int .i64 0))) := by
  have hlen := length_opCells xs
  have hyl : ys.length = i := by rw [← hy, List.length_take]; omega
  have h1 := rowIs_cells (List.replicate ((n - i) * 3) (.int .i64 0)) (i * 3) wr _ hr (by simp only [List.length_replicate, List.length_append]; omega)
  have h2 : (opCells xs ++ rest).take (i * 3) = opCells ys := by
    rw [List.take_append_of_le_length (by omega), opCells_take, hy]
  rw [h2, List.append_assoc] at h1
  have hg2 := grown_cells (g := g) (List.replicate ((n - i) * 3) (Value.int .i64 0)) (i * 3) wr
  refine ⟨by rw [hyl], ?_, World.grownBy.trans hg hg2⟩
  refine cells_own h1 hB rfl (by omega) hc ?_
  simp only [List.length_append, List.length_replicate, List.length_drop, length_opCells] at hl hlen ⊢
  omega

/-- The program's closure: is it of this transaction? -/
theorem abort1_any (o : OpV) (t : Int) (b : Nat) (w : World) (hc : w.cell? ⟨b, 0, none⟩ = some (.int .i64 t)) :
    Calls Try.prog 181 #[o.val, .pointer (some ⟨b, 0, none⟩)] w fun e w' => e = .returned (.bool (o.tx == t)) ∧ Below w.heap.size w w' := by
  obtain ⟨x, k, i⟩ := o
  unfold OpV.val
  have hbl : b < w.heap.size := block_lt_of_cell hc
  go_enter Try.func181, Try.ntmps181
  go_wp2_with fail
  go_ret
  exact ⟨rfl, (Below.refl _ _).alloc (Nat.le_refl _) _⟩
theorem runs_abort1 : Runs 181 := runs_of Try.func181 (by kernel_rfl) rfl

/-- Between two rounds of DeleteFunc: what is kept stands first, what is not looked at yet stands where it stood. -/
structure DelI (w : World) (g c k : Nat) (xs : List OpV) (t : Int) (i j : Nat) (ys : List OpV) (rest : List Value) (wr : World) : Prop where
  row : RowIs wr g 92 (opCells ys ++ rest)
  len : ys.length = xs.length
  full : (opCells ys ++ rest).length = c * 3
  front : ys.take i = (xs.take j).filter fun o => o.tx != t
  back : ∀ q, j ≤ q → ys[q]? = xs[q]?
  lt : i < j
  le : j ≤ xs.length
  grown : w.grownBy wr (some g)
theorem DelI.skip {w wr w' : World} {g c k i j : Nat} {xs ys : List OpV} {t : Int} {rest : List Value} {o : OpV} (h : DelI w g c k xs t i j ys rest wr) (ho : xs[j]? = some o) (ht : o.tx = t) (hb : Below wr.heap.size wr w') : DelI w g c k xs t i (j + 1) ys rest w' := by
  have hj := (List.getElem?_eq_some_iff.1 ho).1
  refine ⟨RowIs.below h.row hb (Nat.le_refl _), h.len, h.full, ?_, fun q hq => h.back q (by omega), by have := h.lt; omega, by omega, World.grownBy.trans h.grown (grown_below hb)⟩
  rw [take_snoc ho, List.filter_append, h.front]
  simp [ht]
theorem DelI.keep {w wr w1 w' : World} {g c k i j : Nat} {xs ys : List OpV} {t : Int} {rest : List Value} {o : OpV} (h : DelI w g c k xs t i j ys rest wr) (ho : xs[j]? = some o) (ht : o.tx ≠ t) (hb : Below wr.heap.size wr w1) (hr : RowIs w' g 92 (opCells (ys.set i o) ++ rest)) (hg : w1.grownBy w' (some g)) : DelI w g c k xs t (i + 1) (j + 1) (ys.set i o) rest w' := by
  have hj := (List.getElem?_eq_some_iff.1 ho).1
  have hi := h.lt
  have hl := h.len
  have hf := h.full
  simp only [List.length_append, length_opCells] at hf
  refine ⟨hr, by simp [hl], by simp only [List.length_append, length_opCells, List.length_set]; omega, ?_, fun q hq => ?_, by omega, by omega, World.grownBy.trans h.grown (World.grownBy.trans (grown_below hb) hg)⟩
  · rw [take_snoc ho, List.filter_append, ← h.front]
    have e : (ys.set i o)[i]? = some o := by rw [List.getElem?_set_self (by omega)]
    rw [take_snoc e, List.take_set_of_le (Nat.le_refl _)]
    simp [ht]
  · rw [List.getElem?_set_ne (by omega)]
    exact h.back q (by omega)
end Go.Proofs.Ytcakjhappchlmaa
