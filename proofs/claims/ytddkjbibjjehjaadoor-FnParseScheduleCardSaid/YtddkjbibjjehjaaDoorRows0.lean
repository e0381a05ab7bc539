/-
  Rows of cells of the call's own that are written place by place.
-/
import Derived.Test.YtddkjbibjjehjaaDoorKept
import Derived.Deep.MidRow
namespace Go.Proofs.YtddkjbibjjehjaaDoor
open Go.RowKit Go.BigFrame
set_option linter.unusedVariables false

/-- Block g holds just these values. -/
def RowIs (w : World) (g : Nat) (T : TypeId) (vs : List Value) : Prop := w.heap[g]? = some (.cells vs.toArray T (0, 0))
section
variable {w : World} {g : Nat} {T : TypeId} {vs : List Value}
theorem RowIs.lt (h : RowIs w g T vs) : g < w.heap.size := lt_of_block h
theorem RowIs.cell (h : RowIs w g T vs) {i : Nat} {v : Value} (hv : vs[i]? = some v) : w.cell? ⟨g, i, none⟩ = some v := by
  rw [cell_of_row w g i _ T (0, 0) h]; simpa using hv
theorem RowIs.frozen (h : RowIs w g T vs) (i : Nat) : w.frozen? ⟨g, i, none⟩ = false := frozen_of_row w g i _ T h
theorem RowIs.set (h : RowIs w g T vs) (i : Nat) (v : Value) : RowIs (w.setCell ⟨g, i, none⟩ v) g T (vs.set i v) := by
  unfold RowIs
  rw [heap_setCell_same w g i _ T v h]
  simp
theorem RowIs.alloc (h : RowIs w g T vs) (o : Obj) : RowIs (w.alloc o) g T vs := (Below.heap_alloc w o g h.lt).trans h
theorem RowIs.below {w' : World} {B : Nat} (h : RowIs w g T vs) (hb : Below B w w') (hg : w.heap.size ≤ B) : RowIs w' g T vs := (hb.block g (by have := h.lt; omega)).trans h
end

theorem opCells_put (ys : List OpV) : ∀ (i : Nat) (o : OpV), opCells (ys.set i o) = (((opCells ys).set (i * 3) (.int .i64 o.tx)).set (i * 3 + 1) (.int .i64 o.kind)).set (i * 3 + 2) (.int .i64 o.item) := by
  induction ys with
  | nil => intro i o; simp [opCells]
  | cons y r ih =>
    intro i o
    cases i with
    | zero => simp [opCells]
    | succ i =>
      have e : (i + 1) * 3 = i * 3 + 1 + 1 + 1 := by omega
      rw [e]
      simp only [List.set_cons_succ, opCells, ih]
theorem set_snoc {α : Type} (xs : List α) (k : Nat) (z x : α) (m : Nat) (hk : xs[k]? = some x) :
    (xs.take k ++ List.replicate (m + 1) z).set k x = xs.take (k + 1) ++ List.replicate m z := by
  obtain ⟨hl, he⟩ := List.getElem?_eq_some_iff.1 hk
  have hlen : (xs.take k).length = k := by simp; omega
  rw [List.set_append_right _ _ (by omega), hlen, Nat.sub_self, List.replicate_succ, List.set_cons_zero, take_snoc hk, List.append_assoc]; rfl
theorem opCells_zero (n : Nat) : opCells (List.replicate n OpV.zero) = List.replicate (n * 3) (.int .i64 0) := by
  induction n with
  | zero => rfl
  | succ n ih =>
    rw [List.replicate_succ]
    show Value.int .i64 0 :: .int .i64 0 :: .int .i64 0 :: opCells (List.replicate n OpV.zero) = _
    rw [ih, show (n + 1) * 3 = n * 3 + 1 + 1 + 1 by omega]
    simp [List.replicate_succ]

/-- What a row of operations reads as. -/
theorem RowIs.ops {w : World} {g n : Nat} {T : TypeId} {ys : List OpV} {rest : List Value} (h : RowIs w g T (opCells ys ++ rest)) (hn : ys.length = n) (hm : n ≤ 1099511627776) : ROps w (some ⟨g, 0, none⟩) n ys := by
  refine ⟨hn, hm, fun _ => ⟨g, 0, rfl, h.lt, fun i o ho => ?_⟩⟩
  obtain ⟨c0, c1, c2⟩ := opCells_at ys i o ho
  have hc : ∀ j u, (opCells ys)[j]? = some u → w.cell? ⟨g, 0 + j, none⟩ = some u := fun j u hu => by
    rw [Nat.zero_add]
    refine h.cell ?_
    obtain ⟨hl, _⟩ := List.getElem?_eq_some_iff.1 hu
    rw [List.getElem?_append_left hl]; exact hu
  exact ⟨hc _ _ c0, by have := hc _ _ c1; simpa [Nat.add_assoc] using this, by have := hc _ _ c2; simpa [Nat.add_assoc] using this⟩
theorem RowIs.ints {w : World} {g n : Nat} {T : TypeId} {ys : List Int} {rest : List Value} (h : RowIs w g T (intCells ys ++ rest)) (hn : ys.length = n) (hm : n ≤ 1099511627776) : RInts w (some ⟨g, 0, none⟩) n ys := by
  refine ⟨hn, hm, fun _ => ⟨g, 0, rfl, h.lt, fun i o ho => ?_⟩⟩
  rw [Nat.zero_add]
  refine h.cell ?_
  have : (intCells ys)[i]? = some (.int .i64 o) := by simp [intCells, ho]
  obtain ⟨hl, _⟩ := List.getElem?_eq_some_iff.1 this
  rw [List.getElem?_append_left hl]; exact this
/-- New memory as a row. -/
theorem FreshOps.row {w0 w : World} {A : Option Addr} {n : Nat} {xs : List OpV} (h : FreshOps w0 w A n xs) (h0 : 0 < n) : ∃ g rest, A = some ⟨g, 0, none⟩ ∧ w0.heap.size ≤ g ∧ RowIs w g 38 (opCells xs ++ rest) := by
  obtain ⟨⟨hl, hm, hr⟩, hf⟩ := h
  obtain ⟨b, off, hA, hlt, hc⟩ := hr h0
  obtain ⟨b', cur, had, hge, hh, hsz⟩ := hf _ hA
  injection had with h1 h2 h3
  subst h1; subst h2
  refine ⟨b, cur.toList.drop (n * 3), hA, hge, ?_⟩
  unfold RowIs
  rw [hh]
  congr 2
  apply Array.ext'
  simp only
  have e : opCells xs = cur.toList.take (n * 3) := by
    apply List.ext_getElem?
    intro j
    rcases Nat.lt_or_ge j (n * 3) with hj | hj
    · rw [List.getElem?_take_of_lt hj]
      obtain ⟨v, hv⟩ : ∃ v, (opCells xs)[j]? = some v := ⟨_, List.getElem?_eq_getElem (by rw [length_opCells]; omega)⟩
      rw [hv]
      obtain ⟨i, o, ho, h⟩ := opCells_find xs j v hv
      obtain ⟨c0, c1, c2⟩ := hc i o ho
      have hcell : ∀ q, w.cell? ⟨b, q, none⟩ = cur[q]? := fun q => cell_of_row w b q _ _ (0, 0) hh
      rw [hcell] at c0 c1 c2
      simp only [Nat.zero_add] at c0 c1 c2
      rcases h with ⟨rfl, rfl⟩ | ⟨rfl, rfl⟩ | ⟨rfl, rfl⟩
      · simpa using c0.symm
      · simpa using c1.symm
      · simpa using c2.symm
    · rw [List.getElem?_eq_none (by rw [length_opCells]; omega), List.getElem?_eq_none (by simp; omega)]
  rw [e, List.take_append_drop]
theorem FreshInts.row {w0 w : World} {A : Option Addr} {n : Nat} {xs : List Int} (h : FreshInts w0 w A n xs) (h0 : 0 < n) : ∃ g rest, A = some ⟨g, 0, none⟩ ∧ w0.heap.size ≤ g ∧ RowIs w g 3 (intCells xs ++ rest) := by
  obtain ⟨⟨hl, hm, hr⟩, hf⟩ := h
  obtain ⟨b, off, hA, hlt, hc⟩ := hr h0
  obtain ⟨b', cur, had, hge, hh, hsz⟩ := hf _ hA
  injection had with h1 h2 h3
  subst h1; subst h2
  refine ⟨b, cur.toList.drop n, hA, hge, ?_⟩
  unfold RowIs
  rw [hh]
  congr 2
  apply Array.ext'
  simp only
  have e : intCells xs = cur.toList.take n := by
    apply List.ext_getElem?
    intro j
    rcases Nat.lt_or_ge j n with hj | hj
    · rw [List.getElem?_take_of_lt hj]
      have hx : xs[j]? = some (xs[j]'(by omega)) := List.getElem?_eq_getElem (by omega)
      have c0 := hc j _ hx
      rw [cell_of_row w b _ _ _ (0, 0) hh] at c0
      simp only [Nat.zero_add] at c0
      simp only [intCells, List.getElem?_map, hx]
      simpa using c0.symm
    · rw [List.getElem?_eq_none (by simp [intCells]; omega), List.getElem?_eq_none (by simp; omega)]
  rw [e, List.take_append_drop]

/-- Own rows stay where another block is written. -/
theorem ROps.grown {w w' : World} {B : Option Addr} {n : Nat} {ys : List OpV} {row : Option Nat} (h : ROps w B n ys) (hg : w.grownBy w' row) (hne : ∀ b, B = some b → row ≠ some b.block) : ROps w' B n ys := by
  obtain ⟨h1, h2, h3⟩ := h
  refine ⟨h1, h2, fun hn => ?_⟩
  obtain ⟨b, off, hA, hlt, hc⟩ := h3 hn
  have hs := hg.size
  have hb := hg.block b hlt (fun e => hne _ hA e.symm)
  refine ⟨b, off, hA, by omega, fun i o ho => ?_⟩
  obtain ⟨c0, c1, c2⟩ := hc i o ho
  exact ⟨(World.cell?_of_block (w := w) (a := ⟨b, _, none⟩) hb).trans c0, (World.cell?_of_block (w := w) (a := ⟨b, _, none⟩) hb).trans c1, (World.cell?_of_block (w := w) (a := ⟨b, _, none⟩) hb).trans c2⟩
theorem RInts.grown {w w' : World} {B : Option Addr} {n : Nat} {ys : List Int} {row : Option Nat} (h : RInts w B n ys) (hg : w.grownBy w' row) (hne : ∀ b, B = some b → row ≠ some b.block) : RInts w' B n ys := by
  obtain ⟨h1, h2, h3⟩ := h
  refine ⟨h1, h2, fun hn => ?_⟩
  obtain ⟨b, off, hA, hlt, hc⟩ := h3 hn
  have hs := hg.size
  have hb := hg.block b hlt (fun e => hne _ hA e.symm)
  exact ⟨b, off, hA, by omega, fun i o ho => (World.cell?_of_block (w := w) (a := ⟨b, _, none⟩) hb).trans (hc i o ho)⟩
theorem grown_set {w : World} {g i : Nat} {v : Value} : w.grownBy (w.setCell ⟨g, i, none⟩ v) (some g) :=
  ⟨rfl, rfl, rfl, by simp [World.setCell], fun k hk hne => Below.heap_setCell w ⟨g, i, none⟩ v k (fun e => hne (by rw [e]))⟩
theorem grown_below {w w' : World} {row : Option Nat} (h : Below w.heap.size w w') : w.grownBy w' row := ⟨h.os, h.tape, h.output, h.size, fun i hi _ => h.block i hi⟩

/-- A store of an operation into place k of a row of the call's own. -/
theorem store_op {w : World} {ops : Array Oper} {rest : List Oper} {o : Oper} {a : Act} {Q : Exit → Act → World → Prop} (x y : Operand) {g : Nat} {T : TypeId} {ys : List OpV} {more : List Value} (p : OpV) {k : Nat} (hrow : RowIs w g T (opCells ys ++ more)) (hk : k < ys.length)
    (hgd : o.guard = none) (ho : o.op = .store 38 x y) (hx : a.eval x = .pointer (some ⟨g, k * 3, none⟩)) (hy : a.eval y = .agg #[.int .i64 p.tx, .int .i64 p.kind, .int .i64 p.item])
    (h : ∀ w', RowIs w' g T (opCells (ys.set k p) ++ more) → w.grownBy w' (some g) → wpList Tryd.prog ops Q rest (a.put o.dst undef) w') : wpList Tryd.prog ops Q (o :: rest) a w := by
  have hlen := length_opCells ys
  refine wpList_store_mid hgd _ x y ho g (k * 3) #[.int .i64 p.tx, .int .i64 p.kind, .int .i64 p.item] hx hy ?_ (by kernel_rfl) (by simp [Value.oneCell']) ?_
  · intro j hj
    have hj : j < 3 := hj
    have : k * 3 + j < (opCells ys ++ more).length := by rw [List.length_append]; omega
    exact ⟨by rw [hrow.cell (List.getElem?_eq_getElem this)]; rfl, hrow.frozen _⟩
  · refine h _ ?_ ?_
    · have := ((hrow.set (k * 3) (.int .i64 p.tx)).set (k * 3 + 1) (.int .i64 p.kind)).set (k * 3 + 2) (.int .i64 p.item)
      rw [List.set_append_left _ _ (by omega), List.set_append_left _ _ (by simp; omega), List.set_append_left _ _ (by simp; omega), ← opCells_put] at this
      exact this
    · exact World.grownBy.trans (World.grownBy.trans grown_set grown_set) grown_set
theorem made_ints (n : Nat) : (madeCells (Value.int .i64 0).cells (n * 1)).toList = intCells (List.replicate n 0) := by
  apply List.ext_getElem?
  intro j
  simp only [intCells, List.map_replicate, List.getElem?_replicate]
  split
  · rename_i hj
    rw [List.getElem?_eq_getElem (by simpa [size_madeCells] using hj)]
    simp only [madeCells, Array.getElem_toList, Array.getElem_map, Array.getElem_range]
    congr 1
    show (#[Value.int .i64 0] : Array Value)[j % 1]! = _
    rw [Nat.mod_one]; rfl
  · rename_i hj
    rw [List.getElem?_eq_none (by simpa [size_madeCells] using hj)]
/-- A store of an integer. -/
theorem row_setInt {w : World} {g k : Nat} {T : TypeId} {ys : List Int} {more : List Value} {v : Int} (hrow : RowIs w g T (intCells ys ++ more)) (hk : k < ys.length) : RowIs (w.setCell ⟨g, k, none⟩ (.int .i64 v)) g T (intCells (ys.set k v) ++ more) := by
  have := hrow.set k (.int .i64 v)
  rw [List.set_append_left _ _ (by simpa [intCells] using hk)] at this
  have e : (intCells ys).set k (.int .i64 v) = intCells (ys.set k v) := by simp [intCells, List.map_set]
  rw [e] at this
  exact this
end Go.Proofs.YtddkjbibjjehjaaDoor
