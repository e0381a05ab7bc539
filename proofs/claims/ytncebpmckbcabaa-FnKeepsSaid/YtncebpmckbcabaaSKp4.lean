/-
  Texts that the proof rests on, joined: part 4.
-/
import Derived.Deep.MidRow
import Derived.Test.YtncebpmckbcabaaSKp2
import Derived.Test.YtncebpmckbcabaaSKp3
namespace Go.Proofs.Ytncebpmckbcabaa
open Go.RowKit Go.BigFrame
set_option linter.unusedVariables false

/-- The place of a number in a list, -1 if it is not there. -/
def idxZ (xs : List Int) (x : Int) : Int := if xs.any (fun y => y == x) then (xs.findIdx (fun y => y == x) : Int) else -1
theorem idxZ_hit {xs : List Int} {x y : Int} {k : Nat} (ho : xs[k]? = some y) (h : (y == x) = true) (hno : ∀ j, j < k → ∀ y, xs[j]? = some y → (y == x) = false) : idxZ xs x = (k : Int) := by
  obtain ⟨hk, he⟩ := List.getElem?_eq_some_iff.1 ho
  have h1 : xs.any (fun y => y == x) = true := List.any_eq_true.2 ⟨y, List.mem_of_getElem? ho, h⟩
  have h2 : xs.findIdx (fun y => y == x) = k := by
    rw [List.findIdx_eq hk]
    exact ⟨by rw [he]; exact h, fun j hj => by have := hno j hj _ (List.getElem?_eq_getElem (by omega)); exact this⟩
  unfold idxZ
  rw [h1, h2]; rfl
theorem idxZ_none {xs : List Int} {x : Int} (hno : ∀ j, j < xs.length → ∀ y, xs[j]? = some y → (y == x) = false) : idxZ xs x = -1 := by
  unfold idxZ
  have : xs.any (fun y => y == x) = false := by
    rw [List.any_eq_false]
    intro o ho
    obtain ⟨j, hj⟩ := List.mem_iff_getElem?.1 ho
    have hl : j < xs.length := (List.getElem?_eq_some_iff.1 hj).1
    simp [hno j hl o hj]
  rw [this]; rfl
theorem idxZ_any (xs : List Int) (x : Int) : if (xs.any fun y => y == x) = true then 0 ≤ idxZ xs x else idxZ xs x = -1 := by
  unfold idxZ
  split
  · omega
  · rfl


set_option maxHeartbeats 400000 in
theorem spower_any (n : Nat) (w : World) (hn : n ≤ 61) : Calls Try.prog 102 #[.int .i64 (n : Int)] w fun e w' => e = .returned (.int .i64 ((2 ^ n : Nat) : Int)) ∧ w = w' := by
  go_enter Try.func102, Try.ntmps102
  go_wp2_with fail
  go_loop [0, 3] (fun a b => ∃ k : Nat, k ≤ n ∧ a = .int .i64 ((n : Int) - k) ∧ b = .int .i64 ((2 ^ k : Nat) : Int)) (fun a _ => (intOf a).toNat)
  case atStart => exact ⟨0, Nat.zero_le _, by simp, rfl⟩
  case round =>
    obtain ⟨k, hk, rfl, rfl⟩ := hrel
    by_cases hlt : k < n
    · have h2 : 2 ^ k ≤ 2 ^ 61 := Nat.pow_le_pow_right (by omega) (by omega)
      have h3 : Hid (2 ^ (k + 1) = 2 * 2 ^ k) := by show _ = _; rw [Nat.pow_succ]; omega
      generalize hP : 2 ^ k = p at *
      have HP := Lib.hid hP
      clear hP
      have h4 : p ≤ 2305843009213693952 := by have : (2:Nat) ^ 61 = 2305843009213693952 := by decide
                                              omega
      clear h2
      go_wp2_with fail
      go_round
      case rel => exact ⟨k + 1, by omega, by first | go_num | (congr 1; omega), by rw [h3.out]; first | go_num | (congr 1; omega)⟩
      case measure => simp [intOf]; omega
    · obtain rfl : k = n := by omega
      go_wp2_with fail
      go_ret
      exact ⟨rfl, rfl⟩


set_option maxHeartbeats 400000 in
theorem sbit_any (x j : Nat) (w : World) (hx : x ≤ 4611686018427387904) (hj : j ≤ 61) : Calls Try.prog 177 #[.int .i64 (x : Int), .int .i64 (j : Int)] w fun e w' => e = .returned (.int .i64 (if x.testBit j then 1 else 0)) ∧ w = w' := by
  have HP := Lib.hid (spower_any j w hj)
  have hp : 0 < 2 ^ j := Nat.two_pow_pos _
  have hq : (2 ^ j : Nat) ≤ 2305843009213693952 := by
    have : 2 ^ j ≤ 2 ^ 61 := Nat.pow_le_pow_right (by omega) hj
    have h2 : (2:Nat) ^ 61 = 2305843009213693952 := by decide
    omega
  obtain ⟨r, hr⟩ : ∃ r : Int, (if x.testBit j then 1 else 0) = r := ⟨_, rfl⟩
  rw [hr]
  have HR : Hid (((x / 2 ^ j % 2 : Nat) : Int) = r) := by
    show _ = _
    rw [← hr]
    rw [Nat.testBit_eq_decide_div_mod_eq]
    by_cases h : x / 2 ^ j % 2 = 1
    · rw [h]; simp
    · have : x / 2 ^ j % 2 = 0 := by omega
      rw [this]; simp
  generalize hP : 2 ^ j = p at *
  have hdiv : x / p ≤ x := Nat.div_le_self _ _
  clear hP hr
  have hpi : (p : Int) ≠ 0 := by omega
  have HD : Hid ((wrap64 ((x : Int) / (p : Int))).tmod 2 = ((x / p % 2 : Nat) : Int)) := by
    show _ = _
    have e1 : ((x : Int) / (p : Int)) = ((x / p : Nat) : Int) := by simp
    rw [e1]
    have e2 : wrap64 ((x / p : Nat) : Int) = ((x / p : Nat) : Int) := by
      generalize x / p = q at *
      unfold wrap64
      omega
    rw [e2]
    rfl
  go_enter Try.func177, Try.ntmps177
  go_wp2_with fail
  refine HP.out.mono ?_
  rintro e w1 ⟨rfl, rfl⟩
  go_wp2_with fail
  go_ret
  exact ⟨ret_int (by rw [← HR.out]; exact HD.out), rfl⟩


set_option maxHeartbeats 400000 in
theorem hasInt_any (A : Option Addr) (n c : Nat) (xs : List Int) (x : Int) (w : World) (hx : RInts w A n xs) :
    Calls Try.prog 90 #[.slice A n c, .int .i64 x] w fun e w' => e = .returned (.bool (xs.any fun y => y == x)) ∧ Below w.heap.size w w' := by
  have hn := hx.2.1
  have hl := hx.1
  have HX := Lib.hid hx
  clear hx
  go_enter Try.func90, Try.ntmps90
  go_wp2_with fail
  go_loop [5] (fun i => ∃ k : Nat, k ≤ n ∧ i = .int .i64 k ∧ ((xs.take k).any fun y => y == x) = false) (fun i => n - (intOf i).toNat)
  case atStart => exact ⟨0, Nat.zero_le _, rfl, by simp⟩
  case round =>
    obtain ⟨k, hk, rfl, hno⟩ := hrel
    by_cases hlt : k < n
    · obtain ⟨b, off, y, rfl, hbl, ho, c0⟩ := HX.out.at_ hlt
      have hst : ((xs.take (k + 1)).any fun y => y == x) = ((xs.take k).any (fun y => y == x) || y == x) := by
        rw [List.take_add_one, ho, List.any_append]; simp
      rw [hno, Bool.false_or] at hst
      have HS := Lib.hid hst
      have HM := Lib.hid (List.mem_of_getElem? ho)
      clear hst ho hno
      by_cases h1 : y = x
      · have ht : Hid ((xs.any fun y => y == x) = true) := List.any_eq_true.2 ⟨y, HM.out, by simpa using h1⟩
        go_wp2_with fail
        go_ret
        exact ⟨ret_bool ht.out.symm, Below.refl _ _⟩
      · have h1' : (y == x) = false := by simpa using h1
        go_wp2_with fail
        go_round
        case rel => exact ⟨k + 1, by omega, by go_num, by rw [HS.out]; exact h1'⟩
        case measure => simp [intOf]; omega
    · rw [List.take_of_length_le (by omega)] at hno
      have HN := Lib.hid hno
      clear hno
      go_wp2_with fail
      go_ret
      exact ⟨ret_bool HN.out.symm, Below.refl _ _⟩


end Go.Proofs.Ytncebpmckbcabaa
namespace Go.Proofs.Ytncebpmckbcabaa
open Go.RowKit Go.BigFrame
set_option linter.unusedVariables false

/-- Block g holds just these values. -/
def RowIs (w : World) (g : Nat) (T : TypeId) (vs : List Value) : Prop := w.heap[g]? = some (.cells vs.toArray T (0, 0))
section
variable {w : World} {g : Nat} {T : TypeId} {vs : List Value}
theorem RowIs.lt (h : RowIs w g T vs) : g < w.heap.size := lt_of_block h
theorem RowIs.cell (h : RowIs w g T vs) {i : Nat} {v : Value} (hv : vs[i]? = some v) : w.cell? ⟨g, i, none⟩ = some v := by
  rw [cell_of_row w g i _ T (0, 0) h]; simpa using hv
theorem RowIs.frozen (h : RowIs w g T vs) (i : Nat) : w.frozen? ⟨g, i, none⟩ = false := frozen_of_row w g i _ T h
theorem RowIs.set (h : RowIs w g T vs) (i : Nat) (v : Value) : RowIs (w.setCell ⟨g, i, none⟩ v) g T (vs.set i v) := by
  unfold RowIs
  rw [heap_setCell_same w g i _ T v h]
  simp
theorem RowIs.alloc (h : RowIs w g T vs) (o : Obj) : RowIs (w.alloc o) g T vs := (Below.heap_alloc w o g h.lt).trans h
theorem RowIs.below {w' : World} {B : Nat} (h : RowIs w g T vs) (hb : Below B w w') (hg : w.heap.size ≤ B) : RowIs w' g T vs := (hb.block g (by have := h.lt; omega)).trans h
end

/-- What a row of operations reads as. -/
theorem RowIs.ops {w : World} {g n : Nat} {T : TypeId} {ys : List OpV} {rest : List Value} (h : RowIs w g T (opCells ys ++ rest)) (hn : ys.length = n) (hm : n ≤ 1099511627776) : ROps w (some ⟨g, 0, none⟩) n ys := by
  refine ⟨hn, hm, fun _ => ⟨g, 0, rfl, h.lt, fun i o ho => ?_⟩⟩
  obtain ⟨c0, c1, c2⟩ := opCells_at ys i o ho
  have hc : ∀ j u, (opCells ys)[j]? = some u → w.cell? ⟨g, 0 + j, none⟩ = some u := fun j u hu => by
    rw [Nat.zero_add]
    refine h.cell ?_
    obtain ⟨hl, _⟩ := List.getElem?_eq_some_iff.1 hu
    rw [List.getElem?_append_left hl]; exact hu
  exact ⟨hc _ _ c0, by have := hc _ _ c1; simpa [Nat.add_assoc] using this, by have := hc _ _ c2; simpa [Nat.add_assoc] using this⟩
theorem RowIs.ints {w : World} {g n : Nat} {T : TypeId} {ys : List Int} {rest : List Value} (h : RowIs w g T (intCells ys ++ rest)) (hn : ys.length = n) (hm : n ≤ 1099511627776) : RInts w (some ⟨g, 0, none⟩) n ys := by
  refine ⟨hn, hm, fun _ => ⟨g, 0, rfl, h.lt, fun i o ho => ?_⟩⟩
  rw [Nat.zero_add]
  refine h.cell ?_
  have : (intCells ys)[i]? = some (.int .i64 o) := by simp [intCells, ho]
  obtain ⟨hl, _⟩ := List.getElem?_eq_some_iff.1 this
  rw [List.getElem?_append_left hl]; exact this
/-- New memory as a row. -/
theorem FreshOps.row {w0 w : World} {A : Option Addr} {n : Nat} {xs : List OpV} (h : FreshOps w0 w A n xs) (h0 : 0 < n) : ∃ g rest, A = some ⟨g, 0, none⟩ ∧ w0.heap.size ≤ g ∧ RowIs w g 62 (opCells xs ++ rest) := by
  obtain ⟨⟨hl, hm, hr⟩, hf⟩ := h
  obtain ⟨b, off, hA, hlt, hc⟩ := hr h0
  obtain ⟨b', cur, had, hge, hh, hsz⟩ := hf _ hA
  injection had with h1 h2 h3
  subst h1; subst h2
  refine ⟨b, cur.toList.drop (n * 3), hA, hge, ?_⟩
  unfold RowIs
  rw [hh]
  congr 2
  apply Array.ext'
  simp only
  have e : opCells xs = cur.toList.take (n * 3) := by
    apply List.ext_getElem?
    intro j
    rcases Nat.lt_or_ge j (n * 3) with hj | hj
    · rw [List.getElem?_take_of_lt hj]
      obtain ⟨v, hv⟩ : ∃ v, (opCells xs)[j]? = some v := ⟨_, List.getElem?_eq_getElem (by rw [length_opCells]; omega)⟩
      rw [hv]
      obtain ⟨i, o, ho, h⟩ := opCells_find xs j v hv
      obtain ⟨c0, c1, c2⟩ := hc i o ho
      have hcell : ∀ q, w.cell? ⟨b, q, none⟩ = cur[q]? := fun q => cell_of_row w b q _ _ (0, 0) hh
      rw [hcell] at c0 c1 c2
      simp only [Nat.zero_add] at c0 c1 c2
      rcases h with ⟨rfl, rfl⟩ | ⟨rfl, rfl⟩ | ⟨rfl, rfl⟩
      · simpa using c0.symm
      · simpa using c1.symm
      · simpa using c2.symm
    · rw [List.getElem?_eq_none (by rw [length_opCells]; omega), List.getElem?_eq_none (by simp; omega)]
  rw [e, List.take_append_drop]
theorem FreshInts.row {w0 w : World} {A : Option Addr} {n : Nat} {xs : List Int} (h : FreshInts w0 w A n xs) (h0 : 0 < n) : ∃ g rest, A = some ⟨g, 0, none⟩ ∧ w0.heap.size ≤ g ∧ RowIs w g 3 (intCells xs ++ rest) := by
  obtain ⟨⟨hl, hm, hr⟩, hf⟩ := h
  obtain ⟨b, off, hA, hlt, hc⟩ := hr h0
  obtain ⟨b', cur, had, hge, hh, hsz⟩ := hf _ hA
  injection had with h1 h2 h3
  subst h1; subst h2
  refine ⟨b, cur.toList.drop n, hA, hge, ?_⟩
  unfold RowIs
  rw [hh]
  congr 2
  apply Array.ext'
  simp only
  have e : intCells xs = cur.toList.take n := by
    apply List.ext_getElem?
    intro j
    rcases Nat.lt_or_ge j n with hj | hj
    · rw [List.getElem?_take_of_lt hj]
      have hx : xs[j]? = some (xs[j]'(by omega)) := List.getElem?_eq_getElem (by omega)
      have c0 := hc j _ hx
      rw [cell_of_row w b _ _ _ (0, 0) hh] at c0
      simp only [Nat.zero_add] at c0
      simp only [intCells, List.getElem?_map, hx]
      simpa using c0.symm
    · rw [List.getElem?_eq_none (by simp [intCells]; omega), List.getElem?_eq_none (by simp; omega)]
  rw [e, List.take_append_drop]

/-- Own rows stay where another block is written. -/
theorem ROps.grown {w w' : World} {B : Option Addr} {n : Nat} {ys : List OpV} {row : Option Nat} (h : ROps w B n ys) (hg : w.grownBy w' row) (hne : ∀ b, B = some b → row ≠ some b.block) : ROps w' B n ys := by
  obtain ⟨h1, h2, h3⟩ := h
  refine ⟨h1, h2, fun hn => ?_⟩
  obtain ⟨b, off, hA, hlt, hc⟩ := h3 hn
  have hs := hg.size
  have hb := hg.block b hlt (fun e => hne _ hA e.symm)
  refine ⟨b, off, hA, by omega, fun i o ho => ?_⟩
  obtain ⟨c0, c1, c2⟩ := hc i o ho
  exact ⟨(World.cell?_of_block (w := w) (a := ⟨b, _, none⟩) hb).trans c0, (World.cell?_of_block (w := w) (a := ⟨b, _, none⟩) hb).trans c1, (World.cell?_of_block (w := w) (a := ⟨b, _, none⟩) hb).trans c2⟩
theorem RInts.grown {w w' : World} {B : Option Addr} {n : Nat} {ys : List Int} {row : Option Nat} (h : RInts w B n ys) (hg : w.grownBy w' row) (hne : ∀ b, B = some b → row ≠ some b.block) : RInts w' B n ys := by
  obtain ⟨h1, h2, h3⟩ := h
  refine ⟨h1, h2, fun hn => ?_⟩
  obtain ⟨b, off, hA, hlt, hc⟩ := h3 hn
  have hs := hg.size
  have hb := hg.block b hlt (fun e => hne _ hA e.symm)
  exact ⟨b, off, hA, by omega, fun i o ho => (World.cell?_of_block (w := w) (a := ⟨b, _, none⟩) hb).trans (hc i o ho)⟩
theorem grown_set {w : World} {g i : Nat} {v : Value} : w.grownBy (w.setCell ⟨g, i, none⟩ v) (some g) :=
  ⟨rfl, rfl, rfl, by simp [World.setCell], fun k hk hne => Below.heap_setCell w ⟨g, i, none⟩ v k (fun e => hne (by rw [e]))⟩
theorem grown_below {w w' : World} {row : Option Nat} (h : Below w.heap.size w w') : w.grownBy w' row := ⟨h.os, h.tape, h.output, h.size, fun i hi _ => h.block i hi⟩

theorem made_ints (n : Nat) : (madeCells (Value.int .i64 0).cells (n * 1)).toList = intCells (List.replicate n 0) := by
  apply List.ext_getElem?
  intro j
  simp only [intCells, List.map_replicate, List.getElem?_replicate]
  split
  · rename_i hj
    rw [List.getElem?_eq_getElem (by simpa [size_madeCells] using hj)]
    simp only [madeCells, Array.getElem_toList, Array.getElem_map, Array.getElem_range]
    congr 1
    show (#[Value.int .i64 0] : Array Value)[j % 1]! = _
    rw [Nat.mod_one]; rfl
  · rename_i hj
    rw [List.getElem?_eq_none (by simpa [size_madeCells] using hj)]
/-- A store of an integer. -/
theorem row_setInt {w : World} {g k : Nat} {T : TypeId} {ys : List Int} {more : List Value} {v : Int} (hrow : RowIs w g T (intCells ys ++ more)) (hk : k < ys.length) : RowIs (w.setCell ⟨g, k, none⟩ (.int .i64 v)) g T (intCells (ys.set k v) ++ more) := by
  have := hrow.set k (.int .i64 v)
  rw [List.set_append_left _ _ (by simpa [intCells] using hk)] at this
  have e : (intCells ys).set k (.int .i64 v) = intCells (ys.set k v) := by simp [intCells, List.map_set]
  rw [e] at this
  exact this
end Go.Proofs.Ytncebpmckbcabaa
namespace Go.Proofs.Ytncebpmckbcabaa
open Go.RowKit Go.BigFrame
set_option linter.unusedVariables false

theorem ofInt64 (a : Nat) (ha : a < 9223372036854775808) : (BitVec.ofInt 64 (a : Int)).toNat = a := by
  rw [BitVec.ofInt_natCast, BitVec.toNat_ofNat]; exact Nat.mod_eq_of_lt (by omega)
theorem or_nat (a b : Nat) (ha : a < 9223372036854775808) (hb : b < 9223372036854775808) : bits .or .i64 (a : Int) (b : Int) = ((a ||| b : Nat) : Int) := by
  have hx : a ||| b < 2 ^ 63 := Nat.or_lt_two_pow (by omega) (by omega)
  show IntKind.i64.wrap ((BitVec.ofInt 64 (a : Int) ||| BitVec.ofInt 64 (b : Int)).toNat : Int) = _
  rw [BitVec.toNat_or, ofInt64 a ha, ofInt64 b hb, IntKind.wrap_i64]
  omega
theorem and_nat (a b : Nat) (ha : a < 9223372036854775808) (hb : b < 9223372036854775808) : bits .and .i64 (a : Int) (b : Int) = ((a &&& b : Nat) : Int) := by
  have hx : a &&& b < 2 ^ 63 := Nat.and_lt_two_pow _ (by omega)
  show IntKind.i64.wrap ((BitVec.ofInt 64 (a : Int) &&& BitVec.ofInt 64 (b : Int)).toNat : Int) = _
  rw [BitVec.toNat_and, ofInt64 a ha, ofInt64 b hb, IntKind.wrap_i64]
  omega

def rowSet (rows : List Nat) (t u : Int) : List Nat := rows.set t.toNat (rows.getD t.toNat 0 ||| (1 <<< u.toNat))
def rowsI (rows : List Nat) : List Int := rows.map fun n : Nat => (n : Int)
/-- Four rows of four bits. -/
def Rows4 (rows : List Nat) : Prop := rows.length = 4 ∧ ∀ r ∈ rows, r < 16

theorem rowSet_ok {rows : List Nat} (h : Rows4 rows) {t u : Int} (hu : 0 ≤ u ∧ u ≤ 3) : Rows4 (rowSet rows t u) := by
  refine ⟨by simp [rowSet, h.1], fun r hr => ?_⟩
  unfold rowSet at hr
  rcases List.mem_or_eq_of_mem_set hr with hr | rfl
  · exact h.2 r hr
  · have h1 : rows.getD t.toNat 0 < 2 ^ 4 := by
      rw [List.getD_eq_getElem?_getD]
      cases he : rows[t.toNat]? with
      | none => simp
      | some x => simpa using h.2 x (List.mem_of_getElem? he)
    have h2 : (1 <<< u.toNat) < 2 ^ 4 := by
      rcases (by omega : u.toNat = 0 ∨ u.toNat = 1 ∨ u.toNat = 2 ∨ u.toNat = 3) with e | e | e | e <;> rw [e] <;> decide
    exact Nat.or_lt_two_pow (n := 4) h1 h2
theorem rowsI_at {rows : List Nat} (h : Rows4 rows) {T : Nat} (hT : T ≤ 3) : (intCells (rowsI rows))[T]? = some (.int .i64 ((rows.getD T 0 : Nat) : Int)) ∧ rows.getD T 0 < 16 := by
  have hl := h.1
  have e : rows[T]? = some (rows[T]'(by omega)) := List.getElem?_eq_getElem (by omega)
  rw [List.getD_eq_getElem?_getD, e]
  refine ⟨?_, ?_⟩
  · simp [intCells, rowsI, e]
  · simpa using h.2 _ (List.getElem_mem (by omega))
theorem rowsI_set {rows : List Nat} {T : Nat} {u : Int} : rowsI (rowSet rows T u) = (rowsI rows).set T (((rows.getD T 0 ||| (1 <<< u.toNat) : Nat)) : Int) := by
  simp [rowsI, rowSet, List.map_set]
theorem validS_ops {s : List OpV} (h : validS s = true) : ∀ o ∈ s, validOp o = true := by
  intro o ho
  unfold validS at h
  simp only [Bool.and_eq_true, List.all_eq_true] at h
  obtain ⟨k, hk⟩ := List.mem_iff_getElem?.1 ho
  have hl : k < s.length := by
    rcases Nat.lt_or_ge k s.length with h | h
    · exact h
    · rw [List.getElem?_eq_none h] at hk; cases hk
  have := h.2 k (List.mem_range.2 hl)
  unfold goodAt at this
  rw [hk] at this
  simp only [Bool.and_eq_true] at this
  exact this.1
theorem validS_tx3 {s : List OpV} (h : validS s = true) {o : OpV} (ho : o ∈ s) : 0 ≤ o.tx ∧ o.tx ≤ 3 := by
  have := validS_ops h o ho
  simp [validOp, inR] at this
  omega
theorem rowSet_bit {rows : List Nat} (h : Rows4 rows) {T U t u : Nat} (hT : T ≤ 3) : ((rowSet rows T U).getD t 0).testBit u = ((rows.getD t 0).testBit u || (decide (t = T) && decide (u = U))) := by
  unfold rowSet
  simp only [Int.toNat_natCast]
  rw [List.getD_eq_getElem?_getD, List.getElem?_set]
  by_cases e : T = t
  · subst e
    have hl : T < rows.length := by rw [h.1]; omega
    rw [if_pos rfl, if_pos hl]
    simp only [Option.getD_some, Nat.testBit_or, Nat.one_shiftLeft, Nat.testBit_two_pow, decide_true, Bool.true_and]
    congr 1
    exact decide_eq_decide.2 ⟨fun h => h.symm, fun h => h.symm⟩
  · rw [if_neg e, List.getD_eq_getElem?_getD]
    have : ¬ t = T := fun h => e h.symm
    simp [this]
end Go.Proofs.Ytncebpmckbcabaa
namespace Go.Proofs.Ytncebpmckbcabaa
open Go.RowKit Go.BigFrame
set_option linter.unusedVariables false

def stampN (s : List OpV) (t : Int) : Nat := s.findIdx fun o => o.tx == t
def commitN (s : List OpV) (t : Int) : Nat := s.findIdx fun o => o.tx == t && o.kind == 2
theorem noEnd_true {s : List OpV} {i : Nat} {t : Int} (h : ∀ j, j < i → ∀ o, s[j]? = some o → (o.tx == t && isEnd o) = false) : noEnd (s.take i) t = true := by
  unfold noEnd
  rw [List.all_eq_true]
  intro o ho
  obtain ⟨j, hj⟩ := List.mem_iff_getElem?.1 ho
  rw [List.getElem?_take] at hj
  split at hj
  · rw [h j (by omega) o hj]; rfl
  · cases hj
theorem noEnd_false {s : List OpV} {i k : Nat} {t : Int} {o : OpV} (hk : k < i) (ho : s[k]? = some o) (h : (o.tx == t && isEnd o) = true) : noEnd (s.take i) t = false := by
  unfold noEnd
  rw [List.all_eq_false]
  exact ⟨o, List.mem_of_getElem? (i := k) (by rw [List.getElem?_take, if_pos hk]; exact ho), by rw [h]; simp⟩
theorem validS_iff (s : List OpV) : validS s = true ↔ s.length ≤ 16 ∧ (∀ o ∈ s, validOp o = true) ∧ s.Pairwise (fun a b => isEnd a = true → a.tx ≠ b.tx) := by
  constructor
  · intro h
    refine ⟨?_, validS_ops h, ?_⟩
    · unfold validS at h
      simp only [Bool.and_eq_true, decide_eq_true_eq] at h
      exact h.1
    · rw [List.pairwise_iff_getElem]
      intro i j hi hj hij he ht
      unfold validS at h
      simp only [Bool.and_eq_true, List.all_eq_true] at h
      have := h.2 j (List.mem_range.2 hj)
      unfold goodAt at this
      rw [List.getElem?_eq_getElem hj] at this
      simp only [Bool.and_eq_true] at this
      have h2 := this.2
      rw [noEnd_false (k := i) (o := s[i]) hij (List.getElem?_eq_getElem hi) (by rw [he, ht]; simp)] at h2
      cases h2
  · rintro ⟨h1, h2, h3⟩
    unfold validS
    simp only [Bool.and_eq_true, decide_eq_true_eq, List.all_eq_true]
    refine ⟨h1, fun j hj => ?_⟩
    have hj := List.mem_range.1 hj
    unfold goodAt
    rw [List.getElem?_eq_getElem hj]
    simp only [Bool.and_eq_true]
    refine ⟨h2 _ (List.getElem_mem hj), noEnd_true (fun k hk o ho => ?_)⟩
    have hk' : k < s.length := by omega
    rw [List.getElem?_eq_getElem hk'] at ho
    injection ho with ho
    subst ho
    rw [List.pairwise_iff_getElem] at h3
    have := h3 k j hk' hj hk
    cases he : isEnd s[k]
    · simp
    · simpa [he] using this he
/-- What is left when whole operations are dropped is a schedule. -/
theorem validS_sub {s t : List OpV} (h : validS s = true) (hs : List.Sublist t s) : validS t = true := by
  rw [validS_iff] at *
  exact ⟨Nat.le_trans hs.length_le h.1, fun o ho => h.2.1 o (hs.subset ho), List.Pairwise.sublist hs h.2.2⟩
/-- Behind the end of a transaction stands none of it. -/
theorem validS_after {s : List OpV} (h : validS s = true) {i j : Nat} {a b : OpV} (hi : s[i]? = some a) (hj : s[j]? = some b) (he : isEnd a = true) (ht : a.tx = b.tx) : j ≤ i := by
  rcases Nat.lt_or_ge i j with hij | hij
  · exfalso
    obtain ⟨hil, hia⟩ := List.getElem?_eq_some_iff.1 hi
    obtain ⟨hjl, hjb⟩ := List.getElem?_eq_some_iff.1 hj
    have := List.pairwise_iff_getElem.1 ((validS_iff s).1 h).2.2 i j hil hjl hij
    rw [hia, hjb] at this
    exact this he ht
  · exact hij
theorem isEnd_two {o : OpV} (h : o.kind = 2) : isEnd o = true := by simp [isEnd, h]

/-- A transaction with a commit ends with it. -/
theorem endOf_commit {s : List OpV} (h : validS s = true) {o : OpV} (ho : o ∈ s) (hk : o.kind = 2) : endOf s o.tx = 2 := by
  obtain ⟨k, hk'⟩ := List.mem_iff_getElem?.1 ho
  have := endOf_hit s o.tx k o hk' (fun j hj q hq => by
    cases hq2 : (q.tx == o.tx && isEnd q)
    · rfl
    · simp only [Bool.and_eq_true, beq_iff_eq] at hq2
      have := validS_after h hq hk' hq2.2 hq2.1
      omega) (by simp [isEnd, hk])
  rw [this, hk]
theorem endOf_two {s : List OpV} {t : Int} (h : endOf s t = 2) : ∃ o ∈ s, o.tx = t ∧ o.kind = 2 := by
  unfold endOf at h
  cases hf : s.find? (fun o => o.tx == t && isEnd o) with
  | none => rw [hf] at h; simp at h
  | some o =>
    rw [hf] at h
    have h1 := List.find?_some hf
    simp only [Bool.and_eq_true, beq_iff_eq] at h1
    exact ⟨o, List.mem_of_find?_eq_some hf, h1.1, by simpa using h⟩
theorem endOf_two_iff {s : List OpV} (h : validS s = true) (t : Int) : endOf s t = 2 ↔ ∃ o ∈ s, o.tx = t ∧ o.kind = 2 := by
  constructor
  · exact endOf_two
  · rintro ⟨o, ho, rfl, hk⟩
    exact endOf_commit h ho hk
theorem mem_committed {s : List OpV} {o : OpV} : o ∈ committed s ↔ o ∈ s ∧ endOf s o.tx = 2 := by
  unfold committed
  rw [List.mem_filter]
  simp
theorem nodup_txsOf (s : List OpV) : (txsOf s).Nodup := by
  unfold txsOf
  exact List.Pairwise.filter _ (by decide)
theorem findIdx_at {s : List OpV} {p : OpV → Bool} {o : OpV} (ho : o ∈ s) (hp : p o = true) : ∃ q, s[s.findIdx p]? = some q ∧ p q = true := by
  have hl : s.findIdx p < s.length := List.findIdx_lt_length.2 ⟨o, ho, hp⟩
  exact ⟨_, List.getElem?_eq_getElem hl, @List.findIdx_getElem _ p s hl⟩
theorem stampN_at {s : List OpV} {o : OpV} (ho : o ∈ s) : ∃ q, s[stampN s o.tx]? = some q ∧ q.tx = o.tx := by
  obtain ⟨q, h1, h2⟩ := findIdx_at (p := fun x : OpV => x.tx == o.tx) ho (by simp)
  exact ⟨q, h1, by simpa using h2⟩
theorem commitN_at {s : List OpV} {o : OpV} (ho : o ∈ s) (hk : o.kind = 2) : ∃ q, s[commitN s o.tx]? = some q ∧ q.tx = o.tx ∧ q.kind = 2 := by
  obtain ⟨q, h1, h2⟩ := findIdx_at (p := fun x : OpV => x.tx == o.tx && x.kind == 2) ho (by simp [hk])
  exact ⟨q, h1, by simpa using h2⟩
/-! ### serial schedules -/

theorem ser_at {s : List OpV} (h : isSer s = true) {k : Nat} {o : OpV} (ho : s[k]? = some o) (hk : 0 < k) {q : OpV} (hq : s[k - 1]? = some q) (hne : q.tx ≠ o.tx) : ∀ j p, j < k → s[j]? = some p → p.tx ≠ o.tx := by
  intro j p hj hp ht
  unfold isSer at h
  rw [List.all_eq_true] at h
  have hl : k < s.length := (List.getElem?_eq_some_iff.1 ho).1
  have := h k (List.mem_range.2 hl)
  have hb : serBad s k = true := by
    unfold serBad
    rw [ho, hq]
    simp only [Bool.and_eq_true, bne_iff_ne]
    refine ⟨fun e => hne e.symm, ?_⟩
    unfold hasTx
    exact List.any_eq_true.2 ⟨p, List.mem_of_getElem? (i := j) (by rw [List.getElem?_take, if_pos hj]; exact hp), by simpa using ht⟩
  rw [hb] at this
  simp at this
  omega
/-- Between two operations of one transaction stand operations of this one alone. -/
theorem ser_between {s : List OpV} (h : isSer s = true) {i j : Nat} {a b : OpV} (hi : s[i]? = some a) (hj : s[j]? = some b) (ht : a.tx = b.tx) : ∀ k c, i ≤ k → k ≤ j → s[k]? = some c → c.tx = a.tx := by
  have key : ∀ d k c, k + d = j → i ≤ k → s[k]? = some c → c.tx = a.tx := by
    intro d
    induction d with
    | zero =>
      intro k c hk _ hc
      obtain rfl : k = j := by omega
      rw [hj] at hc; injection hc with hc; rw [← hc, ht]
    | succ d ih =>
      intro k c hk hik hc
      have hjl : j < s.length := (List.getElem?_eq_some_iff.1 hj).1
      have e : s[k + 1]? = some (s[k + 1]'(by omega)) := List.getElem?_eq_getElem (by omega)
      have h1 := ih (k + 1) _ (by omega) (by omega) e
      by_cases hne : c.tx = (s[k + 1]'(by omega)).tx
      · rw [hne, h1]
      · exfalso
        exact ser_at h e (by omega) (q := c) hc hne i a (by omega) hi h1.symm
  intro k c h1 h2 hc
  exact key (j - k) k c (by omega) h1 hc

theorem stampN_le {s : List OpV} {j : Nat} {o : OpV} (h : s[j]? = some o) : stampN s o.tx ≤ j := by
  rcases Nat.lt_or_ge j (stampN s o.tx) with hlt | hge
  · have := List.not_of_lt_findIdx (p := fun x : OpV => x.tx == o.tx) hlt
    rw [(List.getElem?_eq_some_iff.1 h).2] at this
    simp at this
  · exact hge
end Go.Proofs.Ytncebpmckbcabaa
