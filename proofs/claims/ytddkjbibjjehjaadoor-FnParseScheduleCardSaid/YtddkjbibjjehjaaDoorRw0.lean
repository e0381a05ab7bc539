/-
  Rows of bits: a graph of four transactions, as a list of numbers.
-/
import Derived.Test.YtddkjbibjjehjaaDoorBits
import Derived.Test.YtddkjbibjjehjaaDoorRows0
namespace Go.Proofs.YtddkjbibjjehjaaDoor
open Go.RowKit Go.BigFrame
set_option linter.unusedVariables false

theorem ofInt64 (a : Nat) (ha : a < 9223372036854775808) : (BitVec.ofInt 64 (a : Int)).toNat = a := by
  rw [BitVec.ofInt_natCast, BitVec.toNat_ofNat]; exact Nat.mod_eq_of_lt (by omega)
theorem or_nat (a b : Nat) (ha : a < 9223372036854775808) (hb : b < 9223372036854775808) : bits .or .i64 (a : Int) (b : Int) = ((a ||| b : Nat) : Int) := by
  have hx : a ||| b < 2 ^ 63 := Nat.or_lt_two_pow (by omega) (by omega)
  show IntKind.i64.wrap ((BitVec.ofInt 64 (a : Int) ||| BitVec.ofInt 64 (b : Int)).toNat : Int) = _
  rw [BitVec.toNat_or, ofInt64 a ha, ofInt64 b hb, IntKind.wrap_i64]
  omega
theorem and_nat (a b : Nat) (ha : a < 9223372036854775808) (hb : b < 9223372036854775808) : bits .and .i64 (a : Int) (b : Int) = ((a &&& b : Nat) : Int) := by
  have hx : a &&& b < 2 ^ 63 := Nat.and_lt_two_pow _ (by omega)
  show IntKind.i64.wrap ((BitVec.ofInt 64 (a : Int) &&& BitVec.ofInt 64 (b : Int)).toNat : Int) = _
  rw [BitVec.toNat_and, ofInt64 a ha, ofInt64 b hb, IntKind.wrap_i64]
  omega

def rowSet (rows : List Nat) (t u : Int) : List Nat := rows.set t.toNat (rows.getD t.toNat 0 ||| (1 <<< u.toNat))
def agIn (f : Int → Bool) (t : Int) (list : List Int) (rows : List Nat) : List Nat := list.foldl (fun r u => if f u then rowSet r t u else r) rows
def agTo (g : Nat → OpV → Bool) (f : OpV → Int → Bool) (list : List Int) (s : List OpV) : Nat → List Nat
  | 0 => [0, 0, 0, 0]
  | k + 1 => match s[k]? with | some o => if g k o then agIn (f o) o.tx list (agTo g f list s k) else agTo g f list s k | none => agTo g f list s k
def rowsI (rows : List Nat) : List Int := rows.map fun n : Nat => (n : Int)
/-- Four rows of four bits. -/
def Rows4 (rows : List Nat) : Prop := rows.length = 4 ∧ ∀ r ∈ rows, r < 16

theorem rowSet_ok {rows : List Nat} (h : Rows4 rows) {t u : Int} (hu : 0 ≤ u ∧ u ≤ 3) : Rows4 (rowSet rows t u) := by
  refine ⟨by simp [rowSet, h.1], fun r hr => ?_⟩
  unfold rowSet at hr
  rcases List.mem_or_eq_of_mem_set hr with hr | rfl
  · exact h.2 r hr
  · have h1 : rows.getD t.toNat 0 < 2 ^ 4 := by
      rw [List.getD_eq_getElem?_getD]
      cases he : rows[t.toNat]? with
      | none => simp
      | some x => simpa using h.2 x (List.mem_of_getElem? he)
    have h2 : (1 <<< u.toNat) < 2 ^ 4 := by
      rcases (by omega : u.toNat = 0 ∨ u.toNat = 1 ∨ u.toNat = 2 ∨ u.toNat = 3) with e | e | e | e <;> rw [e] <;> decide
    exact Nat.or_lt_two_pow (n := 4) h1 h2
theorem agIn_ok {f : Int → Bool} {t : Int} {list : List Int} (hl : ∀ u ∈ list, 0 ≤ u ∧ u ≤ 3) : ∀ {rows : List Nat}, Rows4 rows → Rows4 (agIn f t list rows) := by
  unfold agIn
  induction list with
  | nil => intro rows h; exact h
  | cons x r ih =>
    intro rows h
    rw [List.foldl_cons]
    refine ih (fun u hu => hl u (by simp [hu])) ?_
    split
    · exact rowSet_ok h (hl x (by simp))
    · exact h
theorem agTo_ok {g : Nat → OpV → Bool} {f : OpV → Int → Bool} {list : List Int} {s : List OpV} (hl : ∀ u ∈ list, 0 ≤ u ∧ u ≤ 3) (k : Nat) : Rows4 (agTo g f list s k) := by
  induction k with
  | zero => exact ⟨rfl, by simp [agTo]⟩
  | succ k ih =>
    simp only [agTo]
    split
    · split
      · exact agIn_ok hl ih
      · exact ih
    · exact ih
theorem agTo_succ {g : Nat → OpV → Bool} {f : OpV → Int → Bool} {list : List Int} {s : List OpV} {k : Nat} {o : OpV} (h : s[k]? = some o) : agTo g f list s (k + 1) = if g k o then agIn (f o) o.tx list (agTo g f list s k) else agTo g f list s k := by
  simp only [agTo, h]
theorem agIn_snoc {f : Int → Bool} {t : Int} {list : List Int} {rows : List Nat} {j : Nat} {u : Int} (h : list[j]? = some u) : agIn f t (list.take (j + 1)) rows = if f u then rowSet (agIn f t (list.take j) rows) t u else agIn f t (list.take j) rows := by
  unfold agIn
  rw [take_snoc h, List.foldl_append]; rfl
theorem rowsI_at {rows : List Nat} (h : Rows4 rows) {T : Nat} (hT : T ≤ 3) : (intCells (rowsI rows))[T]? = some (.int .i64 ((rows.getD T 0 : Nat) : Int)) ∧ rows.getD T 0 < 16 := by
  have hl := h.1
  have e : rows[T]? = some (rows[T]'(by omega)) := List.getElem?_eq_getElem (by omega)
  rw [List.getD_eq_getElem?_getD, e]
  refine ⟨?_, ?_⟩
  · simp [intCells, rowsI, e]
  · simpa using h.2 _ (List.getElem_mem (by omega))
theorem rowsI_set {rows : List Nat} {T : Nat} {u : Int} : rowsI (rowSet rows T u) = (rowsI rows).set T (((rows.getD T 0 ||| (1 <<< u.toNat) : Nat)) : Int) := by
  simp [rowsI, rowSet, List.map_set]
theorem and_bit (m j : Nat) (hm : m < 4611686018427387904) : bits .and .i64 ((m : Int) / 2 ^ j) 1 = if m.testBit j then 1 else 0 := by
  have e : ((m : Int) / 2 ^ j) = ((m / 2 ^ j : Nat) : Int) := by simp
  have h1 : m / 2 ^ j ≤ m := Nat.div_le_self _ _
  rw [e, show (1 : Int) = ((1 : Nat) : Int) from rfl, and_nat _ _ (by omega) (by omega), Nat.and_one_is_mod]
  rw [Nat.testBit_eq_decide_div_mod_eq]
  by_cases h : m / 2 ^ j % 2 = 1
  · rw [h]; simp
  · have : m / 2 ^ j % 2 = 0 := by omega
    rw [this]; simp
theorem validS_ops {s : List OpV} (h : validS s = true) : ∀ o ∈ s, validOp o = true := by
  intro o ho
  unfold validS at h
  simp only [Bool.and_eq_true, List.all_eq_true] at h
  obtain ⟨k, hk⟩ := List.mem_iff_getElem?.1 ho
  have hl : k < s.length := by
    rcases Nat.lt_or_ge k s.length with h | h
    · exact h
    · rw [List.getElem?_eq_none h] at hk; cases hk
  have := h.2 k (List.mem_range.2 hl)
  unfold goodAt at this
  rw [hk] at this
  simp only [Bool.and_eq_true] at this
  exact this.1
theorem validS_item {s : List OpV} (h : validS s = true) {o : OpV} (ho : o ∈ s) : 0 ≤ o.item ∧ o.item ≤ 2 := by
  have := validS_ops h o ho
  simp [validOp, isAcc, isEnd, inR] at this
  omega
theorem validS_tx3 {s : List OpV} (h : validS s = true) {o : OpV} (ho : o ∈ s) : 0 ≤ o.tx ∧ o.tx ≤ 3 := by
  have := validS_ops h o ho
  simp [validOp, inR] at this
  omega
theorem rowSet_bit {rows : List Nat} (h : Rows4 rows) {T U t u : Nat} (hT : T ≤ 3) : ((rowSet rows T U).getD t 0).testBit u = ((rows.getD t 0).testBit u || (decide (t = T) && decide (u = U))) := by
  unfold rowSet
  simp only [Int.toNat_natCast]
  rw [List.getD_eq_getElem?_getD, List.getElem?_set]
  by_cases e : T = t
  · subst e
    have hl : T < rows.length := by rw [h.1]; omega
    rw [if_pos rfl, if_pos hl]
    simp only [Option.getD_some, Nat.testBit_or, Nat.one_shiftLeft, Nat.testBit_two_pow, decide_true, Bool.true_and]
    congr 1
    exact decide_eq_decide.2 ⟨fun h => h.symm, fun h => h.symm⟩
  · rw [if_neg e, List.getD_eq_getElem?_getD]
    have : ¬ t = T := fun h => e h.symm
    simp [this]
end Go.Proofs.YtddkjbibjjehjaaDoor
