/-
  Texts that the proof rests on, joined: part 8.
-/
import Derived.Deep.LoopGhost
import Derived.DeepKeys4
import Derived.Maps.Keyed
import Derived.Maps.Own
import Derived.Maps.OwnOps
import Derived.Maps.Range
import Derived.Maps.RangeWalk
import Derived.Maps.Views
import Derived.Test.YtcakjhappchlmaaSWx1
import Derived.Test.YtcakjhappchlmaaSWx2
import Derived.Test.YtcakjhappchlmaaSWx5
import Derived.Test.YtcakjhappchlmaaSWx6
import Derived.Test.YtcakjhappchlmaaSWx7
namespace Go.Proofs.Ytcakjhappchlmaa
open Go.RowKit Go.BigFrame
set_option linter.unusedVariables false

theorem ofInt64 (a : Nat) (ha : a < 9223372036854775808) : (BitVec.ofInt 64 (a : Int)).toNat = a := by
  rw [BitVec.ofInt_natCast, BitVec.toNat_ofNat]; exact Nat.mod_eq_of_lt (by omega)
theorem or_nat (a b : Nat) (ha : a < 9223372036854775808) (hb : b < 9223372036854775808) : bits .or .i64 (a : Int) (b : Int) = ((a ||| b : Nat) : Int) := by
  have hx : a ||| b < 2 ^ 63 := Nat.or_lt_two_pow (by omega) (by omega)
  show IntKind.i64.wrap ((BitVec.ofInt 64 (a : Int) ||| BitVec.ofInt 64 (b : Int)).toNat : Int) = _
  rw [BitVec.toNat_or, ofInt64 a ha, ofInt64 b hb, IntKind.wrap_i64]
  omega
theorem and_nat (a b : Nat) (ha : a < 9223372036854775808) (hb : b < 9223372036854775808) : bits .and .i64 (a : Int) (b : Int) = ((a &&& b : Nat) : Int) := by
  have hx : a &&& b < 2 ^ 63 := Nat.and_lt_two_pow _ (by omega)
  show IntKind.i64.wrap ((BitVec.ofInt 64 (a : Int) &&& BitVec.ofInt 64 (b : Int)).toNat : Int) = _
  rw [BitVec.toNat_and, ofInt64 a ha, ofInt64 b hb, IntKind.wrap_i64]
  omega

def rowSet (rows : List Nat) (t u : Int) : List Nat := rows.set t.toNat (rows.getD t.toNat 0 ||| (1 <<< u.toNat))
def rowsI (rows : List Nat) : List Int := rows.map fun n : Nat => (n : Int)
/-- Four rows of four bits. -/
def Rows4 (rows : List Nat) : Prop := rows.length = 4 ∧ ∀ r ∈ rows, r < 16

theorem rowSet_ok {rows : List Nat} (h : Rows4 rows) {t u : Int} (hu : 0 ≤ u ∧ u ≤ 3) : Rows4 (rowSet rows t u) := by
  refine ⟨by simp [rowSet, h.1], fun r hr => ?_⟩
  unfold rowSet at hr
  rcases List.mem_or_eq_of_mem_set hr with hr | rfl
  · exact h.2 r hr
  · have h1 : rows.getD t.toNat 0 < 2 ^ 4 := by
      rw [List.getD_eq_getElem?_getD]
      cases he : rows[t.toNat]? with
      | none => simp
      | some x => simpa using h.2 x (List.mem_of_getElem? he)
    have h2 : (1 <<< u.toNat) < 2 ^ 4 := by
      rcases (by omega : u.toNat = 0 ∨ u.toNat = 1 ∨ u.toNat = 2 ∨ u.toNat = 3) with e | e | e | e <;> rw [e] <;> decide
    exact Nat.or_lt_two_pow (n := 4) h1 h2
theorem rowsI_at {rows : List Nat} (h : Rows4 rows) {T : Nat} (hT : T ≤ 3) : (intCells (rowsI rows))[T]? = some (.int .i64 ((rows.getD T 0 : Nat) : Int)) ∧ rows.getD T 0 < 16 := by
  have hl := h.1
  have e : rows[T]? = some (rows[T]'(by omega)) := List.getElem?_eq_getElem (by omega)
  rw [List.getD_eq_getElem?_getD, e]
  refine ⟨?_, ?_⟩
  · simp [intCells, rowsI, e]
  · simpa using h.2 _ (List.getElem_mem (by omega))
theorem rowsI_set {rows : List Nat} {T : Nat} {u : Int} : rowsI (rowSet rows T u) = (rowsI rows).set T (((rows.getD T 0 ||| (1 <<< u.toNat) : Nat)) : Int) := by
  simp [rowsI, rowSet, List.map_set]
theorem and_bit (m j : Nat) (hm : m < 4611686018427387904) : bits .and .i64 ((m : Int) / 2 ^ j) 1 = if m.testBit j then 1 else 0 := by
  have e : ((m : Int) / 2 ^ j) = ((m / 2 ^ j : Nat) : Int) := by simp
  have h1 : m / 2 ^ j ≤ m := Nat.div_le_self _ _
  rw [e, show (1 : Int) = ((1 : Nat) : Int) from rfl, and_nat _ _ (by omega) (by omega), Nat.and_one_is_mod]
  rw [Nat.testBit_eq_decide_div_mod_eq]
  by_cases h : m / 2 ^ j % 2 = 1
  · rw [h]; simp
  · have : m / 2 ^ j % 2 = 0 := by omega
    rw [this]; simp
theorem validS_ops {s : List OpV} (h : validS s = true) : ∀ o ∈ s, validOp o = true := by
  intro o ho
  unfold validS at h
  simp only [Bool.and_eq_true, List.all_eq_true] at h
  obtain ⟨k, hk⟩ := List.mem_iff_getElem?.1 ho
  have hl : k < s.length := by
    rcases Nat.lt_or_ge k s.length with h | h
    · exact h
    · rw [List.getElem?_eq_none h] at hk; cases hk
  have := h.2 k (List.mem_range.2 hl)
  unfold goodAt at this
  rw [hk] at this
  simp only [Bool.and_eq_true] at this
  exact this.1
theorem rowSet_bit {rows : List Nat} (h : Rows4 rows) {T U t u : Nat} (hT : T ≤ 3) : ((rowSet rows T U).getD t 0).testBit u = ((rows.getD t 0).testBit u || (decide (t = T) && decide (u = U))) := by
  unfold rowSet
  simp only [Int.toNat_natCast]
  rw [List.getD_eq_getElem?_getD, List.getElem?_set]
  by_cases e : T = t
  · subst e
    have hl : T < rows.length := by rw [h.1]; omega
    rw [if_pos rfl, if_pos hl]
    simp only [Option.getD_some, Nat.testBit_or, Nat.one_shiftLeft, Nat.testBit_two_pow, decide_true, Bool.true_and]
    congr 1
    exact decide_eq_decide.2 ⟨fun h => h.symm, fun h => h.symm⟩
  · rw [if_neg e, List.getD_eq_getElem?_getD]
    have : ¬ t = T := fun h => e h.symm
    simp [this]
end Go.Proofs.Ytcakjhappchlmaa
namespace Go.Proofs.Ytcakjhappchlmaa
open Go.RowKit Go.BigFrame
set_option linter.unusedVariables false

theorem noEnd_true {s : List OpV} {i : Nat} {t : Int} (h : ∀ j, j < i → ∀ o, s[j]? = some o → (o.tx == t && isEnd o) = false) : noEnd (s.take i) t = true := by
  unfold noEnd
  rw [List.all_eq_true]
  intro o ho
  obtain ⟨j, hj⟩ := List.mem_iff_getElem?.1 ho
  rw [List.getElem?_take] at hj
  split at hj
  · rw [h j (by omega) o hj]; rfl
  · cases hj
theorem noEnd_false {s : List OpV} {i k : Nat} {t : Int} {o : OpV} (hk : k < i) (ho : s[k]? = some o) (h : (o.tx == t && isEnd o) = true) : noEnd (s.take i) t = false := by
  unfold noEnd
  rw [List.all_eq_false]
  exact ⟨o, List.mem_of_getElem? (i := k) (by rw [List.getElem?_take, if_pos hk]; exact ho), by rw [h]; simp⟩
theorem validS_iff (s : List OpV) : validS s = true ↔ s.length ≤ 16 ∧ (∀ o ∈ s, validOp o = true) ∧ s.Pairwise (fun a b => isEnd a = true → a.tx ≠ b.tx) := by
  constructor
  · intro h
    refine ⟨?_, validS_ops h, ?_⟩
    · unfold validS at h
      simp only [Bool.and_eq_true, decide_eq_true_eq] at h
      exact h.1
    · rw [List.pairwise_iff_getElem]
      intro i j hi hj hij he ht
      unfold validS at h
      simp only [Bool.and_eq_true, List.all_eq_true] at h
      have := h.2 j (List.mem_range.2 hj)
      unfold goodAt at this
      rw [List.getElem?_eq_getElem hj] at this
      simp only [Bool.and_eq_true] at this
      have h2 := this.2
      rw [noEnd_false (k := i) (o := s[i]) hij (List.getElem?_eq_getElem hi) (by rw [he, ht]; simp)] at h2
      cases h2
  · rintro ⟨h1, h2, h3⟩
    unfold validS
    simp only [Bool.and_eq_true, decide_eq_true_eq, List.all_eq_true]
    refine ⟨h1, fun j hj => ?_⟩
    have hj := List.mem_range.1 hj
    unfold goodAt
    rw [List.getElem?_eq_getElem hj]
    simp only [Bool.and_eq_true]
    refine ⟨h2 _ (List.getElem_mem hj), noEnd_true (fun k hk o ho => ?_)⟩
    have hk' : k < s.length := by omega
    rw [List.getElem?_eq_getElem hk'] at ho
    injection ho with ho
    subst ho
    rw [List.pairwise_iff_getElem] at h3
    have := h3 k j hk' hj hk
    cases he : isEnd s[k]
    · simp
    · simpa [he] using this he
/-! ### serial schedules -/

end Go.Proofs.Ytcakjhappchlmaa
namespace Go.Proofs.Ytcakjhappchlmaa
open Go.RowKit
set_option linter.unusedVariables false

def okStep (s : OpV) : Bool := inR s.tx 0 3 && inR s.kind 0 4 && inR s.item 0 2
theorem okStep_iff {s : OpV} : okStep s = true ↔ (0 ≤ s.tx ∧ s.tx ≤ 3) ∧ (0 ≤ s.kind ∧ s.kind ≤ 4) ∧ 0 ≤ s.item ∧ s.item ≤ 2 := by
  simp only [okStep, inR, Bool.and_eq_true, decide_eq_true_eq]
  omega
/-- What a step does to the lock of t on x. -/
def hStep (t x h : Int) (s : OpV) : Int := if s.tx = t ∧ s.item = x then (if s.kind = 2 then -1 else if s.kind ≤ 1 then s.kind else h) else h
def heldI (st : List OpV) (t x : Int) : Int := st.foldl (hStep t x) (-1)
theorem heldI_snoc (st : List OpV) (s : OpV) (t x : Int) : heldI (st ++ [s]) t x = hStep t x (heldI st t x) s := by simp [heldI]
theorem heldI_succ {st : List OpV} {k : Nat} {s : OpV} (h : st[k]? = some s) (t x : Int) : heldI (st.take (k + 1)) t x = hStep t x (heldI (st.take k) t x) s := by
  rw [take_snoc h, heldI_snoc]
theorem heldI_rng {st : List OpV} (h : ∀ s ∈ st, okStep s = true) (t x : Int) : heldI st t x = -1 ∨ heldI st t x = 0 ∨ heldI st t x = 1 := by
  have : ∀ (l : List OpV) (a : Int), (∀ s ∈ l, okStep s = true) → (a = -1 ∨ a = 0 ∨ a = 1) → (l.foldl (hStep t x) a = -1 ∨ l.foldl (hStep t x) a = 0 ∨ l.foldl (hStep t x) a = 1) := by
    intro l
    induction l with
    | nil => intro a _ ha; exact ha
    | cons s r ih =>
      intro a hl ha
      rw [List.foldl_cons]
      refine ih _ (fun q hq => hl q (List.mem_cons_of_mem _ hq)) ?_
      have := okStep_iff.1 (hl s (by simp))
      unfold hStep
      split
      · split
        · exact .inl rfl
        · split
          · omega
          · exact ha
      · exact ha
  exact this st (-1) h (.inl rfl)
theorem heldI_none {st : List OpV} {t x : Int} (h : ∀ s ∈ st, ¬ (s.tx = t ∧ s.item = x)) : heldI st t x = -1 := by
  have : ∀ (l : List OpV) (a : Int), (∀ s ∈ l, ¬ (s.tx = t ∧ s.item = x)) → l.foldl (hStep t x) a = a := by
    intro l
    induction l with
    | nil => intro a _; rfl
    | cons s r ih =>
      intro a hl
      rw [List.foldl_cons]
      have e : hStep t x a s = a := by unfold hStep; rw [if_neg (hl s (by simp))]
      rw [e]
      exact ih a fun q hq => hl q (List.mem_cons_of_mem _ hq)
  exact this st (-1) h
theorem heldI_out {st : List OpV} (h : ∀ s ∈ st, okStep s = true) {t x : Int} (ho : ¬ ((0 ≤ t ∧ t ≤ 3) ∧ 0 ≤ x ∧ x ≤ 2)) : heldI st t x = -1 :=
  heldI_none fun s hs e => ho (by have := okStep_iff.1 (h s hs); omega)
/-- Another one than t has a lock on x of at least a kind. -/
def othersB (p : List OpV) (t x least : Int) : Bool := [0, 1, 2, 3].any fun u => u != t && decide (least ≤ heldI p u x)
/-- The step o behind p is illegal. -/
def illB (p : List OpV) (o : OpV) : Bool :=
  if o.kind = 0 then decide (0 ≤ heldI p o.tx o.item) || othersB p o.tx o.item 1
  else if o.kind = 1 then heldI p o.tx o.item == 1 || othersB p o.tx o.item 0
  else if o.kind = 4 then heldI p o.tx o.item != 1
  else decide (heldI p o.tx o.item < 0)
def illAtB (st : List OpV) (i : Nat) : Bool := match st[i]? with | some o => illB (st.take i) o | none => false
end Go.Proofs.Ytcakjhappchlmaa
namespace Go.Proofs.Ytcakjhappchlmaa
open Go.RowKit
set_option linter.unusedVariables false

theorem zero4 : Rows4 [0, 0, 0, 0] := ⟨rfl, by decide⟩
/-- Two graphs with the same bits are one. -/
theorem rows_ext {R S : List Nat} (hR : Rows4 R) (hS : Rows4 S) (h : ∀ t u, t < 4 → u < 4 → (R.getD t 0).testBit u = (S.getD t 0).testBit u) : R = S := by
  refine List.ext_getElem (by rw [hR.1, hS.1]) fun i h1 h2 => ?_
  have hi : i < 4 := by rw [← hR.1]; exact h1
  have e1 : R.getD i 0 = R[i] := by rw [List.getD_eq_getElem?_getD, List.getElem?_eq_getElem h1]; rfl
  have e2 : S.getD i 0 = S[i] := by rw [List.getD_eq_getElem?_getD, List.getElem?_eq_getElem h2]; rfl
  refine Nat.eq_of_testBit_eq fun u => ?_
  rw [← e1, ← e2]
  by_cases hu : u < 4
  · exact h i u hi hu
  · have b : ∀ x : Nat, x < 16 → x.testBit u = false := fun x hx => by
      refine Nat.testBit_lt_two_pow (Nat.lt_of_lt_of_le hx ?_)
      have : (2:Nat) ^ 4 ≤ 2 ^ u := Nat.pow_le_pow_right (by omega) (by omega)
      omega
    rw [b _ (by rw [e1]; exact hR.2 _ (List.getElem_mem _)), b _ (by rw [e2]; exact hS.2 _ (List.getElem_mem _))]

theorem wf_small {t : Int} (h : 0 ≤ t ∧ t ≤ 3) : (Lit.int .i64 t).wf = true := by
  simp [Lit.wf, IntKind.min, IntKind.max, IntKind.signed, IntKind.bits]; omega
end Go.Proofs.Ytcakjhappchlmaa
namespace Go.Proofs.Ytcakjhappchlmaa
open Go.RowKit
set_option linter.unusedVariables false

/-- Whether the graph tells u for t. -/
def edgeB (rows : List Nat) (t u : Int) : Bool := (rows.getD t.toNat 0).testBit u.toNat
theorem any_mem_iff {L : List Int} {x : Int} : (L.any fun y => y == x) = true ↔ x ∈ L := by
  rw [List.any_eq_true]
  constructor
  · rintro ⟨y, hy, e⟩
    have : y = x := by simpa using e
    subst this; exact hy
  · intro h; exact ⟨x, h, by simp⟩
theorem nodup_len {l1 : List Int} : ∀ {l2 : List Int}, l1.Nodup → (∀ x ∈ l1, x ∈ l2) → l1.length ≤ l2.length := by
  induction l1 with
  | nil => intro l2 _ _; exact Nat.zero_le _
  | cons x r ih =>
    intro l2 hd hs
    rw [List.nodup_cons] at hd
    have hx := hs x (by simp)
    have h1 := ih (l2 := l2.erase x) hd.2 (fun y hy => by
      have hne : y ≠ x := fun e => hd.1 (by rw [← e]; exact hy)
      exact (List.mem_erase_of_ne hne).2 (hs y (by simp [hy])))
    rw [List.length_erase_of_mem hx] at h1
    have : 0 < l2.length := List.length_pos_of_mem hx
    simp only [List.length_cons]
    omega
end Go.Proofs.Ytcakjhappchlmaa
namespace Go.Proofs.Ytcakjhappchlmaa
open Go.RowKit Go.BigFrame
set_option linter.unusedVariables false


set_option maxHeartbeats 400000 in
theorem ClipInts_any (A : Option Addr) (n c : Nat) (w : World) (hn : n ≤ 1099511627776) (hnc : n ≤ c) :
    Calls Try.prog 89 #[.slice A n c] w fun e w' => e = .returned (.slice A n n) ∧ w = w' := by
  go_enter Try.func89, Try.ntmps89
  go_wp2_with fail
  go_ret
  exact ⟨rfl, rfl⟩
end Go.Proofs.Ytcakjhappchlmaa
