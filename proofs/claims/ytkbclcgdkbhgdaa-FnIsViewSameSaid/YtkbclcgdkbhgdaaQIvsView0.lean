/-
  Operations by their transaction and their number in it: where they stand, in plain words.
-/
import Derived.Test.YtkbclcgdkbhgdaaPkOrdX1
namespace Go.Proofs.Ytkbclcgdkbhgdaa
open Go.RowKit
set_option linter.unusedVariables false

/-- How many operations of t stand ahead of i. -/
def cntN (s : List OpV) (t : Int) (i : Nat) : Nat := ((s.take i).filter fun o => o.tx == t).length
theorem cntN_zero {s : List OpV} {t : Int} : cntN s t 0 = 0 := by simp [cntN]
theorem cntN_succ {s : List OpV} {t : Int} {i : Nat} {o : OpV} (h : s[i]? = some o) : cntN s t (i + 1) = cntN s t i + if o.tx = t then 1 else 0 := by
  unfold cntN
  rw [take_snoc h, List.filter_append, List.length_append]
  by_cases e : o.tx = t <;> simp [e]
theorem cntN_mono {s : List OpV} {t : Int} {i j : Nat} (h : i ≤ j) : cntN s t i ≤ cntN s t j := by
  unfold cntN
  have : List.Sublist (s.take i) (s.take j) := by
    rw [show s.take i = (s.take j).take i by rw [List.take_take, Nat.min_eq_left h]]
    exact List.take_sublist _ _
  exact (this.filter _).length_le
theorem cntN_le {s : List OpV} {t : Int} {i : Nat} : cntN s t i ≤ i := by
  unfold cntN
  exact Nat.le_trans (List.length_filter_le _ _) (by simp; omega)
theorem cntN_lt {s : List OpV} {t : Int} {i j : Nat} {o : OpV} (h : s[i]? = some o) (ht : o.tx = t) (hij : i < j) : cntN s t i < cntN s t j := by
  have h1 := cntN_succ (t := t) h
  rw [if_pos ht] at h1
  have := cntN_mono (s := s) (t := t) (i := i + 1) (j := j) (by omega)
  omega
/-- The k-th operation of t stands at i. -/
def At (s : List OpV) (t : Int) (k i : Nat) : Prop := ∃ o, s[i]? = some o ∧ o.tx = t ∧ cntN s t i = k
theorem At.uniq {s : List OpV} {t : Int} {k i j : Nat} (h : At s t k i) (h' : At s t k j) : i = j := by
  obtain ⟨o, h1, h2, h3⟩ := h
  obtain ⟨p, h4, h5, h6⟩ := h'
  rcases Nat.lt_trichotomy i j with e | e | e
  · have := cntN_lt h1 h2 e; omega
  · exact e
  · have := cntN_lt h4 h5 e; omega
theorem At.self {s : List OpV} {i : Nat} {o : OpV} (h : s[i]? = some o) : At s o.tx (cntN s o.tx i) i := ⟨o, h, rfl, rfl⟩
/-- It is the k-th of its transaction's operations. -/
theorem opsOf_at {s : List OpV} {i : Nat} {o : OpV} (h : s[i]? = some o) : (opsOf s o.tx)[cntN s o.tx i]? = some o := by
  obtain ⟨hi, e⟩ := List.getElem?_eq_some_iff.1 h
  have hs : s = s.take i ++ o :: s.drop (i + 1) := by
    rw [← e, ← List.drop_eq_getElem_cons hi, List.take_append_drop]
  have : opsOf s o.tx = (s.take i).filter (fun p => p.tx == o.tx) ++ o :: (s.drop (i + 1)).filter (fun p => p.tx == o.tx) := by
    unfold opsOf
    conv => lhs; rw [hs]
    rw [List.filter_append, List.filter_cons_of_pos (by simp)]
  rw [this, List.getElem?_append_right (by unfold cntN; omega)]
  unfold cntN
  simp
theorem at_opsOf {s : List OpV} {t : Int} : ∀ {k : Nat} {o : OpV}, (opsOf s t)[k]? = some o → ∃ i, s[i]? = some o ∧ o.tx = t ∧ cntN s t i = k := by
  induction s with
  | nil => intro k o h; simp [opsOf] at h
  | cons x r ih =>
    intro k o h
    have hc : ∀ i, cntN (x :: r) t (i + 1) = (if x.tx = t then 1 else 0) + cntN r t i := fun i => by
      unfold cntN
      rw [List.take_succ_cons, List.filter_cons]
      by_cases e : x.tx = t <;> simp [e] <;> omega
    unfold opsOf at h ih
    rw [List.filter_cons] at h
    by_cases e : x.tx = t
    · rw [if_pos (by simpa using e)] at h
      match k, h with
      | 0, h =>
        simp only [List.getElem?_cons_zero, Option.some.injEq] at h
        subst h
        exact ⟨0, rfl, e, cntN_zero⟩
      | k + 1, h =>
        rw [List.getElem?_cons_succ] at h
        obtain ⟨i, h1, h2, h3⟩ := ih h
        exact ⟨i + 1, by simpa using h1, h2, by rw [hc, if_pos e]; omega⟩
    · rw [if_neg (by simpa using e)] at h
      obtain ⟨i, h1, h2, h3⟩ := ih h
      exact ⟨i + 1, by simpa using h1, h2, by rw [hc, if_neg e]; omega⟩

/-- Two schedules have the same operations of each transaction. -/
def sameOpsB (a b : List OpV) : Bool := (List.range 4).all fun t => opsOf a (t : Int) == opsOf b (t : Int)
def SameOps (a b : List OpV) : Prop := ∀ t : Int, opsOf a t = opsOf b t
theorem opsOf_out {s : List OpV} (hr : Tx4 s) {t : Int} (ht : ¬ (0 ≤ t ∧ t ≤ 3)) : opsOf s t = [] := by
  unfold opsOf
  rw [List.filter_eq_nil_iff]
  intro o ho h
  have := hr o ho
  simp at h
  omega
theorem sameOps_iff {a b : List OpV} (ha : Tx4 a) (hb : Tx4 b) : sameOpsB a b = true ↔ SameOps a b := by
  unfold sameOpsB SameOps
  rw [List.all_eq_true]
  constructor
  · intro h t
    by_cases ht : 0 ≤ t ∧ t ≤ 3
    · have := h t.toNat (by simp; omega)
      rw [Int.toNat_of_nonneg ht.1] at this
      simpa using this
    · rw [opsOf_out ha ht, opsOf_out hb ht]
  · intro h t _
    simpa using h t
theorem SameOps.refl (a : List OpV) : SameOps a a := fun _ => rfl
theorem SameOps.symm {a b : List OpV} (h : SameOps a b) : SameOps b a := fun t => (h t).symm
theorem SameOps.trans {a b c : List OpV} (h : SameOps a b) (k : SameOps b c) : SameOps a c := fun t => (h t).trans (k t)
/-- Where an operation of the one stands in the other. -/
theorem SameOps.mir {a b : List OpV} (h : SameOps a b) {i : Nat} {o : OpV} (hi : a[i]? = some o) : ∃ j, b[j]? = some o ∧ cntN b o.tx j = cntN a o.tx i := by
  have h1 := opsOf_at hi
  rw [h o.tx] at h1
  obtain ⟨j, h2, _, h3⟩ := at_opsOf h1
  exact ⟨j, h2, h3⟩
/-- The place in b of what stands at i in a. -/
noncomputable def mirN (a b : List OpV) (i : Nat) : Nat := open Classical in if h : ∃ j o, a[i]? = some o ∧ b[j]? = some o ∧ cntN b o.tx j = cntN a o.tx i then h.choose else 0
theorem mirN_spec {a b : List OpV} (h : SameOps a b) {i : Nat} {o : OpV} (hi : a[i]? = some o) : b[mirN a b i]? = some o ∧ cntN b o.tx (mirN a b i) = cntN a o.tx i := by
  have he : ∃ j o, a[i]? = some o ∧ b[j]? = some o ∧ cntN b o.tx j = cntN a o.tx i := by
    obtain ⟨j, h1, h2⟩ := h.mir hi
    exact ⟨j, o, hi, h1, h2⟩
  unfold mirN
  rw [dif_pos he]
  obtain ⟨p, h1, h2, h3⟩ := he.choose_spec
  rw [hi] at h1
  injection h1 with h1
  subst h1
  exact ⟨h2, h3⟩
theorem mirN_at {a b : List OpV} {i j : Nat} {o : OpV} (h : SameOps a b) (hi : a[i]? = some o) (hj : b[j]? = some o) (hc : cntN b o.tx j = cntN a o.tx i) : mirN a b i = j := by
  obtain ⟨h1, h2⟩ := mirN_spec h hi
  exact At.uniq (s := b) (t := o.tx) (k := cntN a o.tx i) ⟨o, h1, rfl, h2⟩ ⟨o, hj, rfl, hc⟩
theorem mirN_back {a b : List OpV} (h : SameOps a b) {i : Nat} {o : OpV} (hi : a[i]? = some o) : mirN b a (mirN a b i) = i := by
  obtain ⟨h1, h2⟩ := mirN_spec h hi
  exact mirN_at h.symm h1 hi h2.symm
theorem mirN_inj {a b : List OpV} (h : SameOps a b) {i j : Nat} {o p : OpV} (hi : a[i]? = some o) (hj : a[j]? = some p) (e : mirN a b i = mirN a b j) : i = j := by
  rw [← mirN_back h hi, ← mirN_back h hj, e]
/-- The order within a transaction is the same. -/
theorem mirN_own {a b : List OpV} (h : SameOps a b) {i j : Nat} {o p : OpV} (hi : a[i]? = some o) (hj : a[j]? = some p) (ht : o.tx = p.tx) (hij : i < j) : mirN a b i < mirN a b j := by
  obtain ⟨h1, h2⟩ := mirN_spec h hi
  obtain ⟨h3, h4⟩ := mirN_spec h hj
  have h5 := cntN_lt hi rfl hij
  rw [← ht] at h4
  rcases Nat.lt_trichotomy (mirN a b i) (mirN a b j) with e | e | e
  · exact e
  · rw [e] at h2; omega
  · have := cntN_lt h3 ht.symm e
    omega
end Go.Proofs.Ytkbclcgdkbhgdaa
