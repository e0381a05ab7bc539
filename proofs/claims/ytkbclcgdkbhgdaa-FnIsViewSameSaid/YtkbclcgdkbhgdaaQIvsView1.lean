/-
  The same conflicts, the same views, in plain words.
-/
import Derived.Test.YtkbclcgdkbhgdaaQIvsView0
import Derived.Test.YtkbclcgdkbhgdaaPkOrdX2
import Derived.Test.YtkbclcgdkbhgdaaQIvsIserP0
namespace Go.Proofs.Ytkbclcgdkbhgdaa
open Go.RowKit
set_option linter.unusedVariables false

/-! what is kept of a list -/
def phi (s : List OpV) (p : OpV → Bool) (i : Nat) : Nat := ((s.take i).filter p).length
theorem split_at {s : List OpV} {i : Nat} {o : OpV} (h : s[i]? = some o) : s = s.take i ++ o :: s.drop (i + 1) := by
  obtain ⟨hi, e⟩ := List.getElem?_eq_some_iff.1 h
  rw [← e, ← List.drop_eq_getElem_cons hi, List.take_append_drop]
theorem filt_split {s : List OpV} {p : OpV → Bool} {i : Nat} {o : OpV} (h : s[i]? = some o) (hp : p o = true) : s.filter p = (s.take i).filter p ++ o :: (s.drop (i + 1)).filter p := by
  conv => lhs; rw [split_at h]
  rw [List.filter_append, List.filter_cons_of_pos hp]
theorem phi_at {s : List OpV} {p : OpV → Bool} {i : Nat} {o : OpV} (h : s[i]? = some o) (hp : p o = true) : (s.filter p)[phi s p i]? = some o := by
  rw [filt_split h hp, List.getElem?_append_right (by unfold phi; omega)]
  unfold phi
  simp
theorem phi_take {s : List OpV} {p : OpV → Bool} {i : Nat} {o : OpV} (h : s[i]? = some o) (hp : p o = true) : (s.filter p).take (phi s p i) = (s.take i).filter p := by
  rw [filt_split h hp]
  unfold phi
  simp
theorem phi_mono {s : List OpV} {p : OpV → Bool} {i j : Nat} (h : i ≤ j) : phi s p i ≤ phi s p j := by
  unfold phi
  have : List.Sublist (s.take i) (s.take j) := by
    rw [show s.take i = (s.take j).take i by rw [List.take_take, Nat.min_eq_left h]]
    exact List.take_sublist _ _
  exact (this.filter _).length_le
theorem phi_lt {s : List OpV} {p : OpV → Bool} {i j : Nat} {o : OpV} (h : s[i]? = some o) (hp : p o = true) (hij : i < j) : phi s p i < phi s p j := by
  have h1 : phi s p (i + 1) = phi s p i + 1 := by
    unfold phi
    rw [take_snoc h, List.filter_append, List.length_append]
    simp [hp]
  have := phi_mono (s := s) (p := p) (i := i + 1) (j := j) (by omega)
  omega
theorem at_phi {s : List OpV} {p : OpV → Bool} : ∀ {k : Nat} {o : OpV}, (s.filter p)[k]? = some o → ∃ i, s[i]? = some o ∧ phi s p i = k := by
  induction s with
  | nil => intro k o h; simp at h
  | cons x r ih =>
    intro k o h
    have hc : ∀ i, phi (x :: r) p (i + 1) = (if p x = true then 1 else 0) + phi r p i := fun i => by
      unfold phi
      rw [List.take_succ_cons, List.filter_cons]
      by_cases e : p x = true <;> simp [e] <;> omega
    rw [List.filter_cons] at h
    by_cases e : p x = true
    · rw [if_pos e] at h
      match k, h with
      | 0, h =>
        simp only [List.getElem?_cons_zero, Option.some.injEq] at h
        subst h
        exact ⟨0, rfl, by simp [phi]⟩
      | k + 1, h =>
        rw [List.getElem?_cons_succ] at h
        obtain ⟨i, h1, h3⟩ := ih h
        exact ⟨i + 1, by simpa using h1, by rw [hc, if_pos e]; omega⟩
    · rw [if_neg e] at h
      obtain ⟨i, h1, h3⟩ := ih h
      exact ⟨i + 1, by simpa using h1, by rw [hc, if_neg e]; omega⟩
theorem phi_cnt {s : List OpV} {p : OpV → Bool} {i : Nat} {o : OpV} (h : s[i]? = some o) (hp : ∀ q : OpV, q.tx = o.tx → p q = true) : cntN (s.filter p) o.tx (phi s p i) = cntN s o.tx i := by
  unfold cntN
  rw [phi_take h (hp o rfl), List.filter_filter]
  congr 1
  refine List.filter_congr fun q _ => ?_
  by_cases e : q.tx = o.tx
  · simp [e, hp q e]
  · simp [e]

/-! the same conflicts -/
def Same (a b : List OpV) : Prop := SameOps a b ∧ ∀ (i k : Nat) (o p : OpV), i < k → a[i]? = some o → a[k]? = some p → confB o p = true → mirN a b i < mirN a b k
noncomputable def sameB (a b : List OpV) : Bool := @decide (Same a b) (Classical.propDecidable _)
theorem sameB_iff {a b : List OpV} : sameB a b = true ↔ Same a b := by unfold sameB; exact @decide_eq_true_iff _ (Classical.propDecidable _)
theorem sameB_not {a b : List OpV} (h : ¬ Same a b) : sameB a b = false := by
  cases e : sameB a b
  · rfl
  · exact absurd (sameB_iff.1 e) h
theorem confB_symm {a b : OpV} : confB a b = confB b a := by
  rw [Bool.eq_iff_iff]
  simp only [confB, Bool.and_eq_true, bne_iff_ne, beq_iff_eq, Bool.or_eq_true]
  constructor
  · rintro ⟨⟨⟨⟨h1, h2⟩, h3⟩, h4⟩, h5⟩
    exact ⟨⟨⟨⟨Ne.symm h1, h3⟩, h2⟩, h4.symm⟩, h5.symm⟩
  · rintro ⟨⟨⟨⟨h1, h2⟩, h3⟩, h4⟩, h5⟩
    exact ⟨⟨⟨⟨Ne.symm h1, h3⟩, h2⟩, h4.symm⟩, h5.symm⟩
theorem same_not_ops {a b : List OpV} (h : ¬ SameOps a b) : sameB a b = false := sameB_not fun k => h k.1
/-- The program's test of a pair. -/
theorem same_failI {a b : List OpV} {i k : Nat} {o p : OpV} (hi : a[i]? = some o) (hk : a[k]? = some p) (hc : confB o p = true) (h : (decide (i < k) != decide (mirN a b i < mirN a b k)) = true) : sameB a b = false := by
  refine sameB_not fun hs => ?_
  rw [bne_iff_ne] at h
  apply h
  rcases Nat.lt_trichotomy i k with e | e | e
  · have := hs.2 i k o p e hi hk hc
    rw [decide_eq_true e, decide_eq_true this]
  · subst e
    simp
  · have := hs.2 k i p o e hk hi (by rw [confB_symm]; exact hc)
    rw [decide_eq_false (by omega), decide_eq_false (by omega)]
theorem same_doneI {a b : List OpV} (ho : SameOps a b) (h : ∀ (i k : Nat) (o p : OpV), a[i]? = some o → a[k]? = some p → confB o p = true → (decide (i < k) != decide (mirN a b i < mirN a b k)) = false) : sameB a b = true := by
  rw [sameB_iff]
  refine ⟨ho, fun i k o p hik hi hk hc => ?_⟩
  have := h i k o p hi hk hc
  rw [bne_eq_false_iff_eq, decide_eq_true hik] at this
  exact of_decide_eq_true this.symm
/-- The reference's. -/
theorem same_failS {a b : List OpV} {i k : Nat} {o p : OpV} (hik : i < k) (hi : a[i]? = some o) (hk : a[k]? = some p) (hc : confB o p = true) (h : mirN a b k < mirN a b i) : sameB a b = false :=
  sameB_not fun hs => by have := hs.2 i k o p hik hi hk hc; omega
theorem same_doneS {a b : List OpV} (ho : SameOps a b) (h : ∀ (i k : Nat) (o p : OpV), i < k → a[i]? = some o → a[k]? = some p → confB o p = true → ¬ mirN a b k < mirN a b i) : sameB a b = true := by
  rw [sameB_iff]
  refine ⟨ho, fun i k o p hik hi hk hc => ?_⟩
  have h1 := h i k o p hik hi hk hc
  rcases Nat.lt_trichotomy (mirN a b i) (mirN a b k) with e | e | e
  · exact e
  · have := mirN_inj ho hi hk e; omega
  · exact absurd e h1

theorem Same.symm {a b : List OpV} (h : Same a b) : Same b a := by
  refine ⟨h.1.symm, fun i k o p hik hi hk hc => ?_⟩
  obtain ⟨h1, h2⟩ := mirN_spec h.1.symm hi
  obtain ⟨h3, h4⟩ := mirN_spec h.1.symm hk
  have b1 := mirN_back h.1.symm hi
  have b2 := mirN_back h.1.symm hk
  rcases Nat.lt_trichotomy (mirN b a i) (mirN b a k) with e | e | e
  · exact e
  · rw [e] at b1; omega
  · have := h.2 _ _ p o e h3 h1 (by rw [confB_symm]; exact hc)
    omega
theorem mirN_refl {a : List OpV} {i : Nat} {o : OpV} (h : a[i]? = some o) : mirN a a i = i := mirN_at (SameOps.refl a) h h rfl
theorem Same.refl (a : List OpV) : Same a a := ⟨SameOps.refl a, fun i k o p hik hi hk _ => by rw [mirN_refl hi, mirN_refl hk]; exact hik⟩
theorem sameB_symm (a b : List OpV) : sameB a b = sameB b a := by
  rw [Bool.eq_iff_iff, sameB_iff, sameB_iff]
  exact ⟨Same.symm, Same.symm⟩
theorem endOf_ops (s : List OpV) (t : Int) : endOf s t = (((opsOf s t).find? isEnd).map OpV.kind).getD (-1) := by
  unfold endOf opsOf
  rw [List.find?_filter]
  have e : (fun o : OpV => o.tx == t && isEnd o) = fun a => decide ((a.tx == t) = true ∧ isEnd a = true) := by
    funext o
    rw [Bool.eq_iff_iff]
    simp
  rw [e]
theorem SameOps.end_ {a b : List OpV} (h : SameOps a b) (t : Int) : endOf a t = endOf b t := by rw [endOf_ops, endOf_ops, h t]
theorem opsOf_committed (s : List OpV) (t : Int) : opsOf (committed s) t = if endOf s t = 2 then opsOf s t else [] := by
  unfold opsOf committed
  rw [List.filter_filter]
  split
  · rename_i h
    refine List.filter_congr fun q _ => ?_
    by_cases e : q.tx = t
    · simp [e, h]
    · simp [e]
  · rename_i h
    rw [List.filter_eq_nil_iff]
    intro q _ hq
    simp only [Bool.and_eq_true, beq_iff_eq] at hq
    exact h (hq.1 ▸ hq.2)
theorem SameOps.comm {a b : List OpV} (h : SameOps a b) : SameOps (committed a) (committed b) := fun t => by
  rw [opsOf_committed, opsOf_committed, h.end_ t, h t]
theorem Same.comm {a b : List OpV} (h : Same a b) : Same (committed a) (committed b) := by
  refine ⟨h.1.comm, fun i k o p hik hi hk hc => ?_⟩
  unfold committed at hi hk
  obtain ⟨x, hx, rfl⟩ := at_phi hi
  obtain ⟨y, hy, rfl⟩ := at_phi hk
  have po : (endOf a o.tx == 2) = true := (List.mem_filter.1 (List.mem_of_getElem? hi)).2
  have pp : (endOf a p.tx == 2) = true := (List.mem_filter.1 (List.mem_of_getElem? hk)).2
  have hxy : x < y := by
    rcases Nat.lt_or_ge x y with e | e
    · exact e
    · have := phi_mono (s := a) (p := fun o => endOf a o.tx == 2) e; omega
  have hlt := h.2 x y o p hxy hx hy hc
  obtain ⟨m1, m2⟩ := mirN_spec h.1 hx
  obtain ⟨m3, m4⟩ := mirN_spec h.1 hy
  have qo : (endOf b o.tx == 2) = true := by rw [← h.1.end_]; exact po
  have qp : (endOf b p.tx == 2) = true := by rw [← h.1.end_]; exact pp
  have e1 : mirN (committed a) (committed b) (phi a (fun o => endOf a o.tx == 2) x) = phi b (fun o => endOf b o.tx == 2) (mirN a b x) := by
    refine mirN_at h.1.comm hi (phi_at m1 qo) ?_
    have c1 := phi_cnt (p := fun o => endOf b o.tx == 2) m1 (fun q e => by simp only [e]; exact qo)
    have c2 := phi_cnt (p := fun o => endOf a o.tx == 2) hx (fun q e => by simp only [e]; exact po)
    exact c1.trans (m2.trans c2.symm)
  have e2 : mirN (committed a) (committed b) (phi a (fun o => endOf a o.tx == 2) y) = phi b (fun o => endOf b o.tx == 2) (mirN a b y) := by
    refine mirN_at h.1.comm hk (phi_at m3 qp) ?_
    have c1 := phi_cnt (p := fun o => endOf b o.tx == 2) m3 (fun q e => by simp only [e]; exact qp)
    have c2 := phi_cnt (p := fun o => endOf a o.tx == 2) hy (fun q e => by simp only [e]; exact pp)
    exact c1.trans (m4.trans c2.symm)
  rw [e1, e2]
  exact phi_lt m1 qo hlt
theorem Same.cf {a b : List OpV} (h : Same a b) {t u : Int} (hc : Cf a t u) : Cf b t u := by
  obtain ⟨i, k, o, p, hik, hi, hk, hcf, ht, hu⟩ := hc
  exact ⟨_, _, o, p, h.2 i k o p hik hi hk hcf, (mirN_spec h.1 hi).1, (mirN_spec h.1 hk).1, hcf, ht, hu⟩
theorem Same.graph {a b : List OpV} (h : Same a b) (ha : Tx4 a) (hb : Tx4 b) : grI a = grI b := by
  refine rows_ext (grI_ok ha) (grI_ok hb) fun t u _ _ => ?_
  rw [Bool.eq_iff_iff, grI_bit ha, grI_bit hb]
  exact ⟨h.cf, h.symm.cf⟩
end Go.Proofs.Ytkbclcgdkbhgdaa
