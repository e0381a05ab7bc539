/-
  Locks by a tree, in plain words: legal steps that go by a tree of items are serializable.
-/
import Derived.Test.YtcakjhappchlmaaQWLkP2
namespace Go.Proofs.Ytcakjhappchlmaa
open Go.RowKit
set_option linter.unusedVariables false

/-! ### sources, of graphs that hang on a node -/
/-- Each set of members has one that none of it is ahead of. -/
def SrcP (M : Int → Prop) (E : Int → Int → Prop) : Prop := ∀ S : List Int, S ≠ [] → (∀ x ∈ S, M x) → ∃ t ∈ S, ∀ v ∈ S, ¬ E v t
open Classical in
theorem src_in {M : Int → Prop} {E : Int → Int → Prop} (h : SrcP M E) {S : List Int} {a : Int} (ha : a ∈ S) (hm : M a) : ∃ t ∈ S, M t ∧ ∀ v ∈ S, M v → ¬ E v t := by
  obtain ⟨t, ht, hs⟩ := h (S.filter fun x => decide (M x)) (fun e => by
    have : a ∈ S.filter fun x => decide (M x) := List.mem_filter.2 ⟨ha, by simpa using hm⟩
    rw [e] at this; cases this) (fun x hx => by have := (List.mem_filter.1 hx).2; simpa using this)
  obtain ⟨h1, h2⟩ := List.mem_filter.1 ht
  exact ⟨t, h1, by simpa using h2, fun v hv hmv => hs v (List.mem_filter.2 ⟨hv, by simpa using hmv⟩)⟩
theorem src_node {M0 M1 M2 : Int → Prop} {E0 E1 E2 : Int → Int → Prop} (h0 : SrcP M0 E0) (h1 : SrcP M1 E1) (h2 : SrcP M2 E2)
    (tot : ∀ a b, M0 a → M0 b → a ≠ b → E0 a b ∨ E0 b a) (hc : ∀ t, M1 t → M2 t → M0 t)
    (k1 : ∀ a b, M0 a → M1 a → M0 b → M1 b → E0 a b → E1 a b) (k2 : ∀ a b, M0 a → M2 a → M0 b → M2 b → E0 a b → E2 a b)
    (m0 : ∀ a b, E0 a b → M0 a ∧ M0 b) (m1 : ∀ a b, E1 a b → M1 a ∧ M1 b) (m2 : ∀ a b, E2 a b → M2 a ∧ M2 b) :
    SrcP (fun t => M0 t ∨ M1 t ∨ M2 t) (fun a b => E0 a b ∨ E1 a b ∨ E2 a b) := by
  intro S hne hS
  -- one of a child alone
  have alone1 : ∀ t ∈ S, M1 t → ¬ M0 t → (∀ v ∈ S, M1 v → ¬ E1 v t) → ∃ t ∈ S, ∀ v ∈ S, ¬ (E0 v t ∨ E1 v t ∨ E2 v t) := fun t ht hm hn hs => by
    refine ⟨t, ht, fun v hv he => ?_⟩
    rcases he with he | he | he
    · exact hn (m0 v t he).2
    · exact hs v hv (m1 v t he).1 he
    · exact hn (hc t hm (m2 v t he).2)
  have alone2 : ∀ t ∈ S, M2 t → ¬ M0 t → (∀ v ∈ S, M2 v → ¬ E2 v t) → ∃ t ∈ S, ∀ v ∈ S, ¬ (E0 v t ∨ E1 v t ∨ E2 v t) := fun t ht hm hn hs => by
    refine ⟨t, ht, fun v hv he => ?_⟩
    rcases he with he | he | he
    · exact hn (m0 v t he).2
    · exact hn (hc t (m1 v t he).2 hm)
    · exact hs v hv (m2 v t he).1 he
  by_cases hr : ∃ a ∈ S, M0 a
  · obtain ⟨a0, ha0, hm0⟩ := hr
    obtain ⟨A, hA, hMA, hsA⟩ := src_in h0 ha0 hm0
    have ok1 : (∀ v ∈ S, M1 v → M1 A → ¬ E1 v A) ∨ ∃ t ∈ S, ∀ v ∈ S, ¬ (E0 v t ∨ E1 v t ∨ E2 v t) := by
      by_cases hA1 : M1 A
      · obtain ⟨W, hW, hW1, hsW⟩ := src_in h1 hA hA1
        by_cases hW0 : M0 W
        · left
          by_cases e : A = W
          · subst e; exact fun v hv hm _ => hsW v hv hm
          · exfalso
            rcases tot A W hMA hW0 e with h | h
            · exact hsW A hA hA1 (k1 A W hMA hA1 hW0 hW1 h)
            · exact hsA W hW hW0 h
        · exact .inr (alone1 W hW hW1 hW0 hsW)
      · exact .inl fun v _ _ h => absurd h hA1
    have ok2 : (∀ v ∈ S, M2 v → M2 A → ¬ E2 v A) ∨ ∃ t ∈ S, ∀ v ∈ S, ¬ (E0 v t ∨ E1 v t ∨ E2 v t) := by
      by_cases hA1 : M2 A
      · obtain ⟨W, hW, hW1, hsW⟩ := src_in h2 hA hA1
        by_cases hW0 : M0 W
        · left
          by_cases e : A = W
          · subst e; exact fun v hv hm _ => hsW v hv hm
          · exfalso
            rcases tot A W hMA hW0 e with h | h
            · exact hsW A hA hA1 (k2 A W hMA hA1 hW0 hW1 h)
            · exact hsA W hW hW0 h
        · exact .inr (alone2 W hW hW1 hW0 hsW)
      · exact .inl fun v _ _ h => absurd h hA1
    rcases ok1 with ok1 | h
    · rcases ok2 with ok2 | h
      · refine ⟨A, hA, fun v hv he => ?_⟩
        rcases he with he | he | he
        · exact hsA v hv (m0 v A he).1 he
        · exact ok1 v hv (m1 v A he).1 (m1 v A he).2 he
        · exact ok2 v hv (m2 v A he).1 (m2 v A he).2 he
      · exact h
    · exact h
  · have hn : ∀ t ∈ S, ¬ M0 t := fun t ht hm => hr ⟨t, ht, hm⟩
    obtain ⟨s, hs⟩ := List.exists_mem_of_ne_nil _ hne
    rcases hS s hs with h | h | h
    · exact absurd h (hn s hs)
    · obtain ⟨W, hW, hW1, hsW⟩ := src_in h1 hs h
      exact alone1 W hW hW1 (hn W hW) hsW
    · obtain ⟨W, hW, hW1, hsW⟩ := src_in h2 hs h
      exact alone2 W hW hW1 (hn W hW) hsW
theorem src_empty : SrcP (fun _ => False) (fun _ _ => False) := fun S hne hS => by
  obtain ⟨s, hs⟩ := List.exists_mem_of_ne_nil _ hne
  exact absurd (hS s hs) (fun h => h)

/-! ### the tree -/
def treeAt (ps : List Int) (p : List OpV) (o : OpV) : Bool :=
  if o.kind = 0 then false
  else if o.kind = 1 then
    !(p.any fun q => q.tx == o.tx && q.kind == 1 && q.item == o.item) &&
      (!(p.any fun q => q.tx == o.tx && q.kind == 1) || (decide (0 ≤ ps.getD o.item.toNat (-1)) && heldI p o.tx (ps.getD o.item.toNat (-1)) == 1))
  else true
def treeAtB (ps : List Int) (st : List OpV) (i : Nat) : Bool := match st[i]? with | some o => treeAt ps (st.take i) o | none => true
def treeB (ps : List Int) (st : List OpV) : Bool := (List.range st.length).all (treeAtB ps st)
def parB (ps : List Int) : Bool := ps.length == 3 && ps.getD 0 0 == -1 && ps.getD 1 (-1) == 0 && inR (ps.getD 2 (-1)) 0 1
theorem treeB_iff {ps : List Int} {st : List OpV} : treeB ps st = true ↔ ∀ i o, st[i]? = some o → treeAt ps (st.take i) o = true := by
  unfold treeB
  rw [List.all_eq_true]
  constructor
  · intro h i o ho
    have := h i (List.mem_range.2 (List.getElem?_eq_some_iff.1 ho).1)
    unfold treeAtB at this
    rw [ho] at this
    exact this
  · intro h i hi
    rw [List.mem_range] at hi
    have e : st[i]? = some (st[i]'hi) := List.getElem?_eq_getElem hi
    unfold treeAtB
    rw [e]
    exact h i _ e

/-- t takes x at i. -/
def Lk (st : List OpV) (t x : Int) (i : Nat) : Prop := st[i]? = some ⟨t, 1, x⟩
/-- t takes x ahead of u. -/
def Bef (st : List OpV) (x t u : Int) : Prop := ∃ i j, Lk st t x i ∧ Lk st u x j ∧ i < j
def Mem (st : List OpV) (x t : Int) : Prop := ∃ i, Lk st t x i

section
variable {st : List OpV} {ps : List Int}
theorem mem_take_at {p : OpV} {i : Nat} (h : p ∈ st.take i) : ∃ j, j < i ∧ st[j]? = some p := by
  obtain ⟨j, hj⟩ := List.mem_iff_getElem?.1 h
  have hji : j < i := by
    have := (List.getElem?_eq_some_iff.1 hj).1
    rw [List.length_take] at this
    omega
  rw [List.getElem?_take_of_lt hji] at hj
  exact ⟨j, hji, hj⟩
theorem take_mem_at {p : OpV} {i j : Nat} (h : st[j]? = some p) (hji : j < i) : p ∈ st.take i := by
  refine List.mem_iff_getElem?.2 ⟨j, ?_⟩
  rw [List.getElem?_take_of_lt hji]
  exact h
theorem tree_own (ht : treeB ps st = true) {t x : Int} {i : Nat} (h : Lk st t x i) :
    (∀ j, j < i → ¬ Lk st t x j) ∧ ((∃ y j, j < i ∧ Lk st t y j) → 0 ≤ ps.getD x.toNat (-1) ∧ heldI (st.take i) t (ps.getD x.toNat (-1)) = 1) := by
  have := treeB_iff.1 ht i _ h
  unfold treeAt at this
  simp only [Int.reduceEq, if_false, if_true, Bool.and_eq_true, Bool.not_eq_true', Bool.or_eq_true, decide_eq_true_eq, beq_iff_eq] at this
  obtain ⟨h1, h2⟩ := this
  rw [List.any_eq_false] at h1
  refine ⟨fun j hj hl => ?_, fun ⟨y, j, hj, hl⟩ => ?_⟩
  · exact h1 _ (take_mem_at hl hj) (by simp)
  · rcases h2 with h2 | h2
    · rw [List.any_eq_false] at h2
      exact absurd (by simp) (h2 _ (take_mem_at hl hj))
    · exact h2
theorem lk_uniq (ht : treeB ps st = true) {t x : Int} {i j : Nat} (h : Lk st t x i) (k : Lk st t x j) : i = j := by
  rcases Nat.lt_trichotomy i j with e | e | e
  · exact absurd h ((tree_own ht k).1 i e)
  · exact e
  · exact absurd k ((tree_own ht h).1 j e)
theorem held_lk (hv : ∀ o ∈ st, okStep o = true) (ht : treeB ps st = true) {t x : Int} {a k : Nat} (hak : a ≤ k) (hk : k ≤ st.length) (h0 : ¬ 0 ≤ heldI (st.take a) t x) (h1 : 0 ≤ heldI (st.take k) t x) : ∃ i, a ≤ i ∧ i < k ∧ Lk st t x i := by
  obtain ⟨j, haj, hj, h3, h4⟩ := ends_at (P := fun j => ¬ (0 ≤ heldI (st.take j) t x)) (i := a) k hak h0 (fun hn => hn h1)
  have e : st[j]? = some (st[j]'(by omega)) := List.getElem?_eq_getElem (by omega)
  generalize st[j]'(by omega) = o at e
  have h4' : 0 ≤ heldI (st.take (j + 1)) t x := by
    rcases Classical.em (0 ≤ heldI (st.take (j + 1)) t x) with h | h
    · exact h
    · exact absurd h h4
  obtain ⟨h5, h6⟩ := comes e (Int.le_refl 0) (by omega) h4'
  simp only [takesB, Bool.and_eq_true, beq_iff_eq, decide_eq_true_eq] at h5
  have hko := okStep_iff.1 (hv o (List.mem_of_getElem? e))
  have hta := treeB_iff.1 ht j o e
  have hk1 : o.kind = 1 := by
    rcases (by omega : o.kind = 0 ∨ o.kind = 1) with h | h
    · unfold treeAt at hta
      rw [if_pos h] at hta
      cases hta
    · exact h
  refine ⟨j, haj, hj, ?_⟩
  unfold Lk
  rw [e]
  obtain ⟨x1, x2, x3⟩ := o
  simp only at h5 h6 hk1
  obtain ⟨rfl, _⟩ := h5
  subst h6; subst hk1
  rfl
theorem held_lk0 (hv : ∀ o ∈ st, okStep o = true) (ht : treeB ps st = true) {t x : Int} {k : Nat} (hk : k ≤ st.length) (h1 : 0 ≤ heldI (st.take k) t x) : ∃ i, i < k ∧ Lk st t x i := by
  obtain ⟨i, _, h⟩ := held_lk hv ht (Nat.zero_le k) hk (by simp [heldI_nil]) h1
  exact ⟨i, h⟩
theorem Lk.lt {t x : Int} {i : Nat} (h : Lk st t x i) : i < st.length := (List.getElem?_eq_some_iff.1 h).1
/-- Behind where another one takes x it is never held again. -/
theorem gone_for_good (hv : ∀ o ∈ st, okStep o = true) (hl : ∀ j, j < st.length → illAtB st j = false) (ht : treeB ps st = true) {t u x : Int} {i j : Nat} (hi : Lk st t x i) (hj : Lk st u x j) (hne : t ≠ u) (hij : i < j)
    {k : Nat} (hjk : j ≤ k) (hk : k ≤ st.length) : ¬ 0 ≤ heldI (st.take k) t x := by
  intro h
  have hok := okStep_iff.1 (hv _ (List.mem_of_getElem? hi))
  have h0 : ¬ 0 ≤ heldI (st.take j) t x := by
    have := hl j hj.lt
    unfold illAtB at this
    rw [hj] at this
    simp only at this
    unfold illB at this
    simp only [Int.reduceEq, if_false, if_true, Bool.or_eq_false_iff] at this
    have h2 : heldI (st.take j) t x < 0 := others_no (u := t) this.2 hok.1 hne
    omega
  obtain ⟨m, hjm, _, hm⟩ := held_lk hv ht hjk hk h0 h
  have := lk_uniq ht hi hm
  omega
/-- An access wants its lock, taken ahead. -/
theorem acc_lk (hv : ∀ o ∈ st, okStep o = true) (hl : ∀ j, j < st.length → illAtB st j = false) (ht : treeB ps st = true) {k : Nat} {o : OpV} (ho : st[k]? = some o) (h3 : 3 ≤ o.kind) : 0 ≤ heldI (st.take k) o.tx o.item ∧ ∃ i, i < k ∧ Lk st o.tx o.item i := by
  have hk := (List.getElem?_eq_some_iff.1 ho).1
  have := hl k hk
  unfold illAtB at this
  rw [ho] at this
  simp only at this
  unfold illB at this
  rw [if_neg (by omega), if_neg (by omega)] at this
  have h0 : 0 ≤ heldI (st.take k) o.tx o.item := by
    split at this
    · have : heldI (st.take k) o.tx o.item = 1 := by simpa using this
      omega
    · rw [decide_eq_false_iff_not] at this; omega
  exact ⟨h0, held_lk0 hv ht (by omega) h0⟩
theorem acc_bef (hv : ∀ o ∈ st, okStep o = true) (hl : ∀ j, j < st.length → illAtB st j = false) (ht : treeB ps st = true) {i k : Nat} {o p : OpV} (hik : i < k) (hi : st[i]? = some o) (hk : st[k]? = some p) (ho : 3 ≤ o.kind) (hp : 3 ≤ p.kind) (hx : o.item = p.item) (hne : o.tx ≠ p.tx) : Bef st o.item o.tx p.tx := by
  obtain ⟨h1, a, hai, ha⟩ := acc_lk hv hl ht hi ho
  obtain ⟨h2, b, hbk, hb⟩ := acc_lk hv hl ht hk hp
  rw [← hx] at h2 hb
  have hkl := (List.getElem?_eq_some_iff.1 hk).1
  rcases Nat.lt_trichotomy a b with e | e | e
  · exact ⟨a, b, ha, hb, e⟩
  · exfalso
    subst e
    unfold Lk at ha hb
    rw [ha] at hb
    injection hb with hb
    injection hb with hb
    exact hne hb
  · exact absurd h2 (gone_for_good hv hl ht hb ha (Ne.symm hne) e (by omega) (by omega))
theorem lk_tot {x t u : Int} (h1 : Mem st x t) (h2 : Mem st x u) (hne : t ≠ u) : Bef st x t u ∨ Bef st x u t := by
  obtain ⟨i, hi⟩ := h1
  obtain ⟨j, hj⟩ := h2
  rcases Nat.lt_trichotomy i j with e | e | e
  · exact .inl ⟨i, j, hi, hj, e⟩
  · exfalso
    subst e
    unfold Lk at hi hj
    rw [hi] at hj
    injection hj with hj
    injection hj with hj
    exact hne hj
  · exact .inr ⟨j, i, hj, hi, e⟩
open Classical in
theorem src_item (ht : treeB ps st = true) (x : Int) : SrcP (Mem st x) (Bef st x) := by
  intro S hne hS
  obtain ⟨t, htS, hmin⟩ := least_by (fun t => if h : Mem st x t then h.choose else 0) hne
  refine ⟨t, htS, fun v hv he => ?_⟩
  obtain ⟨i, j, hi, hj, hij⟩ := he
  have h1 := hmin v hv
  have hmt := hS t htS
  have hmv := hS v hv
  simp only [dif_pos hmt, dif_pos hmv] at h1
  have e1 := lk_uniq ht hmt.choose_spec hj
  have e2 := lk_uniq ht hmv.choose_spec hi
  omega
theorem bef_mem {x : Int} (a b : Int) (h : Bef st x a b) : Mem st x a ∧ Mem st x b := by
  obtain ⟨i, j, hi, hj, _⟩ := h
  exact ⟨⟨i, hi⟩, j, hj⟩

/-! parents: item 0 has none, 1 has 0, 2 has q -/
variable {q : Int}
theorem first0 (hps : ps = [-1, 0, q]) (ht : treeB ps st = true) {t y : Int} {i j : Nat} (h0 : Lk st t 0 i) (hy : Lk st t y j) (hne : y ≠ 0) : i < j := by
  rcases Nat.lt_trichotomy i j with e | e | e
  · exact e
  · exfalso
    subst e
    unfold Lk at h0 hy
    rw [h0] at hy
    injection hy with hy
    injection hy with _ _ hy
    exact hne hy.symm
  · exfalso
    have := ((tree_own ht h0).2 ⟨y, j, e, hy⟩).1
    rw [hps] at this
    simp at this
/-- Who takes a second item has taken the parent of one of them, and holds it. -/
theorem second (hps : ps = [-1, 0, q]) (hv : ∀ o ∈ st, okStep o = true) (ht : treeB ps st = true) {t x y : Int} {i j : Nat} (hx : Lk st t x i) (hy : Lk st t y j) (hij : i < j) : 0 ≤ ps.getD y.toNat (-1) ∧ heldI (st.take j) t (ps.getD y.toNat (-1)) = 1 ∧ ∃ k, k < j ∧ Lk st t (ps.getD y.toNat (-1)) k := by
  obtain ⟨h1, h2⟩ := (tree_own ht hy).2 ⟨x, i, hij, hx⟩
  exact ⟨h1, h2, held_lk0 hv ht (Nat.le_of_lt hy.lt) (by omega)⟩
theorem lk_ne {t x y : Int} {i j : Nat} (hx : Lk st t x i) (hy : Lk st t y j) (hne : x ≠ y) : i ≠ j := by
  rintro rfl
  unfold Lk at hx hy
  rw [hx] at hy
  injection hy with hy
  injection hy with _ _ hy
  exact hne hy
theorem lk_item (hv : ∀ o ∈ st, okStep o = true) {t x : Int} {i : Nat} (h : Lk st t x i) : x = 0 ∨ x = 1 ∨ x = 2 := by
  have := okStep_iff.1 (hv _ (List.mem_of_getElem? h))
  simp only at this
  omega
/-- 0 and its child 1. -/
theorem down01 (hps : ps = [-1, 0, q]) (hv : ∀ o ∈ st, okStep o = true) (hl : ∀ j, j < st.length → illAtB st j = false) (ht : treeB ps st = true) {t u : Int} (h0 : Bef st 0 t u) (hne : t ≠ u) (ht1 : Mem st 1 t) (hu1 : Mem st 1 u) : Bef st 1 t u := by
  obtain ⟨i, j, hi, hj, hij⟩ := h0
  obtain ⟨i', hi'⟩ := ht1
  obtain ⟨j', hj'⟩ := hu1
  have h1 := first0 hps ht hi hi' (by omega)
  have h2 := first0 hps ht hj hj' (by omega)
  have h3 := (second hps hv ht hi hi' h1).2.1
  rw [hps] at h3
  simp at h3
  refine ⟨i', j', hi', hj', ?_⟩
  rcases Nat.lt_or_ge i' j with e | e
  · omega
  · exfalso
    have := gone_for_good hv hl ht hi hj hne hij e (Nat.le_of_lt hi'.lt)
    omega
/-- 0 and its child 2. -/
theorem down02 (hps : ps = [-1, 0, 0]) (hv : ∀ o ∈ st, okStep o = true) (hl : ∀ j, j < st.length → illAtB st j = false) (ht : treeB ps st = true) {t u : Int} (h0 : Bef st 0 t u) (hne : t ≠ u) (ht1 : Mem st 2 t) (hu1 : Mem st 2 u) : Bef st 2 t u := by
  obtain ⟨i, j, hi, hj, hij⟩ := h0
  obtain ⟨i', hi'⟩ := ht1
  obtain ⟨j', hj'⟩ := hu1
  have h1 := first0 hps ht hi hi' (by omega)
  have h2 := first0 hps ht hj hj' (by omega)
  have h3 := (second hps hv ht hi hi' h1).2.1
  rw [hps] at h3
  simp at h3
  refine ⟨i', j', hi', hj', ?_⟩
  rcases Nat.lt_or_ge i' j with e | e
  · omega
  · exfalso
    have := gone_for_good hv hl ht hi hj hne hij e (Nat.le_of_lt hi'.lt)
    omega
/-- In a chain: who takes 1 and 2 takes 1 first, and holds it. -/
theorem one_two (hps : ps = [-1, 0, 1]) (hv : ∀ o ∈ st, okStep o = true) (ht : treeB ps st = true) {t : Int} {i j : Nat} (h1 : Lk st t 1 i) (h2 : Lk st t 2 j) : i < j ∧ heldI (st.take j) t 1 = 1 := by
  have key : i < j := by
    rcases Nat.lt_or_ge i j with e | e
    · exact e
    · exfalso
      have hne : j < i := by have := lk_ne h1 h2 (by omega); omega
      -- 1 is not the first one: 0 is held, and is the first one, so 2 is not
      obtain ⟨_, _, k, hk, h0⟩ := second hps hv ht h2 h1 hne
      rw [hps] at h0
      simp at h0
      have hkj := first0 hps ht h0 h2 (by omega)
      obtain ⟨_, _, m, hm, h1'⟩ := second hps hv ht h0 h2 hkj
      rw [hps] at h1'
      simp at h1'
      have := lk_uniq ht h1 h1'
      omega
  refine ⟨key, ?_⟩
  have := (second hps hv ht h1 h2 key).2.1
  rw [hps] at this
  simpa using this
theorem down12 (hps : ps = [-1, 0, 1]) (hv : ∀ o ∈ st, okStep o = true) (hl : ∀ j, j < st.length → illAtB st j = false) (ht : treeB ps st = true) {t u : Int} (h0 : Bef st 1 t u) (hne : t ≠ u) (ht1 : Mem st 2 t) (hu1 : Mem st 2 u) : Bef st 2 t u := by
  obtain ⟨i, j, hi, hj, hij⟩ := h0
  obtain ⟨i', hi'⟩ := ht1
  obtain ⟨j', hj'⟩ := hu1
  obtain ⟨h1, h3⟩ := one_two hps hv ht hi hi'
  obtain ⟨h2, _⟩ := one_two hps hv ht hj hj'
  refine ⟨i', j', hi', hj', ?_⟩
  rcases Nat.lt_or_ge i' j with e | e
  · omega
  · exfalso
    have := gone_for_good hv hl ht hi hj hne hij e (Nat.le_of_lt hi'.lt)
    omega
theorem bef_ne (ht : treeB ps st = true) {x t u : Int} (h : Bef st x t u) : t ≠ u := by
  rintro rfl
  obtain ⟨i, j, hi, hj, hij⟩ := h
  have := lk_uniq ht hi hj
  omega
theorem tree_srcP (hps : ps = [-1, 0, 0] ∨ ps = [-1, 0, 1]) (hv : ∀ o ∈ st, okStep o = true) (hl : ∀ j, j < st.length → illAtB st j = false) (ht : treeB ps st = true) :
    SrcP (fun t => Mem st 0 t ∨ Mem st 1 t ∨ Mem st 2 t) (fun a b => Bef st 0 a b ∨ Bef st 1 a b ∨ Bef st 2 a b) := by
  rcases hps with hps | hps
  · refine src_node (src_item ht 0) (src_item ht 1) (src_item ht 2) (fun a b => lk_tot) (fun t h1 h2 => ?_) (fun a b _ h1 _ h2 h => down01 hps hv hl ht h (bef_ne ht h) h1 h2) (fun a b _ h1 _ h2 h => down02 hps hv hl ht h (bef_ne ht h) h1 h2) bef_mem bef_mem bef_mem
    obtain ⟨i, hi⟩ := h1
    obtain ⟨j, hj⟩ := h2
    rcases Nat.lt_or_ge i j with e | e
    · obtain ⟨_, _, k, _, hk⟩ := second hps hv ht hi hj e
      rw [hps] at hk
      simp at hk
      exact ⟨k, hk⟩
    · have hne := lk_ne hi hj (by omega)
      obtain ⟨_, _, k, _, hk⟩ := second hps hv ht hj hi (by omega)
      rw [hps] at hk
      simp at hk
      exact ⟨k, hk⟩
  · have h12 := src_node (src_item ht 1) (src_item ht 2) src_empty (fun a b => lk_tot) (fun t _ h => h.elim) (fun a b _ h1 _ h2 h => down12 hps hv hl ht h (bef_ne ht h) h1 h2) (fun a b _ h1 _ h2 h => h1.elim) bef_mem bef_mem (fun a b h => h.elim)
    have h1of : ∀ {t : Int}, Mem st 0 t → (Mem st 1 t ∨ Mem st 2 t ∨ False) → Mem st 1 t := fun {t} h0 h => by
      rcases h with h | h | h
      · exact h
      · obtain ⟨i, hi⟩ := h0
        obtain ⟨j, hj⟩ := h
        have hij := first0 hps ht hi hj (by omega)
        obtain ⟨_, _, k, _, hk⟩ := second hps hv ht hi hj hij
        rw [hps] at hk
        simp at hk
        exact ⟨k, hk⟩
      · exact h.elim
    have h012 := src_node (src_item ht 0) h12 src_empty (fun a b => lk_tot) (fun t _ h => h.elim) (fun a b h0 h1 h0' h1' h => .inl (down01 hps hv hl ht h (bef_ne ht h) (h1of h0 h1) (h1of h0' h1'))) (fun a b _ h1 _ h2 h => h1.elim) bef_mem
      (fun a b h => by rcases h with h | h | h; exact ⟨.inl (bef_mem a b h).1, .inl (bef_mem a b h).2⟩; exact ⟨.inr (.inl (bef_mem a b h).1), .inr (.inl (bef_mem a b h).2)⟩; exact h.elim) (fun a b h => h.elim)
    intro S hne hS
    obtain ⟨t, htS, hs⟩ := h012 S hne (fun x hx => by
      rcases hS x hx with h | h | h
      · exact .inl h
      · exact .inr (.inl (.inl h))
      · exact .inr (.inl (.inr (.inl h))))
    refine ⟨t, htS, fun v hv' he => hs v hv' ?_⟩
    rcases he with h | h | h
    · exact .inl h
    · exact .inr (.inl (.inl h))
    · exact .inr (.inl (.inr (.inl h)))
end
theorem parB_iff {ps : List Int} : parB ps = true ↔ ps = [-1, 0, 0] ∨ ps = [-1, 0, 1] := by
  constructor
  · intro h
    simp only [parB, inR, Bool.and_eq_true, beq_iff_eq, decide_eq_true_eq] at h
    obtain ⟨⟨⟨h1, h2⟩, h3⟩, h4, h5⟩ := h
    match ps, h1 with
    | [a, b, c], _ =>
      simp at h2 h3 h4 h5
      subst h2; subst h3
      rcases (by omega : c = 0 ∨ c = 1) with rfl | rfl
      · exact .inl rfl
      · exact .inr rfl
  · rintro (rfl | rfl) <;> decide
/-- The law of IsTreeLocked. -/
theorem tree_law {st : List OpV} {ps : List Int} (hv : ∀ o ∈ st, okStep o = true) (hl : ∀ j, j < st.length → illAtB st j = false) (hp : parB ps = true) (ht : treeB ps st = true) (hn : (accI st).length ≤ 16) : 0 < (ordO (accI st)).length := by
  have hvs := accI_valid hv hn
  have hx4 : Tx4 (accI st) := fun o ho => validS_tx hvs ho
  refine List.length_pos_iff.2 ((ordO_src hvs).2 ?_)
  rw [accI_comm hv hn]
  have hsrc := tree_srcP (parB_iff.1 hp) hv hl ht
  intro S hne hsub
  have item : ∀ s ∈ st, s.item = 0 ∨ s.item = 1 ∨ s.item = 2 := fun s hs => by have := okStep_iff.1 (hv s hs); omega
  obtain ⟨t, htS, hs⟩ := hsrc S hne (fun x hx => by
    obtain ⟨o, ho, hot⟩ := (accI_mem hv hn).1 ((mem_txsOf hvs).1 (hsub x hx))
    obtain ⟨s, hs, h3, rfl⟩ := mem_accOps.1 ho
    obtain ⟨i, hi⟩ := List.mem_iff_getElem?.1 hs
    obtain ⟨_, j, _, hj⟩ := acc_lk hv hl ht hi h3
    have e : s.tx = x := hot
    rw [e] at hj
    rcases item s hs with h | h | h <;> rw [h] at hj
    · exact .inl ⟨j, hj⟩
    · exact .inr (.inl ⟨j, hj⟩)
    · exact .inr (.inr ⟨j, hj⟩))
  refine ⟨t, htS, fun v hvS => ?_⟩
  cases he : edgeB (grI (accI st)) v t
  · rfl
  · exfalso
    have hra := txsOf_rng0 _ v (hsub v hvS)
    have hrb := txsOf_rng0 _ t (hsub t htS)
    have hcf := (gr_edge hx4 hra.1 hrb.1).1 he
    refine cf_pair.1 hcf ?_
    unfold accI
    rw [List.pairwise_append]
    have noAcc : ∀ o ∈ comsOf (txsOf (accOps st)), isAcc o = false := fun o ho => by
      unfold comsOf at ho
      obtain ⟨t, _, rfl⟩ := List.mem_map.1 ho
      rfl
    refine ⟨?_, ?_, fun x _ y hy hc => ?_⟩
    · unfold accOps
      rw [List.pairwise_map, List.pairwise_filter, List.pairwise_iff_getElem]
      intro i k hi hk hik hoi hok hc
      simp only [decide_eq_true_eq] at hoi hok
      obtain ⟨hc, hb', ha'⟩ := hc
      simp only [confB, accOp, Bool.and_eq_true, bne_iff_ne, beq_iff_eq, Bool.or_eq_true] at hc
      have hbf := acc_bef hv hl ht hik (List.getElem?_eq_getElem hi) (List.getElem?_eq_getElem hk) hoi hok hc.1.2 hc.1.1.1.1
      have e1 : (st[i]).tx = v := hb'
      have e2 : (st[k]).tx = t := ha'
      rw [e1, e2] at hbf
      have hno := hs v hvS
      rcases item _ (List.getElem_mem hi) with h | h | h <;> rw [h] at hbf
      · exact hno (.inl hbf)
      · exact hno (.inr (.inl hbf))
      · exact hno (.inr (.inr hbf))
    · exact List.pairwise_of_forall_mem_list fun x hx y hy hc => by
        have h5 := hc.1
        simp only [confB, Bool.and_eq_true] at h5
        have h6 := noAcc x hx
        rw [h5.1.1.1.2] at h6
        cases h6
    · have h5 := hc.1
      simp only [confB, Bool.and_eq_true] at h5
      have h6 := noAcc y hy
      rw [h5.1.1.2] at h6
      cases h6
end Go.Proofs.Ytcakjhappchlmaa
