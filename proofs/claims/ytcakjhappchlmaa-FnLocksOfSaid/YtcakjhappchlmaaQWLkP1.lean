/-
  Steps with locks, in plain words: two phases, points, accesses; two phases go in the order of their points.
-/
import Derived.Test.YtcakjhappchlmaaPkLkA
namespace Go.Proofs.Ytcakjhappchlmaa
open Go.RowKit
set_option linter.unusedVariables false

/-! where a transaction takes its last lock -/
def takesB (t : Int) (o : OpV) : Bool := o.tx == t && decide (o.kind ≤ 1)
def lsTo (st : List OpV) (t : Int) : Nat → Nat
  | 0 => 0
  | k + 1 => match st[k]? with | some o => if takesB t o then k + 1 else lsTo st t k | none => lsTo st t k
theorem lsTo_succ {st : List OpV} {t : Int} {k : Nat} {o : OpV} (h : st[k]? = some o) : lsTo st t (k + 1) = if takesB t o then k + 1 else lsTo st t k := by simp only [lsTo, h]
def lsN (st : List OpV) (t : Int) : Nat := lsTo st t st.length
theorem lsTo_le (st : List OpV) (t : Int) (k : Nat) : lsTo st t k ≤ k := by
  induction k with
  | zero => exact Nat.le_refl _
  | succ k ih =>
    cases e : st[k]? with
    | none => simp only [lsTo, e]; omega
    | some o => rw [lsTo_succ e]; split <;> omega
theorem lsTo_ge {st : List OpV} {t : Int} {j : Nat} {o : OpV} (h : st[j]? = some o) (ht : takesB t o = true) : ∀ k, j < k → j + 1 ≤ lsTo st t k := by
  intro k
  induction k with
  | zero => omega
  | succ k ih =>
    intro hj
    by_cases e : j = k
    · subst e; rw [lsTo_succ h, if_pos ht]; omega
    · have := ih (by omega)
      cases e2 : st[k]? with
      | none => simp only [lsTo, e2]; exact this
      | some p => rw [lsTo_succ e2]; split <;> omega
theorem lsTo_at {st : List OpV} {t : Int} : ∀ k, 0 < lsTo st t k → ∃ o, st[lsTo st t k - 1]? = some o ∧ takesB t o = true := by
  intro k
  induction k with
  | zero => intro h; simp [lsTo] at h
  | succ k ih =>
    cases e : st[k]? with
    | none => simp only [lsTo, e]; exact ih
    | some o =>
      rw [lsTo_succ e]
      by_cases ht : takesB t o = true
      · rw [if_pos ht]; intro _; exact ⟨o, by simpa using e, ht⟩
      · rw [if_neg ht]; exact ih
theorem lsTo_mono {st : List OpV} {t : Int} {j k : Nat} (h : j ≤ k) : lsTo st t j ≤ lsTo st t k := by
  induction k with
  | zero =>
    obtain rfl : j = 0 := by omega
    exact Nat.le_refl _
  | succ k ih =>
    by_cases e : j = k + 1
    · subst e; exact Nat.le_refl _
    · have h1 := ih (by omega)
      have h2 := lsTo_le st t k
      cases e2 : st[k]? with
      | none => simp only [lsTo, e2]; exact h1
      | some o => rw [lsTo_succ e2]; split <;> omega
theorem lsN_ge {st : List OpV} {t : Int} {j : Nat} {o : OpV} (h : st[j]? = some o) (ht : takesB t o = true) : j + 1 ≤ lsN st t := lsTo_ge h ht _ (List.getElem?_eq_some_iff.1 h).1
theorem lsN_at {st : List OpV} {t : Int} (h : 0 < lsN st t) : ∃ o, st[lsN st t - 1]? = some o ∧ takesB t o = true := lsTo_at _ h
theorem lsN_inj {st : List OpV} {t u : Int} (h : 0 < lsN st t) (e : lsN st t = lsN st u) : t = u := by
  obtain ⟨o, h1, h2⟩ := lsN_at h
  obtain ⟨p, h3, h4⟩ := lsN_at (st := st) (t := u) (by omega)
  rw [e, h3] at h1
  injection h1 with h1
  subst h1
  simp only [takesB, Bool.and_eq_true, beq_iff_eq] at h2 h4
  exact h2.1.symm.trans h4.1
theorem takes_pos {st : List OpV} {t : Int} : 0 < lsN st t ↔ ∃ o ∈ st, takesB t o = true := by
  constructor
  · intro h
    obtain ⟨o, h1, h2⟩ := lsN_at h
    exact ⟨o, List.mem_of_getElem? h1, h2⟩
  · rintro ⟨o, h1, h2⟩
    obtain ⟨j, hj⟩ := List.mem_iff_getElem?.1 h1
    have := lsN_ge hj h2
    omega

/-! the points, as the reference gathers them -/
def lastB (st : List OpV) (i : Nat) (o : OpV) : Bool := decide (o.kind ≤ 1) && (st.drop (i + 1)).all fun p => p.tx != o.tx || decide (1 < p.kind)
def ptTo (st : List OpV) : Nat → List Int
  | 0 => []
  | k + 1 => match st[k]? with | some o => if lastB st k o then ptTo st k ++ [o.tx] else ptTo st k | none => ptTo st k
theorem ptTo_succ {st : List OpV} {k : Nat} {o : OpV} (h : st[k]? = some o) : ptTo st (k + 1) = if lastB st k o then ptTo st k ++ [o.tx] else ptTo st k := by simp only [ptTo, h]
def ptI (st : List OpV) : List Int := ptTo st st.length
theorem lastB_iff {st : List OpV} {k : Nat} {o : OpV} (h : st[k]? = some o) : lastB st k o = true ↔ lsN st o.tx = k + 1 := by
  have hk := (List.getElem?_eq_some_iff.1 h).1
  unfold lastB
  rw [Bool.and_eq_true, decide_eq_true_eq, List.all_eq_true]
  constructor
  · rintro ⟨h1, h2⟩
    have hg := lsN_ge (t := o.tx) h (by simp [takesB, h1])
    obtain ⟨p, hp, htp⟩ := lsN_at (st := st) (t := o.tx) (by omega)
    rcases Nat.lt_or_ge (k + 1) (lsN st o.tx) with hlt | hge
    · exfalso
      have hmem : p ∈ st.drop (k + 1) := by
        refine List.mem_iff_getElem?.2 ⟨lsN st o.tx - 1 - (k + 1), ?_⟩
        rw [List.getElem?_drop, show k + 1 + (lsN st o.tx - 1 - (k + 1)) = lsN st o.tx - 1 by omega]
        exact hp
      have := h2 p hmem
      simp only [takesB, Bool.and_eq_true, beq_iff_eq, decide_eq_true_eq] at htp
      simp only [Bool.or_eq_true, bne_iff_ne, decide_eq_true_eq] at this
      rcases this with h5 | h5
      · exact h5 htp.1
      · omega
    · omega
  · intro he
    obtain ⟨p, hp, htp⟩ := lsN_at (st := st) (t := o.tx) (by omega)
    rw [he, show k + 1 - 1 = k by omega, h] at hp
    injection hp with hp
    subst hp
    simp only [takesB, Bool.and_eq_true, beq_iff_eq, decide_eq_true_eq] at htp
    refine ⟨htp.2, fun q hq => ?_⟩
    obtain ⟨j, hj⟩ := List.mem_iff_getElem?.1 hq
    rw [List.getElem?_drop] at hj
    simp only [Bool.or_eq_true, bne_iff_ne, decide_eq_true_eq]
    by_cases hqt : q.tx = o.tx
    · right
      rcases Int.lt_or_le 1 q.kind with h6 | h6
      · exact h6
      · have := lsN_ge (t := o.tx) hj (by simp [takesB, hqt, h6])
        omega
    · exact .inl hqt
theorem ptTo_known {st : List OpV} (k : Nat) (hk : k ≤ st.length) : (∀ t, t ∈ ptTo st k ↔ 0 < lsN st t ∧ lsN st t ≤ k) ∧ (ptTo st k).Pairwise (fun a b => lsN st a < lsN st b) := by
  induction k with
  | zero => exact ⟨fun t => by simp [ptTo]; omega, List.Pairwise.nil⟩
  | succ k ih =>
    obtain ⟨h1, h2⟩ := ih (by omega)
    have e : st[k]? = some (st[k]'(by omega)) := List.getElem?_eq_getElem (by omega)
    generalize st[k]'(by omega) = o at e
    rw [ptTo_succ e]
    by_cases hl : lastB st k o = true
    · rw [if_pos hl]
      have hl2 := (lastB_iff e).1 hl
      refine ⟨fun t => ?_, ?_⟩
      · rw [List.mem_append, h1, List.mem_singleton]
        constructor
        · rintro (h | rfl)
          · omega
          · omega
        · intro h
          by_cases h3 : lsN st t = k + 1
          · exact .inr (lsN_inj (by omega) (h3.trans hl2.symm))
          · exact .inl (by omega)
      · rw [List.pairwise_append]
        refine ⟨h2, by simp, fun a ha b hb => ?_⟩
        rw [List.mem_singleton] at hb
        subst hb
        have := (h1 a).1 ha
        omega
    · rw [if_neg hl]
      refine ⟨fun t => ?_, h2⟩
      rw [h1]
      constructor
      · omega
      · intro h
        refine ⟨h.1, ?_⟩
        rcases Nat.lt_or_ge (lsN st t) (k + 1) with h4 | h4
        · omega
        · exfalso
          have h5 : lsN st t = k + 1 := by omega
          obtain ⟨p, hp, htp⟩ := lsN_at h.1
          rw [h5, show k + 1 - 1 = k by omega, e] at hp
          injection hp with hp
          subst hp
          simp only [takesB, Bool.and_eq_true, beq_iff_eq] at htp
          rw [← htp.1] at h5
          exact hl ((lastB_iff e).2 h5)
theorem mem_ptI {st : List OpV} {t : Int} : t ∈ ptI st ↔ ∃ o ∈ st, takesB t o = true := by
  rw [← takes_pos]
  unfold ptI
  rw [(ptTo_known _ (Nat.le_refl _)).1]
  exact ⟨fun h => h.1, fun h => ⟨h, lsTo_le _ _ _⟩⟩
theorem ptI_sorted (st : List OpV) : (ptI st).Pairwise (fun a b => lsN st a < lsN st b) := (ptTo_known _ (Nat.le_refl _)).2
theorem ptI_nodup (st : List OpV) : (ptI st).Nodup := (ptI_sorted st).imp fun h e => by rw [e] at h; omega

/-! the points, as the program gathers them: from the end -/
def bkTo (st : List OpV) : Nat → List Int
  | 0 => []
  | m + 1 => match st[st.length - 1 - m]? with | some o => if decide (o.kind ≤ 1) && !((bkTo st m).any fun y => y == o.tx) then bkTo st m ++ [o.tx] else bkTo st m | none => bkTo st m
theorem bkTo_succ {st : List OpV} {m : Nat} {o : OpV} (h : st[st.length - 1 - m]? = some o) : bkTo st (m + 1) = if (decide (o.kind ≤ 1) && !((bkTo st m).any fun y => y == o.tx)) = true then bkTo st m ++ [o.tx] else bkTo st m := by simp only [bkTo, h]
theorem bkTo_known {st : List OpV} (m : Nat) (hm : m ≤ st.length) : (∀ t, t ∈ bkTo st m ↔ st.length - m < lsN st t) ∧ (bkTo st m).Pairwise (fun a b => lsN st b < lsN st a) := by
  induction m with
  | zero =>
    refine ⟨fun t => ?_, List.Pairwise.nil⟩
    have : lsN st t ≤ st.length := lsTo_le _ _ _
    simp only [bkTo, List.not_mem_nil, false_iff]
    omega
  | succ m ih =>
    obtain ⟨h1, h2⟩ := ih (by omega)
    obtain ⟨i, hi⟩ : ∃ i, i = st.length - 1 - m := ⟨_, rfl⟩
    have e : st[st.length - 1 - m]? = some (st[st.length - 1 - m]'(by omega)) := List.getElem?_eq_getElem (by omega)
    generalize st[st.length - 1 - m]'(by omega) = o at e
    rw [bkTo_succ e]
    rw [← hi] at e
    by_cases hc : (decide (o.kind ≤ 1) && !((bkTo st m).any fun y => y == o.tx)) = true
    · rw [if_pos hc]
      simp only [Bool.and_eq_true, decide_eq_true_eq, Bool.not_eq_true'] at hc
      have hno : ¬ o.tx ∈ bkTo st m := fun h => by rw [any_eq_iff.2 h] at hc; cases hc.2
      rw [h1] at hno
      have hge := lsN_ge (t := o.tx) e (by simp [takesB, hc.1])
      have heq : lsN st o.tx = i + 1 := by omega
      refine ⟨fun t => ?_, ?_⟩
      · rw [List.mem_append, h1, List.mem_singleton]
        constructor
        · rintro (h | rfl)
          · omega
          · omega
        · intro h
          by_cases h3 : lsN st t = i + 1
          · exact .inr (lsN_inj (by omega) (h3.trans heq.symm))
          · exact .inl (by omega)
      · rw [List.pairwise_append]
        refine ⟨h2, by simp, fun a ha b hb => ?_⟩
        rw [List.mem_singleton] at hb
        subst hb
        have := (h1 a).1 ha
        omega
    · rw [if_neg hc]
      refine ⟨fun t => ?_, h2⟩
      rw [h1]
      constructor
      · omega
      · intro h
        rcases Nat.lt_or_ge (st.length - m) (lsN st t) with h4 | h4
        · exact h4
        · exfalso
          have h5 : lsN st t = i + 1 := by omega
          obtain ⟨p, hp, htp⟩ := lsN_at (st := st) (t := t) (by omega)
          rw [h5, show i + 1 - 1 = i by omega, e] at hp
          injection hp with hp
          subst hp
          simp only [takesB, Bool.and_eq_true, beq_iff_eq, decide_eq_true_eq] at htp
          apply hc
          rw [Bool.and_eq_true, decide_eq_true_eq, Bool.not_eq_true']
          refine ⟨htp.2, ?_⟩
          cases ha : ((bkTo st m).any fun y => y == o.tx)
          · rfl
          · have := (h1 o.tx).1 (any_eq_iff.1 ha)
            rw [htp.1] at this
            omega
theorem points_eq (st : List OpV) : (bkTo st st.length).reverse = ptI st := by
  obtain ⟨h1, h2⟩ := bkTo_known (st := st) st.length (Nat.le_refl _)
  refine srt_unique (f := lsN st) (List.pairwise_reverse.2 h2) (ptI_sorted st) fun t => ?_
  rw [List.mem_reverse, h1, mem_ptI, ← takes_pos]
  omega

/-! two phases -/
def twoR (a b : OpV) : Prop := ¬ (a.tx = b.tx ∧ a.kind = 2 ∧ b.kind ≤ 1)
instance (a b : OpV) : Decidable (twoR a b) := by unfold twoR; infer_instance
def twoPB (st : List OpV) : Bool := decide (st.Pairwise twoR)
theorem two_at {st : List OpV} (h : twoPB st = true) {i k : Nat} {o p : OpV} (hik : i < k) (hi : st[i]? = some o) (hk : st[k]? = some p) (ht : o.tx = p.tx) (h2 : o.kind = 2) : 1 < p.kind := by
  unfold twoPB at h
  rw [decide_eq_true_eq, List.pairwise_iff_getElem] at h
  obtain ⟨h3, e3⟩ := List.getElem?_eq_some_iff.1 hi
  obtain ⟨h4, e4⟩ := List.getElem?_eq_some_iff.1 hk
  have := h i k h3 h4 hik
  rw [e3, e4] at this
  unfold twoR at this
  rcases Int.lt_or_le 1 p.kind with h5 | h5
  · exact h5
  · exact absurd ⟨ht, h2, h5⟩ this

/-! legal steps: who holds a lock for itself holds it alone -/
def Alone (p : List OpV) : Prop := ∀ t u x : Int, t ≠ u → heldI p t x = 1 → heldI p u x < 0
theorem others_no {p : List OpV} {t x least : Int} (h : othersB p t x least = false) {u : Int} (hu : 0 ≤ u ∧ u ≤ 3) (hne : u ≠ t) : heldI p u x < least := by
  unfold othersB at h
  rw [List.any_eq_false] at h
  have := h u (by simp; omega)
  simp only [Bool.and_eq_true, bne_iff_ne, decide_eq_true_eq, not_and] at this
  have := this hne
  omega
theorem alone_step {p : List OpV} {s : OpV} (hp : ∀ o ∈ p, okStep o = true) (hs : okStep s = true) (ha : Alone p) (hl : illB p s = false) : Alone (p ++ [s]) := by
  intro t u x hne h1
  have hk := okStep_iff.1 hs
  rw [heldI_snoc] at h1 ⊢
  have out : ∀ v : Int, ¬ (0 ≤ v ∧ v ≤ 3) → heldI p v x = -1 := fun v hv => heldI_out hp (by omega)
  unfold hStep at h1 ⊢
  by_cases htx : s.tx = t ∧ s.item = x
  · obtain ⟨rfl, rfl⟩ := htx
    rw [if_pos ⟨rfl, rfl⟩] at h1
    rw [if_neg (by omega)]
    split at h1
    · omega
    · split at h1
      · rename_i h2 h3
        have hk1 : s.kind = 1 := h1
        unfold illB at hl
        rw [if_neg (by omega), if_pos hk1, Bool.or_eq_false_iff] at hl
        by_cases hu : 0 ≤ u ∧ u ≤ 3
        · exact others_no hl.2 hu (Ne.symm hne)
        · rw [out u hu]; omega
      · exact ha _ u _ hne h1
  · rw [if_neg htx] at h1
    have hold := ha t u x hne h1
    by_cases hux : s.tx = u ∧ s.item = x
    · obtain ⟨rfl, rfl⟩ := hux
      rw [if_pos ⟨rfl, rfl⟩]
      split
      · omega
      · split
        · rename_i h2 h3
          exfalso
          have ht3 : 0 ≤ t ∧ t ≤ 3 := by
            rcases Classical.em (0 ≤ t ∧ t ≤ 3) with h | h
            · exact h
            · rw [out t h] at h1; omega
          unfold illB at hl
          by_cases h0 : s.kind = 0
          · rw [if_pos h0, Bool.or_eq_false_iff] at hl
            have := others_no hl.2 ht3 hne
            omega
          · rw [if_neg h0, if_pos (by omega), Bool.or_eq_false_iff] at hl
            have := others_no hl.2 ht3 hne
            omega
        · exact hold
    · rw [if_neg hux]; exact hold
theorem alone_all {st : List OpV} (hv : ∀ o ∈ st, okStep o = true) (hl : ∀ j, j < st.length → illAtB st j = false) : ∀ k, k ≤ st.length → Alone (st.take k) := by
  intro k
  induction k with
  | zero => intro _ t u x _ h; simp [heldI_nil] at h
  | succ k ih =>
    intro hk
    have e : st[k]? = some (st[k]'(by omega)) := List.getElem?_eq_getElem (by omega)
    generalize st[k]'(by omega) = o at e
    rw [take_snoc e]
    refine alone_step (fun q hq => hv q (List.mem_of_mem_take hq)) (hv o (List.mem_of_getElem? e)) (ih (by omega)) ?_
    have := hl k (by omega)
    unfold illAtB at this
    rw [e] at this
    exact this
/-- Between where something holds and where it does not hold it ends. -/
theorem ends_at {P : Nat → Prop} {i : Nat} : ∀ k, i ≤ k → P i → ¬ P k → ∃ j, i ≤ j ∧ j < k ∧ P j ∧ ¬ P (j + 1) := by
  intro k
  induction k with
  | zero =>
    intro h h1 h2
    obtain rfl : i = 0 := by omega
    exact absurd h1 h2
  | succ k ih =>
    intro h h1 h2
    by_cases e : i = k + 1
    · subst e; exact absurd h1 h2
    · by_cases hk : P k
      · exact ⟨k, by omega, by omega, hk, h2⟩
      · obtain ⟨j, a, b, c⟩ := ih (by omega) h1 hk
        exact ⟨j, a, by omega, c⟩
/-- A lock that comes is taken. -/
theorem comes {st : List OpV} {u x : Int} {l : Nat} {o : OpV} (h : st[l]? = some o) {b : Int} (hb : 0 ≤ b) (h0 : heldI (st.take l) u x < b) (h1 : b ≤ heldI (st.take (l + 1)) u x) : takesB u o = true ∧ o.item = x := by
  rw [heldI_succ h] at h1
  unfold hStep at h1
  split at h1
  · rename_i hc
    split at h1
    · omega
    · split at h1
      · rename_i h3
        exact ⟨by simp [takesB, hc.1, h3], hc.2⟩
      · omega
  · omega
/-- A lock that goes is given back, where steps are legal. -/
theorem goes {st : List OpV} {t x : Int} {j : Nat} {o : OpV} (hv : ∀ o ∈ st, okStep o = true) (h : st[j]? = some o) (hl : illAtB st j = false) {b : Int} (hb : 0 ≤ b) (h0 : b ≤ heldI (st.take j) t x) (h1 : heldI (st.take (j + 1)) t x < b) : o.tx = t ∧ o.kind = 2 := by
  have hk := okStep_iff.1 (hv o (List.mem_of_getElem? h))
  have hr := heldI_rng (st := st.take j) (fun q hq => hv q (List.mem_of_mem_take hq)) t x
  unfold illAtB at hl
  rw [h] at hl
  simp only at hl
  rw [heldI_succ h] at h1
  unfold hStep at h1
  split at h1
  · rename_i hc
    refine ⟨hc.1, ?_⟩
    split at h1
    · assumption
    · split at h1
      · exfalso
        unfold illB at hl
        rw [hc.1, hc.2] at hl
        by_cases k0 : o.kind = 0
        · rw [if_pos k0, Bool.or_eq_false_iff, decide_eq_false_iff_not] at hl
          omega
        · omega
      · omega
  · omega
/-- Two phases: of two accesses that conflict the first one's transaction has its point ahead. -/
theorem two_points {st : List OpV} (hv : ∀ o ∈ st, okStep o = true) (hl : ∀ j, j < st.length → illAtB st j = false) (h2 : twoPB st = true) {i k : Nat} {o p : OpV} (hik : i < k) (hi : st[i]? = some o) (hk : st[k]? = some p) (ho : 3 ≤ o.kind) (hp : 3 ≤ p.kind) (hx : o.item = p.item) (ht : o.tx ≠ p.tx) (hw : o.kind = 4 ∨ p.kind = 4) :
    lsN st o.tx < lsN st p.tx := by
  have hil := (List.getElem?_eq_some_iff.1 hi).1
  have hkl := (List.getElem?_eq_some_iff.1 hk).1
  have ko := okStep_iff.1 (hv o (List.mem_of_getElem? hi))
  have kp := okStep_iff.1 (hv p (List.mem_of_getElem? hk))
  have acc : ∀ (j : Nat) (q : OpV), st[j]? = some q → 3 ≤ q.kind → (0 ≤ heldI (st.take j) q.tx q.item) ∧ (q.kind = 4 → heldI (st.take j) q.tx q.item = 1) := fun j q hq h3 => by
    have hjl := (List.getElem?_eq_some_iff.1 hq).1
    have kq := okStep_iff.1 (hv q (List.mem_of_getElem? hq))
    have := hl j hjl
    unfold illAtB at this
    rw [hq] at this
    simp only at this
    unfold illB at this
    rw [if_neg (by omega), if_neg (by omega)] at this
    by_cases h4 : q.kind = 4
    · rw [if_pos h4] at this
      have h5 : heldI (st.take j) q.tx q.item = 1 := by simpa using this
      exact ⟨by omega, fun _ => h5⟩
    · rw [if_neg h4, decide_eq_false_iff_not] at this
      exact ⟨by omega, fun h => absurd h h4⟩
  obtain ⟨a1, a2⟩ := acc i o hi ho
  obtain ⟨b1, b2⟩ := acc k p hk hp
  rw [← hx] at b1 b2
  have alone := alone_all hv hl
  -- the strength that the two need
  obtain ⟨b, hb0, hb1, c, hc0, hc1, hexc⟩ : ∃ b : Int, 0 ≤ b ∧ b ≤ heldI (st.take i) o.tx o.item ∧ ∃ c : Int, 0 ≤ c ∧ c ≤ heldI (st.take k) p.tx o.item ∧ ∀ j, j ≤ st.length → b ≤ heldI (st.take j) o.tx o.item → heldI (st.take j) p.tx o.item < c := by
    have rng : ∀ (j : Nat) (t : Int), heldI (st.take j) t o.item = -1 ∨ heldI (st.take j) t o.item = 0 ∨ heldI (st.take j) t o.item = 1 := fun j t => heldI_rng (fun q hq => hv q (List.mem_of_mem_take hq)) t _
    rcases hw with h4 | h4
    · refine ⟨1, by omega, by rw [a2 h4]; omega, 0, by omega, b1, fun j hj h => ?_⟩
      have := rng j o.tx
      exact alone j hj o.tx p.tx o.item ht (by omega)
    · refine ⟨0, by omega, a1, 1, by omega, by rw [b2 h4]; omega, fun j hj h => ?_⟩
      have r1 := rng j p.tx
      rcases Int.lt_or_le (heldI (st.take j) p.tx o.item) 1 with h5 | h5
      · exact h5
      · have := alone j hj p.tx o.tx o.item (Ne.symm ht) (by omega)
        omega
  have hnk : ¬ (b ≤ heldI (st.take k) o.tx o.item) := fun h => by have := hexc k (by omega) h; omega
  obtain ⟨j, hij, hjk, hj1, hj2⟩ := ends_at (P := fun j => b ≤ heldI (st.take j) o.tx o.item) k (by omega) hb1 hnk
  have ej : st[j]? = some (st[j]'(by omega)) := List.getElem?_eq_getElem (by omega)
  generalize st[j]'(by omega) = q at ej
  obtain ⟨hqt, hq2⟩ := goes hv ej (hl j (by omega)) hb0 hj1 (by omega)
  -- p's transaction takes its lock behind that
  have hpj := hexc j (by omega) hj1
  have hpk : ¬ ¬ (c ≤ heldI (st.take k) p.tx o.item) := fun h => h hc1
  obtain ⟨l, hjl, hlk, hl1, hl2⟩ := ends_at (P := fun j => ¬ (c ≤ heldI (st.take j) p.tx o.item)) (i := j) k (by omega) (show ¬ (c ≤ heldI (st.take j) p.tx o.item) by omega) hpk
  have el : st[l]? = some (st[l]'(by omega)) := List.getElem?_eq_getElem (by omega)
  generalize st[l]'(by omega) = r at el
  have hl2' : c ≤ heldI (st.take (l + 1)) p.tx o.item := by
    rcases Classical.em (c ≤ heldI (st.take (l + 1)) p.tx o.item) with h | h
    · exact h
    · exact absurd h hl2
  obtain ⟨htk, _⟩ := comes el hc0 (by omega) hl2'
  have h6 := lsN_ge el htk
  -- o's transaction takes none behind it
  rcases Nat.lt_or_ge (lsN st o.tx) (lsN st p.tx) with h7 | h7
  · exact h7
  · exfalso
    obtain ⟨s, hs, hst⟩ := lsN_at (st := st) (t := o.tx) (by omega)
    simp only [takesB, Bool.and_eq_true, beq_iff_eq, decide_eq_true_eq] at hst
    rcases Nat.lt_or_ge j (lsN st o.tx - 1) with h8 | h8
    · have := two_at h2 h8 ej hs (hqt.trans hst.1.symm) hq2
      omega
    · have e8 : lsN st o.tx - 1 = j := by omega
      rw [e8, ej] at hs
      injection hs with hs
      subst hs
      omega
end Go.Proofs.Ytcakjhappchlmaa
