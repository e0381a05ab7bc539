/-
  Orders that go by time, in plain words: what the program leaves out and what the reference's graph adds are one.
-/
import Derived.Test.YtcakjhappchlmaaPkLkA
import Derived.Test.YtcakjhappchlmaaQWIserP0
import Derived.Test.YtcakjhappchlmaaPkLkB2
namespace Go.Proofs.Ytcakjhappchlmaa
open Go.RowKit
set_option linter.unusedVariables false

/-- No transaction of the order ends ahead of where one ahead of it begins. -/
def okT (s : List OpV) : List Int → Bool
  | [] => true
  | t :: r => (r.all fun u => !decide (lastI s u < firstI s t)) && okT s r
def timeI (s : List OpV) : List (List Int) := (ordO s).filter (okT s)
theorem okT_iff {s : List OpV} {p : List Int} : okT s p = true ↔ p.Pairwise fun t u => ¬ lastI s u < firstI s t := by
  induction p with
  | nil => simp [okT]
  | cons t r ih =>
    simp only [okT, Bool.and_eq_true, List.all_eq_true, Bool.not_eq_true', decide_eq_false_iff_not, List.pairwise_cons, ih]

/-- All operations of t stand ahead of all of u. -/
def aheadB (c : List OpV) (t u : Int) : Bool := decide (c.Pairwise fun a b => ¬ (a.tx = u ∧ b.tx = t))
/-- The rows that time adds. -/
def tmStep (c : List OpV) (L : List Int) (i : Nat) (t : Int) (rows : List Nat) (k : Nat) (u : Int) : List Nat := if i != k && aheadB c t u then rowSet rows t u else rows
def tmIn (c : List OpV) (L : List Int) (i : Nat) (t : Int) (rows : List Nat) : Nat → List Nat
  | 0 => rows
  | k + 1 => match L[k]? with | some u => tmStep c L i t (tmIn c L i t rows k) k u | none => tmIn c L i t rows k
def tmTo (c : List OpV) (L : List Int) (rows : List Nat) : Nat → List Nat
  | 0 => rows
  | i + 1 => match L[i]? with | some t => tmIn c L i t (tmTo c L rows i) L.length | none => tmTo c L rows i
theorem tmIn_succ {c : List OpV} {L : List Int} {i k : Nat} {t u : Int} {rows : List Nat} (h : L[k]? = some u) : tmIn c L i t rows (k + 1) = tmStep c L i t (tmIn c L i t rows k) k u := by simp only [tmIn, h]
theorem tmTo_succ {c : List OpV} {L : List Int} {i : Nat} {t : Int} {rows : List Nat} (h : L[i]? = some t) : tmTo c L rows (i + 1) = tmIn c L i t (tmTo c L rows i) L.length := by simp only [tmTo, h]
theorem tmIn_ok {c : List OpV} {L : List Int} (hr : ∀ t ∈ L, 0 ≤ t ∧ t ≤ 3) {i : Nat} {t : Int} {rows : List Nat} (h4 : Rows4 rows) (k : Nat) : Rows4 (tmIn c L i t rows k) := by
  induction k with
  | zero => exact h4
  | succ k ih =>
    cases e : L[k]? with
    | none => simp only [tmIn, e]; exact ih
    | some u =>
      rw [tmIn_succ e]
      unfold tmStep
      split
      · exact rowSet_ok ih (hr u (List.mem_of_getElem? e))
      · exact ih
theorem tmTo_ok {c : List OpV} {L : List Int} (hr : ∀ t ∈ L, 0 ≤ t ∧ t ≤ 3) {rows : List Nat} (h4 : Rows4 rows) (i : Nat) : Rows4 (tmTo c L rows i) := by
  induction i with
  | zero => exact h4
  | succ i ih =>
    cases e : L[i]? with
    | none => simp only [tmTo, e]; exact ih
    | some t => rw [tmTo_succ e]; exact tmIn_ok hr ih _
theorem tmIn_bit {c : List OpV} {L : List Int} (hr : ∀ t ∈ L, 0 ≤ t ∧ t ≤ 3) {i : Nat} {t : Int} (ht : 0 ≤ t ∧ t ≤ 3) {rows : List Nat} (h4 : Rows4 rows) (k : Nat) {x y : Nat} :
    ((tmIn c L i t rows k).getD x 0).testBit y = true ↔ (rows.getD x 0).testBit y = true ∨ (t = x ∧ ∃ q, q < k ∧ i ≠ q ∧ L[q]? = some (y : Int) ∧ aheadB c t y = true) := by
  obtain ⟨T, rfl⟩ := Int.eq_ofNat_of_zero_le ht.1
  induction k with
  | zero =>
    simp only [tmIn]
    constructor
    · exact .inl
    · rintro (h | ⟨_, q, hq, _⟩)
      · exact h
      · omega
  | succ k ih =>
    cases e : L[k]? with
    | none =>
      simp only [tmIn, e]
      rw [ih]
      constructor
      · rintro (h | ⟨h1, q, hq, r⟩)
        · exact .inl h
        · exact .inr ⟨h1, q, by omega, r⟩
      · rintro (h | ⟨h1, q, hq, h2, h3, r⟩)
        · exact .inl h
        · by_cases hqk : q = k
          · subst hqk; rw [e] at h3; cases h3
          · exact .inr ⟨h1, q, by omega, h2, h3, r⟩
    | some u =>
      have hu := hr u (List.mem_of_getElem? e)
      have h4' := tmIn_ok (c := c) hr (i := i) (t := (T : Int)) h4 k
      obtain ⟨U, rfl⟩ := Int.eq_ofNat_of_zero_le hu.1
      rw [tmIn_succ e]
      unfold tmStep
      split
      · rename_i hc
        simp only [Bool.and_eq_true, bne_iff_ne] at hc
        rw [rowSet_bit h4' (by omega), Bool.or_eq_true, ih]
        constructor
        · rintro ((h | ⟨h1, q, hq, r⟩) | h)
          · exact .inl h
          · exact .inr ⟨h1, q, by omega, r⟩
          · simp only [Bool.and_eq_true, decide_eq_true_eq] at h
            exact .inr ⟨by omega, k, by omega, hc.1, by rw [e, h.2], by rw [h.2]; exact hc.2⟩
        · rintro (h | ⟨h1, q, hq, h2, h3, r⟩)
          · exact .inl (.inl h)
          · by_cases hqk : q = k
            · subst hqk
              rw [e] at h3
              injection h3 with h3
              right
              simp only [Bool.and_eq_true, decide_eq_true_eq]
              omega
            · exact .inl (.inr ⟨h1, q, by omega, h2, h3, r⟩)
      · rename_i hc
        rw [ih]
        constructor
        · rintro (h | ⟨h1, q, hq, r⟩)
          · exact .inl h
          · exact .inr ⟨h1, q, by omega, r⟩
        · rintro (h | ⟨h1, q, hq, h2, h3, r⟩)
          · exact .inl h
          · by_cases hqk : q = k
            · subst hqk
              rw [e] at h3
              injection h3 with h3
              rw [← h3] at r
              exfalso
              apply hc
              simp only [Bool.and_eq_true, bne_iff_ne]
              exact ⟨h2, r⟩
            · exact .inr ⟨h1, q, by omega, h2, h3, r⟩
theorem tmTo_bit {c : List OpV} {L : List Int} (hr : ∀ t ∈ L, 0 ≤ t ∧ t ≤ 3) {rows : List Nat} (h4 : Rows4 rows) (m : Nat) {x y : Nat} :
    ((tmTo c L rows m).getD x 0).testBit y = true ↔ (rows.getD x 0).testBit y = true ∨ ∃ i q, i < m ∧ i ≠ q ∧ L[i]? = some (x : Int) ∧ L[q]? = some (y : Int) ∧ aheadB c x y = true := by
  induction m with
  | zero =>
    simp only [tmTo]
    constructor
    · exact .inl
    · rintro (h | ⟨i, q, hi, _⟩)
      · exact h
      · omega
  | succ m ih =>
    cases e : L[m]? with
    | none =>
      simp only [tmTo, e]
      rw [ih]
      constructor
      · rintro (h | ⟨i, q, hi, r⟩)
        · exact .inl h
        · exact .inr ⟨i, q, by omega, r⟩
      · rintro (h | ⟨i, q, hi, h1, h2, r⟩)
        · exact .inl h
        · by_cases him : i = m
          · subst him; rw [e] at h2; cases h2
          · exact .inr ⟨i, q, by omega, h1, h2, r⟩
    | some t =>
      rw [tmTo_succ e, tmIn_bit hr (hr t (List.mem_of_getElem? e)) (tmTo_ok hr h4 m), ih]
      constructor
      · rintro ((h | ⟨i, q, hi, r⟩) | ⟨h1, q, hq, h2, h3, h5⟩)
        · exact .inl h
        · exact .inr ⟨i, q, by omega, r⟩
        · subst h1
          exact .inr ⟨m, q, by omega, h2, e, h3, h5⟩
      · rintro (h | ⟨i, q, hi, h1, h2, h3, h5⟩)
        · exact .inl (.inl h)
        · by_cases him : i = m
          · subst him
            rw [e] at h2
            injection h2 with h2
            exact .inr ⟨h2, q, (List.getElem?_eq_some_iff.1 h3).1, h1, h3, by rw [h2]; exact h5⟩
          · exact .inl (.inr ⟨i, q, by omega, h1, h2, h3, h5⟩)
/-- The reference's rows. -/
def tmR (s : List OpV) : List Nat := tmTo (committed s) (txsOf (committed s)) (grI (committed s)) (txsOf (committed s)).length
def timeS (s : List OpV) : List (List Int) := topF (txsOf (committed s)) (tmR s) (txsOf (committed s)).length []
theorem nodup_idx {L : List Int} (hd : L.Nodup) {i q : Nat} (h1 : i < L.length) (h2 : q < L.length) (e : L[i] = L[q]) : i = q := by
  have hp := List.pairwise_iff_getElem.1 hd
  rcases Nat.lt_trichotomy i q with h | h | h
  · exact absurd e (hp i q h1 h2 h)
  · exact h
  · exact absurd e.symm (hp q i h2 h1 h)
theorem nodup_ne {L : List Int} (hd : L.Nodup) {i q : Nat} {x y : Int} (hi : L[i]? = some x) (hq : L[q]? = some y) : i ≠ q ↔ x ≠ y := by
  obtain ⟨h1, e1⟩ := List.getElem?_eq_some_iff.1 hi
  obtain ⟨h2, e2⟩ := List.getElem?_eq_some_iff.1 hq
  constructor
  · intro h e
    apply h
    exact nodup_idx hd h1 h2 (by rw [e1, e2]; exact e)
  · intro h e
    subst e
    rw [hi] at hq
    injection hq with hq
    exact h hq
theorem tmR_edge {s : List OpV} (hv : validS s = true) {t u : Int} (ht : t ∈ txsOf (committed s)) (hu : u ∈ txsOf (committed s)) :
    edgeB (tmR s) t u = true ↔ edgeB (grI (committed s)) t u = true ∨ (t ≠ u ∧ aheadB (committed s) t u = true) := by
  have hrg := txsOf_rng0 (committed s)
  obtain ⟨T, rfl⟩ := Int.eq_ofNat_of_zero_le (hrg t ht).1
  obtain ⟨U, rfl⟩ := Int.eq_ofNat_of_zero_le (hrg u hu).1
  unfold edgeB
  rw [Int.toNat_natCast, Int.toNat_natCast]
  unfold tmR
  rw [tmTo_bit hrg (grI_ok (comm_tx4 hv))]
  constructor
  · rintro (h | ⟨i, q, _, h1, h2, h3, h5⟩)
    · exact .inl h
    · exact .inr ⟨(nodup_ne (nodup_txsOf _) h2 h3).1 h1, h5⟩
  · rintro (h | ⟨h1, h5⟩)
    · exact .inl h
    · obtain ⟨i, hi⟩ := List.mem_iff_getElem?.1 ht
      obtain ⟨q, hq⟩ := List.mem_iff_getElem?.1 hu
      exact .inr ⟨i, q, (List.getElem?_eq_some_iff.1 hi).1, (nodup_ne (nodup_txsOf _) hi hq).2 h1, hi, hq, h5⟩
theorem lastTo_spec {s : List OpV} {t : Int} (k : Nat) : (lastTo s t k = -1 ∧ ∀ j o, j < k → s[j]? = some o → o.tx ≠ t) ∨ ∃ (j : Nat) (o : OpV), lastTo s t k = (j : Int) ∧ j < k ∧ s[j]? = some o ∧ o.tx = t ∧ ∀ i p, i < k → s[i]? = some p → p.tx = t → i ≤ j := by
  induction k with
  | zero => exact .inl ⟨rfl, fun j o h => by omega⟩
  | succ k ih =>
    simp only [lastTo]
    cases e : s[k]? with
    | none =>
      have h0 : isAt s k t = false := by unfold isAt; rw [e]
      rw [h0]
      simp only [Bool.false_eq_true, if_false]
      rcases ih with ⟨h1, h2⟩ | ⟨j, o, h1, h2, h3, h4, h5⟩
      · refine .inl ⟨h1, fun j o hj ho => ?_⟩
        by_cases hjk : j = k
        · subst hjk; rw [e] at ho; cases ho
        · exact h2 j o (by omega) ho
      · refine .inr ⟨j, o, h1, by omega, h3, h4, fun i p hi hp he => ?_⟩
        by_cases hik : i = k
        · subst hik; rw [e] at hp; cases hp
        · exact h5 i p (by omega) hp he
    | some q =>
      by_cases hq : q.tx = t
      · have h0 : isAt s k t = true := by unfold isAt; rw [e]; simpa using hq
        rw [if_pos h0]
        exact .inr ⟨k, q, rfl, by omega, e, hq, fun i p hi _ _ => by omega⟩
      · have h0 : isAt s k t = false := by unfold isAt; rw [e]; simpa using hq
        rw [h0]
        simp only [Bool.false_eq_true, if_false]
        rcases ih with ⟨h1, h2⟩ | ⟨j, o, h1, h2, h3, h4, h5⟩
        · refine .inl ⟨h1, fun j o hj ho => ?_⟩
          by_cases hjk : j = k
          · subst hjk; rw [e] at ho; injection ho with ho; subst ho; exact hq
          · exact h2 j o (by omega) ho
        · refine .inr ⟨j, o, h1, by omega, h3, h4, fun i p hi hp he => ?_⟩
          by_cases hik : i = k
          · subst hik; rw [e] at hp; injection hp with hp; subst hp; exact absurd he hq
          · exact h5 i p (by omega) hp he
theorem firstTo_spec {s : List OpV} {t : Int} (k : Nat) : (firstTo s t k = -1 ∧ ∀ j o, j < k → s[j]? = some o → o.tx ≠ t) ∨ ∃ (j : Nat) (o : OpV), firstTo s t k = (j : Int) ∧ j < k ∧ s[j]? = some o ∧ o.tx = t ∧ ∀ i p, i < k → s[i]? = some p → p.tx = t → j ≤ i := by
  induction k with
  | zero => exact .inl ⟨rfl, fun j o h => by omega⟩
  | succ k ih =>
    simp only [firstTo]
    rcases ih with ⟨h1, h2⟩ | ⟨j, o, h1, h2, h3, h4, h5⟩
    · cases e : s[k]? with
      | none =>
        have h0 : isAt s k t = false := by unfold isAt; rw [e]
        rw [h0, if_neg (by simp)]
        refine .inl ⟨h1, fun j o hj ho => ?_⟩
        by_cases hjk : j = k
        · subst hjk; rw [e] at ho; cases ho
        · exact h2 j o (by omega) ho
      | some q =>
        by_cases hq : q.tx = t
        · have h0 : isAt s k t = true := by unfold isAt; rw [e]; simpa using hq
          rw [h0, h1, if_pos ⟨by omega, rfl⟩]
          refine .inr ⟨k, q, rfl, by omega, e, hq, fun i p hi hp he => ?_⟩
          by_cases hik : i = k
          · omega
          · exact absurd he (h2 i p (by omega) hp)
        · have h0 : isAt s k t = false := by unfold isAt; rw [e]; simpa using hq
          rw [h0, if_neg (by simp)]
          refine .inl ⟨h1, fun j o hj ho => ?_⟩
          by_cases hjk : j = k
          · subst hjk; rw [e] at ho; injection ho with ho; subst ho; exact hq
          · exact h2 j o (by omega) ho
    · rw [h1, if_neg (by omega)]
      refine .inr ⟨j, o, rfl, by omega, h3, h4, fun i p hi hp he => ?_⟩
      by_cases hik : i = k
      · omega
      · exact h5 i p (by omega) hp he
/-- The last of t stands ahead of the first of u just where all of t stand ahead of all of u. -/
theorem last_first {s : List OpV} {t u : Int} (htu : t ≠ u) (ht : ∃ o ∈ s, o.tx = t) (hu : ∃ o ∈ s, o.tx = u) : lastI s t < firstI s u ↔ s.Pairwise fun a b => ¬ (a.tx = u ∧ b.tx = t) := by
  obtain ⟨o, ho, hot⟩ := ht
  obtain ⟨p, hp, hpu⟩ := hu
  obtain ⟨i0, hi0⟩ := List.mem_iff_getElem?.1 ho
  obtain ⟨k0, hk0⟩ := List.mem_iff_getElem?.1 hp
  have hi0l := (List.getElem?_eq_some_iff.1 hi0).1
  have hk0l := (List.getElem?_eq_some_iff.1 hk0).1
  rcases lastTo_spec (s := s) (t := t) s.length with ⟨_, h2⟩ | ⟨j, a, h1, h2, h3, h4, h5⟩
  · exact absurd hot (h2 i0 o hi0l hi0)
  rcases firstTo_spec (s := s) (t := u) s.length with ⟨_, g2⟩ | ⟨k, b, g1, g2, g3, g4, g5⟩
  · exact absurd hpu (g2 k0 p hk0l hk0)
  unfold lastI firstI
  rw [h1, g1, List.pairwise_iff_getElem]
  constructor
  · intro hjk x y hx hy hxy ⟨e1, e2⟩
    have a1 := g5 x _ hx (List.getElem?_eq_getElem hx) e1
    have a2 := h5 y _ hy (List.getElem?_eq_getElem hy) e2
    omega
  · intro h
    rcases Nat.lt_trichotomy j k with hjk | hjk | hjk
    · omega
    · subst hjk
      rw [h3] at g3
      injection g3 with g3
      subst g3
      exact absurd (h4.symm.trans g4) htu
    · exfalso
      have := h k j g2 h2 hjk
      rw [(List.getElem?_eq_some_iff.1 g3).2, (List.getElem?_eq_some_iff.1 h3).2] at this
      exact this ⟨g4, h4⟩
theorem ahead_last {s : List OpV} (hv : validS s = true) {t u : Int} (htu : t ≠ u) (ht : t ∈ txsOf (committed s)) (hu : u ∈ txsOf (committed s)) : aheadB (committed s) t u = true ↔ lastI s t < firstI s u := by
  have et := (mem_txs_committed hv).1 ht
  have eu := (mem_txs_committed hv).1 hu
  obtain ⟨o, ho, hot, _⟩ := endOf_two et
  obtain ⟨p, hp, hpu, _⟩ := endOf_two eu
  rw [last_first htu ⟨o, ho, hot⟩ ⟨p, hp, hpu⟩]
  unfold aheadB
  rw [decide_eq_true_eq]
  unfold committed
  rw [List.pairwise_filter]
  constructor
  · intro h
    refine h.imp fun {a b} hab he => ?_
    refine hab ?_ ?_ he
    · simp only [he.1, eu]; rfl
    · simp only [he.2, et]; rfl
  · intro h
    exact h.imp fun {a b} hab _ _ => hab
theorem permF_nodup {list : List Int} (m : Nat) : ∀ pre, pre.Nodup → ∀ p ∈ permF list m pre, p.Nodup := by
  induction m with
  | zero => intro pre hp p h; simp only [permF, List.mem_singleton] at h; subst h; exact hp
  | succ m ih =>
    intro pre hp p h
    simp only [permF, List.mem_flatMap] at h
    obtain ⟨t, _, h⟩ := h
    split at h
    · cases h
    · rename_i hm
      refine ih _ ?_ p h
      rw [List.nodup_append]
      refine ⟨hp, by simp, ?_⟩
      intro a ha b hb
      rw [List.mem_singleton] at hb
      subst hb
      intro e
      subst e
      exact hm (any_mem_iff.2 ha)
theorem time_eq {s : List OpV} (hv : validS s = true) : timeI s = timeS s := by
  have hd := nodup_txsOf (committed s)
  have hdiag : ∀ t ∈ txsOf (committed s), edgeB (tmR s) t t = false := fun t ht => by
    cases h : edgeB (tmR s) t t
    · rfl
    · rcases (tmR_edge hv ht ht).1 h with h1 | h1
      · rw [ordO_diag hv t ht] at h1; cases h1
      · exact absurd rfl h1.1
  unfold timeI timeS ordO
  rw [← ord_eq hd hdiag]
  unfold ordI
  rw [List.filter_filter]
  refine List.filter_congr fun p hp => ?_
  obtain ⟨_, hall⟩ := permF_mem hd (txsOf (committed s)).length (pre := []) (by simp) (by simp) (by simp) p hp
  have hsub : ∀ x ∈ p, x ∈ txsOf (committed s) := fun x hx => by
    rcases permF_sub _ [] p hp x hx with h | h
    · cases h
    · exact h
  have hpd : p.Nodup := permF_nodup _ [] (by simp) p hp
  rw [Bool.eq_iff_iff, Bool.and_eq_true, okT_iff, accB_iff, accB_iff]
  constructor
  · rintro ⟨h1, h2⟩
    have h3 := h1.and h2
    rw [List.pairwise_iff_getElem] at h3 ⊢
    intro i j hi hj hij
    obtain ⟨a1, a2⟩ := h3 i j hi hj hij
    cases he : edgeB (tmR s) p[j] p[i]
    · rfl
    · rcases (tmR_edge hv (hsub _ (List.getElem_mem hj)) (hsub _ (List.getElem_mem hi))).1 he with h5 | ⟨h5, h6⟩
      · rw [a2] at h5; cases h5
      · exact absurd ((ahead_last hv h5 (hsub _ (List.getElem_mem hj)) (hsub _ (List.getElem_mem hi))).1 h6) a1
  · intro h
    rw [List.pairwise_iff_getElem] at h
    refine ⟨?_, ?_⟩
    · rw [List.pairwise_iff_getElem]
      intro i j hi hj hij hlt
      have hne : p[j] ≠ p[i] := fun e => by
        have := nodup_idx hpd hj hi e
        omega
      have := h i j hi hj hij
      rw [(tmR_edge hv (hsub _ (List.getElem_mem hj)) (hsub _ (List.getElem_mem hi))).2 (.inr ⟨hne, (ahead_last hv hne (hsub _ (List.getElem_mem hj)) (hsub _ (List.getElem_mem hi))).2 hlt⟩)] at this
      cases this
    · rw [List.pairwise_iff_getElem]
      intro i j hi hj hij
      cases he : edgeB (grI (committed s)) p[j] p[i]
      · rfl
      · have := h i j hi hj hij
        rw [(tmR_edge hv (hsub _ (List.getElem_mem hj)) (hsub _ (List.getElem_mem hi))).2 (.inl he)] at this
        cases this
end Go.Proofs.Ytcakjhappchlmaa
