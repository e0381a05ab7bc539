/-
  Plain facts on schedules: what validity says of any two operations; first places, ends and commits.
-/
import Derived.Test.YtofcpfabjfhjoaaSpec3
namespace Go.Proofs.Ytofcpfabjfhjoaa
set_option linter.unusedVariables false

theorem validS_iff (s : List OpV) : validS s = true ↔ s.length ≤ 16 ∧ (∀ o ∈ s, validOp o = true) ∧ s.Pairwise (fun a b => isEnd a = true → a.tx ≠ b.tx) := by
  constructor
  · intro h
    refine ⟨?_, validS_ops h, ?_⟩
    · unfold validS at h
      simp only [Bool.and_eq_true, decide_eq_true_eq] at h
      exact h.1
    · rw [List.pairwise_iff_getElem]
      intro i j hi hj hij he ht
      unfold validS at h
      simp only [Bool.and_eq_true, List.all_eq_true] at h
      have := h.2 j (List.mem_range.2 hj)
      unfold goodAt at this
      rw [List.getElem?_eq_getElem hj] at this
      simp only [Bool.and_eq_true] at this
      have h2 := this.2
      rw [noEnd_false (k := i) (o := s[i]) hij (List.getElem?_eq_getElem hi) (by rw [he, ht]; simp)] at h2
      cases h2
  · rintro ⟨h1, h2, h3⟩
    unfold validS
    simp only [Bool.and_eq_true, decide_eq_true_eq, List.all_eq_true]
    refine ⟨h1, fun j hj => ?_⟩
    have hj := List.mem_range.1 hj
    unfold goodAt
    rw [List.getElem?_eq_getElem hj]
    simp only [Bool.and_eq_true]
    refine ⟨h2 _ (List.getElem_mem hj), noEnd_true (fun k hk o ho => ?_)⟩
    have hk' : k < s.length := by omega
    rw [List.getElem?_eq_getElem hk'] at ho
    injection ho with ho
    subst ho
    rw [List.pairwise_iff_getElem] at h3
    have := h3 k j hk' hj hk
    cases he : isEnd s[k]
    · simp
    · simpa [he] using this he
/-- What is left when whole operations are dropped is a schedule. -/
theorem validS_sub {s t : List OpV} (h : validS s = true) (hs : List.Sublist t s) : validS t = true := by
  rw [validS_iff] at *
  exact ⟨Nat.le_trans hs.length_le h.1, fun o ho => h.2.1 o (hs.subset ho), List.Pairwise.sublist hs h.2.2⟩
theorem validS_committed {s : List OpV} (h : validS s = true) : validS (committed s) = true := validS_sub h List.filter_sublist
theorem validS_tx {s : List OpV} (h : validS s = true) {o : OpV} (ho : o ∈ s) : 0 ≤ o.tx ∧ o.tx ≤ 3 := by
  have := validS_ops h o ho
  simp [validOp, inR] at this
  omega
theorem validS_end0 {s : List OpV} (h : validS s = true) {o : OpV} (ho : o ∈ s) (hk : o.kind = 2 ∨ o.kind = 3) : o.item = 0 := by
  have := validS_ops h o ho
  rcases hk with hk | hk <;> simp [validOp, isAcc, isEnd, hk] at this <;> exact this.2
/-- Behind the end of a transaction stands none of it. -/
theorem validS_after {s : List OpV} (h : validS s = true) {i j : Nat} {a b : OpV} (hi : s[i]? = some a) (hj : s[j]? = some b) (he : isEnd a = true) (ht : a.tx = b.tx) : j ≤ i := by
  rcases Nat.lt_or_ge i j with hij | hij
  · exfalso
    obtain ⟨hil, hia⟩ := List.getElem?_eq_some_iff.1 hi
    obtain ⟨hjl, hjb⟩ := List.getElem?_eq_some_iff.1 hj
    have := List.pairwise_iff_getElem.1 ((validS_iff s).1 h).2.2 i j hil hjl hij
    rw [hia, hjb] at this
    exact this he ht
  · exact hij
theorem isEnd_two {o : OpV} (h : o.kind = 2) : isEnd o = true := by simp [isEnd, h]

/-- A transaction with a commit ends with it. -/
theorem endOf_commit {s : List OpV} (h : validS s = true) {o : OpV} (ho : o ∈ s) (hk : o.kind = 2) : endOf s o.tx = 2 := by
  obtain ⟨k, hk'⟩ := List.mem_iff_getElem?.1 ho
  have := endOf_hit s o.tx k o hk' (fun j hj q hq => by
    cases hq2 : (q.tx == o.tx && isEnd q)
    · rfl
    · simp only [Bool.and_eq_true, beq_iff_eq] at hq2
      have := validS_after h hq hk' hq2.2 hq2.1
      omega) (by simp [isEnd, hk])
  rw [this, hk]
theorem endOf_two {s : List OpV} {t : Int} (h : endOf s t = 2) : ∃ o ∈ s, o.tx = t ∧ o.kind = 2 := by
  unfold endOf at h
  cases hf : s.find? (fun o => o.tx == t && isEnd o) with
  | none => rw [hf] at h; simp at h
  | some o =>
    rw [hf] at h
    have h1 := List.find?_some hf
    simp only [Bool.and_eq_true, beq_iff_eq] at h1
    exact ⟨o, List.mem_of_find?_eq_some hf, h1.1, by simpa using h⟩
theorem endOf_two_iff {s : List OpV} (h : validS s = true) (t : Int) : endOf s t = 2 ↔ ∃ o ∈ s, o.tx = t ∧ o.kind = 2 := by
  constructor
  · exact endOf_two
  · rintro ⟨o, ho, rfl, hk⟩
    exact endOf_commit h ho hk
theorem mem_committed {s : List OpV} {o : OpV} : o ∈ committed s ↔ o ∈ s ∧ endOf s o.tx = 2 := by
  unfold committed
  rw [List.mem_filter]
  simp
theorem hasTx_iff {s : List OpV} {t : Int} : hasTx s t = true ↔ ∃ o ∈ s, o.tx = t := by
  unfold hasTx
  rw [List.any_eq_true]
  simp
theorem mem_txsOf {s : List OpV} (h : validS s = true) {t : Int} : t ∈ txsOf s ↔ ∃ o ∈ s, o.tx = t := by
  unfold txsOf
  rw [List.mem_filter, hasTx_iff]
  constructor
  · exact fun h => h.2
  · rintro ⟨o, ho, rfl⟩
    have := validS_tx h ho
    refine ⟨?_, o, ho, rfl⟩
    have : o.tx = 0 ∨ o.tx = 1 ∨ o.tx = 2 ∨ o.tx = 3 := by omega
    rcases this with e | e | e | e <;> rw [e] <;> simp
theorem nodup_txsOf (s : List OpV) : (txsOf s).Nodup := by
  unfold txsOf
  exact List.Pairwise.filter _ (by decide)
theorem mem_txs_committed {s : List OpV} (h : validS s = true) {t : Int} : t ∈ txsOf (committed s) ↔ endOf s t = 2 := by
  rw [mem_txsOf (validS_committed h)]
  constructor
  · rintro ⟨o, ho, rfl⟩
    exact (mem_committed.1 ho).2
  · intro he
    obtain ⟨o, ho, rfl, hk⟩ := endOf_two he
    exact ⟨o, mem_committed.2 ⟨ho, he⟩, rfl⟩

/-- The first place of a transaction that is there. -/
theorem firstTo_eq (s : List OpV) (t : Int) (k : Nat) (hk : k ≤ s.length) : firstTo s t k = if stampN s t < k then (stampN s t : Int) else -1 := by
  induction k with
  | zero => simp [firstTo]
  | succ k ih =>
    have ih := ih (by omega)
    have hat : isAt s k t = ((s[k]'(by omega)).tx == t) := by unfold isAt; rw [List.getElem?_eq_getElem (by omega)]
    simp only [firstTo, ih, hat]
    unfold stampN at *
    obtain ⟨f, hf⟩ : ∃ f, (s.findIdx fun o => o.tx == t) = f := ⟨_, rfl⟩
    have hget : ∀ q, s[f]? = some q → (q.tx == t) = true := by
      intro q hq
      obtain ⟨hl, he⟩ := List.getElem?_eq_some_iff.1 hq
      subst hf
      rw [← he]
      exact @List.findIdx_getElem _ (fun o : OpV => o.tx == t) s hl
    have hnot : k < f → ((s[k]'(by omega)).tx == t) = false := by
      intro hkf
      subst hf
      exact List.not_of_lt_findIdx (p := fun o : OpV => o.tx == t) hkf
    rw [hf]
    clear ih hf
    rcases Nat.lt_trichotomy f k with h | h | h
    · have e2 : f < k + 1 := by omega
      rw [if_pos h, if_pos e2, if_neg (fun h => by omega)]
    · subst h
      have e2 : f < f + 1 := by omega
      have hh := hget _ (List.getElem?_eq_getElem (by omega))
      rw [if_neg (Nat.lt_irrefl f), if_pos e2, if_pos ⟨by omega, hh⟩]
    · have e1 : ¬ f < k := by omega
      have e2 : ¬ f < k + 1 := by omega
      have hh := hnot h
      rw [if_neg e1, if_neg e2, if_neg]
      rintro ⟨_, h2⟩
      rw [hh] at h2
      cases h2
theorem findIdx_congr {s : List OpV} {p q : OpV → Bool} (h : ∀ o ∈ s, p o = q o) : s.findIdx p = s.findIdx q := by
  induction s with
  | nil => rfl
  | cons x r ih =>
    rw [List.findIdx_cons, List.findIdx_cons, h x (by simp), ih (fun o ho => h o (by simp [ho]))]
theorem firstI_eq {s : List OpV} {o : OpV} (ho : o ∈ s) : firstI s o.tx = (stampN s o.tx : Int) := by
  unfold firstI
  have : stampN s o.tx < s.length := List.findIdx_lt_length.2 ⟨o, ho, by simp⟩
  rw [firstTo_eq s _ _ (Nat.le_refl _), if_pos this]
theorem commitI_eq {s : List OpV} (h : validS s = true) {o : OpV} (ho : o ∈ s) (hk : o.kind = 2) : commitI s o.tx = (commitN s o.tx : Int) := by
  have hi := validS_end0 h ho (.inl hk)
  have hmem : (⟨o.tx, 2, 0⟩ : OpV) ∈ s := by
    have : (⟨o.tx, 2, 0⟩ : OpV) = o := by obtain ⟨t, k, i⟩ := o; simp only at hk hi; subst hk; subst hi; rfl
    rw [this]; exact ho
  unfold commitI idxI commitN
  have h1 : s.any (fun q => q == ⟨o.tx, 2, 0⟩) = true := List.any_eq_true.2 ⟨_, hmem, by simp⟩
  rw [h1, if_pos rfl]
  congr 1
  have : ∀ q ∈ s, (q == (⟨o.tx, 2, 0⟩ : OpV)) = (q.tx == o.tx && q.kind == 2) := by
    intro q hq
    rw [Bool.eq_iff_iff]
    simp only [beq_iff_eq, Bool.and_eq_true]
    constructor
    · rintro rfl; exact ⟨rfl, rfl⟩
    · rintro ⟨h1, h2⟩
      have := validS_end0 h hq (.inl h2)
      obtain ⟨t, k, i⟩ := q
      simp only at h1 h2 this
      subst h1; subst h2; subst this; rfl
  exact findIdx_congr this

/-- What a transaction writes, bit by bit. -/
theorem wTo_bit (s : List OpV) (t : Int) (x : Nat) (h : itemsOk s) (k : Nat) (hk : k ≤ s.length) : (wTo s t k).testBit x = touchB s k t 1 (x : Int) := by
  induction k with
  | zero => simp [wTo, touchB]
  | succ k ih =>
    have ih := ih (by omega)
    have e : s[k]? = some (s[k]'(by omega)) := List.getElem?_eq_getElem (by omega)
    have hst : touchB s (k + 1) t 1 x = (touchB s k t 1 x || ((s[k]'(by omega)).tx == t && (s[k]'(by omega)).kind == 1 && (s[k]'(by omega)).item == x)) := by
      unfold touchB
      rw [take_snoc e, List.any_append]; simp
    simp only [wTo, e]
    rw [hst, ← ih]
    cases hc : ((s[k]'(by omega)).tx == t && (s[k]'(by omega)).kind == 1)
    · simp
    · simp only [Bool.and_eq_true, beq_iff_eq] at hc
      have hi := h _ (List.getElem_mem (by omega)) hc.2
      simp only [if_true, Nat.testBit_or, Nat.one_shiftLeft, Nat.testBit_two_pow, Bool.true_and]
      congr 1
      rw [Bool.eq_iff_iff]
      simp only [decide_eq_true_eq, beq_iff_eq]
      omega
theorem touchB_iff {s : List OpV} {t k x : Int} : touchB s s.length t k x = true ↔ ∃ o ∈ s, o.tx = t ∧ o.kind = k ∧ o.item = x := by
  unfold touchB
  rw [List.take_length, List.any_eq_true]
  simp [and_assoc]
theorem and_ne_zero {a b : Nat} (ha : a < 8) (hb : b < 8) : ((a &&& b) != 0) = ((a.testBit 0 && b.testBit 0) || (a.testBit 1 && b.testBit 1) || (a.testBit 2 && b.testBit 2)) := by
  have : ∀ x : Fin 8, ∀ y : Fin 8, (((x : Nat) &&& (y : Nat)) != 0) = (((x : Nat).testBit 0 && (y : Nat).testBit 0) || ((x : Nat).testBit 1 && (y : Nat).testBit 1) || ((x : Nat).testBit 2 && (y : Nat).testBit 2)) := by decide
  exact this ⟨a, ha⟩ ⟨b, hb⟩
theorem meets_eq {s : List OpV} (h : itemsOk s) (t u : Int) : ((wI s u &&& wI s t) != 0) = meetsB s t u := by
  unfold wI
  rw [and_ne_zero (wTo_lt s u h _) (wTo_lt s t h _)]
  rw [wTo_bit s u 0 h _ (Nat.le_refl _), wTo_bit s u 1 h _ (Nat.le_refl _), wTo_bit s u 2 h _ (Nat.le_refl _), wTo_bit s t 0 h _ (Nat.le_refl _), wTo_bit s t 1 h _ (Nat.le_refl _), wTo_bit s t 2 h _ (Nat.le_refl _)]
  unfold meetsB
  simp only [List.any_cons, List.any_nil, Bool.or_false]
  rw [Bool.and_comm (touchB s s.length u 1 _), Bool.and_comm (touchB s s.length u 1 _), Bool.and_comm (touchB s s.length u 1 _), Bool.or_assoc]
  rfl
end Go.Proofs.Ytofcpfabjfhjoaa
