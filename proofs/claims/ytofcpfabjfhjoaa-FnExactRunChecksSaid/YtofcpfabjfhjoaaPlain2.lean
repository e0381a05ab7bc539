/-
  Plain facts on survivors: the program's are the reference's, each has a commit, none comes twice, and of a serial schedule all who commit survive.
-/
import Derived.Test.YtofcpfabjfhjoaaPlain1
namespace Go.Proofs.Ytofcpfabjfhjoaa
set_option linter.unusedVariables false

/-- What is known of the survivors among the first k operations: each has its commit there. -/
def Surv (s : List OpV) (k : Nat) (out : List Int) : Prop := (∀ u ∈ out, ∃ j o, j < k ∧ s[j]? = some o ∧ o.tx = u ∧ o.kind = 2) ∧ out.Nodup

theorem findIdx_at {s : List OpV} {p : OpV → Bool} {o : OpV} (ho : o ∈ s) (hp : p o = true) : ∃ q, s[s.findIdx p]? = some q ∧ p q = true := by
  have hl : s.findIdx p < s.length := List.findIdx_lt_length.2 ⟨o, ho, hp⟩
  exact ⟨_, List.getElem?_eq_getElem hl, @List.findIdx_getElem _ p s hl⟩
theorem stampN_at {s : List OpV} {o : OpV} (ho : o ∈ s) : ∃ q, s[stampN s o.tx]? = some q ∧ q.tx = o.tx := by
  obtain ⟨q, h1, h2⟩ := findIdx_at (p := fun x : OpV => x.tx == o.tx) ho (by simp)
  exact ⟨q, h1, by simpa using h2⟩
theorem commitN_at {s : List OpV} {o : OpV} (ho : o ∈ s) (hk : o.kind = 2) : ∃ q, s[commitN s o.tx]? = some q ∧ q.tx = o.tx ∧ q.kind = 2 := by
  obtain ⟨q, h1, h2⟩ := findIdx_at (p := fun x : OpV => x.tx == o.tx && x.kind == 2) ho (by simp [hk])
  exact ⟨q, h1, by simpa using h2⟩
theorem against_eq {s : List OpV} (h : validS s = true) {k : Nat} {o : OpV} (ho : s[k]? = some o) (hk : o.kind = 2) {out : List Int} (hs : Surv s k out) {u : Int} (hu : u ∈ out) :
    agI s o.tx u = !fS s o.tx u := by
  obtain ⟨j, q, hj, hq, rfl, hqk⟩ := hs.1 u hu
  have hom := List.mem_of_getElem? ho
  have hqm := List.mem_of_getElem? hq
  have hi := validS_items h
  unfold agI fS
  rw [meets_eq hi, firstI_eq hom, commitI_eq h hqm hqk]
  have hne : commitN s q.tx ≠ stampN s o.tx := by
    intro e
    obtain ⟨p, h1, h1', _⟩ := commitN_at hqm hqk
    obtain ⟨p', h2, h2'⟩ := stampN_at hom
    rw [e, h2] at h1
    injection h1 with h1
    subst h1
    have := validS_after h hq ho (isEnd_two hqk) (h1'.symm.trans h2')
    omega
  cases hm : meetsB s o.tx q.tx
  · simp
  · simp only [Bool.and_true, Bool.not_true, Bool.or_false]
    rw [Bool.eq_iff_iff]
    simp
    omega
theorem surv_step {s : List OpV} (h : validS s = true) {k : Nat} {o : OpV} (ho : s[k]? = some o) {out : List Int} (hs : Surv s k out) :
    survStep s out o = sStep s out o ∧ Surv s (k + 1) (sStep s out o) := by
  have hw : Surv s (k + 1) out := ⟨fun u hu => by obtain ⟨j, q, hj, r⟩ := hs.1 u hu; exact ⟨j, q, by omega, r⟩, hs.2⟩
  unfold survStep sStep
  by_cases hk : o.kind = 2
  · have e : out.any (agI s o.tx) = !out.all (fS s o.tx) := by
      rw [List.not_all_eq_any_not]
      rw [Bool.eq_iff_iff, List.any_eq_true, List.any_eq_true]
      constructor
      · rintro ⟨u, hu, hx⟩; exact ⟨u, hu, by rw [← against_eq h ho hk hs hu]; exact hx⟩
      · rintro ⟨u, hu, hx⟩; exact ⟨u, hu, by rw [against_eq h ho hk hs hu]; exact hx⟩
    rw [e, Bool.not_not]
    refine ⟨rfl, ?_⟩
    split
    · refine ⟨?_, ?_⟩
      · intro u hu
        simp only [List.mem_append, List.mem_singleton] at hu
        rcases hu with hu | rfl
        · exact hw.1 u hu
        · exact ⟨k, o, by omega, ho, rfl, hk⟩
      · rw [List.nodup_append]
        refine ⟨hs.2, by simp, ?_⟩
        intro a ha b hb
        simp only [List.mem_singleton] at hb
        subst hb
        rintro rfl
        obtain ⟨j, q, hj, hq, hqt, hqk⟩ := hs.1 _ ha
        have := validS_after h hq ho (isEnd_two hqk) hqt
        omega
    · exact hw
  · have hk' : (o.kind == 2) = false := by simpa using hk
    rw [hk']
    exact ⟨rfl, hw⟩
theorem survTo_eq {s : List OpV} (h : validS s = true) (k : Nat) (hk : k ≤ s.length) : survTo s k = sTo s k ∧ Surv s k (sTo s k) := by
  induction k with
  | zero => exact ⟨rfl, by unfold Surv sTo; simp⟩
  | succ k ih =>
    obtain ⟨ih1, ih2⟩ := ih (by omega)
    have e : s[k]? = some (s[k]'(by omega)) := List.getElem?_eq_getElem (by omega)
    rw [survTo_succ e, sTo_succ e, ih1]
    exact surv_step h e ih2
theorem surv_eq {s : List OpV} (h : validS s = true) : survI s = survS s := by
  rw [← survTo_all (Nat.le_refl _), ← sTo_all (Nat.le_refl _)]
  exact (survTo_eq h _ (Nat.le_refl _)).1
theorem surv_known {s : List OpV} (h : validS s = true) : Surv s s.length (survS s) := by
  rw [← sTo_all (Nat.le_refl _)]
  exact (survTo_eq h _ (Nat.le_refl _)).2
theorem surv_commit {s : List OpV} (h : validS s = true) {u : Int} (hu : u ∈ survS s) : ∃ o ∈ s, o.tx = u ∧ o.kind = 2 := by
  obtain ⟨j, o, _, ho, h1, h2⟩ := (surv_known h).1 u hu
  exact ⟨o, List.mem_of_getElem? ho, h1, h2⟩
theorem surv_end {s : List OpV} (h : validS s = true) {u : Int} (hu : u ∈ survS s) : endOf s u = 2 := (endOf_two_iff h u).2 (surv_commit h hu)

/-! ### serial schedules -/

theorem ser_at {s : List OpV} (h : isSer s = true) {k : Nat} {o : OpV} (ho : s[k]? = some o) (hk : 0 < k) {q : OpV} (hq : s[k - 1]? = some q) (hne : q.tx ≠ o.tx) : ∀ j p, j < k → s[j]? = some p → p.tx ≠ o.tx := by
  intro j p hj hp ht
  unfold isSer at h
  rw [List.all_eq_true] at h
  have hl : k < s.length := (List.getElem?_eq_some_iff.1 ho).1
  have := h k (List.mem_range.2 hl)
  have hb : serBad s k = true := by
    unfold serBad
    rw [ho, hq]
    simp only [Bool.and_eq_true, bne_iff_ne]
    refine ⟨fun e => hne e.symm, ?_⟩
    unfold hasTx
    exact List.any_eq_true.2 ⟨p, List.mem_of_getElem? (i := j) (by rw [List.getElem?_take, if_pos hj]; exact hp), by simpa using ht⟩
  rw [hb] at this
  simp at this
  omega
/-- Between two operations of one transaction stand operations of this one alone. -/
theorem ser_between {s : List OpV} (h : isSer s = true) {i j : Nat} {a b : OpV} (hi : s[i]? = some a) (hj : s[j]? = some b) (ht : a.tx = b.tx) : ∀ k c, i ≤ k → k ≤ j → s[k]? = some c → c.tx = a.tx := by
  have key : ∀ d k c, k + d = j → i ≤ k → s[k]? = some c → c.tx = a.tx := by
    intro d
    induction d with
    | zero =>
      intro k c hk _ hc
      obtain rfl : k = j := by omega
      rw [hj] at hc; injection hc with hc; rw [← hc, ht]
    | succ d ih =>
      intro k c hk hik hc
      have hjl : j < s.length := (List.getElem?_eq_some_iff.1 hj).1
      have e : s[k + 1]? = some (s[k + 1]'(by omega)) := List.getElem?_eq_getElem (by omega)
      have h1 := ih (k + 1) _ (by omega) (by omega) e
      by_cases hne : c.tx = (s[k + 1]'(by omega)).tx
      · rw [hne, h1]
      · exfalso
        exact ser_at h e (by omega) (q := c) hc hne i a (by omega) hi h1.symm
  intro k c h1 h2 hc
  exact key (j - k) k c (by omega) h1 hc
theorem ser_surv {s : List OpV} (h : validS s = true) (hs : isSer s = true) (k : Nat) (hk : k ≤ s.length) : ∀ j o, j < k → s[j]? = some o → o.kind = 2 → o.tx ∈ sTo s k := by
  induction k with
  | zero => intro j o hj; omega
  | succ k ih =>
    intro j o hj ho h2
    have e : s[k]? = some (s[k]'(by omega)) := List.getElem?_eq_getElem (by omega)
    have hold : ∀ x ∈ sTo s k, x ∈ sTo s (k + 1) := by
      intro x hx
      rw [sTo_succ e]
      unfold sStep
      split
      · simp [hx]
      · exact hx
    by_cases hjk : j = k
    · subst hjk
      rw [sTo_succ ho]
      unfold sStep
      have hall : (sTo s j).all (fS s o.tx) = true := by
        rw [List.all_eq_true]
        intro u hu
        obtain ⟨i, q, hi, hq, rfl, hqk⟩ := (survTo_eq h j (by omega)).2.1 u hu
        unfold fS
        have hom := List.mem_of_getElem? ho
        have hqm := List.mem_of_getElem? hq
        have hlt : commitN s q.tx < stampN s o.tx := by
          have hne : q.tx ≠ o.tx := fun e => by
            have := validS_after h hq ho (isEnd_two hqk) e
            omega
          have hc : commitN s q.tx ≤ i := by
            rcases Nat.lt_or_ge i (commitN s q.tx) with hlt | hge
            · have hil : i < s.length := (List.getElem?_eq_some_iff.1 hq).1
              have := List.not_of_lt_findIdx (p := fun x : OpV => x.tx == q.tx && x.kind == 2) hlt
              rw [(List.getElem?_eq_some_iff.1 hq).2] at this
              simp [hqk] at this
            · exact hge
          have hst : stampN s o.tx < s.length := List.findIdx_lt_length.2 ⟨o, hom, by simp⟩
          have hsg := @List.findIdx_getElem _ (fun x : OpV => x.tx == o.tx) s hst
          simp only [beq_iff_eq] at hsg
          rcases Nat.lt_or_ge i (stampN s o.tx) with hlt | hge
          · omega
          · exfalso
            have := ser_between hs (List.getElem?_eq_getElem hst) ho hsg i q hge (by omega) hq
            exact hne (this.trans hsg)
        simp [hlt]
      have : (o.kind == 2) = true := by simpa using h2
      rw [this, hall]
      simp
    · exact hold _ (ih (by omega) j o (by omega) ho h2)
theorem ser_all {s : List OpV} (h : validS s = true) (hs : isSer s = true) : (survS s).length = (txsOf (committed s)).length := by
  refine List.Perm.length_eq ((List.perm_ext_iff_of_nodup (surv_known h).2 (nodup_txsOf _)).2 fun t => ?_)
  rw [mem_txs_committed h]
  constructor
  · intro ht; exact surv_end h ht
  · intro ht
    obtain ⟨o, ho, rfl, hk⟩ := endOf_two ht
    obtain ⟨j, hj⟩ := List.mem_iff_getElem?.1 ho
    have := ser_surv h hs s.length (Nat.le_refl _) j o (List.getElem?_eq_some_iff.1 hj).1 hj hk
    rwa [sTo_all (Nat.le_refl _)] at this
end Go.Proofs.Ytofcpfabjfhjoaa
