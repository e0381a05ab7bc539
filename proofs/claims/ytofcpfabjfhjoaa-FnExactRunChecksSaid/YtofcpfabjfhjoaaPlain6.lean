/-
  Serial schedules and the graph of versions: each edge goes with the order of commits.
-/
import Derived.Test.YtofcpfabjfhjoaaPlain5
namespace Go.Proofs.Ytofcpfabjfhjoaa
open Go.RowKit
set_option linter.unusedVariables false

theorem stampN_le {s : List OpV} {j : Nat} {o : OpV} (h : s[j]? = some o) : stampN s o.tx ≤ j := by
  rcases Nat.lt_or_ge j (stampN s o.tx) with hlt | hge
  · have := List.not_of_lt_findIdx (p := fun x : OpV => x.tx == o.tx) hlt
    rw [(List.getElem?_eq_some_iff.1 h).2] at this
    simp at this
  · exact hge
theorem commitN_le {s : List OpV} {j : Nat} {o : OpV} (h : s[j]? = some o) (hk : o.kind = 2) : commitN s o.tx ≤ j := by
  rcases Nat.lt_or_ge j (commitN s o.tx) with hlt | hge
  · have := List.not_of_lt_findIdx (p := fun x : OpV => x.tx == o.tx && x.kind == 2) hlt
    rw [(List.getElem?_eq_some_iff.1 h).2] at this
    simp [hk] at this
  · exact hge
theorem commitN_eq {s : List OpV} (h : validS s = true) {j : Nat} {o : OpV} (ho : s[j]? = some o) (hk : o.kind = 2) : commitN s o.tx = j := by
  have h1 := commitN_le ho hk
  obtain ⟨q, hq, ht, hqk⟩ := commitN_at (List.mem_of_getElem? ho) hk
  have := validS_after h hq ho (isEnd_two hqk) ht
  omega
/-- In a serial schedule: if t begins ahead of one operation of u, all of t stands ahead of all of u. -/
theorem ser_before {s : List OpV} (hs : isSer s = true) {t : Int} (ht : ∃ o ∈ s, o.tx = t) {j : Nat} {q : OpV} (hq : s[j]? = some q) (htu : t ≠ q.tx) (h : stampN s t < j) :
    stampN s t < stampN s q.tx ∧ ∀ i p, s[i]? = some p → p.tx = t → i < stampN s q.tx := by
  obtain ⟨o, ho, rfl⟩ := ht
  obtain ⟨o1, h1, e1⟩ := stampN_at ho
  obtain ⟨q1, h2, e2⟩ := stampN_at (List.mem_of_getElem? hq)
  have hlt : stampN s o.tx < stampN s q.tx := by
    rcases Nat.lt_trichotomy (stampN s o.tx) (stampN s q.tx) with a | a | a
    · exact a
    · exfalso
      rw [a, h2] at h1
      injection h1 with h1
      exact htu (by rw [← e1, ← e2, h1])
    · exfalso
      have := ser_between hs h2 hq e2 (stampN s o.tx) o1 (by omega) (by omega) h1
      exact htu (by rw [← e1, this, e2])
  refine ⟨hlt, fun i p hp hpt => ?_⟩
  rcases Nat.lt_or_ge i (stampN s q.tx) with a | a
  · exact a
  · exfalso
    have := ser_between hs h1 hp (by rw [e1, hpt]) (stampN s q.tx) q1 (by omega) a h2
    exact htu (by rw [← e1, ← this, e2])
theorem ag_edge {s : List OpV} (h : validS s = true) {t u : Nat} (hb : ((agS4 s).getD t 0).testBit u = true) : t ≠ u ∧ (t : Int) ∈ survS s ∧ (u : Int) ∈ survS s ∧ stampN s t < commitN s u := by
  obtain ⟨m1, m2⟩ := agS_mem h hb
  unfold agS4 at hb
  rw [agTo_bit (survS_rng h) (fun o ho => validS_tx3 h ho)] at hb
  obtain ⟨j, o, _, ho, ht, hg, hu, hf⟩ := hb
  unfold fT at hf
  simp only [Bool.and_eq_true, bne_iff_ne, decide_eq_true_eq] at hf
  refine ⟨fun e => hf.1.1 ?_, m1, m2, ?_⟩
  · rw [ht, e]
  · rw [← ht]; exact hf.1.2
theorem ser_edge {s : List OpV} (h : validS s = true) (hs : isSer s = true) {t u : Int} (hne : t ≠ u) (ht : t ∈ survS s) (hu : u ∈ survS s) (hlt : stampN s t < commitN s u) :
    stampN s t < stampN s u ∧ commitN s t < stampN s u ∧ commitN s t < commitN s u := by
  obtain ⟨o, ho, rfl, hk⟩ := surv_commit h ht
  obtain ⟨q, hq, rfl, hkq⟩ := surv_commit h hu
  obtain ⟨o1, h1, e1, _⟩ := commitN_at ho hk
  obtain ⟨q1, h2, e2, _⟩ := commitN_at hq hkq
  have := ser_before hs ⟨o, ho, rfl⟩ h2 (by rw [e2]; exact hne) hlt
  rw [e2] at this
  have h3 := this.2 _ _ h1 e1
  have h4 := stampN_le h2
  rw [e2] at h4
  exact ⟨this.1, h3, by omega⟩
/-- A pivot is none in a serial schedule. -/
theorem piv_ser {s : List OpV} (h : validS s = true) (hs : isSer s = true) : pivR (agS4 s) (ovS s) = none := by
  refine pivR_none fun x hx => ?_
  unfold pivX pivF
  cases h1 : ((agS4 s).getD (x / 16) 0).testBit (x / 4 % 4)
  · simp
  · obtain ⟨hne, m1, m2, hlt⟩ := ag_edge h h1
    have h3 := ser_edge (t := ((x / 16 : Nat) : Int)) (u := ((x / 4 % 4 : Nat) : Int)) h hs (fun e => hne (by omega)) m1 m2 hlt
    have : ovS s ((x / 16 : Nat) : Int) ((x / 4 % 4 : Nat) : Int) = false := by
      unfold ovS
      rw [Bool.and_eq_false_iff]
      right
      exact decide_eq_false (by omega)
    rw [this]
    simp only [Bool.and_false, Bool.false_and]

/-- The stamps: each transaction at its first operation. -/
def stTo (s : List OpV) : Nat → List Int
  | 0 => []
  | k + 1 => match s[k]? with | some o => if ((stTo s k).any fun y => y == o.tx) then stTo s k else stTo s k ++ [o.tx] | none => stTo s k
theorem stTo_succ {s : List OpV} {k : Nat} {o : OpV} (h : s[k]? = some o) : stTo s (k + 1) = if ((stTo s k).any fun y => y == o.tx) then stTo s k else stTo s k ++ [o.tx] := by simp only [stTo, h]
def stI (s : List OpV) : List Int := stTo s s.length
theorem any_eq_iff {L : List Int} {x : Int} : (L.any fun y => y == x) = true ↔ x ∈ L := by
  rw [List.any_eq_true]
  constructor
  · rintro ⟨y, hy, e⟩
    have : y = x := by simpa using e
    subst this; exact hy
  · intro h; exact ⟨x, h, by simp⟩
theorem stTo_known {s : List OpV} (k : Nat) (hk : k ≤ s.length) : (∀ t, t ∈ stTo s k ↔ ∃ j o, j < k ∧ s[j]? = some o ∧ o.tx = t) ∧ (stTo s k).Pairwise (fun a b => stampN s a < stampN s b) := by
  induction k with
  | zero => exact ⟨by simp [stTo], by simp [stTo]⟩
  | succ k ih =>
    obtain ⟨i1, i2⟩ := ih (by omega)
    have e : s[k]? = some (s[k]'(by omega)) := List.getElem?_eq_getElem (by omega)
    rw [stTo_succ e]
    generalize s[k]'(by omega) = o at *
    by_cases hm : o.tx ∈ stTo s k
    · rw [if_pos (any_eq_iff.2 hm)]
      refine ⟨fun t => ?_, i2⟩
      rw [i1]
      constructor
      · rintro ⟨j, p, hj, r⟩; exact ⟨j, p, by omega, r⟩
      · rintro ⟨j, p, hj, hp, rfl⟩
        by_cases hjk : j = k
        · subst hjk
          rw [e] at hp; injection hp with hp; subst hp
          exact (i1 _).1 hm
        · exact ⟨j, p, by omega, hp, rfl⟩
    · rw [if_neg (fun h => hm (any_eq_iff.1 h))]
      refine ⟨fun t => ?_, ?_⟩
      · rw [List.mem_append, i1, List.mem_singleton]
        constructor
        · rintro (⟨j, p, hj, r⟩ | rfl)
          · exact ⟨j, p, by omega, r⟩
          · exact ⟨k, o, by omega, e, rfl⟩
        · rintro ⟨j, p, hj, hp, rfl⟩
          by_cases hjk : j = k
          · subst hjk
            rw [e] at hp; injection hp with hp; subst hp
            exact .inr rfl
          · exact .inl ⟨j, p, by omega, hp, rfl⟩
      · rw [List.pairwise_append]
        refine ⟨i2, by simp, ?_⟩
        intro a ha b hb
        rw [List.mem_singleton] at hb
        subst hb
        obtain ⟨j, p, hj, hp, rfl⟩ := (i1 a).1 ha
        have h1 := stampN_le hp
        have h2 : k ≤ stampN s o.tx := by
          rcases Nat.lt_or_ge (stampN s o.tx) k with hlt | hge
          · exfalso
            obtain ⟨q, hq, hqt⟩ := stampN_at (List.mem_of_getElem? e)
            exact hm ((i1 _).2 ⟨_, q, hlt, hq, hqt⟩)
          · exact hge
        omega
theorem mem_stI {s : List OpV} {t : Int} : t ∈ stI s ↔ ∃ o ∈ s, o.tx = t := by
  unfold stI
  rw [(stTo_known _ (Nat.le_refl _)).1]
  constructor
  · rintro ⟨j, o, _, ho, e⟩; exact ⟨o, List.mem_of_getElem? ho, e⟩
  · rintro ⟨o, ho, e⟩
    obtain ⟨j, hj⟩ := List.mem_iff_getElem?.1 ho
    exact ⟨j, o, (List.getElem?_eq_some_iff.1 hj).1, hj, e⟩
theorem stI_sorted (s : List OpV) : (stI s).Pairwise (fun a b => stampN s a < stampN s b) := (stTo_known _ (Nat.le_refl _)).2
/-- What is left of a sorted list if two of it are kept. -/
theorem filter_one {f : Int → Nat} {u : Int} : ∀ {l : List Int}, l.Pairwise (fun a b => f a < f b) → u ∈ l → l.filter (fun x => x == u) = [u] := by
  intro l
  induction l with
  | nil => intro _ h; cases h
  | cons x r ih =>
    intro hp hu
    rw [List.pairwise_cons] at hp
    by_cases hx : x = u
    · subst hx
      rw [List.filter_cons_of_pos (by simp)]
      congr 1
      rw [List.filter_eq_nil_iff]
      intro y hy e
      have : y = x := by simpa using e
      subst this
      have := hp.1 y hy
      omega
    · rw [List.filter_cons_of_neg (by simpa using hx)]
      refine ih hp.2 ?_
      rcases List.mem_cons.1 hu with h | h
      · exact absurd h.symm hx
      · exact h
theorem filter_two {f : Int → Nat} {t u : Int} (htu : f t < f u) : ∀ {l : List Int}, l.Pairwise (fun a b => f a < f b) → t ∈ l → u ∈ l → l.filter (fun x => x == t || x == u) = [t, u] := by
  intro l
  induction l with
  | nil => intro _ h; cases h
  | cons x r ih =>
    intro hp ht hu
    rw [List.pairwise_cons] at hp
    have hne : t ≠ u := fun e => by rw [e] at htu; omega
    by_cases hx : x = t
    · subst hx
      rw [List.filter_cons_of_pos (by simp)]
      congr 1
      have hur : u ∈ r := by
        rcases List.mem_cons.1 hu with h | h
        · exact absurd h.symm hne
        · exact h
      rw [← filter_one hp.2 hur]
      refine List.filter_congr fun y hy => ?_
      have h1 := hp.1 y hy
      have : (y == x) = false := by
        rw [beq_eq_false_iff_ne]
        intro e
        rw [e] at h1; omega
      rw [this, Bool.false_or]
    · have htr : t ∈ r := by
        rcases List.mem_cons.1 ht with h | h
        · exact absurd h.symm hx
        · exact h
      have hxu : x ≠ u := fun e => by
        have := hp.1 t htr
        rw [e] at this; omega
      rw [List.filter_cons_of_neg (by simp [hx, hxu])]
      refine ih hp.2 htr ?_
      rcases List.mem_cons.1 hu with h | h
      · exact absurd h.symm hxu
      · exact h
end Go.Proofs.Ytofcpfabjfhjoaa
