/-
  Where all is serial and committed, versions are what is read.
-/
import Derived.Test.YtofcpfabjfhjoaaPlain7
import Derived.Test.YtofcpfabjfhjoaaVer2
namespace Go.Proofs.Ytofcpfabjfhjoaa
open Go.RowKit
set_option linter.unusedVariables false

/-- From whom a read of item x at place i reads, as far as the places below k go. -/
def rfB (s : List OpV) (i : Nat) (x : Int) (q : OpV) : Bool := q.kind == 1 && q.item == x && endOf (s.take i) q.tx != 3
def rfTo (s : List OpV) (i : Nat) (x : Int) : Nat → Int
  | 0 => -1
  | k + 1 => match s[k]? with | some q => if rfB s i x q then q.tx else rfTo s i x k | none => rfTo s i x k
theorem rfTo_succ {s : List OpV} {i : Nat} {x : Int} {k : Nat} {q : OpV} (h : s[k]? = some q) : rfTo s i x (k + 1) = if rfB s i x q then q.tx else rfTo s i x k := by simp only [rfTo, h]
def readsI (s : List OpV) : List Int := versTo (fun k o => rfTo s k o.item k) s s.length
theorem versTo_congr0 {f g : Nat → OpV → Int} {s : List OpV} (h : ∀ k o, s[k]? = some o → o.kind = 0 → f k o = g k o) (k : Nat) : versTo f s k = versTo g s k := by
  induction k with
  | zero => rfl
  | succ k ih =>
    simp only [versTo]
    cases e : s[k]? with
    | none => simp only [ih]
    | some o =>
      simp only [ih]
      cases hk : (o.kind == 0)
      · rfl
      · rw [if_pos rfl, if_pos rfl, h k o e (by simpa using hk)]
/-- What the first operations tell is a beginning of what all tell. -/
theorem versTo_prefix (f : Nat → OpV → Int) (s : List OpV) {k n : Nat} (h : k ≤ n) : ∃ r, versTo f s n = versTo f s k ++ r := by
  obtain ⟨d, rfl⟩ := Nat.le.dest h
  clear h
  induction d with
  | zero => exact ⟨[], by simp⟩
  | succ d ih =>
    obtain ⟨r, hr⟩ := ih
    have : k + (d + 1) = (k + d) + 1 := by omega
    rw [this]
    simp only [versTo]
    cases e : s[k + d]? with
    | none => exact ⟨r, hr⟩
    | some o =>
      simp only
      split
      · exact ⟨r ++ [f (k + d) o], by rw [hr, List.append_assoc]⟩
      · exact ⟨r, hr⟩
theorem versTo_at {f : Nat → OpV → Int} {s : List OpV} {k : Nat} {o : OpV} (h : s[k]? = some o) (hk : o.kind = 0) {n : Nat} (hn : k < n) : (versTo f s n)[(versTo f s k).length]? = some (f k o) := by
  obtain ⟨r, hr⟩ := versTo_prefix f s (k := k + 1) (n := n) hn
  rw [hr, versTo_succ h, if_pos (by simpa using hk), List.append_assoc, List.getElem?_append_right (Nat.le_refl _), Nat.sub_self]
  rfl
theorem vFold_none {p : Int → Bool} {L : List Int} (h : ∀ u ∈ L, p u = false) : vFold p L = -1 := by
  unfold vFold
  generalize (-1 : Int) = z
  induction L generalizing z with
  | nil => rfl
  | cons x r ih =>
    rw [List.foldl_cons, h x (by simp)]
    exact ih (fun u hu => h u (by simp [hu])) _
theorem vFold_last {p : Int → Bool} {f : Int → Nat} {L : List Int} (hp : L.Pairwise (fun a b => f a < f b)) {u : Int} (hu : u ∈ L) (h : p u = true) (hl : ∀ v ∈ L, p v = true → f v ≤ f u) : vFold p L = u := by
  unfold vFold
  generalize (-1 : Int) = z
  induction L generalizing z with
  | nil => cases hu
  | cons x r ih =>
    rw [List.foldl_cons]
    rw [List.pairwise_cons] at hp
    by_cases hm : u ∈ r
    · exact ih hp.2 hm (fun v hv => hl v (by simp [hv])) _
    · have hx : u = x := by
        rcases List.mem_cons.1 hu with h | h
        · exact h
        · exact absurd h hm
      subst hx
      rw [h, if_pos rfl]
      have hno : ∀ v ∈ r, p v = false := by
        intro v hv
        cases e : p v
        · rfl
        · have h1 := hl v (by simp [hv]) e
          have h2 := hp.1 v hv
          omega
      clear ih hl hp
      generalize u = z at *
      clear hm hu h
      induction r with
      | nil => rfl
      | cons y r ih => rw [List.foldl_cons, hno y (by simp)]; exact ih (fun v hv => hno v (by simp [hv]))

/-- The greatest place below k that has a property, if any. -/
theorem rfTo_cases (s : List OpV) (i : Nat) (x : Int) (k : Nat) (hk : k ≤ s.length) : (rfTo s i x k = -1 ∧ ∀ j q, j < k → s[j]? = some q → rfB s i x q = false) ∨
    ∃ j q, j < k ∧ s[j]? = some q ∧ rfB s i x q = true ∧ rfTo s i x k = q.tx ∧ ∀ j' q', j < j' → j' < k → s[j']? = some q' → rfB s i x q' = false := by
  induction k with
  | zero => exact .inl ⟨rfl, by omega⟩
  | succ k ih =>
    have e : s[k]? = some (s[k]'(by omega)) := List.getElem?_eq_getElem (by omega)
    rw [rfTo_succ e]
    generalize s[k]'(by omega) = q at *
    cases hb : rfB s i x q
    · rw [if_neg (by simp)]
      rcases ih (by omega) with ⟨h1, h2⟩ | ⟨j, p, h1, h2, h3, h4, h5⟩
      · refine .inl ⟨h1, fun j p hj hp => ?_⟩
        by_cases hjk : j = k
        · subst hjk; rw [e] at hp; injection hp with hp; subst hp; exact hb
        · exact h2 j p (by omega) hp
      · refine .inr ⟨j, p, by omega, h2, h3, h4, fun j' q' a b c => ?_⟩
        by_cases hjk : j' = k
        · subst hjk; rw [e] at c; injection c with c; subst c; exact hb
        · exact h5 j' q' a (by omega) c
    · rw [if_pos rfl]
      exact .inr ⟨k, q, by omega, e, hb, rfl, fun j' q' a b c => by omega⟩

theorem committed_self {s : List OpV} (h : committed s = s) {o : OpV} (ho : o ∈ s) : endOf s o.tx = 2 := by
  rw [← h] at ho
  exact (mem_committed.1 ho).2
theorem no_abort {s : List OpV} (h : validS s = true) (hc : committed s = s) {o : OpV} (ho : o ∈ s) : o.kind ≠ 3 := by
  intro hk
  obtain ⟨q, hq, ht, hqk⟩ := endOf_two (committed_self hc ho)
  obtain ⟨i, hi⟩ := List.mem_iff_getElem?.1 ho
  obtain ⟨j, hj⟩ := List.mem_iff_getElem?.1 hq
  have h1 := validS_after h hi hj (by simp [isEnd, hk]) ht.symm
  have h2 := validS_after h hj hi (by simp [isEnd, hqk]) ht
  have : i = j := by omega
  subst this
  rw [hi] at hj; injection hj with hj; subst hj; omega
theorem endOf_take_ne {s : List OpV} (h : validS s = true) (hc : committed s = s) (i : Nat) (t : Int) : (endOf (s.take i) t != 3) = true := by
  rw [bne_iff_ne]
  unfold endOf
  cases e : (s.take i).find? (fun o => o.tx == t && isEnd o) with
  | none => simp
  | some o =>
    have hm := List.mem_of_mem_take (List.mem_of_find?_eq_some e)
    simp only [Option.map_some, Option.getD_some]
    exact no_abort h hc hm
theorem ver_reads {s : List OpV} (h : validS s = true) (hs : isSer s = true) (hc : committed s = s) {k : Nat} {o : OpV} (ho : s[k]? = some o) : verS s (survS s) k o = rfTo s k o.item k := by
  have hkl : k ≤ s.length := by have := (List.getElem?_eq_some_iff.1 ho).1; omega
  have hB : ∀ q, rfB s k o.item q = true ↔ q.kind = 1 ∧ q.item = o.item := by
    intro q
    unfold rfB
    rw [endOf_take_ne h hc, Bool.and_true, Bool.and_eq_true, beq_iff_eq, beq_iff_eq]
  have htouch : ∀ t n, touchB s n t 1 o.item = true ↔ ∃ j q, j < n ∧ s[j]? = some q ∧ q.tx = t ∧ q.kind = 1 ∧ q.item = o.item := by
    intro t n
    unfold touchB
    rw [List.any_eq_true]
    constructor
    · rintro ⟨q, hq, e⟩
      simp only [Bool.and_eq_true, beq_iff_eq] at e
      obtain ⟨j, hj⟩ := List.mem_iff_getElem?.1 hq
      rw [List.getElem?_take] at hj
      split at hj
      · exact ⟨j, q, by assumption, hj, e.1.1, e.1.2, e.2⟩
      · cases hj
    · rintro ⟨j, q, hj, hq, e1, e2, e3⟩
      exact ⟨q, List.mem_of_getElem? (i := j) (by rw [List.getElem?_take, if_pos hj]; exact hq), by simp [e1, e2, e3]⟩
  have hsurv : ∀ q ∈ s, q.tx ∈ survS s := by
    intro q hq
    obtain ⟨p, hp, ht, hpk⟩ := endOf_two (committed_self hc hq)
    obtain ⟨j, hj⟩ := List.mem_iff_getElem?.1 hp
    have := ser_surv h hs s.length (Nat.le_refl _) j p (List.getElem?_eq_some_iff.1 hj).1 hj hpk
    rw [sTo_all (Nat.le_refl _)] at this
    rwa [ht] at this
  have hcom : ∀ u ∈ survS s, ∃ p, s[commitN s u]? = some p ∧ p.tx = u := by
    intro u hu
    obtain ⟨p, hp, rfl, hpk⟩ := surv_commit h hu
    obtain ⟨q, hq, e, _⟩ := commitN_at hp hpk
    exact ⟨q, hq, e⟩
  have hst : s[stampN s o.tx]? ≠ none := by
    obtain ⟨q, hq, _⟩ := stampN_at (List.mem_of_getElem? ho)
    rw [hq]; simp
  have hstk := stampN_le ho
  unfold verS
  rcases rfTo_cases s k o.item k hkl with ⟨h1, h2⟩ | ⟨j, q, hj, hq, hb, hr, hlast⟩
  · rw [h1]
    have hno : ¬ touchB s k o.tx 1 o.item = true := by
      rw [htouch]
      rintro ⟨j, q, hj, hq, e1, e2, e3⟩
      have := h2 j q hj hq
      rw [(hB q).2 ⟨e2, e3⟩] at this; cases this
    rw [if_neg hno]
    refine vFold_none fun u hu => ?_
    cases hp : pS s o u
    · rfl
    · exfalso
      unfold pS at hp
      simp only [Bool.and_eq_true, decide_eq_true_eq] at hp
      obtain ⟨j, q, hj, hq, e1, e2, e3⟩ := (htouch u _).1 hp.2
      obtain ⟨p, hpc, hpt⟩ := hcom u hu
      have hjs : j < stampN s o.tx := by
        rcases Nat.lt_or_ge j (stampN s o.tx) with a | a
        · exact a
        · exfalso
          obtain ⟨z, hz, hzt⟩ := stampN_at (List.mem_of_getElem? ho)
          have hb := ser_between hs hpc hq (by rw [hpt, e1]) (stampN s o.tx) z (by omega) a hz
          have hux : u = o.tx := by rw [← hpt, ← hb, hzt]
          rw [hux] at hp
          have := stampN_le (j := commitN s o.tx) (o := p) (by rw [← hux]; exact hpc)
          rw [hpt, hux] at this
          omega
      have := h2 j q (by omega) hq
      rw [(hB q).2 ⟨e2, e3⟩] at this; cases this
  · rw [hr]
    obtain ⟨hqk, hqi⟩ := (hB q).1 hb
    by_cases hown : touchB s k o.tx 1 o.item = true
    · rw [if_pos hown]
      obtain ⟨j', q', hj', hq', e1, e2, e3⟩ := (htouch _ _).1 hown
      have hle : j' ≤ j := by
        rcases Nat.lt_or_ge j j' with a | a
        · have := hlast j' q' a hj' hq'
          rw [(hB q').2 ⟨e2, e3⟩] at this; cases this
        · exact a
      have := ser_between hs hq' ho e1 j q hle (by omega) hq
      rw [this, e1]
    · rw [if_neg hown]
      have hne : q.tx ≠ o.tx := fun e => hown ((htouch _ _).2 ⟨j, q, hj, hq, e, hqk, hqi⟩)
      have hqm := List.mem_of_getElem? hq
      have hus := hsurv q hqm
      have hbef := ser_before hs (t := q.tx) ⟨q, hqm, rfl⟩ ho hne (by have := stampN_le hq; omega)
      obtain ⟨pc, hpc, hpt⟩ := hcom _ hus
      have hclt := hbef.2 _ _ hpc hpt
      refine vFold_last (surv_sorted h) hus ?_ ?_
      · unfold pS
        rw [Bool.and_eq_true, decide_eq_true_eq]
        exact ⟨hclt, (htouch _ _).2 ⟨j, q, (List.getElem?_eq_some_iff.1 hq).1, hq, rfl, hqk, hqi⟩⟩
      · intro v hv hp
        unfold pS at hp
        simp only [Bool.and_eq_true, decide_eq_true_eq] at hp
        obtain ⟨j2, q2, hj2, hq2, f1, f2, f3⟩ := (htouch v _).1 hp.2
        rcases Nat.lt_or_ge (commitN s q.tx) (commitN s v) with a | a
        · exfalso
          obtain ⟨pv, hpv, hpvt⟩ := hcom v hv
          have hqv : q.tx ≠ v := fun e => by rw [e] at a; omega
          have hb2 := ser_before hs (t := q.tx) ⟨q, hqm, rfl⟩ hpv (by rw [hpvt]; exact hqv) (by
            have := stampN_le hpc
            rw [hpt] at this
            omega)
          rw [hpvt] at hb2
          have g1 := hb2.2 j q hq rfl
          have g2 := stampN_le hq2
          rw [f1] at g2
          -- all of v stands ahead of o
          have hvo : v ≠ o.tx := fun e => by
            have := stampN_le hpv
            rw [hpvt, e] at this
            rw [e] at hp
            omega
          have hv1 : stampN s v < k := by
            have := stampN_le hpv
            rw [hpvt] at this
            omega
          have hb3 := ser_before hs (t := v) ⟨q2, List.mem_of_getElem? hq2, f1⟩ ho hvo hv1
          have g3 := hb3.2 j2 q2 hq2 f1
          have := hlast j2 q2 (by omega) (by omega) hq2
          rw [(hB q2).2 ⟨f2, f3⟩] at this; cases this
        · exact a
theorem vers_reads {s : List OpV} (h : validS s = true) (hs : isSer s = true) (hc : committed s = s) : versS s = readsI s :=
  versTo_congr0 (fun k o ho _ => ver_reads h hs hc ho) _
end Go.Proofs.Ytofcpfabjfhjoaa
