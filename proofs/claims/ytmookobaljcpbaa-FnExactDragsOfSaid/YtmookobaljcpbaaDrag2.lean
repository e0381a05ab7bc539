/-
  Who reads from one, also by way of others: rounds until nothing is found, and four rounds, are one. Plain.
-/
import Derived.Test.YtmookobaljcpbaaDrag1
import Derived.Test.YtmookobaljcpbaaAsc0
import Derived.Test.YtmookobaljcpbaaStP0
namespace Go.Proofs.Ytmookobaljcpbaa
open Go.RowKit Go.BigFrame
set_option linter.unusedVariables false

def srcN (s : List OpV) (k : Nat) (o : OpV) : Int := rfTo s k o.item k
/-- One operation, one round, m rounds: as the reference asks. -/
def dOk (s : List OpV) (D : List Int) (k : Nat) (o : OpV) : Bool := o.kind == 0 && !(D.any fun y => y == o.tx) && decide (0 ≤ srcN s k o) && D.any fun y => y == srcN s k o
def dStep (s : List OpV) (D : List Int) (k : Nat) (o : OpV) : List Int := if dOk s D k o then D ++ [o.tx] else D
def dTo (s : List OpV) (D : List Int) : Nat → List Int
  | 0 => D
  | k + 1 => match s[k]? with | some o => dStep s (dTo s D k) k o | none => dTo s D k
theorem dTo_succ {s : List OpV} {D : List Int} {k : Nat} {o : OpV} (h : s[k]? = some o) : dTo s D (k + 1) = dStep s (dTo s D k) k o := by simp only [dTo, h]
def dPass (s : List OpV) (D : List Int) : List Int := dTo s D s.length
def dIt (s : List OpV) : Nat → List Int → List Int
  | 0, D => D
  | m + 1, D => dIt s m (dPass s D)
theorem dIt_add (s : List OpV) (a b : Nat) : ∀ D, dIt s (a + b) D = dIt s b (dIt s a D) := by
  induction a with
  | zero => intro D; simp [dIt]
  | succ a ih =>
    intro D
    rw [show a + 1 + b = (a + b) + 1 by omega]
    simp only [dIt]
    exact ih _
theorem dIt_fix {s : List OpV} {D : List Int} (h : dPass s D = D) (m : Nat) : dIt s m D = D := by
  induction m with
  | zero => rfl
  | succ m ih => simp only [dIt]; rw [h]; exact ih
theorem dIt_snoc (s : List OpV) (m : Nat) (D : List Int) : dIt s (m + 1) D = dPass s (dIt s m D) := by
  rw [dIt_add s m 1]; rfl
theorem dTo_pre (s : List OpV) (D : List Int) (k : Nat) : ∃ E, dTo s D k = D ++ E := by
  induction k with
  | zero => exact ⟨[], by simp [dTo]⟩
  | succ k ih =>
    obtain ⟨E, hE⟩ := ih
    cases e : s[k]? with
    | none => exact ⟨E, by simp only [dTo, e]; exact hE⟩
    | some o =>
      rw [dTo_succ e]
      unfold dStep
      split
      · exact ⟨E ++ [o.tx], by rw [hE, List.append_assoc]⟩
      · exact ⟨E, hE⟩
theorem dTo_len (s : List OpV) (D : List Int) (k : Nat) : D.length ≤ (dTo s D k).length := by
  obtain ⟨E, hE⟩ := dTo_pre s D k
  rw [hE]; simp
theorem dTo_same {s : List OpV} {D : List Int} {k : Nat} (h : (dTo s D k).length = D.length) : dTo s D k = D := by
  obtain ⟨E, hE⟩ := dTo_pre s D k
  rw [hE] at h ⊢
  have : E = [] := List.eq_nil_of_length_eq_zero (by simpa using h)
  rw [this]; simp
/-- What has been gathered: once each, all of the schedule (or the first). -/
structure DGood (s : List OpV) (t : Int) (D : List Int) : Prop where
  nodup : D.Nodup
  mem : ∀ u ∈ D, u = t ∨ ∃ o ∈ s, o.tx = u
  head : ∃ E, D = t :: E
theorem DGood.start (s : List OpV) (t : Int) : DGood s t [t] := ⟨by simp, fun u h => .inl (by simpa using h), [], rfl⟩
theorem DGood.step {s : List OpV} {t : Int} {D : List Int} (h : DGood s t D) {k : Nat} {o : OpV} (ho : s[k]? = some o) : DGood s t (dStep s D k o) := by
  unfold dStep
  split
  · rename_i hc
    unfold dOk at hc
    simp only [Bool.and_eq_true, Bool.not_eq_true'] at hc
    obtain ⟨E, hE⟩ := h.head
    refine ⟨?_, fun u hu => ?_, E ++ [o.tx], by rw [hE]; rfl⟩
    · rw [List.nodup_append]
      refine ⟨h.nodup, by simp, ?_⟩
      intro a ha b hb e
      rw [List.mem_singleton] at hb
      subst e
      subst hb
      rw [any_eq_iff.2 ha] at hc
      cases hc.1.1.2
    · rcases List.mem_append.1 hu with hu | hu
      · exact h.mem u hu
      · rw [List.mem_singleton] at hu
        exact .inr ⟨o, List.mem_of_getElem? ho, hu.symm⟩
  · exact h
theorem DGood.to {s : List OpV} {t : Int} {D : List Int} (h : DGood s t D) (k : Nat) : DGood s t (dTo s D k) := by
  induction k with
  | zero => exact h
  | succ k ih =>
    cases e : s[k]? with
    | none => simp only [dTo, e]; exact ih
    | some o => rw [dTo_succ e]; exact ih.step e
theorem DGood.it {s : List OpV} {t : Int} (m : Nat) : ∀ {D : List Int}, DGood s t D → DGood s t (dIt s m D) := by
  induction m with
  | zero => intro D h; exact h
  | succ m ih => intro D h; exact ih (h.to _)
theorem DGood.rng {s : List OpV} {t : Int} {D : List Int} (h : DGood s t D) (hv : validS s = true) (ht : t ∈ txsOf s) : ∀ u ∈ D, 0 ≤ u ∧ u ≤ 3 := by
  intro u hu
  rcases h.mem u hu with rfl | ⟨o, ho, rfl⟩
  · obtain ⟨o, ho, e⟩ := (mem_txsOf hv).1 ht
    rw [← e]; exact validS_tx hv ho
  · exact validS_tx hv ho
theorem DGood.len {s : List OpV} {t : Int} {D : List Int} (h : DGood s t D) (hv : validS s = true) (ht : t ∈ txsOf s) : D.length ≤ 4 := by
  have := nodup_len (l1 := D) (l2 := [0, 1, 2, 3]) h.nodup (fun u hu => by
    have := h.rng hv ht u hu
    have : u = 0 ∨ u = 1 ∨ u = 2 ∨ u = 3 := by omega
    rcases this with rfl | rfl | rfl | rfl <;> simp)
  simpa using this
theorem dIt_four {s : List OpV} {t : Int} (hv : validS s = true) (ht : t ∈ txsOf s) (m : Nat) : ∀ {D : List Int}, DGood s t D → 4 ≤ D.length + m → dPass s (dIt s m D) = dIt s m D := by
  induction m with
  | zero =>
    intro D h h4
    refine dTo_same ?_
    have h1 := (h.to s.length).len hv ht
    have h2 := dTo_len s D s.length
    simp only [dIt]
    omega
  | succ m ih =>
    intro D h h4
    simp only [dIt]
    by_cases hp : (dPass s D).length = D.length
    · have e := dTo_same hp
      have e : dPass s D = D := e
      rw [e, dIt_fix e, e]
    · have h2 := dTo_len s D s.length
      refine ih (h.to _) ?_
      have : (dPass s D).length = (dTo s D s.length).length := rfl
      omega
/-- Rounds until nothing is found end where four rounds end. -/
theorem dIt_end {s : List OpV} {t : Int} (hv : validS s = true) (ht : t ∈ txsOf s) {j : Nat} (h : dPass s (dIt s j [t]) = dIt s j [t]) : dIt s j [t] = dIt s 4 [t] := by
  have h4 := dIt_four hv ht 4 (DGood.start s t) (by simp)
  rcases Nat.le_total j 4 with hj | hj
  · have := dIt_add s j (4 - j) [t]
    rw [show j + (4 - j) = 4 by omega, dIt_fix h] at this
    exact this.symm
  · have := dIt_add s 4 (j - 4) [t]
    rw [show 4 + (j - 4) = j by omega, dIt_fix h4] at this
    exact this
/-- The program does not ask whether one reads from any at all. -/
theorem dOk_prog {s : List OpV} {t : Int} {D : List Int} (h : DGood s t D) (hv : validS s = true) (ht : t ∈ txsOf s) (k : Nat) (o : OpV) :
    dOk s D k o = (o.kind == 0 && !(D.any fun y => y == o.tx) && D.any fun y => y == srcN s k o) := by
  unfold dOk
  cases hc : D.any fun y => y == srcN s k o
  · simp
  · have := (h.rng hv ht _ (any_eq_iff.1 hc)).1
    simp [this]
theorem rfTo_mem (s : List OpV) (i : Nat) (x : Int) (k : Nat) : rfTo s i x k = -1 ∨ ∃ o ∈ s, o.tx = rfTo s i x k := by
  induction k with
  | zero => exact .inl rfl
  | succ k ih =>
    cases e : s[k]? with
    | none => simp only [rfTo, e]; exact ih
    | some q =>
      rw [rfTo_succ e]
      split
      · exact .inr ⟨q, List.mem_of_getElem? e, rfl⟩
      · exact ih
/-- One who is not there drags no one. -/
theorem dIt_none {s : List OpV} {t : Int} (hv : validS s = true) (ht : t ∉ txsOf s) (m : Nat) : dIt s m [t] = [t] := by
  refine dIt_fix ?_ m
  unfold dPass
  generalize s.length = n
  induction n with
  | zero => rfl
  | succ k ih =>
    cases e : s[k]? with
    | none => simp only [dTo, e]; exact ih
    | some o =>
      rw [dTo_succ e, ih]
      unfold dStep
      rw [if_neg]
      intro hc
      unfold dOk at hc
      simp only [Bool.and_eq_true, decide_eq_true_eq] at hc
      have h1 := any_eq_iff.1 hc.2
      rw [List.mem_singleton] at h1
      rcases rfTo_mem s k o.item k with h2 | ⟨p, hp, h2⟩
      · have := hc.1.2
        unfold srcN at this
        omega
      · exact ht ((mem_txsOf hv).2 ⟨p, hp, by rw [h2]; exact h1⟩)
/-- Who is dragged, ascending. -/
def dragL (s : List OpV) (t : Int) : List Int := ascOf (dIt s 4 [t]).tail
def dragB (s : List OpV) (t : Int) : Bool := (dragL s t).all fun u => endOf s u != 2
theorem drag_filter {s : List OpV} (t : Int) : dragL s t = [(0 : Int), 1, 2, 3].filter fun u => u != t && (dIt s 4 [t]).any fun y => y == u := by
  have hg := DGood.it (s := s) (t := t) 4 (DGood.start s t)
  obtain ⟨E, hE⟩ := hg.head
  have hd := hg.nodup
  unfold dragL
  rw [hE] at hd ⊢
  rw [List.nodup_cons] at hd
  unfold ascOf
  refine List.filter_congr fun u _ => ?_
  rw [List.tail_cons, Bool.eq_iff_iff, any_eq_iff, Bool.and_eq_true, any_eq_iff, List.mem_cons]
  constructor
  · intro h
    refine ⟨?_, .inr h⟩
    rw [bne_iff_ne]
    intro e
    subst e
    exact hd.1 h
  · rintro ⟨h1, h2 | h2⟩
    · rw [bne_iff_ne] at h1
      exact absurd h2 h1
    · exact h2
theorem drag_none {s : List OpV} {t : Int} (hv : validS s = true) (ht : t ∉ txsOf s) : dragL s t = [] := by
  unfold dragL
  rw [dIt_none hv ht]; rfl
theorem drag_sort {s : List OpV} {t : Int} (hv : validS s = true) (ht : t ∈ txsOf s) {D : List Int} (h : D = dIt s 4 [t]) : (D.tail.mergeSort fun x y => decide (x ≤ y)) = dragL s t := by
  subst h
  have hg := DGood.it (s := s) (t := t) 4 (DGood.start s t)
  have hr := hg.rng hv ht
  obtain ⟨E, hE⟩ := hg.head
  have hd := hg.nodup
  unfold dragL
  rw [hE] at hd hr ⊢
  rw [List.nodup_cons] at hd
  rw [List.tail_cons]
  exact sort_asc hd.2 (fun u hu => hr u (by simp [hu]))
end Go.Proofs.Ytmookobaljcpbaa
