/-
  The graph of versions: which bits are set, and that it goes round nowhere where all is serial.
-/
import Derived.Test.YtofcpfabjfhjoaaPlain6
namespace Go.Proofs.Ytofcpfabjfhjoaa
open Go.RowKit
set_option linter.unusedVariables false

theorem vgTo_bit {ver : Nat → OpV → Int} {L : List Int} {s : List OpV} {rows : List Nat} (h4 : Rows4 rows) (hs : ∀ o ∈ s, 0 ≤ o.tx ∧ o.tx ≤ 3) (hv : ∀ k o, s[k]? = some o → ver k o ≤ 3) {t u : Nat} (k : Nat) :
    ((vgTo ver L s rows k).getD t 0).testBit u = true ↔ (rows.getD t 0).testBit u = true ∨ ∃ j o, j < k ∧ s[j]? = some o ∧ o.kind = 0 ∧ o.tx ∈ L ∧ ver j o = t ∧ o.tx = u ∧ t ≠ u := by
  induction k with
  | zero =>
    constructor
    · intro h; exact .inl h
    · rintro (h | ⟨j, o, hj, _⟩)
      · exact h
      · omega
  | succ k ih =>
    cases he : s[k]? with
    | none =>
      have : vgTo ver L s rows (k + 1) = vgTo ver L s rows k := by simp only [vgTo, he]
      rw [this, ih]
      constructor
      · rintro (h | ⟨j, o, hj, r⟩)
        · exact .inl h
        · exact .inr ⟨j, o, by omega, r⟩
      · rintro (h | ⟨j, o, hj, ho, r⟩)
        · exact .inl h
        · refine .inr ⟨j, o, ?_, ho, r⟩
          rcases Nat.lt_or_ge j k with h | h
          · exact h
          · have : j = k := by omega
            subst this
            rw [he] at ho; cases ho
    | some o =>
      rw [vgTo_succ he]
      have ho := hs o (List.mem_of_getElem? he)
      have hvk := hv k o he
      obtain ⟨U, hU⟩ := Int.eq_ofNat_of_zero_le ho.1
      unfold vgStep
      by_cases hc : (o.kind == 0 && (L.any fun y => y == o.tx) && decide (0 ≤ ver k o) && (ver k o != o.tx)) = true
      · rw [if_pos hc]
        simp only [Bool.and_eq_true, decide_eq_true_eq, beq_iff_eq, bne_iff_ne] at hc
        obtain ⟨⟨⟨c1, c2⟩, c3⟩, c4⟩ := hc
        obtain ⟨T, hT⟩ := Int.eq_ofNat_of_zero_le c3
        rw [hT, hU]
        have hT3 : T ≤ 3 := by omega
        rw [rowSet_bit (vgTo_ok h4 hs k) hT3, Bool.or_eq_true, ih, Bool.and_eq_true, decide_eq_true_eq, decide_eq_true_eq]
        constructor
        · rintro ((h | ⟨j, q, hj, r⟩) | ⟨rfl, rfl⟩)
          · exact .inl h
          · exact .inr ⟨j, q, by omega, r⟩
          · exact .inr ⟨k, o, by omega, he, c1, any_eq_iff.1 c2, hT, hU, fun e => c4 (by rw [hT, hU, e])⟩
        · rintro (h | ⟨j, q, hj, hq, r1, r2, r3, r4, r5⟩)
          · exact .inl (.inl h)
          · by_cases hjk : j = k
            · subst hjk
              rw [he] at hq; injection hq with hq; subst hq
              right
              exact ⟨by omega, by omega⟩
            · exact .inl (.inr ⟨j, q, by omega, hq, r1, r2, r3, r4, r5⟩)
      · rw [if_neg hc, ih]
        constructor
        · rintro (h | ⟨j, q, hj, r⟩)
          · exact .inl h
          · exact .inr ⟨j, q, by omega, r⟩
        · rintro (h | ⟨j, q, hj, hq, r1, r2, r3, r4, r5⟩)
          · exact .inl h
          · by_cases hjk : j = k
            · subst hjk
              rw [he] at hq; injection hq with hq; subst hq
              exfalso
              apply hc
              simp only [Bool.and_eq_true, decide_eq_true_eq, beq_iff_eq, bne_iff_ne]
              exact ⟨⟨⟨r1, any_eq_iff.2 r2⟩, by omega⟩, by omega⟩
            · exact .inr ⟨j, q, by omega, hq, r1, r2, r3, r4, r5⟩
theorem vsOut_bit {m : Int → Int → Bool} {L : List Int} {rows : List Nat} (h4 : Rows4 rows) (hl : ∀ u ∈ L, 0 ≤ u ∧ u ≤ 3) {t u : Nat} (i : Nat) :
    ((vsOut m L rows i).getD t 0).testBit u = true ↔ (rows.getD t 0).testBit u = true ∨ ∃ j, j < i ∧ L[j]? = some (t : Int) ∧ (u : Int) ∈ L.drop (j + 1) ∧ m t u = true := by
  induction i with
  | zero =>
    constructor
    · intro h; exact .inl h
    · rintro (h | ⟨j, hj, _⟩)
      · exact h
      · omega
  | succ i ih =>
    cases he : L[i]? with
    | none =>
      have : vsOut m L rows (i + 1) = vsOut m L rows i := by simp only [vsOut, he]
      rw [this, ih]
      constructor
      · rintro (h | ⟨j, hj, r⟩)
        · exact .inl h
        · exact .inr ⟨j, by omega, r⟩
      · rintro (h | ⟨j, hj, ho, r⟩)
        · exact .inl h
        · refine .inr ⟨j, ?_, ho, r⟩
          rcases Nat.lt_or_ge j i with h | h
          · exact h
          · have : j = i := by omega
            subst this
            rw [he] at ho; cases ho
    | some x =>
      have hx := hl x (List.mem_of_getElem? he)
      obtain ⟨T, rfl⟩ := Int.eq_ofNat_of_zero_le hx.1
      rw [vsOut_succ he, agIn_bit (by omega) (fun y hy => hl y (List.mem_of_mem_drop hy)) (vsOut_ok hl h4 i), Bool.or_eq_true, ih, Bool.and_eq_true, List.any_eq_true]
      constructor
      · rintro ((h | ⟨j, hj, r⟩) | ⟨h1, y, hy, h2⟩)
        · exact .inl h
        · exact .inr ⟨j, by omega, r⟩
        · simp only [Bool.and_eq_true, beq_iff_eq] at h2
          obtain ⟨rfl, h2⟩ := h2
          have : t = T := of_decide_eq_true h1
          subst this
          exact .inr ⟨i, by omega, he, hy, h2⟩
      · rintro (h | ⟨j, hj, hq, r1, r2⟩)
        · exact .inl (.inl h)
        · by_cases hji : j = i
          · subst hji
            rw [he] at hq
            injection hq with hq
            have : T = t := by omega
            subst this
            exact .inr ⟨by simp, _, r1, by simp [r2]⟩
          · exact .inl (.inr ⟨j, by omega, hq, r1, r2⟩)

theorem sTo_sorted {s : List OpV} (h : validS s = true) (k : Nat) (hk : k ≤ s.length) : (sTo s k).Pairwise (fun a b => commitN s a < commitN s b) := by
  induction k with
  | zero => simp [sTo]
  | succ k ih =>
    have e : s[k]? = some (s[k]'(by omega)) := List.getElem?_eq_getElem (by omega)
    rw [sTo_succ e]
    generalize s[k]'(by omega) = o at *
    have hi := ih (by omega)
    unfold sStep
    split
    · rename_i hc
      simp only [Bool.and_eq_true, beq_iff_eq] at hc
      rw [List.pairwise_append]
      refine ⟨hi, by simp, ?_⟩
      intro a ha b hb
      rw [List.mem_singleton] at hb
      subst hb
      obtain ⟨j, q, hj, hq, rfl, hqk⟩ := (survTo_eq h k (by omega)).2.1 a ha
      rw [commitN_eq h hq hqk, commitN_eq h e hc.1]
      exact hj
    · exact hi
theorem surv_sorted {s : List OpV} (h : validS s = true) : (survS s).Pairwise (fun a b => commitN s a < commitN s b) := by
  have := sTo_sorted h s.length (Nat.le_refl _)
  rwa [sTo_all (Nat.le_refl _)] at this
theorem sorted_drop {f : Int → Nat} {L : List Int} (hp : L.Pairwise (fun a b => f a < f b)) {i : Nat} {t u : Int} (ht : L[i]? = some t) (hu : u ∈ L.drop (i + 1)) : f t < f u := by
  obtain ⟨j, hj⟩ := List.getElem?_of_mem hu
  rw [List.getElem?_drop] at hj
  obtain ⟨a, ha⟩ := List.getElem?_eq_some_iff.1 ht
  obtain ⟨b, hb⟩ := List.getElem?_eq_some_iff.1 hj
  have := (List.pairwise_iff_getElem.1 hp) i (i + 1 + j) a b (by omega)
  rw [ha, hb] at this
  exact this
theorem vFold_mem {p : Int → Bool} {L : List Int} : vFold p L = -1 ∨ (vFold p L ∈ L ∧ p (vFold p L) = true) := by
  unfold vFold
  suffices ∀ z : Int, (L.foldl (fun v u => if p u then u else v) z = z) ∨ (L.foldl (fun v u => if p u then u else v) z ∈ L ∧ p (L.foldl (fun v u => if p u then u else v) z) = true) from this (-1)
  induction L with
  | nil => intro z; exact .inl rfl
  | cons x r ih =>
    intro z
    rw [List.foldl_cons]
    rcases ih (if p x then x else z) with h | ⟨h1, h2⟩
    · rw [h]
      split
      · rename_i hp; exact .inr ⟨by simp, hp⟩
      · exact .inl rfl
    · exact .inr ⟨List.mem_cons_of_mem _ h1, h2⟩
theorem verS_cases (s : List OpV) (L : List Int) (k : Nat) (o : OpV) : verS s L k o = -1 ∨ verS s L k o = o.tx ∨ (verS s L k o ∈ L ∧ commitN s (verS s L k o) < stampN s o.tx ∧ touchB s s.length (verS s L k o) 1 o.item = true) := by
  unfold verS
  split
  · exact .inr (.inl rfl)
  · rcases vFold_mem (p := pS s o) (L := L) with h | ⟨h1, h2⟩
    · exact .inl h
    · refine .inr (.inr ⟨h1, ?_⟩)
      generalize vFold (pS s o) L = z at *
      unfold pS at h2
      simpa using h2
theorem verS_le {s : List OpV} (h : validS s = true) {k : Nat} {o : OpV} (ho : s[k]? = some o) : verS s (survS s) k o ≤ 3 := by
  rcases verS_cases s (survS s) k o with e | e | ⟨e, _⟩
  · omega
  · rw [e]; exact (validS_tx3 h (List.mem_of_getElem? ho)).2
  · exact (survS_rng h _ e).2
theorem agS_ok {s : List OpV} (h : validS s = true) : Rows4 (agS4 s) := by unfold agS4; exact agTo_ok (survS_rng h) _
theorem vgS_ok {s : List OpV} (h : validS s = true) : Rows4 (vgS s) := vgTo_ok (vsOut_ok (survS_rng h) (agS_ok h) _) (fun o ho => validS_tx3 h ho) _
/-- Which bits the graph has. -/
theorem vgS_bit {s : List OpV} (h : validS s = true) {t u : Nat} : ((vgS s).getD t 0).testBit u = true ↔
    ((agS4 s).getD t 0).testBit u = true ∨ (∃ j, (survS s)[j]? = some (t : Int) ∧ (u : Int) ∈ (survS s).drop (j + 1) ∧ meetsB s t u = true) ∨
    ∃ j o, s[j]? = some o ∧ o.kind = 0 ∧ o.tx ∈ survS s ∧ verS s (survS s) j o = t ∧ o.tx = u ∧ t ≠ u := by
  unfold vgS
  rw [vgTo_bit (vsOut_ok (survS_rng h) (agS_ok h) _) (fun o ho => validS_tx3 h ho) (fun k o ho => verS_le h ho), vsOut_bit (agS_ok h) (survS_rng h)]
  constructor
  · rintro ((a | ⟨j, _, a⟩) | ⟨j, o, _, ho, r⟩)
    · exact .inl a
    · exact .inr (.inl ⟨j, a⟩)
    · exact .inr (.inr ⟨j, o, ho, r⟩)
  · rintro (a | ⟨j, a1, a⟩ | ⟨j, o, ho, r⟩)
    · exact .inl (.inl a)
    · exact .inl (.inr ⟨j, (List.getElem?_eq_some_iff.1 a1).1, a1, a⟩)
    · exact .inr ⟨j, o, (List.getElem?_eq_some_iff.1 ho).1, ho, r⟩
theorem vg_edge {s : List OpV} (h : validS s = true) {t u : Nat} (hb : ((vgS s).getD t 0).testBit u = true) :
    t ≠ u ∧ (t : Int) ∈ survS s ∧ (u : Int) ∈ survS s ∧ (((agS4 s).getD t 0).testBit u = true ∨ commitN s t < commitN s u) := by
  rcases (vgS_bit h).1 hb with a | ⟨j, a1, a2, _⟩ | ⟨j, o, ho, hk, hm, hv, hu, hne⟩
  · have := ag_edge h a
    exact ⟨this.1, this.2.1, this.2.2.1, .inl a⟩
  · have hlt := sorted_drop (surv_sorted h) a1 a2
    exact ⟨fun e => by rw [e] at hlt; omega, List.mem_of_getElem? a1, List.mem_of_mem_drop a2, .inr hlt⟩
  · rcases verS_cases s (survS s) j o with e | e | ⟨e1, e2, _⟩
    · omega
    · omega
    · rw [hv] at e1 e2
      obtain ⟨q, hq, hqt, hqk⟩ := surv_commit h hm
      obtain ⟨q1, h1, e3, _⟩ := commitN_at hq hqk
      have h2 := stampN_le h1
      rw [e3] at h2
      rw [hqt] at h2
      rw [hu] at h2 e2 hm
      exact ⟨hne, e1, hm, .inr (by omega)⟩
theorem vg_ser {s : List OpV} (h : validS s = true) (hs : isSer s = true) {t u : Nat} (hb : ((vgS s).getD t 0).testBit u = true) : commitN s t < commitN s u := by
  obtain ⟨hne, m1, m2, a | a⟩ := vg_edge h hb
  · obtain ⟨_, _, _, hlt⟩ := ag_edge h a
    exact (ser_edge (t := (t : Int)) (u := (u : Int)) h hs (fun e => hne (by omega)) m1 m2 hlt).2.2
  · exact a

/-- The ways that the law's 'turns' adds. -/
def twIn (k : Nat) (rows : List Nat) : Nat → List Nat
  | 0 => rows
  | i + 1 => if ((twIn k rows i).getD i 0).testBit k then (twIn k rows i).set i ((twIn k rows i).getD i 0 ||| (twIn k rows i).getD k 0) else twIn k rows i
def twOut (rows : List Nat) : Nat → List Nat
  | 0 => rows
  | k + 1 => twIn k (twOut rows k) 4
def turnB (rows : List Nat) : Bool := (List.range 4).any fun i => ((twOut rows 4).getD i 0).testBit i
theorem or16 {a b : Nat} (ha : a < 16) (hb : b < 16) : a ||| b < 16 := Nat.or_lt_two_pow (n := 4) ha hb
theorem getD16 {rows : List Nat} (h : Rows4 rows) (i : Nat) : rows.getD i 0 < 16 := by
  rw [List.getD_eq_getElem?_getD]
  cases e : rows[i]? with
  | none => simp
  | some x => exact h.2 x (List.mem_of_getElem? e)
theorem set_ok {rows : List Nat} (h : Rows4 rows) {i v : Nat} (hv : v < 16) : Rows4 (rows.set i v) := by
  refine ⟨by rw [List.length_set]; exact h.1, fun r hr => ?_⟩
  rcases List.mem_or_eq_of_mem_set hr with h1 | h1
  · exact h.2 r h1
  · omega
theorem twIn_ok {k : Nat} {rows : List Nat} (h : Rows4 rows) (i : Nat) : Rows4 (twIn k rows i) := by
  induction i with
  | zero => exact h
  | succ i ih =>
    simp only [twIn]
    split
    · exact set_ok ih (or16 (getD16 ih _) (getD16 ih _))
    · exact ih
theorem twOut_ok {rows : List Nat} (h : Rows4 rows) (k : Nat) : Rows4 (twOut rows k) := by
  induction k with
  | zero => exact h
  | succ k ih => exact twIn_ok ih 4
theorem getD_set {rows : List Nat} {i j v : Nat} (hi : i < rows.length) : (rows.set i v).getD j 0 = if i = j then v else rows.getD j 0 := by
  rw [List.getD_eq_getElem?_getD, List.getElem?_set, List.getD_eq_getElem?_getD]
  split
  · rename_i e; subst e; first | rfl | (rw [if_pos hi]; rfl)
  · rfl
/-- A rank that grows along all ways grows along those that are added. -/
theorem twIn_rank {f : Nat → Nat} {k : Nat} {rows : List Nat} (h4 : Rows4 rows) (h : ∀ t u, (rows.getD t 0).testBit u = true → f t < f u) (i : Nat) (hi : i ≤ 4) : ∀ t u, ((twIn k rows i).getD t 0).testBit u = true → f t < f u := by
  induction i with
  | zero => exact h
  | succ i ih =>
    have hr := ih (by omega)
    simp only [twIn]
    split
    · rename_i hb
      intro t u htu
      rw [getD_set (by have := (twIn_ok (k := k) h4 i).1; omega)] at htu
      split at htu
      · rename_i e
        subst e
        rw [Nat.testBit_or, Bool.or_eq_true] at htu
        rcases htu with a | a
        · exact hr _ _ a
        · exact Nat.lt_trans (hr _ _ hb) (hr _ _ a)
      · exact hr _ _ htu
    · exact hr
theorem twOut_rank {f : Nat → Nat} {rows : List Nat} (h4 : Rows4 rows) (h : ∀ t u, (rows.getD t 0).testBit u = true → f t < f u) (k : Nat) : ∀ t u, ((twOut rows k).getD t 0).testBit u = true → f t < f u := by
  induction k with
  | zero => exact h
  | succ k ih => exact twIn_rank (twOut_ok h4 k) ih 4 (Nat.le_refl _)
theorem turnB_rank {f : Nat → Nat} {rows : List Nat} (h4 : Rows4 rows) (h : ∀ t u, (rows.getD t 0).testBit u = true → f t < f u) : turnB rows = false := by
  unfold turnB
  rw [List.any_eq_false]
  intro i _ hb
  have := twOut_rank h4 h 4 i i hb
  omega
theorem vg_turns {s : List OpV} (h : validS s = true) (hs : isSer s = true) : turnB (vgS s) = false :=
  turnB_rank (f := fun t => commitN s t) (vgS_ok h) (fun t u hb => vg_ser h hs hb)
theorem vg_sub {s : List OpV} (h : validS s = true) (t : Nat) : (agS4 s).getD t 0 &&& (vgS s).getD t 0 = (agS4 s).getD t 0 := by
  apply Nat.eq_of_testBit_eq
  intro u
  rw [Nat.testBit_and]
  cases hb : ((agS4 s).getD t 0).testBit u
  · rfl
  · rw [(vgS_bit h).2 (.inl hb)]; rfl
theorem vg_diag {s : List OpV} (h : validS s = true) (t : Nat) : ((vgS s).getD t 0).testBit t = false := by
  cases hb : ((vgS s).getD t 0).testBit t
  · rfl
  · exact absurd rfl (vg_edge h hb).1
end Go.Proofs.Ytofcpfabjfhjoaa
