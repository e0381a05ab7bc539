/-
  Plain facts on pivots: the program's are the reference's.
-/
import Derived.Test.YtofcpfabjfhjoaaPiv2
namespace Go.Proofs.Ytofcpfabjfhjoaa
set_option linter.unusedVariables false

theorem rowSet_bit {rows : List Nat} (h : Rows4 rows) {T U t u : Nat} (hT : T ≤ 3) : ((rowSet rows T U).getD t 0).testBit u = ((rows.getD t 0).testBit u || (decide (t = T) && decide (u = U))) := by
  unfold rowSet
  simp only [Int.toNat_natCast]
  rw [List.getD_eq_getElem?_getD, List.getElem?_set]
  by_cases e : T = t
  · subst e
    have hl : T < rows.length := by rw [h.1]; omega
    rw [if_pos rfl, if_pos hl]
    simp only [Option.getD_some, Nat.testBit_or, Nat.one_shiftLeft, Nat.testBit_two_pow, decide_true, Bool.true_and]
    congr 1
    exact decide_eq_decide.2 ⟨fun h => h.symm, fun h => h.symm⟩
  · rw [if_neg e, List.getD_eq_getElem?_getD]
    have : ¬ t = T := fun h => e h.symm
    simp [this]
theorem agIn_bit {f : Int → Bool} {T : Nat} (hT : T ≤ 3) {list : List Int} (hl : ∀ u ∈ list, 0 ≤ u ∧ u ≤ 3) {t u : Nat} : ∀ {rows : List Nat}, Rows4 rows → ((agIn f T list rows).getD t 0).testBit u = ((rows.getD t 0).testBit u || (decide (t = T) && (list.any fun x => x == (u : Int) && f x))) := by
  induction list with
  | nil => intro rows h; simp [agIn]
  | cons x r ih =>
    intro rows h
    have hx := hl x (by simp)
    obtain ⟨X, rfl⟩ := Int.eq_ofNat_of_zero_le hx.1
    have e : agIn f T (↑X :: r) rows = agIn f T r (if f X then rowSet rows T X else rows) := rfl
    rw [e]
    cases hf : f X
    · rw [if_neg (by simp), ih (fun u hu => hl u (by simp [hu])) h]
      simp [hf]
    · rw [if_pos rfl, ih (fun u hu => hl u (by simp [hu])) (rowSet_ok h hx), rowSet_bit h hT]
      simp only [List.any_cons, hf, Bool.and_true]
      have : ((X : Int) == (u : Int)) = decide (u = X) := by
        rw [Bool.eq_iff_iff]; simp; omega
      rw [this]
      cases (rows.getD t 0).testBit u <;> cases decide (t = T) <;> cases decide (u = X) <;> simp
/-- Why a bit is set. -/
theorem agTo_bit {g : Nat → OpV → Bool} {f : OpV → Int → Bool} {list : List Int} {s : List OpV} (hl : ∀ u ∈ list, 0 ≤ u ∧ u ≤ 3) (hs : ∀ o ∈ s, 0 ≤ o.tx ∧ o.tx ≤ 3) {t u : Nat} (k : Nat) :
    ((agTo g f list s k).getD t 0).testBit u = true ↔ ∃ j o, j < k ∧ s[j]? = some o ∧ o.tx = t ∧ g j o = true ∧ (u : Int) ∈ list ∧ f o u = true := by
  induction k with
  | zero =>
    constructor
    · intro h
      exfalso
      have : (agTo g f list s 0).getD t 0 = 0 := by
        rcases t with _ | _ | _ | _ | t <;> rfl
      rw [this] at h
      simp at h
    · rintro ⟨j, o, hj, _⟩; omega
  | succ k ih =>
    cases he : s[k]? with
    | none =>
      have : agTo g f list s (k + 1) = agTo g f list s k := by simp only [agTo, he]
      rw [this, ih]
      constructor
      · rintro ⟨j, o, hj, r⟩; exact ⟨j, o, by omega, r⟩
      · rintro ⟨j, o, hj, ho, r⟩
        refine ⟨j, o, ?_, ho, r⟩
        rcases Nat.lt_or_ge j k with h | h
        · exact h
        · have : j = k := by omega
          subst this
          rw [he] at ho; cases ho
    | some o =>
      rw [agTo_succ he]
      have ho := hs o (List.mem_of_getElem? he)
      obtain ⟨t', kd, x⟩ := o
      obtain ⟨T, rfl⟩ := Int.eq_ofNat_of_zero_le ho.1
      simp only at ho
      cases hg : g k ⟨T, kd, x⟩
      · rw [if_neg (by simp), ih]
        constructor
        · rintro ⟨j, q, hj, r⟩; exact ⟨j, q, by omega, r⟩
        · rintro ⟨j, q, hj, hq, h1, h2, r⟩
          refine ⟨j, q, ?_, hq, h1, h2, r⟩
          rcases Nat.lt_or_ge j k with h | h
          · exact h
          · have : j = k := by omega
            subst this
            rw [he] at hq
            injection hq with hq
            subst hq
            rw [hg] at h2; cases h2
      · rw [if_pos rfl, agIn_bit (by omega) hl (agTo_ok hl k), Bool.or_eq_true, ih, Bool.and_eq_true, List.any_eq_true]
        constructor
        · rintro (⟨j, q, hj, r⟩ | ⟨h1, y, hy, h2⟩)
          · exact ⟨j, q, by omega, r⟩
          · simp only [Bool.and_eq_true, beq_iff_eq] at h2
            obtain ⟨rfl, h2⟩ := h2
            exact ⟨k, _, by omega, he, congrArg Int.ofNat (of_decide_eq_true h1).symm, hg, hy, h2⟩
        · rintro ⟨j, q, hj, hq, h1, h2, h3, h4⟩
          rcases Nat.lt_or_ge j k with h | h
          · exact .inl ⟨j, q, h, hq, h1, h2, h3, h4⟩
          · have : j = k := by omega
            subst this
            rw [he] at hq
            injection hq with hq
            subst hq
            simp only at h1
            exact .inr ⟨decide_eq_true (by omega), _, h3, by simp [h4]⟩
theorem ov_eq {s : List OpV} (h : validS s = true) {t u : Int} (ht : t ∈ survS s) (hu : u ∈ survS s) : ovI s t u = ovS s t u := by
  obtain ⟨o, ho, rfl, hk⟩ := surv_commit h ht
  obtain ⟨q, hq, rfl, hk'⟩ := surv_commit h hu
  unfold ovI ovS
  rw [firstI_eq ho, firstI_eq hq, commitI_eq h ho hk, commitI_eq h hq hk']
  congr 1
  · exact decide_eq_decide.2 (by omega)
  · exact decide_eq_decide.2 (by omega)
theorem any_mem {L : List Int} {x : Int} (h : (L.any fun y => y == x) = true) : x ∈ L := by
  rw [List.any_eq_true] at h
  obtain ⟨y, hy, e⟩ := h
  have : y = x := by simpa using e
  subst this; exact hy
/-- A bit tells of two survivors. -/
theorem agS_mem {s : List OpV} (h : validS s = true) {t u : Nat} (hb : ((agS4 s).getD t 0).testBit u = true) : (t : Int) ∈ survS s ∧ (u : Int) ∈ survS s := by
  unfold agS4 at hb
  rw [agTo_bit (survS_rng h) (fun o ho => validS_tx3 h ho)] at hb
  obtain ⟨j, o, _, ho, ht, hg, hu, _⟩ := hb
  unfold gS at hg
  rw [ht] at hg
  simp only [Bool.and_eq_true] at hg
  exact ⟨any_mem hg.1.2, hu⟩
theorem piv_eq {s : List OpV} (h : validS s = true) : pivR (agI4 s) (ovI s) = pivR (agS4 s) (ovS s) := by
  rw [ag_eq h]
  unfold pivR
  congr 1
  funext x
  unfold pivX pivF
  cases h1 : ((agS4 s).getD (x / 16) 0).testBit (x / 4 % 4)
  · simp
  · cases h2 : ((agS4 s).getD (x / 4 % 4) 0).testBit (x % 4)
    · simp
    · obtain ⟨m1, m2⟩ := agS_mem h h1
      obtain ⟨_, m3⟩ := agS_mem h h2
      rw [ov_eq h m1 m2, ov_eq h m2 m3]
theorem pivRes_eq (s : List OpV) : orNil (validS s) (pivL (pivR (agI4 s) (ovI s))) = orNil (validS s) (pivL (pivR (agS4 s) (ovS s))) ∧ (validS s && (pivR (agI4 s) (ovI s)).isSome) = (validS s && (pivR (agS4 s) (ovS s)).isSome) := by
  cases h : validS s
  · exact ⟨rfl, rfl⟩
  · rw [piv_eq h]
    exact ⟨rfl, rfl⟩
end Go.Proofs.Ytofcpfabjfhjoaa
