/-
  The graphs of versions of both are the same.
-/
import Derived.Test.YtofcpfabjfhjoaaVg1
import Derived.Test.YtofcpfabjfhjoaaPlain4
namespace Go.Proofs.Ytofcpfabjfhjoaa
open Go.RowKit
set_option linter.unusedVariables false

theorem orN_true {α : Type} {b : Bool} {xs : List α} (h : b = true) : orNil b xs = xs := by subst h; rfl
theorem orN_false {α : Type} {b : Bool} {xs : List α} (h : b = false) : orNil b xs = [] := by subst h; rfl
def vsOut (m : Int → Int → Bool) (L : List Int) (rows : List Nat) : Nat → List Nat
  | 0 => rows
  | i + 1 => match L[i]? with | some t => agIn (m t) t (L.drop (i + 1)) (vsOut m L rows i) | none => vsOut m L rows i
theorem vsOut_succ {m : Int → Int → Bool} {L : List Int} {rows : List Nat} {i : Nat} {t : Int} (h : L[i]? = some t) : vsOut m L rows (i + 1) = agIn (m t) t (L.drop (i + 1)) (vsOut m L rows i) := by simp only [vsOut, h]
theorem vsOut_ok {m : Int → Int → Bool} {L : List Int} {rows : List Nat} (hl : ∀ u ∈ L, 0 ≤ u ∧ u ≤ 3) (h : Rows4 rows) (i : Nat) : Rows4 (vsOut m L rows i) := by
  induction i with
  | zero => exact h
  | succ i ih =>
    simp only [vsOut]
    split
    · exact agIn_ok (fun u hu => hl u (List.mem_of_mem_drop hu)) ih
    · exact ih
def vgS (s : List OpV) : List Nat := vgTo (verS s (survS s)) (survS s) s (vsOut (meetsB s) (survS s) (agS4 s) (survS s).length) s.length

theorem agIn_none {f : Int → Bool} {t : Int} {list : List Int} (h : ∀ u ∈ list, f u = false) (rows : List Nat) : agIn f t list rows = rows := by
  unfold agIn
  induction list with
  | nil => rfl
  | cons x r ih =>
    rw [List.foldl_cons, h x (by simp)]
    exact ih (fun u hu => h u (by simp [hu]))
theorem idxZ_at {L : List Int} (hd : L.Nodup) {i : Nat} {t : Int} (h : L[i]? = some t) : idxZ L t = (i : Int) := by
  refine idxZ_hit h (by simp) fun j hj y hy => ?_
  rw [beq_eq_false_iff_ne]
  intro e
  subst e
  have h1 := List.getElem?_eq_some_iff.1 h
  have h2 := List.getElem?_eq_some_iff.1 hy
  obtain ⟨a, ha⟩ := h1
  obtain ⟨b, hb⟩ := h2
  have := (List.pairwise_iff_getElem.1 hd) j i b a hj
  rw [ha, hb] at this
  exact this rfl
theorem fB_low {s : List OpV} {L : List Int} (hd : L.Nodup) {i : Nat} {t u : Int} (h : L[i]? = some t) (hu : u ∈ L.take (i + 1)) : fB s L t u = false := by
  obtain ⟨j, hj⟩ := List.getElem?_of_mem hu
  rw [List.getElem?_take] at hj
  split at hj
  · unfold fB behB
    rw [idxZ_at hd h, idxZ_at hd hj]
    have : decide ((i : Int) < (j : Int)) = false := decide_eq_false (by omega)
    rw [this, Bool.false_and]
  · cases hj
theorem fB_high {s : List OpV} (hi : itemsOk s) {L : List Int} (hd : L.Nodup) {i : Nat} {t u : Int} (h : L[i]? = some t) (hu : u ∈ L.drop (i + 1)) : fB s L t u = meetsB s t u := by
  obtain ⟨j, hj⟩ := List.getElem?_of_mem hu
  rw [List.getElem?_drop] at hj
  unfold fB behB
  rw [idxZ_at hd h, idxZ_at hd hj]
  have : decide ((i : Int) < ((i + 1 + j : Nat) : Int)) = true := decide_eq_true (by omega)
  rw [this, Bool.true_and, ← meets_eq hi t u, Nat.and_comm]
theorem vsOut_eq {s : List OpV} (hi : itemsOk s) {L : List Int} (hd : L.Nodup) (rows : List Nat) (i : Nat) (h : i ≤ L.length) : vgOut (fB s L) L (L.take i) rows = vsOut (meetsB s) L rows i := by
  induction i with
  | zero => simp [vgOut, vsOut]
  | succ i ih =>
    have ht : L[i]? = some L[i] := List.getElem?_eq_getElem (by omega)
    rw [vgOut_snoc ht, vsOut_succ ht, ih (by omega)]
    have e : L = L.take (i + 1) ++ L.drop (i + 1) := (List.take_append_drop _ _).symm
    have e2 : ∀ R, agIn (fB s L L[i]) L[i] L R = agIn (fB s L L[i]) L[i] (L.drop (i + 1)) (agIn (fB s L L[i]) L[i] (L.take (i + 1)) R) := by
      intro R
      unfold agIn
      rw [← List.foldl_append, List.take_append_drop]
    rw [e2, agIn_none (fun u hu => fB_low hd ht hu), agIn_congr (fun u hu => fB_high hi hd ht hu)]
theorem vgTo_congr {f g : Nat → OpV → Int} {L : List Int} {s : List OpV} (h : ∀ k o, s[k]? = some o → f k o = g k o) (rows : List Nat) (k : Nat) : vgTo f L s rows k = vgTo g L s rows k := by
  induction k with
  | zero => rfl
  | succ k ih =>
    simp only [vgTo]
    cases e : s[k]? with
    | none => exact ih
    | some o => simp only [vgStep, ih, h k o e]
theorem vg_eq {s : List OpV} (h : validS s = true) : vgI s = vgS s := by
  unfold vgI vgS
  rw [surv_eq h, ag_eq h, ← vsOut_eq (validS_items h) (surv_known h).2 _ _ (Nat.le_refl _), List.take_length]
  exact vgTo_congr (fun k o ho => ver_eq h ho) _ _
end Go.Proofs.Ytofcpfabjfhjoaa
