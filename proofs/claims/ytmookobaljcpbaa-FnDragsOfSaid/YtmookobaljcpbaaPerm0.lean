/-
  All orders of some numbers, and those that go with a graph: what the program filters and what the reference builds.
-/
import Derived.Test.YtmookobaljcpbaaRw0
namespace Go.Proofs.Ytmookobaljcpbaa
open Go.RowKit
set_option linter.unusedVariables false

/-- Whether the graph tells u for t. -/
def edgeB (rows : List Nat) (t u : Int) : Bool := (rows.getD t.toNat 0).testBit u.toNat
/-- All orders of the list that begin with some, with n more to come. -/
def permF (list : List Int) : Nat → List Int → List (List Int)
  | 0, pre => [pre]
  | n + 1, pre => list.flatMap fun t => if pre.any (fun y => y == t) then [] else permF list n (pre ++ [t])
def accB (rows : List Nat) : List Int → List Int → Bool
  | _, [] => true
  | pre, t :: r => !(pre.any fun u => edgeB rows t u) && accB rows (pre ++ [t]) r
/-- The orders by a graph, as the program finds them. -/
def ordI (list : List Int) (rows : List Nat) : List (List Int) := (permF list list.length []).filter (accB rows [])
/-- As the reference builds them. -/
def topF (list : List Int) (rows : List Nat) : Nat → List Int → List (List Int)
  | 0, pre => [pre]
  | n + 1, pre => list.flatMap fun t => if !(pre.any fun y => y == t) && list.all (fun v => !edgeB rows v t || pre.any fun y => y == v) then topF list rows n (pre ++ [t]) else []

theorem any_mem_iff {L : List Int} {x : Int} : (L.any fun y => y == x) = true ↔ x ∈ L := by
  rw [List.any_eq_true]
  constructor
  · rintro ⟨y, hy, e⟩
    have : y = x := by simpa using e
    subst this; exact hy
  · intro h; exact ⟨x, h, by simp⟩
theorem accB_append (rows : List Nat) (q : List Int) : ∀ (p pre : List Int), accB rows pre (p ++ q) = (accB rows pre p && accB rows (pre ++ p) q) := by
  intro p
  induction p with
  | nil => intro pre; simp [accB]
  | cons t r ih =>
    intro pre
    simp only [List.cons_append, accB, ih]
    rw [Bool.and_assoc, List.append_assoc]
    rfl
theorem nodup_len {l1 : List Int} : ∀ {l2 : List Int}, l1.Nodup → (∀ x ∈ l1, x ∈ l2) → l1.length ≤ l2.length := by
  induction l1 with
  | nil => intro l2 _ _; exact Nat.zero_le _
  | cons x r ih =>
    intro l2 hd hs
    rw [List.nodup_cons] at hd
    have hx := hs x (by simp)
    have h1 := ih (l2 := l2.erase x) hd.2 (fun y hy => by
      have hne : y ≠ x := fun e => hd.1 (by rw [← e]; exact hy)
      exact (List.mem_erase_of_ne hne).2 (hs y (by simp [hy])))
    rw [List.length_erase_of_mem hx] at h1
    have : 0 < l2.length := List.length_pos_of_mem hx
    simp only [List.length_cons]
    omega
/-- What the orders are made of. -/
theorem permF_mem {list : List Int} (hd : list.Nodup) (n : Nat) : ∀ {pre : List Int}, pre.Nodup → (∀ x ∈ pre, x ∈ list) → pre.length + n = list.length → ∀ p ∈ permF list n pre, (∃ q, p = pre ++ q) ∧ (∀ v ∈ list, v ∈ p) := by
  induction n with
  | zero =>
    intro pre hpd hsub hl p hp
    simp only [permF, List.mem_singleton] at hp
    subst hp
    refine ⟨⟨[], by simp⟩, fun v hv => ?_⟩
    by_cases hm : v ∈ p
    · exact hm
    · exfalso
      have := nodup_len (l1 := v :: p) (l2 := list) (List.nodup_cons.2 ⟨hm, hpd⟩) (fun x hx => by
        rcases List.mem_cons.1 hx with h | h
        · rw [h]; exact hv
        · exact hsub x h)
      simp only [List.length_cons] at this
      omega
  | succ n ih =>
    intro pre hpd hsub hl p hp
    simp only [permF, List.mem_flatMap] at hp
    obtain ⟨t, ht, hp⟩ := hp
    split at hp
    · cases hp
    · rename_i hm
      have hnm : t ∉ pre := fun h => hm (any_mem_iff.2 h)
      have hpd' : (pre ++ [t]).Nodup := by
        rw [List.nodup_append]
        refine ⟨hpd, by simp, ?_⟩
        intro a ha b hb
        rw [List.mem_singleton] at hb
        subst hb
        exact fun e => hnm (e ▸ ha)
      obtain ⟨⟨q, hq⟩, hall⟩ := ih hpd' (fun x hx => by
        rcases List.mem_append.1 hx with hx | hx
        · exact hsub x hx
        · rw [List.mem_singleton] at hx; subst hx; exact ht) (by simp; omega) p hp
      exact ⟨⟨t :: q, by rw [hq, List.append_assoc]; rfl⟩, hall⟩
theorem filter_flat {α β : Type} (p : β → Bool) (f : α → List β) : ∀ l : List α, (l.flatMap f).filter p = l.flatMap fun x => (f x).filter p := by
  intro l
  induction l with
  | nil => rfl
  | cons x r ih => rw [List.flatMap_cons, List.flatMap_cons, List.filter_append, ih]
theorem flat_congr {α β : Type} {f g : α → List β} : ∀ {l : List α}, (∀ x ∈ l, f x = g x) → l.flatMap f = l.flatMap g := by
  intro l
  induction l with
  | nil => intro _; rfl
  | cons x r ih =>
    intro h
    rw [List.flatMap_cons, List.flatMap_cons, h x (by simp), ih (fun y hy => h y (by simp [hy]))]
theorem top_eq {list : List Int} {rows : List Nat} (hd : list.Nodup) (hs : ∀ t ∈ list, edgeB rows t t = false) (n : Nat) :
    ∀ {pre : List Int}, pre.Nodup → (∀ x ∈ pre, x ∈ list) → pre.length + n = list.length → accB rows [] pre = true → (∀ u ∈ pre, ∀ v ∈ list, edgeB rows v u = true → v ∈ pre) →
      (permF list n pre).filter (accB rows []) = topF list rows n pre := by
  induction n with
  | zero =>
    intro pre _ _ _ hacc _
    simp only [permF, topF]
    rw [List.filter_cons, if_pos hacc, List.filter_nil]
  | succ n ih =>
    intro pre hpd hsub hl hacc hcl
    simp only [permF, topF]
    rw [filter_flat]
    refine flat_congr fun t ht => ?_
    cases hm : (pre.any fun y => y == t)
    · have hnm : t ∉ pre := fun h => by rw [any_mem_iff.2 h] at hm; cases hm
      have hpd' : (pre ++ [t]).Nodup := by
        rw [List.nodup_append]
        refine ⟨hpd, by simp, ?_⟩
        intro a ha b hb
        rw [List.mem_singleton] at hb
        subst hb
        exact fun e => hnm (e ▸ ha)
      have hsub' : ∀ x ∈ pre ++ [t], x ∈ list := fun x hx => by
        rcases List.mem_append.1 hx with hx | hx
        · exact hsub x hx
        · rw [List.mem_singleton] at hx; subst hx; exact ht
      have hl' : (pre ++ [t]).length + n = list.length := by simp; omega
      simp only [Bool.false_eq_true, if_false, Bool.not_false, Bool.true_and]
      cases hc : (list.all fun v => !edgeB rows v t || pre.any fun y => y == v)
      · -- one that must come ahead is missing: all these orders fall
        simp only [Bool.false_eq_true, if_false]
        rw [List.filter_eq_nil_iff]
        intro p hp ha
        obtain ⟨⟨q, hq⟩, hall⟩ := permF_mem hd n hpd' hsub' hl' p hp
        rw [List.all_eq_false] at hc
        obtain ⟨v, hv, hvc⟩ := hc
        simp only [Bool.or_eq_true, Bool.not_eq_true', not_or, Bool.not_eq_true] at hvc
        obtain ⟨hve, hvp⟩ := hvc
        have hve' : edgeB rows v t = true := by
          cases h : edgeB rows v t
          · exact absurd h (by simpa using hve)
          · rfl
        have hvn : v ∉ pre := fun h => by rw [any_mem_iff.2 h] at hvp; cases hvp
        have hvt : v ≠ t := fun e => by rw [e, hs t ht] at hve'; cases hve'
        have hvm : v ∈ q := by
          have := hall v hv
          rw [hq] at this
          rcases List.mem_append.1 this with h | h
          · rcases List.mem_append.1 h with h | h
            · exact absurd h hvn
            · rw [List.mem_singleton] at h; exact absurd h hvt
          · exact h
        obtain ⟨q1, q2, hq12⟩ := List.append_of_mem hvm
        rw [hq, hq12, accB_append rows (q1 ++ v :: q2) (pre ++ [t]), accB_append rows (v :: q2) q1] at ha
        simp only [Bool.and_eq_true, accB] at ha
        have h3 := ha.2.2.1
        simp only [Bool.not_eq_true'] at h3
        rw [List.any_eq_false] at h3
        exact h3 t (by simp) hve'
      · simp only [if_true]
        rw [List.all_eq_true] at hc
        have hcond : ∀ v ∈ list, edgeB rows v t = true → v ∈ pre := fun v hv he => by
          have := hc v hv
          rw [he] at this
          simp only [Bool.not_true, Bool.false_or] at this
          exact any_mem_iff.1 this
        refine ih hpd' hsub' hl' ?_ ?_
        · rw [accB_append, hacc]
          simp only [accB, Bool.true_and, Bool.and_true, List.nil_append, Bool.not_eq_true']
          rw [List.any_eq_false]
          intro u hu he
          exact hnm (hcl u hu t ht he)
        · intro u hu v hv he
          rcases List.mem_append.1 hu with hu | hu
          · exact List.mem_append_left _ (hcl u hu v hv he)
          · rw [List.mem_singleton] at hu
            subst hu
            exact List.mem_append_left _ (hcond v hv he)
    · simp
theorem ord_eq {list : List Int} {rows : List Nat} (hd : list.Nodup) (hs : ∀ t ∈ list, edgeB rows t t = false) : ordI list rows = topF list rows list.length [] :=
  top_eq hd hs list.length (by simp) (by simp) (by simp) rfl (by simp)
end Go.Proofs.Ytmookobaljcpbaa
