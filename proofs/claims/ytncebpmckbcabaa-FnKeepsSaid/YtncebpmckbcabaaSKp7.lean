/-
  Texts that the proof rests on, joined: part 7.
-/
import Derived.Lib.SliceRun
import Derived.LoopIn
import Derived.LoopNIn
import Derived.Maps.AppendAt
import Derived.OwnWalkIn
import Derived.RangeFuncBound
import Derived.RangeFuncBox
import Derived.RangeFuncCalls
import Derived.RangeFuncLeaves
import Derived.RangeFuncNested
import Derived.RangeFuncWrites
import Derived.Shelf.Abstract
import Derived.Shelf.RegionOpen
import Derived.Shelf.SortM.Plain
import Derived.Shelf.SortM.SortNone
import Derived.Sort.OwnSortedInts
import Derived.TacticsInMore
import Derived.Test.YtncebpmckbcabaaRows
import Derived.WalkKit
import Derived.Test.YtncebpmckbcabaaSKp1
import Derived.Test.YtncebpmckbcabaaSKp3
import Derived.Test.YtncebpmckbcabaaSKp4
import Derived.Test.YtncebpmckbcabaaSKp5
import Derived.Test.YtncebpmckbcabaaSKp6
namespace Go.Proofs.Ytncebpmckbcabaa
open Go.RowKit
set_option linter.unusedVariables false

/-- One pair more. -/
def grStep (a : OpV) (rows : List Nat) (b : OpV) : List Nat := if confB a b then rowSet rows a.tx b.tx else rows
def grRow (L : List OpV) (i : Nat) (a : OpV) (rows : List Nat) (k : Nat) : List Nat := ((L.drop (i + 1)).take k).foldl (grStep a) rows
def grTo (L : List OpV) : Nat → List Nat
  | 0 => [0, 0, 0, 0]
  | i + 1 => match L[i]? with
    | some a => grRow L i a (grTo L i) (L.length - (i + 1))
    | none => grTo L i
def grI (L : List OpV) : List Nat := grTo L L.length
theorem grRow_zero {L : List OpV} {i : Nat} {a : OpV} {rows : List Nat} : grRow L i a rows 0 = rows := rfl
theorem grRow_succ {L : List OpV} {i k : Nat} {a b : OpV} {rows : List Nat} (h : L[i + 1 + k]? = some b) : grRow L i a rows (k + 1) = grStep a (grRow L i a rows k) b := by
  unfold grRow
  have h' : (L.drop (i + 1))[k]? = some b := by rw [List.getElem?_drop]; exact h
  rw [take_snoc h', List.foldl_append]; rfl
theorem grTo_succ {L : List OpV} {i : Nat} {a : OpV} (h : L[i]? = some a) : grTo L (i + 1) = grRow L i a (grTo L i) (L.length - (i + 1)) := by
  simp only [grTo, h]
theorem zero4 : Rows4 [0, 0, 0, 0] := ⟨rfl, by decide⟩
theorem grStep_ok {a b : OpV} {rows : List Nat} (h : Rows4 rows) (hb : 0 ≤ b.tx ∧ b.tx ≤ 3) : Rows4 (grStep a rows b) := by
  unfold grStep
  split
  · exact rowSet_ok h hb
  · exact h
theorem grRow_ok {L : List OpV} (hr : ∀ o ∈ L, 0 ≤ o.tx ∧ o.tx ≤ 3) {i : Nat} {a : OpV} {rows : List Nat} (h : Rows4 rows) (k : Nat) : Rows4 (grRow L i a rows k) := by
  unfold grRow
  have : ∀ (l : List OpV) (rows : List Nat), Rows4 rows → (∀ o ∈ l, 0 ≤ o.tx ∧ o.tx ≤ 3) → Rows4 (l.foldl (grStep a) rows) := by
    intro l
    induction l with
    | nil => intro rows h _; exact h
    | cons x r ih => intro rows h hl; exact ih _ (grStep_ok h (hl x (by simp))) (fun o ho => hl o (by simp [ho]))
  exact this _ _ h (fun o ho => hr o (List.mem_of_mem_drop (List.mem_of_mem_take ho)))
theorem grTo_ok {L : List OpV} (hr : ∀ o ∈ L, 0 ≤ o.tx ∧ o.tx ≤ 3) (i : Nat) : Rows4 (grTo L i) := by
  induction i with
  | zero => exact zero4
  | succ i ih =>
    simp only [grTo]
    split
    · exact grRow_ok hr ih _
    · exact ih
theorem grI_ok {L : List OpV} (hr : ∀ o ∈ L, 0 ≤ o.tx ∧ o.tx ≤ 3) : Rows4 (grI L) := grTo_ok hr _

/-- Two graphs with the same bits are one. -/
theorem rows_ext {R S : List Nat} (hR : Rows4 R) (hS : Rows4 S) (h : ∀ t u, t < 4 → u < 4 → (R.getD t 0).testBit u = (S.getD t 0).testBit u) : R = S := by
  refine List.ext_getElem (by rw [hR.1, hS.1]) fun i h1 h2 => ?_
  have hi : i < 4 := by rw [← hR.1]; exact h1
  have e1 : R.getD i 0 = R[i] := by rw [List.getD_eq_getElem?_getD, List.getElem?_eq_getElem h1]; rfl
  have e2 : S.getD i 0 = S[i] := by rw [List.getD_eq_getElem?_getD, List.getElem?_eq_getElem h2]; rfl
  refine Nat.eq_of_testBit_eq fun u => ?_
  rw [← e1, ← e2]
  by_cases hu : u < 4
  · exact h i u hi hu
  · have b : ∀ x : Nat, x < 16 → x.testBit u = false := fun x hx => by
      refine Nat.testBit_lt_two_pow (Nat.lt_of_lt_of_le hx ?_)
      have : (2:Nat) ^ 4 ≤ 2 ^ u := Nat.pow_le_pow_right (by omega) (by omega)
      omega
    rw [b _ (by rw [e1]; exact hR.2 _ (List.getElem_mem _)), b _ (by rw [e2]; exact hS.2 _ (List.getElem_mem _))]

/-- What the map holds: just the pairs of the graph. -/
structure MapIs (D : DataW Unit) (R : List Nat) : Prop where
  isMap : Maps.IsMap D
  has : ∀ t u : Int, (Lit.int .i64 t).wf = true → (Lit.int .i64 u).wf = true → (Maps.has D (gplit t u) = true ↔ (0 ≤ t ∧ t ≤ 3 ∧ 0 ≤ u ∧ u ≤ 3 ∧ (R.getD t.toNat 0).testBit u.toNat = true))
theorem wf_small {t : Int} (h : 0 ≤ t ∧ t ≤ 3) : (Lit.int .i64 t).wf = true := by
  simp [Lit.wf, IntKind.min, IntKind.max, IntKind.signed, IntKind.bits]; omega
theorem MapIs.empty : MapIs (.map []) [0, 0, 0, 0] := by
  refine ⟨Maps.isMap_empty, fun t u _ _ => ⟨fun h => by simp [Maps.has] at h, fun h => ?_⟩⟩
  exfalso
  obtain ⟨h1, h2, h3, h4, h5⟩ := h
  have : t = 0 ∨ t = 1 ∨ t = 2 ∨ t = 3 := by omega
  rcases this with rfl | rfl | rfl | rfl <;> simp at h5
theorem gplit_inj {t u t' u' : Int} (h1 : (Lit.int .i64 t).wf = true) (h2 : (Lit.int .i64 u).wf = true) (h3 : (Lit.int .i64 t').wf = true) (h4 : (Lit.int .i64 u').wf = true) (h : gplit t u = gplit t' u') : t = t' ∧ u = u' := by
  have e1 := gpkey h1 h2
  have e2 := gpkey h3 h4
  rw [← h] at e2
  have := gpkeyed.inj e1 e2
  unfold gpval at this
  injection this with this
  simp at this
  exact this
theorem gplit_key (t u : Int) : WideAt.IsKeyLit (gplit t u) := by unfold gplit; simp [WideAt.IsKeyLit]
theorem MapIs.put {D : DataW Unit} {R : List Nat} (h : MapIs D R) (hR : Rows4 R) {t u : Int} (ht : 0 ≤ t ∧ t ≤ 3) (hu : 0 ≤ u ∧ u ≤ 3) (d : DataW Unit) : MapIs (D.put (gplit t u) d) (rowSet R t u) := by
  refine ⟨h.isMap.put _ _, fun t' u' ht' hu' => ?_⟩
  obtain ⟨T, rfl⟩ := Int.eq_ofNat_of_zero_le ht.1
  obtain ⟨U, rfl⟩ := Int.eq_ofNat_of_zero_le hu.1
  by_cases he : gplit t' u' = gplit (T : Int) (U : Int)
  · obtain ⟨e1, e2⟩ := gplit_inj ht' hu' (wf_small ht) (wf_small hu) he
    subst e1; subst e2
    rw [Maps.has_put_same h.isMap (gplit_key _ _)]
    simp only [true_iff]
    refine ⟨by omega, by omega, by omega, by omega, ?_⟩
    rw [Int.toNat_natCast, Int.toNat_natCast, rowSet_bit hR (by omega)]
    simp
  · rw [Maps.has_put_other he, h.has t' u' ht' hu']
    constructor
    · rintro ⟨h1, h2, h3, h4, h5⟩
      exact ⟨h1, h2, h3, h4, by rw [rowSet_bit hR (by omega), h5]; rfl⟩
    · rintro ⟨h1, h2, h3, h4, h5⟩
      rw [rowSet_bit hR (by omega), Bool.or_eq_true] at h5
      refine ⟨h1, h2, h3, h4, h5.elim id fun hh => ?_⟩
      exfalso
      simp only [Bool.and_eq_true, decide_eq_true_eq] at hh
      apply he
      have e1 : t' = (T : Int) := by omega
      have e2 : u' = (U : Int) := by omega
      rw [e1, e2]
end Go.Proofs.Ytncebpmckbcabaa
namespace Go.Proofs.Ytncebpmckbcabaa
open Go.RowKit
set_option linter.unusedVariables false

/-- Whether the graph tells u for t. -/
def edgeB (rows : List Nat) (t u : Int) : Bool := (rows.getD t.toNat 0).testBit u.toNat
/-- All orders of the list that begin with some, with n more to come. -/
def permF (list : List Int) : Nat → List Int → List (List Int)
  | 0, pre => [pre]
  | n + 1, pre => list.flatMap fun t => if pre.any (fun y => y == t) then [] else permF list n (pre ++ [t])
def accB (rows : List Nat) : List Int → List Int → Bool
  | _, [] => true
  | pre, t :: r => !(pre.any fun u => edgeB rows t u) && accB rows (pre ++ [t]) r
/-- The orders by a graph, as the program finds them. -/
def ordI (list : List Int) (rows : List Nat) : List (List Int) := (permF list list.length []).filter (accB rows [])
/-- As the reference builds them. -/
def topF (list : List Int) (rows : List Nat) : Nat → List Int → List (List Int)
  | 0, pre => [pre]
  | n + 1, pre => list.flatMap fun t => if !(pre.any fun y => y == t) && list.all (fun v => !edgeB rows v t || pre.any fun y => y == v) then topF list rows n (pre ++ [t]) else []

theorem any_mem_iff {L : List Int} {x : Int} : (L.any fun y => y == x) = true ↔ x ∈ L := by
  rw [List.any_eq_true]
  constructor
  · rintro ⟨y, hy, e⟩
    have : y = x := by simpa using e
    subst this; exact hy
  · intro h; exact ⟨x, h, by simp⟩
theorem accB_append (rows : List Nat) (q : List Int) : ∀ (p pre : List Int), accB rows pre (p ++ q) = (accB rows pre p && accB rows (pre ++ p) q) := by
  intro p
  induction p with
  | nil => intro pre; simp [accB]
  | cons t r ih =>
    intro pre
    simp only [List.cons_append, accB, ih]
    rw [Bool.and_assoc, List.append_assoc]
    rfl
theorem nodup_len {l1 : List Int} : ∀ {l2 : List Int}, l1.Nodup → (∀ x ∈ l1, x ∈ l2) → l1.length ≤ l2.length := by
  induction l1 with
  | nil => intro l2 _ _; exact Nat.zero_le _
  | cons x r ih =>
    intro l2 hd hs
    rw [List.nodup_cons] at hd
    have hx := hs x (by simp)
    have h1 := ih (l2 := l2.erase x) hd.2 (fun y hy => by
      have hne : y ≠ x := fun e => hd.1 (by rw [← e]; exact hy)
      exact (List.mem_erase_of_ne hne).2 (hs y (by simp [hy])))
    rw [List.length_erase_of_mem hx] at h1
    have : 0 < l2.length := List.length_pos_of_mem hx
    simp only [List.length_cons]
    omega
/-- What the orders are made of. -/
theorem permF_mem {list : List Int} (hd : list.Nodup) (n : Nat) : ∀ {pre : List Int}, pre.Nodup → (∀ x ∈ pre, x ∈ list) → pre.length + n = list.length → ∀ p ∈ permF list n pre, (∃ q, p = pre ++ q) ∧ (∀ v ∈ list, v ∈ p) := by
  induction n with
  | zero =>
    intro pre hpd hsub hl p hp
    simp only [permF, List.mem_singleton] at hp
    subst hp
    refine ⟨⟨[], by simp⟩, fun v hv => ?_⟩
    by_cases hm : v ∈ p
    · exact hm
    · exfalso
      have := nodup_len (l1 := v :: p) (l2 := list) (List.nodup_cons.2 ⟨hm, hpd⟩) (fun x hx => by
        rcases List.mem_cons.1 hx with h | h
        · rw [h]; exact hv
        · exact hsub x h)
      simp only [List.length_cons] at this
      omega
  | succ n ih =>
    intro pre hpd hsub hl p hp
    simp only [permF, List.mem_flatMap] at hp
    obtain ⟨t, ht, hp⟩ := hp
    split at hp
    · cases hp
    · rename_i hm
      have hnm : t ∉ pre := fun h => hm (any_mem_iff.2 h)
      have hpd' : (pre ++ [t]).Nodup := by
        rw [List.nodup_append]
        refine ⟨hpd, by simp, ?_⟩
        intro a ha b hb
        rw [List.mem_singleton] at hb
        subst hb
        exact fun e => hnm (e ▸ ha)
      obtain ⟨⟨q, hq⟩, hall⟩ := ih hpd' (fun x hx => by
        rcases List.mem_append.1 hx with hx | hx
        · exact hsub x hx
        · rw [List.mem_singleton] at hx; subst hx; exact ht) (by simp; omega) p hp
      exact ⟨⟨t :: q, by rw [hq, List.append_assoc]; rfl⟩, hall⟩
theorem filter_flat {α β : Type} (p : β → Bool) (f : α → List β) : ∀ l : List α, (l.flatMap f).filter p = l.flatMap fun x => (f x).filter p := by
  intro l
  induction l with
  | nil => rfl
  | cons x r ih => rw [List.flatMap_cons, List.flatMap_cons, List.filter_append, ih]
theorem flat_congr {α β : Type} {f g : α → List β} : ∀ {l : List α}, (∀ x ∈ l, f x = g x) → l.flatMap f = l.flatMap g := by
  intro l
  induction l with
  | nil => intro _; rfl
  | cons x r ih =>
    intro h
    rw [List.flatMap_cons, List.flatMap_cons, h x (by simp), ih (fun y hy => h y (by simp [hy]))]
theorem top_eq {list : List Int} {rows : List Nat} (hd : list.Nodup) (hs : ∀ t ∈ list, edgeB rows t t = false) (n : Nat) :
    ∀ {pre : List Int}, pre.Nodup → (∀ x ∈ pre, x ∈ list) → pre.length + n = list.length → accB rows [] pre = true → (∀ u ∈ pre, ∀ v ∈ list, edgeB rows v u = true → v ∈ pre) →
      (permF list n pre).filter (accB rows []) = topF list rows n pre := by
  induction n with
  | zero =>
    intro pre _ _ _ hacc _
    simp only [permF, topF]
    rw [List.filter_cons, if_pos hacc, List.filter_nil]
  | succ n ih =>
    intro pre hpd hsub hl hacc hcl
    simp only [permF, topF]
    rw [filter_flat]
    refine flat_congr fun t ht => ?_
    cases hm : (pre.any fun y => y == t)
    · have hnm : t ∉ pre := fun h => by rw [any_mem_iff.2 h] at hm; cases hm
      have hpd' : (pre ++ [t]).Nodup := by
        rw [List.nodup_append]
        refine ⟨hpd, by simp, ?_⟩
        intro a ha b hb
        rw [List.mem_singleton] at hb
        subst hb
        exact fun e => hnm (e ▸ ha)
      have hsub' : ∀ x ∈ pre ++ [t], x ∈ list := fun x hx => by
        rcases List.mem_append.1 hx with hx | hx
        · exact hsub x hx
        · rw [List.mem_singleton] at hx; subst hx; exact ht
      have hl' : (pre ++ [t]).length + n = list.length := by simp; omega
      simp only [Bool.false_eq_true, if_false, Bool.not_false, Bool.true_and]
      cases hc : (list.all fun v => !edgeB rows v t || pre.any fun y => y == v)
      · -- one that must come ahead is missing: all these orders fall
        simp only [Bool.false_eq_true, if_false]
        rw [List.filter_eq_nil_iff]
        intro p hp ha
        obtain ⟨⟨q, hq⟩, hall⟩ := permF_mem hd n hpd' hsub' hl' p hp
        rw [List.all_eq_false] at hc
        obtain ⟨v, hv, hvc⟩ := hc
        simp only [Bool.or_eq_true, Bool.not_eq_true', not_or, Bool.not_eq_true] at hvc
        obtain ⟨hve, hvp⟩ := hvc
        have hve' : edgeB rows v t = true := by
          cases h : edgeB rows v t
          · exact absurd h (by simpa using hve)
          · rfl
        have hvn : v ∉ pre := fun h => by rw [any_mem_iff.2 h] at hvp; cases hvp
        have hvt : v ≠ t := fun e => by rw [e, hs t ht] at hve'; cases hve'
        have hvm : v ∈ q := by
          have := hall v hv
          rw [hq] at this
          rcases List.mem_append.1 this with h | h
          · rcases List.mem_append.1 h with h | h
            · exact absurd h hvn
            · rw [List.mem_singleton] at h; exact absurd h hvt
          · exact h
        obtain ⟨q1, q2, hq12⟩ := List.append_of_mem hvm
        rw [hq, hq12, accB_append rows (q1 ++ v :: q2) (pre ++ [t]), accB_append rows (v :: q2) q1] at ha
        simp only [Bool.and_eq_true, accB] at ha
        have h3 := ha.2.2.1
        simp only [Bool.not_eq_true'] at h3
        rw [List.any_eq_false] at h3
        exact h3 t (by simp) hve'
      · simp only [if_true]
        rw [List.all_eq_true] at hc
        have hcond : ∀ v ∈ list, edgeB rows v t = true → v ∈ pre := fun v hv he => by
          have := hc v hv
          rw [he] at this
          simp only [Bool.not_true, Bool.false_or] at this
          exact any_mem_iff.1 this
        refine ih hpd' hsub' hl' ?_ ?_
        · rw [accB_append, hacc]
          simp only [accB, Bool.true_and, Bool.and_true, List.nil_append, Bool.not_eq_true']
          rw [List.any_eq_false]
          intro u hu he
          exact hnm (hcl u hu t ht he)
        · intro u hu v hv he
          rcases List.mem_append.1 hu with hu | hu
          · exact List.mem_append_left _ (hcl u hu v hv he)
          · rw [List.mem_singleton] at hu
            subst hu
            exact List.mem_append_left _ (hcond v hv he)
    · simp
theorem ord_eq {list : List Int} {rows : List Nat} (hd : list.Nodup) (hs : ∀ t ∈ list, edgeB rows t t = false) : ordI list rows = topF list rows list.length [] :=
  top_eq hd hs list.length (by simp) (by simp) (by simp) rfl (by simp)
end Go.Proofs.Ytncebpmckbcabaa
namespace Go.Proofs.Ytncebpmckbcabaa
open Go.RowKit Go.BigFrame
set_option linter.unusedVariables false


theorem FreshInts.blk {w0 w : World} {A : Option Addr} {n : Nat} {xs : List Int} (h : FreshInts w0 w A n xs) : ∀ ad, A = some ad → ad.block < w.heap.size := fun ad had => by
  obtain ⟨b, cur, e, _, h2, _⟩ := h.2 ad had
  rw [e]; exact lt_of_block h2
end Go.Proofs.Ytncebpmckbcabaa
namespace Go.Proofs.Ytncebpmckbcabaa
open Go.RowKit Go.BigFrame
set_option linter.unusedVariables false

theorem txsOf_len (s : List OpV) : (txsOf s).length ≤ 4 := Nat.le_trans (List.length_filter_le _ _) (by simp)
end Go.Proofs.Ytncebpmckbcabaa
namespace Go.Proofs.Ytncebpmckbcabaa
open Go.RowKit Go.BigFrame
set_option linter.unusedVariables false

/-- A serial schedule is sorted by the stamps. -/
theorem ser_sorted {s : List OpV} (h : isSer s = true) : s.Pairwise (fun a b => stampN s a.tx ≤ stampN s b.tx) := by
  rw [List.pairwise_iff_getElem]
  intro i j hi hj hij
  have ei : s[i]? = some s[i] := List.getElem?_eq_getElem hi
  have ej : s[j]? = some s[j] := List.getElem?_eq_getElem hj
  rcases Nat.lt_or_ge (stampN s s[j].tx) (stampN s s[i].tx) with hlt | hge
  · exfalso
    obtain ⟨q, hq, e⟩ := stampN_at (List.mem_of_getElem? ej)
    have hle := stampN_le ei
    have := ser_between h hq ej e i s[i] (by omega) (by omega) ei
    rw [this, e] at hlt
    omega
  · exact hge
end Go.Proofs.Ytncebpmckbcabaa
