/-
  Texts that the proof rests on, joined: part 6.
-/
import Derived.Lib.SliceRun
import Derived.LoopIn
import Derived.LoopNIn
import Derived.Maps.AppendAt
import Derived.OwnWalkIn
import Derived.RangeFuncBound
import Derived.RangeFuncBox
import Derived.RangeFuncCalls
import Derived.RangeFuncLeaves
import Derived.RangeFuncNested
import Derived.RangeFuncWrites
import Derived.Shelf.Abstract
import Derived.Shelf.RegionOpen
import Derived.Shelf.SortM.Plain
import Derived.Shelf.SortM.SortNone
import Derived.Sort.OwnSortedInts
import Derived.TacticsInMore
import Derived.Test.YtncebpmckbcabaaRows
import Derived.WalkKit
import Derived.Test.YtncebpmckbcabaaSSt1
import Derived.Test.YtncebpmckbcabaaSSt3
import Derived.Test.YtncebpmckbcabaaSSt4
import Derived.Test.YtncebpmckbcabaaSSt5
namespace Go.Proofs.Ytncebpmckbcabaa
open Go.RowKit Go.BigFrame
set_option linter.unusedVariables false

def stampN (s : List OpV) (t : Int) : Nat := s.findIdx fun o => o.tx == t
theorem findIdx_hit {s : List OpV} {p : OpV → Bool} {k : Nat} {o : OpV} (ho : s[k]? = some o) (h : p o = true) (hno : ∀ j, j < k → ∀ o, s[j]? = some o → p o = false) : s.findIdx p = k := by
  obtain ⟨hk, he⟩ := List.getElem?_eq_some_iff.1 ho
  rw [List.findIdx_eq hk]
  exact ⟨by rw [he]; exact h, fun j hj => hno j hj _ (List.getElem?_eq_getElem (by omega))⟩
theorem findIdx_end {s : List OpV} {p : OpV → Bool} (hno : ∀ j, j < s.length → ∀ o, s[j]? = some o → p o = false) : s.findIdx p = s.length := by
  rw [List.findIdx_eq_length]
  intro o ho
  obtain ⟨j, hj⟩ := List.mem_iff_getElem?.1 ho
  have hl : j < s.length := by
    rcases Nat.lt_or_ge j s.length with h | h
    · exact h
    · rw [List.getElem?_eq_none h] at hj; cases hj
  simpa using hno j hl o hj


theorem noEnd_true {s : List OpV} {i : Nat} {t : Int} (h : ∀ j, j < i → ∀ o, s[j]? = some o → (o.tx == t && isEnd o) = false) : noEnd (s.take i) t = true := by
  unfold noEnd
  rw [List.all_eq_true]
  intro o ho
  obtain ⟨j, hj⟩ := List.mem_iff_getElem?.1 ho
  rw [List.getElem?_take] at hj
  split at hj
  · rw [h j (by omega) o hj]; rfl
  · cases hj
theorem noEnd_false {s : List OpV} {i k : Nat} {t : Int} {o : OpV} (hk : k < i) (ho : s[k]? = some o) (h : (o.tx == t && isEnd o) = true) : noEnd (s.take i) t = false := by
  unfold noEnd
  rw [List.all_eq_false]
  exact ⟨o, List.mem_of_getElem? (i := k) (by rw [List.getElem?_take, if_pos hk]; exact ho), by rw [h]; simp⟩
theorem validS_iff (s : List OpV) : validS s = true ↔ s.length ≤ 16 ∧ (∀ o ∈ s, validOp o = true) ∧ s.Pairwise (fun a b => isEnd a = true → a.tx ≠ b.tx) := by
  constructor
  · intro h
    refine ⟨?_, validS_ops h, ?_⟩
    · unfold validS at h
      simp only [Bool.and_eq_true, decide_eq_true_eq] at h
      exact h.1
    · rw [List.pairwise_iff_getElem]
      intro i j hi hj hij he ht
      unfold validS at h
      simp only [Bool.and_eq_true, List.all_eq_true] at h
      have := h.2 j (List.mem_range.2 hj)
      unfold goodAt at this
      rw [List.getElem?_eq_getElem hj] at this
      simp only [Bool.and_eq_true] at this
      have h2 := this.2
      rw [noEnd_false (k := i) (o := s[i]) hij (List.getElem?_eq_getElem hi) (by rw [he, ht]; simp)] at h2
      cases h2
  · rintro ⟨h1, h2, h3⟩
    unfold validS
    simp only [Bool.and_eq_true, decide_eq_true_eq, List.all_eq_true]
    refine ⟨h1, fun j hj => ?_⟩
    have hj := List.mem_range.1 hj
    unfold goodAt
    rw [List.getElem?_eq_getElem hj]
    simp only [Bool.and_eq_true]
    refine ⟨h2 _ (List.getElem_mem hj), noEnd_true (fun k hk o ho => ?_)⟩
    have hk' : k < s.length := by omega
    rw [List.getElem?_eq_getElem hk'] at ho
    injection ho with ho
    subst ho
    rw [List.pairwise_iff_getElem] at h3
    have := h3 k j hk' hj hk
    cases he : isEnd s[k]
    · simp
    · simpa [he] using this he
/-- What is left when whole operations are dropped is a schedule. -/
theorem validS_sub {s t : List OpV} (h : validS s = true) (hs : List.Sublist t s) : validS t = true := by
  rw [validS_iff] at *
  exact ⟨Nat.le_trans hs.length_le h.1, fun o ho => h.2.1 o (hs.subset ho), List.Pairwise.sublist hs h.2.2⟩
theorem validS_committed {s : List OpV} (h : validS s = true) : validS (committed s) = true := validS_sub h List.filter_sublist
theorem validS_tx {s : List OpV} (h : validS s = true) {o : OpV} (ho : o ∈ s) : 0 ≤ o.tx ∧ o.tx ≤ 3 := by
  have := validS_ops h o ho
  simp [validOp, inR] at this
  omega
/-- Behind the end of a transaction stands none of it. -/
theorem validS_after {s : List OpV} (h : validS s = true) {i j : Nat} {a b : OpV} (hi : s[i]? = some a) (hj : s[j]? = some b) (he : isEnd a = true) (ht : a.tx = b.tx) : j ≤ i := by
  rcases Nat.lt_or_ge i j with hij | hij
  · exfalso
    obtain ⟨hil, hia⟩ := List.getElem?_eq_some_iff.1 hi
    obtain ⟨hjl, hjb⟩ := List.getElem?_eq_some_iff.1 hj
    have := List.pairwise_iff_getElem.1 ((validS_iff s).1 h).2.2 i j hil hjl hij
    rw [hia, hjb] at this
    exact this he ht
  · exact hij
theorem hasTx_iff {s : List OpV} {t : Int} : hasTx s t = true ↔ ∃ o ∈ s, o.tx = t := by
  unfold hasTx
  rw [List.any_eq_true]
  simp
theorem mem_txsOf {s : List OpV} (h : validS s = true) {t : Int} : t ∈ txsOf s ↔ ∃ o ∈ s, o.tx = t := by
  unfold txsOf
  rw [List.mem_filter, hasTx_iff]
  constructor
  · exact fun h => h.2
  · rintro ⟨o, ho, rfl⟩
    have := validS_tx h ho
    refine ⟨?_, o, ho, rfl⟩
    have : o.tx = 0 ∨ o.tx = 1 ∨ o.tx = 2 ∨ o.tx = 3 := by omega
    rcases this with e | e | e | e <;> rw [e] <;> simp
theorem nodup_txsOf (s : List OpV) : (txsOf s).Nodup := by
  unfold txsOf
  exact List.Pairwise.filter _ (by decide)
theorem findIdx_at {s : List OpV} {p : OpV → Bool} {o : OpV} (ho : o ∈ s) (hp : p o = true) : ∃ q, s[s.findIdx p]? = some q ∧ p q = true := by
  have hl : s.findIdx p < s.length := List.findIdx_lt_length.2 ⟨o, ho, hp⟩
  exact ⟨_, List.getElem?_eq_getElem hl, @List.findIdx_getElem _ p s hl⟩
theorem stampN_at {s : List OpV} {o : OpV} (ho : o ∈ s) : ∃ q, s[stampN s o.tx]? = some q ∧ q.tx = o.tx := by
  obtain ⟨q, h1, h2⟩ := findIdx_at (p := fun x : OpV => x.tx == o.tx) ho (by simp)
  exact ⟨q, h1, by simpa using h2⟩
/-! ### serial schedules -/

theorem ser_at {s : List OpV} (h : isSer s = true) {k : Nat} {o : OpV} (ho : s[k]? = some o) (hk : 0 < k) {q : OpV} (hq : s[k - 1]? = some q) (hne : q.tx ≠ o.tx) : ∀ j p, j < k → s[j]? = some p → p.tx ≠ o.tx := by
  intro j p hj hp ht
  unfold isSer at h
  rw [List.all_eq_true] at h
  have hl : k < s.length := (List.getElem?_eq_some_iff.1 ho).1
  have := h k (List.mem_range.2 hl)
  have hb : serBad s k = true := by
    unfold serBad
    rw [ho, hq]
    simp only [Bool.and_eq_true, bne_iff_ne]
    refine ⟨fun e => hne e.symm, ?_⟩
    unfold hasTx
    exact List.any_eq_true.2 ⟨p, List.mem_of_getElem? (i := j) (by rw [List.getElem?_take, if_pos hj]; exact hp), by simpa using ht⟩
  rw [hb] at this
  simp at this
  omega
/-- Between two operations of one transaction stand operations of this one alone. -/
theorem ser_between {s : List OpV} (h : isSer s = true) {i j : Nat} {a b : OpV} (hi : s[i]? = some a) (hj : s[j]? = some b) (ht : a.tx = b.tx) : ∀ k c, i ≤ k → k ≤ j → s[k]? = some c → c.tx = a.tx := by
  have key : ∀ d k c, k + d = j → i ≤ k → s[k]? = some c → c.tx = a.tx := by
    intro d
    induction d with
    | zero =>
      intro k c hk _ hc
      obtain rfl : k = j := by omega
      rw [hj] at hc; injection hc with hc; rw [← hc, ht]
    | succ d ih =>
      intro k c hk hik hc
      have hjl : j < s.length := (List.getElem?_eq_some_iff.1 hj).1
      have e : s[k + 1]? = some (s[k + 1]'(by omega)) := List.getElem?_eq_getElem (by omega)
      have h1 := ih (k + 1) _ (by omega) (by omega) e
      by_cases hne : c.tx = (s[k + 1]'(by omega)).tx
      · rw [hne, h1]
      · exfalso
        exact ser_at h e (by omega) (q := c) hc hne i a (by omega) hi h1.symm
  intro k c h1 h2 hc
  exact key (j - k) k c (by omega) h1 hc

theorem stampN_le {s : List OpV} {j : Nat} {o : OpV} (h : s[j]? = some o) : stampN s o.tx ≤ j := by
  rcases Nat.lt_or_ge j (stampN s o.tx) with hlt | hge
  · have := List.not_of_lt_findIdx (p := fun x : OpV => x.tx == o.tx) hlt
    rw [(List.getElem?_eq_some_iff.1 h).2] at this
    simp at this
  · exact hge
/-- The stamps: each transaction at its first operation. -/
def stTo (s : List OpV) : Nat → List Int
  | 0 => []
  | k + 1 => match s[k]? with | some o => if ((stTo s k).any fun y => y == o.tx) then stTo s k else stTo s k ++ [o.tx] | none => stTo s k
theorem stTo_succ {s : List OpV} {k : Nat} {o : OpV} (h : s[k]? = some o) : stTo s (k + 1) = if ((stTo s k).any fun y => y == o.tx) then stTo s k else stTo s k ++ [o.tx] := by simp only [stTo, h]
def stI (s : List OpV) : List Int := stTo s s.length
theorem any_eq_iff {L : List Int} {x : Int} : (L.any fun y => y == x) = true ↔ x ∈ L := by
  rw [List.any_eq_true]
  constructor
  · rintro ⟨y, hy, e⟩
    have : y = x := by simpa using e
    subst this; exact hy
  · intro h; exact ⟨x, h, by simp⟩
theorem stTo_known {s : List OpV} (k : Nat) (hk : k ≤ s.length) : (∀ t, t ∈ stTo s k ↔ ∃ j o, j < k ∧ s[j]? = some o ∧ o.tx = t) ∧ (stTo s k).Pairwise (fun a b => stampN s a < stampN s b) := by
  induction k with
  | zero => exact ⟨by simp [stTo], by simp [stTo]⟩
  | succ k ih =>
    obtain ⟨i1, i2⟩ := ih (by omega)
    have e : s[k]? = some (s[k]'(by omega)) := List.getElem?_eq_getElem (by omega)
    rw [stTo_succ e]
    generalize s[k]'(by omega) = o at *
    by_cases hm : o.tx ∈ stTo s k
    · rw [if_pos (any_eq_iff.2 hm)]
      refine ⟨fun t => ?_, i2⟩
      rw [i1]
      constructor
      · rintro ⟨j, p, hj, r⟩; exact ⟨j, p, by omega, r⟩
      · rintro ⟨j, p, hj, hp, rfl⟩
        by_cases hjk : j = k
        · subst hjk
          rw [e] at hp; injection hp with hp; subst hp
          exact (i1 _).1 hm
        · exact ⟨j, p, by omega, hp, rfl⟩
    · rw [if_neg (fun h => hm (any_eq_iff.1 h))]
      refine ⟨fun t => ?_, ?_⟩
      · rw [List.mem_append, i1, List.mem_singleton]
        constructor
        · rintro (⟨j, p, hj, r⟩ | rfl)
          · exact ⟨j, p, by omega, r⟩
          · exact ⟨k, o, by omega, e, rfl⟩
        · rintro ⟨j, p, hj, hp, rfl⟩
          by_cases hjk : j = k
          · subst hjk
            rw [e] at hp; injection hp with hp; subst hp
            exact .inr rfl
          · exact .inl ⟨j, p, by omega, hp, rfl⟩
      · rw [List.pairwise_append]
        refine ⟨i2, by simp, ?_⟩
        intro a ha b hb
        rw [List.mem_singleton] at hb
        subst hb
        obtain ⟨j, p, hj, hp, rfl⟩ := (i1 a).1 ha
        have h1 := stampN_le hp
        have h2 : k ≤ stampN s o.tx := by
          rcases Nat.lt_or_ge (stampN s o.tx) k with hlt | hge
          · exfalso
            obtain ⟨q, hq, hqt⟩ := stampN_at (List.mem_of_getElem? e)
            exact hm ((i1 _).2 ⟨_, q, hlt, hq, hqt⟩)
          · exact hge
        omega
theorem mem_stI {s : List OpV} {t : Int} : t ∈ stI s ↔ ∃ o ∈ s, o.tx = t := by
  unfold stI
  rw [(stTo_known _ (Nat.le_refl _)).1]
  constructor
  · rintro ⟨j, o, _, ho, e⟩; exact ⟨o, List.mem_of_getElem? ho, e⟩
  · rintro ⟨o, ho, e⟩
    obtain ⟨j, hj⟩ := List.mem_iff_getElem?.1 ho
    exact ⟨j, o, (List.getElem?_eq_some_iff.1 hj).1, hj, e⟩
theorem stI_sorted (s : List OpV) : (stI s).Pairwise (fun a b => stampN s a < stampN s b) := (stTo_known _ (Nat.le_refl _)).2
end Go.Proofs.Ytncebpmckbcabaa
namespace Go.Proofs.Ytncebpmckbcabaa
open Go.RowKit
set_option linter.unusedVariables false

def okStep (s : OpV) : Bool := inR s.tx 0 3 && inR s.kind 0 4 && inR s.item 0 2
theorem okStep_iff {s : OpV} : okStep s = true ↔ (0 ≤ s.tx ∧ s.tx ≤ 3) ∧ (0 ≤ s.kind ∧ s.kind ≤ 4) ∧ 0 ≤ s.item ∧ s.item ≤ 2 := by
  simp only [okStep, inR, Bool.and_eq_true, decide_eq_true_eq]
  omega
/-- What a step does to the lock of t on x. -/
def hStep (t x h : Int) (s : OpV) : Int := if s.tx = t ∧ s.item = x then (if s.kind = 2 then -1 else if s.kind ≤ 1 then s.kind else h) else h
def heldI (st : List OpV) (t x : Int) : Int := st.foldl (hStep t x) (-1)
theorem heldI_snoc (st : List OpV) (s : OpV) (t x : Int) : heldI (st ++ [s]) t x = hStep t x (heldI st t x) s := by simp [heldI]
theorem heldI_succ {st : List OpV} {k : Nat} {s : OpV} (h : st[k]? = some s) (t x : Int) : heldI (st.take (k + 1)) t x = hStep t x (heldI (st.take k) t x) s := by
  rw [take_snoc h, heldI_snoc]
theorem heldI_rng {st : List OpV} (h : ∀ s ∈ st, okStep s = true) (t x : Int) : heldI st t x = -1 ∨ heldI st t x = 0 ∨ heldI st t x = 1 := by
  have : ∀ (l : List OpV) (a : Int), (∀ s ∈ l, okStep s = true) → (a = -1 ∨ a = 0 ∨ a = 1) → (l.foldl (hStep t x) a = -1 ∨ l.foldl (hStep t x) a = 0 ∨ l.foldl (hStep t x) a = 1) := by
    intro l
    induction l with
    | nil => intro a _ ha; exact ha
    | cons s r ih =>
      intro a hl ha
      rw [List.foldl_cons]
      refine ih _ (fun q hq => hl q (List.mem_cons_of_mem _ hq)) ?_
      have := okStep_iff.1 (hl s (by simp))
      unfold hStep
      split
      · split
        · exact .inl rfl
        · split
          · omega
          · exact ha
      · exact ha
  exact this st (-1) h (.inl rfl)
/-- Another one than t has a lock on x of at least a kind. -/
def othersB (p : List OpV) (t x least : Int) : Bool := [0, 1, 2, 3].any fun u => u != t && decide (least ≤ heldI p u x)
/-- The step o behind p is illegal. -/
def illB (p : List OpV) (o : OpV) : Bool :=
  if o.kind = 0 then decide (0 ≤ heldI p o.tx o.item) || othersB p o.tx o.item 1
  else if o.kind = 1 then heldI p o.tx o.item == 1 || othersB p o.tx o.item 0
  else if o.kind = 4 then heldI p o.tx o.item != 1
  else decide (heldI p o.tx o.item < 0)
def illAtB (st : List OpV) (i : Nat) : Bool := match st[i]? with | some o => illB (st.take i) o | none => false
end Go.Proofs.Ytncebpmckbcabaa
namespace Go.Proofs.Ytncebpmckbcabaa
open Go.RowKit Go.BigFrame
set_option linter.unusedVariables false


set_option maxHeartbeats 400000 in
theorem ClipOps_any (A : Option Addr) (n c : Nat) (w : World) (hn : n ≤ 1099511627776) (hnc : n ≤ c) :
    Calls Try.prog 47 #[.slice A n c] w fun e w' => e = .returned (.slice A n n) ∧ w = w' := by
  go_enter Try.func47, Try.ntmps47
  go_wp2_with fail
  go_ret
  exact ⟨rfl, rfl⟩
set_option maxHeartbeats 400000 in
theorem ClipInts_any (A : Option Addr) (n c : Nat) (w : World) (hn : n ≤ 1099511627776) (hnc : n ≤ c) :
    Calls Try.prog 49 #[.slice A n c] w fun e w' => e = .returned (.slice A n n) ∧ w = w' := by
  go_enter Try.func49, Try.ntmps49
  go_wp2_with fail
  go_ret
  exact ⟨rfl, rfl⟩
end Go.Proofs.Ytncebpmckbcabaa
namespace Go.Proofs.Ytncebpmckbcabaa
open Go.RowKit
set_option linter.unusedVariables false

/-- Whether the graph tells u for t. -/
def edgeB (rows : List Nat) (t u : Int) : Bool := (rows.getD t.toNat 0).testBit u.toNat
/-- All orders of the list that begin with some, with n more to come. -/
def permF (list : List Int) : Nat → List Int → List (List Int)
  | 0, pre => [pre]
  | n + 1, pre => list.flatMap fun t => if pre.any (fun y => y == t) then [] else permF list n (pre ++ [t])
def accB (rows : List Nat) : List Int → List Int → Bool
  | _, [] => true
  | pre, t :: r => !(pre.any fun u => edgeB rows t u) && accB rows (pre ++ [t]) r
/-- The orders by a graph, as the program finds them. -/
def ordI (list : List Int) (rows : List Nat) : List (List Int) := (permF list list.length []).filter (accB rows [])
theorem accB_append (rows : List Nat) (q : List Int) : ∀ (p pre : List Int), accB rows pre (p ++ q) = (accB rows pre p && accB rows (pre ++ p) q) := by
  intro p
  induction p with
  | nil => intro pre; simp [accB]
  | cons t r ih =>
    intro pre
    simp only [List.cons_append, accB, ih]
    rw [Bool.and_assoc, List.append_assoc]
    rfl
theorem nodup_len {l1 : List Int} : ∀ {l2 : List Int}, l1.Nodup → (∀ x ∈ l1, x ∈ l2) → l1.length ≤ l2.length := by
  induction l1 with
  | nil => intro l2 _ _; exact Nat.zero_le _
  | cons x r ih =>
    intro l2 hd hs
    rw [List.nodup_cons] at hd
    have hx := hs x (by simp)
    have h1 := ih (l2 := l2.erase x) hd.2 (fun y hy => by
      have hne : y ≠ x := fun e => hd.1 (by rw [← e]; exact hy)
      exact (List.mem_erase_of_ne hne).2 (hs y (by simp [hy])))
    rw [List.length_erase_of_mem hx] at h1
    have : 0 < l2.length := List.length_pos_of_mem hx
    simp only [List.length_cons]
    omega
end Go.Proofs.Ytncebpmckbcabaa
namespace Go.Proofs.Ytncebpmckbcabaa
open Go.RowKit Go.BigFrame
set_option linter.unusedVariables false


theorem FreshInts.blk {w0 w : World} {A : Option Addr} {n : Nat} {xs : List Int} (h : FreshInts w0 w A n xs) : ∀ ad, A = some ad → ad.block < w.heap.size := fun ad had => by
  obtain ⟨b, cur, e, _, h2, _⟩ := h.2 ad had
  rw [e]; exact lt_of_block h2
end Go.Proofs.Ytncebpmckbcabaa
namespace Go.Proofs.Ytncebpmckbcabaa
open Go.RowKit Go.BigFrame
set_option linter.unusedVariables false

theorem txsOf_len (s : List OpV) : (txsOf s).length ≤ 4 := Nat.le_trans (List.length_filter_le _ _) (by simp)
end Go.Proofs.Ytncebpmckbcabaa
namespace Go.Proofs.Ytncebpmckbcabaa
open Go.RowKit Go.BigFrame
set_option linter.unusedVariables false


set_option maxHeartbeats 1000000 in
theorem svalidOp_any (o : OpV) (w : World) :
    Calls Try.prog 88 #[o.val] w fun e w' => e = .returned (.bool (validOp o)) ∧ Below w.heap.size w w' := by
  obtain ⟨t, k, x⟩ := o
  unfold OpV.val
  have hcase : inR t 0 3 = false ∨ (inR t 0 3 = true ∧ (k = 0 ∨ k = 1 ∨ (k = 2 ∧ x = 0) ∨ (k = 2 ∧ (x == 0) = false) ∨ (k = 3 ∧ x = 0) ∨ (k = 3 ∧ (x == 0) = false) ∨ ((k == 0) = false ∧ (k == 1) = false ∧ (k == 2) = false ∧ (k == 3) = false))) := by
    cases h1 : inR t 0 3
    · exact .inl rfl
    · refine .inr ⟨rfl, ?_⟩
      simp only [beq_eq_false_iff_ne]
      omega
  rcases hcase with h1 | ⟨h1, rfl | rfl | ⟨rfl, rfl⟩ | ⟨rfl, h5⟩ | ⟨rfl, rfl⟩ | ⟨rfl, h5⟩ | ⟨h2, h3, h4, h5⟩⟩
  all_goals
    go_enter Try.func88, Try.ntmps88
    go_wp2_with (go_at_call 124; refine (inRange_any _ _ _ _).mono ?_; rintro e w' ⟨rfl, rfl⟩)
    go_ret
    exact ⟨ret_bool (by simp [validOp, isAcc, isEnd, *]), by (repeat (first | exact Below.refl _ _ | assumption | refine B_alloc ?_ (Nat.le_refl _) _ | refine Below.drew ?_ | refine B_drewN ?_ _ | refine B_after (by assumption) ?_ | (refine B_set ?_ ?_; rotate_left; (first | exact Nat.le_refl _ | (simp; done) | (simp at *; omega)))))⟩


set_option maxRecDepth 100000 in
set_option maxHeartbeats 1000000 in
theorem svalid_any (A : Option Addr) (n c : Nat) (s : List OpV) (w : World) (hx : ROps w A n s) :
    Calls Try.prog 43 #[.slice A n c] w fun e w' => e = .returned (.bool (validS s)) ∧ Below w.heap.size w w' := by
  have hn := hx.2.1
  have hl := hx.1
  have HX := Lib.hid hx
  clear hx
  by_cases h16 : 16 < n
  · have HV : Hid (validS s = false) := by
      show _ = _
      unfold validS
      have : decide (s.length ≤ 16) = false := by simp; omega
      rw [this]; rfl
    go_enter Try.func43, Try.ntmps43
    go_wp2_with fail
    go_ret
    exact ⟨ret_bool HV.out.symm, Below.refl _ _⟩
  · go_enter Try.func43, Try.ntmps43
    go_wp2_with fail
    go_loopw [3] (fun i wr => ∃ k : Nat, k ≤ n ∧ i = .int .i64 k ∧ Below w.heap.size w wr ∧ (∀ j, j < k → goodAt s j = true)) (fun i _ => n - (intOf i).toNat)
    case atStart => exact ⟨0, Nat.zero_le _, rfl, Below.refl _ _, by omega⟩
    case round =>
      obtain ⟨wo, rfl⟩ : ∃ wo : World, wo = wr := ⟨_, rfl⟩
      obtain ⟨i, hi, rfl, hb, hno⟩ := hrel
      by_cases hlt : i < n
      · have hxr := HX.out.below hb (Nat.le_refl _)
        obtain ⟨b, off, o, rfl, hbl, ho, c0, c1, c2⟩ := hxr.at_ hlt
        have HX2 := Lib.hid hxr
        have hg : goodAt s i = (validOp o && noEnd (s.take i) o.tx) := by unfold goodAt; rw [ho]
        clear hxr ho
        cases hv : validOp o
        · have HB := Lib.hid (validS_bad (s := s) (k := i) (by omega) (by rw [hg, hv]; rfl))
          clear hg hno
          obtain ⟨tx, kd, it⟩ := o
          have hv' : ∀ W : World, Calls Try.prog 88 #[.agg #[.int .i64 tx, .int .i64 kd, .int .i64 it]] W fun e w' => e = .returned (.bool false) ∧ Below W.heap.size W w' := fun W => by
            have := svalidOp_any ⟨tx, kd, it⟩ W; rw [hv] at this; exact this
          have HV := Lib.hid hv'
          clear hv hv'
          go_wp2_with (go_at_call 88; refine (HV.out _).mono ?_; rintro e w1 ⟨rfl, hb1⟩)
          go_ret
          exact ⟨ret_bool HB.out.symm, hb.trans (hb1.mono hb.size)⟩
        · rw [hv, Bool.true_and] at hg
          have HG := Lib.hid hg
          have HN := Lib.hid hno
          obtain ⟨tx, kd, it⟩ := o
          have hv' : ∀ W : World, Calls Try.prog 88 #[.agg #[.int .i64 tx, .int .i64 kd, .int .i64 it]] W fun e w' => e = .returned (.bool true) ∧ Below W.heap.size W w' := fun W => by
            have := svalidOp_any ⟨tx, kd, it⟩ W; rw [hv] at this; exact this
          have HV := Lib.hid hv'
          clear hv hv' hg hno
          go_wp2_with (go_at_call 88; refine (HV.out _).mono ?_; rintro e w1 ⟨rfl, hb1⟩)
          go_loopw [4] (fun i' wr => ∃ k : Nat, k ≤ i ∧ i' = .int .i64 k ∧ Below wo.heap.size wo wr ∧ (∀ j, j < k → ∀ o, s[j]? = some o → (o.tx == tx && isEnd o) = false)) (fun i' _ => i - (intOf i').toNat)
          case atStart => exact ⟨0, Nat.zero_le _, rfl, hb1, by omega⟩
          case round =>
            clear hb1 w1
            obtain ⟨k, hk, rfl, hb1, hno⟩ := hrel
            by_cases hlt2 : k < i
            · have hxr := HX2.out.below hb1 (Nat.le_refl _)
              obtain ⟨b', off', q, hA, _, hq, d0, d1, d2⟩ := hxr.at_ (k := k) (by omega)
              injection hA with hA
              injection hA with e1 e2
              subst e1; subst e2
              have hc0 := (hb1.cell (p := ⟨b, off + i * 3, none⟩) (by simpa using hbl)).trans c0
              have L0 := Later.cell hc0
              have M0 := Later.cell d0
              have M1 := Later.cell d1
              have M2 := Later.cell d2
              have HN2 : Hid ((q.tx == tx && isEnd q) = false → ∀ j, j < k + 1 → ∀ o, s[j]? = some o → (o.tx == tx && isEnd o) = false) := fun h => no_snoc (p := fun o => o.tx == tx && isEnd o) hq hno h
              have HT : Hid ((q.tx == tx && isEnd q) = true → validS s = false) := fun h => validS_bad (k := i) (by omega) (by rw [HG.out]; exact noEnd_false hlt2 hq h)
              clear hno hq d0 d1 d2 hc0 hxr
              have hki : (k : Int) < (n : Int) := by omega
              have hii : (i : Int) < (n : Int) := by omega
              obtain ⟨qx, qk, qi⟩ := q
              simp only at M0 M1 M2 HN2 HT
              cases h1 : (qx == tx)
              · have hs := Lib.hid (HN2.out (by simp [h1]))
                go_wp2_with fail
                refine region_later (by kernel_rfl) (by kernel_rfl) ?_
                repeat (go_big_quiet_step (fail))
                refine wpQuiet_nil ?_
                rintro _ ⟨u, rfl⟩
                have hbu := hb1.trans (u.2.mono hb1.size)
                go_wp2_with fail
                go_roundw
                case rel => exact ⟨k + 1, by omega, by go_num, hbu, hs.out⟩
                case measure => simp [intOf]; omega
              · obtain ⟨be, hbe⟩ : ∃ be, isEnd ⟨qx, qk, qi⟩ = be := ⟨_, rfl⟩
                have he' : ∀ u : Later wr, Calls Try.prog 89 #[.agg #[.int .i64 qx, .int .i64 qk, .int .i64 qi]] u.1 fun e w' => e = .returned (.bool be) ∧ Below u.1.heap.size u.1 w' := fun u => by
                  have := sends_any ⟨qx, qk, qi⟩ u.1; rw [hbe] at this; exact this
                have HE := Lib.hid he'
                have HBE := Lib.hid hbe
                have H1 := Lib.hid h1
                clear he' hbe
                cases be
                · have hs := Lib.hid (HN2.out (by rw [HBE.out]; simp))
                  go_wp2_with fail
                  refine region_later (by kernel_rfl) (by kernel_rfl) ?_
                  repeat (go_big_quiet_step ((go_at_call 89; exact later_call _ (HE.out _))))
                  refine wpQuiet_nil ?_
                  rintro _ ⟨u, rfl⟩
                  have hbu := hb1.trans (u.2.mono hb1.size)
                  go_wp2_with fail
                  go_roundw
                  case rel => exact ⟨k + 1, by omega, by go_num, hbu, hs.out⟩
                  case measure => simp [intOf]; omega
                · have hs := Lib.hid (HT.out (by rw [HBE.out, H1.out]; rfl))
                  go_wp2_with fail
                  refine region_later (by kernel_rfl) (by kernel_rfl) ?_
                  repeat (go_big_quiet_step ((go_at_call 89; exact later_call _ (HE.out _))))
                  refine wpQuiet_nil ?_
                  rintro _ ⟨u, rfl⟩
                  have hbu := hb.trans ((hb1.trans (u.2.mono hb1.size)).mono hb.size)
                  go_wp2_with fail
                  go_ret
                  exact ⟨ret_bool hs.out.symm, hbu⟩
            · have hq := Lib.hid (all_snoc HN.out (by rw [HG.out]; exact noEnd_true (fun j hj => hno j (by omega))))
              clear hno
              go_wp2_with fail
              go_roundw
              case rel => exact ⟨i + 1, by omega, by go_num, hb.trans (hb1.mono hb.size), hq.out⟩
              case measure => simp [intOf]; omega
      · have HE := Lib.hid (validS_end (s := s) (fun j hj => hno j (by omega)))
        clear hno
        go_wp2_with fail
        go_ret
        exact ⟨ret_bool (by rw [HE.out, hl]; simp; omega), hb⟩

end Go.Proofs.Ytncebpmckbcabaa
namespace Go.Proofs.Ytncebpmckbcabaa
open Go.RowKit Go.BigFrame
set_option linter.unusedVariables false

/-- A serial schedule is sorted by the stamps. -/
theorem ser_sorted {s : List OpV} (h : isSer s = true) : s.Pairwise (fun a b => stampN s a.tx ≤ stampN s b.tx) := by
  rw [List.pairwise_iff_getElem]
  intro i j hi hj hij
  have ei : s[i]? = some s[i] := List.getElem?_eq_getElem hi
  have ej : s[j]? = some s[j] := List.getElem?_eq_getElem hj
  rcases Nat.lt_or_ge (stampN s s[j].tx) (stampN s s[i].tx) with hlt | hge
  · exfalso
    obtain ⟨q, hq, e⟩ := stampN_at (List.mem_of_getElem? ej)
    have hle := stampN_le ei
    have := ser_between h hq ej e i s[i] (by omega) (by omega) ei
    rw [this, e] at hlt
    omega
  · exact hge
end Go.Proofs.Ytncebpmckbcabaa
