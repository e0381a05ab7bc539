/-
  Texts that the proof rests on, joined: part 50.
-/
import Derived.Deep.LoopGhost
import Derived.Lib.SliceRun
import Derived.LoopIn
import Derived.LoopNIn
import Derived.Maps.AppendAt
import Derived.OwnWalkIn
import Derived.RangeFuncBound
import Derived.RangeFuncBox
import Derived.RangeFuncCalls
import Derived.RangeFuncLeaves
import Derived.RangeFuncNested
import Derived.RangeFuncWrites
import Derived.Shelf.Abstract
import Derived.Shelf.RegionOpen
import Derived.Shelf.SortM.Plain
import Derived.Shelf.SortM.SortNone
import Derived.Sort.OwnSortedInts
import Derived.TacticsInMore
import Derived.Test.YtncebpmckbcabaaRows
import Derived.WalkKit
import Derived.Test.YtncebpmckbcabaaSJ3
import Derived.Test.YtncebpmckbcabaaSJ4
import Derived.Test.YtncebpmckbcabaaSJ5
import Derived.Test.YtncebpmckbcabaaSJ16
import Derived.Test.YtncebpmckbcabaaSJ21
import Derived.Test.YtncebpmckbcabaaSJ23
import Derived.Test.YtncebpmckbcabaaSJ36
namespace Go.Proofs.Ytncebpmckbcabaa
open Go.RowKit
set_option linter.unusedVariables false

theorem acc_noEnd {o : OpV} (h : isAcc o = true) : isEnd o = false := by
  simp only [isAcc, Bool.or_eq_true, beq_iff_eq] at h
  simp only [isEnd, Bool.or_eq_false_iff, beq_eq_false_iff_ne]
  omega
end Go.Proofs.Ytncebpmckbcabaa
namespace Go.Proofs.Ytncebpmckbcabaa
open Go.RowKit
set_option linter.unusedVariables false

/-- What is open at k: an operation ahead that P takes, that conflicts, of one without an end. -/
def opnB (P : OpV → Bool) (s : List OpV) (k : Nat) : Bool := match s[k]? with | some q => (s.take k).any fun o => P o && confB o q && decide (endOf (s.take k) o.tx < 0) | none => false

/-- t has no end in D. -/
def Act (D : List OpV) (t : Int) : Prop := ∀ o ∈ D, o.tx = t → isEnd o = false
theorem Act.snoc {D : List OpV} {t : Int} {o : OpV} : Act (D ++ [o]) t ↔ Act D t ∧ (o.tx = t → isEnd o = false) := by
  unfold Act
  constructor
  · exact fun h => ⟨fun p hp => h p (by simp [hp]), h o (by simp)⟩
  · rintro ⟨h1, h2⟩ p hp
    rcases List.mem_append.1 hp with hp | hp
    · exact h1 p hp
    · rw [List.mem_singleton] at hp; subst hp; exact h2
theorem act_iff {D : List OpV} {t : Int} : endOf D t < 0 ↔ Act D t := by
  unfold endOf Act
  constructor
  · intro h o ho ht
    cases he : isEnd o
    · rfl
    · exfalso
      cases hf : D.find? (fun o => o.tx == t && isEnd o) with
      | none =>
        have := List.find?_eq_none.1 hf o ho
        simp [ht, he] at this
      | some q =>
        rw [hf] at h
        have hq := List.find?_some hf
        simp only [Bool.and_eq_true] at hq
        have := hq.2
        simp only [isEnd, Bool.or_eq_true, beq_iff_eq] at this
        simp only [Option.map_some, Option.getD_some] at h
        omega
  · intro h
    have : D.find? (fun o => o.tx == t && isEnd o) = none := by
      rw [List.find?_eq_none]
      intro o ho hh
      simp only [Bool.and_eq_true, beq_iff_eq] at hh
      rw [h o ho hh.1] at hh
      cases hh.2
    rw [this]
    simp
theorem validOp_item {o : OpV} (h : validOp o = true) (ha : isAcc o = true) : 0 ≤ o.item ∧ o.item ≤ 2 := by
  unfold validOp at h
  have he : isEnd o = false := acc_noEnd ha
  rw [he, ha] at h
  simp only [inR, Bool.and_eq_true, Bool.or_eq_true, decide_eq_true_eq, Bool.false_and, Bool.true_and] at h
  rcases h.2 with h1 | h1
  · exact h1
  · cases h1
theorem validOp_txr {o : OpV} (h : validOp o = true) : 0 ≤ o.tx ∧ o.tx ≤ 3 := by
  unfold validOp at h
  simp only [inR, Bool.and_eq_true, decide_eq_true_eq] at h
  exact h.1
theorem end_noAcc {o : OpV} (h : isEnd o = true) : isAcc o = false := by
  cases ha : isAcc o
  · rfl
  · rw [acc_noEnd ha] at h; cases h
theorem noEnd_acc {o : OpV} (hv : validOp o = true) (h : isEnd o = false) : isAcc o = true := by
  have := acc_kind hv h
  simp only [isAcc, Bool.or_eq_true, beq_iff_eq]
  omega
/-- The locks L are those of the operations D. -/
structure HeldAs (D L : List OpV) : Prop where
  ok : ∀ o ∈ D, validOp o = true
  pos : ∀ t x : Int, 0 ≤ heldI L t x ↔ Act D t ∧ ∃ o ∈ D, o.tx = t ∧ isAcc o = true ∧ o.item = x
  own : ∀ t x : Int, heldI L t x = 1 ↔ Act D t ∧ ∃ o ∈ D, o.tx = t ∧ o.kind = 1 ∧ o.item = x
theorem HeldAs.nil : HeldAs [] [] := by
  refine ⟨fun o ho => (by cases ho), fun t x => ?_, fun t x => ?_⟩
  · rw [heldI_nil]; exact ⟨fun h => by omega, fun ⟨_, o, ho, _⟩ => by cases ho⟩
  · rw [heldI_nil]; exact ⟨fun h => by omega, fun ⟨_, o, ho, _⟩ => by cases ho⟩
theorem HeldAs.same {D L M : List OpV} (h : HeldAs D L) (he : ∀ t x, heldI M t x = heldI L t x) : HeldAs D M :=
  ⟨h.ok, fun t x => by rw [he]; exact h.pos t x, fun t x => by rw [he]; exact h.own t x⟩
theorem grant_held {L : List OpV} {o : OpV} (he : isEnd o = false) (hk : o.kind ≤ 1 ∧ 0 ≤ o.kind) (t x : Int) :
    heldI (grantL L o) t x = if t = o.tx ∧ x = o.item then (if heldI L t x < o.kind then o.kind else heldI L t x) else heldI L t x := by
  unfold grantL
  rw [if_neg (by rw [he]; simp)]
  by_cases hlt : heldI L o.tx o.item < o.kind
  · rw [if_pos hlt, heldI_snoc]
    unfold hStep
    simp only
    by_cases h : t = o.tx ∧ x = o.item
    · obtain ⟨rfl, rfl⟩ := h
      have h2 : ¬ o.kind = 2 := by omega
      simp [hk.1, hlt, h2]
    · rw [if_neg (fun h' => h ⟨h'.1.symm, h'.2.symm⟩), if_neg h]
  · rw [if_neg hlt]
    by_cases h : t = o.tx ∧ x = o.item
    · obtain ⟨rfl, rfl⟩ := h
      rw [if_pos ⟨rfl, rfl⟩, if_neg hlt]
    · rw [if_neg h]
theorem ex_snoc {D : List OpV} {o : OpV} {P : OpV → Prop} : (∃ p ∈ D ++ [o], P p) ↔ (∃ p ∈ D, P p) ∨ P o := by
  constructor
  · rintro ⟨p, hp, h⟩
    rcases List.mem_append.1 hp with hp | hp
    · exact .inl ⟨p, hp, h⟩
    · rw [List.mem_singleton] at hp; subst hp; exact .inr h
  · rintro (⟨p, hp, h⟩ | h)
    · exact ⟨p, by simp [hp], h⟩
    · exact ⟨o, by simp, h⟩
/-- An operation more. -/
theorem HeldAs.grant {D L : List OpV} (h : HeldAs D L) {o : OpV} (hv : validOp o = true) (ha : Act D o.tx) : HeldAs (D ++ [o]) (grantL L o) := by
  have ok : ∀ p ∈ D ++ [o], validOp p = true := fun p hp => by
    rcases List.mem_append.1 hp with hp | hp
    · exact h.ok p hp
    · rw [List.mem_singleton] at hp; subst hp; exact hv
  by_cases he : isEnd o = true
  · have hna := end_noAcc he
    have hn1 : o.kind ≠ 1 := fun e => by simp [isAcc, e] at hna
    have hg : grantL L o = dropL L o.tx := by unfold grantL; rw [if_pos he]
    have hno : ∀ x, heldI (grantL L o) o.tx x < 0 := fun x => by
      rw [hg]
      obtain ⟨d1, d2⟩ := dropL_held L o.tx o.tx x
      by_cases hx : 0 ≤ x ∧ x < 3
      · exact d2 rfl hx.1 hx.2
      · rw [d1 (by omega)]
        rcases Int.lt_or_le (heldI L o.tx x) 0 with hh | hh
        · exact hh
        · exfalso
          obtain ⟨_, p, hp, _, hpa, hpx⟩ := (h.pos o.tx x).1 hh
          have := validOp_item (h.ok p hp) hpa
          omega
    have hnact : ¬ Act (D ++ [o]) o.tx := fun hh => by
      have := (Act.snoc.1 hh).2 rfl
      rw [he] at this; cases this
    have heq : ∀ t x, t ≠ o.tx → heldI (grantL L o) t x = heldI L t x := fun t x ht => by rw [hg]; exact (dropL_held L o.tx t x).1 (.inl ht)
    have hact : ∀ t, t ≠ o.tx → (Act (D ++ [o]) t ↔ Act D t) := fun t ht => by rw [Act.snoc]; exact ⟨fun hh => hh.1, fun hh => ⟨hh, fun e => absurd e.symm ht⟩⟩
    refine ⟨ok, fun t x => ?_, fun t x => ?_⟩
    · by_cases ht : t = o.tx
      · subst ht
        have := hno x
        exact ⟨fun hh => by omega, fun hh => absurd hh.1 hnact⟩
      · rw [heq t x ht, hact t ht, h.pos, ex_snoc]
        exact and_congr_right fun _ => ⟨.inl, fun hh => hh.elim id fun hh => absurd hh.1.symm ht⟩
    · by_cases ht : t = o.tx
      · subst ht
        have := hno x
        exact ⟨fun hh => by omega, fun hh => absurd hh.1 hnact⟩
      · rw [heq t x ht, hact t ht, h.own, ex_snoc]
        exact and_congr_right fun _ => ⟨.inl, fun hh => hh.elim id fun hh => absurd hh.1.symm ht⟩
  · have he : isEnd o = false := by simpa using he
    have hk := acc_kind hv he
    have hia := noEnd_acc hv he
    have hg := grant_held (L := L) he ⟨hk.2, hk.1⟩
    have hact : ∀ t, Act (D ++ [o]) t ↔ Act D t := fun t => by rw [Act.snoc]; exact ⟨fun hh => hh.1, fun hh => ⟨hh, fun _ => he⟩⟩
    refine ⟨ok, fun t x => ?_, fun t x => ?_⟩
    · rw [hg, hact, ex_snoc]
      by_cases hc : t = o.tx ∧ x = o.item
      · obtain ⟨rfl, rfl⟩ := hc
        rw [if_pos ⟨rfl, rfl⟩]
        exact ⟨fun _ => ⟨ha, .inr ⟨rfl, hia, rfl⟩⟩, fun _ => by split <;> omega⟩
      · rw [if_neg hc, h.pos]
        exact and_congr_right fun _ => ⟨.inl, fun hh => hh.elim id fun hh => absurd ⟨hh.1.symm, hh.2.2.symm⟩ hc⟩
    · rw [hg, hact, ex_snoc]
      have hle := heldI_le1 L t x
      by_cases hc : t = o.tx ∧ x = o.item
      · obtain ⟨rfl, rfl⟩ := hc
        rw [if_pos ⟨rfl, rfl⟩]
        have ho := h.own o.tx o.item
        constructor
        · intro hh
          refine ⟨ha, ?_⟩
          split at hh
          · exact .inr ⟨rfl, hh, rfl⟩
          · exact .inl (ho.1 hh).2
        · rintro ⟨_, hh | hh⟩
          · have h1 := ho.2 ⟨ha, hh⟩
            rw [if_neg (by omega)]; exact h1
          · have := hh.2.1
            split <;> omega
      · rw [if_neg hc, h.own]
        exact and_congr_right fun _ => ⟨.inl, fun hh => hh.elim id fun hh => absurd ⟨hh.1.symm, hh.2.2.symm⟩ hc⟩

/-! ### legal steps -/
def Legal (L : List OpV) : Prop := ∀ j, j < L.length → illAtB L j = false
theorem legal_nil : Legal [] := fun j hj => by cases hj
theorem illAtB_front {L : List OpV} {s : OpV} {j : Nat} (h : j < L.length) : illAtB (L ++ [s]) j = illAtB L j := by
  unfold illAtB
  rw [List.getElem?_append_left h, List.take_append_of_le_length (by omega)]
theorem legal_snoc {L : List OpV} {s : OpV} : Legal (L ++ [s]) ↔ Legal L ∧ illB L s = false := by
  have hlast : illAtB (L ++ [s]) L.length = illB L s := by
    unfold illAtB
    rw [List.getElem?_append_right (Nat.le_refl _), Nat.sub_self, List.take_left]
    rfl
  constructor
  · intro h
    refine ⟨fun j hj => ?_, ?_⟩
    · rw [← illAtB_front (s := s) hj]; exact h j (by simp; omega)
    · rw [← hlast]; exact h _ (by simp)
  · rintro ⟨h1, h2⟩ j hj
    rw [List.length_append, List.length_singleton] at hj
    by_cases e : j = L.length
    · subst e; rw [hlast]; exact h2
    · rw [illAtB_front (by omega)]; exact h1 j (by omega)
theorem ill_free {L : List OpV} {t x : Int} (h : 0 ≤ heldI L t x) : illB L ⟨t, 2, x⟩ = false := by
  unfold illB
  simp only [Int.reduceEq, if_false]
  simp; omega
theorem legal_dropTo {L : List OpV} (h : Legal L) (t : Int) (k : Nat) : Legal (dropTo L t k) := by
  induction k with
  | zero => exact h
  | succ k ih =>
    rw [dropTo_succ]
    split
    · exact legal_snoc.2 ⟨ih, ill_free (by assumption)⟩
    · exact ih
theorem othersB_iff {p : List OpV} {t x least : Int} : othersB p t x least = true ↔ ∃ u : Int, (0 ≤ u ∧ u ≤ 3) ∧ u ≠ t ∧ least ≤ heldI p u x := by
  unfold othersB
  rw [List.any_eq_true]
  constructor
  · rintro ⟨u, hu, h⟩
    simp only [Bool.and_eq_true, bne_iff_ne, decide_eq_true_eq] at h
    refine ⟨u, ?_, h⟩
    simp at hu
    omega
  · rintro ⟨u, hu, h⟩
    refine ⟨u, by simp; omega, ?_⟩
    simp only [Bool.and_eq_true, bne_iff_ne, decide_eq_true_eq]
    exact h
/-- Who is in the way of an operation: one that is open. -/
theorem opn_way {s : List OpV} {k : Nat} {q : OpV} {L : List OpV} (h : HeldAs (s.take k) L) (hq : s[k]? = some q) (hv : validOp q = true) (he : isEnd q = false) :
    opnB isAcc s k = true ↔ ∃ u : Int, (0 ≤ u ∧ u ≤ 3) ∧ u ≠ q.tx ∧ ((q.kind = 0 ∧ heldI L u q.item = 1) ∨ (q.kind = 1 ∧ 0 ≤ heldI L u q.item)) := by
  have hk := acc_kind hv he
  have hia := noEnd_acc hv he
  unfold opnB
  rw [hq]
  simp only
  rw [List.any_eq_true]
  constructor
  · rintro ⟨o, ho, hh⟩
    simp only [Bool.and_eq_true, decide_eq_true_eq, confB, bne_iff_ne, beq_iff_eq, Bool.or_eq_true] at hh
    obtain ⟨⟨h1, h2⟩, h3⟩ := hh
    refine ⟨o.tx, validOp_txr (h.ok o ho), h2.1.1.1.1, ?_⟩
    have ha := act_iff.1 h3
    rcases (by omega : q.kind = 0 ∨ q.kind = 1) with e | e
    · refine .inl ⟨e, (h.own _ _).2 ⟨ha, o, ho, rfl, ?_, h2.1.2⟩⟩
      rcases h2.2 with h4 | h4
      · exact h4
      · omega
    · exact .inr ⟨e, (h.pos _ _).2 ⟨ha, o, ho, rfl, h1, h2.1.2⟩⟩
  · rintro ⟨u, hu, hne, hh⟩
    rcases hh with ⟨e, hh⟩ | ⟨e, hh⟩
    · obtain ⟨ha, o, ho, rfl, h1, h2⟩ := (h.own _ _).1 hh
      refine ⟨o, ho, ?_⟩
      have h5 := act_iff.2 ha
      simp only [Bool.and_eq_true, decide_eq_true_eq, confB, bne_iff_ne, beq_iff_eq, Bool.or_eq_true]
      have hao : isAcc o = true := by simp [isAcc, h1]
      exact ⟨⟨hao, ⟨⟨⟨hne, hao⟩, hia⟩, h2⟩, .inl h1⟩, h5⟩
    · obtain ⟨ha, o, ho, rfl, h1, h2⟩ := (h.pos _ _).1 hh
      refine ⟨o, ho, ?_⟩
      have h5 := act_iff.2 ha
      simp only [Bool.and_eq_true, decide_eq_true_eq, confB, bne_iff_ne, beq_iff_eq, Bool.or_eq_true]
      exact ⟨⟨h1, ⟨⟨⟨hne, h1⟩, hia⟩, h2⟩, .inr e⟩, h5⟩
theorem ill_lock {L : List OpV} {o : OpV} (hk : o.kind ≤ 1 ∧ 0 ≤ o.kind) (hlt : heldI L o.tx o.item < o.kind) :
    illB L ⟨o.tx, o.kind, o.item⟩ = true ↔ ∃ u : Int, (0 ≤ u ∧ u ≤ 3) ∧ u ≠ o.tx ∧ ((o.kind = 0 ∧ heldI L u o.item = 1) ∨ (o.kind = 1 ∧ 0 ≤ heldI L u o.item)) := by
  unfold illB
  simp only
  rcases (by omega : o.kind = 0 ∨ o.kind = 1) with e | e
  · rw [if_pos e, show decide (0 ≤ heldI L o.tx o.item) = false by simp; omega, Bool.false_or, othersB_iff]
    constructor
    · rintro ⟨u, h1, h2, h3⟩
      have := heldI_le1 L u o.item
      exact ⟨u, h1, h2, .inl ⟨e, by omega⟩⟩
    · rintro ⟨u, h1, h2, h3 | h3⟩
      · exact ⟨u, h1, h2, by omega⟩
      · omega
  · rw [if_neg (by omega), if_pos e, show (heldI L o.tx o.item == 1) = false by simp; omega, Bool.false_or, othersB_iff]
    constructor
    · rintro ⟨u, h1, h2, h3⟩
      exact ⟨u, h1, h2, .inr ⟨e, h3⟩⟩
    · rintro ⟨u, h1, h2, h3 | h3⟩
      · omega
      · exact ⟨u, h1, h2, h3.2⟩
theorem ill_acc {L : List OpV} {o : OpV} (hk : o.kind ≤ 1 ∧ 0 ≤ o.kind) (h : o.kind ≤ heldI L o.tx o.item) : illB L ⟨o.tx, 3 + o.kind, o.item⟩ = false := by
  have := heldI_le1 L o.tx o.item
  unfold illB
  simp only
  rw [if_neg (by omega), if_neg (by omega)]
  split
  · have : heldI L o.tx o.item = 1 := by omega
    rw [this]; rfl
  · simp; omega

/-! ### LocksOf -/
section
variable {s : List OpV}
theorem valid_op (hv : validS s = true) {k : Nat} {q : OpV} (hq : s[k]? = some q) : validOp q = true := ((validS_iff s).1 hv).2.1 q (List.mem_of_getElem? hq)
theorem lk_grant {L : List OpV} {o : OpV} : lkStep L o = if isEnd o then grantL L o else grantL L o ++ [⟨o.tx, 3 + o.kind, o.item⟩] := by
  unfold lkStep grantL
  split <;> rfl
theorem dropTo_app {L : List OpV} {t : Int} (k : Nat) : ∃ fs, dropTo L t k = L ++ fs ∧ ∀ a ∈ fs, a.tx = t ∧ a.kind = 2 ∧ 0 ≤ a.item ∧ a.item < (k : Int) := by
  induction k with
  | zero => exact ⟨[], by simp [dropTo], by simp⟩
  | succ k ih =>
    obtain ⟨fs, h1, h2⟩ := ih
    rw [dropTo_succ]
    split
    · refine ⟨fs ++ [⟨t, 2, (k : Int)⟩], by rw [h1, List.append_assoc], fun a ha => ?_⟩
      rcases List.mem_append.1 ha with ha | ha
      · have := h2 a ha
        omega
      · rw [List.mem_singleton] at ha; subst ha; exact ⟨rfl, rfl, by simp, by show (k : Int) < ((k + 1 : Nat) : Int); omega⟩
    · exact ⟨fs, h1, fun a ha => by have := h2 a ha; omega⟩
/-- What an operation adds. -/
theorem lk_app {L : List OpV} {o : OpV} (hv : validOp o = true) : ∃ fs, lkStep L o = L ++ fs ∧ fs.length ≤ 3 ∧ (∀ a ∈ fs, a.tx = o.tx ∧ okStep a = true ∧ (a.kind = 2 → isEnd o = true) ∧ (a.kind ≤ 1 → isEnd o = false)) ∧ fs.Pairwise twoR := by
  have htx := validOp_txr hv
  by_cases he : isEnd o = true
  · obtain ⟨fs, h1, h2⟩ := dropTo_app (L := L) (t := o.tx) 3
    have hlen := (dropTo_len L o.tx 3).2
    refine ⟨fs, by rw [lk_grant, if_pos he]; unfold grantL; rw [if_pos he]; exact h1, by rw [h1, List.length_append] at hlen; omega, fun a ha => ?_, ?_⟩
    · have := h2 a ha
      exact ⟨this.1, okStep_iff.2 (by omega), fun _ => he, fun h => by omega⟩
    · exact List.pairwise_of_forall_mem_list fun a ha b hb hR => by have := (h2 b hb).2.1; have := hR.2.2; omega
  · have he : isEnd o = false := by simpa using he
    have hk := acc_kind hv he
    have hi := validOp_item hv (noEnd_acc hv he)
    rw [lk_grant, if_neg (by rw [he]; simp)]
    unfold grantL
    rw [if_neg (by rw [he]; simp)]
    split
    · refine ⟨[⟨o.tx, o.kind, o.item⟩, ⟨o.tx, 3 + o.kind, o.item⟩], by simp, by simp, fun a ha => ?_, ?_⟩
      · simp only [List.mem_cons, List.not_mem_nil, or_false] at ha
        rcases ha with rfl | rfl
        · exact ⟨rfl, okStep_iff.2 (by simp only; omega), fun h => by simp only at h; omega, fun _ => he⟩
        · exact ⟨rfl, okStep_iff.2 (by simp only; omega), fun h => by simp only at h; omega, fun _ => he⟩
      · simp only [List.pairwise_cons, List.mem_singleton, List.not_mem_nil, false_imp_iff, implies_true, List.Pairwise.nil, and_true, forall_eq]
        intro hR
        have := hR.2.1
        simp only at this
        omega
    · refine ⟨[⟨o.tx, 3 + o.kind, o.item⟩], by simp, by simp, fun a ha => ?_, by simp⟩
      rw [List.mem_singleton] at ha
      subst ha
      exact ⟨rfl, okStep_iff.2 (by simp only; omega), fun h => by simp only at h; omega, fun _ => he⟩
theorem grant_hit {L : List OpV} {o : OpV} (hv : validOp o = true) (he : isEnd o = false) : o.kind ≤ heldI (grantL L o) o.tx o.item := by
  have hk := acc_kind hv he
  rw [grant_held he ⟨hk.2, hk.1⟩, if_pos ⟨rfl, rfl⟩]
  split <;> omega
/-- One operation more: legal just where nothing is open. -/
theorem lk_legal {k : Nat} {q : OpV} {L : List OpV} (h : HeldAs (s.take k) L) (hq : s[k]? = some q) (hv : validOp q = true) (hok : ∀ a ∈ L, okStep a = true) (hl : Legal L) : Legal (lkStep L q) ↔ opnB isAcc s k = false := by
  by_cases he : isEnd q = true
  · rw [lk_grant, if_pos he]
    unfold grantL
    rw [if_pos he]
    have h1 : opnB isAcc s k = false := by
      unfold opnB
      rw [hq]
      simp only
      rw [List.any_eq_false]
      intro o _ hh
      simp only [Bool.and_eq_true, confB] at hh
      have := hh.1.2.1.1.2
      rw [end_noAcc he] at this
      cases this
    rw [h1]
    exact ⟨fun _ => rfl, fun _ => legal_dropTo hl _ _⟩
  · have he : isEnd q = false := by simpa using he
    have hk := acc_kind hv he
    have hw := opn_way h hq hv he
    have hhit := grant_hit (L := L) hv he
    rw [lk_grant, if_neg (by rw [he]; simp), legal_snoc, ill_acc ⟨hk.2, hk.1⟩ hhit]
    have hgo : Legal (grantL L q) ↔ opnB isAcc s k = false := by
      unfold grantL
      rw [if_neg (by rw [he]; simp)]
      split
      · rename_i hlt
        rw [legal_snoc]
        have hil := ill_lock (L := L) ⟨hk.2, hk.1⟩ hlt
        rw [← hw] at hil
        cases h1 : opnB isAcc s k
        · refine ⟨fun _ => rfl, fun _ => ⟨hl, ?_⟩⟩
          cases h2 : illB L ⟨q.tx, q.kind, q.item⟩
          · rfl
          · rw [hil.1 h2] at h1; cases h1
        · refine ⟨fun hh => ?_, fun hh => by cases hh⟩
          rw [hil.2 h1] at hh
          cases hh.2
      · rename_i hge
        refine ⟨fun _ => ?_, fun _ => hl⟩
        have hal := alone_all hok hl L.length (Nat.le_refl _)
        rw [List.take_length] at hal
        cases h1 : opnB isAcc s k
        · rfl
        · exfalso
          obtain ⟨u, _, hne, hh⟩ := hw.1 h1
          rcases hh with ⟨e, hh⟩ | ⟨e, hh⟩
          · have := hal u q.tx q.item hne hh
            omega
          · have hq1 : heldI L q.tx q.item = 1 := by have := heldI_le1 L q.tx q.item; omega
            have := hal q.tx u q.item (Ne.symm hne) hq1
            omega
    rw [hgo]
    exact ⟨fun hh => hh.1, fun hh => ⟨hh, rfl⟩⟩
theorem legal_front {L fs : List OpV} (h : Legal (L ++ fs)) : Legal L := fun j hj => by
  have := h j (by rw [List.length_append]; omega)
  unfold illAtB at this ⊢
  rw [List.getElem?_append_left hj, List.take_append_of_le_length (by omega)] at this
  exact this
end
end Go.Proofs.Ytncebpmckbcabaa
