/-
  Accesses of steps, in plain words: a schedule that commits; of legal steps in two phases it goes in the order of the points.
-/
import Derived.Test.YtcakjhappchlmaaQWLkP1
import Derived.Test.YtcakjhappchlmaaPkLkA
import Derived.Test.YtcakjhappchlmaaQWIserP0
import Derived.Test.YtcakjhappchlmaaQWTimeP0
namespace Go.Proofs.Ytcakjhappchlmaa
open Go.RowKit
set_option linter.unusedVariables false

def accOp (s : OpV) : OpV := ⟨s.tx, s.kind - 3, s.item⟩
def accOps (st : List OpV) : List OpV := (st.filter fun s => decide (3 ≤ s.kind)).map accOp
def comsOf (ts : List Int) : List OpV := ts.map fun t => ⟨t, 2, 0⟩
def accI (st : List OpV) : List OpV := accOps st ++ comsOf (txsOf (accOps st))
theorem mem_accOps {st : List OpV} {o : OpV} : o ∈ accOps st ↔ ∃ s ∈ st, 3 ≤ s.kind ∧ accOp s = o := by
  unfold accOps
  rw [List.mem_map]
  constructor
  · rintro ⟨s, hs, rfl⟩
    obtain ⟨h1, h2⟩ := List.mem_filter.1 hs
    exact ⟨s, h1, by simpa using h2, rfl⟩
  · rintro ⟨s, h1, h2, rfl⟩
    exact ⟨s, List.mem_filter.2 ⟨h1, by simpa using h2⟩, rfl⟩
theorem accOps_acc {st : List OpV} (hv : ∀ o ∈ st, okStep o = true) {o : OpV} (h : o ∈ accOps st) : isAcc o = true ∧ validOp o = true := by
  obtain ⟨s, hs, h3, rfl⟩ := mem_accOps.1 h
  have hk := okStep_iff.1 (hv s hs)
  have h01 : s.kind - 3 = 0 ∨ s.kind - 3 = 1 := by omega
  have ha : isAcc (accOp s) = true := by simp only [isAcc, accOp, Bool.or_eq_true, beq_iff_eq]; exact h01
  refine ⟨ha, ?_⟩
  unfold validOp
  rw [ha]
  have e1 : inR (accOp s).tx 0 3 = true := by unfold inR; rw [Bool.and_eq_true, decide_eq_true_eq, decide_eq_true_eq]; exact hk.1
  have e2 : inR (accOp s).item 0 2 = true := by unfold inR; rw [Bool.and_eq_true, decide_eq_true_eq, decide_eq_true_eq]; exact hk.2.2
  rw [e1, e2]
  rfl
theorem acc_noEnd {o : OpV} (h : isAcc o = true) : isEnd o = false := by
  simp only [isAcc, Bool.or_eq_true, beq_iff_eq] at h
  simp only [isEnd, Bool.or_eq_false_iff, beq_eq_false_iff_ne]
  omega
theorem accI_valid {st : List OpV} (hv : ∀ o ∈ st, okStep o = true) (hl : (accI st).length ≤ 16) : validS (accI st) = true := by
  rw [validS_iff]
  refine ⟨hl, fun o ho => ?_, ?_⟩
  · rcases List.mem_append.1 ho with h | h
    · exact (accOps_acc hv h).2
    · unfold comsOf at h
      obtain ⟨t, ht, rfl⟩ := List.mem_map.1 h
      have := txsOf_rng0 _ t ht
      simp only [validOp, inR, isAcc, isEnd, Bool.and_eq_true, Bool.or_eq_true, decide_eq_true_eq, beq_iff_eq]
      exact ⟨this, .inr ⟨.inl trivial, trivial⟩⟩
  · unfold accI
    rw [List.pairwise_append]
    refine ⟨?_, ?_, fun a ha b hb he => ?_⟩
    · exact List.pairwise_of_forall_mem_list fun a ha b hb he => by rw [acc_noEnd (accOps_acc hv ha).1] at he; cases he
    · unfold comsOf
      rw [List.pairwise_map]
      exact (nodup_txsOf _).imp fun h _ e => h e
    · rw [acc_noEnd (accOps_acc hv ha).1] at he; cases he
theorem accI_sub (st : List OpV) : List.Sublist (accOps st) (accI st) := List.sublist_append_left _ _
theorem accI_mem {st : List OpV} (hv : ∀ o ∈ st, okStep o = true) (hl : (accI st).length ≤ 16) {t : Int} : (∃ o ∈ accI st, o.tx = t) ↔ ∃ o ∈ accOps st, o.tx = t := by
  have hvs := validS_sub (accI_valid hv hl) (accI_sub st)
  constructor
  · rintro ⟨o, ho, rfl⟩
    rcases List.mem_append.1 ho with h | h
    · exact ⟨o, h, rfl⟩
    · unfold comsOf at h
      obtain ⟨t, ht, rfl⟩ := List.mem_map.1 h
      exact (mem_txsOf hvs).1 ht
  · rintro ⟨o, ho, rfl⟩
    exact ⟨o, (accI_sub st).subset ho, rfl⟩
/-- The law of AccessesOf. -/
theorem accI_comm {st : List OpV} (hv : ∀ o ∈ st, okStep o = true) (hl : (accI st).length ≤ 16) : committed (accI st) = accI st := by
  have hvs := accI_valid hv hl
  have hva := validS_sub hvs (accI_sub st)
  show List.filter _ (accI st) = accI st
  rw [List.filter_eq_self]
  intro o ho
  rw [beq_iff_eq]
  obtain ⟨q, hq, hqt⟩ := (accI_mem hv hl).1 ⟨o, ho, rfl⟩
  have hm : (⟨o.tx, 2, 0⟩ : OpV) ∈ accI st := by
    refine List.mem_append.2 (.inr ?_)
    unfold comsOf
    exact List.mem_map.2 ⟨o.tx, (mem_txsOf hva).2 ⟨q, hq, hqt⟩, rfl⟩
  exact endOf_commit (o := ⟨o.tx, 2, 0⟩) hvs hm rfl

theorem permF_complete {list : List Int} : ∀ (q pre : List Int), (pre ++ q).Nodup → (∀ x ∈ q, x ∈ list) → pre ++ q ∈ permF list q.length pre := by
  intro q
  induction q with
  | nil => intro pre _ _; simp [permF]
  | cons t r ih =>
    intro pre hd hm
    simp only [List.length_cons, permF]
    rw [List.mem_flatMap]
    refine ⟨t, hm t (by simp), ?_⟩
    have hno : (pre.any fun y => y == t) = false := by
      cases h : (pre.any fun y => y == t)
      · rfl
      · exfalso
        have h1 := any_eq_iff.1 h
        rw [List.nodup_append] at hd
        exact hd.2.2 t h1 t (by simp) rfl
    rw [if_neg (by rw [hno]; simp)]
    have := ih (pre ++ [t]) (by rw [List.append_assoc]; exact hd) fun x hx => hm x (List.mem_cons_of_mem _ hx)
    rw [List.append_assoc] at this
    exact this
theorem held_takes {st : List OpV} {t x : Int} (h : 0 ≤ heldI st t x) : ∃ o ∈ st, takesB t o = true := by
  have hk : ¬ (0 ≤ heldI (st.take 0) t x) := by simp [heldI_nil]
  have he : heldI (st.take st.length) t x = heldI st t x := by rw [List.take_length]
  obtain ⟨j, _, hj, h1, h2⟩ := ends_at (P := fun j => ¬ (0 ≤ heldI (st.take j) t x)) (i := 0) st.length (Nat.zero_le _) hk (by rw [he]; exact fun hn => hn h)
  have e : st[j]? = some (st[j]'hj) := List.getElem?_eq_getElem hj
  have h2' : 0 ≤ heldI (st.take (j + 1)) t x := by
    rcases Classical.em (0 ≤ heldI (st.take (j + 1)) t x) with h3 | h3
    · exact h3
    · exact absurd h3 h2
  exact ⟨_, List.getElem_mem hj, (comes e (Int.le_refl 0) (by omega) h2').1⟩
/-- Two phases are serializable, in the order of the points. -/
theorem twoPhase_law {st : List OpV} (hv : ∀ o ∈ st, okStep o = true) (hl : ∀ j, j < st.length → illAtB st j = false) (h2 : twoPB st = true) (hn : (accI st).length ≤ 16) :
    (ptI st).filter (fun t => (txsOf (accI st)).any fun y => y == t) ∈ ordO (accI st) := by
  have hvs := accI_valid hv hn
  have hx4 : Tx4 (accI st) := fun o ho => validS_tx hvs ho
  unfold ordO
  rw [accI_comm hv hn]
  obtain ⟨p, hp⟩ : ∃ p, p = (ptI st).filter (fun t => (txsOf (accI st)).any fun y => y == t) := ⟨_, rfl⟩
  rw [← hp]
  have hsub : ∀ t, t ∈ p → t ∈ txsOf (accI st) := fun t ht => by
    rw [hp] at ht
    exact any_eq_iff.1 (List.mem_filter.1 ht).2
  have hall : ∀ t, t ∈ txsOf (accI st) → t ∈ p := fun t ht => by
    rw [hp]
    refine List.mem_filter.2 ⟨?_, any_eq_iff.2 ht⟩
    obtain ⟨o, ho, hot⟩ := (accI_mem hv hn).1 ((mem_txsOf hvs).1 ht)
    obtain ⟨s, hs, h3, rfl⟩ := mem_accOps.1 ho
    obtain ⟨i, hi⟩ := List.mem_iff_getElem?.1 hs
    have hil := (List.getElem?_eq_some_iff.1 hi).1
    have hleg := hl i hil
    unfold illAtB at hleg
    rw [hi] at hleg
    simp only at hleg
    unfold illB at hleg
    rw [if_neg (by omega), if_neg (by omega)] at hleg
    have hheld : 0 ≤ heldI (st.take i) s.tx s.item := by
      split at hleg
      · have : heldI (st.take i) s.tx s.item = 1 := by simpa using hleg
        omega
      · rw [decide_eq_false_iff_not] at hleg; omega
    obtain ⟨q, hq, hqt⟩ := held_takes hheld
    refine mem_ptI.2 ⟨q, List.mem_of_mem_take hq, ?_⟩
    have : s.tx = t := hot
    rw [← this]
    exact hqt
  have hd : p.Nodup := by rw [hp]; exact (ptI_nodup st).filter _
  have hperm : p.length = (txsOf (accI st)).length := by
    have h1 := nodup_len hd hsub
    have h2 := nodup_len (nodup_txsOf (accI st)) hall
    omega
  unfold ordI
  refine List.mem_filter.2 ⟨?_, ?_⟩
  · rw [← hperm]
    have := permF_complete (list := txsOf (accI st)) p [] (by simpa using hd) hsub
    simpa using this
  · rw [accB_iff]
    have hps : p.Pairwise (fun a b => lsN st a < lsN st b) := by rw [hp]; exact (ptI_sorted st).filter _
    refine List.Pairwise.imp_of_mem ?_ hps
    intro a b ha hb hab
    cases he : edgeB (grI (accI st)) b a
    · rfl
    · exfalso
      have hra := txsOf_rng0 _ a (hsub a ha)
      have hrb := txsOf_rng0 _ b (hsub b hb)
      refine (cf_pair.1 ((gr_edge hx4 hrb.1 hra.1).1 he)) ?_
      unfold accI
      rw [List.pairwise_append]
      have noAcc : ∀ o ∈ comsOf (txsOf (accOps st)), isAcc o = false := fun o ho => by
        unfold comsOf at ho
        obtain ⟨t, _, rfl⟩ := List.mem_map.1 ho
        rfl
      refine ⟨?_, ?_, fun x _ y hy hc => ?_⟩
      · unfold accOps
        rw [List.pairwise_map, List.pairwise_filter, List.pairwise_iff_getElem]
        intro i k hi hk hik hoi hok hc
        simp only [decide_eq_true_eq] at hoi hok
        obtain ⟨hc, hb', ha'⟩ := hc
        simp only [confB, accOp, Bool.and_eq_true, bne_iff_ne, beq_iff_eq, Bool.or_eq_true] at hc
        have := two_points hv hl h2 hik (List.getElem?_eq_getElem hi) (List.getElem?_eq_getElem hk) hoi hok hc.1.2 hc.1.1.1.1 (by omega)
        have e1 : (st[i]).tx = b := hb'
        have e2 : (st[k]).tx = a := ha'
        rw [e1, e2] at this
        omega
      · exact List.pairwise_of_forall_mem_list fun x hx y hy hc => by
          have h5 := hc.1
          simp only [confB, Bool.and_eq_true] at h5
          have h6 := noAcc x hx
          rw [h5.1.1.1.2] at h6
          cases h6
      · have h5 := hc.1
        simp only [confB, Bool.and_eq_true] at h5
        have h6 := noAcc y hy
        rw [h5.1.1.2] at h6
        cases h6
end Go.Proofs.Ytcakjhappchlmaa
