/-
  Texts that the proof rests on, joined: part 44.
-/
import Derived.Deep.LoopGhost
import Derived.Lib.SliceRun
import Derived.LoopIn
import Derived.LoopNIn
import Derived.Maps.AppendAt
import Derived.OwnWalkIn
import Derived.RangeFuncBound
import Derived.RangeFuncBox
import Derived.RangeFuncCalls
import Derived.RangeFuncLeaves
import Derived.RangeFuncNested
import Derived.RangeFuncWrites
import Derived.Shelf.Abstract
import Derived.Shelf.RegionOpen
import Derived.Shelf.SortM.Plain
import Derived.Shelf.SortM.SortNone
import Derived.Sort.OwnSortedInts
import Derived.TacticsInMore
import Derived.Test.YtcakjhappchlmaaRows
import Derived.WalkKit
import Derived.Deep.CutRange
import Derived.IntWalk
import Derived.Laws.EntriesVeiled
import Derived.Test.YtcakjhappchlmaaSWx1
import Derived.Test.YtcakjhappchlmaaSWx5
import Derived.Test.YtcakjhappchlmaaSWx7
import Derived.Test.YtcakjhappchlmaaSWx8
import Derived.Test.YtcakjhappchlmaaSWx9
import Derived.Test.YtcakjhappchlmaaSWx12
import Derived.Test.YtcakjhappchlmaaSWx18
import Derived.Test.YtcakjhappchlmaaSWx20
import Derived.Test.YtcakjhappchlmaaSWx27
import Derived.Test.YtcakjhappchlmaaSWx28
import Derived.Test.YtcakjhappchlmaaSWx29
import Derived.Test.YtcakjhappchlmaaSWx30
import Derived.Test.YtcakjhappchlmaaSWx39
import Derived.Test.YtcakjhappchlmaaSWx42
namespace Go.Proofs.Ytcakjhappchlmaa
open Go.RowKit Go.BigFrame
set_option linter.unusedVariables false

theorem none_free {r : Rul} {d : Dsk} (h : nextD r d = none) : ∀ j, j < d.wait.length → freeB d j = false := fun j hj => by
  cases hf : (List.range d.wait.length).find? (freeB d) with
  | none => have := List.find?_eq_none.1 hf j (List.mem_range.2 hj); simpa using this
  | some i => unfold nextD at h; rw [hf] at h; cases h
theorem none_die {d : Dsk} (h : nextD .die d = none) : ∀ j, j < d.wait.length → dieB d j = false := fun j hj => by
  have hn := find_no (none_free h)
  cases hf : (List.range d.wait.length).find? (dieB d) with
  | none => have := List.find?_eq_none.1 hf j (List.mem_range.2 hj); simpa using this
  | some i => unfold nextD at h; rw [hn] at h; simp only [hf] at h; cases h
theorem none_wound {d : Dsk} (h : nextD .wound d = none) : ∀ j, j < d.wait.length → woundB d j = false := fun j hj => by
  have hn := find_no (none_free h)
  cases hf : (List.range d.wait.length).find? (woundB d) with
  | none => have := List.find?_eq_none.1 hf j (List.mem_range.2 hj); simpa using this
  | some i => unfold nextD at h; rw [hn] at h; simp only [hf] at h; cases h
theorem none_wait {d : Dsk} (h : nextD .wait d = none) : cycT (waitsR d) = [] := by
  have hn := find_no (none_free h)
  unfold nextD at h
  rw [hn] at h
  simp only at h
  split at h
  · rename_i he; exact List.isEmpty_iff.1 he
  · cases h
theorem wait_at {d : Dsk} {o : OpV} {j : Nat} (hj : j < d.wait.length) : (waitD d o).wait[j]? = d.wait[j]? := by
  show (d.wait ++ [o])[j]? = _
  rw [List.getElem?_append_left hj]
theorem frst_wait {d : Dsk} {o : OpV} {j : Nat} (hj : j < d.wait.length) : frstB (waitD d o).wait j = frstB d.wait j := by
  unfold frstB
  rw [wait_at hj]
  cases d.wait[j]? with
  | none => rfl
  | some p =>
    simp only
    show ((d.wait ++ [o]).take j).all _ = _
    rw [List.take_append_of_le_length (by omega)]
theorem frst_last {d : Dsk} {o : OpV} (h : (d.wait.any fun p => p.tx == o.tx) = true) : frstB (waitD d o).wait d.wait.length = false := by
  unfold frstB
  show (match (d.wait ++ [o])[d.wait.length]? with | some q => ((d.wait ++ [o]).take d.wait.length).all fun p => p.tx != q.tx | none => false) = false
  rw [List.getElem?_append_right (Nat.le_refl _), Nat.sub_self]
  simp only [List.getElem?_cons_zero, List.take_left']
  rw [List.all_eq_false]
  obtain ⟨p, hp, he⟩ := List.any_eq_true.1 h
  exact ⟨p, hp, by simpa using he⟩
theorem waitRow_wait {d : Dsk} {o : OpV} (h : (d.wait.any fun p => p.tx == o.tx) = true) (t : Int) : waitRow (waitD d o) t = waitRow d t := by
  have e : (opsOf (waitD d o).wait t).head? = (opsOf d.wait t).head? := by
    unfold opsOf
    show ((d.wait ++ [o]).filter fun p => p.tx == t).head? = _
    rw [List.filter_append, List.head?_append]
    by_cases ht : o.tx = t
    · subst ht
      cases hf : d.wait.filter fun p => p.tx == o.tx with
      | nil =>
        obtain ⟨p, hp, he⟩ := List.any_eq_true.1 h
        have : p ∈ d.wait.filter fun p => p.tx == o.tx := List.mem_filter.2 ⟨hp, he⟩
        rw [hf] at this
        cases this
      | cons a r => rfl
    · have : ([o].filter fun p => p.tx == t) = [] := by simp [ht]
      rw [this]
      cases (d.wait.filter fun p => p.tx == t).head? <;> rfl
  unfold waitRow
  rw [e]
  rfl
/-- One more that waits behind its own changes nothing that could be done. -/
theorem next_waitD {r : Rul} {d : Dsk} {o : OpV} (h : nextD r d = none) (hw : (d.wait.any fun p => p.tx == o.tx) = true) : nextD r (waitD d o) = none := by
  have hl : (waitD d o).wait.length = d.wait.length + 1 := by simp [waitD]
  have hfree : ∀ j, j < (waitD d o).wait.length → freeB (waitD d o) j = false := fun j hj => by
    by_cases e : j = d.wait.length
    · subst e
      have := frst_last hw
      unfold freeB
      cases (waitD d o).wait[d.wait.length]? with
      | none => rfl
      | some p => simp only; rw [this]; rfl
    · have hj' : j < d.wait.length := by omega
      have := none_free h j hj'
      unfold freeB at this ⊢
      rw [wait_at hj', frst_wait hj']
      exact this
  cases r
  · refine next_wait_no hfree ?_
    have : waitsR (waitD d o) = waitsR d := by unfold waitsR; exact List.map_congr_left fun t _ => waitRow_wait hw t
    rw [this]
    exact none_wait h
  · refine next_die_no hfree fun j hj => ?_
    by_cases e : j = d.wait.length
    · subst e
      have := frst_last hw
      unfold dieB
      cases (waitD d o).wait[d.wait.length]? with
      | none => rfl
      | some p => simp only; rw [this]; rfl
    · have hj' : j < d.wait.length := by omega
      have := none_die h j hj'
      unfold dieB at this ⊢
      rw [wait_at hj', frst_wait hj']
      exact this
  · refine next_wound_no hfree fun j hj => ?_
    by_cases e : j = d.wait.length
    · subst e
      have := frst_last hw
      unfold woundB
      cases (waitD d o).wait[d.wait.length]? with
      | none => rfl
      | some p => simp only; rw [this]; rfl
    · have hj' : j < d.wait.length := by omega
      have := none_wound h j hj'
      unfold woundB at this ⊢
      rw [wait_at hj', frst_wait hj']
      exact this
theorem opsOf_anyB (W : List OpV) (t : Int) : (opsOf W t).isEmpty = !(W.any fun p => p.tx == t) := by
  unfold opsOf
  rw [Bool.eq_iff_iff, List.isEmpty_iff, List.filter_eq_nil_iff, Bool.not_eq_true', List.any_eq_false]
/-- The reference's step: what is asked, settled. -/
theorem runStep_ask {r : Rul} {d : Dsk} {o : OpV} (h : nextD r d = none) : runStep r d o = settleD r (askP r d o) := by
  unfold runStep askP
  split
  · exact (settle_none h).symm
  · rw [opsOf_anyB]
    cases hw : (d.wait.any fun p => p.tx == o.tx)
    · rfl
    · exact (settle_none (next_waitD h hw)).symm
theorem kills_ok {d : Dsk} (ts : List Int) (ht : ∀ t ∈ ts, 0 ≤ t ∧ t ≤ 3) (hok : ∀ s ∈ d.locks, okStep s = true) : ∀ s ∈ (killsD d ts).locks, okStep s = true := by
  induction ts generalizing d with
  | nil => exact hok
  | cons t r ih => exact ih (d := killD d t) (fun u hu => ht u (List.mem_cons_of_mem _ hu)) (dropTo_okS hok (ht t List.mem_cons_self) 3 (by omega))
theorem kills_val {d : Dsk} (ts : List Int) (h : ∀ o ∈ d.wait, validOp o = true) : ∀ o ∈ (killsD d ts).wait, validOp o = true := by
  induction ts generalizing d with
  | nil => exact h
  | cons t r ih => exact ih (d := killD d t) fun p hp => h p (List.mem_filter.1 hp).1
theorem Fair.ask {r : Rul} {N : Nat} {d : Dsk} {o : OpV} (h : Fair N d) (hok : ∀ s ∈ d.locks, okStep s = true) (hv : validOp o = true) : Fair (N + 6) (askP r d o) := by
  have hwt : ∀ e : Dsk, (∀ p ∈ e.wait, validOp p = true) → ∀ p ∈ (waitD e o).wait, validOp p = true := fun e he p hp => by
    rcases List.mem_append.1 hp with hp | hp
    · exact he p hp
    · rw [List.mem_singleton.1 hp]; exact hv
  unfold askP
  split
  · exact ⟨h.val, h.comp, h.bnd.mono (by omega)⟩
  · split
    · exact ⟨hwt d h.val, h.comp, (h.bnd.waits o).mono (by omega)⟩
    · refine ⟨?_, ?_, h.bnd.ask r o⟩
      · unfold askD
        cases r
        · simp only
          split
          · exact h.val
          · exact hwt d h.val
        · simp only
          split
          · exact h.val
          · split
            · exact fun p hp => h.val p (List.mem_filter.1 hp).1
            · exact hwt d h.val
        · simp only
          split
          · exact kills_val _ h.val
          · exact hwt _ (kills_val _ h.val)
      · unfold askD
        cases r
        · simp only
          split
          · rename_i he; exact compat_grant hok h.comp hv (List.isEmpty_iff.1 he)
          · exact h.comp
        · simp only
          split
          · rename_i he; exact compat_grant hok h.comp hv (List.isEmpty_iff.1 he)
          · split
            · exact h.comp.cut _
            · exact h.comp
        · simp only
          split
          · rename_i he
            rw [← way_kills h.comp hv] at he
            exact compat_grant (kills_ok _ (fun t ht => (mem_way.1 (List.mem_filter.1 ht).1).2.1) hok) (kills_compat _ h.comp) hv (List.isEmpty_iff.1 he)
          · exact kills_compat _ h.comp
theorem settle_next {r : Rul} {N : Nat} {d : Dsk} (h : Fair N d) : nextD r (settleD r d) = none := (resume_fuel (r := r) (msr d) d (fun _ => items_valid h.val) (Nat.le_refl _)).2.1
end Go.Proofs.Ytcakjhappchlmaa
namespace Go.Proofs.Ytcakjhappchlmaa
open Go.RowKit
set_option linter.unusedVariables false

/-! where a transaction takes its last lock -/
/-! the points, as the reference gathers them -/
/-! the points, as the program gathers them: from the end -/
/-! two phases -/
def twoR (a b : OpV) : Prop := ¬ (a.tx = b.tx ∧ a.kind = 2 ∧ b.kind ≤ 1)
instance (a b : OpV) : Decidable (twoR a b) := by unfold twoR; infer_instance
/-! legal steps: who holds a lock for itself holds it alone -/
/-- A lock that goes is given back, where steps are legal. -/
theorem goes {st : List OpV} {t x : Int} {j : Nat} {o : OpV} (hv : ∀ o ∈ st, okStep o = true) (h : st[j]? = some o) (hl : illAtB st j = false) {b : Int} (hb : 0 ≤ b) (h0 : b ≤ heldI (st.take j) t x) (h1 : heldI (st.take (j + 1)) t x < b) : o.tx = t ∧ o.kind = 2 := by
  have hk := okStep_iff.1 (hv o (List.mem_of_getElem? h))
  have hr := heldI_rng (st := st.take j) (fun q hq => hv q (List.mem_of_mem_take hq)) t x
  unfold illAtB at hl
  rw [h] at hl
  simp only at hl
  rw [heldI_succ h] at h1
  unfold hStep at h1
  split at h1
  · rename_i hc
    refine ⟨hc.1, ?_⟩
    split at h1
    · assumption
    · split at h1
      · exfalso
        unfold illB at hl
        rw [hc.1, hc.2] at hl
        by_cases k0 : o.kind = 0
        · rw [if_pos k0, Bool.or_eq_false_iff, decide_eq_false_iff_not] at hl
          omega
        · omega
      · omega
  · omega
end Go.Proofs.Ytcakjhappchlmaa
namespace Go.Proofs.Ytcakjhappchlmaa
open Go.RowKit Go.BigFrame
set_option linter.unusedVariables false

section
variable {w u u' : World} {tb ob tg Bx : Nat} {o : OpV} {L : List OpV}
end
set_option maxHeartbeats 400000 in
theorem runnableL_any (A : Option Addr) (n c : Nat) (s : List OpV) (w : World) (hx : ROps w A n s) (hnc : n ≤ c) :
    Calls Try.prog 100 #[.slice A n c] w fun e w' => e = .returned (.bool (validS s && decide (s.length ≤ 12))) ∧ Below w.heap.size w w' := by
  have hl := hx.1
  have HX := Lib.hid hx
  obtain ⟨rb, hrb⟩ : ∃ z, (validS s && decide (s.length ≤ 12)) = z := ⟨_, rfl⟩
  have hr : Hid (rb = (validS s && decide (s.length ≤ 12))) := hrb.symm
  rw [hrb]
  clear hrb
  clear hx
  go_enter Try.func100, Try.ntmps100
  go_wp2_with fail
  refine (ValidSchedule_any A n c s w HX.out hnc).mono ?_
  rintro e w1 ⟨rfl, hb1⟩
  obtain ⟨bv, hv⟩ : ∃ b, validS s = b := ⟨_, rfl⟩
  rw [hv] at hr ⊢
  clear hv
  cases bv
  · go_wp2_with fail
    go_ret
    exact ⟨ret_bool (by rw [hr.out]; rfl), hb1⟩
  · go_wp2_with fail
    go_ret
    exact ⟨ret_bool (by rw [hr.out, hl, Bool.true_and]; exact decide_eq_decide.2 (by omega)), hb1⟩
end Go.Proofs.Ytcakjhappchlmaa
