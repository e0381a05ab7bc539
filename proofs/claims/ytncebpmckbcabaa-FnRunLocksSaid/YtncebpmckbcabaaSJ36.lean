/-
  Texts that the proof rests on, joined: part 36.
-/
import Derived.Deep.LoopGhost
import Derived.Lib.SliceRun
import Derived.LoopIn
import Derived.LoopNIn
import Derived.Maps.AppendAt
import Derived.OwnWalkIn
import Derived.RangeFuncBound
import Derived.RangeFuncBox
import Derived.RangeFuncCalls
import Derived.RangeFuncLeaves
import Derived.RangeFuncNested
import Derived.RangeFuncWrites
import Derived.Shelf.Abstract
import Derived.Shelf.RegionOpen
import Derived.Shelf.SortM.Plain
import Derived.Shelf.SortM.SortNone
import Derived.Sort.OwnSortedInts
import Derived.TacticsInMore
import Derived.Test.YtncebpmckbcabaaRows
import Derived.WalkKit
import Derived.IntWalk
import Derived.Laws.EntriesVeiled
import Derived.Test.YtncebpmckbcabaaSJ3
import Derived.Test.YtncebpmckbcabaaSJ4
import Derived.Test.YtncebpmckbcabaaSJ5
import Derived.Test.YtncebpmckbcabaaSJ14
import Derived.Test.YtncebpmckbcabaaSJ16
import Derived.Test.YtncebpmckbcabaaSJ21
import Derived.Test.YtncebpmckbcabaaSJ23
import Derived.Test.YtncebpmckbcabaaSJ24
import Derived.Test.YtncebpmckbcabaaSJ31
import Derived.Test.YtncebpmckbcabaaSJ34
import Derived.Test.YtncebpmckbcabaaSJ35
namespace Go.Proofs.Ytncebpmckbcabaa
open Go.RowKit Go.BigFrame
set_option linter.unusedVariables false

theorem none_free {r : Rul} {d : Dsk} (h : nextD r d = none) : ∀ j, j < d.wait.length → freeB d j = false := fun j hj => by
  cases hf : (List.range d.wait.length).find? (freeB d) with
  | none => have := List.find?_eq_none.1 hf j (List.mem_range.2 hj); simpa using this
  | some i => unfold nextD at h; rw [hf] at h; cases h
theorem none_die {d : Dsk} (h : nextD .die d = none) : ∀ j, j < d.wait.length → dieB d j = false := fun j hj => by
  have hn := find_no (none_free h)
  cases hf : (List.range d.wait.length).find? (dieB d) with
  | none => have := List.find?_eq_none.1 hf j (List.mem_range.2 hj); simpa using this
  | some i => unfold nextD at h; rw [hn] at h; simp only [hf] at h; cases h
theorem none_wound {d : Dsk} (h : nextD .wound d = none) : ∀ j, j < d.wait.length → woundB d j = false := fun j hj => by
  have hn := find_no (none_free h)
  cases hf : (List.range d.wait.length).find? (woundB d) with
  | none => have := List.find?_eq_none.1 hf j (List.mem_range.2 hj); simpa using this
  | some i => unfold nextD at h; rw [hn] at h; simp only [hf] at h; cases h
theorem none_wait {d : Dsk} (h : nextD .wait d = none) : cycT (waitsR d) = [] := by
  have hn := find_no (none_free h)
  unfold nextD at h
  rw [hn] at h
  simp only at h
  split at h
  · rename_i he; exact List.isEmpty_iff.1 he
  · cases h
theorem wait_at {d : Dsk} {o : OpV} {j : Nat} (hj : j < d.wait.length) : (waitD d o).wait[j]? = d.wait[j]? := by
  show (d.wait ++ [o])[j]? = _
  rw [List.getElem?_append_left hj]
theorem frst_wait {d : Dsk} {o : OpV} {j : Nat} (hj : j < d.wait.length) : frstB (waitD d o).wait j = frstB d.wait j := by
  unfold frstB
  rw [wait_at hj]
  cases d.wait[j]? with
  | none => rfl
  | some p =>
    simp only
    show ((d.wait ++ [o]).take j).all _ = _
    rw [List.take_append_of_le_length (by omega)]
theorem frst_last {d : Dsk} {o : OpV} (h : (d.wait.any fun p => p.tx == o.tx) = true) : frstB (waitD d o).wait d.wait.length = false := by
  unfold frstB
  show (match (d.wait ++ [o])[d.wait.length]? with | some q => ((d.wait ++ [o]).take d.wait.length).all fun p => p.tx != q.tx | none => false) = false
  rw [List.getElem?_append_right (Nat.le_refl _), Nat.sub_self]
  simp only [List.getElem?_cons_zero, List.take_left']
  rw [List.all_eq_false]
  obtain ⟨p, hp, he⟩ := List.any_eq_true.1 h
  exact ⟨p, hp, by simpa using he⟩
theorem waitRow_wait {d : Dsk} {o : OpV} (h : (d.wait.any fun p => p.tx == o.tx) = true) (t : Int) : waitRow (waitD d o) t = waitRow d t := by
  have e : (opsOf (waitD d o).wait t).head? = (opsOf d.wait t).head? := by
    unfold opsOf
    show ((d.wait ++ [o]).filter fun p => p.tx == t).head? = _
    rw [List.filter_append, List.head?_append]
    by_cases ht : o.tx = t
    · subst ht
      cases hf : d.wait.filter fun p => p.tx == o.tx with
      | nil =>
        obtain ⟨p, hp, he⟩ := List.any_eq_true.1 h
        have : p ∈ d.wait.filter fun p => p.tx == o.tx := List.mem_filter.2 ⟨hp, he⟩
        rw [hf] at this
        cases this
      | cons a r => rfl
    · have : ([o].filter fun p => p.tx == t) = [] := by simp [ht]
      rw [this]
      cases (d.wait.filter fun p => p.tx == t).head? <;> rfl
  unfold waitRow
  rw [e]
  rfl
/-- One more that waits behind its own changes nothing that could be done. -/
theorem next_waitD {r : Rul} {d : Dsk} {o : OpV} (h : nextD r d = none) (hw : (d.wait.any fun p => p.tx == o.tx) = true) : nextD r (waitD d o) = none := by
  have hl : (waitD d o).wait.length = d.wait.length + 1 := by simp [waitD]
  have hfree : ∀ j, j < (waitD d o).wait.length → freeB (waitD d o) j = false := fun j hj => by
    by_cases e : j = d.wait.length
    · subst e
      have := frst_last hw
      unfold freeB
      cases (waitD d o).wait[d.wait.length]? with
      | none => rfl
      | some p => simp only; rw [this]; rfl
    · have hj' : j < d.wait.length := by omega
      have := none_free h j hj'
      unfold freeB at this ⊢
      rw [wait_at hj', frst_wait hj']
      exact this
  cases r
  · refine next_wait_no hfree ?_
    have : waitsR (waitD d o) = waitsR d := by unfold waitsR; exact List.map_congr_left fun t _ => waitRow_wait hw t
    rw [this]
    exact none_wait h
  · refine next_die_no hfree fun j hj => ?_
    by_cases e : j = d.wait.length
    · subst e
      have := frst_last hw
      unfold dieB
      cases (waitD d o).wait[d.wait.length]? with
      | none => rfl
      | some p => simp only; rw [this]; rfl
    · have hj' : j < d.wait.length := by omega
      have := none_die h j hj'
      unfold dieB at this ⊢
      rw [wait_at hj', frst_wait hj']
      exact this
  · refine next_wound_no hfree fun j hj => ?_
    by_cases e : j = d.wait.length
    · subst e
      have := frst_last hw
      unfold woundB
      cases (waitD d o).wait[d.wait.length]? with
      | none => rfl
      | some p => simp only; rw [this]; rfl
    · have hj' : j < d.wait.length := by omega
      have := none_wound h j hj'
      unfold woundB at this ⊢
      rw [wait_at hj', frst_wait hj']
      exact this
theorem opsOf_anyB (W : List OpV) (t : Int) : (opsOf W t).isEmpty = !(W.any fun p => p.tx == t) := by
  unfold opsOf
  rw [Bool.eq_iff_iff, List.isEmpty_iff, List.filter_eq_nil_iff, Bool.not_eq_true', List.any_eq_false]
/-- The reference's step: what is asked, settled. -/
theorem runStep_ask {r : Rul} {d : Dsk} {o : OpV} (h : nextD r d = none) : runStep r d o = settleD r (askP r d o) := by
  unfold runStep askP
  split
  · exact (settle_none h).symm
  · rw [opsOf_anyB]
    cases hw : (d.wait.any fun p => p.tx == o.tx)
    · rfl
    · exact (settle_none (next_waitD h hw)).symm
theorem kills_ok {d : Dsk} (ts : List Int) (ht : ∀ t ∈ ts, 0 ≤ t ∧ t ≤ 3) (hok : ∀ s ∈ d.locks, okStep s = true) : ∀ s ∈ (killsD d ts).locks, okStep s = true := by
  induction ts generalizing d with
  | nil => exact hok
  | cons t r ih => exact ih (d := killD d t) (fun u hu => ht u (List.mem_cons_of_mem _ hu)) (dropTo_okS hok (ht t List.mem_cons_self) 3 (by omega))
theorem kills_val {d : Dsk} (ts : List Int) (h : ∀ o ∈ d.wait, validOp o = true) : ∀ o ∈ (killsD d ts).wait, validOp o = true := by
  induction ts generalizing d with
  | nil => exact h
  | cons t r ih => exact ih (d := killD d t) fun p hp => h p (List.mem_filter.1 hp).1
theorem Fair.ask {r : Rul} {N : Nat} {d : Dsk} {o : OpV} (h : Fair N d) (hok : ∀ s ∈ d.locks, okStep s = true) (hv : validOp o = true) : Fair (N + 6) (askP r d o) := by
  have hwt : ∀ e : Dsk, (∀ p ∈ e.wait, validOp p = true) → ∀ p ∈ (waitD e o).wait, validOp p = true := fun e he p hp => by
    rcases List.mem_append.1 hp with hp | hp
    · exact he p hp
    · rw [List.mem_singleton.1 hp]; exact hv
  unfold askP
  split
  · exact ⟨h.val, h.comp, h.bnd.mono (by omega)⟩
  · split
    · exact ⟨hwt d h.val, h.comp, (h.bnd.waits o).mono (by omega)⟩
    · refine ⟨?_, ?_, h.bnd.ask r o⟩
      · unfold askD
        cases r
        · simp only
          split
          · exact h.val
          · exact hwt d h.val
        · simp only
          split
          · exact h.val
          · split
            · exact fun p hp => h.val p (List.mem_filter.1 hp).1
            · exact hwt d h.val
        · simp only
          split
          · exact kills_val _ h.val
          · exact hwt _ (kills_val _ h.val)
      · unfold askD
        cases r
        · simp only
          split
          · rename_i he; exact compat_grant hok h.comp hv (List.isEmpty_iff.1 he)
          · exact h.comp
        · simp only
          split
          · rename_i he; exact compat_grant hok h.comp hv (List.isEmpty_iff.1 he)
          · split
            · exact h.comp.cut _
            · exact h.comp
        · simp only
          split
          · rename_i he
            rw [← way_kills h.comp hv] at he
            exact compat_grant (kills_ok _ (fun t ht => (mem_way.1 (List.mem_filter.1 ht).1).2.1) hok) (kills_compat _ h.comp) hv (List.isEmpty_iff.1 he)
          · exact kills_compat _ h.comp
theorem settle_next {r : Rul} {N : Nat} {d : Dsk} (h : Fair N d) : nextD r (settleD r d) = none := (resume_fuel (r := r) (msr d) d (fun _ => items_valid h.val) (Nat.le_refl _)).2.1
end Go.Proofs.Ytncebpmckbcabaa
namespace Go.Proofs.Ytncebpmckbcabaa
open Go.RowKit
set_option linter.unusedVariables false

/-! where a transaction takes its last lock -/
def takesB (t : Int) (o : OpV) : Bool := o.tx == t && decide (o.kind ≤ 1)
/-! the points, as the reference gathers them -/
/-! the points, as the program gathers them: from the end -/
/-! two phases -/
def twoR (a b : OpV) : Prop := ¬ (a.tx = b.tx ∧ a.kind = 2 ∧ b.kind ≤ 1)
instance (a b : OpV) : Decidable (twoR a b) := by unfold twoR; infer_instance
/-! legal steps: who holds a lock for itself holds it alone -/
def Alone (p : List OpV) : Prop := ∀ t u x : Int, t ≠ u → heldI p t x = 1 → heldI p u x < 0
theorem others_no {p : List OpV} {t x least : Int} (h : othersB p t x least = false) {u : Int} (hu : 0 ≤ u ∧ u ≤ 3) (hne : u ≠ t) : heldI p u x < least := by
  unfold othersB at h
  rw [List.any_eq_false] at h
  have := h u (by simp; omega)
  simp only [Bool.and_eq_true, bne_iff_ne, decide_eq_true_eq, not_and] at this
  have := this hne
  omega
theorem alone_step {p : List OpV} {s : OpV} (hp : ∀ o ∈ p, okStep o = true) (hs : okStep s = true) (ha : Alone p) (hl : illB p s = false) : Alone (p ++ [s]) := by
  intro t u x hne h1
  have hk := okStep_iff.1 hs
  rw [heldI_snoc] at h1 ⊢
  have out : ∀ v : Int, ¬ (0 ≤ v ∧ v ≤ 3) → heldI p v x = -1 := fun v hv => heldI_out hp (by omega)
  unfold hStep at h1 ⊢
  by_cases htx : s.tx = t ∧ s.item = x
  · obtain ⟨rfl, rfl⟩ := htx
    rw [if_pos ⟨rfl, rfl⟩] at h1
    rw [if_neg (by omega)]
    split at h1
    · omega
    · split at h1
      · rename_i h2 h3
        have hk1 : s.kind = 1 := h1
        unfold illB at hl
        rw [if_neg (by omega), if_pos hk1, Bool.or_eq_false_iff] at hl
        by_cases hu : 0 ≤ u ∧ u ≤ 3
        · exact others_no hl.2 hu (Ne.symm hne)
        · rw [out u hu]; omega
      · exact ha _ u _ hne h1
  · rw [if_neg htx] at h1
    have hold := ha t u x hne h1
    by_cases hux : s.tx = u ∧ s.item = x
    · obtain ⟨rfl, rfl⟩ := hux
      rw [if_pos ⟨rfl, rfl⟩]
      split
      · omega
      · split
        · rename_i h2 h3
          exfalso
          have ht3 : 0 ≤ t ∧ t ≤ 3 := by
            rcases Classical.em (0 ≤ t ∧ t ≤ 3) with h | h
            · exact h
            · rw [out t h] at h1; omega
          unfold illB at hl
          by_cases h0 : s.kind = 0
          · rw [if_pos h0, Bool.or_eq_false_iff] at hl
            have := others_no hl.2 ht3 hne
            omega
          · rw [if_neg h0, if_pos (by omega), Bool.or_eq_false_iff] at hl
            have := others_no hl.2 ht3 hne
            omega
        · exact hold
    · rw [if_neg hux]; exact hold
theorem alone_all {st : List OpV} (hv : ∀ o ∈ st, okStep o = true) (hl : ∀ j, j < st.length → illAtB st j = false) : ∀ k, k ≤ st.length → Alone (st.take k) := by
  intro k
  induction k with
  | zero => intro _ t u x _ h; simp [heldI_nil] at h
  | succ k ih =>
    intro hk
    have e : st[k]? = some (st[k]'(by omega)) := List.getElem?_eq_getElem (by omega)
    generalize st[k]'(by omega) = o at e
    rw [take_snoc e]
    refine alone_step (fun q hq => hv q (List.mem_of_mem_take hq)) (hv o (List.mem_of_getElem? e)) (ih (by omega)) ?_
    have := hl k (by omega)
    unfold illAtB at this
    rw [e] at this
    exact this
/-- A lock that comes is taken. -/
theorem comes {st : List OpV} {u x : Int} {l : Nat} {o : OpV} (h : st[l]? = some o) {b : Int} (hb : 0 ≤ b) (h0 : heldI (st.take l) u x < b) (h1 : b ≤ heldI (st.take (l + 1)) u x) : takesB u o = true ∧ o.item = x := by
  rw [heldI_succ h] at h1
  unfold hStep at h1
  split at h1
  · rename_i hc
    split at h1
    · omega
    · split at h1
      · rename_i h3
        exact ⟨by simp [takesB, hc.1, h3], hc.2⟩
      · omega
  · omega
/-- A lock that goes is given back, where steps are legal. -/
theorem goes {st : List OpV} {t x : Int} {j : Nat} {o : OpV} (hv : ∀ o ∈ st, okStep o = true) (h : st[j]? = some o) (hl : illAtB st j = false) {b : Int} (hb : 0 ≤ b) (h0 : b ≤ heldI (st.take j) t x) (h1 : heldI (st.take (j + 1)) t x < b) : o.tx = t ∧ o.kind = 2 := by
  have hk := okStep_iff.1 (hv o (List.mem_of_getElem? h))
  have hr := heldI_rng (st := st.take j) (fun q hq => hv q (List.mem_of_mem_take hq)) t x
  unfold illAtB at hl
  rw [h] at hl
  simp only at hl
  rw [heldI_succ h] at h1
  unfold hStep at h1
  split at h1
  · rename_i hc
    refine ⟨hc.1, ?_⟩
    split at h1
    · assumption
    · split at h1
      · exfalso
        unfold illB at hl
        rw [hc.1, hc.2] at hl
        by_cases k0 : o.kind = 0
        · rw [if_pos k0, Bool.or_eq_false_iff, decide_eq_false_iff_not] at hl
          omega
        · omega
      · omega
  · omega
end Go.Proofs.Ytncebpmckbcabaa
namespace Go.Proofs.Ytncebpmckbcabaa
open Go.RowKit Go.BigFrame
set_option linter.unusedVariables false

section
variable {w u u' : World} {tb ob tg Bx : Nat} {o : OpV} {L : List OpV}
end
set_option maxHeartbeats 400000 in
theorem ClipSteps_any (A : Option Addr) (n c : Nat) (w : World) (hn : n ≤ 1099511627776) (hnc : n ≤ c) :
    Calls Try.prog 48 #[.slice A n c] w fun e w' => e = .returned (.slice A n n) ∧ w = w' := by
  go_enter Try.func48, Try.ntmps48
  go_wp2_with fail
  go_ret
  exact ⟨rfl, rfl⟩
set_option maxHeartbeats 400000 in
theorem runnableL_any (A : Option Addr) (n c : Nat) (s : List OpV) (w : World) (hx : ROps w A n s) (hnc : n ≤ c) :
    Calls Try.prog 78 #[.slice A n c] w fun e w' => e = .returned (.bool (validS s && decide (s.length ≤ 12))) ∧ Below w.heap.size w w' := by
  have hl := hx.1
  have HX := Lib.hid hx
  obtain ⟨rb, hrb⟩ : ∃ z, (validS s && decide (s.length ≤ 12)) = z := ⟨_, rfl⟩
  have hr : Hid (rb = (validS s && decide (s.length ≤ 12))) := hrb.symm
  rw [hrb]
  clear hrb
  clear hx
  go_enter Try.func78, Try.ntmps78
  go_wp2_with fail
  refine (ValidSchedule_any A n c s w HX.out hnc).mono ?_
  rintro e w1 ⟨rfl, hb1⟩
  obtain ⟨bv, hv⟩ : ∃ b, validS s = b := ⟨_, rfl⟩
  rw [hv] at hr ⊢
  clear hv
  cases bv
  · go_wp2_with fail
    go_ret
    exact ⟨ret_bool (by rw [hr.out]; rfl), hb1⟩
  · go_wp2_with fail
    go_ret
    exact ⟨ret_bool (by rw [hr.out, hl, Bool.true_and]; exact decide_eq_decide.2 (by omega)), hb1⟩
end Go.Proofs.Ytncebpmckbcabaa
namespace Go.Proofs.Ytncebpmckbcabaa
open Go.RowKit Go.BigFrame
set_option linter.unusedVariables false

/-- The rule of a name. -/
def rulOf (b : ByteArray) : Option Rul := if b = Rul.wait.str then some .wait else if b = Rul.die.str then some .die else if b = Rul.wound.str then some .wound else none
def manV : Option Rul → Value
  | some r => mannerV r
  | none => .nilIface
theorem str_beq {b c : ByteArray} (h : b ≠ c) : (b.toList == c.data.toList) = false := by
  rw [beq_eq_false_iff_ne]
  intro e
  exact h (ByteArray.ext (Array.ext' (by rw [← ByteArray.toList_eq, e])))
set_option maxRecDepth 100000 in
set_option maxHeartbeats 1000000 in
theorem mannerOf_any (b : ByteArray) (w : World) :
    Calls Try.prog 94 #[.string b] w fun e w' => e = .returned (.tuple #[manV (rulOf b), .bool (rulOf b).isSome]) ∧ w = w' := by
  have hu : rulOf b = if b = Rul.wait.str then some .wait else if b = Rul.die.str then some .die else if b = Rul.wound.str then some .wound else none := rfl
  by_cases h1 : b = Rul.wait.str
  · have hr : rulOf b = some .wait := by rw [hu, if_pos h1]
    rw [hr]
    subst h1
    unfold Rul.str
    simp only
    clear hu hr
    go_enter Try.func94, Try.ntmps94
    go_wp2_with fail
    go_ret2
    exact ⟨rfl, rfl⟩
  · have b1 : (b.toList == [119, 97, 105, 116]) = false := str_beq h1
    by_cases h2 : b = Rul.die.str
    · have hr : rulOf b = some .die := by rw [hu, if_neg h1, if_pos h2]
      rw [hr]
      subst h2
      unfold Rul.str
      simp only
      clear hu hr h1 b1
      go_enter Try.func94, Try.ntmps94
      go_wp2_with fail
      go_ret2
      exact ⟨rfl, rfl⟩
    · have b2 : (b.toList == [100, 105, 101]) = false := str_beq h2
      by_cases h3 : b = Rul.wound.str
      · have hr : rulOf b = some .wound := by rw [hu, if_neg h1, if_neg h2, if_pos h3]
        rw [hr]
        subst h3
        unfold Rul.str
        simp only
        clear hu hr h1 h2 b1 b2
        go_enter Try.func94, Try.ntmps94
        go_wp2_with fail
        go_ret2
        exact ⟨rfl, rfl⟩
      · have b3 : (b.toList == [119, 111, 117, 110, 100]) = false := str_beq h3
        have hr : rulOf b = none := by rw [hu, if_neg h1, if_neg h2, if_neg h3]
        rw [hr]
        clear hu hr h1 h2 h3
        go_enter Try.func94, Try.ntmps94
        go_wp2_with fail
        go_ret2
        exact ⟨rfl, rfl⟩
/-- A run may be made. -/
def runOk (b : ByteArray) (s : List OpV) : Bool := (rulOf b).isSome && (validS s && decide (s.length ≤ 12))
/-- What runOf hands back. -/
def RunPost (b : ByteArray) (s : List OpV) (w : World) (e : Ending) (w' : World) : Prop :=
  Below w.heap.size w w' ∧ ((runOk b s = false ∧ e = .returned (.tuple #[.pointer none, .bool false])) ∨
    ∃ (r : Rul) (R tg : Nat) (V : DV), runOk b s = true ∧ rulOf b = some r ∧ e = .returned (.tuple #[.pointer (some ⟨R, 0, none⟩), .bool true]) ∧ RunAt w' w.heap.size R tg (mannerV r) V (runD r s) ∧ Fair 72 (runD r s) ∧ nextD r (runD r s) = none)
theorem next_zero (r : Rul) : nextD r Dsk.zero = none := by
  have h0 : ∀ p : Nat → Bool, ∀ j, j < Dsk.zero.wait.length → p j = false := fun p j hj => by cases hj
  cases r
  · exact next_wait_no (h0 _) (by decide)
  · exact next_die_no (h0 _) (h0 _)
  · exact next_wound_no (h0 _) (h0 _)
theorem fair_zero : Fair 0 Dsk.zero := ⟨fun o h => (by cases h), fun t u x _ h1 => (by have : heldI [] t x = -1 := rfl; simp only [Dsk.zero] at h1; omega), ⟨by decide, by decide, by decide⟩⟩
theorem run_zero {w w1 wt : World} {tg : Nat} {m : Value} (hb1 : Below w.heap.size w w1) (hT : TblAt wt tg []) (htg : w1.heap.size ≤ tg) (hbt : Below w1.heap.size w1 wt) :
    RunAt (wt.alloc (.cells #[.slice none 0 0, .slice none 0 0, .slice none 0 0, .slice none 0 0, .pointer (some ⟨tg, 0, none⟩), m] 71)) w.heap.size wt.heap.size tg m DV.nil Dsk.zero ∧ Below w.heap.size w (wt.alloc (.cells #[.slice none 0 0, .slice none 0 0, .slice none 0 0, .slice none 0 0, .pointer (some ⟨tg, 0, none⟩), m] 71)) := by
  have s1 := hb1.size
  have s2 := hbt.size
  have hb := hb1.trans (hbt.mono s1)
  have hba : Below wt.heap.size wt (wt.alloc (.cells #[.slice none 0 0, .slice none 0 0, .slice none 0 0, .slice none 0 0, .pointer (some ⟨tg, 0, none⟩), m] 71)) := (Below.refl _ _).alloc (Nat.le_refl _) _
  exact ⟨⟨heap_alloc_new wt _, DeskAt.zero _ (by simp; omega), hT.below hba, fun s hs => (by cases hs), by omega, by omega⟩, hb.alloc hb.size _⟩
set_option maxRecDepth 100000 in
set_option maxHeartbeats 4000000 in
theorem runOf_any (b : ByteArray) (A : Option Addr) (n c : Nat) (s : List OpV) (w : World) (hx : ROps w A n s) (hnc : n ≤ c) :
    Calls Try.prog 46 #[.string b, .slice A n c] w (RunPost b s w) := by
  have hn := hx.2.1
  have hl := hx.1
  have HX := Lib.hid hx
  have HL := Lib.hid hl
  have hm := mannerOf_any b w
  have hra := runnableL_any A n c s w hx hnc
  obtain ⟨bv, hbv⟩ : ∃ z, (validS s && decide (s.length ≤ 12)) = z := ⟨_, rfl⟩
  have hok : runOk b s = ((rulOf b).isSome && bv) := by unfold runOk; rw [hbv]
  rw [hbv] at hra
  have HBV := Lib.hid hbv
  have HRA := Lib.hid hra
  clear hx hl hra hbv
  cases hr : rulOf b with
  | none =>
    rw [hr] at hm hok
    have HO : Hid (∀ w', Below w.heap.size w w' → RunPost b s w (.returned (.tuple #[.pointer none, .bool false])) w') := fun w' hb => ⟨hb, .inl ⟨hok, rfl⟩⟩
    have HM := Lib.hid hm
    clear hm hok hr
    unfold manV at HM
    simp only [Option.isSome] at HM
    go_enter Try.func46, Try.ntmps46
    go_wp2_with (go_at_call 94; go_loud (refine HM.out.mono ?_; rintro e w0 ⟨rfl, rfl⟩))
    go_ret2
    exact HO.out _ (Below.refl _ _)
  | some r =>
    rw [hr] at hm hok
    unfold manV at hm
    simp only [Option.isSome] at hm
    obtain ⟨mt, hM⟩ : ∃ mt, mannerV r = .iface mt (.agg #[]) := by cases r <;> exact ⟨_, rfl⟩
    rw [hM] at hm
    have HMV := Lib.hid hM
    have HM := Lib.hid hm
    have HR := Lib.hid hr
    clear hm hr hM
    cases bv
    · have HO : Hid (∀ w', Below w.heap.size w w' → RunPost b s w (.returned (.tuple #[.pointer none, .bool false])) w') := fun w' hb => ⟨hb, .inl ⟨by rw [hok]; simp, rfl⟩⟩
      clear hok
      go_enter Try.func46, Try.ntmps46
      go_wp2_with (first
        | (go_at_call 94; go_loud (refine HM.out.mono ?_; rintro e w0 ⟨rfl, rfl⟩))
        | (go_at_call 78; go_loud (refine HRA.out.mono ?_; rintro e w1 ⟨rfl, hb1⟩)))
      go_ret2
      exact HO.out _ hb1
    · have hv12 : validS s = true ∧ s.length ≤ 12 := by simpa using HBV.out
      have HVS : Hid (∀ o ∈ s, validOp o = true) := ((validS_iff s).1 hv12.1).2.1
      have hn12 : n ≤ 12 := by have := HL.out; omega
      have HOK : Hid (runOk b s = true) := by show _ = _; rw [hok]; rfl
      have HTO : Hid (∀ W : World, Calls Try.prog 67 #[.slice none 0 0] W (TabPost W [])) := fun W => tableOf_any none 0 0 [] W ROps.nil (fun s hs => by cases hs)
      clear hok hv12
      go_enter Try.func46, Try.ntmps46
      go_wp2_with (first
        | (go_at_call 94; go_loud (refine HM.out.mono ?_; rintro e w0 ⟨rfl, rfl⟩))
        | (go_at_call 78; go_loud (refine HRA.out.mono ?_; rintro e w1 ⟨rfl, hb1⟩; have HB1 := Lib.hid hb1; clear hb1))
        | (go_at_call 67; go_loud (refine (HTO.out _).mono ?_; rintro e wt ⟨tg, rfl, htg, hT, hbt⟩; have hrz := run_zero (m := .iface mt (.agg #[])) HB1.out hT htg hbt; have HRZ := Lib.hid hrz; clear hT hbt hrz htg)))
      have HST : Hid (∃ V, RunAt (wt.alloc (.cells #[.slice none 0 0, .slice none 0 0, .slice none 0 0, .slice none 0 0, .pointer (some ⟨tg, 0, none⟩), .iface mt (.agg #[])] 71)) w.heap.size wt.heap.size tg (.iface mt (.agg #[])) V (runD r (s.take 0))) := ⟨_, HRZ.out.1⟩
      have HSB := Lib.hid HRZ.out.2
      clear HRZ HTO HRA HM HB1
      go_loopw [29] (fun i wr => ∃ (k : Nat) (V : DV), k ≤ n ∧ i = .int .i64 k ∧ RunAt wr w.heap.size wt.heap.size tg (.iface mt (.agg #[])) V (runD r (s.take k)) ∧ Fair (6 * k) (runD r (s.take k)) ∧ nextD r (runD r (s.take k)) = none ∧ Below w.heap.size w wr) (fun i _ => n - (intOf i).toNat)
      case atStart =>
        obtain ⟨V, hV⟩ := HST.out
        exact ⟨0, V, by omega, rfl, hV, fair_zero, next_zero r, HSB.out⟩
      case round =>
        clear HST HSB
        obtain ⟨wo, rfl⟩ : ∃ z : World, z = wr := ⟨_, rfl⟩
        obtain ⟨k, V, hk, rfl, hA, hF, hN, hb⟩ := hrel
        have hs := hb.size
        by_cases hlt : k < n
        · obtain ⟨bs, off, o, hAe, hbl, ho, c0, c1, c2⟩ := (HX.out.below hb (Nat.le_refl _)).at_ hlt
          subst hAe
          have hvo := HVS.out o (List.mem_of_getElem? ho)
          have hsc := runD_succ (r := r) ho
          rw [runStep_ask hN] at hsc
          obtain ⟨D, hD⟩ : ∃ D, runD r (s.take k) = D := ⟨_, rfl⟩
          rw [hD] at hA hF hsc
          have hfa := hF.ask (r := r) hA.ok hvo
          have hln := hF.lens (by omega)
          obtain ⟨W, hW⟩ : ∃ W : World, W = wo.alloc (.cells #[.int .i64 o.tx, .int .i64 o.kind, .int .i64 o.item] 62) := ⟨_, rfl⟩
          have hbW : Below wo.heap.size wo W := by rw [hW]; exact (Below.refl _ _).alloc (Nat.le_refl _) _
          have hAW := hA.lat hbW
          rw [← HMV.out] at hAW
          have hak := ask_run r w.heap.size wt.heap.size tg V D o W hAW hvo hF.comp (by omega) (by omega)
          rw [HMV.out] at hak hAW
          have HAK := Lib.hid hak
          have HAW := Lib.hid hAW
          have HFA := Lib.hid hfa
          have HSC := Lib.hid hsc
          have HW := Lib.hid hW
          have HBW := Lib.hid (hb.trans (hbW.mono hs))
          have hki : (k : Int) < (n : Int) := by omega
          have hk0 : (0 : Int) ≤ (k : Int) := by omega
          clear hA hF hN hb ho hvo hsc hD hfa hln hW hbW hAW hak
          obtain ⟨tx, kd, it⟩ := o
          unfold OpV.val at HAK
          simp only at c0 c1 c2 HAK HW
          go_wp2_with fail
          rw [← HW.out]
          refine HAK.out.mono ?_
          rintro e w5 ⟨rfl, V5, hA5, hS5⟩
          have HB5 : Hid (Below w.heap.size w w5) := HBW.out.trans (HAW.out.below hS5)
          rw [← HMV.out] at hA5
          have hse := settle_run r (6 * k + 6) (by omega) w.heap.size wt.heap.size tg V5 _ w5 hA5 HFA.out
          have hnx := settle_next (r := r) HFA.out
          rw [HMV.out] at hse hA5
          have HSE := Lib.hid hse
          have HNX := Lib.hid hnx
          have HA5 := Lib.hid hA5
          clear hA5 hS5 hse hnx
          go_wp2_with fail
          refine HSE.out.mono ?_
          rintro e w6 ⟨⟨rfl, V6, hA6, hS6⟩, hF6⟩
          have HB6 : Hid (Below w.heap.size w w6) := HB5.out.trans (HA5.out.below hS6)
          have HF6 := Lib.hid (And.intro hA6 hF6)
          clear hA6 hS6 hF6
          go_wp2_with fail
          go_roundw
          case rel => exact ⟨k + 1, V6, by omega, by go_num, by rw [HSC.out]; exact HF6.out.1, by rw [HSC.out]; exact HF6.out.2, by rw [HSC.out]; exact HNX.out, HB6.out⟩
          case measure => simp [intOf]; omega
        · obtain rfl : k = n := by omega
          have hte : s.take k = s := List.take_of_length_le (by have := HL.out; omega)
          rw [hte] at hA hF hN
          have HF : Hid (RunPost b s w (.returned (.tuple #[.pointer (some ⟨wt.heap.size, 0, none⟩), .bool true])) wo) := ⟨hb, .inr ⟨r, wt.heap.size, tg, V, HOK.out, HR.out, rfl, by rw [HMV.out]; exact hA, ⟨hF.val, hF.comp, hF.bnd.mono (by omega)⟩, hN⟩⟩
          clear hA hF hN hb
          go_wp2_with fail
          go_ret2
          exact HF.out
end Go.Proofs.Ytncebpmckbcabaa
