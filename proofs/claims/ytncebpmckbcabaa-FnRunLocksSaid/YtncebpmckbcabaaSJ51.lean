/-
  Texts that the proof rests on, joined: part 51.
-/
import Derived.Test.YtncebpmckbcabaaSJ17
import Derived.Test.YtncebpmckbcabaaSJ47
import Derived.Test.YtncebpmckbcabaaSJ50
namespace Go.Proofs.Ytncebpmckbcabaa
set_option linter.unusedVariables false

/-- What the operations that are done, and the steps that are taken, keep. -/
structure Core (d L : List OpV) : Prop where
  held : HeldAs d L
  legal : Legal L
  okL : ∀ a ∈ L, okStep a = true
  rig : ∀ k, k < d.length → opnB isAcc d k = false
  ends : d.Pairwise (fun a b => isEnd a = true → a.tx ≠ b.tx)
  lk : L.length ≤ (d.filter isAcc).length + 3 * (d.filter isEnd).length
theorem Core.nil : Core [] [] := ⟨HeldAs.nil, legal_nil, fun a h => (by cases h), fun k h => (by cases h), List.Pairwise.nil, Nat.le_refl _⟩
theorem opn_front {d : List OpV} {o : OpV} {k : Nat} (h : k < d.length) : opnB isAcc (d ++ [o]) k = opnB isAcc d k := by
  unfold opnB
  rw [List.getElem?_append_left h, List.take_append_of_le_length (by omega)]
theorem act_mem {d : List OpV} {t : Int} (h : Act d t) {o : OpV} (ho : o ∈ d) (he : isEnd o = true) : o.tx ≠ t := fun e => by
  rw [h o ho e] at he; cases he
/-- One operation more, with nobody in its way. -/
theorem Core.push {d L : List OpV} (h : Core d L) {o : OpV} (hv : validOp o = true) (ha : Act d o.tx) (hw : wayO L o = []) : Core (d ++ [o]) (grantL L o) := by
  have hat : (d ++ [o])[d.length]? = some o := by rw [List.getElem?_append_right (Nat.le_refl _), Nat.sub_self]; rfl
  have htk : (d ++ [o]).take d.length = d := by rw [List.take_left']; rfl
  have hH : HeldAs ((d ++ [o]).take d.length) L := by rw [htk]; exact h.held
  have hopn : opnB isAcc (d ++ [o]) d.length = false := by
    cases he : isEnd o
    · cases hb : opnB isAcc (d ++ [o]) d.length
      · rfl
      · exfalso
        obtain ⟨u, hu, hne, hh⟩ := (opn_way hH hat hv he).1 hb
        have hk := acc_kind hv he
        have hm : u ∈ wayO L o := by
          rw [way_acc he]
          unfold inWayI
          rw [List.mem_filter]
          refine ⟨by rcases (by omega : u = 0 ∨ u = 1 ∨ u = 2 ∨ u = 3) with rfl | rfl | rfl | rfl <;> simp, ?_⟩
          simp only [Bool.and_eq_true, bne_iff_ne, decide_eq_true_eq, Bool.or_eq_true, beq_iff_eq]
          rcases hh with ⟨e, hh⟩ | ⟨e, hh⟩
          · exact ⟨hne, by omega, .inl hh⟩
          · exact ⟨hne, hh, .inr e⟩
        rw [hw] at hm
        cases hm
    · unfold opnB
      rw [hat]
      simp only
      rw [List.any_eq_false]
      intro p _ hh
      simp only [Bool.and_eq_true, confB] at hh
      have := hh.1.2.1.1.2
      rw [end_noAcc he] at this
      cases this
  have hlk := (lk_legal hH hat hv h.okL h.legal).2 hopn
  refine ⟨h.held.grant hv ha, ?_, ?_, ?_, ?_, ?_⟩
  · rw [lk_grant] at hlk
    split at hlk
    · exact hlk
    · exact legal_front hlk
  · obtain ⟨fs, g1, _, g3, _⟩ := lk_app (L := L) hv
    intro a ha'
    have : a ∈ lkStep L o := by
      rw [lk_grant]
      split
      · exact ha'
      · exact List.mem_append.2 (.inl ha')
    rw [g1] at this
    rcases List.mem_append.1 this with h1 | h1
    · exact h.okL a h1
    · exact (g3 a h1).2.1
  · intro k hk
    rw [List.length_append, List.length_singleton] at hk
    by_cases e : k = d.length
    · subst e; exact hopn
    · rw [opn_front (by omega)]; exact h.rig k (by omega)
  · rw [List.pairwise_append]
    refine ⟨h.ends, List.pairwise_singleton _ _, fun a ha' b hb he => ?_⟩
    rw [List.mem_singleton] at hb
    subst hb
    exact act_mem ha ha' he
  · rw [List.filter_append, List.filter_append, List.length_append, List.length_append]
    have := h.lk
    unfold grantL
    cases he : isEnd o
    · have hia := noEnd_acc hv he
      simp only [Bool.false_eq_true, if_false, List.filter_cons, List.filter_nil, he, hia, if_true, List.length_singleton, List.length_nil]
      split
      · rw [List.length_append, List.length_singleton]; omega
      · omega
    · have hna := end_noAcc he
      have := dropL_len L o.tx
      simp only [if_true, List.filter_cons, List.filter_nil, he, hna, Bool.false_eq_true, if_false, List.length_singleton, List.length_nil]
      omega
/-- What the run keeps: p the operations that were asked, h what is in hand. -/
structure RInv (p h : List OpV) (D : Dsk) : Prop where
  core : Core D.done D.locks
  live : ∀ t, t ∉ D.dead → opsOf D.done t ++ (opsOf h t ++ opsOf D.wait t) = opsOf p t
  gone : ∀ t ∈ D.dead, opsOf D.wait t = [] ∧ (⟨t, 3, 0⟩ : OpV) ∈ D.done
  nodup : D.dead.Nodup
  len : D.done.length + (h.length + D.wait.length) ≤ p.length + D.dead.length
  hand : ∀ o ∈ h, o.tx ∉ D.dead
theorem RInv.zero : RInv [] [] Dsk.zero := ⟨Core.nil, fun t _ => rfl, fun t h => (by cases h), List.nodup_nil, Nat.le_refl _, fun o h => (by cases h)⟩
theorem ops_nil {l : List OpV} {t : Int} : opsOf l t = [] ↔ ∀ o ∈ l, o.tx ≠ t := by
  unfold opsOf
  rw [List.filter_eq_nil_iff]
  exact ⟨fun h o ho e => h o ho (by simpa using e), fun h o ho e => h o ho (by simpa using e)⟩
theorem mem_ops {l : List OpV} {t : Int} {o : OpV} : o ∈ opsOf l t ↔ o ∈ l ∧ o.tx = t := by
  unfold opsOf
  rw [List.mem_filter]
  simp
theorem ops_app (a b : List OpV) (t : Int) : opsOf (a ++ b) t = opsOf a t ++ opsOf b t := List.filter_append _ _
theorem ops_one (o : OpV) (t : Int) : opsOf [o] t = if o.tx = t then [o] else [] := by
  unfold opsOf
  rw [List.filter_cons, List.filter_nil]
  simp only [beq_iff_eq]
section
variable {p : List OpV} {h : List OpV} {D : Dsk} {o : OpV}
/-- In p nothing of a transaction comes behind its end: what is done ahead of something else is no end. -/
theorem RInv.act (hI : RInv p h D) (hp : p.Pairwise (fun a b => isEnd a = true → a.tx ≠ b.tx)) {t : Int} (ht : t ∉ D.dead) (hne : opsOf h t ++ opsOf D.wait t ≠ []) : Act D.done t := fun a ha hat => by
  cases he : isEnd a
  · rfl
  · exfalso
    have hl := hI.live t ht
    have hpw : (opsOf p t).Pairwise (fun a b => isEnd a = true → a.tx ≠ b.tx) := List.Pairwise.filter _ hp
    rw [← hl, List.pairwise_append] at hpw
    obtain ⟨b, hb⟩ := List.exists_mem_of_ne_nil _ hne
    have h1 := hpw.2.2 a (mem_ops.2 ⟨ha, hat⟩) b hb he
    have hbt : b.tx = t := by
      rcases List.mem_append.1 hb with hb | hb
      · exact (mem_ops.1 hb).2
      · exact (mem_ops.1 hb).2
    exact h1 (hat.trans hbt.symm)
theorem RInv.alive (hI : RInv p h D) {t : Int} (ha : Act D.done t) : t ∉ D.dead := fun hd => by
  have := ha _ (hI.gone t hd).2 rfl
  simp [isEnd] at this
/-- The operation in hand is done. -/
theorem RInv.grant (hI : RInv p [o] D) (hp : p.Pairwise (fun a b => isEnd a = true → a.tx ≠ b.tx)) (hv : validOp o = true) (hw : wayO D.locks o = []) : RInv p [] (grantD D o) := by
  have ht := hI.hand o (List.mem_singleton.2 rfl)
  have ha : Act D.done o.tx := hI.act hp ht (by rw [ops_one, if_pos rfl]; simp)
  refine ⟨hI.core.push hv ha hw, fun t htd => ?_, fun t htd => ⟨(hI.gone t htd).1, List.mem_append.2 (.inl (hI.gone t htd).2)⟩, hI.nodup, ?_, fun q hq => by cases hq⟩
  · rw [← hI.live t htd]
    show opsOf (D.done ++ [o]) t ++ ([] ++ opsOf D.wait t) = _
    rw [ops_app, List.nil_append, List.append_assoc]
  · have := hI.len
    show (D.done ++ [o]).length + (0 + D.wait.length) ≤ p.length + D.dead.length
    rw [List.length_append]
    simp only [List.length_singleton] at this ⊢
    omega
/-- The operation in hand waits. -/
theorem RInv.waits (hI : RInv p [o] D) (hno : opsOf D.wait o.tx = []) : RInv p [] (waitD D o) := by
  refine ⟨hI.core, fun t htd => ?_, fun t htd => ?_, hI.nodup, ?_, fun q hq => by cases hq⟩
  · rw [← hI.live t htd]
    show opsOf D.done t ++ ([] ++ opsOf (D.wait ++ [o]) t) = _
    rw [ops_app, List.nil_append, ops_one]
    split
    · rename_i e; rw [← e, hno]; rfl
    · simp
  · have := hI.gone t htd
    refine ⟨?_, this.2⟩
    show opsOf (D.wait ++ [o]) t = []
    rw [ops_app, this.1, ops_one, if_neg (fun e : o.tx = t => hI.hand o (List.mem_singleton.2 rfl) (by rw [e]; exact htd))]
    rfl
  · have := hI.len
    show D.done.length + (0 + (D.wait ++ [o]).length) ≤ p.length + D.dead.length
    rw [List.length_append]
    simp only [List.length_singleton] at this ⊢
    omega
/-- A transaction is aborted; what is in hand is another's. -/
theorem RInv.kill (hI : RInv p h D) {t : Int} (ha : Act D.done t) (hr : 0 ≤ t ∧ t ≤ 3) (hh : ∀ q ∈ h, q.tx ≠ t) : RInv p h (killD D t) := by
  have hal := hI.alive ha
  have hv : validOp (⟨t, 3, 0⟩ : OpV) = true := by
    rcases (by omega : t = 0 ∨ t = 1 ∨ t = 2 ∨ t = 3) with rfl | rfl | rfl | rfl <;> rfl
  have hc : Core (killD D t).done (killD D t).locks := by
    have := hI.core.push (o := ⟨t, 3, 0⟩) hv ha (way_end rfl _)
    exact this
  refine ⟨hc, fun u hu => ?_, fun u hu => ?_, ?_, ?_, fun q hq hd => ?_⟩
  · have hut : u ≠ t := fun e => hu (by rw [e]; exact List.mem_append.2 (.inr (List.mem_singleton.2 rfl)))
    have hud : u ∉ D.dead := fun e => hu (List.mem_append.2 (.inl e))
    rw [← hI.live u hud]
    show opsOf (D.done ++ [⟨t, 3, 0⟩]) u ++ (opsOf h u ++ opsOf (D.wait.filter fun o => o.tx != t) u) = _
    rw [ops_app, ops_one, if_neg (fun e => hut e.symm), List.append_nil]
    have : opsOf (D.wait.filter fun o => o.tx != t) u = opsOf D.wait u := by
      unfold opsOf
      rw [List.filter_filter]
      refine List.filter_congr fun q _ => ?_
      by_cases e : q.tx = u
      · simp [e, hut]
      · simp [e]
    rw [this]
  · rcases List.mem_append.1 hu with hu | hu
    · obtain ⟨g1, g2⟩ := hI.gone u hu
      refine ⟨?_, List.mem_append.2 (.inl g2)⟩
      rw [ops_nil] at g1 ⊢
      exact fun q hq => g1 q (List.mem_filter.1 hq).1
    · rw [List.mem_singleton] at hu
      subst hu
      refine ⟨?_, List.mem_append.2 (.inr (List.mem_singleton.2 rfl))⟩
      rw [ops_nil]
      intro q hq
      have := (List.mem_filter.1 hq).2
      simpa using this
  · show (D.dead ++ [t]).Nodup
    rw [List.nodup_append]
    refine ⟨hI.nodup, by simp, ?_⟩
    intro a ha' b hb e
    rw [List.mem_singleton] at hb
    subst hb
    subst e
    exact hal ha'
  · have := hI.len
    show (D.done ++ [(⟨t, 3, 0⟩ : OpV)]).length + (h.length + (D.wait.filter fun o => o.tx != t).length) ≤ p.length + (D.dead ++ [t]).length
    have h2 := List.length_filter_le (fun o : OpV => o.tx != t) D.wait
    rw [List.length_append, List.length_append]
    simp only [List.length_singleton]
    omega
  · rcases List.mem_append.1 hd with hd | hd
    · exact hI.hand q hq hd
    · rw [List.mem_singleton] at hd
      exact hh q hq hd
/-- What is in hand is dropped with its transaction. -/
theorem RInv.killOwn (hI : RInv p [o] D) (hp : p.Pairwise (fun a b => isEnd a = true → a.tx ≠ b.tx)) (hr : 0 ≤ o.tx ∧ o.tx ≤ 3) : RInv p [] (killD D o.tx) := by
  have ht := hI.hand o (List.mem_singleton.2 rfl)
  have ha : Act D.done o.tx := hI.act hp ht (by rw [ops_one, if_pos rfl]; simp)
  have hI2 : RInv p [] (killD ⟨D.done, D.wait, D.locks, D.dead⟩ o.tx) := by
    have hv : validOp (⟨o.tx, 3, 0⟩ : OpV) = true := by
      generalize o.tx = t at hr
      rcases (by omega : t = 0 ∨ t = 1 ∨ t = 2 ∨ t = 3) with rfl | rfl | rfl | rfl <;> rfl
    have hc : Core (killD D o.tx).done (killD D o.tx).locks := hI.core.push (o := ⟨o.tx, 3, 0⟩) hv ha (way_end rfl _)
    refine ⟨hc, fun u hu => ?_, fun u hu => ?_, ?_, ?_, fun q hq => by cases hq⟩
    · have hut : u ≠ o.tx := fun e => hu (by rw [e]; exact List.mem_append.2 (.inr (List.mem_singleton.2 rfl)))
      have hud : u ∉ D.dead := fun e => hu (List.mem_append.2 (.inl e))
      rw [← hI.live u hud]
      show opsOf (D.done ++ [⟨o.tx, 3, 0⟩]) u ++ ([] ++ opsOf (D.wait.filter fun q => q.tx != o.tx) u) = _
      rw [ops_app, ops_one, if_neg (fun e => hut e.symm), List.append_nil, ops_one, if_neg (fun e => hut e.symm)]
      have : opsOf (D.wait.filter fun q => q.tx != o.tx) u = opsOf D.wait u := by
        unfold opsOf
        rw [List.filter_filter]
        refine List.filter_congr fun q _ => ?_
        by_cases e : q.tx = u
        · simp [e, hut]
        · simp [e]
      rw [this]
    · rcases List.mem_append.1 hu with hu | hu
      · obtain ⟨g1, g2⟩ := hI.gone u hu
        refine ⟨?_, List.mem_append.2 (.inl g2)⟩
        rw [ops_nil] at g1 ⊢
        exact fun q hq => g1 q (List.mem_filter.1 hq).1
      · rw [List.mem_singleton] at hu
        subst hu
        refine ⟨?_, List.mem_append.2 (.inr (List.mem_singleton.2 rfl))⟩
        rw [ops_nil]
        intro q hq
        have := (List.mem_filter.1 hq).2
        simpa using this
    · show (D.dead ++ [o.tx]).Nodup
      rw [List.nodup_append]
      refine ⟨hI.nodup, by simp, ?_⟩
      intro a ha' b hb e
      rw [List.mem_singleton] at hb
      subst hb
      subst e
      exact ht ha'
    · have := hI.len
      show (D.done ++ [(⟨o.tx, 3, 0⟩ : OpV)]).length + (0 + (D.wait.filter fun q => q.tx != o.tx).length) ≤ p.length + (D.dead ++ [o.tx]).length
      have h2 := List.length_filter_le (fun q : OpV => q.tx != o.tx) D.wait
      rw [List.length_append, List.length_append]
      simp only [List.length_singleton] at this ⊢
      omega
  exact hI2
theorem held_act (hI : RInv p h D) {t x : Int} (hh : 0 ≤ heldI D.locks t x) : Act D.done t := ((hI.core.held.pos t x).1 hh).1
/-- All that are in the way and are to be aborted. -/
theorem RInv.kills (hI : RInv p [o] D) (ts : List Int) (hnd : ts.Nodup) (hts : ∀ t ∈ ts, (0 ≤ t ∧ t ≤ 3) ∧ t ≠ o.tx ∧ Act D.done t) : RInv p [o] (killsD D ts) ∧ opsOf (killsD D ts).wait o.tx = opsOf D.wait o.tx ∧ ∀ u x : Int, (u ∉ ts → heldI (killsD D ts).locks u x = heldI D.locks u x) ∧ (u ∈ ts → 0 ≤ x → x < 3 → heldI (killsD D ts).locks u x < 0) := by
  induction ts generalizing D with
  | nil => exact ⟨hI, rfl, fun u x => ⟨fun _ => rfl, fun hu => by cases hu⟩⟩
  | cons t r ih =>
    obtain ⟨g1, g2, g3⟩ := hts t List.mem_cons_self
    have hk := hI.kill g3 g1 (fun q hq e => by rw [List.mem_singleton] at hq; subst hq; exact g2 e.symm)
    rw [List.nodup_cons] at hnd
    obtain ⟨q1, q2, q3⟩ := ih (D := killD D t) hk hnd.2 (fun u hu => by
      obtain ⟨k1, k2, k3⟩ := hts u (List.mem_cons_of_mem _ hu)
      refine ⟨k1, k2, ?_⟩
      show Act (D.done ++ [⟨t, 3, 0⟩]) u
      rw [Act.snoc]
      exact ⟨k3, fun e => absurd (show t = u from e) (fun e : t = u => hnd.1 (by rw [e]; exact hu))⟩)
    refine ⟨q1, ?_, fun u x => ?_⟩
    · rw [show killsD D (t :: r) = killsD (killD D t) r from rfl, q2]
      show opsOf (D.wait.filter fun q => q.tx != t) o.tx = _
      unfold opsOf
      rw [List.filter_filter]
      refine List.filter_congr fun q _ => ?_
      by_cases e : q.tx = o.tx
      · simp [e, Ne.symm g2]
      · simp [e]
    · rw [show killsD D (t :: r) = killsD (killD D t) r from rfl]
      obtain ⟨d1, d2⟩ := dropL_held D.locks t u x
      constructor
      · intro hu
        rw [(q3 u x).1 (fun e => hu (List.mem_cons_of_mem _ e))]
        exact d1 (.inl (fun e => hu (e ▸ List.mem_cons_self)))
      · intro hu h0 h3
        by_cases hur : u ∈ r
        · exact (q3 u x).2 hur h0 h3
        · rw [(q3 u x).1 hur]
          rcases List.mem_cons.1 hu with e | e
          · exact d2 e h0 h3
          · exact absurd e hur
end
end Go.Proofs.Ytncebpmckbcabaa
