/-
  Texts that the proof rests on, joined: part 52.
-/
import Derived.Test.YtncebpmckbcabaaSJ51
namespace Go.Proofs.Ytncebpmckbcabaa
set_option linter.unusedVariables false

section
variable {p : List OpV} {D : Dsk} {o : OpV} {r : Rul}
theorem RInv.waitMem (hI : RInv p [] D) {q : OpV} (hq : q ∈ D.wait) : q.tx ∉ D.dead ∧ q ∈ p := by
  have hnd : q.tx ∉ D.dead := fun hd => (ops_nil.1 (hI.gone q.tx hd).1) q hq rfl
  refine ⟨hnd, ?_⟩
  have := hI.live q.tx hnd
  have hm : q ∈ opsOf p q.tx := by
    rw [← this]
    exact List.mem_append.2 (.inr (List.mem_append.2 (.inr (mem_ops.2 ⟨hq, rfl⟩))))
  exact (mem_ops.1 hm).1
theorem RInv.waitAct (hI : RInv p [] D) (hp : p.Pairwise (fun a b => isEnd a = true → a.tx ≠ b.tx)) {q : OpV} (hq : q ∈ D.wait) : Act D.done q.tx :=
  hI.act hp (hI.waitMem hq).1 (by
    intro e
    have : q ∈ opsOf [] q.tx ++ opsOf D.wait q.tx := List.mem_append.2 (.inr (mem_ops.2 ⟨hq, rfl⟩))
    rw [e] at this
    cases this)
theorem split_at {W : List OpV} {i : Nat} {o : OpV} (h : W[i]? = some o) : W = W.take i ++ (o :: W.drop (i + 1)) := by
  obtain ⟨hi, e⟩ := List.getElem?_eq_some_iff.1 h
  conv => lhs; rw [← List.take_append_drop i W]
  rw [List.drop_eq_getElem_cons hi, e]
/-- What may come next keeps all. -/
theorem RInv.next (hI : RInv p [] D) (hp : p.Pairwise (fun a b => isEnd a = true → a.tx ≠ b.tx)) (hpv : ∀ q ∈ p, validOp q = true) {E : Dsk} (hn : nextD r D = some E) : RInv p [] E := by
  have hwv : ∀ q ∈ D.wait, validOp q = true := fun q hq => hpv q (hI.waitMem hq).2
  rcases nextD_cases hn with ⟨i, o, hi, hf, _, rfl⟩ | ⟨hno, t, rfl, hh⟩
  · have hm := List.mem_of_getElem? hi
    rw [free_eq hi] at hf
    simp only [Bool.and_eq_true] at hf
    obtain ⟨hfr, hw⟩ := hf
    have hs := split_at hi
    have hpre : opsOf (D.wait.take i) o.tx = [] := by
      rw [ops_nil]
      unfold frstB at hfr
      rw [hi] at hfr
      simp only [List.all_eq_true] at hfr
      exact fun q hq => by simpa using hfr q hq
    refine RInv.grant (D := ⟨D.done, D.wait.take i ++ D.wait.drop (i + 1), D.locks, D.dead⟩) ⟨hI.core, fun t ht => ?_, fun t ht => ⟨?_, (hI.gone t ht).2⟩, hI.nodup, ?_, fun q hq => ?_⟩ hp (hwv o hm) (List.isEmpty_iff.1 hw)
    · rw [← hI.live t ht]
      show opsOf D.done t ++ (opsOf [o] t ++ opsOf (D.wait.take i ++ D.wait.drop (i + 1)) t) = opsOf D.done t ++ ([] ++ opsOf D.wait t)
      rw [ops_app, ops_one]
      conv => rhs; rw [hs]
      rw [ops_app, List.nil_append, show o :: D.wait.drop (i + 1) = [o] ++ D.wait.drop (i + 1) from rfl, ops_app, ops_one]
      by_cases e : o.tx = t
      · rw [if_pos e]
        rw [e] at hpre
        rw [hpre]
        rfl
      · rw [if_neg e]
        rfl
    · have := (hI.gone t ht).1
      rw [ops_nil] at this ⊢
      intro q hq
      rcases List.mem_append.1 hq with hq | hq
      · exact this q (List.mem_of_mem_take hq)
      · exact this q (List.mem_of_mem_drop hq)
    · have h1 := hI.len
      have h2 := cut_len (List.getElem?_eq_some_iff.1 hi).1
      show D.done.length + ([o].length + (D.wait.take i ++ D.wait.drop (i + 1)).length) ≤ p.length + D.dead.length
      simp only [List.length_nil, List.length_singleton] at h1 ⊢
      omega
    · rw [List.mem_singleton] at hq
      subst hq
      exact (hI.waitMem hm).1
  · rcases hh with ⟨rfl, i, o, hi, h1, h2, rfl⟩ | ⟨rfl, i, o, hi, h1, h2, rfl⟩ | ⟨rfl, hc, rfl⟩
    · have hm := List.mem_of_getElem? hi
      exact hI.kill (hI.waitAct hp hm) (validOp_txr (hwv o hm)) (fun q hq => by cases hq)
    · have hil := (List.getElem?_eq_some_iff.1 hi).1
      rw [wound_eq hi] at h1
      simp only [Bool.and_eq_true, decide_eq_true_eq] at h1
      have hw := way_ne hi h1.1 (hno i hil)
      have hm := mem_way.1 (last_mem hw)
      exact hI.kill (held_act hI hm.2.2.2.1) hm.2.1 (fun q hq => by cases hq)
    · obtain ⟨hr, q, hq, hqt⟩ := cyc_waits hc (maxL_mem hc)
      refine hI.kill ?_ hr (fun q hq => by cases hq)
      rw [← hqt]
      exact hI.waitAct hp hq
theorem RInv.settle (hI : RInv p [] D) (hp : p.Pairwise (fun a b => isEnd a = true → a.tx ≠ b.tx)) (hpv : ∀ q ∈ p, validOp q = true) : RInv p [] (settleD r D) := by
  generalize hm : msr D = m
  induction m using Nat.strongRecOn generalizing D with
  | _ m ih =>
    have hx : r = .wound → ItemsOk D.wait := fun _ => items_valid fun q hq => hpv q (hI.waitMem hq).2
    cases hn : nextD r D with
    | none => rw [settle_none hn]; exact hI
    | some E =>
      rw [settle_some hx hn]
      have := next_less hx hn
      exact ih (msr E) (by omega) (hI.next hp hpv hn) rfl
theorem nodup_filter {l : List Int} (q : Int → Bool) (h : l.Nodup) : (l.filter q).Nodup := List.Pairwise.filter q h
theorem way_nodup (L : List OpV) (o : OpV) : (wayO L o).Nodup := by
  unfold wayO inWayI
  split
  · exact List.nodup_nil
  · exact nodup_filter _ (by decide)
theorem RInv.ask (hI : RInv p [o] D) (hp : p.Pairwise (fun a b => isEnd a = true → a.tx ≠ b.tx)) (hv : validOp o = true) (hno : opsOf D.wait o.tx = []) : RInv p [] (askD r D o) := by
  unfold askD
  cases r
  · simp only
    split
    · rename_i h; exact hI.grant hp hv (List.isEmpty_iff.1 h)
    · exact hI.waits hno
  · simp only
    split
    · rename_i h; exact hI.grant hp hv (List.isEmpty_iff.1 h)
    · split
      · exact hI.killOwn hp (validOp_txr hv)
      · exact hI.waits hno
  · simp only
    obtain ⟨k1, k2, k3⟩ := hI.kills ((wayO D.locks o).filter fun u => decide (o.tx < u)) (nodup_filter _ (way_nodup _ _)) (fun t ht => by
      have hm := mem_way.1 (List.mem_filter.1 ht).1
      exact ⟨hm.2.1, hm.2.2.1, held_act hI hm.2.2.2.1⟩)
    split
    · rename_i h
      refine k1.grant hp hv ?_
      cases hw : wayO (killsD D ((wayO D.locks o).filter fun u => decide (o.tx < u))).locks o with
      | nil => rfl
      | cons u us =>
        exfalso
        have hu : u ∈ wayO (killsD D ((wayO D.locks o).filter fun u => decide (o.tx < u))).locks o := by rw [hw]; exact List.mem_cons_self
        have hm := mem_way.1 hu
        have hit := validOp_item hv (noEnd_acc hv hm.1)
        obtain ⟨q1, q2⟩ := k3 u o.item
        by_cases hk : u ∈ (wayO D.locks o).filter fun u => decide (o.tx < u)
        · have := q2 hk hit.1 (by omega)
          omega
        · have e := q1 hk
          have hu2 : u ∈ wayO D.locks o := mem_way.2 ⟨hm.1, hm.2.1, hm.2.2.1, by rw [← e]; exact hm.2.2.2.1, by rw [← e]; exact hm.2.2.2.2⟩
          have h3 : u ∈ (wayO D.locks o).filter fun u => !decide (o.tx < u) := by
            rw [List.mem_filter]
            refine ⟨hu2, ?_⟩
            cases hd : decide (o.tx < u)
            · rfl
            · exact absurd (List.mem_filter.2 ⟨hu2, hd⟩) hk
          rw [List.isEmpty_iff.1 h] at h3
          cases h3
    · exact k1.waits (by rw [k2]; exact hno)
theorem RInv.step (hI : RInv p [] D) (hp : (p ++ [o]).Pairwise (fun a b => isEnd a = true → a.tx ≠ b.tx)) (hpv : ∀ q ∈ p ++ [o], validOp q = true) : RInv (p ++ [o]) [] (runStep r D o) := by
  have hv : validOp o = true := hpv o (by simp)
  unfold runStep
  split
  · rename_i hd
    have hdm : o.tx ∈ D.dead := by
      obtain ⟨y, hy, e⟩ := List.any_eq_true.1 hd
      rw [← (show y = o.tx by simpa using e)]
      exact hy
    refine ⟨hI.core, fun t ht => ?_, hI.gone, hI.nodup, ?_, fun q hq => by cases hq⟩
    · rw [hI.live t ht, ops_app, ops_one, if_neg (fun e : o.tx = t => ht (by rw [← e]; exact hdm)), List.append_nil]
    · have := hI.len
      rw [List.length_append]
      omega
  · rename_i hd
    have hnd : o.tx ∉ D.dead := fun hm => hd (List.any_eq_true.2 ⟨o.tx, hm, by simp⟩)
    split
    · rename_i he
      have hno := List.isEmpty_iff.1 he
      have h1 : RInv (p ++ [o]) [o] D := by
        refine ⟨hI.core, fun t ht => ?_, hI.gone, hI.nodup, ?_, fun q hq => ?_⟩
        · rw [ops_app, ← hI.live t ht]
          by_cases e : o.tx = t
          · rw [← e, hno]
            simp [opsOf]
          · rw [ops_one, if_neg e]
            simp [opsOf]
        · have := hI.len
          rw [List.length_append]
          simp only [List.length_nil, List.length_singleton] at this ⊢
          omega
        · rw [List.mem_singleton] at hq
          subst hq
          exact hnd
      exact (h1.ask hp hv hno).settle hp hpv
    · refine ⟨hI.core, fun t ht => ?_, fun t ht => ?_, hI.nodup, ?_, fun q hq => by cases hq⟩
      · rw [ops_app, ← hI.live t ht]
        show opsOf D.done t ++ ([] ++ opsOf (D.wait ++ [o]) t) = _
        rw [ops_app]
        simp [opsOf]
      · obtain ⟨g1, g2⟩ := hI.gone t ht
        refine ⟨?_, g2⟩
        show opsOf (D.wait ++ [o]) t = []
        rw [ops_app, g1, ops_one, if_neg (fun e : o.tx = t => hnd (by rw [e]; exact ht))]
        rfl
      · have := hI.len
        show D.done.length + (0 + (D.wait ++ [o]).length) ≤ (p ++ [o]).length + D.dead.length
        rw [List.length_append, List.length_append]
        simp only [List.length_nil, List.length_singleton] at this ⊢
        omega
end
section
variable {s : List OpV} {r : Rul}
theorem run_inv (hv : validS s = true) (k : Nat) (hk : k ≤ s.length) : RInv (s.take k) [] (runD r (s.take k)) := by
  obtain ⟨_, h2, h3⟩ := (validS_iff s).1 hv
  induction k with
  | zero => exact RInv.zero
  | succ k ih =>
    have e : s[k]? = some (s[k]'(by omega)) := List.getElem?_eq_getElem (by omega)
    generalize s[k]'(by omega) = o at e
    have hpre : (s.take (k + 1)).Pairwise (fun a b => isEnd a = true → a.tx ≠ b.tx) := List.Pairwise.sublist (List.take_sublist _ _) h3
    have hmem : ∀ q ∈ s.take (k + 1), validOp q = true := fun q hq => h2 q (List.mem_of_mem_take hq)
    rw [take_snoc e] at hpre hmem
    rw [runD_succ e, take_snoc e]
    exact (ih (by omega)).step hpre hmem
theorem run_all (hv : validS s = true) : RInv s [] (runD r s) := by
  have := run_inv (r := r) hv s.length (Nat.le_refl _)
  rwa [List.take_length] at this
/-- Who is aborted: one of the four. -/
theorem dead_rng (hv : validS s = true) : ∀ t ∈ (runD r s).dead, 0 ≤ t ∧ t ≤ 3 := fun t ht => by
  have hI := run_all (r := r) hv
  have := validOp_txr (hI.core.held.ok _ (hI.gone t ht).2)
  exact this
theorem dead_len (hv : validS s = true) : (runD r s).dead.length ≤ 4 := PathOk.len ⟨(run_all (r := r) hv).nodup, dead_rng hv⟩
/-- What is done is a schedule. -/
theorem done_ok (hv : validS s = true) (hl : s.length ≤ 12) : validS (runD r s).done = true := by
  have hI := run_all (r := r) hv
  have h1 := hI.len
  have h2 := dead_len (r := r) hv
  exact (validS_iff _).2 ⟨by omega, hI.core.held.ok, hI.core.ends⟩
theorem ends_len {d : List OpV} (hv : ∀ o ∈ d, validOp o = true) (hp : d.Pairwise (fun a b => isEnd a = true → a.tx ≠ b.tx)) : (d.filter isEnd).length ≤ 4 := by
  have h1 : ((d.filter isEnd).map OpV.tx).Nodup := by
    rw [List.nodup_iff_pairwise_ne, List.pairwise_map]
    refine List.Pairwise.imp_of_mem ?_ (List.Pairwise.filter _ hp)
    intro a b ha hb h
    exact h (List.mem_filter.1 ha).2
  have := PathOk.len ⟨h1, fun t ht => by
    obtain ⟨o, ho, rfl⟩ := List.mem_map.1 ht
    exact validOp_txr (hv o (List.mem_filter.1 ho).1)⟩
  rwa [List.length_map] at this
theorem acc_end_len (d : List OpV) (hv : ∀ o ∈ d, validOp o = true) : (d.filter isAcc).length + (d.filter isEnd).length = d.length := by
  induction d with
  | nil => rfl
  | cons o d ih =>
    have := ih fun q hq => hv q (List.mem_cons_of_mem _ hq)
    have hvo := hv o List.mem_cons_self
    cases he : isEnd o
    · rw [List.filter_cons_of_pos (noEnd_acc hvo he), List.filter_cons_of_neg (by rw [he]; simp)]
      simp only [List.length_cons]
      omega
    · rw [List.filter_cons_of_neg (by rw [end_noAcc he]; simp), List.filter_cons_of_pos he]
      simp only [List.length_cons]
      omega
/-- The steps are valid, and legal. -/
theorem locks_fine (hv : validS s = true) (hl : s.length ≤ 12) : validL (runD r s).locks = true ∧ illI (runD r s).locks < 0 := by
  have hI := run_all (r := r) hv
  have h1 := hI.len
  have h2 := dead_len (r := r) hv
  have h3 := ends_len hI.core.held.ok hI.core.ends
  have h4 := acc_end_len _ hI.core.held.ok
  have h5 := hI.core.lk
  refine ⟨validL_iff.2 ⟨by omega, hI.core.okL⟩, ?_⟩
  rcases illI_spec (runD r s).locks with ⟨h1, _⟩ | ⟨k, hk, _, h2, _⟩
  · omega
  · rw [hI.core.legal k hk] at h2
    cases h2
theorem end_of {d : List OpV} (hp : d.Pairwise (fun a b => isEnd a = true → a.tx ≠ b.tx)) {o : OpV} (ho : o ∈ d) (he : isEnd o = true) : endOf d o.tx = o.kind := by
  unfold endOf
  cases hf : d.find? (fun q => q.tx == o.tx && isEnd q) with
  | none =>
    have := List.find?_eq_none.1 hf o ho
    simp [he] at this
  | some q =>
    have h1 := List.find?_some hf
    have h2 := List.mem_of_find?_eq_some hf
    simp only [Bool.and_eq_true, beq_iff_eq] at h1
    suffices q = o by rw [this]; rfl
    obtain ⟨i, hi, ei⟩ := List.getElem_of_mem h2
    obtain ⟨j, hj, ej⟩ := List.getElem_of_mem ho
    rw [List.pairwise_iff_getElem] at hp
    rcases Nat.lt_trichotomy i j with hlt | heq | hgt
    · have := hp i j hi hj hlt
      rw [ei, ej] at this
      exact absurd h1.1 (this h1.2)
    · subst heq; rw [← ei, ← ej]
    · have := hp j i hj hi hgt
      rw [ei, ej] at this
      exact absurd h1.1.symm (this he)
/-- Who is aborted has an abort. -/
theorem dead_end (hv : validS s = true) : ∀ t ∈ (runD r s).dead, endOf (runD r s).done t = 3 := fun t ht => by
  have hI := run_all (r := r) hv
  exact end_of hI.core.ends (hI.gone t ht).2 rfl
theorem next_empty (r : Rul) {D : Dsk} (hw : D.wait = []) : nextD r D = none := by
  have h0 : ∀ q : Nat → Bool, ∀ j, j < D.wait.length → q j = false := fun q j hj => by rw [hw] at hj; cases hj
  cases r
  · refine next_wait_no (h0 _) ?_
    have : waitsR D = [0, 0, 0, 0] := by unfold waitsR waitRow; rw [hw]; rfl
    rw [this]
    decide
  · exact next_die_no (h0 _) (h0 _)
  · exact next_wound_no (h0 _) (h0 _)
/-- Of a rigorous schedule all is done. -/
theorem rig_done (hv : validS s = true) (hr : ∀ j, j < s.length → opnB isAcc s j = false) (k : Nat) (hk : k ≤ s.length) : (runD r (s.take k)).done = s.take k ∧ (runD r (s.take k)).wait = [] ∧ (runD r (s.take k)).dead = [] := by
  induction k with
  | zero => exact ⟨rfl, rfl, rfl⟩
  | succ k ih =>
    obtain ⟨i1, i2, i3⟩ := ih (by omega)
    have e : s[k]? = some (s[k]'(by omega)) := List.getElem?_eq_getElem (by omega)
    generalize s[k]'(by omega) = o at e
    have hI := run_inv (r := r) hv k (by omega)
    have hvo := valid_op hv e
    rw [runD_succ e, take_snoc e]
    obtain ⟨D, hD⟩ : ∃ D, runD r (s.take k) = D := ⟨_, rfl⟩
    rw [hD] at i1 i2 i3 hI ⊢
    have hH : HeldAs (s.take k) D.locks := by have := hI.core.held; rwa [i1] at this
    have hway : wayO D.locks o = [] := by
      cases he : isEnd o
      · cases hw : wayO D.locks o with
        | nil => rfl
        | cons u us =>
          exfalso
          have hm := mem_way.1 (show u ∈ wayO D.locks o by rw [hw]; exact List.mem_cons_self)
          have hkd := acc_kind hvo he
          have := (opn_way hH e hvo he).2 ⟨u, hm.2.1, hm.2.2.1, by
            rcases (by omega : o.kind = 0 ∨ o.kind = 1) with q | q
            · exact .inl ⟨q, by rcases hm.2.2.2.2 with h | h <;> omega⟩
            · exact .inr ⟨q, hm.2.2.2.1⟩⟩
          rw [hr k (by omega)] at this
          cases this
      · exact way_end he _
    have hask : askD r D o = grantD D o := by
      unfold askD
      cases r <;> simp only [hway] <;> rfl
    unfold runStep
    rw [i3, i2]
    simp only [List.any_nil, Bool.false_eq_true, if_false, opsOf, List.filter_nil, List.isEmpty_nil, if_true]
    rw [hask, settle_none (next_empty r (by exact i2))]
    exact ⟨by show D.done ++ [o] = _; rw [i1], i2, i3⟩
end
end Go.Proofs.Ytncebpmckbcabaa
namespace Go.Proofs.Ytncebpmckbcabaa
set_option linter.unusedVariables false

/-- Each set of the four has one that waits for none of it. -/
def snkB (R : List Nat) : Bool := (List.range 15).all fun m => (List.range 4).any fun t => (m + 1).testBit t && (List.range 4).all fun v => !((m + 1).testBit v) || !((R.getD t 0).testBit v)
def allS (a : Nat) : Bool := (List.range 16).all fun b => b.testBit 1 || (List.range 16).all fun c => c.testBit 2 || (List.range 16).all fun d => d.testBit 3 || (!(cycT [a, b, c, d]).isEmpty || snkB [a, b, c, d])
set_option maxRecDepth 100000 in
theorem cys0 : allS 0 = true := by decide +kernel
set_option maxRecDepth 100000 in
theorem cys2 : allS 2 = true := by decide +kernel
set_option maxRecDepth 100000 in
theorem cys4 : allS 4 = true := by decide +kernel
set_option maxRecDepth 100000 in
theorem cys6 : allS 6 = true := by decide +kernel
set_option maxRecDepth 100000 in
theorem cys8 : allS 8 = true := by decide +kernel
set_option maxRecDepth 100000 in
theorem cys10 : allS 10 = true := by decide +kernel
set_option maxRecDepth 100000 in
theorem cys12 : allS 12 = true := by decide +kernel
set_option maxRecDepth 100000 in
theorem cys14 : allS 14 = true := by decide +kernel
theorem snk_cyc {R : List Nat} (h4 : Rows4 R) (hd : ∀ t : Nat, t < 4 → (R.getD t 0).testBit t = false) (hc : cycT R = []) : snkB R = true := by
  obtain ⟨hl, hr⟩ := h4
  match R, hl with
  | [a, b, c, d], _ =>
    have ha := hr a (by simp)
    have hb := hr b (by simp)
    have hcc := hr c (by simp)
    have hdd := hr d (by simp)
    have da := hd 0 (by omega)
    have db := hd 1 (by omega)
    have dc := hd 2 (by omega)
    have de := hd 3 (by omega)
    simp only [List.getD_cons_zero, List.getD_cons_succ] at da db dc de
    have hA : allS a = true := by
      have ha2 : a % 2 = 0 := by
        rw [Nat.testBit_zero] at da
        simp at da
        omega
      rcases (by omega : a = 0 ∨ a = 2 ∨ a = 4 ∨ a = 6 ∨ a = 8 ∨ a = 10 ∨ a = 12 ∨ a = 14) with rfl | rfl | rfl | rfl | rfl | rfl | rfl | rfl
      · exact cys0
      · exact cys2
      · exact cys4
      · exact cys6
      · exact cys8
      · exact cys10
      · exact cys12
      · exact cys14
    unfold allS at hA
    have h1 := all16 hA hb
    rw [db, Bool.false_or] at h1
    have h2 := all16 h1 hcc
    rw [dc, Bool.false_or] at h2
    have h3 := all16 h2 hdd
    rw [de, Bool.false_or, hc] at h3
    simpa using h3
theorem max_in {ws : List Nat} (f : Nat → Nat) (h : ws ≠ []) : ∃ t ∈ ws, ∀ u ∈ ws, f u ≤ f t := by
  induction ws with
  | nil => exact absurd rfl h
  | cons a r ih =>
    by_cases hr : r = []
    · subst hr
      exact ⟨a, List.mem_cons_self, fun u hu => by rw [List.mem_singleton] at hu; subst hu; exact Nat.le_refl _⟩
    · obtain ⟨t, ht, hm⟩ := ih hr
      by_cases hle : f a ≤ f t
      · exact ⟨t, List.mem_cons_of_mem _ ht, fun u hu => by
          rcases List.mem_cons.1 hu with rfl | hu
          · exact hle
          · exact hm u hu⟩
      · exact ⟨a, List.mem_cons_self, fun u hu => by
          rcases List.mem_cons.1 hu with rfl | hu
          · exact Nat.le_refl _
          · have := hm u hu; omega⟩
/-- Where nothing is left to be done some of each set waits for none of it. -/
theorem sink {r : Rul} {D : Dsk} (hn : nextD r D = none) {ws : List Nat} (hne : ws ≠ []) (hr : ∀ t ∈ ws, t < 4) : ∃ t ∈ ws, ∀ u ∈ ws, ((waitsR D).getD t 0).testBit u = false := by
  have rank : ∀ f : Nat → Nat, (∀ t u, ((waitsR D).getD t 0).testBit u = true → f t < f u) → ∃ t ∈ ws, ∀ u ∈ ws, ((waitsR D).getD t 0).testBit u = false := by
    intro f hf
    obtain ⟨t, ht, hm⟩ := max_in f hne
    refine ⟨t, ht, fun u hu => ?_⟩
    cases e : ((waitsR D).getD t 0).testBit u
    · rfl
    · have := hf t u e
      have := hm u hu
      omega
  cases r
  · have hs := snk_cyc (waitsR_ok D) (fun t ht => by
      cases e : ((waitsR D).getD t 0).testBit t
      · rfl
      · exact absurd rfl (wait_edge e).2.2.1) (none_wait hn)
    obtain ⟨m, hm, hbit⟩ := mask_of (S := ws.map fun n : Nat => (n : Int)) (by simpa using hne) (fun x hx => by
      obtain ⟨n, hn', rfl⟩ := List.mem_map.1 hx
      have := hr n hn'
      omega)
    unfold snkB at hs
    have h1 := List.all_eq_true.1 hs m (List.mem_range.2 hm)
    obtain ⟨t, ht, h2⟩ := List.any_eq_true.1 h1
    rw [Bool.and_eq_true] at h2
    have mem : ∀ t : Nat, t < 4 → ((m + 1).testBit t = true ↔ t ∈ ws) := fun t ht => by
      rw [hbit t ht, List.mem_map]
      constructor
      · rintro ⟨n, hn', e⟩
        have : n = t := by omega
        rw [← this]; exact hn'
      · exact fun h => ⟨t, h, rfl⟩
    refine ⟨t, (mem t (List.mem_range.1 ht)).1 h2.1, fun u hu => ?_⟩
    have h3 := List.all_eq_true.1 h2.2 u (List.mem_range.2 (hr u hu))
    rw [(mem u (hr u hu)).2 hu] at h3
    simpa using h3
  · exact rank (fun x => x) fun t u h => edge_die hn h
  · exact rank (fun x => 10 - x) fun t u h => by
      have h1 := edge_wound hn h
      have h2 := (wait_edge h).1
      show 10 - t < 10 - u
      omega
theorem end_ex {s : List OpV} {t : Int} (h : 0 ≤ endOf s t) : ∃ q ∈ s, q.tx = t ∧ isEnd q = true := by
  rcases Classical.em (∃ q ∈ s, q.tx = t ∧ isEnd q = true) with h1 | h1
  · exact h1
  · exfalso
    have : Act s t := fun o ho ht => by
      cases he : isEnd o
      · rfl
      · exact absurd ⟨o, ho, ht, he⟩ h1
    have := act_iff.2 this
    omega
/-- Where all transactions end nothing waits. -/
theorem wait_none {s : List OpV} {r : Rul} (hv : validS s = true) (he : ∀ o ∈ s, 0 ≤ endOf s o.tx) : (runD r s).wait = [] := by
  have hI := run_all (r := r) hv
  obtain ⟨_, h2, h3⟩ := (validS_iff s).1 hv
  have hn : nextD r (runD r s) = none := runD_next (items_valid h2)
  obtain ⟨D, hD⟩ : ∃ D, runD r s = D := ⟨_, rfl⟩
  rw [hD] at hI hn ⊢
  cases hw : D.wait with
  | nil => rfl
  | cons a rest =>
    exfalso
    have hne : (D.wait.map fun o => o.tx.toNat) ≠ [] := by rw [hw]; simp
    have hrg : ∀ q ∈ D.wait, 0 ≤ q.tx ∧ q.tx ≤ 3 := fun q hq => validOp_txr (h2 q (hI.waitMem hq).2)
    obtain ⟨t, ht, hs⟩ := sink hn hne (fun t ht => by
      obtain ⟨q, hq, rfl⟩ := List.mem_map.1 ht
      have := hrg q hq
      omega)
    obtain ⟨q, hq, hqt⟩ := List.mem_map.1 ht
    have hqr := hrg q hq
    have hqT : q.tx = (t : Int) := by omega
    cases hh : (opsOf D.wait q.tx).head? with
    | none =>
      rw [List.head?_eq_none_iff] at hh
      exact (ops_nil.1 hh) q hq rfl
    | some o =>
      obtain ⟨j, hj, hf, hx⟩ := first_at hh
      obtain ⟨b1, b2, b3⟩ := blocked hj hf (none_free hn j (List.getElem?_eq_some_iff.1 hj).1)
      obtain ⟨u, hu⟩ := List.exists_mem_of_ne_nil _ b3
      have hm := mem_way.1 hu
      have hact := held_act hI hm.2.2.2.1
      obtain ⟨_, o', ho', hot, _, _⟩ := (hI.core.held.pos u o.item).1 hm.2.2.2.1
      have hund := hI.alive hact
      have hl := hI.live u hund
      have hos : o' ∈ s := by
        have : o' ∈ opsOf s u := by rw [← hl]; exact List.mem_append.2 (.inl (mem_ops.2 ⟨ho', hot⟩))
        exact (mem_ops.1 this).1
      have hend := he o' hos
      rw [hot] at hend
      obtain ⟨e, hes, het, hee⟩ := end_ex hend
      have hem : e ∈ opsOf D.done u ++ (opsOf [] u ++ opsOf D.wait u) := by rw [hl]; exact mem_ops.2 ⟨hes, het⟩
      have hew : e ∈ D.wait := by
        rcases List.mem_append.1 hem with h | h
        · exact absurd (mem_ops.1 h).2 (act_mem hact (mem_ops.1 h).1 hee)
        · rcases List.mem_append.1 h with h | h
          · cases h
          · exact (mem_ops.1 h).1
      have hmem : u.toNat ∈ D.wait.map fun o => o.tx.toNat := List.mem_map.2 ⟨e, hew, by rw [het]⟩
      have hno := hs u.toNat hmem
      have htl : t < 4 := by omega
      rw [waitsR_at D htl] at hno
      have hyes : (waitRow D (t : Int)).testBit u.toNat = true := by
        rw [waitRow_bit]
        refine ⟨o, by rw [← hqT]; exact hh, b1, ?_⟩
        have e1 : ((u.toNat : Nat) : Int) = u := by omega
        rw [e1, ← hqT, ← hx, ← b2]
        exact hu
      rw [hyes] at hno
      cases hno
end Go.Proofs.Ytncebpmckbcabaa
