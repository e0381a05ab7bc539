/-
  Texts that the proof rests on, joined: part 15.
-/
import Derived.BigRegion
import Derived.Test.YtncebpmckbcabaaSSt4
import Derived.Test.YtncebpmckbcabaaSSt14
namespace Go.Proofs.Ytncebpmckbcabaa
open Go.RowKit Go.BigFrame
set_option linter.unusedVariables false

structure StSt where
  done : List OpV
  dead : List Int
  rd : List Int
  wr : List Int
def at3 (L : List Int) (x : Int) : Int := L.getD x.toNat (-1)
def stPut (S : StSt) (o : OpV) : StSt := { S with done := S.done ++ [o] }
def stKill (S : StSt) (t : Int) : StSt := { S with done := S.done ++ [⟨t, 3, 0⟩], dead := S.dead ++ [t] }
def stRead (S : StSt) (o : OpV) (p : Int) : StSt := { S with done := S.done ++ [o], rd := S.rd.set o.item.toNat (max (at3 S.rd o.item) p) }
def stWrite (S : StSt) (o : OpV) (p : Int) : StSt := { S with done := S.done ++ [o], wr := S.wr.set o.item.toNat p }
def stStep (p : Int) (skip : Bool) (S : StSt) (o : OpV) : StSt :=
  if (S.dead.any fun y => y == o.tx) then S
  else if isEnd o then stPut S o
  else if o.kind == 0 then (if p < at3 S.wr o.item then stKill S o.tx else stRead S o p)
  else if p < at3 S.rd o.item then stKill S o.tx
  else if p < at3 S.wr o.item then (if skip then S else stKill S o.tx)
  else stWrite S o p
def stNew : StSt := ⟨[], [], [-1, -1, -1], [-1, -1, -1]⟩
def stRun (s : List OpV) (skip : Bool) : Nat → StSt
  | 0 => stNew
  | k + 1 => match s[k]? with | some o => stStep (stampN s o.tx : Nat) skip (stRun s skip k) o | none => stRun s skip k
theorem stRun_succ {s : List OpV} {skip : Bool} {k : Nat} {o : OpV} (h : s[k]? = some o) : stRun s skip (k + 1) = stStep (stampN s o.tx : Nat) skip (stRun s skip k) o := by simp only [stRun, h]

theorem at3_set {L : List Int} {i : Nat} (hi : i < L.length) (v x : Int) : at3 (L.set i v) x = if i = x.toNat then v else at3 L x := by
  unfold at3
  rw [List.getD_eq_getElem?_getD, List.getD_eq_getElem?_getD, List.getElem?_set]
  split
  · rename_i h
    subst h
    rfl
  · rfl
structure StInv (s : List OpV) (k : Nat) (S : StSt) : Prop where
  len : S.done.length ≤ k
  ops : ∀ o ∈ S.done, validOp o = true
  pw : S.done.Pairwise (fun a b => isEnd a = true → a.tx ≠ b.tx)
  src : ∀ o ∈ S.done, o ∈ s.take k ∨ o.tx ∈ S.dead
  tx : ∀ o ∈ S.done, ∃ q ∈ s, q.tx = o.tx
  dd : ∀ t ∈ S.dead, (⟨t, 3, 0⟩ : OpV) ∈ S.done
  rl : S.rd.length = 3
  wl : S.wr.length = 3
  rge : ∀ o ∈ S.done, o.kind = 0 → (stampN s o.tx : Int) ≤ at3 S.rd o.item
  wge : ∀ o ∈ S.done, o.kind = 1 → (stampN s o.tx : Int) ≤ at3 S.wr o.item
  cf : S.done.Pairwise (fun a b => confB a b = true → stampN s a.tx ≤ stampN s b.tx)
theorem pw_snoc {α : Type} {R : α → α → Prop} {L : List α} {o : α} (h : L.Pairwise R) (h' : ∀ a ∈ L, R a o) : (L ++ [o]).Pairwise R := by
  rw [List.pairwise_append]
  exact ⟨h, by simp, fun a ha b hb => by rw [List.mem_singleton] at hb; rw [hb]; exact h' a ha⟩
theorem conf_acc {a b : OpV} (h : confB a b = true) : isAcc a = true ∧ isAcc b = true ∧ a.item = b.item ∧ (a.kind = 1 ∨ b.kind = 1) := by
  unfold confB at h
  simp only [Bool.and_eq_true, Bool.or_eq_true, beq_iff_eq] at h
  exact ⟨h.1.1.1.2, h.1.1.2, h.1.2, h.2⟩
theorem StInv.ends {s : List OpV} (hv : validS s = true) {k : Nat} {S : StSt} (h : StInv s k S) {o : OpV} (ho : s[k]? = some o) (hd : o.tx ∉ S.dead) : ∀ a ∈ S.done, isEnd a = true → a.tx ≠ o.tx := fun a ha he ht => by
  rcases h.src a ha with h1 | h1
  · obtain ⟨i, hi, e⟩ := List.mem_iff_getElem.1 h1
    rw [List.getElem_take] at e
    rw [List.length_take] at hi
    have := validS_after hv (i := i) (j := k) (by rw [← e]; exact List.getElem?_eq_getElem (by omega)) ho he ht
    omega
  · exact hd (by rw [← ht]; exact h1)
theorem src_step {s : List OpV} {k : Nat} {o a : OpV} (ho : s[k]? = some o) (h : a ∈ s.take k) : a ∈ s.take (k + 1) := by
  rw [take_snoc ho]; exact List.mem_append_left _ h
theorem StInv.keep {s : List OpV} {k : Nat} {S : StSt} (h : StInv s k S) {o : OpV} (ho : s[k]? = some o) : StInv s (k + 1) S :=
  { h with len := by have := h.len; omega, src := fun a ha => (h.src a ha).imp (src_step ho) id }
theorem StInv.kill {s : List OpV} (hv : validS s = true) {k : Nat} {S : StSt} (h : StInv s k S) {o : OpV} (ho : s[k]? = some o) (hd : o.tx ∉ S.dead) : StInv s (k + 1) (stKill S o.tx) := by
  have hm := List.mem_of_getElem? ho
  have htx := validS_tx hv hm
  refine ⟨by simp [stKill]; have := h.len; omega, fun a ha => ?_, pw_snoc h.pw (fun a ha he => h.ends hv ho hd a ha he), fun a ha => ?_, fun a ha => ?_, fun t ht => ?_, h.rl, h.wl, fun a ha hk => ?_, fun a ha hk => ?_, pw_snoc h.cf fun a ha hc => ?_⟩
  · rcases List.mem_append.1 ha with ha | ha
    · exact h.ops a ha
    · rw [List.mem_singleton] at ha
      subst ha
      simp only [validOp, inR, isAcc, isEnd, Bool.and_eq_true, Bool.or_eq_true, decide_eq_true_eq, beq_iff_eq]
      exact ⟨htx, .inr ⟨.inr trivial, trivial⟩⟩
  · rcases List.mem_append.1 ha with ha | ha
    · exact (h.src a ha).imp (src_step ho) (List.mem_append_left _)
    · rw [List.mem_singleton] at ha
      subst ha
      exact .inr (List.mem_append_right _ (by simp))
  · rcases List.mem_append.1 ha with ha | ha
    · exact h.tx a ha
    · rw [List.mem_singleton] at ha
      subst ha
      exact ⟨o, hm, rfl⟩
  · rcases List.mem_append.1 ht with ht | ht
    · exact List.mem_append_left _ (h.dd t ht)
    · rw [List.mem_singleton] at ht
      subst ht
      exact List.mem_append_right _ (by simp)
  · rcases List.mem_append.1 ha with ha | ha
    · exact h.rge a ha hk
    · rw [List.mem_singleton] at ha
      subst ha
      cases hk
  · rcases List.mem_append.1 ha with ha | ha
    · exact h.wge a ha hk
    · rw [List.mem_singleton] at ha
      subst ha
      cases hk
  · have := (conf_acc hc).2.1
    cases this
theorem StInv.add {s : List OpV} (hv : validS s = true) {k : Nat} {S : StSt} (h : StInv s k S) {o : OpV} (ho : s[k]? = some o) (hd : o.tx ∉ S.dead) {rd wr : List Int} (hr : rd.length = 3) (hw : wr.length = 3)
    (h1 : ∀ x, at3 S.rd x ≤ at3 rd x) (h2 : ∀ x, at3 S.wr x ≤ at3 wr x) (h3 : o.kind = 0 → (stampN s o.tx : Int) ≤ at3 rd o.item) (h4 : o.kind = 1 → (stampN s o.tx : Int) ≤ at3 wr o.item)
    (h5 : ∀ a ∈ S.done, confB a o = true → stampN s a.tx ≤ stampN s o.tx) : StInv s (k + 1) { S with done := S.done ++ [o], rd := rd, wr := wr } := by
  have hm := List.mem_of_getElem? ho
  refine ⟨by simp; have := h.len; omega, fun a ha => ?_, pw_snoc h.pw (h.ends hv ho hd), fun a ha => ?_, fun a ha => ?_, fun t ht => List.mem_append_left _ (h.dd t ht), hr, hw, fun a ha hk => ?_, fun a ha hk => ?_, pw_snoc h.cf h5⟩
  · rcases List.mem_append.1 ha with ha | ha
    · exact h.ops a ha
    · rw [List.mem_singleton] at ha
      subst ha
      exact ((validS_iff s).1 hv).2.1 _ hm
  · rcases List.mem_append.1 ha with ha | ha
    · exact (h.src a ha).imp (src_step ho) id
    · rw [List.mem_singleton] at ha
      subst ha
      left
      rw [take_snoc ho]
      exact List.mem_append_right _ (by simp)
  · rcases List.mem_append.1 ha with ha | ha
    · exact h.tx a ha
    · rw [List.mem_singleton] at ha
      subst ha
      exact ⟨_, hm, rfl⟩
  · rcases List.mem_append.1 ha with ha | ha
    · exact Int.le_trans (h.rge a ha hk) (h1 _)
    · rw [List.mem_singleton] at ha
      subst ha
      exact h3 hk
  · rcases List.mem_append.1 ha with ha | ha
    · exact Int.le_trans (h.wge a ha hk) (h2 _)
    · rw [List.mem_singleton] at ha
      subst ha
      exact h4 hk
theorem StInv.step {s : List OpV} (hv : validS s = true) {k : Nat} {S : StSt} (h : StInv s k S) {o : OpV} (ho : s[k]? = some o) (skip : Bool) : StInv s (k + 1) (stStep (stampN s o.tx : Nat) skip S o) := by
  have hm := List.mem_of_getElem? ho
  have hit := validS_item hv hm
  unfold stStep
  split
  · exact h.keep ho
  · rename_i hd
    have hd : o.tx ∉ S.dead := fun hh => hd (any_eq_iff.2 hh)
    split
    · rename_i he
      have hna : isAcc o = false := by
        unfold isEnd at he
        unfold isAcc
        simp only [Bool.or_eq_true, beq_iff_eq] at he
        rw [Bool.or_eq_false_iff, beq_eq_false_iff_ne, beq_eq_false_iff_ne]
        omega
      have hna' : ¬ (o.kind = 0 ∨ o.kind = 1) := by
        unfold isAcc at hna
        rw [Bool.or_eq_false_iff, beq_eq_false_iff_ne, beq_eq_false_iff_ne] at hna
        omega
      refine h.add hv ho hd h.rl h.wl (fun _ => Int.le_refl _) (fun _ => Int.le_refl _) (fun h0 => absurd (.inl h0) hna') (fun h0 => absurd (.inr h0) hna') fun a ha hc => ?_
      have := (conf_acc hc).2.1
      rw [hna] at this
      cases this
    · split
      · rename_i h0
        have h0 : o.kind = 0 := by simpa using h0
        split
        · exact h.kill hv ho hd
        · rename_i hw
          have e : ∀ x, at3 (S.rd.set o.item.toNat (max (at3 S.rd o.item) (stampN s o.tx : Nat))) x = if o.item.toNat = x.toNat then max (at3 S.rd o.item) (stampN s o.tx : Nat) else at3 S.rd x := fun x => at3_set (by rw [h.rl]; omega) _ x
          refine h.add hv ho hd (by rw [List.length_set]; exact h.rl) h.wl (fun x => ?_) (fun _ => Int.le_refl _) (fun _ => ?_) (fun h1 => by omega) fun a ha hc => ?_
          · rw [e]
            split
            · rename_i hx
              have : at3 S.rd x = at3 S.rd o.item := by unfold at3; rw [hx]
              omega
            · exact Int.le_refl _
          · rw [e, if_pos rfl]; omega
          · obtain ⟨_, _, hx, hk⟩ := conf_acc hc
            have := h.wge a ha (by omega)
            rw [hx] at this
            omega
      · rename_i h0
        split
        · exact h.kill hv ho hd
        · rename_i hr
          split
          · split
            · exact h.keep ho
            · exact h.kill hv ho hd
          · rename_i hw
            have e : ∀ x, at3 (S.wr.set o.item.toNat (stampN s o.tx : Nat)) x = if o.item.toNat = x.toNat then ((stampN s o.tx : Nat) : Int) else at3 S.wr x := fun x => at3_set (by rw [h.wl]; omega) _ x
            refine h.add hv ho hd h.rl (by rw [List.length_set]; exact h.wl) (fun _ => Int.le_refl _) (fun x => ?_) (fun h1 => by rw [h1] at h0; exact absurd rfl h0) (fun _ => ?_) fun a ha hc => ?_
            · rw [e]
              split
              · rename_i hx
                have : at3 S.wr x = at3 S.wr o.item := by unfold at3; rw [hx]
                omega
              · exact Int.le_refl _
            · rw [e, if_pos rfl]; exact Int.le_refl _
            · obtain ⟨hka, _, hx, hk⟩ := conf_acc hc
              unfold isAcc at hka
              simp only [Bool.or_eq_true, beq_iff_eq] at hka
              rcases hka with hka | hka
              · have := h.rge a ha hka
                rw [hx] at this
                omega
              · have := h.wge a ha hka
                rw [hx] at this
                omega
theorem stRun_inv {s : List OpV} (hv : validS s = true) (skip : Bool) (k : Nat) (hk : k ≤ s.length) : StInv s k (stRun s skip k) := by
  induction k with
  | zero => exact ⟨by simp [stRun, stNew], by simp [stRun, stNew], by simp [stRun, stNew], by simp [stRun, stNew], by simp [stRun, stNew], by simp [stRun, stNew], rfl, rfl, by simp [stRun, stNew], by simp [stRun, stNew], by simp [stRun, stNew]⟩
  | succ k ih =>
    have e : s[k]? = some (s[k]'(by omega)) := List.getElem?_eq_getElem (by omega)
    generalize s[k]'(by omega) = o at e
    rw [stRun_succ e]
    exact (ih (by omega)).step hv e skip
theorem StInv.valid {s : List OpV} (hv : validS s = true) {k : Nat} (hk : k ≤ s.length) {S : StSt} (h : StInv s k S) : validS S.done = true := by
  have hval := (validS_iff s).1 hv
  exact (validS_iff S.done).2 ⟨by have := h.len; have := hval.1; omega, h.ops, h.pw⟩
theorem StInv.aborts {s : List OpV} (hv : validS s = true) {k : Nat} (hk : k ≤ s.length) {S : StSt} (h : StInv s k S) {t : Int} (ht : t ∈ S.dead) : endOf S.done t = 3 :=
  endOf_abort (o := ⟨t, 3, 0⟩) (h.valid hv hk) (h.dd t ht) rfl
/-- What is done by stamps goes in their order. -/
theorem StInv.order {s : List OpV} (hv : validS s = true) {k : Nat} (hk : k ≤ s.length) {S : StSt} (h : StInv s k S) :
    (stI s).filter (fun t => (txsOf (committed S.done)).any fun y => y == t) ∈ ordO S.done := by
  have hvd := h.valid hv hk
  have hx4 : Tx4 (committed S.done) := comm_tx4 hvd
  obtain ⟨p, hp⟩ : ∃ p, p = (stI s).filter (fun t => (txsOf (committed S.done)).any fun y => y == t) := ⟨_, rfl⟩
  rw [← hp]
  have hsub : ∀ t, t ∈ p → t ∈ txsOf (committed S.done) := fun t ht => by
    rw [hp] at ht
    exact any_eq_iff.1 (List.mem_filter.1 ht).2
  have hall : ∀ t, t ∈ txsOf (committed S.done) → t ∈ p := fun t ht => by
    rw [hp]
    refine List.mem_filter.2 ⟨?_, any_eq_iff.2 ht⟩
    obtain ⟨o, ho, _⟩ := (mem_txsOf (validS_committed hvd)).1 ht
    obtain ⟨q, hq, e⟩ := h.tx o (comm_sub ho)
    rw [mem_stI]
    exact ⟨q, hq, by rw [e]; assumption⟩
  have hso : p.Pairwise (fun a b => stampN s a < stampN s b) := by rw [hp]; exact (stI_sorted s).filter _
  have hd : p.Nodup := hso.imp fun hab e => by rw [e] at hab; omega
  have hperm : p.length = (txsOf (committed S.done)).length := by
    have h1 := nodup_len hd hsub
    have h2 := nodup_len (nodup_txsOf (committed S.done)) hall
    omega
  unfold ordO ordI
  refine List.mem_filter.2 ⟨?_, ?_⟩
  · rw [← hperm]
    have := permF_complete (list := txsOf (committed S.done)) p [] (by simpa using hd) hsub
    simpa using this
  · rw [accB_iff]
    refine List.Pairwise.imp_of_mem ?_ hso
    intro a b ha hb hab
    cases he : edgeB (grI (committed S.done)) b a
    · rfl
    · exfalso
      have hra := txsOf_rng0 _ a (hsub a ha)
      have hrb := txsOf_rng0 _ b (hsub b hb)
      have hc := ((gr_edge hx4 hrb.1 hra.1).1 he).sub (L := S.done) List.filter_sublist
      refine (cf_pair.1 hc) (h.cf.imp fun {x y} hxy hh => ?_)
      have := hxy hh.1
      rw [hh.2.1, hh.2.2] at this
      omega
end Go.Proofs.Ytncebpmckbcabaa
namespace Go.Proofs.Ytncebpmckbcabaa
open Go.RowKit Go.BigFrame
set_option linter.unusedVariables false

def marksV (l : Int) (rd wr : List Int) : List Value := [.int .i32 l, .int .u32 0] ++ rd.map (Value.int .i64 ·) ++ wr.map (Value.int .i64 ·)
def MarksAt (w : World) (m : Nat) (l : Int) (rd wr : List Int) : Prop := RowIs w m 141 (marksV l rd wr)
def f3 (k : Nat) : List Int := (List.range 3).map fun i => if i < k then -1 else 0
set_option maxRecDepth 100000 in
set_option maxHeartbeats 1000000 in
theorem marksOf_any (w : World) :
    Calls Try.prog 79 #[] w fun e w' => ∃ m, e = .returned (.pointer (some ⟨m, 0, none⟩)) ∧ w.heap.size ≤ m ∧ MarksAt w' m 0 [-1, -1, -1] [-1, -1, -1] ∧ Below w.heap.size w w' := by
  obtain ⟨W, hW⟩ : ∃ W : World, W = w.alloc (.cells #[.int .i32 0, .int .u32 0, .int .i64 0, .int .i64 0, .int .i64 0, .int .i64 0, .int .i64 0, .int .i64 0] 141) := ⟨_, rfl⟩
  have hM : MarksAt W w.heap.size 0 (f3 0) (f3 0) := by rw [hW]; exact heap_alloc_new w _
  have hb : Below w.heap.size w W := by rw [hW]; exact (Below.refl _ _).alloc (Nat.le_refl _) _
  go_enter Try.func79, Try.ntmps79
  go_wp2_with fail
  rw [← hW]
  obtain ⟨H, hH⟩ : ∃ H, w.heap.size = H := ⟨_, rfl⟩
  rw [hH] at hM
  try rw [hH]
  have HH := Lib.hid hH
  clear hH hW
  go_loopw [5] (fun i wr => ∃ k : Nat, k ≤ 3 ∧ i = .int .i64 k ∧ MarksAt wr H 0 (f3 k) (f3 k) ∧ Below w.heap.size w wr) (fun i _ => 3 - (intOf i).toNat)
  case atStart => exact ⟨0, by omega, rfl, hM, hb⟩
  case round =>
    obtain ⟨wo, rfl⟩ : ∃ z : World, z = wr := ⟨_, rfl⟩
    obtain ⟨k, hk, rfl, hM, hb⟩ := hrel
    have cM : ∀ (i : Nat) (v : Value), (marksV 0 (f3 k) (f3 k))[i]? = some v → wo.cell? ⟨H, i, none⟩ = some v := fun i v h => RowIs.cell hM h
    have zM : ∀ i : Nat, wo.frozen? ⟨H, i, none⟩ = false := fun i => RowIs.frozen hM i
    rcases (by omega : k = 0 ∨ k = 1 ∨ k = 2 ∨ k = 3) with rfl | rfl | rfl | rfl
    · have x2 := cM 2 _ rfl
      have x5 := cM 5 _ rfl
      have z2 := zM 2
      have z5 := zM 5
      have hM2 : MarksAt (((wo.setCell ⟨H, 2, none⟩ (.int .i64 (-1))).setCell ⟨H, 5, none⟩ (.int .i64 (-1))).drew) H 0 (f3 1) (f3 1) := RowIs.set (RowIs.set hM 2 (.int .i64 (-1))) 5 (.int .i64 (-1))
      have hB2 : Below w.heap.size w (((wo.setCell ⟨H, 2, none⟩ (.int .i64 (-1))).setCell ⟨H, 5, none⟩ (.int .i64 (-1))).drew) := ((hb.setCell (Nat.le_of_eq HH.out) _).setCell (Nat.le_of_eq HH.out) _).drew
      have HM2 := Lib.hid (And.intro hM2 hB2)
      clear hM2 hB2 cM zM hM
      go_wp2_with fail
      go_region
      go_wp2_with fail
      go_roundw
      case rel => exact ⟨1, by omega, by go_num, HM2.out⟩
      case measure => simp [intOf]
    · have x2 := cM 3 _ rfl
      have x5 := cM 6 _ rfl
      have z2 := zM 3
      have z5 := zM 6
      have hM2 : MarksAt (((wo.setCell ⟨H, 3, none⟩ (.int .i64 (-1))).setCell ⟨H, 6, none⟩ (.int .i64 (-1))).drew) H 0 (f3 2) (f3 2) := RowIs.set (RowIs.set hM 3 (.int .i64 (-1))) 6 (.int .i64 (-1))
      have hB2 : Below w.heap.size w (((wo.setCell ⟨H, 3, none⟩ (.int .i64 (-1))).setCell ⟨H, 6, none⟩ (.int .i64 (-1))).drew) := ((hb.setCell (Nat.le_of_eq HH.out) _).setCell (Nat.le_of_eq HH.out) _).drew
      have HM2 := Lib.hid (And.intro hM2 hB2)
      clear hM2 hB2 cM zM hM
      go_wp2_with fail
      go_region
      go_wp2_with fail
      go_roundw
      case rel => exact ⟨2, by omega, by go_num, HM2.out⟩
      case measure => simp [intOf]
    · have x2 := cM 4 _ rfl
      have x5 := cM 7 _ rfl
      have z2 := zM 4
      have z5 := zM 7
      have hM2 : MarksAt (((wo.setCell ⟨H, 4, none⟩ (.int .i64 (-1))).setCell ⟨H, 7, none⟩ (.int .i64 (-1))).drew) H 0 (f3 3) (f3 3) := RowIs.set (RowIs.set hM 4 (.int .i64 (-1))) 7 (.int .i64 (-1))
      have hB2 : Below w.heap.size w (((wo.setCell ⟨H, 4, none⟩ (.int .i64 (-1))).setCell ⟨H, 7, none⟩ (.int .i64 (-1))).drew) := ((hb.setCell (Nat.le_of_eq HH.out) _).setCell (Nat.le_of_eq HH.out) _).drew
      have HM2 := Lib.hid (And.intro hM2 hB2)
      clear hM2 hB2 cM zM hM
      go_wp2_with fail
      go_region
      go_wp2_with fail
      go_roundw
      case rel => exact ⟨3, by omega, by go_num, HM2.out⟩
      case measure => simp [intOf]
    · have hM3 : MarksAt wo H 0 [-1, -1, -1] [-1, -1, -1] := hM
      clear cM zM hM
      go_wp2_with fail
      go_ret
      exact ⟨H, rfl, Nat.le_of_eq HH.out, hM3, hb⟩
end Go.Proofs.Ytncebpmckbcabaa
