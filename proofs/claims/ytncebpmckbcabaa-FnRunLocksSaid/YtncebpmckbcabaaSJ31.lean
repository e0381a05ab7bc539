/-
  Texts that the proof rests on, joined: part 31.
-/
import Derived.Test.YtncebpmckbcabaaSJ14
import Derived.Test.YtncebpmckbcabaaSJ29
import Derived.Test.YtncebpmckbcabaaSJ30
namespace Go.Proofs.Ytncebpmckbcabaa
open Go.RowKit Go.BigFrame
set_option linter.unusedVariables false

/-- The manners of runs. -/
def mannerV : Rul → Value
  | .wait => .iface 147 (.agg #[])
  | .die => .iface 148 (.agg #[])
  | .wound => .iface 149 (.agg #[])
/-- What is asked: nothing of the dead, behind those that wait, or as the rule says. -/
def askP (r : Rul) (d : Dsk) (o : OpV) : Dsk := if d.dead.any fun y => y == o.tx then d else if d.wait.any fun p => p.tx == o.tx then waitD d o else askD r d o
theorem askP_dead (r : Rul) (d : Dsk) (o : OpV) (h : (d.dead.any fun y => y == o.tx) = true) : askP r d o = d := by unfold askP; rw [if_pos h]
theorem askP_wait (r : Rul) (d : Dsk) (o : OpV) (h : (d.dead.any fun y => y == o.tx) = false) (h2 : (d.wait.any fun p => p.tx == o.tx) = true) : askP r d o = waitD d o := by unfold askP; rw [if_neg (by rw [h]; simp), if_pos h2]
theorem askP_ask (r : Rul) (d : Dsk) (o : OpV) (h : (d.dead.any fun y => y == o.tx) = false) (h2 : (d.wait.any fun p => p.tx == o.tx) = false) : askP r d o = askD r d o := by unfold askP; rw [if_neg (by rw [h]; simp), if_neg (by rw [h2]; simp)]
theorem ask1_any (o : OpV) (t : Int) (b : Nat) (w : World) (hc : w.cell? ⟨b, 0, none⟩ = some (.int .i64 t)) :
    Calls Try.prog 129 #[o.val, .pointer (some ⟨b, 0, none⟩)] w fun e w' => e = .returned (.bool (o.tx == t)) ∧ Below w.heap.size w w' := by
  obtain ⟨x, k, i⟩ := o
  unfold OpV.val
  have hbl : b < w.heap.size := block_lt_of_cell hc
  go_enter Try.func129, Try.ntmps129
  go_wp2_with fail
  go_ret
  exact ⟨rfl, (Below.refl _ _).alloc (Nat.le_refl _) _⟩
theorem runs_ask1 : Runs 129 := runs_of Try.func129 (by kernel_rfl) rfl
theorem kills_lens (d : Dsk) (ts : List Int) : (killsD d ts).done.length = d.done.length + ts.length ∧ (killsD d ts).dead.length = d.dead.length + ts.length ∧ (killsD d ts).wait.length ≤ d.wait.length ∧ (killsD d ts).locks.length ≤ d.locks.length + 3 * ts.length := by
  induction ts generalizing d with
  | nil => exact ⟨rfl, rfl, Nat.le_refl _, Nat.le_refl _⟩
  | cons t r ih =>
    obtain ⟨h1, h2, h3, h4⟩ := ih (killD d t)
    have e : killsD d (t :: r) = killsD (killD d t) r := rfl
    have l1 : (killD d t).done.length = d.done.length + 1 := by simp [killD]
    have l2 : (killD d t).dead.length = d.dead.length + 1 := by simp [killD]
    have l3 : (killD d t).wait.length ≤ d.wait.length := List.length_filter_le _ _
    have l4 : (killD d t).locks.length ≤ d.locks.length + 3 := dropL_len d.locks t
    rw [e]
    simp only [List.length_cons]
    omega
theorem dropL_ge {L : List OpV} {t u x : Int} (h : 0 ≤ heldI (dropL L t) u x) : heldI (dropL L t) u x = heldI L u x ∧ (u = t → x < 0 ∨ 3 ≤ x) := by
  obtain ⟨h1, h2⟩ := dropL_held L t u x
  by_cases e : u ≠ t ∨ x < 0 ∨ 3 ≤ x
  · exact ⟨h1 e, fun hu => by omega⟩
  · have := h2 (by omega) (by omega) (by omega)
    omega
theorem Compat.drop {L : List OpV} (h : Compat L) (t : Int) : Compat (dropL L t) := fun a b x hab h1 h2 => by
  have e1 := (dropL_ge h1).1
  have e2 := (dropL_ge (u := b) (by rw [h2]; omega)).1
  exact h a b x hab (by rw [← e1]; exact h1) (by rw [← e2]; exact h2)
theorem kills_compat {d : Dsk} (ts : List Int) (h : Compat d.locks) : Compat (killsD d ts).locks := by
  induction ts generalizing d with
  | nil => exact h
  | cons t r ih => exact ih (d := killD d t) (h.drop t)
theorem kills_held (d : Dsk) (ts : List Int) (u x : Int) (hx : 0 ≤ x ∧ x ≤ 2) : (u ∈ ts → heldI (killsD d ts).locks u x < 0) ∧ (u ∉ ts → heldI (killsD d ts).locks u x = heldI d.locks u x) := by
  induction ts generalizing d with
  | nil => exact ⟨fun h => (by cases h), fun _ => rfl⟩
  | cons t r ih =>
    obtain ⟨i1, i2⟩ := ih (killD d t)
    obtain ⟨h1, h2⟩ := dropL_held d.locks t u x
    have e : killsD d (t :: r) = killsD (killD d t) r := rfl
    have e2 : (killD d t).locks = dropL d.locks t := rfl
    rw [e]
    rw [e2] at i2
    refine ⟨fun h => ?_, fun h => ?_⟩
    · by_cases hr : u ∈ r
      · exact i1 hr
      · have : u = t := by
          rcases List.mem_cons.1 h with h | h
          · exact h
          · exact absurd h hr
        rw [i2 hr]
        exact h2 this (by omega) (by omega)
    · rw [i2 (fun hr => h (List.mem_cons_of_mem _ hr))]
      exact h1 (.inl fun e => h (by rw [e]; exact List.mem_cons_self))
/-- Who is left in the way when the greater ones are aborted. -/
theorem way_kills {D : Dsk} {o : OpV} (hc : Compat D.locks) (hv : validOp o = true) : (wayO (killsD D ((wayO D.locks o).filter fun u => decide (o.tx < u))).locks o).isEmpty = ((wayO D.locks o).filter fun u => !decide (o.tx < u)).isEmpty := by
  obtain ⟨_, hk, hi⟩ := validOp_parts hv
  cases he : isEnd o
  · have hkk : o.kind ≤ 1 := by
      unfold isEnd at he
      simp only [Bool.or_eq_false_iff, beq_eq_false_iff_ne] at he
      omega
    have hx := hi hkk
    have key : ∀ u, u ∈ wayO (killsD D ((wayO D.locks o).filter fun u => decide (o.tx < u))).locks o ↔ u ∈ (wayO D.locks o).filter fun u => !decide (o.tx < u) := fun u => by
      obtain ⟨k1, k2⟩ := kills_held D ((wayO D.locks o).filter fun u => decide (o.tx < u)) u o.item hx
      rw [List.mem_filter, mem_way, mem_way]
      by_cases hm : u ∈ (wayO D.locks o).filter fun u => decide (o.tx < u)
      · have h1 := k1 hm
        obtain ⟨_, m2⟩ := List.mem_filter.1 hm
        simp only [decide_eq_true_eq] at m2
        constructor
        · rintro ⟨_, _, _, h4, _⟩; omega
        · rintro ⟨_, h5⟩; simp at h5; omega
      · have h1 := k2 hm
        rw [h1]
        constructor
        · intro h
          refine ⟨h, ?_⟩
          have : ¬ o.tx < u := fun hlt => hm (List.mem_filter.2 ⟨mem_way.2 h, by simpa using hlt⟩)
          simpa using this
        · exact fun h => h.1
    rw [Bool.eq_iff_iff, List.isEmpty_iff, List.isEmpty_iff, List.eq_nil_iff_forall_not_mem, List.eq_nil_iff_forall_not_mem]
    exact ⟨fun h u hu => h u ((key u).2 hu), fun h u hu => h u ((key u).1 hu)⟩
  · have e : ∀ L, wayO L o = [] := fun L => by unfold wayO; rw [if_pos he]
    rw [e, e]
    rfl
set_option maxRecDepth 100000 in
set_option maxHeartbeats 8000000 in
theorem ask_run (r : Rul) (B R tg : Nat) (V : DV) (D : Dsk) (o : OpV) (w : World) (h : RunAt w B R tg (mannerV r) V D) (hv : validOp o = true) (hc : Compat D.locks) (hL : D.locks.length ≤ 7000) (hN : D.done.length ≤ 8000 ∧ D.wait.length ≤ 8000 ∧ D.dead.length ≤ 8000) :
    Calls Try.prog 95 #[.pointer (some ⟨R, 0, none⟩), o.val] w (RPost B R tg (mannerV r) V w (askP r D o)) := by
  obtain ⟨htx, _, _⟩ := validOp_parts hv
  have hce := ask1_any
  have hAD := askP_dead r D o
  have hAW := askP_wait r D o
  have hAA := askP_ask r D o
  obtain ⟨W, hW⟩ : ∃ W : World, W = w.alloc (.cells #[.int .i64 o.tx, .int .i64 o.kind, .int .i64 o.item] 62) := ⟨_, rfl⟩
  have hbW : Below w.heap.size w W := by rw [hW]; exact (Below.refl _ _).alloc (Nat.le_refl _) _
  have hbx : RowIs W w.heap.size 62 [.int .i64 o.tx, .int .i64 o.kind, .int .i64 o.item] := by rw [hW]; exact heap_alloc_new w _
  have hfar := h.far (Nat.le_refl _)
  have hfarW := fun g (hg : W.heap.size ≤ g) => h.far (g := g) (Nat.le_trans hbW.size hg)
  obtain ⟨Ad, Aw, Al, Ak, nd, nw, nl, nk, cd, cw, cl, ck, hVe, hcs, f1, f2, f3, f4⟩ := h.forms
  have hAW0 := h.lat hbW
  have n3 : ∀ u : Later W, u.1.cell? ⟨R, 3, none⟩ = some (.slice Ak nk ck) := fun u => by have := (hAW0.lat u.2).cells.2.2.2.1; rw [hVe] at this; exact this
  have n0 : ∀ u : Later W, u.1.cell? ⟨w.heap.size, 0, none⟩ = some (.int .i64 o.tx) := fun u => RowIs.cell (RowIs.below hbx u.2 (Nat.le_refl _)) rfl
  have hct : ∀ u : Later W, Calls Try.prog 81 #[.slice Ak nk ck, .int .i64 o.tx] u.1 fun e w' => e = .returned (.bool (D.dead.any fun y => y == o.tx)) ∧ Below u.1.heap.size u.1 w' := fun u => by
    have h1 := (hAW0.lat u.2).desk.deadN f4
    rw [hVe] at h1
    exact ContainsS_any Ak nk ck D.dead o.tx u.1 (RInts.of_own h1 (by omega))
  have hcf : ∀ u : Later W, Calls Try.prog 109 #[.slice Aw nw cw, .func (.func 129) #[] #[.pointer (some ⟨w.heap.size, 0, none⟩)]] u.1 fun e w' => e = .returned (.bool (D.wait.any fun p => p.tx == o.tx)) ∧ Below u.1.heap.size u.1 w' := fun u => by
    have h1 := (hAW0.lat u.2).desk.waitN f2
    rw [hVe] at h1
    exact ContainsFuncOp_any Aw nw cw D.wait _ _ _ u.1 (ROps.of_own h1 (by omega)) ⟨runs_ask1, fun X p hX _ => hce p o.tx w.heap.size X (RowIs.cell (RowIs.below hbx (u.2.trans (hX.mono u.2.size)) (Nat.le_refl _)) rfl)⟩
  have n1 : ∀ u : Later W, u.1.cell? ⟨R, 1, none⟩ = some (.slice Aw nw cw) := fun u => by have := (hAW0.lat u.2).cells.2.1; rw [hVe] at this; exact this
  have HCT := Lib.hid hct
  have HCF := Lib.hid hcf
  have HW := Lib.hid hW
  have HBX := Lib.hid hbx
  have HA0 := Lib.hid hAW0
  have HVO := Lib.hid hv
  have HSW : Hid (RSt R tg w V W V) := RSt.of_below R tg V hbW
  have hrun := runs_ask1
  unfold Runs at hrun
  have hl1 : D.locks.length ≤ 7000 := hL
  obtain ⟨hn1, hn2, hn3⟩ := hN
  have HC := Lib.hid hc
  have HV1 : Hid (∀ u : Later W, RSt R tg W V u.1 V) := fun u => RSt.of_below R tg V u.2
  obtain ⟨tx, kd, it⟩ := o
  unfold OpV.val
  simp only at n0 hAD hAW hAA HCT HCF HBX HW htx ⊢
  obtain ⟨T, rfl⟩ := Int.eq_ofNat_of_zero_le htx.1
  have hT3 : T ≤ 3 := by omega
  obtain ⟨tx, htx0⟩ : ∃ z : Int, (T : Int) = z := ⟨_, rfl⟩
  have HTX := Lib.hid htx0
  rw [htx0] at n0 hAD hAW hAA HCT HCF HBX HW HVO ⊢
  obtain ⟨bd, hbd0⟩ : ∃ z, (D.dead.any fun y => y == tx) = z := ⟨_, rfl⟩
  obtain ⟨bw, hbw0⟩ : ∃ z, (D.wait.any fun p => p.tx == tx) = z := ⟨_, rfl⟩
  rw [hbd0] at hAD HCT
  rw [hbw0] at HCF hAW
  have HBD := Lib.hid hbd0
  have HBW := Lib.hid hbw0
  clear hct hcf hW hbx hAW0 hv hce h hc htx htx0 hbd0 hbw0 hcs f1 f2 f3 f4 hVe
  go_enter Try.func95, Try.ntmps95
  go_wp2_with fail
  rw [← HW.out]
  refine region_later (by kernel_rfl) (by kernel_rfl) ?_
  repeat (go_big_quiet_step ((go_at_call 81; exact later_call _ (HCT.out _))))
  refine wpQuiet_nil ?_
  rintro _ ⟨u, rfl⟩
  cases bd
  · have m1 := n1 u
    have HCF1 := Lib.hid (HCF.out u)
    have HA1 := Lib.hid (HA0.out.lat u.2)
    have HS1 := Lib.hid (HV1.out u)
    have HSZ := Lib.hid u.2.size
    obtain ⟨w1, hw1⟩ : ∃ z : World, u.1 = z := ⟨_, rfl⟩
    rw [hw1] at m1 HCF1 HA1 HS1 HSZ ⊢
    clear n0 n1 n3 HCT HCF HA0 HV1 hw1
    go_wp2_with fail
    refine HCF1.out.mono ?_
    rintro e w2 ⟨rfl, hb2⟩
    have hA := HA1.out.lat hb2
    have hS := HS1.out.lat hb2
    have hs2 : W.heap.size ≤ w2.heap.size := Nat.le_trans HSZ.out hb2.size
    clear m1 HCF1 HA1 HS1 HSZ hb2
    cases bw
    · have hAA2 := hAA HBD.out HBW.out
      have HAA := Lib.hid hAA2
      clear hAD hAW hAA hAA2
      have hiw := inWay_run B R tg _ V D ⟨tx, kd, it⟩ w2 hA HVO.out HC.out
      unfold OpV.val at hiw
      simp only at hiw
      have HIW := Lib.hid hiw
      have hbx2 := hS.row HBX.out hfar.1 hfar.2.1 hfar.2.2
      obtain ⟨q0, q1, q2⟩ : w2.cell? ⟨w.heap.size, 0, none⟩ = some (.int .i64 tx) ∧ w2.cell? ⟨w.heap.size, 1, none⟩ = some (.int .i64 kd) ∧ w2.cell? ⟨w.heap.size, 2, none⟩ = some (.int .i64 it) := ⟨RowIs.cell hbx2 rfl, RowIs.cell hbx2 rfl, RowIs.cell hbx2 rfl⟩
      have HA2 := Lib.hid hA
      have HS2 := Lib.hid hS
      clear hiw hbx2 hA hS
      go_wp2_with fail
      refine HIW.out.mono ?_
      rintro e w3 ⟨OA, oc, rfl, hoc, hfr, hb3⟩
      have hA := HA2.out.lat hb3
      have hS := HS2.out.lat hb3
      have hwl := way_len D.locks ⟨tx, kd, it⟩
      have hs3 : W.heap.size ≤ w3.heap.size := Nat.le_trans hs2 hb3.size
      have HFR : Hid (RInts w3 OA (wayO D.locks ⟨tx, kd, it⟩).length (wayO D.locks ⟨tx, kd, it⟩) ∧ ∀ ad, OA = some ad → ad.block ≠ R ∧ ad.block ≠ tg ∧ NotIn V ad.block) := ⟨hfr.1, fun ad had => by
        obtain ⟨b, _, rfl, hb, _⟩ := hfr.2 ad had
        exact hfarW b (Nat.le_trans hs2 hb)⟩
      clear HIW HA2 HS2 q0 q1 q2 hb3 hfr
      cases r
      · have mm : w3.cell? ⟨R, 5, none⟩ = some (mannerV .wait) := hA.cells.2.2.2.2.2
        unfold mannerV at mm
        simp only at mm
        have tadies : ∀ X : World, (Instr.typeAssert (.iface 147 (.agg #[])) 69 148 true).run Try.prog X = .ok (.tuple #[.agg #[], .bool false]) X := fun _ => by kernel_rfl
        have tawounds : ∀ X : World, (Instr.typeAssert (.iface 147 (.agg #[])) 69 149 true).run Try.prog X = .ok (.tuple #[.agg #[], .bool false]) X := fun _ => by kernel_rfl
        have HFW : Hid ((wayO D.locks ⟨tx, kd, it⟩).isEmpty = false → askP .wait D ⟨tx, kd, it⟩ = waitD D ⟨tx, kd, it⟩) := fun hq => by rw [HAA.out]; unfold askD; simp only [hq]; rfl
        have HFG : Hid ((wayO D.locks ⟨tx, kd, it⟩).isEmpty = true → askP .wait D ⟨tx, kd, it⟩ = grantD D ⟨tx, kd, it⟩) := fun hq => by rw [HAA.out]; unfold askD; simp only [hq]; rfl
        clear HFR hoc
        have hiw := inWay_run B R tg _ V D ⟨tx, kd, it⟩ w3 hA HVO.out HC.out
        unfold OpV.val at hiw
        simp only at hiw
        have HIW := Lib.hid hiw
        have hbx6 := hS.row HBX.out hfar.1 hfar.2.1 hfar.2.2
        obtain ⟨q0, q1, q2⟩ : w3.cell? ⟨w.heap.size, 0, none⟩ = some (.int .i64 tx) ∧ w3.cell? ⟨w.heap.size, 1, none⟩ = some (.int .i64 kd) ∧ w3.cell? ⟨w.heap.size, 2, none⟩ = some (.int .i64 it) := ⟨RowIs.cell hbx6 rfl, RowIs.cell hbx6 rfl, RowIs.cell hbx6 rfl⟩
        have HA6 := Lib.hid hA
        have HS6 := Lib.hid hS
        clear hiw hbx6 hA hS
        go_wp2_with fail
        refine HIW.out.mono ?_
        rintro e w7 ⟨OB, ob, rfl, hob, _, hb7⟩
        have hA7 := HA6.out.lat hb7
        have hS7 := HS6.out.lat hb7
        have hwl := way_len D.locks ⟨tx, kd, it⟩
        obtain ⟨nw, hnw⟩ : ∃ z, (wayO D.locks ⟨tx, kd, it⟩).length = z := ⟨_, rfl⟩
        have HNW := Lib.hid hnw
        rw [hnw] at hwl hob ⊢
        clear HIW HA6 HS6 hb7 q0 q1 q2 hnw
        by_cases hz : 0 < nw
        · have hzi : (0 : Int) < (nw : Int) := by omega
          have hze : (wayO D.locks ⟨tx, kd, it⟩).isEmpty = false := by
            cases hq : wayO D.locks ⟨tx, kd, it⟩ with
            | nil => have := HNW.out; rw [hq] at this; simp at this; omega
            | cons a r => rfl
          skip
          go_wp2_with fail
          obtain ⟨Ad9, Aw9, Al9, Ak9, nd9, nw9, nl9, nk9, cd9, cw9, cl9, ck9, rfl, _, f1, f2, f3, f4⟩ := hA7.forms
          obtain ⟨wd, hwd⟩ : ∃ wd : World, wd = w7.drew := ⟨_, rfl⟩
          have hbd : Below w7.heap.size w7 wd := by rw [hwd]; exact (Below.refl _ _).drew
          have hbl : Below w7.heap.size w7 (wd.alloc (.cells #[.int .i64 tx, .int .i64 kd, .int .i64 it] 62)) := hbd.alloc hbd.size _
          have r0 : wd.cell? ⟨R, 1, none⟩ = some (.slice Aw9 nw9 cw9) := RowIs.cell (RowIs.below hA7.box hbd (Nat.le_refl _)) rfl
          have r1 : (wd.alloc (.cells #[.int .i64 tx, .int .i64 kd, .int .i64 it] 62)).cell? ⟨R, 1, none⟩ = some (.slice Aw9 nw9 cw9) := RowIs.cell (RowIs.below hA7.box hbl (Nat.le_refl _)) rfl
          have b0 : wd.cell? ⟨w.heap.size, 0, none⟩ = some (.int .i64 tx) := RowIs.cell ((hS7.lat hbd).row HBX.out hfar.1 hfar.2.1 hfar.2.2) rfl
          have b1 : wd.cell? ⟨w.heap.size, 1, none⟩ = some (.int .i64 kd) := RowIs.cell ((hS7.lat hbd).row HBX.out hfar.1 hfar.2.1 hfar.2.2) rfl
          have b2 : wd.cell? ⟨w.heap.size, 2, none⟩ = some (.int .i64 it) := RowIs.cell ((hS7.lat hbd).row HBX.out hfar.1 hfar.2.1 hfar.2.2) rfl
          have HOL := Lib.hid ((hA7.desk.below hbl).waitN f2)
          have hsl : B ≤ (wd.alloc (.cells #[.int .i64 tx, .int .i64 kd, .int .i64 it] 62)).heap.size := (hA7.desk.below hbl).base
          have HAL := Lib.hid (hA7.lat hbl)
          have HSL := Lib.hid (hS7.lat hbl)
          have HWD := Lib.hid hwd
          have hnn : nw9 ≤ 30000 := by first | omega | (simp only at f1 f2 f3 f4; omega)
          clear hA7 hS7 hwd hbd hbl f1 f2 f3 f4
          go_wp2_with fail
          refine wp_region_any (by kernel_rfl) ?_
          change wpAny _ _ _ _ _ _ _ (World.drew _)
          rw [← HWD.out]
          refine wpAny_take (i := 0) (v := ?_) rfl (by kernel_rfl) (by kernel_rfl) (by kernel_rfl) (fun _ _ _ h => h) (Or.inl ⟨by kernel_rfl, ?_⟩) ?_
          rotate_left
          · intro w; go_simp; try with_reducible rfl
          refine wpAny_take (i := 1) (v := ?_) rfl (by kernel_rfl) (by kernel_rfl) (by kernel_rfl) (fun _ _ _ h => h) (Or.inl ⟨by kernel_rfl, ?_⟩) ?_
          rotate_left
          · intro w; go_simp; try with_reducible rfl
          refine wpAny_take (i := 2) (v := ?_) rfl (by kernel_rfl) (by kernel_rfl) (by kernel_rfl) (fun _ _ _ h => h) (Or.inl ⟨by kernel_rfl, ?_⟩) ?_
          rotate_left
          · intro w; go_simp; try with_reducible rfl
          refine wpAny_take (i := 3) (v := ?_) rfl (by kernel_rfl) (by kernel_rfl) (by kernel_rfl) (fun _ _ _ h => h) (Or.inl ⟨by kernel_rfl, ?_⟩) ?_
          rotate_left
          · intro w; go_simp; try with_reducible rfl
          refine wpAny_take (i := 4) (v := ?_) rfl (by kernel_rfl) (by kernel_rfl) (by kernel_rfl) (fun _ _ _ h => h) (Or.inl ⟨by kernel_rfl, ?_⟩) ?_
          rotate_left
          · intro w; go_simp; try with_reducible rfl
          refine wpAny_ready (rs := [5, 6]) (by kernel_rfl) (by simp) ?_
          refine AllReady.cons rfl (fun K hK => ?_) (AllReady.cons rfl (fun K hK => ?_) (AllReady.nil))
          · skip
            go_simp
            try (refine hK _ _ ?_; clear hK K)
            refine wpAny_ready (rs := [6]) (by kernel_rfl) (by simp) ?_
            refine AllReady.cons rfl (fun K hK => ?_) AllReady.nil
            go_simp
            try (refine hK _ _ ?_; clear hK K)
            refine wpAny_ready (rs := [7]) (by kernel_rfl) (by simp) ?_
            refine AllReady.cons rfl (fun K hK => ?_) AllReady.nil
            go_simp
            try (refine hK _ _ ?_; clear hK K)
            refine wpAny_ready (rs := [8]) (by kernel_rfl) (by simp) ?_
            refine AllReady.cons rfl (fun K hK => ?_) AllReady.nil
            refine step_ops (.tmp 86) (.tmp 88) (c := 1) HOL.out (by omega) (ROps.lit1 _ ⟨tx, kd, it⟩ _) ?_ ?_ ?_ ?_ ?_ ?_
            · omega
            · rfl
            · rfl
            · rfl
            · rfl
            intro v3 w3 hown3 hg3 hat3
            obtain ⟨⟨e0, e1⟩, hA3, hS3⟩ := HAL.out.growW hg3 hown3 hat3
            obtain ⟨A3, c3, rfl, _⟩ := own_form2 hown3
            have HF := Lib.hid (And.intro hA3 (HSL.out.trans hS3))
            clear hA3 hS3 hg3 hown3 hat3
            try (refine hK _ _ ?_; clear hK K)
            refine wpAny_take (i := 9) (v := ?_) rfl (by kernel_rfl) (by kernel_rfl) (by kernel_rfl) (fun _ _ _ h => h) (Or.inl ⟨by kernel_rfl, ?_⟩) ?_
            rotate_left
            · intro w; go_simp; try with_reducible rfl
            refine wpAny_take (i := 10) (v := ?_) rfl (by kernel_rfl) (by kernel_rfl) (by kernel_rfl) (fun _ _ _ h => h) (Or.inl ⟨by kernel_rfl, ?_⟩) ?_
            rotate_left
            · intro w; go_simp; try with_reducible rfl
            refine wpAny_take (i := 11) (v := ?_) rfl (by kernel_rfl) (by kernel_rfl) (by kernel_rfl) (fun _ _ _ h => h) (Or.inl ⟨by kernel_rfl, ?_⟩) ?_
            rotate_left
            · intro w; go_simp; try with_reducible rfl
            refine wpAny_ready (rs := [12]) (by kernel_rfl) (by simp) ?_
            refine AllReady.cons rfl (fun K hK => ?_) AllReady.nil
            go_simp
            try (refine hK _ _ ?_; clear hK K)
            refine wpAny_done (by kernel_rfl) ?_ _
            try go_simp
            go_wp2_with fail
            go_end0
            exact ⟨rfl, _, by rw [HFW.out (by assumption)]; exact HF.out.1, HSW.out.trans HF.out.2⟩
          · skip
            go_simp
            try (refine hK _ _ ?_; clear hK K)
            refine wpAny_ready (rs := [5, 7]) (by kernel_rfl) (by simp) ?_
            refine AllReady.cons rfl (fun K hK => ?_) (AllReady.cons rfl (fun K hK => ?_) (AllReady.nil))
            · skip
              go_simp
              try (refine hK _ _ ?_; clear hK K)
              refine wpAny_ready (rs := [7]) (by kernel_rfl) (by simp) ?_
              refine AllReady.cons rfl (fun K hK => ?_) AllReady.nil
              go_simp
              try (refine hK _ _ ?_; clear hK K)
              refine wpAny_ready (rs := [8]) (by kernel_rfl) (by simp) ?_
              refine AllReady.cons rfl (fun K hK => ?_) AllReady.nil
              refine step_ops (.tmp 86) (.tmp 88) (c := 1) HOL.out (by omega) (ROps.lit1 _ ⟨tx, kd, it⟩ _) ?_ ?_ ?_ ?_ ?_ ?_
              · omega
              · rfl
              · rfl
              · rfl
              · rfl
              intro v3 w3 hown3 hg3 hat3
              obtain ⟨⟨e0, e1⟩, hA3, hS3⟩ := HAL.out.growW hg3 hown3 hat3
              obtain ⟨A3, c3, rfl, _⟩ := own_form2 hown3
              have HF := Lib.hid (And.intro hA3 (HSL.out.trans hS3))
              clear hA3 hS3 hg3 hown3 hat3
              try (refine hK _ _ ?_; clear hK K)
              refine wpAny_take (i := 9) (v := ?_) rfl (by kernel_rfl) (by kernel_rfl) (by kernel_rfl) (fun _ _ _ h => h) (Or.inl ⟨by kernel_rfl, ?_⟩) ?_
              rotate_left
              · intro w; go_simp; try with_reducible rfl
              refine wpAny_take (i := 10) (v := ?_) rfl (by kernel_rfl) (by kernel_rfl) (by kernel_rfl) (fun _ _ _ h => h) (Or.inl ⟨by kernel_rfl, ?_⟩) ?_
              rotate_left
              · intro w; go_simp; try with_reducible rfl
              refine wpAny_take (i := 11) (v := ?_) rfl (by kernel_rfl) (by kernel_rfl) (by kernel_rfl) (fun _ _ _ h => h) (Or.inl ⟨by kernel_rfl, ?_⟩) ?_
              rotate_left
              · intro w; go_simp; try with_reducible rfl
              refine wpAny_ready (rs := [12]) (by kernel_rfl) (by simp) ?_
              refine AllReady.cons rfl (fun K hK => ?_) AllReady.nil
              go_simp
              try (refine hK _ _ ?_; clear hK K)
              refine wpAny_done (by kernel_rfl) ?_ _
              try go_simp
              go_wp2_with fail
              go_end0
              exact ⟨rfl, _, by rw [HFW.out (by assumption)]; exact HF.out.1, HSW.out.trans HF.out.2⟩
            · skip
              go_simp
              try (refine hK _ _ ?_; clear hK K)
              refine wpAny_ready (rs := [5]) (by kernel_rfl) (by simp) ?_
              refine AllReady.cons rfl (fun K hK => ?_) AllReady.nil
              go_simp
              try (refine hK _ _ ?_; clear hK K)
              refine wpAny_ready (rs := [8]) (by kernel_rfl) (by simp) ?_
              refine AllReady.cons rfl (fun K hK => ?_) AllReady.nil
              refine step_ops (.tmp 86) (.tmp 88) (c := 1) HOL.out (by omega) (ROps.lit1 _ ⟨tx, kd, it⟩ _) ?_ ?_ ?_ ?_ ?_ ?_
              · omega
              · rfl
              · rfl
              · rfl
              · rfl
              intro v3 w3 hown3 hg3 hat3
              obtain ⟨⟨e0, e1⟩, hA3, hS3⟩ := HAL.out.growW hg3 hown3 hat3
              obtain ⟨A3, c3, rfl, _⟩ := own_form2 hown3
              have HF := Lib.hid (And.intro hA3 (HSL.out.trans hS3))
              clear hA3 hS3 hg3 hown3 hat3
              try (refine hK _ _ ?_; clear hK K)
              refine wpAny_take (i := 9) (v := ?_) rfl (by kernel_rfl) (by kernel_rfl) (by kernel_rfl) (fun _ _ _ h => h) (Or.inl ⟨by kernel_rfl, ?_⟩) ?_
              rotate_left
              · intro w; go_simp; try with_reducible rfl
              refine wpAny_take (i := 10) (v := ?_) rfl (by kernel_rfl) (by kernel_rfl) (by kernel_rfl) (fun _ _ _ h => h) (Or.inl ⟨by kernel_rfl, ?_⟩) ?_
              rotate_left
              · intro w; go_simp; try with_reducible rfl
              refine wpAny_take (i := 11) (v := ?_) rfl (by kernel_rfl) (by kernel_rfl) (by kernel_rfl) (fun _ _ _ h => h) (Or.inl ⟨by kernel_rfl, ?_⟩) ?_
              rotate_left
              · intro w; go_simp; try with_reducible rfl
              refine wpAny_ready (rs := [12]) (by kernel_rfl) (by simp) ?_
              refine AllReady.cons rfl (fun K hK => ?_) AllReady.nil
              go_simp
              try (refine hK _ _ ?_; clear hK K)
              refine wpAny_done (by kernel_rfl) ?_ _
              try go_simp
              go_wp2_with fail
              go_end0
              exact ⟨rfl, _, by rw [HFW.out (by assumption)]; exact HF.out.1, HSW.out.trans HF.out.2⟩
        · have hzi : ¬ (0 : Int) < (nw : Int) := by omega
          have hze : (wayO D.locks ⟨tx, kd, it⟩).isEmpty = true := by
            cases hq : wayO D.locks ⟨tx, kd, it⟩ with
            | nil => rfl
            | cons a r => have := HNW.out; rw [hq] at this; simp at this; omega
          skip
          have hdo := do_run B R tg _ V D ⟨tx, kd, it⟩ w7 hA7 HVO.out (by omega) (by omega)
          unfold OpV.val at hdo
          simp only at hdo
          have HDO := Lib.hid hdo
          have HS7 := Lib.hid hS7
          have hbx7 := hS7.row HBX.out hfar.1 hfar.2.1 hfar.2.2
          obtain ⟨q0, q1, q2⟩ : w7.cell? ⟨w.heap.size, 0, none⟩ = some (.int .i64 tx) ∧ w7.cell? ⟨w.heap.size, 1, none⟩ = some (.int .i64 kd) ∧ w7.cell? ⟨w.heap.size, 2, none⟩ = some (.int .i64 it) := ⟨RowIs.cell hbx7 rfl, RowIs.cell hbx7 rfl, RowIs.cell hbx7 rfl⟩
          clear hdo hA7 hS7 hbx7
          go_wp2_with fail
          refine HDO.out.mono ?_
          rintro e w8 ⟨rfl, V8, hA8, hS8⟩
          have HF := Lib.hid (And.intro hA8 (HS7.out.trans hS8))
          clear hA8 hS8
          go_wp2_with fail
          go_end0
          exact ⟨rfl, _, by rw [HFG.out (by assumption)]; exact HF.out.1, HSW.out.trans HF.out.2⟩
      · have mm : w3.cell? ⟨R, 5, none⟩ = some (mannerV .die) := hA.cells.2.2.2.2.2
        unfold mannerV at mm
        simp only at mm
        have tadies : ∀ X : World, (Instr.typeAssert (.iface 148 (.agg #[])) 69 148 true).run Try.prog X = .ok (.tuple #[.agg #[], .bool true]) X := fun _ => by kernel_rfl
        have HA3 := Lib.hid hA
        have HS3 := Lib.hid hS
        have n0 : ∀ u : Later w3, u.1.cell? ⟨w.heap.size, 0, none⟩ = some (.int .i64 tx) := fun u => RowIs.cell ((hS.lat u.2).row HBX.out hfar.1 hfar.2.1 hfar.2.2) rfl
        obtain ⟨L, hLL⟩ : ∃ L, wayO D.locks ⟨tx, kd, it⟩ = L := ⟨_, rfl⟩
        have HLL := Lib.hid hLL
        rw [hLL] at hoc hwl HFR ⊢
        obtain ⟨N, hN⟩ : ∃ N, L.length = N := ⟨_, rfl⟩
        have HN := Lib.hid hN
        rw [hN] at hoc hwl HFR ⊢
        clear hA hS hLL hN
        by_cases hz : 0 < N
        · obtain ⟨b, off, x, hOA, hbl, hx, cx⟩ := HFR.out.1.at_ hz
          have hx0 : L.headD 0 = x := by
            cases hq : L with
            | nil => rw [hq] at hx; cases hx
            | cons a r => rw [hq] at hx; simp at hx; simp [hx]
          subst hOA
          have l0 : ∀ u : Later w3, u.1.cell? ⟨b, off, none⟩ = some (.int .i64 x) := fun u => by have := Later.cell cx u; simpa using this
          have hzi : (0 : Int) < (N : Int) := by omega
          have hze : (wayO D.locks ⟨tx, kd, it⟩).isEmpty = false := by
            rw [HLL.out]
            cases hq : L with
            | nil => rw [hq] at hx; cases hx
            | cons a r => rfl
          have HX0 := Lib.hid hx0
          have HZE := Lib.hid hze
          clear hx hx0 cx hze
          by_cases hlt : x < tx
          · have hld : decide (x < tx) = true := by simpa using hlt
            go_wp2_with fail
            refine region_later (by kernel_rfl) (by kernel_rfl) ?_
            repeat (go_big_quiet_step (fail))
            refine wpQuiet_nil ?_
            rintro _ ⟨z, rfl⟩
            have p0 := n0 z
            have hab := abort_run B R tg _ V D T z.1 (HA3.out.lat z.2) hT3 (by omega) (by omega)
            rw [HTX.out] at hab
            have HAB := Lib.hid hab
            have HSZ := Lib.hid (HS3.out.lat z.2)
            clear n0 l0 hab
            go_wp2_with fail
            refine HAB.out.mono ?_
            rintro e w5 ⟨rfl, V5, hA5, hS5⟩
            have HF := Lib.hid (And.intro hA5 (HSZ.out.trans hS5))
            clear hA5 hS5
            have HEQ : Hid (askP .die D ⟨tx, kd, it⟩ = killD D tx) := by
              show _ = _
              rw [HAA.out]; unfold askD; simp only [HZE.out, Bool.false_eq_true, if_false]
              rw [if_pos (by rw [HLL.out, HX0.out]; exact hlt)]
            go_wp2_with fail
            go_end0
            exact ⟨rfl, _, by rw [HEQ.out]; exact HF.out.1, HSW.out.trans HF.out.2⟩
          · have hld : decide (x < tx) = false := by simpa using hlt
            go_wp2_with fail
            refine region_later (by kernel_rfl) (by kernel_rfl) ?_
            repeat (go_big_quiet_step (fail))
            refine wpQuiet_nil ?_
            rintro _ ⟨z, rfl⟩
            have hA := HA3.out.lat z.2
            have hS := HS3.out.lat z.2
            obtain ⟨w4, hw4⟩ : ∃ q : World, z.1 = q := ⟨_, rfl⟩
            rw [hw4] at hA hS ⊢
            have HFW : Hid ((wayO D.locks ⟨tx, kd, it⟩).isEmpty = false → askP .die D ⟨tx, kd, it⟩ = waitD D ⟨tx, kd, it⟩) := fun hq => by
              rw [HAA.out]; unfold askD; simp only [hq, Bool.false_eq_true, if_false]
              rw [if_neg (by rw [HLL.out, HX0.out]; omega)]
            have HFG : Hid ((wayO D.locks ⟨tx, kd, it⟩).isEmpty = true → askP .die D ⟨tx, kd, it⟩ = grantD D ⟨tx, kd, it⟩) := fun hq => by rw [HAA.out]; unfold askD; simp only [hq]; rfl
            clear n0 l0 HFR hoc HA3 HS3 hw4 mm hwl
            have hiw := inWay_run B R tg _ V D ⟨tx, kd, it⟩ w4 hA HVO.out HC.out
            unfold OpV.val at hiw
            simp only at hiw
            have HIW := Lib.hid hiw
            have hbx6 := hS.row HBX.out hfar.1 hfar.2.1 hfar.2.2
            obtain ⟨q0, q1, q2⟩ : w4.cell? ⟨w.heap.size, 0, none⟩ = some (.int .i64 tx) ∧ w4.cell? ⟨w.heap.size, 1, none⟩ = some (.int .i64 kd) ∧ w4.cell? ⟨w.heap.size, 2, none⟩ = some (.int .i64 it) := ⟨RowIs.cell hbx6 rfl, RowIs.cell hbx6 rfl, RowIs.cell hbx6 rfl⟩
            have HA6 := Lib.hid hA
            have HS6 := Lib.hid hS
            clear hiw hbx6 hA hS
            go_wp2_with fail
            refine HIW.out.mono ?_
            rintro e w7 ⟨OB, ob, rfl, hob, _, hb7⟩
            have hA7 := HA6.out.lat hb7
            have hS7 := HS6.out.lat hb7
            have hwl := way_len D.locks ⟨tx, kd, it⟩
            obtain ⟨nw, hnw⟩ : ∃ z, (wayO D.locks ⟨tx, kd, it⟩).length = z := ⟨_, rfl⟩
            have HNW := Lib.hid hnw
            rw [hnw] at hwl hob ⊢
            clear HIW HA6 HS6 hb7 q0 q1 q2 hnw
            by_cases hz : 0 < nw
            · have hzi : (0 : Int) < (nw : Int) := by omega
              have hze : (wayO D.locks ⟨tx, kd, it⟩).isEmpty = false := by
                cases hq : wayO D.locks ⟨tx, kd, it⟩ with
                | nil => have := HNW.out; rw [hq] at this; simp at this; omega
                | cons a r => rfl
              skip
              go_wp2_with fail
              obtain ⟨Ad9, Aw9, Al9, Ak9, nd9, nw9, nl9, nk9, cd9, cw9, cl9, ck9, rfl, _, f1, f2, f3, f4⟩ := hA7.forms
              obtain ⟨wd, hwd⟩ : ∃ wd : World, wd = w7.drew := ⟨_, rfl⟩
              have hbd : Below w7.heap.size w7 wd := by rw [hwd]; exact (Below.refl _ _).drew
              have hbl : Below w7.heap.size w7 (wd.alloc (.cells #[.int .i64 tx, .int .i64 kd, .int .i64 it] 62)) := hbd.alloc hbd.size _
              have r0 : wd.cell? ⟨R, 1, none⟩ = some (.slice Aw9 nw9 cw9) := RowIs.cell (RowIs.below hA7.box hbd (Nat.le_refl _)) rfl
              have r1 : (wd.alloc (.cells #[.int .i64 tx, .int .i64 kd, .int .i64 it] 62)).cell? ⟨R, 1, none⟩ = some (.slice Aw9 nw9 cw9) := RowIs.cell (RowIs.below hA7.box hbl (Nat.le_refl _)) rfl
              have b0 : wd.cell? ⟨w.heap.size, 0, none⟩ = some (.int .i64 tx) := RowIs.cell ((hS7.lat hbd).row HBX.out hfar.1 hfar.2.1 hfar.2.2) rfl
              have b1 : wd.cell? ⟨w.heap.size, 1, none⟩ = some (.int .i64 kd) := RowIs.cell ((hS7.lat hbd).row HBX.out hfar.1 hfar.2.1 hfar.2.2) rfl
              have b2 : wd.cell? ⟨w.heap.size, 2, none⟩ = some (.int .i64 it) := RowIs.cell ((hS7.lat hbd).row HBX.out hfar.1 hfar.2.1 hfar.2.2) rfl
              have HOL := Lib.hid ((hA7.desk.below hbl).waitN f2)
              have hsl : B ≤ (wd.alloc (.cells #[.int .i64 tx, .int .i64 kd, .int .i64 it] 62)).heap.size := (hA7.desk.below hbl).base
              have HAL := Lib.hid (hA7.lat hbl)
              have HSL := Lib.hid (hS7.lat hbl)
              have HWD := Lib.hid hwd
              have hnn : nw9 ≤ 30000 := by first | omega | (simp only at f1 f2 f3 f4; omega)
              clear hA7 hS7 hwd hbd hbl f1 f2 f3 f4
              go_wp2_with fail
              refine wp_region_any (by kernel_rfl) ?_
              change wpAny _ _ _ _ _ _ _ (World.drew _)
              rw [← HWD.out]
              refine wpAny_take (i := 0) (v := ?_) rfl (by kernel_rfl) (by kernel_rfl) (by kernel_rfl) (fun _ _ _ h => h) (Or.inl ⟨by kernel_rfl, ?_⟩) ?_
              rotate_left
              · intro w; go_simp; try with_reducible rfl
              refine wpAny_take (i := 1) (v := ?_) rfl (by kernel_rfl) (by kernel_rfl) (by kernel_rfl) (fun _ _ _ h => h) (Or.inl ⟨by kernel_rfl, ?_⟩) ?_
              rotate_left
              · intro w; go_simp; try with_reducible rfl
              refine wpAny_take (i := 2) (v := ?_) rfl (by kernel_rfl) (by kernel_rfl) (by kernel_rfl) (fun _ _ _ h => h) (Or.inl ⟨by kernel_rfl, ?_⟩) ?_
              rotate_left
              · intro w; go_simp; try with_reducible rfl
              refine wpAny_take (i := 3) (v := ?_) rfl (by kernel_rfl) (by kernel_rfl) (by kernel_rfl) (fun _ _ _ h => h) (Or.inl ⟨by kernel_rfl, ?_⟩) ?_
              rotate_left
              · intro w; go_simp; try with_reducible rfl
              refine wpAny_take (i := 4) (v := ?_) rfl (by kernel_rfl) (by kernel_rfl) (by kernel_rfl) (fun _ _ _ h => h) (Or.inl ⟨by kernel_rfl, ?_⟩) ?_
              rotate_left
              · intro w; go_simp; try with_reducible rfl
              refine wpAny_ready (rs := [5, 6]) (by kernel_rfl) (by simp) ?_
              refine AllReady.cons rfl (fun K hK => ?_) (AllReady.cons rfl (fun K hK => ?_) (AllReady.nil))
              · skip
                go_simp
                try (refine hK _ _ ?_; clear hK K)
                refine wpAny_ready (rs := [6]) (by kernel_rfl) (by simp) ?_
                refine AllReady.cons rfl (fun K hK => ?_) AllReady.nil
                go_simp
                try (refine hK _ _ ?_; clear hK K)
                refine wpAny_ready (rs := [7]) (by kernel_rfl) (by simp) ?_
                refine AllReady.cons rfl (fun K hK => ?_) AllReady.nil
                go_simp
                try (refine hK _ _ ?_; clear hK K)
                refine wpAny_ready (rs := [8]) (by kernel_rfl) (by simp) ?_
                refine AllReady.cons rfl (fun K hK => ?_) AllReady.nil
                refine step_ops (.tmp 86) (.tmp 88) (c := 1) HOL.out (by omega) (ROps.lit1 _ ⟨tx, kd, it⟩ _) ?_ ?_ ?_ ?_ ?_ ?_
                · omega
                · rfl
                · rfl
                · rfl
                · rfl
                intro v3 w3 hown3 hg3 hat3
                obtain ⟨⟨e0, e1⟩, hA3, hS3⟩ := HAL.out.growW hg3 hown3 hat3
                obtain ⟨A3, c3, rfl, _⟩ := own_form2 hown3
                have HF := Lib.hid (And.intro hA3 (HSL.out.trans hS3))
                clear hA3 hS3 hg3 hown3 hat3
                try (refine hK _ _ ?_; clear hK K)
                refine wpAny_take (i := 9) (v := ?_) rfl (by kernel_rfl) (by kernel_rfl) (by kernel_rfl) (fun _ _ _ h => h) (Or.inl ⟨by kernel_rfl, ?_⟩) ?_
                rotate_left
                · intro w; go_simp; try with_reducible rfl
                refine wpAny_take (i := 10) (v := ?_) rfl (by kernel_rfl) (by kernel_rfl) (by kernel_rfl) (fun _ _ _ h => h) (Or.inl ⟨by kernel_rfl, ?_⟩) ?_
                rotate_left
                · intro w; go_simp; try with_reducible rfl
                refine wpAny_take (i := 11) (v := ?_) rfl (by kernel_rfl) (by kernel_rfl) (by kernel_rfl) (fun _ _ _ h => h) (Or.inl ⟨by kernel_rfl, ?_⟩) ?_
                rotate_left
                · intro w; go_simp; try with_reducible rfl
                refine wpAny_ready (rs := [12]) (by kernel_rfl) (by simp) ?_
                refine AllReady.cons rfl (fun K hK => ?_) AllReady.nil
                go_simp
                try (refine hK _ _ ?_; clear hK K)
                refine wpAny_done (by kernel_rfl) ?_ _
                try go_simp
                go_wp2_with fail
                go_end0
                exact ⟨rfl, _, by rw [HFW.out (by assumption)]; exact HF.out.1, HSW.out.trans HF.out.2⟩
              · skip
                go_simp
                try (refine hK _ _ ?_; clear hK K)
                refine wpAny_ready (rs := [5, 7]) (by kernel_rfl) (by simp) ?_
                refine AllReady.cons rfl (fun K hK => ?_) (AllReady.cons rfl (fun K hK => ?_) (AllReady.nil))
                · skip
                  go_simp
                  try (refine hK _ _ ?_; clear hK K)
                  refine wpAny_ready (rs := [7]) (by kernel_rfl) (by simp) ?_
                  refine AllReady.cons rfl (fun K hK => ?_) AllReady.nil
                  go_simp
                  try (refine hK _ _ ?_; clear hK K)
                  refine wpAny_ready (rs := [8]) (by kernel_rfl) (by simp) ?_
                  refine AllReady.cons rfl (fun K hK => ?_) AllReady.nil
                  refine step_ops (.tmp 86) (.tmp 88) (c := 1) HOL.out (by omega) (ROps.lit1 _ ⟨tx, kd, it⟩ _) ?_ ?_ ?_ ?_ ?_ ?_
                  · omega
                  · rfl
                  · rfl
                  · rfl
                  · rfl
                  intro v3 w3 hown3 hg3 hat3
                  obtain ⟨⟨e0, e1⟩, hA3, hS3⟩ := HAL.out.growW hg3 hown3 hat3
                  obtain ⟨A3, c3, rfl, _⟩ := own_form2 hown3
                  have HF := Lib.hid (And.intro hA3 (HSL.out.trans hS3))
                  clear hA3 hS3 hg3 hown3 hat3
                  try (refine hK _ _ ?_; clear hK K)
                  refine wpAny_take (i := 9) (v := ?_) rfl (by kernel_rfl) (by kernel_rfl) (by kernel_rfl) (fun _ _ _ h => h) (Or.inl ⟨by kernel_rfl, ?_⟩) ?_
                  rotate_left
                  · intro w; go_simp; try with_reducible rfl
                  refine wpAny_take (i := 10) (v := ?_) rfl (by kernel_rfl) (by kernel_rfl) (by kernel_rfl) (fun _ _ _ h => h) (Or.inl ⟨by kernel_rfl, ?_⟩) ?_
                  rotate_left
                  · intro w; go_simp; try with_reducible rfl
                  refine wpAny_take (i := 11) (v := ?_) rfl (by kernel_rfl) (by kernel_rfl) (by kernel_rfl) (fun _ _ _ h => h) (Or.inl ⟨by kernel_rfl, ?_⟩) ?_
                  rotate_left
                  · intro w; go_simp; try with_reducible rfl
                  refine wpAny_ready (rs := [12]) (by kernel_rfl) (by simp) ?_
                  refine AllReady.cons rfl (fun K hK => ?_) AllReady.nil
                  go_simp
                  try (refine hK _ _ ?_; clear hK K)
                  refine wpAny_done (by kernel_rfl) ?_ _
                  try go_simp
                  go_wp2_with fail
                  go_end0
                  exact ⟨rfl, _, by rw [HFW.out (by assumption)]; exact HF.out.1, HSW.out.trans HF.out.2⟩
                · skip
                  go_simp
                  try (refine hK _ _ ?_; clear hK K)
                  refine wpAny_ready (rs := [5]) (by kernel_rfl) (by simp) ?_
                  refine AllReady.cons rfl (fun K hK => ?_) AllReady.nil
                  go_simp
                  try (refine hK _ _ ?_; clear hK K)
                  refine wpAny_ready (rs := [8]) (by kernel_rfl) (by simp) ?_
                  refine AllReady.cons rfl (fun K hK => ?_) AllReady.nil
                  refine step_ops (.tmp 86) (.tmp 88) (c := 1) HOL.out (by omega) (ROps.lit1 _ ⟨tx, kd, it⟩ _) ?_ ?_ ?_ ?_ ?_ ?_
                  · omega
                  · rfl
                  · rfl
                  · rfl
                  · rfl
                  intro v3 w3 hown3 hg3 hat3
                  obtain ⟨⟨e0, e1⟩, hA3, hS3⟩ := HAL.out.growW hg3 hown3 hat3
                  obtain ⟨A3, c3, rfl, _⟩ := own_form2 hown3
                  have HF := Lib.hid (And.intro hA3 (HSL.out.trans hS3))
                  clear hA3 hS3 hg3 hown3 hat3
                  try (refine hK _ _ ?_; clear hK K)
                  refine wpAny_take (i := 9) (v := ?_) rfl (by kernel_rfl) (by kernel_rfl) (by kernel_rfl) (fun _ _ _ h => h) (Or.inl ⟨by kernel_rfl, ?_⟩) ?_
                  rotate_left
                  · intro w; go_simp; try with_reducible rfl
                  refine wpAny_take (i := 10) (v := ?_) rfl (by kernel_rfl) (by kernel_rfl) (by kernel_rfl) (fun _ _ _ h => h) (Or.inl ⟨by kernel_rfl, ?_⟩) ?_
                  rotate_left
                  · intro w; go_simp; try with_reducible rfl
                  refine wpAny_take (i := 11) (v := ?_) rfl (by kernel_rfl) (by kernel_rfl) (by kernel_rfl) (fun _ _ _ h => h) (Or.inl ⟨by kernel_rfl, ?_⟩) ?_
                  rotate_left
                  · intro w; go_simp; try with_reducible rfl
                  refine wpAny_ready (rs := [12]) (by kernel_rfl) (by simp) ?_
                  refine AllReady.cons rfl (fun K hK => ?_) AllReady.nil
                  go_simp
                  try (refine hK _ _ ?_; clear hK K)
                  refine wpAny_done (by kernel_rfl) ?_ _
                  try go_simp
                  go_wp2_with fail
                  go_end0
                  exact ⟨rfl, _, by rw [HFW.out (by assumption)]; exact HF.out.1, HSW.out.trans HF.out.2⟩
            · have hzi : ¬ (0 : Int) < (nw : Int) := by omega
              have hze : (wayO D.locks ⟨tx, kd, it⟩).isEmpty = true := by
                cases hq : wayO D.locks ⟨tx, kd, it⟩ with
                | nil => rfl
                | cons a r => have := HNW.out; rw [hq] at this; simp at this; omega
              skip
              have hdo := do_run B R tg _ V D ⟨tx, kd, it⟩ w7 hA7 HVO.out (by omega) (by omega)
              unfold OpV.val at hdo
              simp only at hdo
              have HDO := Lib.hid hdo
              have HS7 := Lib.hid hS7
              have hbx7 := hS7.row HBX.out hfar.1 hfar.2.1 hfar.2.2
              obtain ⟨q0, q1, q2⟩ : w7.cell? ⟨w.heap.size, 0, none⟩ = some (.int .i64 tx) ∧ w7.cell? ⟨w.heap.size, 1, none⟩ = some (.int .i64 kd) ∧ w7.cell? ⟨w.heap.size, 2, none⟩ = some (.int .i64 it) := ⟨RowIs.cell hbx7 rfl, RowIs.cell hbx7 rfl, RowIs.cell hbx7 rfl⟩
              clear hdo hA7 hS7 hbx7
              go_wp2_with fail
              refine HDO.out.mono ?_
              rintro e w8 ⟨rfl, V8, hA8, hS8⟩
              have HF := Lib.hid (And.intro hA8 (HS7.out.trans hS8))
              clear hA8 hS8
              go_wp2_with fail
              go_end0
              exact ⟨rfl, _, by rw [HFG.out (by assumption)]; exact HF.out.1, HSW.out.trans HF.out.2⟩
        · have hN0 : N = 0 := by omega
          subst hN0
          go_wp2_with fail
          refine region_later (by kernel_rfl) (by kernel_rfl) ?_
          repeat (go_big_quiet_step (fail))
          refine wpQuiet_nil ?_
          rintro _ ⟨z, rfl⟩
          have hA := HA3.out.lat z.2
          have hS := HS3.out.lat z.2
          obtain ⟨w4, hw4⟩ : ∃ q : World, z.1 = q := ⟨_, rfl⟩
          rw [hw4] at hA hS ⊢
          have hem : (wayO D.locks ⟨tx, kd, it⟩).isEmpty = true := by
            rw [HLL.out]
            cases hq : L with
            | nil => rfl
            | cons a r => have := HN.out; rw [hq] at this; cases this
          have HEM := Lib.hid hem
          have HFW : Hid ((wayO D.locks ⟨tx, kd, it⟩).isEmpty = false → askP .die D ⟨tx, kd, it⟩ = waitD D ⟨tx, kd, it⟩) := fun hq => by rw [HEM.out] at hq; cases hq
          have HFG : Hid ((wayO D.locks ⟨tx, kd, it⟩).isEmpty = true → askP .die D ⟨tx, kd, it⟩ = grantD D ⟨tx, kd, it⟩) := fun hq => by rw [HAA.out]; unfold askD; simp only [hq]; rfl
          clear n0 HFR hoc HA3 HS3 hw4 mm hwl hem
          have hiw := inWay_run B R tg _ V D ⟨tx, kd, it⟩ w4 hA HVO.out HC.out
          unfold OpV.val at hiw
          simp only at hiw
          have HIW := Lib.hid hiw
          have hbx6 := hS.row HBX.out hfar.1 hfar.2.1 hfar.2.2
          obtain ⟨q0, q1, q2⟩ : w4.cell? ⟨w.heap.size, 0, none⟩ = some (.int .i64 tx) ∧ w4.cell? ⟨w.heap.size, 1, none⟩ = some (.int .i64 kd) ∧ w4.cell? ⟨w.heap.size, 2, none⟩ = some (.int .i64 it) := ⟨RowIs.cell hbx6 rfl, RowIs.cell hbx6 rfl, RowIs.cell hbx6 rfl⟩
          have HA6 := Lib.hid hA
          have HS6 := Lib.hid hS
          clear hiw hbx6 hA hS
          go_wp2_with fail
          refine HIW.out.mono ?_
          rintro e w7 ⟨OB, ob, rfl, hob, _, hb7⟩
          have hA7 := HA6.out.lat hb7
          have hS7 := HS6.out.lat hb7
          have hwl := way_len D.locks ⟨tx, kd, it⟩
          obtain ⟨nw, hnw⟩ : ∃ z, (wayO D.locks ⟨tx, kd, it⟩).length = z := ⟨_, rfl⟩
          have HNW := Lib.hid hnw
          rw [hnw] at hwl hob ⊢
          clear HIW HA6 HS6 hb7 q0 q1 q2 hnw
          by_cases hz : 0 < nw
          · have hzi : (0 : Int) < (nw : Int) := by omega
            have hze : (wayO D.locks ⟨tx, kd, it⟩).isEmpty = false := by
              cases hq : wayO D.locks ⟨tx, kd, it⟩ with
              | nil => have := HNW.out; rw [hq] at this; simp at this; omega
              | cons a r => rfl
            skip
            go_wp2_with fail
            obtain ⟨Ad9, Aw9, Al9, Ak9, nd9, nw9, nl9, nk9, cd9, cw9, cl9, ck9, rfl, _, f1, f2, f3, f4⟩ := hA7.forms
            obtain ⟨wd, hwd⟩ : ∃ wd : World, wd = w7.drew := ⟨_, rfl⟩
            have hbd : Below w7.heap.size w7 wd := by rw [hwd]; exact (Below.refl _ _).drew
            have hbl : Below w7.heap.size w7 (wd.alloc (.cells #[.int .i64 tx, .int .i64 kd, .int .i64 it] 62)) := hbd.alloc hbd.size _
            have r0 : wd.cell? ⟨R, 1, none⟩ = some (.slice Aw9 nw9 cw9) := RowIs.cell (RowIs.below hA7.box hbd (Nat.le_refl _)) rfl
            have r1 : (wd.alloc (.cells #[.int .i64 tx, .int .i64 kd, .int .i64 it] 62)).cell? ⟨R, 1, none⟩ = some (.slice Aw9 nw9 cw9) := RowIs.cell (RowIs.below hA7.box hbl (Nat.le_refl _)) rfl
            have b0 : wd.cell? ⟨w.heap.size, 0, none⟩ = some (.int .i64 tx) := RowIs.cell ((hS7.lat hbd).row HBX.out hfar.1 hfar.2.1 hfar.2.2) rfl
            have b1 : wd.cell? ⟨w.heap.size, 1, none⟩ = some (.int .i64 kd) := RowIs.cell ((hS7.lat hbd).row HBX.out hfar.1 hfar.2.1 hfar.2.2) rfl
            have b2 : wd.cell? ⟨w.heap.size, 2, none⟩ = some (.int .i64 it) := RowIs.cell ((hS7.lat hbd).row HBX.out hfar.1 hfar.2.1 hfar.2.2) rfl
            have HOL := Lib.hid ((hA7.desk.below hbl).waitN f2)
            have hsl : B ≤ (wd.alloc (.cells #[.int .i64 tx, .int .i64 kd, .int .i64 it] 62)).heap.size := (hA7.desk.below hbl).base
            have HAL := Lib.hid (hA7.lat hbl)
            have HSL := Lib.hid (hS7.lat hbl)
            have HWD := Lib.hid hwd
            have hnn : nw9 ≤ 30000 := by first | omega | (simp only at f1 f2 f3 f4; omega)
            clear hA7 hS7 hwd hbd hbl f1 f2 f3 f4
            go_wp2_with fail
            refine wp_region_any (by kernel_rfl) ?_
            change wpAny _ _ _ _ _ _ _ (World.drew _)
            rw [← HWD.out]
            refine wpAny_take (i := 0) (v := ?_) rfl (by kernel_rfl) (by kernel_rfl) (by kernel_rfl) (fun _ _ _ h => h) (Or.inl ⟨by kernel_rfl, ?_⟩) ?_
            rotate_left
            · intro w; go_simp; try with_reducible rfl
            refine wpAny_take (i := 1) (v := ?_) rfl (by kernel_rfl) (by kernel_rfl) (by kernel_rfl) (fun _ _ _ h => h) (Or.inl ⟨by kernel_rfl, ?_⟩) ?_
            rotate_left
            · intro w; go_simp; try with_reducible rfl
            refine wpAny_take (i := 2) (v := ?_) rfl (by kernel_rfl) (by kernel_rfl) (by kernel_rfl) (fun _ _ _ h => h) (Or.inl ⟨by kernel_rfl, ?_⟩) ?_
            rotate_left
            · intro w; go_simp; try with_reducible rfl
            refine wpAny_take (i := 3) (v := ?_) rfl (by kernel_rfl) (by kernel_rfl) (by kernel_rfl) (fun _ _ _ h => h) (Or.inl ⟨by kernel_rfl, ?_⟩) ?_
            rotate_left
            · intro w; go_simp; try with_reducible rfl
            refine wpAny_take (i := 4) (v := ?_) rfl (by kernel_rfl) (by kernel_rfl) (by kernel_rfl) (fun _ _ _ h => h) (Or.inl ⟨by kernel_rfl, ?_⟩) ?_
            rotate_left
            · intro w; go_simp; try with_reducible rfl
            refine wpAny_ready (rs := [5, 6]) (by kernel_rfl) (by simp) ?_
            refine AllReady.cons rfl (fun K hK => ?_) (AllReady.cons rfl (fun K hK => ?_) (AllReady.nil))
            · skip
              go_simp
              try (refine hK _ _ ?_; clear hK K)
              refine wpAny_ready (rs := [6]) (by kernel_rfl) (by simp) ?_
              refine AllReady.cons rfl (fun K hK => ?_) AllReady.nil
              go_simp
              try (refine hK _ _ ?_; clear hK K)
              refine wpAny_ready (rs := [7]) (by kernel_rfl) (by simp) ?_
              refine AllReady.cons rfl (fun K hK => ?_) AllReady.nil
              go_simp
              try (refine hK _ _ ?_; clear hK K)
              refine wpAny_ready (rs := [8]) (by kernel_rfl) (by simp) ?_
              refine AllReady.cons rfl (fun K hK => ?_) AllReady.nil
              refine step_ops (.tmp 86) (.tmp 88) (c := 1) HOL.out (by omega) (ROps.lit1 _ ⟨tx, kd, it⟩ _) ?_ ?_ ?_ ?_ ?_ ?_
              · omega
              · rfl
              · rfl
              · rfl
              · rfl
              intro v3 w3 hown3 hg3 hat3
              obtain ⟨⟨e0, e1⟩, hA3, hS3⟩ := HAL.out.growW hg3 hown3 hat3
              obtain ⟨A3, c3, rfl, _⟩ := own_form2 hown3
              have HF := Lib.hid (And.intro hA3 (HSL.out.trans hS3))
              clear hA3 hS3 hg3 hown3 hat3
              try (refine hK _ _ ?_; clear hK K)
              refine wpAny_take (i := 9) (v := ?_) rfl (by kernel_rfl) (by kernel_rfl) (by kernel_rfl) (fun _ _ _ h => h) (Or.inl ⟨by kernel_rfl, ?_⟩) ?_
              rotate_left
              · intro w; go_simp; try with_reducible rfl
              refine wpAny_take (i := 10) (v := ?_) rfl (by kernel_rfl) (by kernel_rfl) (by kernel_rfl) (fun _ _ _ h => h) (Or.inl ⟨by kernel_rfl, ?_⟩) ?_
              rotate_left
              · intro w; go_simp; try with_reducible rfl
              refine wpAny_take (i := 11) (v := ?_) rfl (by kernel_rfl) (by kernel_rfl) (by kernel_rfl) (fun _ _ _ h => h) (Or.inl ⟨by kernel_rfl, ?_⟩) ?_
              rotate_left
              · intro w; go_simp; try with_reducible rfl
              refine wpAny_ready (rs := [12]) (by kernel_rfl) (by simp) ?_
              refine AllReady.cons rfl (fun K hK => ?_) AllReady.nil
              go_simp
              try (refine hK _ _ ?_; clear hK K)
              refine wpAny_done (by kernel_rfl) ?_ _
              try go_simp
              go_wp2_with fail
              go_end0
              exact ⟨rfl, _, by rw [HFW.out (by assumption)]; exact HF.out.1, HSW.out.trans HF.out.2⟩
            · skip
              go_simp
              try (refine hK _ _ ?_; clear hK K)
              refine wpAny_ready (rs := [5, 7]) (by kernel_rfl) (by simp) ?_
              refine AllReady.cons rfl (fun K hK => ?_) (AllReady.cons rfl (fun K hK => ?_) (AllReady.nil))
              · skip
                go_simp
                try (refine hK _ _ ?_; clear hK K)
                refine wpAny_ready (rs := [7]) (by kernel_rfl) (by simp) ?_
                refine AllReady.cons rfl (fun K hK => ?_) AllReady.nil
                go_simp
                try (refine hK _ _ ?_; clear hK K)
                refine wpAny_ready (rs := [8]) (by kernel_rfl) (by simp) ?_
                refine AllReady.cons rfl (fun K hK => ?_) AllReady.nil
                refine step_ops (.tmp 86) (.tmp 88) (c := 1) HOL.out (by omega) (ROps.lit1 _ ⟨tx, kd, it⟩ _) ?_ ?_ ?_ ?_ ?_ ?_
                · omega
                · rfl
                · rfl
                · rfl
                · rfl
                intro v3 w3 hown3 hg3 hat3
                obtain ⟨⟨e0, e1⟩, hA3, hS3⟩ := HAL.out.growW hg3 hown3 hat3
                obtain ⟨A3, c3, rfl, _⟩ := own_form2 hown3
                have HF := Lib.hid (And.intro hA3 (HSL.out.trans hS3))
                clear hA3 hS3 hg3 hown3 hat3
                try (refine hK _ _ ?_; clear hK K)
                refine wpAny_take (i := 9) (v := ?_) rfl (by kernel_rfl) (by kernel_rfl) (by kernel_rfl) (fun _ _ _ h => h) (Or.inl ⟨by kernel_rfl, ?_⟩) ?_
                rotate_left
                · intro w; go_simp; try with_reducible rfl
                refine wpAny_take (i := 10) (v := ?_) rfl (by kernel_rfl) (by kernel_rfl) (by kernel_rfl) (fun _ _ _ h => h) (Or.inl ⟨by kernel_rfl, ?_⟩) ?_
                rotate_left
                · intro w; go_simp; try with_reducible rfl
                refine wpAny_take (i := 11) (v := ?_) rfl (by kernel_rfl) (by kernel_rfl) (by kernel_rfl) (fun _ _ _ h => h) (Or.inl ⟨by kernel_rfl, ?_⟩) ?_
                rotate_left
                · intro w; go_simp; try with_reducible rfl
                refine wpAny_ready (rs := [12]) (by kernel_rfl) (by simp) ?_
                refine AllReady.cons rfl (fun K hK => ?_) AllReady.nil
                go_simp
                try (refine hK _ _ ?_; clear hK K)
                refine wpAny_done (by kernel_rfl) ?_ _
                try go_simp
                go_wp2_with fail
                go_end0
                exact ⟨rfl, _, by rw [HFW.out (by assumption)]; exact HF.out.1, HSW.out.trans HF.out.2⟩
              · skip
                go_simp
                try (refine hK _ _ ?_; clear hK K)
                refine wpAny_ready (rs := [5]) (by kernel_rfl) (by simp) ?_
                refine AllReady.cons rfl (fun K hK => ?_) AllReady.nil
                go_simp
                try (refine hK _ _ ?_; clear hK K)
                refine wpAny_ready (rs := [8]) (by kernel_rfl) (by simp) ?_
                refine AllReady.cons rfl (fun K hK => ?_) AllReady.nil
                refine step_ops (.tmp 86) (.tmp 88) (c := 1) HOL.out (by omega) (ROps.lit1 _ ⟨tx, kd, it⟩ _) ?_ ?_ ?_ ?_ ?_ ?_
                · omega
                · rfl
                · rfl
                · rfl
                · rfl
                intro v3 w3 hown3 hg3 hat3
                obtain ⟨⟨e0, e1⟩, hA3, hS3⟩ := HAL.out.growW hg3 hown3 hat3
                obtain ⟨A3, c3, rfl, _⟩ := own_form2 hown3
                have HF := Lib.hid (And.intro hA3 (HSL.out.trans hS3))
                clear hA3 hS3 hg3 hown3 hat3
                try (refine hK _ _ ?_; clear hK K)
                refine wpAny_take (i := 9) (v := ?_) rfl (by kernel_rfl) (by kernel_rfl) (by kernel_rfl) (fun _ _ _ h => h) (Or.inl ⟨by kernel_rfl, ?_⟩) ?_
                rotate_left
                · intro w; go_simp; try with_reducible rfl
                refine wpAny_take (i := 10) (v := ?_) rfl (by kernel_rfl) (by kernel_rfl) (by kernel_rfl) (fun _ _ _ h => h) (Or.inl ⟨by kernel_rfl, ?_⟩) ?_
                rotate_left
                · intro w; go_simp; try with_reducible rfl
                refine wpAny_take (i := 11) (v := ?_) rfl (by kernel_rfl) (by kernel_rfl) (by kernel_rfl) (fun _ _ _ h => h) (Or.inl ⟨by kernel_rfl, ?_⟩) ?_
                rotate_left
                · intro w; go_simp; try with_reducible rfl
                refine wpAny_ready (rs := [12]) (by kernel_rfl) (by simp) ?_
                refine AllReady.cons rfl (fun K hK => ?_) AllReady.nil
                go_simp
                try (refine hK _ _ ?_; clear hK K)
                refine wpAny_done (by kernel_rfl) ?_ _
                try go_simp
                go_wp2_with fail
                go_end0
                exact ⟨rfl, _, by rw [HFW.out (by assumption)]; exact HF.out.1, HSW.out.trans HF.out.2⟩
          · have hzi : ¬ (0 : Int) < (nw : Int) := by omega
            have hze : (wayO D.locks ⟨tx, kd, it⟩).isEmpty = true := by
              cases hq : wayO D.locks ⟨tx, kd, it⟩ with
              | nil => rfl
              | cons a r => have := HNW.out; rw [hq] at this; simp at this; omega
            skip
            have hdo := do_run B R tg _ V D ⟨tx, kd, it⟩ w7 hA7 HVO.out (by omega) (by omega)
            unfold OpV.val at hdo
            simp only at hdo
            have HDO := Lib.hid hdo
            have HS7 := Lib.hid hS7
            have hbx7 := hS7.row HBX.out hfar.1 hfar.2.1 hfar.2.2
            obtain ⟨q0, q1, q2⟩ : w7.cell? ⟨w.heap.size, 0, none⟩ = some (.int .i64 tx) ∧ w7.cell? ⟨w.heap.size, 1, none⟩ = some (.int .i64 kd) ∧ w7.cell? ⟨w.heap.size, 2, none⟩ = some (.int .i64 it) := ⟨RowIs.cell hbx7 rfl, RowIs.cell hbx7 rfl, RowIs.cell hbx7 rfl⟩
            clear hdo hA7 hS7 hbx7
            go_wp2_with fail
            refine HDO.out.mono ?_
            rintro e w8 ⟨rfl, V8, hA8, hS8⟩
            have HF := Lib.hid (And.intro hA8 (HS7.out.trans hS8))
            clear hA8 hS8
            go_wp2_with fail
            go_end0
            exact ⟨rfl, _, by rw [HFG.out (by assumption)]; exact HF.out.1, HSW.out.trans HF.out.2⟩
      · have mm : w3.cell? ⟨R, 5, none⟩ = some (mannerV .wound) := hA.cells.2.2.2.2.2
        unfold mannerV at mm
        simp only at mm
        have tadies : ∀ X : World, (Instr.typeAssert (.iface 149 (.agg #[])) 69 148 true).run Try.prog X = .ok (.tuple #[.agg #[], .bool false]) X := fun _ => by kernel_rfl
        have tawounds : ∀ X : World, (Instr.typeAssert (.iface 149 (.agg #[])) 69 149 true).run Try.prog X = .ok (.tuple #[.agg #[], .bool true]) X := fun _ => by kernel_rfl
        obtain ⟨L, hLL⟩ : ∃ L, wayO D.locks ⟨tx, kd, it⟩ = L := ⟨_, rfl⟩
        have HLL := Lib.hid hLL
        have hLr : ∀ u ∈ L, 0 ≤ u ∧ u ≤ 3 := fun u hu => (mem_way.1 (by rw [hLL]; exact hu)).2.1
        have HLR := Lib.hid hLr
        rw [hLL] at hoc hwl HFR ⊢
        obtain ⟨N, hN⟩ : ∃ N, L.length = N := ⟨_, rfl⟩
        have HN := Lib.hid hN
        rw [hN] at hoc hwl HFR ⊢
        have HST : Hid (RunAt w3 B R tg (mannerV .wound) V (killsD D ((L.take 0).filter fun u => decide (tx < u))) ∧ RSt R tg w3 V w3 V) := ⟨hA, RSt.refl _ _ _ _⟩
        have HS3 := Lib.hid hS
        clear hA hS hLL hN hLr
        go_wp2_with fail
        clear mm
        go_loopw [64] (fun i wr => ∃ (k : Nat) (V' : DV), k ≤ N ∧ i = .int .i64 k ∧ RunAt wr B R tg (mannerV .wound) V' (killsD D ((L.take k).filter fun u => decide (tx < u))) ∧ RSt R tg w3 V wr V') (fun i _ => N - (intOf i).toNat)
        case atStart => exact ⟨0, V, Nat.zero_le _, rfl, HST.out.1, HST.out.2⟩
        case round =>
          clear HST
          obtain ⟨wo, rfl⟩ : ∃ z : World, z = wr := ⟨_, rfl⟩
          obtain ⟨k, V', hk, rfl, hA, hSr⟩ := hrel
          obtain ⟨kl1, kl2, kl3, kl4⟩ := kills_lens D ((L.take k).filter fun u => decide (tx < u))
          have hfl : ((L.take k).filter fun u => decide (tx < u)).length ≤ 4 := Nat.le_trans (List.length_filter_le _ _) (by rw [List.length_take]; omega)
          by_cases hlt : k < N
          · obtain ⟨b, off, x, hOA, hbl, hx, cx⟩ := (hSr.ints HFR.out.1 HFR.out.2).at_ hlt
            have hxr := HLR.out x (List.mem_of_getElem? hx)
            have hsn : (L.take (k + 1)).filter (fun u => decide (tx < u)) = (L.take k).filter (fun u => decide (tx < u)) ++ if tx < x then [x] else [] := by
              rw [take_snoc hx, List.filter_append]; simp [List.filter_cons]
            subst hOA
            obtain ⟨X, rfl⟩ := Int.eq_ofNat_of_zero_le hxr.1
            have hX3 : X ≤ 3 := by omega
            have hki : (k : Int) < (N : Int) := by omega
            have hk0 : (0 : Int) ≤ (k : Int) := by omega
            have hS := HS3.out.trans hSr
            have p0 : wo.cell? ⟨w.heap.size, 0, none⟩ = some (.int .i64 tx) := RowIs.cell (hS.row HBX.out hfar.1 hfar.2.1 hfar.2.2) rfl
            obtain ⟨Dk, hDk⟩ : ∃ Dk, killsD D ((L.take k).filter fun u => decide (tx < u)) = Dk := ⟨_, rfl⟩
            have hkn : killsD D ((L.take (k + 1)).filter fun u => decide (tx < u)) = if tx < (X : Int) then killD Dk (X : Int) else Dk := by
              rw [hsn, ← hDk]
              unfold killsD
              rw [List.foldl_append]
              split <;> rfl
            rw [hDk] at hA kl1 kl2 kl3 kl4
            have HKN := Lib.hid hkn
            have HAk := Lib.hid hA
            have HSr := Lib.hid hSr
            clear hA hSr hS hkn hsn hx hDk
            by_cases hgt : tx < (X : Int)
            · rw [if_pos hgt] at HKN
              have HAB := Lib.hid (abort_run B R tg _ V' Dk X wo HAk.out hX3 (by omega) (by omega))
              have hgd : decide (tx < (X : Int)) = true := by simpa using hgt
              go_wp2_with fail
              refine HAB.out.mono ?_
              rintro e w5 ⟨rfl, V5, hA5, hS5⟩
              have HF := Lib.hid (And.intro hA5 (HSr.out.trans hS5))
              clear hA5 hS5
              go_wp2_with fail
              go_roundw
              case rel => exact ⟨k + 1, V5, by omega, by go_num, by rw [HKN.out]; exact HF.out.1, HF.out.2⟩
              case measure => simp [intOf]; omega
            · rw [if_neg hgt] at HKN
              have hgd : decide (tx < (X : Int)) = false := by simpa using hgt
              go_wp2_with fail
              go_roundw
              case rel => exact ⟨k + 1, V', by omega, by go_num, by rw [HKN.out]; exact HAk.out, HSr.out⟩
              case measure => simp [intOf]; omega
          · obtain rfl : k = N := by omega
            have hS := HS3.out.trans hSr
            have hte : L.take k = L := List.take_of_length_le (by have := HN.out; omega)
            rw [hte] at hA kl1 kl2 kl3 kl4 hfl
            obtain ⟨Dk, hDk⟩ : ∃ Dk, killsD D (L.filter fun u => decide (tx < u)) = Dk := ⟨_, rfl⟩
            have hcd := kills_compat (L.filter fun u => decide (tx < u)) HC.out
            have hwe := way_kills HC.out HVO.out
            rw [hDk] at hA kl1 kl2 kl3 kl4 hcd
            rw [HLL.out, hDk] at hwe
            have HCD := Lib.hid hcd
            have HFW : Hid ((wayO Dk.locks ⟨tx, kd, it⟩).isEmpty = false → askP .wound D ⟨tx, kd, it⟩ = waitD Dk ⟨tx, kd, it⟩) := fun hq => by
              rw [HAA.out]; unfold askD; simp only [HLL.out, hDk]
              rw [if_neg (by rw [← hwe, hq]; simp)]
            have HFG : Hid ((wayO Dk.locks ⟨tx, kd, it⟩).isEmpty = true → askP .wound D ⟨tx, kd, it⟩ = grantD Dk ⟨tx, kd, it⟩) := fun hq => by
              rw [HAA.out]; unfold askD; simp only [HLL.out, hDk]
              rw [if_pos (by rw [← hwe, hq])]
            have hni : ¬ ((k : Int) < (k : Int)) := by omega
            clear HFR hoc HS3 hwl hcd hwe hDk hte hSr
            have hiw := inWay_run B R tg _ V' Dk ⟨tx, kd, it⟩ wo hA HVO.out HCD.out
            unfold OpV.val at hiw
            simp only at hiw
            have HIW := Lib.hid hiw
            have hbx6 := hS.row HBX.out hfar.1 hfar.2.1 hfar.2.2
            obtain ⟨q0, q1, q2⟩ : wo.cell? ⟨w.heap.size, 0, none⟩ = some (.int .i64 tx) ∧ wo.cell? ⟨w.heap.size, 1, none⟩ = some (.int .i64 kd) ∧ wo.cell? ⟨w.heap.size, 2, none⟩ = some (.int .i64 it) := ⟨RowIs.cell hbx6 rfl, RowIs.cell hbx6 rfl, RowIs.cell hbx6 rfl⟩
            have HA6 := Lib.hid hA
            have HS6 := Lib.hid hS
            clear hiw hbx6 hA hS
            go_wp2_with fail
            refine HIW.out.mono ?_
            rintro e w7 ⟨OB, ob, rfl, hob, _, hb7⟩
            have hA7 := HA6.out.lat hb7
            have hS7 := HS6.out.lat hb7
            have hwl := way_len Dk.locks ⟨tx, kd, it⟩
            obtain ⟨nw, hnw⟩ : ∃ z, (wayO Dk.locks ⟨tx, kd, it⟩).length = z := ⟨_, rfl⟩
            have HNW := Lib.hid hnw
            rw [hnw] at hwl hob ⊢
            clear HIW HA6 HS6 hb7 q0 q1 q2 hnw
            by_cases hz : 0 < nw
            · have hzi : (0 : Int) < (nw : Int) := by omega
              have hze : (wayO Dk.locks ⟨tx, kd, it⟩).isEmpty = false := by
                cases hq : wayO Dk.locks ⟨tx, kd, it⟩ with
                | nil => have := HNW.out; rw [hq] at this; simp at this; omega
                | cons a r => rfl
              skip
              go_wp2_with fail
              obtain ⟨Ad9, Aw9, Al9, Ak9, nd9, nw9, nl9, nk9, cd9, cw9, cl9, ck9, rfl, _, f1, f2, f3, f4⟩ := hA7.forms
              obtain ⟨wd, hwd⟩ : ∃ wd : World, wd = w7.drew := ⟨_, rfl⟩
              have hbd : Below w7.heap.size w7 wd := by rw [hwd]; exact (Below.refl _ _).drew
              have hbl : Below w7.heap.size w7 (wd.alloc (.cells #[.int .i64 tx, .int .i64 kd, .int .i64 it] 62)) := hbd.alloc hbd.size _
              have r0 : wd.cell? ⟨R, 1, none⟩ = some (.slice Aw9 nw9 cw9) := RowIs.cell (RowIs.below hA7.box hbd (Nat.le_refl _)) rfl
              have r1 : (wd.alloc (.cells #[.int .i64 tx, .int .i64 kd, .int .i64 it] 62)).cell? ⟨R, 1, none⟩ = some (.slice Aw9 nw9 cw9) := RowIs.cell (RowIs.below hA7.box hbl (Nat.le_refl _)) rfl
              have b0 : wd.cell? ⟨w.heap.size, 0, none⟩ = some (.int .i64 tx) := RowIs.cell ((hS7.lat hbd).row HBX.out hfar.1 hfar.2.1 hfar.2.2) rfl
              have b1 : wd.cell? ⟨w.heap.size, 1, none⟩ = some (.int .i64 kd) := RowIs.cell ((hS7.lat hbd).row HBX.out hfar.1 hfar.2.1 hfar.2.2) rfl
              have b2 : wd.cell? ⟨w.heap.size, 2, none⟩ = some (.int .i64 it) := RowIs.cell ((hS7.lat hbd).row HBX.out hfar.1 hfar.2.1 hfar.2.2) rfl
              have HOL := Lib.hid ((hA7.desk.below hbl).waitN f2)
              have hsl : B ≤ (wd.alloc (.cells #[.int .i64 tx, .int .i64 kd, .int .i64 it] 62)).heap.size := (hA7.desk.below hbl).base
              have HAL := Lib.hid (hA7.lat hbl)
              have HSL := Lib.hid (hS7.lat hbl)
              have HWD := Lib.hid hwd
              have hnn : nw9 ≤ 30000 := by first | omega | (simp only at f1 f2 f3 f4; omega)
              clear hA7 hS7 hwd hbd hbl f1 f2 f3 f4
              go_wp2_with fail
              refine wp_region_any (by kernel_rfl) ?_
              change wpAny _ _ _ _ _ _ _ (World.drew _)
              rw [← HWD.out]
              refine wpAny_take (i := 0) (v := ?_) rfl (by kernel_rfl) (by kernel_rfl) (by kernel_rfl) (fun _ _ _ h => h) (Or.inl ⟨by kernel_rfl, ?_⟩) ?_
              rotate_left
              · intro w; go_simp; try with_reducible rfl
              refine wpAny_take (i := 1) (v := ?_) rfl (by kernel_rfl) (by kernel_rfl) (by kernel_rfl) (fun _ _ _ h => h) (Or.inl ⟨by kernel_rfl, ?_⟩) ?_
              rotate_left
              · intro w; go_simp; try with_reducible rfl
              refine wpAny_take (i := 2) (v := ?_) rfl (by kernel_rfl) (by kernel_rfl) (by kernel_rfl) (fun _ _ _ h => h) (Or.inl ⟨by kernel_rfl, ?_⟩) ?_
              rotate_left
              · intro w; go_simp; try with_reducible rfl
              refine wpAny_take (i := 3) (v := ?_) rfl (by kernel_rfl) (by kernel_rfl) (by kernel_rfl) (fun _ _ _ h => h) (Or.inl ⟨by kernel_rfl, ?_⟩) ?_
              rotate_left
              · intro w; go_simp; try with_reducible rfl
              refine wpAny_take (i := 4) (v := ?_) rfl (by kernel_rfl) (by kernel_rfl) (by kernel_rfl) (fun _ _ _ h => h) (Or.inl ⟨by kernel_rfl, ?_⟩) ?_
              rotate_left
              · intro w; go_simp; try with_reducible rfl
              refine wpAny_ready (rs := [5, 6]) (by kernel_rfl) (by simp) ?_
              refine AllReady.cons rfl (fun K hK => ?_) (AllReady.cons rfl (fun K hK => ?_) (AllReady.nil))
              · skip
                go_simp
                try (refine hK _ _ ?_; clear hK K)
                refine wpAny_ready (rs := [6]) (by kernel_rfl) (by simp) ?_
                refine AllReady.cons rfl (fun K hK => ?_) AllReady.nil
                go_simp
                try (refine hK _ _ ?_; clear hK K)
                refine wpAny_ready (rs := [7]) (by kernel_rfl) (by simp) ?_
                refine AllReady.cons rfl (fun K hK => ?_) AllReady.nil
                go_simp
                try (refine hK _ _ ?_; clear hK K)
                refine wpAny_ready (rs := [8]) (by kernel_rfl) (by simp) ?_
                refine AllReady.cons rfl (fun K hK => ?_) AllReady.nil
                refine step_ops (.tmp 86) (.tmp 88) (c := 1) HOL.out (by omega) (ROps.lit1 _ ⟨tx, kd, it⟩ _) ?_ ?_ ?_ ?_ ?_ ?_
                · omega
                · rfl
                · rfl
                · rfl
                · rfl
                intro v3 w3 hown3 hg3 hat3
                obtain ⟨⟨e0, e1⟩, hA3, hS3⟩ := HAL.out.growW hg3 hown3 hat3
                obtain ⟨A3, c3, rfl, _⟩ := own_form2 hown3
                have HF := Lib.hid (And.intro hA3 (HSL.out.trans hS3))
                clear hA3 hS3 hg3 hown3 hat3
                try (refine hK _ _ ?_; clear hK K)
                refine wpAny_take (i := 9) (v := ?_) rfl (by kernel_rfl) (by kernel_rfl) (by kernel_rfl) (fun _ _ _ h => h) (Or.inl ⟨by kernel_rfl, ?_⟩) ?_
                rotate_left
                · intro w; go_simp; try with_reducible rfl
                refine wpAny_take (i := 10) (v := ?_) rfl (by kernel_rfl) (by kernel_rfl) (by kernel_rfl) (fun _ _ _ h => h) (Or.inl ⟨by kernel_rfl, ?_⟩) ?_
                rotate_left
                · intro w; go_simp; try with_reducible rfl
                refine wpAny_take (i := 11) (v := ?_) rfl (by kernel_rfl) (by kernel_rfl) (by kernel_rfl) (fun _ _ _ h => h) (Or.inl ⟨by kernel_rfl, ?_⟩) ?_
                rotate_left
                · intro w; go_simp; try with_reducible rfl
                refine wpAny_ready (rs := [12]) (by kernel_rfl) (by simp) ?_
                refine AllReady.cons rfl (fun K hK => ?_) AllReady.nil
                go_simp
                try (refine hK _ _ ?_; clear hK K)
                refine wpAny_done (by kernel_rfl) ?_ _
                try go_simp
                go_wp2_with fail
                go_end0
                exact ⟨rfl, _, by rw [HFW.out (by assumption)]; exact HF.out.1, HSW.out.trans HF.out.2⟩
              · skip
                go_simp
                try (refine hK _ _ ?_; clear hK K)
                refine wpAny_ready (rs := [5, 7]) (by kernel_rfl) (by simp) ?_
                refine AllReady.cons rfl (fun K hK => ?_) (AllReady.cons rfl (fun K hK => ?_) (AllReady.nil))
                · skip
                  go_simp
                  try (refine hK _ _ ?_; clear hK K)
                  refine wpAny_ready (rs := [7]) (by kernel_rfl) (by simp) ?_
                  refine AllReady.cons rfl (fun K hK => ?_) AllReady.nil
                  go_simp
                  try (refine hK _ _ ?_; clear hK K)
                  refine wpAny_ready (rs := [8]) (by kernel_rfl) (by simp) ?_
                  refine AllReady.cons rfl (fun K hK => ?_) AllReady.nil
                  refine step_ops (.tmp 86) (.tmp 88) (c := 1) HOL.out (by omega) (ROps.lit1 _ ⟨tx, kd, it⟩ _) ?_ ?_ ?_ ?_ ?_ ?_
                  · omega
                  · rfl
                  · rfl
                  · rfl
                  · rfl
                  intro v3 w3 hown3 hg3 hat3
                  obtain ⟨⟨e0, e1⟩, hA3, hS3⟩ := HAL.out.growW hg3 hown3 hat3
                  obtain ⟨A3, c3, rfl, _⟩ := own_form2 hown3
                  have HF := Lib.hid (And.intro hA3 (HSL.out.trans hS3))
                  clear hA3 hS3 hg3 hown3 hat3
                  try (refine hK _ _ ?_; clear hK K)
                  refine wpAny_take (i := 9) (v := ?_) rfl (by kernel_rfl) (by kernel_rfl) (by kernel_rfl) (fun _ _ _ h => h) (Or.inl ⟨by kernel_rfl, ?_⟩) ?_
                  rotate_left
                  · intro w; go_simp; try with_reducible rfl
                  refine wpAny_take (i := 10) (v := ?_) rfl (by kernel_rfl) (by kernel_rfl) (by kernel_rfl) (fun _ _ _ h => h) (Or.inl ⟨by kernel_rfl, ?_⟩) ?_
                  rotate_left
                  · intro w; go_simp; try with_reducible rfl
                  refine wpAny_take (i := 11) (v := ?_) rfl (by kernel_rfl) (by kernel_rfl) (by kernel_rfl) (fun _ _ _ h => h) (Or.inl ⟨by kernel_rfl, ?_⟩) ?_
                  rotate_left
                  · intro w; go_simp; try with_reducible rfl
                  refine wpAny_ready (rs := [12]) (by kernel_rfl) (by simp) ?_
                  refine AllReady.cons rfl (fun K hK => ?_) AllReady.nil
                  go_simp
                  try (refine hK _ _ ?_; clear hK K)
                  refine wpAny_done (by kernel_rfl) ?_ _
                  try go_simp
                  go_wp2_with fail
                  go_end0
                  exact ⟨rfl, _, by rw [HFW.out (by assumption)]; exact HF.out.1, HSW.out.trans HF.out.2⟩
                · skip
                  go_simp
                  try (refine hK _ _ ?_; clear hK K)
                  refine wpAny_ready (rs := [5]) (by kernel_rfl) (by simp) ?_
                  refine AllReady.cons rfl (fun K hK => ?_) AllReady.nil
                  go_simp
                  try (refine hK _ _ ?_; clear hK K)
                  refine wpAny_ready (rs := [8]) (by kernel_rfl) (by simp) ?_
                  refine AllReady.cons rfl (fun K hK => ?_) AllReady.nil
                  refine step_ops (.tmp 86) (.tmp 88) (c := 1) HOL.out (by omega) (ROps.lit1 _ ⟨tx, kd, it⟩ _) ?_ ?_ ?_ ?_ ?_ ?_
                  · omega
                  · rfl
                  · rfl
                  · rfl
                  · rfl
                  intro v3 w3 hown3 hg3 hat3
                  obtain ⟨⟨e0, e1⟩, hA3, hS3⟩ := HAL.out.growW hg3 hown3 hat3
                  obtain ⟨A3, c3, rfl, _⟩ := own_form2 hown3
                  have HF := Lib.hid (And.intro hA3 (HSL.out.trans hS3))
                  clear hA3 hS3 hg3 hown3 hat3
                  try (refine hK _ _ ?_; clear hK K)
                  refine wpAny_take (i := 9) (v := ?_) rfl (by kernel_rfl) (by kernel_rfl) (by kernel_rfl) (fun _ _ _ h => h) (Or.inl ⟨by kernel_rfl, ?_⟩) ?_
                  rotate_left
                  · intro w; go_simp; try with_reducible rfl
                  refine wpAny_take (i := 10) (v := ?_) rfl (by kernel_rfl) (by kernel_rfl) (by kernel_rfl) (fun _ _ _ h => h) (Or.inl ⟨by kernel_rfl, ?_⟩) ?_
                  rotate_left
                  · intro w; go_simp; try with_reducible rfl
                  refine wpAny_take (i := 11) (v := ?_) rfl (by kernel_rfl) (by kernel_rfl) (by kernel_rfl) (fun _ _ _ h => h) (Or.inl ⟨by kernel_rfl, ?_⟩) ?_
                  rotate_left
                  · intro w; go_simp; try with_reducible rfl
                  refine wpAny_ready (rs := [12]) (by kernel_rfl) (by simp) ?_
                  refine AllReady.cons rfl (fun K hK => ?_) AllReady.nil
                  go_simp
                  try (refine hK _ _ ?_; clear hK K)
                  refine wpAny_done (by kernel_rfl) ?_ _
                  try go_simp
                  go_wp2_with fail
                  go_end0
                  exact ⟨rfl, _, by rw [HFW.out (by assumption)]; exact HF.out.1, HSW.out.trans HF.out.2⟩
            · have hzi : ¬ (0 : Int) < (nw : Int) := by omega
              have hze : (wayO Dk.locks ⟨tx, kd, it⟩).isEmpty = true := by
                cases hq : wayO Dk.locks ⟨tx, kd, it⟩ with
                | nil => rfl
                | cons a r => have := HNW.out; rw [hq] at this; simp at this; omega
              skip
              have hdo := do_run B R tg _ V' Dk ⟨tx, kd, it⟩ w7 hA7 HVO.out (by omega) (by omega)
              unfold OpV.val at hdo
              simp only at hdo
              have HDO := Lib.hid hdo
              have HS7 := Lib.hid hS7
              have hbx7 := hS7.row HBX.out hfar.1 hfar.2.1 hfar.2.2
              obtain ⟨q0, q1, q2⟩ : w7.cell? ⟨w.heap.size, 0, none⟩ = some (.int .i64 tx) ∧ w7.cell? ⟨w.heap.size, 1, none⟩ = some (.int .i64 kd) ∧ w7.cell? ⟨w.heap.size, 2, none⟩ = some (.int .i64 it) := ⟨RowIs.cell hbx7 rfl, RowIs.cell hbx7 rfl, RowIs.cell hbx7 rfl⟩
              clear hdo hA7 hS7 hbx7
              go_wp2_with fail
              refine HDO.out.mono ?_
              rintro e w8 ⟨rfl, V8, hA8, hS8⟩
              have HF := Lib.hid (And.intro hA8 (HS7.out.trans hS8))
              clear hA8 hS8
              go_wp2_with fail
              go_end0
              exact ⟨rfl, _, by rw [HFG.out (by assumption)]; exact HF.out.1, HSW.out.trans HF.out.2⟩
    · have hAW2 := hAW HBD.out rfl
      have HAW := Lib.hid hAW2
      clear hAD hAA hAW hAW2
      obtain ⟨Ad9, Aw9, Al9, Ak9, nd9, nw9, nl9, nk9, cd9, cw9, cl9, ck9, rfl, _, f1, f2, f3, f4⟩ := hA.forms
      obtain ⟨wd, hwd⟩ : ∃ wd : World, wd = w2.drew := ⟨_, rfl⟩
      have hbd : Below w2.heap.size w2 wd := by rw [hwd]; exact (Below.refl _ _).drew
      have hbl : Below w2.heap.size w2 (wd.alloc (.cells #[.int .i64 tx, .int .i64 kd, .int .i64 it] 62)) := hbd.alloc hbd.size _
      have r0 : wd.cell? ⟨R, 1, none⟩ = some (.slice Aw9 nw9 cw9) := RowIs.cell (RowIs.below hA.box hbd (Nat.le_refl _)) rfl
      have r1 : (wd.alloc (.cells #[.int .i64 tx, .int .i64 kd, .int .i64 it] 62)).cell? ⟨R, 1, none⟩ = some (.slice Aw9 nw9 cw9) := RowIs.cell (RowIs.below hA.box hbl (Nat.le_refl _)) rfl
      have b0 : wd.cell? ⟨w.heap.size, 0, none⟩ = some (.int .i64 tx) := RowIs.cell ((hS.lat hbd).row HBX.out hfar.1 hfar.2.1 hfar.2.2) rfl
      have b1 : wd.cell? ⟨w.heap.size, 1, none⟩ = some (.int .i64 kd) := RowIs.cell ((hS.lat hbd).row HBX.out hfar.1 hfar.2.1 hfar.2.2) rfl
      have b2 : wd.cell? ⟨w.heap.size, 2, none⟩ = some (.int .i64 it) := RowIs.cell ((hS.lat hbd).row HBX.out hfar.1 hfar.2.1 hfar.2.2) rfl
      have HOL := Lib.hid ((hA.desk.below hbl).waitN f2)
      have hsl : B ≤ (wd.alloc (.cells #[.int .i64 tx, .int .i64 kd, .int .i64 it] 62)).heap.size := (hA.desk.below hbl).base
      have HAL := Lib.hid (hA.lat hbl)
      have HSL := Lib.hid (hS.lat hbl)
      have HWD := Lib.hid hwd
      have hnn : nw9 ≤ 30000 := by first | omega | (simp only at f1 f2 f3 f4; omega)
      clear hA hS hwd hbd hbl f1 f2 f3 f4
      go_wp2_with fail
      refine wp_region_any (by kernel_rfl) ?_
      change wpAny _ _ _ _ _ _ _ (World.drew _)
      rw [← HWD.out]
      refine wpAny_take (i := 0) (v := ?_) rfl (by kernel_rfl) (by kernel_rfl) (by kernel_rfl) (fun _ _ _ h => h) (Or.inl ⟨by kernel_rfl, ?_⟩) ?_
      rotate_left
      · intro w; go_simp; try with_reducible rfl
      refine wpAny_take (i := 1) (v := ?_) rfl (by kernel_rfl) (by kernel_rfl) (by kernel_rfl) (fun _ _ _ h => h) (Or.inl ⟨by kernel_rfl, ?_⟩) ?_
      rotate_left
      · intro w; go_simp; try with_reducible rfl
      refine wpAny_take (i := 2) (v := ?_) rfl (by kernel_rfl) (by kernel_rfl) (by kernel_rfl) (fun _ _ _ h => h) (Or.inl ⟨by kernel_rfl, ?_⟩) ?_
      rotate_left
      · intro w; go_simp; try with_reducible rfl
      refine wpAny_take (i := 3) (v := ?_) rfl (by kernel_rfl) (by kernel_rfl) (by kernel_rfl) (fun _ _ _ h => h) (Or.inl ⟨by kernel_rfl, ?_⟩) ?_
      rotate_left
      · intro w; go_simp; try with_reducible rfl
      refine wpAny_take (i := 4) (v := ?_) rfl (by kernel_rfl) (by kernel_rfl) (by kernel_rfl) (fun _ _ _ h => h) (Or.inl ⟨by kernel_rfl, ?_⟩) ?_
      rotate_left
      · intro w; go_simp; try with_reducible rfl
      refine wpAny_ready (rs := [5, 6]) (by kernel_rfl) (by simp) ?_
      refine AllReady.cons rfl (fun K hK => ?_) (AllReady.cons rfl (fun K hK => ?_) (AllReady.nil))
      · skip
        go_simp
        try (refine hK _ _ ?_; clear hK K)
        refine wpAny_ready (rs := [6]) (by kernel_rfl) (by simp) ?_
        refine AllReady.cons rfl (fun K hK => ?_) AllReady.nil
        go_simp
        try (refine hK _ _ ?_; clear hK K)
        refine wpAny_ready (rs := [7]) (by kernel_rfl) (by simp) ?_
        refine AllReady.cons rfl (fun K hK => ?_) AllReady.nil
        go_simp
        try (refine hK _ _ ?_; clear hK K)
        refine wpAny_ready (rs := [8]) (by kernel_rfl) (by simp) ?_
        refine AllReady.cons rfl (fun K hK => ?_) AllReady.nil
        refine step_ops (.tmp 27) (.tmp 29) (c := 1) HOL.out (by omega) (ROps.lit1 _ ⟨tx, kd, it⟩ _) ?_ ?_ ?_ ?_ ?_ ?_
        · omega
        · rfl
        · rfl
        · rfl
        · rfl
        intro v3 w3 hown3 hg3 hat3
        obtain ⟨⟨e0, e1⟩, hA3, hS3⟩ := HAL.out.growW hg3 hown3 hat3
        obtain ⟨A3, c3, rfl, _⟩ := own_form2 hown3
        have HF := Lib.hid (And.intro hA3 (HSL.out.trans hS3))
        clear hA3 hS3 hg3 hown3 hat3
        try (refine hK _ _ ?_; clear hK K)
        refine wpAny_take (i := 9) (v := ?_) rfl (by kernel_rfl) (by kernel_rfl) (by kernel_rfl) (fun _ _ _ h => h) (Or.inl ⟨by kernel_rfl, ?_⟩) ?_
        rotate_left
        · intro w; go_simp; try with_reducible rfl
        refine wpAny_take (i := 10) (v := ?_) rfl (by kernel_rfl) (by kernel_rfl) (by kernel_rfl) (fun _ _ _ h => h) (Or.inl ⟨by kernel_rfl, ?_⟩) ?_
        rotate_left
        · intro w; go_simp; try with_reducible rfl
        refine wpAny_take (i := 11) (v := ?_) rfl (by kernel_rfl) (by kernel_rfl) (by kernel_rfl) (fun _ _ _ h => h) (Or.inl ⟨by kernel_rfl, ?_⟩) ?_
        rotate_left
        · intro w; go_simp; try with_reducible rfl
        refine wpAny_ready (rs := [12]) (by kernel_rfl) (by simp) ?_
        refine AllReady.cons rfl (fun K hK => ?_) AllReady.nil
        go_simp
        try (refine hK _ _ ?_; clear hK K)
        refine wpAny_done (by kernel_rfl) ?_ _
        try go_simp
        go_wp2_with fail
        go_end0
        exact ⟨rfl, _, by rw [HAW.out]; exact HF.out.1, HSW.out.trans HF.out.2⟩
      · skip
        go_simp
        try (refine hK _ _ ?_; clear hK K)
        refine wpAny_ready (rs := [5, 7]) (by kernel_rfl) (by simp) ?_
        refine AllReady.cons rfl (fun K hK => ?_) (AllReady.cons rfl (fun K hK => ?_) (AllReady.nil))
        · skip
          go_simp
          try (refine hK _ _ ?_; clear hK K)
          refine wpAny_ready (rs := [7]) (by kernel_rfl) (by simp) ?_
          refine AllReady.cons rfl (fun K hK => ?_) AllReady.nil
          go_simp
          try (refine hK _ _ ?_; clear hK K)
          refine wpAny_ready (rs := [8]) (by kernel_rfl) (by simp) ?_
          refine AllReady.cons rfl (fun K hK => ?_) AllReady.nil
          refine step_ops (.tmp 27) (.tmp 29) (c := 1) HOL.out (by omega) (ROps.lit1 _ ⟨tx, kd, it⟩ _) ?_ ?_ ?_ ?_ ?_ ?_
          · omega
          · rfl
          · rfl
          · rfl
          · rfl
          intro v3 w3 hown3 hg3 hat3
          obtain ⟨⟨e0, e1⟩, hA3, hS3⟩ := HAL.out.growW hg3 hown3 hat3
          obtain ⟨A3, c3, rfl, _⟩ := own_form2 hown3
          have HF := Lib.hid (And.intro hA3 (HSL.out.trans hS3))
          clear hA3 hS3 hg3 hown3 hat3
          try (refine hK _ _ ?_; clear hK K)
          refine wpAny_take (i := 9) (v := ?_) rfl (by kernel_rfl) (by kernel_rfl) (by kernel_rfl) (fun _ _ _ h => h) (Or.inl ⟨by kernel_rfl, ?_⟩) ?_
          rotate_left
          · intro w; go_simp; try with_reducible rfl
          refine wpAny_take (i := 10) (v := ?_) rfl (by kernel_rfl) (by kernel_rfl) (by kernel_rfl) (fun _ _ _ h => h) (Or.inl ⟨by kernel_rfl, ?_⟩) ?_
          rotate_left
          · intro w; go_simp; try with_reducible rfl
          refine wpAny_take (i := 11) (v := ?_) rfl (by kernel_rfl) (by kernel_rfl) (by kernel_rfl) (fun _ _ _ h => h) (Or.inl ⟨by kernel_rfl, ?_⟩) ?_
          rotate_left
          · intro w; go_simp; try with_reducible rfl
          refine wpAny_ready (rs := [12]) (by kernel_rfl) (by simp) ?_
          refine AllReady.cons rfl (fun K hK => ?_) AllReady.nil
          go_simp
          try (refine hK _ _ ?_; clear hK K)
          refine wpAny_done (by kernel_rfl) ?_ _
          try go_simp
          go_wp2_with fail
          go_end0
          exact ⟨rfl, _, by rw [HAW.out]; exact HF.out.1, HSW.out.trans HF.out.2⟩
        · skip
          go_simp
          try (refine hK _ _ ?_; clear hK K)
          refine wpAny_ready (rs := [5]) (by kernel_rfl) (by simp) ?_
          refine AllReady.cons rfl (fun K hK => ?_) AllReady.nil
          go_simp
          try (refine hK _ _ ?_; clear hK K)
          refine wpAny_ready (rs := [8]) (by kernel_rfl) (by simp) ?_
          refine AllReady.cons rfl (fun K hK => ?_) AllReady.nil
          refine step_ops (.tmp 27) (.tmp 29) (c := 1) HOL.out (by omega) (ROps.lit1 _ ⟨tx, kd, it⟩ _) ?_ ?_ ?_ ?_ ?_ ?_
          · omega
          · rfl
          · rfl
          · rfl
          · rfl
          intro v3 w3 hown3 hg3 hat3
          obtain ⟨⟨e0, e1⟩, hA3, hS3⟩ := HAL.out.growW hg3 hown3 hat3
          obtain ⟨A3, c3, rfl, _⟩ := own_form2 hown3
          have HF := Lib.hid (And.intro hA3 (HSL.out.trans hS3))
          clear hA3 hS3 hg3 hown3 hat3
          try (refine hK _ _ ?_; clear hK K)
          refine wpAny_take (i := 9) (v := ?_) rfl (by kernel_rfl) (by kernel_rfl) (by kernel_rfl) (fun _ _ _ h => h) (Or.inl ⟨by kernel_rfl, ?_⟩) ?_
          rotate_left
          · intro w; go_simp; try with_reducible rfl
          refine wpAny_take (i := 10) (v := ?_) rfl (by kernel_rfl) (by kernel_rfl) (by kernel_rfl) (fun _ _ _ h => h) (Or.inl ⟨by kernel_rfl, ?_⟩) ?_
          rotate_left
          · intro w; go_simp; try with_reducible rfl
          refine wpAny_take (i := 11) (v := ?_) rfl (by kernel_rfl) (by kernel_rfl) (by kernel_rfl) (fun _ _ _ h => h) (Or.inl ⟨by kernel_rfl, ?_⟩) ?_
          rotate_left
          · intro w; go_simp; try with_reducible rfl
          refine wpAny_ready (rs := [12]) (by kernel_rfl) (by simp) ?_
          refine AllReady.cons rfl (fun K hK => ?_) AllReady.nil
          go_simp
          try (refine hK _ _ ?_; clear hK K)
          refine wpAny_done (by kernel_rfl) ?_ _
          try go_simp
          go_wp2_with fail
          go_end0
          exact ⟨rfl, _, by rw [HAW.out]; exact HF.out.1, HSW.out.trans HF.out.2⟩
  · have hAD2 := hAD rfl
    have HAD := Lib.hid hAD2
    have HA1 := Lib.hid (HA0.out.lat u.2)
    have HS1 := Lib.hid (HV1.out u)
    clear hAW hAA hAD hAD2
    go_wp2_with fail
    go_end0
    exact ⟨rfl, _, by rw [HAD.out]; exact HA1.out, HSW.out.trans HS1.out⟩
end Go.Proofs.Ytncebpmckbcabaa
