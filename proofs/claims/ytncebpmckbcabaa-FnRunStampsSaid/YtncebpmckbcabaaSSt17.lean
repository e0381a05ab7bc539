/-
  Texts that the proof rests on, joined: part 17.
-/
import Derived.Test.YtncebpmckbcabaaSSt4
import Derived.Test.YtncebpmckbcabaaSSt5
import Derived.Test.YtncebpmckbcabaaSSt6
import Derived.Test.YtncebpmckbcabaaSSt7
import Derived.Test.YtncebpmckbcabaaSSt11
import Derived.Test.YtncebpmckbcabaaSSt12
import Derived.Test.YtncebpmckbcabaaSSt14
namespace Go.Proofs.Ytncebpmckbcabaa
open Go.RowKit Go.BigFrame
set_option linter.unusedVariables false
set_option maxHeartbeats 400000 in
theorem runnable_any (A : Option Addr) (n c : Nat) (s : List OpV) (w : World) (hx : ROps w A n s) (hnc : n ≤ c) :
    Calls Try.prog 78 #[.slice A n c] w fun e w' => e = .returned (.bool (runB s)) ∧ Below w.heap.size w w' := by
  have hl := hx.1
  have HX := Lib.hid hx
  have hr : Hid (runB s = (validS s && decide (s.length ≤ 12))) := rfl
  clear hx
  go_enter Try.func78, Try.ntmps78
  go_wp2_with fail
  refine (ValidSchedule_any A n c s w HX.out hnc).mono ?_
  rintro e w1 ⟨rfl, hb1⟩
  obtain ⟨bv, hv⟩ : ∃ b, validS s = b := ⟨_, rfl⟩
  rw [hv] at hr ⊢
  clear hv
  cases bv
  · go_wp2_with fail
    go_ret
    exact ⟨ret_bool (by rw [hr.out]; rfl), hb1⟩
  · go_wp2_with fail
    go_ret
    exact ⟨ret_bool (by rw [hr.out, hl, Bool.true_and]; exact decide_eq_decide.2 (by omega)), hb1⟩

end Go.Proofs.Ytncebpmckbcabaa
namespace Go.Proofs.Ytncebpmckbcabaa
open Go.RowKit Go.BigFrame
set_option linter.unusedVariables false


set_option maxRecDepth 100000 in
set_option maxHeartbeats 2000000 in
theorem StampsOf_any (A : Option Addr) (n c : Nat) (s : List OpV) (w : World) (hx : ROps w A n s) (hnc : n ≤ c) :
    Calls Try.prog 40 #[.slice A n c] w (RetInts w (orNil (validS s) (stI s))) := by
  have hn := hx.2.1
  have hl := hx.1
  have HX := Lib.hid hx
  clear hx
  obtain ⟨i0, hi, hz0, hz1, hz2⟩ := info_parts intInfo
  go_enter Try.func40, Try.ntmps40
  go_wp2_with fail
  refine (ValidSchedule_any A n c s w HX.out hnc).mono ?_
  rintro e w1 ⟨rfl, hb1⟩
  cases hv : validS s
  · have HV := Lib.hid hv
    clear hv
    go_wp2_with fail
    go_ret
    rw [HV.out]
    exact RetInts.nil hb1
  · have HV := Lib.hid hv
    clear hv
    have hsz1 := hb1.size
    go_wp2_with (at_make; refine wpList_make_own _ rfl _ _ 26 rfl w.heap.size 3 i0 _ 1 Try.underlying26 hi hz0 hz1 .i64 .i64 _ 4 rfl rfl rfl (by rw [hz2]; omega) (by unfold maxLen; omega) hsz1 ?_; intro w2 hown2 hg2)
    have hb2 : Below w.heap.size w w2 := hb1.grown hg2 hsz1 (by simp)
    have HST := Lib.hid (And.intro hown2 hb2)
    clear hown2 hg2 hi hz0 hz1 hz2 hb1 hb2
    go_loopw [3, 12] (fun ov i wr => ∃ (k m : Nat), k ≤ n ∧ m ≤ k ∧ i = .int .i64 k ∧ Below w.heap.size w wr ∧ wr.ownsRow w.heap.size 3 1 ov m (intCells (stTo s k))) (fun _ i _ => n - (intOf i).toNat)
    case atStart => exact ⟨0, 0, Nat.zero_le _, Nat.le_refl _, rfl, HST.out.2, HST.out.1⟩
    case round =>
      clear HST
      obtain ⟨k, m, hk, hmk, rfl, hb, hown⟩ := hrel
      obtain ⟨Ao, co, rfl, hmc⟩ := own_form2 hown
      by_cases hlt : k < n
      · obtain ⟨b, off, o, rfl, hbl, ho, c0, c1, c2⟩ := (HX.out.below hb (Nat.le_refl _)).at_ hlt
        have hs := hb.size
        have hstep := stTo_succ ho
        obtain ⟨tx, kd, it⟩ := o
        simp only at hstep c0 c1 c2
        obtain ⟨bc, hbc⟩ : ∃ bc, ((stTo s k).any fun y => y == tx) = bc := ⟨_, rfl⟩
        rw [hbc] at hstep
        have HS := Lib.hid hstep
        obtain ⟨W, hW⟩ : ∃ W : World, W = wr.alloc (.cells #[.int .i64 tx, .int .i64 kd, .int .i64 it] 62) := ⟨_, rfl⟩
        have hownW : W.ownsRow w.heap.size 3 1 (.slice Ao m co) m (intCells (stTo s k)) := by rw [hW]; exact hown.alloc _
        obtain ⟨L0, L1, L2, hbW, hWs⟩ := op_box hW
        have hC : Calls Try.prog 81 #[.slice Ao m co, .int .i64 tx] W fun e w' => e = .returned (.bool bc) ∧ Below W.heap.size W w' := by
          have := ContainsS_any Ao m co (stTo s k) tx W (RInts.of_own hownW (by omega)); rw [hbc] at this; exact this
        have HC := Lib.hid hC
        have x0 := L0 ⟨W, Below.refl _ _⟩
        simp only at x0
        have HW := Lib.hid hW
        clear ho hown hstep hbc hC hW L1 L2
        go_wp2_with fail
        rw [← HW.out]
        go_wp2_with fail
        refine HC.out.mono ?_
        rintro e w4 ⟨rfl, hb4⟩
        have hown4 := own_below hownW hb4
        have hb14 := hbW.trans (hb4.mono hbW.size)
        have hbw4 := hb.trans (hb14.mono hs)
        have hsz4 := hbw4.size
        have y0 := L0 ⟨w4, hb4⟩
        simp only at y0
        clear hb4 hb14 hownW x0 HW
        cases bc
        · go_wp2_with (at_builtin; refine app_ints (.tmp 21) (.tmp 24) (hown4.alloc _) (by simp; omega) (lit1 rfl _) (by omega) rfl rfl rfl rfl ?_; intro v5 w5 hown5 hg5 hat5)
          have hg5' := World.grownBy.trans (World.grownBy_alloc w4 _ _) hg5
          have hb5 := Below.own hbw4 hown4 (Nat.le_refl _) hg5'
          go_roundw
          case rel => exact ⟨k + 1, m + 1, by omega, by omega, by go_num, hb5, by rw [HS.out, if_neg (by simp)]; exact hown5⟩
          case measure => simp [intOf]; omega
        · go_wp2_with fail
          go_roundw
          case rel => exact ⟨k + 1, m, by omega, by omega, by go_num, hbw4, by rw [HS.out, if_pos (by first | rfl | trivial)]; exact hown4⟩
          case measure => simp [intOf]; omega
      · have e : stTo s k = stI s := by unfold stI; have : k = s.length := by omega
                                        rw [this]
        rw [e] at hown
        have HO := Lib.hid (RetInts.mk (c := m) (own_lenInts hown) (Nat.le_refl _) (FreshInts.of_own hown (Nat.le_refl _) (by omega)) hb)
        clear hown e
        go_wp2_with fail
        go_ret
        rw [HV.out]
        exact HO.out
end Go.Proofs.Ytncebpmckbcabaa
namespace Go.Proofs.Ytncebpmckbcabaa
open Go.RowKit Go.BigFrame
set_option linter.unusedVariables false

theorem acc_end {o : OpV} (h : validOp o = true) : (!isEnd o) = isAcc o := by
  unfold validOp at h
  simp only [Bool.and_eq_true, Bool.or_eq_true] at h
  unfold isEnd isAcc at *
  rcases h.2 with ⟨h1, _⟩ | ⟨h1, _⟩
  · simp only [Bool.or_eq_true, beq_iff_eq] at h1
    rcases h1 with h1 | h1 <;> rw [h1] <;> rfl
  · simp only [Bool.or_eq_true, beq_iff_eq] at h1
    rcases h1 with h1 | h1 <;> rw [h1] <;> rfl
end Go.Proofs.Ytncebpmckbcabaa
