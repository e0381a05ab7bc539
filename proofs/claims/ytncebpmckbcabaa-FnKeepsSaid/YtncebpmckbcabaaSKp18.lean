/-
  Texts that the proof rests on, joined: part 18.
-/
import Derived.StillTailTactics
import Derived.IntWalk
import Derived.Test.YtncebpmckbcabaaSKp3
import Derived.Test.YtncebpmckbcabaaSKp4
import Derived.Test.YtncebpmckbcabaaSKp5
import Derived.Test.YtncebpmckbcabaaSKp7
import Derived.Test.YtncebpmckbcabaaSKp16
import Derived.Test.YtncebpmckbcabaaSKp17
namespace Go.Proofs.Ytncebpmckbcabaa
open Go.RowKit Go.BigFrame
set_option linter.unusedVariables false

def sconfB (a b : OpV) : Bool := a.tx != b.tx && !isEnd a && !isEnd b && a.item == b.item && (a.kind == 1 || b.kind == 1)
theorem acc_end {o : OpV} (h : validOp o = true) : (!isEnd o) = isAcc o := by
  unfold validOp at h
  simp only [Bool.and_eq_true, Bool.or_eq_true] at h
  unfold isEnd isAcc at *
  rcases h.2 with ⟨h1, _⟩ | ⟨h1, _⟩
  · simp only [Bool.or_eq_true, beq_iff_eq] at h1
    rcases h1 with h1 | h1 <;> rw [h1] <;> rfl
  · simp only [Bool.or_eq_true, beq_iff_eq] at h1
    rcases h1 with h1 | h1 <;> rw [h1] <;> rfl
theorem sconf_eq {a b : OpV} (ha : validOp a = true) (hb : validOp b = true) : sconfB a b = confB a b := by
  unfold sconfB confB
  rw [acc_end ha, acc_end hb]

set_option maxRecDepth 100000 in
set_option maxHeartbeats 2000000 in
theorem sconflict_any (a b : OpV) (w : World) :
    Calls Try.prog 149 #[a.val, b.val] w fun e w' => e = .returned (.bool (sconfB a b)) ∧ Below w.heap.size w w' := by
  obtain ⟨at_, ak, ai⟩ := a
  obtain ⟨bt, bk, bi⟩ := b
  obtain ⟨r1, h1⟩ : ∃ z, (at_ != bt) = z := ⟨_, rfl⟩
  obtain ⟨r2, h2⟩ : ∃ z, isEnd ⟨at_, ak, ai⟩ = z := ⟨_, rfl⟩
  obtain ⟨r3, h3⟩ : ∃ z, isEnd ⟨bt, bk, bi⟩ = z := ⟨_, rfl⟩
  obtain ⟨r4, h4⟩ : ∃ z, (ai == bi) = z := ⟨_, rfl⟩
  obtain ⟨r5, h5⟩ : ∃ z, (ak == 1) = z := ⟨_, rfl⟩
  obtain ⟨r6, h6⟩ : ∃ z, (bk == 1) = z := ⟨_, rfl⟩
  have HR : Hid (sconfB ⟨at_, ak, ai⟩ ⟨bt, bk, bi⟩ = (r1 && !r2 && !r3 && r4 && (r5 || r6))) := by
    show _ = _
    unfold sconfB
    simp only
    rw [h1, h2, h3, h4, h5, h6]
  have hA : ∀ W : World, Calls Try.prog 89 #[.agg #[.int .i64 at_, .int .i64 ak, .int .i64 ai]] W fun e w' => e = .returned (.bool r2) ∧ Below W.heap.size W w' := fun W => by
    have := sends_any ⟨at_, ak, ai⟩ W; rw [h2] at this; exact this
  have hB : ∀ W : World, Calls Try.prog 89 #[.agg #[.int .i64 bt, .int .i64 bk, .int .i64 bi]] W fun e w' => e = .returned (.bool r3) ∧ Below W.heap.size W w' := fun W => by
    have := sends_any ⟨bt, bk, bi⟩ W; rw [h3] at this; exact this
  have HA := Lib.hid hA
  have HB := Lib.hid hB
  obtain ⟨W, hW⟩ : ∃ W : World, W = (w.alloc (.cells #[.int .i64 at_, .int .i64 ak, .int .i64 ai] 62)).alloc (.cells #[.int .i64 bt, .int .i64 bk, .int .i64 bi] 62) := ⟨_, rfl⟩
  obtain ⟨W1, hW1⟩ : ∃ W : World, W = w.alloc (.cells #[.int .i64 at_, .int .i64 ak, .int .i64 ai] 62) := ⟨_, rfl⟩
  obtain ⟨L0, L1, L2, hbW1, hs1⟩ := op_box hW1
  rw [← hW1] at hW
  obtain ⟨M0, M1, M2, hbW, hs2⟩ := op_box hW
  have hsz : W1.heap.size = w.heap.size + 1 := by rw [hW1]; simp
  rw [hsz] at M0 M1 M2
  have hbb := hbW1.trans (hbW.mono hbW1.size)
  have l0 : ∀ u : Later W, u.1.cell? ⟨w.heap.size, 0, none⟩ = some (.int .i64 at_) := fun u => L0 ⟨u.1, hbW.trans (u.2.mono hbW.size)⟩
  have l1 : ∀ u : Later W, u.1.cell? ⟨w.heap.size, 1, none⟩ = some (.int .i64 ak) := fun u => L1 ⟨u.1, hbW.trans (u.2.mono hbW.size)⟩
  have l2 : ∀ u : Later W, u.1.cell? ⟨w.heap.size, 2, none⟩ = some (.int .i64 ai) := fun u => L2 ⟨u.1, hbW.trans (u.2.mono hbW.size)⟩
  have HW : Hid ((w.alloc (.cells #[.int .i64 at_, .int .i64 ak, .int .i64 ai] 62)).alloc (.cells #[.int .i64 bt, .int .i64 bk, .int .i64 bi] 62) = W) := by show _ = _; rw [hW, hW1]
  unfold OpV.val
  clear hA hB hW hW1 L0 L1 L2 h2 h3
  cases r1
  · go_enter Try.func149, Try.ntmps149
    go_wp2_with fail
    go_ret
    rw [HW.out]
    exact ⟨ret_bool (by rw [HR.out]; rfl), hbb⟩
  · go_enter Try.func149, Try.ntmps149
    go_wp2_with fail
    rw [HW.out]
    refine (HA.out W).mono ?_
    rintro e w1 ⟨rfl, hb1⟩
    have x0 := l0 ⟨w1, hb1⟩
    have x2 := l2 ⟨w1, hb1⟩
    have x1 := l1 ⟨w1, hb1⟩
    have y0 := M0 ⟨w1, hb1⟩
    have y1 := M1 ⟨w1, hb1⟩
    have y2 := M2 ⟨w1, hb1⟩
    simp only at x0 x1 x2 y0 y1 y2
    have hbw1 := hbb.trans (hb1.mono hbb.size)
    cases r2
    · go_wp2_with fail
      refine (HB.out w1).mono ?_
      rintro e w2 ⟨rfl, hb2⟩
      have hbW2 := hb1.trans (hb2.mono hb1.size)
      have z1 := l1 ⟨w2, hbW2⟩
      have z2 := l2 ⟨w2, hbW2⟩
      have v1 := M1 ⟨w2, hbW2⟩
      have v2 := M2 ⟨w2, hbW2⟩
      simp only at z1 z2 v1 v2
      have hbw2 := hbb.trans (hbW2.mono hbb.size)
      clear x0 x1 x2 y0 y1 y2 HA HB
      cases r3
      · cases r4
        · go_wp2_with fail
          go_ret
          exact ⟨ret_bool (by rw [HR.out]; rfl), hbw2⟩
        · cases r5
          · cases r6
            · go_wp2_with fail
              go_ret
              exact ⟨ret_bool (by rw [HR.out]; rfl), hbw2⟩
            · go_wp2_with fail
              go_ret
              exact ⟨ret_bool (by rw [HR.out]; rfl), hbw2⟩
          · go_wp2_with fail
            go_ret
            exact ⟨ret_bool (by rw [HR.out]; rfl), hbw2⟩
      · go_wp2_with fail
        go_ret
        exact ⟨ret_bool (by rw [HR.out]; rfl), hbw2⟩
    · go_wp2_with fail
      go_ret
      exact ⟨ret_bool (by rw [HR.out]; rfl), hbw1⟩

end Go.Proofs.Ytncebpmckbcabaa
namespace Go.Proofs.Ytncebpmckbcabaa
open Go.RowKit Go.BigFrame
set_option linter.unusedVariables false

structure SgInv (w : World) (g : Nat) (rows : List Nat) (wr : World) : Prop where
  below : Below w.heap.size w wr
  row : RowIs wr g 3 (intCells (rowsI rows) ++ [])
theorem SgInv.later {w wr W : World} {g : Nat} {rows : List Nat} (h : SgInv w g rows wr) (hb : Below wr.heap.size wr W) : SgInv w g rows W :=
  ⟨h.below.trans (hb.mono h.below.size), h.row.below hb (Nat.le_refl _)⟩
theorem SgInv.drew {w wr : World} {g : Nat} {rows : List Nat} (h : SgInv w g rows wr) : SgInv w g rows wr.drew := ⟨h.below.drew, h.row⟩
theorem SgInv.set {w wr : World} {g : Nat} {rows : List Nat} {T : Nat} {u : Int} (h : SgInv w g rows wr) (hge : w.heap.size ≤ g) (hT : T ≤ 3) (h4 : Rows4 rows) {v : Int}
    (hv : v = ((rows.getD T 0 ||| (1 <<< u.toNat) : Nat) : Int)) : SgInv w g (rowSet rows T u) (wr.setCell ⟨g, T, none⟩ (.int .i64 v)) := by
  subst hv
  refine ⟨h.below.setCell (by simpa using hge) _, ?_⟩
  rw [rowsI_set]
  exact row_setInt h.row (by simp [rowsI, h4.1]; omega)
theorem SgInv.at_ {w wr : World} {g : Nat} {rows : List Nat} (h : SgInv w g rows wr) (h4 : Rows4 rows) {T : Nat} (hT : T ≤ 3) : wr.cell? ⟨g, T, none⟩ = some (.int .i64 ((rows.getD T 0 : Nat) : Int)) ∧ wr.frozen? ⟨g, T, none⟩ = false ∧ rows.getD T 0 < 16 := by
  obtain ⟨h1, h2⟩ := rowsI_at h4 hT
  refine ⟨h.row.cell ?_, h.row.frozen T, h2⟩
  rw [List.append_nil]
  exact h1

end Go.Proofs.Ytncebpmckbcabaa
namespace Go.Proofs.Ytncebpmckbcabaa
open Go.RowKit Go.BigFrame
set_option linter.unusedVariables false

theorem frst_hit {W : List OpV} {i k : Nat} {o p : OpV} (hi : W[i]? = some o) (hk : W[k]? = some p) (hki : k < i) (h : p.tx = o.tx) : frstB W i = false := by
  unfold frstB
  rw [hi]
  simp only
  rw [List.all_eq_false]
  exact ⟨p, List.mem_iff_getElem?.2 ⟨k, by rw [List.getElem?_take_of_lt hki]; exact hk⟩, by simp [h]⟩
theorem frst_all {W : List OpV} {i : Nat} {o : OpV} (hi : W[i]? = some o) (h : ∀ k p, k < i → W[k]? = some p → p.tx ≠ o.tx) : frstB W i = true := by
  unfold frstB
  rw [hi]
  simp only
  rw [List.all_eq_true]
  intro p hp
  obtain ⟨k, hk⟩ := List.mem_iff_getElem?.1 hp
  have hl := (List.getElem?_eq_some_iff.1 hk).1
  rw [List.length_take] at hl
  rw [List.getElem?_take_of_lt (by omega)] at hk
  simpa using h k p (by omega) hk
set_option maxRecDepth 100000 in
set_option maxHeartbeats 1000000 in
theorem firstOf_any (A : Option Addr) (n c : Nat) (W : List OpV) (i : Nat) (w : World) (hx : ROps w A n W) (hi : i < n) :
    Calls Try.prog 125 #[.slice A n c, .int .i64 (i : Int)] w fun e w' => e = .returned (.bool (frstB W i)) ∧ Below w.heap.size w w' := by
  have hn := hx.2.1
  have HX := Lib.hid hx
  obtain ⟨b, off, oi, hA, _, hoi, _⟩ := hx.at_ hi
  subst hA
  have HOI := Lib.hid hoi
  clear hx hoi
  go_enter Try.func125, Try.ntmps125
  go_wp2_with fail
  go_loopw [5] (fun k wr => ∃ q : Nat, q ≤ i ∧ k = .int .i64 q ∧ Below w.heap.size w wr ∧ ∀ k p, k < q → W[k]? = some p → p.tx ≠ oi.tx) (fun k _ => i - (intOf k).toNat)
  case atStart => exact ⟨0, Nat.zero_le _, rfl, Below.refl _ _, by omega⟩
  case round =>
    obtain ⟨q, hq, rfl, hb, hno⟩ := hrel
    have HNO := Lib.hid hno
    clear hno
    by_cases hlt : q < i
    · have hxr := HX.out.below hb (Nat.le_refl _)
      obtain ⟨b1, off1, p, hA1, hbl, hp, c0, _, _⟩ := hxr.at_ (k := q) (by omega)
      obtain ⟨b2, off2, o2, hA2, _, ho2, d0, _, _⟩ := hxr.at_ hi
      injection hA1 with hA1; injection hA1 with e1 e2 _; subst e1; subst e2
      injection hA2 with hA2; injection hA2 with e1 e2 _; subst e1; subst e2
      rw [HOI.out] at ho2
      injection ho2 with ho2
      subst ho2
      have L0 := Later.cell c0
      have M0 := Later.cell d0
      have HP := Lib.hid hp
      have hqi : (q : Int) < (i : Int) := by omega
      have hq0 : (0 : Int) ≤ (q : Int) := by omega
      have hqn : (q : Int) < (n : Int) := by omega
      have hin : (i : Int) < (n : Int) := by omega
      have hi0 : (0 : Int) ≤ (i : Int) := by omega
      clear hxr hp c0 d0
      obtain ⟨b1, hb1⟩ : ∃ z, (p.tx == oi.tx) = z := ⟨_, rfl⟩
      obtain ⟨ptx, hptx⟩ : ∃ z, p.tx = z := ⟨_, rfl⟩
      obtain ⟨otx, hotx⟩ : ∃ z, oi.tx = z := ⟨_, rfl⟩
      rw [hptx] at L0 hb1
      rw [hotx] at M0 hb1
      have HE := Lib.hid (And.intro hptx hotx)
      clear hptx hotx
      go_wp2_with fail
      refine region_later (by kernel_rfl) (by kernel_rfl) ?_
      repeat (go_big_quiet_step (fail))
      refine wpQuiet_nil ?_
      rintro _ ⟨u, rfl⟩
      have hbu := hb.trans (u.2.mono hb.size)
      cases b1
      · go_wp2_with fail
        go_roundw
        case rel =>
          refine ⟨q + 1, by omega, by go_num, hbu, fun k p' hk hp' => ?_⟩
          by_cases e : k = q
          · subst e
            rw [HP.out] at hp'
            injection hp' with hp'
            subst hp'
            rw [HE.out.1, HE.out.2]
            simpa using hb1
          · exact HNO.out k p' (by omega) hp'
        case measure => simp [intOf]; omega
      · have HF : Hid (frstB W i = false) := frst_hit HOI.out HP.out hlt (by rw [HE.out.1, HE.out.2]; simpa using hb1)
        go_wp2_with fail
        go_ret
        exact ⟨ret_bool HF.out.symm, hbu⟩
    · obtain rfl : q = i := by omega
      have HF : Hid (frstB W q = true) := frst_all HOI.out HNO.out
      go_wp2_with fail
      go_ret
      exact ⟨ret_bool HF.out.symm, hb⟩
end Go.Proofs.Ytncebpmckbcabaa
