/-
  Texts that the proof rests on, joined: part 5.
-/
import Derived.Deep.RegionHeld
import Derived.Outline
import Derived.StillTailTactics
import Derived.Test.YtncebpmckbcabaaSKp1
import Derived.Test.YtncebpmckbcabaaSKp3
import Derived.Test.YtncebpmckbcabaaSKp4
namespace Go.Proofs.Ytncebpmckbcabaa
open Go.RowKit Go.BigFrame
set_option linter.unusedVariables false


set_option maxHeartbeats 1000000 in
theorem svalidOp_any (o : OpV) (w : World) :
    Calls Try.prog 88 #[o.val] w fun e w' => e = .returned (.bool (validOp o)) ∧ Below w.heap.size w w' := by
  obtain ⟨t, k, x⟩ := o
  unfold OpV.val
  have hcase : inR t 0 3 = false ∨ (inR t 0 3 = true ∧ (k = 0 ∨ k = 1 ∨ (k = 2 ∧ x = 0) ∨ (k = 2 ∧ (x == 0) = false) ∨ (k = 3 ∧ x = 0) ∨ (k = 3 ∧ (x == 0) = false) ∨ ((k == 0) = false ∧ (k == 1) = false ∧ (k == 2) = false ∧ (k == 3) = false))) := by
    cases h1 : inR t 0 3
    · exact .inl rfl
    · refine .inr ⟨rfl, ?_⟩
      simp only [beq_eq_false_iff_ne]
      omega
  rcases hcase with h1 | ⟨h1, rfl | rfl | ⟨rfl, rfl⟩ | ⟨rfl, h5⟩ | ⟨rfl, rfl⟩ | ⟨rfl, h5⟩ | ⟨h2, h3, h4, h5⟩⟩
  all_goals
    go_enter Try.func88, Try.ntmps88
    go_wp2_with (go_at_call 124; refine (inRange_any _ _ _ _).mono ?_; rintro e w' ⟨rfl, rfl⟩)
    go_ret
    exact ⟨ret_bool (by simp [validOp, isAcc, isEnd, *]), by (repeat (first | exact Below.refl _ _ | assumption | refine B_alloc ?_ (Nat.le_refl _) _ | refine Below.drew ?_ | refine B_drewN ?_ _ | refine B_after (by assumption) ?_ | (refine B_set ?_ ?_; rotate_left; (first | exact Nat.le_refl _ | (simp; done) | (simp at *; omega)))))⟩


set_option maxRecDepth 100000 in
set_option maxHeartbeats 1000000 in
theorem svalid_any (A : Option Addr) (n c : Nat) (s : List OpV) (w : World) (hx : ROps w A n s) :
    Calls Try.prog 43 #[.slice A n c] w fun e w' => e = .returned (.bool (validS s)) ∧ Below w.heap.size w w' := by
  have hn := hx.2.1
  have hl := hx.1
  have HX := Lib.hid hx
  clear hx
  by_cases h16 : 16 < n
  · have HV : Hid (validS s = false) := by
      show _ = _
      unfold validS
      have : decide (s.length ≤ 16) = false := by simp; omega
      rw [this]; rfl
    go_enter Try.func43, Try.ntmps43
    go_wp2_with fail
    go_ret
    exact ⟨ret_bool HV.out.symm, Below.refl _ _⟩
  · go_enter Try.func43, Try.ntmps43
    go_wp2_with fail
    go_loopw [3] (fun i wr => ∃ k : Nat, k ≤ n ∧ i = .int .i64 k ∧ Below w.heap.size w wr ∧ (∀ j, j < k → goodAt s j = true)) (fun i _ => n - (intOf i).toNat)
    case atStart => exact ⟨0, Nat.zero_le _, rfl, Below.refl _ _, by omega⟩
    case round =>
      obtain ⟨wo, rfl⟩ : ∃ wo : World, wo = wr := ⟨_, rfl⟩
      obtain ⟨i, hi, rfl, hb, hno⟩ := hrel
      by_cases hlt : i < n
      · have hxr := HX.out.below hb (Nat.le_refl _)
        obtain ⟨b, off, o, rfl, hbl, ho, c0, c1, c2⟩ := hxr.at_ hlt
        have HX2 := Lib.hid hxr
        have hg : goodAt s i = (validOp o && noEnd (s.take i) o.tx) := by unfold goodAt; rw [ho]
        clear hxr ho
        cases hv : validOp o
        · have HB := Lib.hid (validS_bad (s := s) (k := i) (by omega) (by rw [hg, hv]; rfl))
          clear hg hno
          obtain ⟨tx, kd, it⟩ := o
          have hv' : ∀ W : World, Calls Try.prog 88 #[.agg #[.int .i64 tx, .int .i64 kd, .int .i64 it]] W fun e w' => e = .returned (.bool false) ∧ Below W.heap.size W w' := fun W => by
            have := svalidOp_any ⟨tx, kd, it⟩ W; rw [hv] at this; exact this
          have HV := Lib.hid hv'
          clear hv hv'
          go_wp2_with (go_at_call 88; refine (HV.out _).mono ?_; rintro e w1 ⟨rfl, hb1⟩)
          go_ret
          exact ⟨ret_bool HB.out.symm, hb.trans (hb1.mono hb.size)⟩
        · rw [hv, Bool.true_and] at hg
          have HG := Lib.hid hg
          have HN := Lib.hid hno
          obtain ⟨tx, kd, it⟩ := o
          have hv' : ∀ W : World, Calls Try.prog 88 #[.agg #[.int .i64 tx, .int .i64 kd, .int .i64 it]] W fun e w' => e = .returned (.bool true) ∧ Below W.heap.size W w' := fun W => by
            have := svalidOp_any ⟨tx, kd, it⟩ W; rw [hv] at this; exact this
          have HV := Lib.hid hv'
          clear hv hv' hg hno
          go_wp2_with (go_at_call 88; refine (HV.out _).mono ?_; rintro e w1 ⟨rfl, hb1⟩)
          go_loopw [4] (fun i' wr => ∃ k : Nat, k ≤ i ∧ i' = .int .i64 k ∧ Below wo.heap.size wo wr ∧ (∀ j, j < k → ∀ o, s[j]? = some o → (o.tx == tx && isEnd o) = false)) (fun i' _ => i - (intOf i').toNat)
          case atStart => exact ⟨0, Nat.zero_le _, rfl, hb1, by omega⟩
          case round =>
            clear hb1 w1
            obtain ⟨k, hk, rfl, hb1, hno⟩ := hrel
            by_cases hlt2 : k < i
            · have hxr := HX2.out.below hb1 (Nat.le_refl _)
              obtain ⟨b', off', q, hA, _, hq, d0, d1, d2⟩ := hxr.at_ (k := k) (by omega)
              injection hA with hA
              injection hA with e1 e2
              subst e1; subst e2
              have hc0 := (hb1.cell (p := ⟨b, off + i * 3, none⟩) (by simpa using hbl)).trans c0
              have L0 := Later.cell hc0
              have M0 := Later.cell d0
              have M1 := Later.cell d1
              have M2 := Later.cell d2
              have HN2 : Hid ((q.tx == tx && isEnd q) = false → ∀ j, j < k + 1 → ∀ o, s[j]? = some o → (o.tx == tx && isEnd o) = false) := fun h => no_snoc (p := fun o => o.tx == tx && isEnd o) hq hno h
              have HT : Hid ((q.tx == tx && isEnd q) = true → validS s = false) := fun h => validS_bad (k := i) (by omega) (by rw [HG.out]; exact noEnd_false hlt2 hq h)
              clear hno hq d0 d1 d2 hc0 hxr
              have hki : (k : Int) < (n : Int) := by omega
              have hii : (i : Int) < (n : Int) := by omega
              obtain ⟨qx, qk, qi⟩ := q
              simp only at M0 M1 M2 HN2 HT
              cases h1 : (qx == tx)
              · have hs := Lib.hid (HN2.out (by simp [h1]))
                go_wp2_with fail
                refine region_later (by kernel_rfl) (by kernel_rfl) ?_
                repeat (go_big_quiet_step (fail))
                refine wpQuiet_nil ?_
                rintro _ ⟨u, rfl⟩
                have hbu := hb1.trans (u.2.mono hb1.size)
                go_wp2_with fail
                go_roundw
                case rel => exact ⟨k + 1, by omega, by go_num, hbu, hs.out⟩
                case measure => simp [intOf]; omega
              · obtain ⟨be, hbe⟩ : ∃ be, isEnd ⟨qx, qk, qi⟩ = be := ⟨_, rfl⟩
                have he' : ∀ u : Later wr, Calls Try.prog 89 #[.agg #[.int .i64 qx, .int .i64 qk, .int .i64 qi]] u.1 fun e w' => e = .returned (.bool be) ∧ Below u.1.heap.size u.1 w' := fun u => by
                  have := sends_any ⟨qx, qk, qi⟩ u.1; rw [hbe] at this; exact this
                have HE := Lib.hid he'
                have HBE := Lib.hid hbe
                have H1 := Lib.hid h1
                clear he' hbe
                cases be
                · have hs := Lib.hid (HN2.out (by rw [HBE.out]; simp))
                  go_wp2_with fail
                  refine region_later (by kernel_rfl) (by kernel_rfl) ?_
                  repeat (go_big_quiet_step ((go_at_call 89; exact later_call _ (HE.out _))))
                  refine wpQuiet_nil ?_
                  rintro _ ⟨u, rfl⟩
                  have hbu := hb1.trans (u.2.mono hb1.size)
                  go_wp2_with fail
                  go_roundw
                  case rel => exact ⟨k + 1, by omega, by go_num, hbu, hs.out⟩
                  case measure => simp [intOf]; omega
                · have hs := Lib.hid (HT.out (by rw [HBE.out, H1.out]; rfl))
                  go_wp2_with fail
                  refine region_later (by kernel_rfl) (by kernel_rfl) ?_
                  repeat (go_big_quiet_step ((go_at_call 89; exact later_call _ (HE.out _))))
                  refine wpQuiet_nil ?_
                  rintro _ ⟨u, rfl⟩
                  have hbu := hb.trans ((hb1.trans (u.2.mono hb1.size)).mono hb.size)
                  go_wp2_with fail
                  go_ret
                  exact ⟨ret_bool hs.out.symm, hbu⟩
            · have hq := Lib.hid (all_snoc HN.out (by rw [HG.out]; exact noEnd_true (fun j hj => hno j (by omega))))
              clear hno
              go_wp2_with fail
              go_roundw
              case rel => exact ⟨i + 1, by omega, by go_num, hb.trans (hb1.mono hb.size), hq.out⟩
              case measure => simp [intOf]; omega
      · have HE := Lib.hid (validS_end (s := s) (fun j hj => hno j (by omega)))
        clear hno
        go_wp2_with fail
        go_ret
        exact ⟨ret_bool (by rw [HE.out, hl]; simp; omega), hb⟩

end Go.Proofs.Ytncebpmckbcabaa
namespace Go.Proofs.Ytncebpmckbcabaa
open Go.RowKit Go.BigFrame
set_option linter.unusedVariables false

def confB (a b : OpV) : Bool := a.tx != b.tx && isAcc a && isAcc b && a.item == b.item && (a.kind == 1 || b.kind == 1)

set_option maxRecDepth 100000 in
set_option maxHeartbeats 2000000 in
theorem conflicts_any (a b : OpV) (w : World) :
    Calls Try.prog 146 #[a.val, b.val] w fun e w' => e = .returned (.bool (confB a b)) ∧ Below w.heap.size w w' := by
  obtain ⟨at_, ak, ai⟩ := a
  obtain ⟨bt, bk, bi⟩ := b
  obtain ⟨r1, h1⟩ : ∃ z, (at_ != bt) = z := ⟨_, rfl⟩
  obtain ⟨r2, h2⟩ : ∃ z, isAcc ⟨at_, ak, ai⟩ = z := ⟨_, rfl⟩
  obtain ⟨r3, h3⟩ : ∃ z, isAcc ⟨bt, bk, bi⟩ = z := ⟨_, rfl⟩
  obtain ⟨r4, h4⟩ : ∃ z, (ai == bi) = z := ⟨_, rfl⟩
  obtain ⟨r5, h5⟩ : ∃ z, (ak == 1) = z := ⟨_, rfl⟩
  obtain ⟨r6, h6⟩ : ∃ z, (bk == 1) = z := ⟨_, rfl⟩
  have HR : Hid (confB ⟨at_, ak, ai⟩ ⟨bt, bk, bi⟩ = (r1 && r2 && r3 && r4 && (r5 || r6))) := by
    show _ = _
    unfold confB
    simp only
    rw [h1, h2, h3, h4, h5, h6]
  have hA : ∀ W : World, Calls Try.prog 111 #[.agg #[.int .i64 at_, .int .i64 ak, .int .i64 ai]] W fun e w' => e = .returned (.bool r2) ∧ Below W.heap.size W w' := fun W => by
    have := access_any ⟨at_, ak, ai⟩ W; rw [h2] at this; exact this
  have hB : ∀ W : World, Calls Try.prog 111 #[.agg #[.int .i64 bt, .int .i64 bk, .int .i64 bi]] W fun e w' => e = .returned (.bool r3) ∧ Below W.heap.size W w' := fun W => by
    have := access_any ⟨bt, bk, bi⟩ W; rw [h3] at this; exact this
  have HA := Lib.hid hA
  have HB := Lib.hid hB
  obtain ⟨W, hW⟩ : ∃ W : World, W = (w.alloc (.cells #[.int .i64 at_, .int .i64 ak, .int .i64 ai] 62)).alloc (.cells #[.int .i64 bt, .int .i64 bk, .int .i64 bi] 62) := ⟨_, rfl⟩
  obtain ⟨W1, hW1⟩ : ∃ W : World, W = w.alloc (.cells #[.int .i64 at_, .int .i64 ak, .int .i64 ai] 62) := ⟨_, rfl⟩
  obtain ⟨L0, L1, L2, hbW1, hs1⟩ := op_box hW1
  rw [← hW1] at hW
  obtain ⟨M0, M1, M2, hbW, hs2⟩ := op_box hW
  have hsz : W1.heap.size = w.heap.size + 1 := by rw [hW1]; simp
  rw [hsz] at M0 M1 M2
  have hbb := hbW1.trans (hbW.mono hbW1.size)
  have l0 : ∀ u : Later W, u.1.cell? ⟨w.heap.size, 0, none⟩ = some (.int .i64 at_) := fun u => L0 ⟨u.1, hbW.trans (u.2.mono hbW.size)⟩
  have l1 : ∀ u : Later W, u.1.cell? ⟨w.heap.size, 1, none⟩ = some (.int .i64 ak) := fun u => L1 ⟨u.1, hbW.trans (u.2.mono hbW.size)⟩
  have l2 : ∀ u : Later W, u.1.cell? ⟨w.heap.size, 2, none⟩ = some (.int .i64 ai) := fun u => L2 ⟨u.1, hbW.trans (u.2.mono hbW.size)⟩
  have HW : Hid ((w.alloc (.cells #[.int .i64 at_, .int .i64 ak, .int .i64 ai] 62)).alloc (.cells #[.int .i64 bt, .int .i64 bk, .int .i64 bi] 62) = W) := by show _ = _; rw [hW, hW1]
  unfold OpV.val
  clear hA hB hW hW1 L0 L1 L2 h2 h3
  cases r1
  · go_enter Try.func146, Try.ntmps146
    go_wp2_with fail
    go_ret
    rw [HW.out]
    exact ⟨ret_bool (by rw [HR.out]; rfl), hbb⟩
  · go_enter Try.func146, Try.ntmps146
    go_wp2_with fail
    rw [HW.out]
    refine (HA.out W).mono ?_
    rintro e w1 ⟨rfl, hb1⟩
    have x0 := l0 ⟨w1, hb1⟩
    have x2 := l2 ⟨w1, hb1⟩
    have x1 := l1 ⟨w1, hb1⟩
    have y0 := M0 ⟨w1, hb1⟩
    have y1 := M1 ⟨w1, hb1⟩
    have y2 := M2 ⟨w1, hb1⟩
    simp only at x0 x1 x2 y0 y1 y2
    have hbw1 := hbb.trans (hb1.mono hbb.size)
    cases r2
    · go_wp2_with fail
      go_ret
      exact ⟨ret_bool (by rw [HR.out]; rfl), hbw1⟩
    · go_wp2_with fail
      refine (HB.out w1).mono ?_
      rintro e w2 ⟨rfl, hb2⟩
      have hbW2 := hb1.trans (hb2.mono hb1.size)
      have z1 := l1 ⟨w2, hbW2⟩
      have z2 := l2 ⟨w2, hbW2⟩
      have v1 := M1 ⟨w2, hbW2⟩
      have v2 := M2 ⟨w2, hbW2⟩
      simp only at z1 z2 v1 v2
      have hbw2 := hbb.trans (hbW2.mono hbb.size)
      clear x0 x1 x2 y0 y1 y2 HA HB
      cases r3
      · go_wp2_with fail
        go_ret
        exact ⟨ret_bool (by rw [HR.out]; rfl), hbw2⟩
      · cases r4
        · go_wp2_with fail
          go_ret
          exact ⟨ret_bool (by rw [HR.out]; rfl), hbw2⟩
        · cases r5
          · cases r6
            · go_wp2_with fail
              go_ret
              exact ⟨ret_bool (by rw [HR.out]; rfl), hbw2⟩
            · go_wp2_with fail
              go_ret
              exact ⟨ret_bool (by rw [HR.out]; rfl), hbw2⟩
          · go_wp2_with fail
            go_ret
            exact ⟨ret_bool (by rw [HR.out]; rfl), hbw2⟩

end Go.Proofs.Ytncebpmckbcabaa
namespace Go.Proofs.Ytncebpmckbcabaa
open Go.RowKit Go.BigFrame
set_option linter.unusedVariables false

def isWr (o : OpV) : Bool := o.kind == 1
set_option maxHeartbeats 400000 in
theorem rules31_any (o : OpV) (w : World) :
    Calls Try.prog 143 #[o.val] w fun e w' => e = .returned (.bool (isWr o)) ∧ Below w.heap.size w w' := by
  obtain ⟨t, k, x⟩ := o
  unfold OpV.val isWr
  go_enter Try.func143, Try.ntmps143
  go_wp2_with fail
  go_ret
  exact ⟨rfl, (Below.refl _ _).alloc (Nat.le_refl _) _⟩
theorem runs_openW : Runs 143 := runs_of Try.func143 (by kernel_rfl) rfl

set_option maxRecDepth 100000 in
set_option maxHeartbeats 2000000 in
theorem openW_any (o q : OpV) (A : Option Addr) (n c b5 b3 b4 k : Nat) (s : List OpV) (w : World) (h5 : w.cell? ⟨b5, 0, none⟩ = some (.func (.func 143) #[] #[])) (h3 : w.cell? ⟨b3, 0, none⟩ = some (.slice A n c)) (h4 : w.cell? ⟨b4, 0, none⟩ = some (.int .i64 (k : Int))) (hx : ROps w A n s) (hk : k < n) (hnc : n ≤ c) (hq : s[k]? = some q) :
    Calls Try.prog 164 #[o.val, .pointer (some ⟨b5, 0, none⟩), .pointer (some ⟨b3, 0, none⟩), .pointer (some ⟨b4, 0, none⟩)] w fun e w' => e = .returned (.bool (isWr o && confB o q && decide (endOf (s.take k) o.tx < 0))) ∧ Below w.heap.size w w' := by
  have hn := hx.2.1
  obtain ⟨b, off, q', rfl, hbl, ho, c0, c1, c2⟩ := hx.at_ hk
  rw [hq] at ho
  injection ho with ho
  subst ho
  obtain ⟨r1, hr1⟩ : ∃ z, isWr o = z := ⟨_, rfl⟩
  obtain ⟨r2, hr2⟩ : ∃ z, confB o q = z := ⟨_, rfl⟩
  obtain ⟨E, hE⟩ : ∃ z, endOf (s.take k) o.tx = z := ⟨_, rfl⟩
  obtain ⟨r3, hr3⟩ : ∃ z, decide (E < 0) = z := ⟨_, rfl⟩
  rw [hr1, hr2, hE, hr3]
  obtain ⟨t, kd, x⟩ := o
  obtain ⟨W, hW⟩ : ∃ W : World, W = w.alloc (.cells #[.int .i64 t, .int .i64 kd, .int .i64 x] 62) := ⟨_, rfl⟩
  obtain ⟨L0, L1, L2, hbW, hWs⟩ := op_box hW
  have hxW := hx.below hbW (Nat.le_refl _)
  have hT : ∀ u : Later W, Calls Try.prog 143 #[.agg #[.int .i64 t, .int .i64 kd, .int .i64 x]] u.1 fun e w' => e = .returned (.bool r1) ∧ Below u.1.heap.size u.1 w' := fun u => by
    have := rules31_any ⟨t, kd, x⟩ u.1; rw [hr1] at this; exact this
  have hC : ∀ u : Later W, Calls Try.prog 146 #[.agg #[.int .i64 t, .int .i64 kd, .int .i64 x], .agg #[.int .i64 q.tx, .int .i64 q.kind, .int .i64 q.item]] u.1 fun e w' => e = .returned (.bool r2) ∧ Below u.1.heap.size u.1 w' := fun u => by
    have := conflicts_any ⟨t, kd, x⟩ q u.1; rw [hr2] at this; exact this
  have hEn : ∀ u : Later W, Calls Try.prog 70 #[.slice (some ⟨b, off, none⟩) k c, .int .i64 t] u.1 fun e w' => e = .returned (.int .i64 E) ∧ Below u.1.heap.size u.1 w' := fun u => by
    have := endOf_any (some ⟨b, off, none⟩) k c (s.take k) t u.1 ((hxW.take (by omega)).later u); simp only at hE; rw [hE] at this; exact this
  have HT := Lib.hid hT
  have HC := Lib.hid hC
  have HE := Lib.hid hEn
  have HW := Lib.hid hW
  have M5 : ∀ u : Later W, u.1.cell? ⟨b5, 0, none⟩ = some (.func (.func 143) #[] #[]) := fun u => Later.cell h5 ⟨u.1, hbW.trans (u.2.mono hbW.size)⟩
  have M3 : ∀ u : Later W, u.1.cell? ⟨b3, 0, none⟩ = some (.slice (some ⟨b, off, none⟩) n c) := fun u => Later.cell h3 ⟨u.1, hbW.trans (u.2.mono hbW.size)⟩
  have M4 : ∀ u : Later W, u.1.cell? ⟨b4, 0, none⟩ = some (.int .i64 (k : Int)) := fun u => Later.cell h4 ⟨u.1, hbW.trans (u.2.mono hbW.size)⟩
  have N0 : ∀ u : Later W, u.1.cell? ⟨b, off + k * 3, none⟩ = some (.int .i64 q.tx) := fun u => Later.cell c0 ⟨u.1, hbW.trans (u.2.mono hbW.size)⟩
  have N1 : ∀ u : Later W, u.1.cell? ⟨b, off + k * 3 + 1, none⟩ = some (.int .i64 q.kind) := fun u => Later.cell c1 ⟨u.1, hbW.trans (u.2.mono hbW.size)⟩
  have N2 : ∀ u : Later W, u.1.cell? ⟨b, off + k * 3 + 2, none⟩ = some (.int .i64 q.item) := fun u => Later.cell c2 ⟨u.1, hbW.trans (u.2.mono hbW.size)⟩
  have hki : (k : Int) < (n : Int) := by omega
  have hk0 : (0 : Int) ≤ (k : Int) := by omega
  have hkc : (k : Int) ≤ (c : Int) := by omega
  have hrun := runs_openW
  unfold Runs at hrun
  unfold OpV.val
  clear hT hC hEn hW h5 h3 h4 c0 c1 c2 hx hxW hr1 hr2 hE hq
  obtain ⟨q0, q1, q2⟩ := q
  simp only at N0 N1 N2 HC
  go_enter Try.func164, Try.ntmps164
  go_wp2_with fail
  rw [← HW.out]
  cases r1
  · refine region_later (by kernel_rfl) (by kernel_rfl) ?_
    repeat (go_big_quiet_step ((first | (go_at_call 143; exact later_call _ (HT.out _)) | (go_at_call 146; exact later_call _ (HC.out _)) | (go_at_call 70; exact later_call _ (HE.out _)))))
    refine wpQuiet_nil ?_
    rintro _ ⟨u, rfl⟩
    go_wp2_with fail
    go_ret
    exact ⟨ret_bool (by first | rfl | simp), hbW.trans (u.2.mono hbW.size)⟩
  · cases r2
    · refine region_later (by kernel_rfl) (by kernel_rfl) ?_
      repeat (go_big_quiet_step ((first | (go_at_call 143; exact later_call _ (HT.out _)) | (go_at_call 146; exact later_call _ (HC.out _)) | (go_at_call 70; exact later_call _ (HE.out _)))))
      refine wpQuiet_nil ?_
      rintro _ ⟨u, rfl⟩
      go_wp2_with fail
      go_ret
      exact ⟨ret_bool (by first | rfl | simp), hbW.trans (u.2.mono hbW.size)⟩
    · cases r3
      · refine region_later (by kernel_rfl) (by kernel_rfl) ?_
        repeat (go_big_quiet_step ((first | (go_at_call 143; exact later_call _ (HT.out _)) | (go_at_call 146; exact later_call _ (HC.out _)) | (go_at_call 70; exact later_call _ (HE.out _)))))
        refine wpQuiet_nil ?_
        rintro _ ⟨u, rfl⟩
        go_wp2_with fail
        go_ret
        exact ⟨ret_bool (by first | rfl | simp), hbW.trans (u.2.mono hbW.size)⟩
      · refine region_later (by kernel_rfl) (by kernel_rfl) ?_
        repeat (go_big_quiet_step ((first | (go_at_call 143; exact later_call _ (HT.out _)) | (go_at_call 146; exact later_call _ (HC.out _)) | (go_at_call 70; exact later_call _ (HE.out _)))))
        refine wpQuiet_nil ?_
        rintro _ ⟨u, rfl⟩
        go_wp2_with fail
        go_ret
        exact ⟨ret_bool (by first | rfl | simp), hbW.trans (u.2.mono hbW.size)⟩

end Go.Proofs.Ytncebpmckbcabaa
namespace Go.Proofs.Ytncebpmckbcabaa
open Go.RowKit Go.BigFrame
set_option linter.unusedVariables false

def openB (P : OpV → Bool) (s : List OpV) (k : Nat) : Bool := match s[k]? with | some q => (s.take k).any fun o => P o && confB o q && decide (endOf (s.take k) o.tx < 0) | none => false

theorem runs_open1 : Runs 164 := runs_of Try.func164 (by kernel_rfl) rfl
set_option maxRecDepth 100000 in
set_option maxHeartbeats 1000000 in
theorem open_w_any (A : Option Addr) (n c k : Nat) (s : List OpV) (w : World) (hx : ROps w A n s) (hnc : n ≤ c) (hk : k < n) :
    Calls Try.prog 142 #[.slice A n c, .int .i64 (k : Int), .func (.func 143) #[] #[]] w fun e w' => e = .returned (.bool (openB isWr s k)) ∧ Below w.heap.size w w' := by
  have hl := hx.1
  have e : s[k]? = some (s[k]'(by omega)) := List.getElem?_eq_getElem (by omega)
  have hO : openB isWr s k = (s.take k).any fun o => isWr o && confB o (s[k]'(by omega)) && decide (endOf (s.take k) o.tx < 0) := by unfold openB; rw [e]
  generalize s[k]'(by omega) = q at *
  obtain ⟨W1, hW1⟩ : ∃ W : World, W = w.alloc (.cells #[.slice A n c] 24) := ⟨_, rfl⟩
  obtain ⟨W2, hW2⟩ : ∃ W : World, W = W1.alloc (.cells #[.int .i64 (k : Int)] 3) := ⟨_, rfl⟩
  obtain ⟨W, hW⟩ : ∃ W : World, W = W2.alloc (.cells #[.func (.func 143) #[] #[]] 103) := ⟨_, rfl⟩
  have s1 : W1.heap.size = w.heap.size + 1 := by rw [hW1]; simp
  have s2 : W2.heap.size = w.heap.size + 2 := by rw [hW2]; simp [s1]
  have b1 : Below w.heap.size w W1 := by rw [hW1]; exact (Below.refl _ _).alloc (Nat.le_refl _) _
  have b2 : Below W1.heap.size W1 W2 := by rw [hW2]; exact (Below.refl _ _).alloc (Nat.le_refl _) _
  have b3 : Below W2.heap.size W2 W := by rw [hW]; exact (Below.refl _ _).alloc (Nat.le_refl _) _
  have x1 : W1.cell? ⟨w.heap.size, 0, none⟩ = some (.slice A n c) := by rw [hW1]; exact box_at _ _ _ _ _ rfl
  have x2 : W2.cell? ⟨w.heap.size + 1, 0, none⟩ = some (.int .i64 (k : Int)) := by rw [hW2, ← s1]; exact box_at _ _ _ _ _ rfl
  have x3 : W.cell? ⟨w.heap.size + 2, 0, none⟩ = some (.func (.func 143) #[] #[]) := by rw [hW, ← s2]; exact box_at _ _ _ _ _ rfl
  have b23 := b2.trans (b3.mono b2.size)
  have b123 := b1.trans (b23.mono b1.size)
  have y1 : W.cell? ⟨w.heap.size, 0, none⟩ = some (.slice A n c) := (b23.cell (p := ⟨w.heap.size, 0, none⟩) (block_lt_of_cell x1)).trans x1
  have y2 : W.cell? ⟨w.heap.size + 1, 0, none⟩ = some (.int .i64 (k : Int)) := (b3.cell (p := ⟨w.heap.size + 1, 0, none⟩) (block_lt_of_cell x2)).trans x2
  have hxW := hx.below b123 (Nat.le_refl _)
  have hclo : ClosOp W 164 #[.pointer (some ⟨w.heap.size + 2, 0, none⟩), .pointer (some ⟨w.heap.size, 0, none⟩), .pointer (some ⟨w.heap.size + 1, 0, none⟩)] (s.take k) (fun o => isWr o && confB o q && decide (endOf (s.take k) o.tx < 0)) := by
    refine ⟨runs_open1, fun W' o hb' ho => ?_⟩
    exact openW_any o q A n c _ _ _ k s W' ((hb'.cell (p := ⟨w.heap.size + 2, 0, none⟩) (block_lt_of_cell x3)).trans x3) ((hb'.cell (p := ⟨w.heap.size, 0, none⟩) (block_lt_of_cell y1)).trans y1) ((hb'.cell (p := ⟨w.heap.size + 1, 0, none⟩) (block_lt_of_cell y2)).trans y2) (hxW.below hb' (Nat.le_refl _)) hk hnc e
  have HC := Lib.hid (ContainsFuncOp_any A k c (s.take k) _ _ _ W (hxW.take (by omega)) hclo)
  have HW : Hid (((w.alloc (.cells #[.slice A n c] 24)).alloc (.cells #[.int .i64 (k : Int)] 3)).alloc (.cells #[.func (.func 143) #[] #[]] 103) = W) := by show _ = _; rw [hW, hW2, hW1]
  have HO := Lib.hid hO
  have hkc : (k : Int) ≤ (c : Int) := by omega
  have hk0 : (0 : Int) ≤ (k : Int) := by omega
  have hrun := runs_open1
  unfold Runs at hrun
  clear hclo hO hW hW2 hW1 x1 x2 x3 y1 y2 s1 s2 b1 b2 b3 b23 hx hxW
  go_enter Try.func142, Try.ntmps142
  go_wp2_with fail
  rw [HW.out]
  refine HC.out.mono ?_
  rintro e w1 ⟨rfl, hb1⟩
  go_wp2_with fail
  go_ret
  exact ⟨ret_bool HO.out.symm, b123.trans (hb1.mono b123.size)⟩
set_option maxHeartbeats 400000 in
theorem rules3_any (A : Option Addr) (n c k : Nat) (s : List OpV) (w : World) (hx : ROps w A n s) (hnc : n ≤ c) (hk : k < n) :
    Calls Try.prog 141 #[.slice A n c, .int .i64 (k : Int)] w fun e w' => e = .returned (.bool (openB isWr s k)) ∧ Below w.heap.size w w' := by
  have HC := Lib.hid (open_w_any A n c k s w hx hnc hk)
  clear hx
  go_enter Try.func141, Try.ntmps141
  go_wp2_with fail
  refine HC.out.mono ?_
  rintro e w1 ⟨rfl, hb1⟩
  go_wp2_with fail
  go_ret
  exact ⟨rfl, hb1⟩

end Go.Proofs.Ytncebpmckbcabaa
