/-
  Texts that the proof rests on, joined: part 29.
-/
import Derived.Laws.EntriesVeiled
import Derived.Test.YtncebpmckbcabaaSKp3
import Derived.Test.YtncebpmckbcabaaSKp5
import Derived.Test.YtncebpmckbcabaaSKp28
namespace Go.Proofs.Ytncebpmckbcabaa
open Go.RowKit Go.BigFrame
set_option linter.unusedVariables false

theorem runs_openA : Runs 111 := runs_of Try.func111 (by kernel_rfl) rfl

set_option maxRecDepth 100000 in
set_option maxHeartbeats 2000000 in
theorem openA_any (o q : OpV) (A : Option Addr) (n c b5 b3 b4 k : Nat) (s : List OpV) (w : World) (h5 : w.cell? ⟨b5, 0, none⟩ = some (.func (.func 111) #[] #[])) (h3 : w.cell? ⟨b3, 0, none⟩ = some (.slice A n c)) (h4 : w.cell? ⟨b4, 0, none⟩ = some (.int .i64 (k : Int))) (hx : ROps w A n s) (hk : k < n) (hnc : n ≤ c) (hq : s[k]? = some q) :
    Calls Try.prog 164 #[o.val, .pointer (some ⟨b5, 0, none⟩), .pointer (some ⟨b3, 0, none⟩), .pointer (some ⟨b4, 0, none⟩)] w fun e w' => e = .returned (.bool (isAcc o && confB o q && decide (endOf (s.take k) o.tx < 0))) ∧ Below w.heap.size w w' := by
  have hn := hx.2.1
  obtain ⟨b, off, q', rfl, hbl, ho, c0, c1, c2⟩ := hx.at_ hk
  rw [hq] at ho
  injection ho with ho
  subst ho
  obtain ⟨r1, hr1⟩ : ∃ z, isAcc o = z := ⟨_, rfl⟩
  obtain ⟨r2, hr2⟩ : ∃ z, confB o q = z := ⟨_, rfl⟩
  obtain ⟨E, hE⟩ : ∃ z, endOf (s.take k) o.tx = z := ⟨_, rfl⟩
  obtain ⟨r3, hr3⟩ : ∃ z, decide (E < 0) = z := ⟨_, rfl⟩
  rw [hr1, hr2, hE, hr3]
  obtain ⟨t, kd, x⟩ := o
  obtain ⟨W, hW⟩ : ∃ W : World, W = w.alloc (.cells #[.int .i64 t, .int .i64 kd, .int .i64 x] 62) := ⟨_, rfl⟩
  obtain ⟨L0, L1, L2, hbW, hWs⟩ := op_box hW
  have hxW := hx.below hbW (Nat.le_refl _)
  have hT : ∀ u : Later W, Calls Try.prog 111 #[.agg #[.int .i64 t, .int .i64 kd, .int .i64 x]] u.1 fun e w' => e = .returned (.bool r1) ∧ Below u.1.heap.size u.1 w' := fun u => by
    have := access_any ⟨t, kd, x⟩ u.1; rw [hr1] at this; exact this
  have hC : ∀ u : Later W, Calls Try.prog 146 #[.agg #[.int .i64 t, .int .i64 kd, .int .i64 x], .agg #[.int .i64 q.tx, .int .i64 q.kind, .int .i64 q.item]] u.1 fun e w' => e = .returned (.bool r2) ∧ Below u.1.heap.size u.1 w' := fun u => by
    have := conflicts_any ⟨t, kd, x⟩ q u.1; rw [hr2] at this; exact this
  have hEn : ∀ u : Later W, Calls Try.prog 70 #[.slice (some ⟨b, off, none⟩) k c, .int .i64 t] u.1 fun e w' => e = .returned (.int .i64 E) ∧ Below u.1.heap.size u.1 w' := fun u => by
    have := endOf_any (some ⟨b, off, none⟩) k c (s.take k) t u.1 ((hxW.take (by omega)).later u); simp only at hE; rw [hE] at this; exact this
  have HT := Lib.hid hT
  have HC := Lib.hid hC
  have HE := Lib.hid hEn
  have HW := Lib.hid hW
  have M5 : ∀ u : Later W, u.1.cell? ⟨b5, 0, none⟩ = some (.func (.func 111) #[] #[]) := fun u => Later.cell h5 ⟨u.1, hbW.trans (u.2.mono hbW.size)⟩
  have M3 : ∀ u : Later W, u.1.cell? ⟨b3, 0, none⟩ = some (.slice (some ⟨b, off, none⟩) n c) := fun u => Later.cell h3 ⟨u.1, hbW.trans (u.2.mono hbW.size)⟩
  have M4 : ∀ u : Later W, u.1.cell? ⟨b4, 0, none⟩ = some (.int .i64 (k : Int)) := fun u => Later.cell h4 ⟨u.1, hbW.trans (u.2.mono hbW.size)⟩
  have N0 : ∀ u : Later W, u.1.cell? ⟨b, off + k * 3, none⟩ = some (.int .i64 q.tx) := fun u => Later.cell c0 ⟨u.1, hbW.trans (u.2.mono hbW.size)⟩
  have N1 : ∀ u : Later W, u.1.cell? ⟨b, off + k * 3 + 1, none⟩ = some (.int .i64 q.kind) := fun u => Later.cell c1 ⟨u.1, hbW.trans (u.2.mono hbW.size)⟩
  have N2 : ∀ u : Later W, u.1.cell? ⟨b, off + k * 3 + 2, none⟩ = some (.int .i64 q.item) := fun u => Later.cell c2 ⟨u.1, hbW.trans (u.2.mono hbW.size)⟩
  have hki : (k : Int) < (n : Int) := by omega
  have hk0 : (0 : Int) ≤ (k : Int) := by omega
  have hkc : (k : Int) ≤ (c : Int) := by omega
  have hrun := runs_openA
  unfold Runs at hrun
  unfold OpV.val
  clear hT hC hEn hW h5 h3 h4 c0 c1 c2 hx hxW hr1 hr2 hE hq
  obtain ⟨q0, q1, q2⟩ := q
  simp only at N0 N1 N2 HC
  go_enter Try.func164, Try.ntmps164
  go_wp2_with fail
  rw [← HW.out]
  cases r1
  · refine region_later (by kernel_rfl) (by kernel_rfl) ?_
    repeat (go_big_quiet_step ((first | (go_at_call 111; exact later_call _ (HT.out _)) | (go_at_call 146; exact later_call _ (HC.out _)) | (go_at_call 70; exact later_call _ (HE.out _)))))
    refine wpQuiet_nil ?_
    rintro _ ⟨u, rfl⟩
    go_wp2_with fail
    go_ret
    exact ⟨ret_bool (by first | rfl | simp), hbW.trans (u.2.mono hbW.size)⟩
  · cases r2
    · refine region_later (by kernel_rfl) (by kernel_rfl) ?_
      repeat (go_big_quiet_step ((first | (go_at_call 111; exact later_call _ (HT.out _)) | (go_at_call 146; exact later_call _ (HC.out _)) | (go_at_call 70; exact later_call _ (HE.out _)))))
      refine wpQuiet_nil ?_
      rintro _ ⟨u, rfl⟩
      go_wp2_with fail
      go_ret
      exact ⟨ret_bool (by first | rfl | simp), hbW.trans (u.2.mono hbW.size)⟩
    · cases r3
      · refine region_later (by kernel_rfl) (by kernel_rfl) ?_
        repeat (go_big_quiet_step ((first | (go_at_call 111; exact later_call _ (HT.out _)) | (go_at_call 146; exact later_call _ (HC.out _)) | (go_at_call 70; exact later_call _ (HE.out _)))))
        refine wpQuiet_nil ?_
        rintro _ ⟨u, rfl⟩
        go_wp2_with fail
        go_ret
        exact ⟨ret_bool (by first | rfl | simp), hbW.trans (u.2.mono hbW.size)⟩
      · refine region_later (by kernel_rfl) (by kernel_rfl) ?_
        repeat (go_big_quiet_step ((first | (go_at_call 111; exact later_call _ (HT.out _)) | (go_at_call 146; exact later_call _ (HC.out _)) | (go_at_call 70; exact later_call _ (HE.out _)))))
        refine wpQuiet_nil ?_
        rintro _ ⟨u, rfl⟩
        go_wp2_with fail
        go_ret
        exact ⟨ret_bool (by first | rfl | simp), hbW.trans (u.2.mono hbW.size)⟩

theorem runs_openA1 : Runs 164 := runs_of Try.func164 (by kernel_rfl) rfl
set_option maxRecDepth 100000 in
set_option maxHeartbeats 1000000 in
theorem open_a_any (A : Option Addr) (n c k : Nat) (s : List OpV) (w : World) (hx : ROps w A n s) (hnc : n ≤ c) (hk : k < n) :
    Calls Try.prog 142 #[.slice A n c, .int .i64 (k : Int), .func (.func 111) #[] #[]] w fun e w' => e = .returned (.bool (opnB isAcc s k)) ∧ Below w.heap.size w w' := by
  have hl := hx.1
  have e : s[k]? = some (s[k]'(by omega)) := List.getElem?_eq_getElem (by omega)
  have hO : opnB isAcc s k = (s.take k).any fun o => isAcc o && confB o (s[k]'(by omega)) && decide (endOf (s.take k) o.tx < 0) := by unfold opnB; rw [e]
  generalize s[k]'(by omega) = q at *
  obtain ⟨W1, hW1⟩ : ∃ W : World, W = w.alloc (.cells #[.slice A n c] 24) := ⟨_, rfl⟩
  obtain ⟨W2, hW2⟩ : ∃ W : World, W = W1.alloc (.cells #[.int .i64 (k : Int)] 3) := ⟨_, rfl⟩
  obtain ⟨W, hW⟩ : ∃ W : World, W = W2.alloc (.cells #[.func (.func 111) #[] #[]] 103) := ⟨_, rfl⟩
  have s1 : W1.heap.size = w.heap.size + 1 := by rw [hW1]; simp
  have s2 : W2.heap.size = w.heap.size + 2 := by rw [hW2]; simp [s1]
  have b1 : Below w.heap.size w W1 := by rw [hW1]; exact (Below.refl _ _).alloc (Nat.le_refl _) _
  have b2 : Below W1.heap.size W1 W2 := by rw [hW2]; exact (Below.refl _ _).alloc (Nat.le_refl _) _
  have b3 : Below W2.heap.size W2 W := by rw [hW]; exact (Below.refl _ _).alloc (Nat.le_refl _) _
  have x1 : W1.cell? ⟨w.heap.size, 0, none⟩ = some (.slice A n c) := by rw [hW1]; exact box_at _ _ _ _ _ rfl
  have x2 : W2.cell? ⟨w.heap.size + 1, 0, none⟩ = some (.int .i64 (k : Int)) := by rw [hW2, ← s1]; exact box_at _ _ _ _ _ rfl
  have x3 : W.cell? ⟨w.heap.size + 2, 0, none⟩ = some (.func (.func 111) #[] #[]) := by rw [hW, ← s2]; exact box_at _ _ _ _ _ rfl
  have b23 := b2.trans (b3.mono b2.size)
  have b123 := b1.trans (b23.mono b1.size)
  have y1 : W.cell? ⟨w.heap.size, 0, none⟩ = some (.slice A n c) := (b23.cell (p := ⟨w.heap.size, 0, none⟩) (block_lt_of_cell x1)).trans x1
  have y2 : W.cell? ⟨w.heap.size + 1, 0, none⟩ = some (.int .i64 (k : Int)) := (b3.cell (p := ⟨w.heap.size + 1, 0, none⟩) (block_lt_of_cell x2)).trans x2
  have hxW := hx.below b123 (Nat.le_refl _)
  have hclo : ClosOp W 164 #[.pointer (some ⟨w.heap.size + 2, 0, none⟩), .pointer (some ⟨w.heap.size, 0, none⟩), .pointer (some ⟨w.heap.size + 1, 0, none⟩)] (s.take k) (fun o => isAcc o && confB o q && decide (endOf (s.take k) o.tx < 0)) := by
    refine ⟨runs_openA1, fun W' o hb' ho => ?_⟩
    exact openA_any o q A n c _ _ _ k s W' ((hb'.cell (p := ⟨w.heap.size + 2, 0, none⟩) (block_lt_of_cell x3)).trans x3) ((hb'.cell (p := ⟨w.heap.size, 0, none⟩) (block_lt_of_cell y1)).trans y1) ((hb'.cell (p := ⟨w.heap.size + 1, 0, none⟩) (block_lt_of_cell y2)).trans y2) (hxW.below hb' (Nat.le_refl _)) hk hnc e
  have HC := Lib.hid (ContainsFuncOp_any A k c (s.take k) _ _ _ W (hxW.take (by omega)) hclo)
  have HW : Hid (((w.alloc (.cells #[.slice A n c] 24)).alloc (.cells #[.int .i64 (k : Int)] 3)).alloc (.cells #[.func (.func 111) #[] #[]] 103) = W) := by show _ = _; rw [hW, hW2, hW1]
  have HO := Lib.hid hO
  have hkc : (k : Int) ≤ (c : Int) := by omega
  have hk0 : (0 : Int) ≤ (k : Int) := by omega
  have hrun := runs_openA1
  unfold Runs at hrun
  clear hclo hO hW hW2 hW1 x1 x2 x3 y1 y2 s1 s2 b1 b2 b3 b23 hx hxW
  go_enter Try.func142, Try.ntmps142
  go_wp2_with fail
  rw [HW.out]
  refine HC.out.mono ?_
  rintro e w1 ⟨rfl, hb1⟩
  go_wp2_with fail
  go_ret
  exact ⟨ret_bool HO.out.symm, b123.trans (hb1.mono b123.size)⟩
set_option maxHeartbeats 400000 in
theorem rules4_any (A : Option Addr) (n c k : Nat) (s : List OpV) (w : World) (hx : ROps w A n s) (hnc : n ≤ c) (hk : k < n) :
    Calls Try.prog 144 #[.slice A n c, .int .i64 (k : Int)] w fun e w' => e = .returned (.bool (opnB isAcc s k)) ∧ Below w.heap.size w w' := by
  have HC := Lib.hid (open_a_any A n c k s w hx hnc hk)
  clear hx
  go_enter Try.func144, Try.ntmps144
  go_wp2_with fail
  refine HC.out.mono ?_
  rintro e w1 ⟨rfl, hb1⟩
  go_wp2_with fail
  go_ret
  exact ⟨rfl, hb1⟩


set_option maxRecDepth 100000 in
set_option maxHeartbeats 2000000 in
theorem faultRigor_any (A : Option Addr) (n c : Nat) (s : List OpV) (w : World) (hx : ROps w A n s) (hnc : n ≤ c) :
    Calls Try.prog 73 #[.string { data := #[114, 105, 103, 111, 114, 111, 117, 115] }, .slice A n c] w (FaultP s w (faultZ (opnB isAcc s) s.length)) := by
  have hl := hx.1
  have hn := hx.2.1
  have HX := Lib.hid hx
  clear hx
  go_enter Try.func73, Try.ntmps73
  go_wp2_with fail
  refine (ValidSchedule_any A n c s w HX.out hnc).mono ?_
  rintro e w1 ⟨rfl, hb1⟩
  cases hv : validS s
  · have HV := Lib.hid hv
    clear hv
    go_wp2_with fail
    go_ret2
    exact FaultP.no HV.out hb1
  · have HV := Lib.hid hv
    clear hv
    go_wp2_with fail
    refine (rules_any w1).mono ?_
    rintro e w2 ⟨rfl, hw2⟩
    have hb12 : Below w1.heap.size w1 w2 := by rw [hw2]; exact (Below.refl _ _).alloc (Nat.le_refl _) _
    have hbV := hb1.trans (hb12.mono hb1.size)
    have hlt2 : w1.heap.size < w2.heap.size := by rw [hw2]; simp
    have HW2 := Lib.hid hw2
    clear hw2
    go_wp2_with fail
    go_loopw [14] (fun i wr => ∃ r : Nat, r ≤ 3 ∧ i = .int .i64 r ∧ Below w2.heap.size w2 wr) (fun i _ => 5 - (intOf i).toNat)
    case atStart => exact ⟨0, by omega, rfl, Below.refl _ _⟩
    case round =>
    obtain ⟨r, hr, rfl, hb⟩ := hrel
    rcases (by omega : r = 0 ∨ r = 1 ∨ r = 2 ∨ r = 3) with rfl | rfl | rfl | rfl
    · have d0 : wr.cell? ⟨w1.heap.size, 0, none⟩ = some (.string { data := #[114, 101, 99, 111, 118, 101, 114, 97, 98, 108, 101] }) := (hb.cell (p := ⟨w1.heap.size, 0, none⟩) hlt2).trans (by rw [HW2.out]; exact box_at _ _ _ _ _ rfl)
      have d1 : wr.cell? ⟨w1.heap.size, 1, none⟩ = some (.func (.func 138) #[] #[]) := (hb.cell (p := ⟨w1.heap.size, 1, none⟩) hlt2).trans (by rw [HW2.out]; exact box_at _ _ _ _ _ rfl)
      have hne : (({ data := #[114, 101, 99, 111, 118, 101, 114, 97, 98, 108, 101] } : ByteArray) != { data := #[114, 105, 103, 111, 114, 111, 117, 115] }) = true := by decide
      go_wp2_with fail
      go_roundw
      case rel => exact ⟨1, by omega, by go_num, hb.trans ((by (repeat (first | exact Below.refl _ _ | assumption | refine B_alloc ?_ (Nat.le_refl _) _ | refine Below.drew ?_ | refine B_drewN ?_ _ | refine B_after (by assumption) ?_ | (refine B_set ?_ ?_; rotate_left; (first | exact Nat.le_refl _ | (simp; done) | (simp at *; omega))))) : Below wr.heap.size wr _).mono hb.size)⟩
      case measure => simp [intOf] <;> omega
    · have d0 : wr.cell? ⟨w1.heap.size, 2, none⟩ = some (.string { data := #[99, 97, 115, 99, 97, 100, 101, 115] }) := (hb.cell (p := ⟨w1.heap.size, 2, none⟩) hlt2).trans (by rw [HW2.out]; exact box_at _ _ _ _ _ rfl)
      have d1 : wr.cell? ⟨w1.heap.size, 3, none⟩ = some (.func (.func 140) #[] #[]) := (hb.cell (p := ⟨w1.heap.size, 3, none⟩) hlt2).trans (by rw [HW2.out]; exact box_at _ _ _ _ _ rfl)
      have hne : (({ data := #[99, 97, 115, 99, 97, 100, 101, 115] } : ByteArray) != { data := #[114, 105, 103, 111, 114, 111, 117, 115] }) = true := by decide
      go_wp2_with fail
      go_roundw
      case rel => exact ⟨2, by omega, by go_num, hb.trans ((by (repeat (first | exact Below.refl _ _ | assumption | refine B_alloc ?_ (Nat.le_refl _) _ | refine Below.drew ?_ | refine B_drewN ?_ _ | refine B_after (by assumption) ?_ | (refine B_set ?_ ?_; rotate_left; (first | exact Nat.le_refl _ | (simp; done) | (simp at *; omega))))) : Below wr.heap.size wr _).mono hb.size)⟩
      case measure => simp [intOf] <;> omega
    · have d0 : wr.cell? ⟨w1.heap.size, 4, none⟩ = some (.string { data := #[115, 116, 114, 105, 99, 116] }) := (hb.cell (p := ⟨w1.heap.size, 4, none⟩) hlt2).trans (by rw [HW2.out]; exact box_at _ _ _ _ _ rfl)
      have d1 : wr.cell? ⟨w1.heap.size, 5, none⟩ = some (.func (.func 141) #[] #[]) := (hb.cell (p := ⟨w1.heap.size, 5, none⟩) hlt2).trans (by rw [HW2.out]; exact box_at _ _ _ _ _ rfl)
      have hne : (({ data := #[115, 116, 114, 105, 99, 116] } : ByteArray) != { data := #[114, 105, 103, 111, 114, 111, 117, 115] }) = true := by decide
      go_wp2_with fail
      go_roundw
      case rel => exact ⟨3, by omega, by go_num, hb.trans ((by (repeat (first | exact Below.refl _ _ | assumption | refine B_alloc ?_ (Nat.le_refl _) _ | refine Below.drew ?_ | refine B_drewN ?_ _ | refine B_after (by assumption) ?_ | (refine B_set ?_ ?_; rotate_left; (first | exact Nat.le_refl _ | (simp; done) | (simp at *; omega))))) : Below wr.heap.size wr _).mono hb.size)⟩
      case measure => simp [intOf] <;> omega
    · rw [show ((3 : Nat) : Int) = 3 from rfl]
      have d0 : wr.cell? ⟨w1.heap.size, 6, none⟩ = some (.string { data := #[114, 105, 103, 111, 114, 111, 117, 115] }) := (hb.cell (p := ⟨w1.heap.size, 6, none⟩) hlt2).trans (by rw [HW2.out]; exact box_at _ _ _ _ _ rfl)
      have d1 : wr.cell? ⟨w1.heap.size, 7, none⟩ = some (.func (.func 144) #[] #[]) := (hb.cell (p := ⟨w1.heap.size, 7, none⟩) hlt2).trans (by rw [HW2.out]; exact box_at _ _ _ _ _ rfl)
      have hrun : Runs 144 := runs_of Try.func144 (by kernel_rfl) rfl
      unfold Runs at hrun
      obtain ⟨wo, rfl⟩ : ∃ wo : World, wo = wr := ⟨_, rfl⟩
      obtain ⟨W, hW⟩ : ∃ W : World, W = wo.alloc (.cells #[.string { data := #[114, 105, 103, 111, 114, 111, 117, 115] }, .func (.func 144) #[] #[]] 127) := ⟨_, rfl⟩
      have x1 : W.cell? ⟨wo.heap.size, 1, none⟩ = some (.func (.func 144) #[] #[]) := by rw [hW]; exact box_at _ _ _ _ _ rfl
      have hbW : Below wo.heap.size wo W := by rw [hW]; exact (Below.refl _ _).alloc (Nat.le_refl _) _
      have hbwW := hb.trans (hbW.mono hb.size)
      have HW := Lib.hid hW
      clear hW
      go_wp2_with fail
      rw [← HW.out]
      go_loopw [24] (fun i wr => ∃ k : Nat, k ≤ n ∧ i = .int .i64 k ∧ Below W.heap.size W wr ∧ ∀ j, j < k → opnB isAcc s j = false) (fun i _ => n - (intOf i).toNat)
      case atStart => exact ⟨0, Nat.zero_le _, rfl, Below.refl _ _, by omega⟩
      case round =>
        obtain ⟨wi, rfl⟩ : ∃ wi : World, wi = wr := ⟨_, rfl⟩
        obtain ⟨k, hk, rfl, hbi, hno⟩ := hrel
        have hbwi := hbwW.trans (hbi.mono hbwW.size)
        by_cases hlt : k < n
        · have y1 := (hbi.cell (p := ⟨wo.heap.size, 1, none⟩) (block_lt_of_cell x1)).trans x1
          obtain ⟨bb, hbb⟩ : ∃ b, opnB isAcc s k = b := ⟨_, rfl⟩
          have hC : Calls Try.prog 144 #[.slice A n c, .int .i64 (k : Int)] wi fun e w' => e = .returned (.bool bb) ∧ Below wi.heap.size wi w' := by
            have := rules4_any A n c k s wi (HX.out.below (hbV.trans (hbwi.mono hbV.size)) (Nat.le_refl _)) hnc hlt; rw [hbb] at this; exact this
          have HT : Hid (bb = true → faultZ (opnB isAcc s) s.length = (k : Int)) := fun h => by rw [hl]; exact faultZ_hit hlt (hbb.trans h) hno
          have HN : Hid (bb = false → ∀ j, j < k + 1 → opnB isAcc s j = false) := fun h j hj => by
            by_cases e : j = k
            · subst e; exact hbb.trans h
            · exact hno j (by omega)
          have HC := Lib.hid hC
          clear hC hno hbb
          go_wp2_with fail
          refine HC.out.mono ?_
          rintro e w5 ⟨rfl, hb5⟩
          cases bb
          · have hn2 := Lib.hid (HN.out (by first | rfl | trivial))
            go_wp2_with fail
            go_roundw
            case rel => exact ⟨k + 1, by omega, by go_num, hbi.trans (hb5.mono hbi.size), hn2.out⟩
            case measure => simp [intOf]; omega
          · have ht2 := Lib.hid (HT.out (by first | rfl | trivial))
            have hbe := hbV.trans ((hbwi.trans (hb5.mono hbwi.size)).mono hbV.size)
            go_wp2_with fail
            go_ret2
            exact FaultP.yes HV.out ht2.out hbe
        · have ht2 : Hid (faultZ (opnB isAcc s) s.length = -1) := faultZ_none (fun j hj => hno j (by omega))
          have hbe := hbV.trans (hbwi.mono hbV.size)
          clear hno
          go_wp2_with fail
          go_ret2
          exact FaultP.yes HV.out ht2.out hbe


set_option maxHeartbeats 400000 in
theorem keepsRigor_any (A : Option Addr) (n c : Nat) (s : List OpV) (w : World) (hx : ROps w A n s) (hnc : n ≤ c) :
    Calls Try.prog 29 #[.string { data := #[114, 105, 103, 111, 114, 111, 117, 115] }, .slice A n c] w fun e w' => e = .returned (.bool (validS s && faultZ (opnB isAcc s) s.length == -1)) ∧ Below w.heap.size w w' := by
  have HX := Lib.hid hx
  clear hx
  obtain ⟨Z, hZ⟩ : ∃ z, faultZ (opnB isAcc s) s.length = z := ⟨_, rfl⟩
  obtain ⟨V, hV⟩ : ∃ z, validS s = z := ⟨_, rfl⟩
  have hF : Calls Try.prog 73 #[.string { data := #[114, 105, 103, 111, 114, 111, 117, 115] }, .slice A n c] w fun e w' => e = .returned (.tuple #[.int .i64 (if V then Z else -1), .bool V]) ∧ Below w.heap.size w w' := by
    have := faultRigor_any A n c s w HX.out hnc
    unfold FaultP at this
    rw [hZ, hV] at this
    exact this
  rw [hZ, hV]
  have HF := Lib.hid hF
  clear hF hZ hV
  go_enter Try.func29, Try.ntmps29
  go_wp2_with fail
  refine HF.out.mono ?_
  cases V
  · rintro e w1 ⟨rfl, hb1⟩
    go_wp2_with fail
    go_ret
    exact ⟨ret_bool (by first | rfl | simp), hb1⟩
  · rintro e w1 ⟨rfl, hb1⟩
    go_wp2_with fail
    go_ret
    exact ⟨ret_bool (by first | rfl | simp), hb1⟩

end Go.Proofs.Ytncebpmckbcabaa
