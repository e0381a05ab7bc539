/-
  Texts that the proof rests on, joined: part 30.
-/
import Derived.Laws.EntriesVeiled
import Derived.Test.YtncebpmckbcabaaSKp6
import Derived.Test.YtncebpmckbcabaaSKp28
namespace Go.Proofs.Ytncebpmckbcabaa
open Go.RowKit Go.BigFrame
set_option linter.unusedVariables false


set_option maxRecDepth 100000 in
set_option maxHeartbeats 2000000 in
theorem faultStrict_any (A : Option Addr) (n c : Nat) (s : List OpV) (w : World) (hx : ROps w A n s) (hnc : n ≤ c) :
    Calls Try.prog 73 #[.string { data := #[115, 116, 114, 105, 99, 116] }, .slice A n c] w (FaultP s w (faultZ (openB isWr s) s.length)) := by
  have hl := hx.1
  have hn := hx.2.1
  have HX := Lib.hid hx
  clear hx
  go_enter Try.func73, Try.ntmps73
  go_wp2_with fail
  refine (ValidSchedule_any A n c s w HX.out hnc).mono ?_
  rintro e w1 ⟨rfl, hb1⟩
  cases hv : validS s
  · have HV := Lib.hid hv
    clear hv
    go_wp2_with fail
    go_ret2
    exact FaultP.no HV.out hb1
  · have HV := Lib.hid hv
    clear hv
    go_wp2_with fail
    refine (rules_any w1).mono ?_
    rintro e w2 ⟨rfl, hw2⟩
    have hb12 : Below w1.heap.size w1 w2 := by rw [hw2]; exact (Below.refl _ _).alloc (Nat.le_refl _) _
    have hbV := hb1.trans (hb12.mono hb1.size)
    have hlt2 : w1.heap.size < w2.heap.size := by rw [hw2]; simp
    have HW2 := Lib.hid hw2
    clear hw2
    go_wp2_with fail
    go_loopw [14] (fun i wr => ∃ r : Nat, r ≤ 2 ∧ i = .int .i64 r ∧ Below w2.heap.size w2 wr) (fun i _ => 5 - (intOf i).toNat)
    case atStart => exact ⟨0, by omega, rfl, Below.refl _ _⟩
    case round =>
    obtain ⟨r, hr, rfl, hb⟩ := hrel
    rcases (by omega : r = 0 ∨ r = 1 ∨ r = 2) with rfl | rfl | rfl
    · have d0 : wr.cell? ⟨w1.heap.size, 0, none⟩ = some (.string { data := #[114, 101, 99, 111, 118, 101, 114, 97, 98, 108, 101] }) := (hb.cell (p := ⟨w1.heap.size, 0, none⟩) hlt2).trans (by rw [HW2.out]; exact box_at _ _ _ _ _ rfl)
      have d1 : wr.cell? ⟨w1.heap.size, 1, none⟩ = some (.func (.func 138) #[] #[]) := (hb.cell (p := ⟨w1.heap.size, 1, none⟩) hlt2).trans (by rw [HW2.out]; exact box_at _ _ _ _ _ rfl)
      have hne : (({ data := #[114, 101, 99, 111, 118, 101, 114, 97, 98, 108, 101] } : ByteArray) != { data := #[115, 116, 114, 105, 99, 116] }) = true := by decide
      go_wp2_with fail
      go_roundw
      case rel => exact ⟨1, by omega, by go_num, hb.trans ((by (repeat (first | exact Below.refl _ _ | assumption | refine B_alloc ?_ (Nat.le_refl _) _ | refine Below.drew ?_ | refine B_drewN ?_ _ | refine B_after (by assumption) ?_ | (refine B_set ?_ ?_; rotate_left; (first | exact Nat.le_refl _ | (simp; done) | (simp at *; omega))))) : Below wr.heap.size wr _).mono hb.size)⟩
      case measure => simp [intOf] <;> omega
    · have d0 : wr.cell? ⟨w1.heap.size, 2, none⟩ = some (.string { data := #[99, 97, 115, 99, 97, 100, 101, 115] }) := (hb.cell (p := ⟨w1.heap.size, 2, none⟩) hlt2).trans (by rw [HW2.out]; exact box_at _ _ _ _ _ rfl)
      have d1 : wr.cell? ⟨w1.heap.size, 3, none⟩ = some (.func (.func 140) #[] #[]) := (hb.cell (p := ⟨w1.heap.size, 3, none⟩) hlt2).trans (by rw [HW2.out]; exact box_at _ _ _ _ _ rfl)
      have hne : (({ data := #[99, 97, 115, 99, 97, 100, 101, 115] } : ByteArray) != { data := #[115, 116, 114, 105, 99, 116] }) = true := by decide
      go_wp2_with fail
      go_roundw
      case rel => exact ⟨2, by omega, by go_num, hb.trans ((by (repeat (first | exact Below.refl _ _ | assumption | refine B_alloc ?_ (Nat.le_refl _) _ | refine Below.drew ?_ | refine B_drewN ?_ _ | refine B_after (by assumption) ?_ | (refine B_set ?_ ?_; rotate_left; (first | exact Nat.le_refl _ | (simp; done) | (simp at *; omega))))) : Below wr.heap.size wr _).mono hb.size)⟩
      case measure => simp [intOf] <;> omega
    · rw [show ((2 : Nat) : Int) = 2 from rfl]
      have d0 : wr.cell? ⟨w1.heap.size, 4, none⟩ = some (.string { data := #[115, 116, 114, 105, 99, 116] }) := (hb.cell (p := ⟨w1.heap.size, 4, none⟩) hlt2).trans (by rw [HW2.out]; exact box_at _ _ _ _ _ rfl)
      have d1 : wr.cell? ⟨w1.heap.size, 5, none⟩ = some (.func (.func 141) #[] #[]) := (hb.cell (p := ⟨w1.heap.size, 5, none⟩) hlt2).trans (by rw [HW2.out]; exact box_at _ _ _ _ _ rfl)
      have hrun : Runs 141 := runs_of Try.func141 (by kernel_rfl) rfl
      unfold Runs at hrun
      obtain ⟨wo, rfl⟩ : ∃ wo : World, wo = wr := ⟨_, rfl⟩
      obtain ⟨W, hW⟩ : ∃ W : World, W = wo.alloc (.cells #[.string { data := #[115, 116, 114, 105, 99, 116] }, .func (.func 141) #[] #[]] 127) := ⟨_, rfl⟩
      have x1 : W.cell? ⟨wo.heap.size, 1, none⟩ = some (.func (.func 141) #[] #[]) := by rw [hW]; exact box_at _ _ _ _ _ rfl
      have hbW : Below wo.heap.size wo W := by rw [hW]; exact (Below.refl _ _).alloc (Nat.le_refl _) _
      have hbwW := hb.trans (hbW.mono hb.size)
      have HW := Lib.hid hW
      clear hW
      go_wp2_with fail
      rw [← HW.out]
      go_loopw [24] (fun i wr => ∃ k : Nat, k ≤ n ∧ i = .int .i64 k ∧ Below W.heap.size W wr ∧ ∀ j, j < k → openB isWr s j = false) (fun i _ => n - (intOf i).toNat)
      case atStart => exact ⟨0, Nat.zero_le _, rfl, Below.refl _ _, by omega⟩
      case round =>
        obtain ⟨wi, rfl⟩ : ∃ wi : World, wi = wr := ⟨_, rfl⟩
        obtain ⟨k, hk, rfl, hbi, hno⟩ := hrel
        have hbwi := hbwW.trans (hbi.mono hbwW.size)
        by_cases hlt : k < n
        · have y1 := (hbi.cell (p := ⟨wo.heap.size, 1, none⟩) (block_lt_of_cell x1)).trans x1
          obtain ⟨bb, hbb⟩ : ∃ b, openB isWr s k = b := ⟨_, rfl⟩
          have hC : Calls Try.prog 141 #[.slice A n c, .int .i64 (k : Int)] wi fun e w' => e = .returned (.bool bb) ∧ Below wi.heap.size wi w' := by
            have := rules3_any A n c k s wi (HX.out.below (hbV.trans (hbwi.mono hbV.size)) (Nat.le_refl _)) hnc hlt; rw [hbb] at this; exact this
          have HT : Hid (bb = true → faultZ (openB isWr s) s.length = (k : Int)) := fun h => by rw [hl]; exact faultZ_hit hlt (hbb.trans h) hno
          have HN : Hid (bb = false → ∀ j, j < k + 1 → openB isWr s j = false) := fun h j hj => by
            by_cases e : j = k
            · subst e; exact hbb.trans h
            · exact hno j (by omega)
          have HC := Lib.hid hC
          clear hC hno hbb
          go_wp2_with fail
          refine HC.out.mono ?_
          rintro e w5 ⟨rfl, hb5⟩
          cases bb
          · have hn2 := Lib.hid (HN.out (by first | rfl | trivial))
            go_wp2_with fail
            go_roundw
            case rel => exact ⟨k + 1, by omega, by go_num, hbi.trans (hb5.mono hbi.size), hn2.out⟩
            case measure => simp [intOf]; omega
          · have ht2 := Lib.hid (HT.out (by first | rfl | trivial))
            have hbe := hbV.trans ((hbwi.trans (hb5.mono hbwi.size)).mono hbV.size)
            go_wp2_with fail
            go_ret2
            exact FaultP.yes HV.out ht2.out hbe
        · have ht2 : Hid (faultZ (openB isWr s) s.length = -1) := faultZ_none (fun j hj => hno j (by omega))
          have hbe := hbV.trans (hbwi.mono hbV.size)
          clear hno
          go_wp2_with fail
          go_ret2
          exact FaultP.yes HV.out ht2.out hbe


set_option maxRecDepth 100000 in
set_option maxHeartbeats 2000000 in
theorem faultCommits_any (A : Option Addr) (n c : Nat) (s : List OpV) (w : World) (hx : ROps w A n s) (hnc : n ≤ c) :
    Calls Try.prog 73 #[.string { data := #[99, 111, 109, 109, 105, 116, 115] }, .slice A n c] w (FaultP s w (faultZ (commB s) s.length)) := by
  have hl := hx.1
  have hn := hx.2.1
  have HX := Lib.hid hx
  clear hx
  go_enter Try.func73, Try.ntmps73
  go_wp2_with fail
  refine (ValidSchedule_any A n c s w HX.out hnc).mono ?_
  rintro e w1 ⟨rfl, hb1⟩
  cases hv : validS s
  · have HV := Lib.hid hv
    clear hv
    go_wp2_with fail
    go_ret2
    exact FaultP.no HV.out hb1
  · have HV := Lib.hid hv
    clear hv
    go_wp2_with fail
    refine (rules_any w1).mono ?_
    rintro e w2 ⟨rfl, hw2⟩
    have hb12 : Below w1.heap.size w1 w2 := by rw [hw2]; exact (Below.refl _ _).alloc (Nat.le_refl _) _
    have hbV := hb1.trans (hb12.mono hb1.size)
    have hlt2 : w1.heap.size < w2.heap.size := by rw [hw2]; simp
    have HW2 := Lib.hid hw2
    clear hw2
    go_wp2_with fail
    go_loopw [14] (fun i wr => ∃ r : Nat, r ≤ 4 ∧ i = .int .i64 r ∧ Below w2.heap.size w2 wr) (fun i _ => 5 - (intOf i).toNat)
    case atStart => exact ⟨0, by omega, rfl, Below.refl _ _⟩
    case round =>
    obtain ⟨r, hr, rfl, hb⟩ := hrel
    rcases (by omega : r = 0 ∨ r = 1 ∨ r = 2 ∨ r = 3 ∨ r = 4) with rfl | rfl | rfl | rfl | rfl
    · have d0 : wr.cell? ⟨w1.heap.size, 0, none⟩ = some (.string { data := #[114, 101, 99, 111, 118, 101, 114, 97, 98, 108, 101] }) := (hb.cell (p := ⟨w1.heap.size, 0, none⟩) hlt2).trans (by rw [HW2.out]; exact box_at _ _ _ _ _ rfl)
      have d1 : wr.cell? ⟨w1.heap.size, 1, none⟩ = some (.func (.func 138) #[] #[]) := (hb.cell (p := ⟨w1.heap.size, 1, none⟩) hlt2).trans (by rw [HW2.out]; exact box_at _ _ _ _ _ rfl)
      have hne : (({ data := #[114, 101, 99, 111, 118, 101, 114, 97, 98, 108, 101] } : ByteArray) != { data := #[99, 111, 109, 109, 105, 116, 115] }) = true := by decide
      go_wp2_with fail
      go_roundw
      case rel => exact ⟨1, by omega, by go_num, hb.trans ((by (repeat (first | exact Below.refl _ _ | assumption | refine B_alloc ?_ (Nat.le_refl _) _ | refine Below.drew ?_ | refine B_drewN ?_ _ | refine B_after (by assumption) ?_ | (refine B_set ?_ ?_; rotate_left; (first | exact Nat.le_refl _ | (simp; done) | (simp at *; omega))))) : Below wr.heap.size wr _).mono hb.size)⟩
      case measure => simp [intOf] <;> omega
    · have d0 : wr.cell? ⟨w1.heap.size, 2, none⟩ = some (.string { data := #[99, 97, 115, 99, 97, 100, 101, 115] }) := (hb.cell (p := ⟨w1.heap.size, 2, none⟩) hlt2).trans (by rw [HW2.out]; exact box_at _ _ _ _ _ rfl)
      have d1 : wr.cell? ⟨w1.heap.size, 3, none⟩ = some (.func (.func 140) #[] #[]) := (hb.cell (p := ⟨w1.heap.size, 3, none⟩) hlt2).trans (by rw [HW2.out]; exact box_at _ _ _ _ _ rfl)
      have hne : (({ data := #[99, 97, 115, 99, 97, 100, 101, 115] } : ByteArray) != { data := #[99, 111, 109, 109, 105, 116, 115] }) = true := by decide
      go_wp2_with fail
      go_roundw
      case rel => exact ⟨2, by omega, by go_num, hb.trans ((by (repeat (first | exact Below.refl _ _ | assumption | refine B_alloc ?_ (Nat.le_refl _) _ | refine Below.drew ?_ | refine B_drewN ?_ _ | refine B_after (by assumption) ?_ | (refine B_set ?_ ?_; rotate_left; (first | exact Nat.le_refl _ | (simp; done) | (simp at *; omega))))) : Below wr.heap.size wr _).mono hb.size)⟩
      case measure => simp [intOf] <;> omega
    · have d0 : wr.cell? ⟨w1.heap.size, 4, none⟩ = some (.string { data := #[115, 116, 114, 105, 99, 116] }) := (hb.cell (p := ⟨w1.heap.size, 4, none⟩) hlt2).trans (by rw [HW2.out]; exact box_at _ _ _ _ _ rfl)
      have d1 : wr.cell? ⟨w1.heap.size, 5, none⟩ = some (.func (.func 141) #[] #[]) := (hb.cell (p := ⟨w1.heap.size, 5, none⟩) hlt2).trans (by rw [HW2.out]; exact box_at _ _ _ _ _ rfl)
      have hne : (({ data := #[115, 116, 114, 105, 99, 116] } : ByteArray) != { data := #[99, 111, 109, 109, 105, 116, 115] }) = true := by decide
      go_wp2_with fail
      go_roundw
      case rel => exact ⟨3, by omega, by go_num, hb.trans ((by (repeat (first | exact Below.refl _ _ | assumption | refine B_alloc ?_ (Nat.le_refl _) _ | refine Below.drew ?_ | refine B_drewN ?_ _ | refine B_after (by assumption) ?_ | (refine B_set ?_ ?_; rotate_left; (first | exact Nat.le_refl _ | (simp; done) | (simp at *; omega))))) : Below wr.heap.size wr _).mono hb.size)⟩
      case measure => simp [intOf] <;> omega
    · have d0 : wr.cell? ⟨w1.heap.size, 6, none⟩ = some (.string { data := #[114, 105, 103, 111, 114, 111, 117, 115] }) := (hb.cell (p := ⟨w1.heap.size, 6, none⟩) hlt2).trans (by rw [HW2.out]; exact box_at _ _ _ _ _ rfl)
      have d1 : wr.cell? ⟨w1.heap.size, 7, none⟩ = some (.func (.func 144) #[] #[]) := (hb.cell (p := ⟨w1.heap.size, 7, none⟩) hlt2).trans (by rw [HW2.out]; exact box_at _ _ _ _ _ rfl)
      have hne : (({ data := #[114, 105, 103, 111, 114, 111, 117, 115] } : ByteArray) != { data := #[99, 111, 109, 109, 105, 116, 115] }) = true := by decide
      go_wp2_with fail
      go_roundw
      case rel => exact ⟨4, by omega, by go_num, hb.trans ((by (repeat (first | exact Below.refl _ _ | assumption | refine B_alloc ?_ (Nat.le_refl _) _ | refine Below.drew ?_ | refine B_drewN ?_ _ | refine B_after (by assumption) ?_ | (refine B_set ?_ ?_; rotate_left; (first | exact Nat.le_refl _ | (simp; done) | (simp at *; omega))))) : Below wr.heap.size wr _).mono hb.size)⟩
      case measure => simp [intOf] <;> omega
    · rw [show ((4 : Nat) : Int) = 4 from rfl]
      have d0 : wr.cell? ⟨w1.heap.size, 8, none⟩ = some (.string { data := #[99, 111, 109, 109, 105, 116, 115] }) := (hb.cell (p := ⟨w1.heap.size, 8, none⟩) hlt2).trans (by rw [HW2.out]; exact box_at _ _ _ _ _ rfl)
      have d1 : wr.cell? ⟨w1.heap.size, 9, none⟩ = some (.func (.func 145) #[] #[]) := (hb.cell (p := ⟨w1.heap.size, 9, none⟩) hlt2).trans (by rw [HW2.out]; exact box_at _ _ _ _ _ rfl)
      have hrun : Runs 145 := runs_of Try.func145 (by kernel_rfl) rfl
      unfold Runs at hrun
      obtain ⟨wo, rfl⟩ : ∃ wo : World, wo = wr := ⟨_, rfl⟩
      obtain ⟨W, hW⟩ : ∃ W : World, W = wo.alloc (.cells #[.string { data := #[99, 111, 109, 109, 105, 116, 115] }, .func (.func 145) #[] #[]] 127) := ⟨_, rfl⟩
      have x1 : W.cell? ⟨wo.heap.size, 1, none⟩ = some (.func (.func 145) #[] #[]) := by rw [hW]; exact box_at _ _ _ _ _ rfl
      have hbW : Below wo.heap.size wo W := by rw [hW]; exact (Below.refl _ _).alloc (Nat.le_refl _) _
      have hbwW := hb.trans (hbW.mono hb.size)
      have HW := Lib.hid hW
      clear hW
      go_wp2_with fail
      rw [← HW.out]
      go_loopw [24] (fun i wr => ∃ k : Nat, k ≤ n ∧ i = .int .i64 k ∧ Below W.heap.size W wr ∧ ∀ j, j < k → commB s j = false) (fun i _ => n - (intOf i).toNat)
      case atStart => exact ⟨0, Nat.zero_le _, rfl, Below.refl _ _, by omega⟩
      case round =>
        obtain ⟨wi, rfl⟩ : ∃ wi : World, wi = wr := ⟨_, rfl⟩
        obtain ⟨k, hk, rfl, hbi, hno⟩ := hrel
        have hbwi := hbwW.trans (hbi.mono hbwW.size)
        by_cases hlt : k < n
        · have y1 := (hbi.cell (p := ⟨wo.heap.size, 1, none⟩) (block_lt_of_cell x1)).trans x1
          obtain ⟨bb, hbb⟩ : ∃ b, commB s k = b := ⟨_, rfl⟩
          have hC : Calls Try.prog 145 #[.slice A n c, .int .i64 (k : Int)] wi fun e w' => e = .returned (.bool bb) ∧ Below wi.heap.size wi w' := by
            have := rules5_any A n c k s wi (HX.out.below (hbV.trans (hbwi.mono hbV.size)) (Nat.le_refl _)) hnc hlt; rw [hbb] at this; exact this
          have HT : Hid (bb = true → faultZ (commB s) s.length = (k : Int)) := fun h => by rw [hl]; exact faultZ_hit hlt (hbb.trans h) hno
          have HN : Hid (bb = false → ∀ j, j < k + 1 → commB s j = false) := fun h j hj => by
            by_cases e : j = k
            · subst e; exact hbb.trans h
            · exact hno j (by omega)
          have HC := Lib.hid hC
          clear hC hno hbb
          go_wp2_with fail
          refine HC.out.mono ?_
          rintro e w5 ⟨rfl, hb5⟩
          cases bb
          · have hn2 := Lib.hid (HN.out (by first | rfl | trivial))
            go_wp2_with fail
            go_roundw
            case rel => exact ⟨k + 1, by omega, by go_num, hbi.trans (hb5.mono hbi.size), hn2.out⟩
            case measure => simp [intOf]; omega
          · have ht2 := Lib.hid (HT.out (by first | rfl | trivial))
            have hbe := hbV.trans ((hbwi.trans (hb5.mono hbwi.size)).mono hbV.size)
            go_wp2_with fail
            go_ret2
            exact FaultP.yes HV.out ht2.out hbe
        · have ht2 : Hid (faultZ (commB s) s.length = -1) := faultZ_none (fun j hj => hno j (by omega))
          have hbe := hbV.trans (hbwi.mono hbV.size)
          clear hno
          go_wp2_with fail
          go_ret2
          exact FaultP.yes HV.out ht2.out hbe

end Go.Proofs.Ytncebpmckbcabaa
namespace Go.Proofs.Ytncebpmckbcabaa
open Go.RowKit Go.BigFrame
set_option linter.unusedVariables false

theorem metTo_true {s : List OpV} {k j : Nat} {q o : OpV} {m : Nat} (h : metTo s k q o j m = true) : ∃ d p, d < m ∧ s[j + 1 + d]? = some p ∧ metIn s k q o p = true := by
  induction m with
  | zero => cases h
  | succ m ih =>
    simp only [metTo, Bool.or_eq_true] at h
    rcases h with h | h
    · obtain ⟨d, p, hd, r⟩ := ih h
      exact ⟨d, p, by omega, r⟩
    · cases e : s[j + 1 + m]? with
      | none => rw [e] at h; cases h
      | some p => rw [e] at h; exact ⟨m, p, by omega, e, h⟩
theorem metUp_true {s : List OpV} {k : Nat} {q : OpV} {j : Nat} (h : metUp s k q j = true) : ∃ i o, i < j ∧ s[i]? = some o ∧ metTo s k q o i (k - (i + 1)) = true := by
  induction j with
  | zero => cases h
  | succ j ih =>
    simp only [metUp, Bool.or_eq_true] at h
    rcases h with h | h
    · obtain ⟨i, o, hi, r⟩ := ih h
      exact ⟨i, o, by omega, r⟩
    · cases e : s[j]? with
      | none => rw [e] at h; cases h
      | some o => rw [e] at h; exact ⟨j, o, by omega, e, h⟩
set_option maxHeartbeats 400000 in
theorem keepsStrict_any (A : Option Addr) (n c : Nat) (s : List OpV) (w : World) (hx : ROps w A n s) (hnc : n ≤ c) :
    Calls Try.prog 29 #[.string { data := #[115, 116, 114, 105, 99, 116] }, .slice A n c] w fun e w' => e = .returned (.bool (validS s && faultZ (openB isWr s) s.length == -1)) ∧ Below w.heap.size w w' := by
  have HX := Lib.hid hx
  clear hx
  obtain ⟨Z, hZ⟩ : ∃ z, faultZ (openB isWr s) s.length = z := ⟨_, rfl⟩
  obtain ⟨V, hV⟩ : ∃ z, validS s = z := ⟨_, rfl⟩
  have hF : Calls Try.prog 73 #[.string { data := #[115, 116, 114, 105, 99, 116] }, .slice A n c] w fun e w' => e = .returned (.tuple #[.int .i64 (if V then Z else -1), .bool V]) ∧ Below w.heap.size w w' := by
    have := faultStrict_any A n c s w HX.out hnc
    unfold FaultP at this
    rw [hZ, hV] at this
    exact this
  rw [hZ, hV]
  have HF := Lib.hid hF
  clear hF hZ hV
  go_enter Try.func29, Try.ntmps29
  go_wp2_with fail
  refine HF.out.mono ?_
  cases V
  · rintro e w1 ⟨rfl, hb1⟩
    go_wp2_with fail
    go_ret
    exact ⟨ret_bool (by first | rfl | simp), hb1⟩
  · rintro e w1 ⟨rfl, hb1⟩
    go_wp2_with fail
    go_ret
    exact ⟨ret_bool (by first | rfl | simp), hb1⟩


set_option maxHeartbeats 400000 in
theorem keepsCommits_any (A : Option Addr) (n c : Nat) (s : List OpV) (w : World) (hx : ROps w A n s) (hnc : n ≤ c) :
    Calls Try.prog 29 #[.string { data := #[99, 111, 109, 109, 105, 116, 115] }, .slice A n c] w fun e w' => e = .returned (.bool (validS s && faultZ (commB s) s.length == -1)) ∧ Below w.heap.size w w' := by
  have HX := Lib.hid hx
  clear hx
  obtain ⟨Z, hZ⟩ : ∃ z, faultZ (commB s) s.length = z := ⟨_, rfl⟩
  obtain ⟨V, hV⟩ : ∃ z, validS s = z := ⟨_, rfl⟩
  have hF : Calls Try.prog 73 #[.string { data := #[99, 111, 109, 109, 105, 116, 115] }, .slice A n c] w fun e w' => e = .returned (.tuple #[.int .i64 (if V then Z else -1), .bool V]) ∧ Below w.heap.size w w' := by
    have := faultCommits_any A n c s w HX.out hnc
    unfold FaultP at this
    rw [hZ, hV] at this
    exact this
  rw [hZ, hV]
  have HF := Lib.hid hF
  clear hF hZ hV
  go_enter Try.func29, Try.ntmps29
  go_wp2_with fail
  refine HF.out.mono ?_
  cases V
  · rintro e w1 ⟨rfl, hb1⟩
    go_wp2_with fail
    go_ret
    exact ⟨ret_bool (by first | rfl | simp), hb1⟩
  · rintro e w1 ⟨rfl, hb1⟩
    go_wp2_with fail
    go_ret
    exact ⟨ret_bool (by first | rfl | simp), hb1⟩


end Go.Proofs.Ytncebpmckbcabaa
