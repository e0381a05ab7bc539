/-
  Texts that the proof rests on, joined: part 35.
-/
import Derived.Laws.EntriesVeiled
import Derived.Test.YtncebpmckbcabaaSKp2
import Derived.Test.YtncebpmckbcabaaSKp5
import Derived.Test.YtncebpmckbcabaaSKp28
import Derived.Test.YtncebpmckbcabaaSKp34
namespace Go.Proofs.Ytncebpmckbcabaa
open Go.RowKit Go.BigFrame
set_option linter.unusedVariables false


set_option maxRecDepth 100000 in
set_option maxHeartbeats 2000000 in
theorem faultNone_any (A : Option Addr) (n c : Nat) (s : List OpV) (w : World) (hx : ROps w A n s) (hnc : n ≤ c) :
    Calls Try.prog 73 #[.string ⟨#[]⟩, .slice A n c] w fun e w' => e = .returned (.tuple #[.int .i64 (-1), .bool false]) ∧ Below w.heap.size w w' := by
  have hl := hx.1
  have hn := hx.2.1
  have HX := Lib.hid hx
  clear hx
  go_enter Try.func73, Try.ntmps73
  go_wp2_with fail
  refine (ValidSchedule_any A n c s w HX.out hnc).mono ?_
  rintro e w1 ⟨rfl, hb1⟩
  cases hv : validS s
  · clear hv
    go_wp2_with fail
    go_ret2
    exact ⟨rfl, hb1⟩
  · clear hv
    go_wp2_with fail
    refine (rules_any w1).mono ?_
    rintro e w2 ⟨rfl, hw2⟩
    have hb12 : Below w1.heap.size w1 w2 := by rw [hw2]; exact (Below.refl _ _).alloc (Nat.le_refl _) _
    have hbV := hb1.trans (hb12.mono hb1.size)
    have hlt2 : w1.heap.size < w2.heap.size := by rw [hw2]; simp
    have HW2 := Lib.hid hw2
    clear hw2
    go_wp2_with fail
    go_loopw [14] (fun i wr => ∃ r : Nat, r ≤ 5 ∧ i = .int .i64 r ∧ Below w2.heap.size w2 wr) (fun i _ => 5 - (intOf i).toNat)
    case atStart => exact ⟨0, by omega, rfl, Below.refl _ _⟩
    case round =>
    obtain ⟨r, hr, rfl, hb⟩ := hrel
    rcases (by omega : r = 0 ∨ r = 1 ∨ r = 2 ∨ r = 3 ∨ r = 4 ∨ r = 5) with rfl | rfl | rfl | rfl | rfl | rfl
    · have d0 : wr.cell? ⟨w1.heap.size, 0, none⟩ = some (.string { data := #[114, 101, 99, 111, 118, 101, 114, 97, 98, 108, 101] }) := (hb.cell (p := ⟨w1.heap.size, 0, none⟩) hlt2).trans (by rw [HW2.out]; exact box_at _ _ _ _ _ rfl)
      have d1 : wr.cell? ⟨w1.heap.size, 1, none⟩ = some (.func (.func 138) #[] #[]) := (hb.cell (p := ⟨w1.heap.size, 1, none⟩) hlt2).trans (by rw [HW2.out]; exact box_at _ _ _ _ _ rfl)
      have hne : (({ data := #[114, 101, 99, 111, 118, 101, 114, 97, 98, 108, 101] } : ByteArray) != ⟨#[]⟩) = true := by decide
      go_wp2_with fail
      go_roundw
      case rel => exact ⟨1, by omega, by go_num, hb.trans ((by (repeat (first | exact Below.refl _ _ | assumption | refine B_alloc ?_ (Nat.le_refl _) _ | refine Below.drew ?_ | refine B_drewN ?_ _ | refine B_after (by assumption) ?_ | (refine B_set ?_ ?_; rotate_left; (first | exact Nat.le_refl _ | (simp; done) | (simp at *; omega))))) : Below wr.heap.size wr _).mono hb.size)⟩
      case measure => simp [intOf] <;> omega
    · have d0 : wr.cell? ⟨w1.heap.size, 2, none⟩ = some (.string { data := #[99, 97, 115, 99, 97, 100, 101, 115] }) := (hb.cell (p := ⟨w1.heap.size, 2, none⟩) hlt2).trans (by rw [HW2.out]; exact box_at _ _ _ _ _ rfl)
      have d1 : wr.cell? ⟨w1.heap.size, 3, none⟩ = some (.func (.func 140) #[] #[]) := (hb.cell (p := ⟨w1.heap.size, 3, none⟩) hlt2).trans (by rw [HW2.out]; exact box_at _ _ _ _ _ rfl)
      have hne : (({ data := #[99, 97, 115, 99, 97, 100, 101, 115] } : ByteArray) != ⟨#[]⟩) = true := by decide
      go_wp2_with fail
      go_roundw
      case rel => exact ⟨2, by omega, by go_num, hb.trans ((by (repeat (first | exact Below.refl _ _ | assumption | refine B_alloc ?_ (Nat.le_refl _) _ | refine Below.drew ?_ | refine B_drewN ?_ _ | refine B_after (by assumption) ?_ | (refine B_set ?_ ?_; rotate_left; (first | exact Nat.le_refl _ | (simp; done) | (simp at *; omega))))) : Below wr.heap.size wr _).mono hb.size)⟩
      case measure => simp [intOf] <;> omega
    · have d0 : wr.cell? ⟨w1.heap.size, 4, none⟩ = some (.string { data := #[115, 116, 114, 105, 99, 116] }) := (hb.cell (p := ⟨w1.heap.size, 4, none⟩) hlt2).trans (by rw [HW2.out]; exact box_at _ _ _ _ _ rfl)
      have d1 : wr.cell? ⟨w1.heap.size, 5, none⟩ = some (.func (.func 141) #[] #[]) := (hb.cell (p := ⟨w1.heap.size, 5, none⟩) hlt2).trans (by rw [HW2.out]; exact box_at _ _ _ _ _ rfl)
      have hne : (({ data := #[115, 116, 114, 105, 99, 116] } : ByteArray) != ⟨#[]⟩) = true := by decide
      go_wp2_with fail
      go_roundw
      case rel => exact ⟨3, by omega, by go_num, hb.trans ((by (repeat (first | exact Below.refl _ _ | assumption | refine B_alloc ?_ (Nat.le_refl _) _ | refine Below.drew ?_ | refine B_drewN ?_ _ | refine B_after (by assumption) ?_ | (refine B_set ?_ ?_; rotate_left; (first | exact Nat.le_refl _ | (simp; done) | (simp at *; omega))))) : Below wr.heap.size wr _).mono hb.size)⟩
      case measure => simp [intOf] <;> omega
    · have d0 : wr.cell? ⟨w1.heap.size, 6, none⟩ = some (.string { data := #[114, 105, 103, 111, 114, 111, 117, 115] }) := (hb.cell (p := ⟨w1.heap.size, 6, none⟩) hlt2).trans (by rw [HW2.out]; exact box_at _ _ _ _ _ rfl)
      have d1 : wr.cell? ⟨w1.heap.size, 7, none⟩ = some (.func (.func 144) #[] #[]) := (hb.cell (p := ⟨w1.heap.size, 7, none⟩) hlt2).trans (by rw [HW2.out]; exact box_at _ _ _ _ _ rfl)
      have hne : (({ data := #[114, 105, 103, 111, 114, 111, 117, 115] } : ByteArray) != ⟨#[]⟩) = true := by decide
      go_wp2_with fail
      go_roundw
      case rel => exact ⟨4, by omega, by go_num, hb.trans ((by (repeat (first | exact Below.refl _ _ | assumption | refine B_alloc ?_ (Nat.le_refl _) _ | refine Below.drew ?_ | refine B_drewN ?_ _ | refine B_after (by assumption) ?_ | (refine B_set ?_ ?_; rotate_left; (first | exact Nat.le_refl _ | (simp; done) | (simp at *; omega))))) : Below wr.heap.size wr _).mono hb.size)⟩
      case measure => simp [intOf] <;> omega
    · have d0 : wr.cell? ⟨w1.heap.size, 8, none⟩ = some (.string { data := #[99, 111, 109, 109, 105, 116, 115] }) := (hb.cell (p := ⟨w1.heap.size, 8, none⟩) hlt2).trans (by rw [HW2.out]; exact box_at _ _ _ _ _ rfl)
      have d1 : wr.cell? ⟨w1.heap.size, 9, none⟩ = some (.func (.func 145) #[] #[]) := (hb.cell (p := ⟨w1.heap.size, 9, none⟩) hlt2).trans (by rw [HW2.out]; exact box_at _ _ _ _ _ rfl)
      have hne : (({ data := #[99, 111, 109, 109, 105, 116, 115] } : ByteArray) != ⟨#[]⟩) = true := by decide
      go_wp2_with fail
      go_roundw
      case rel => exact ⟨5, by omega, by go_num, hb.trans ((by (repeat (first | exact Below.refl _ _ | assumption | refine B_alloc ?_ (Nat.le_refl _) _ | refine Below.drew ?_ | refine B_drewN ?_ _ | refine B_after (by assumption) ?_ | (refine B_set ?_ ?_; rotate_left; (first | exact Nat.le_refl _ | (simp; done) | (simp at *; omega))))) : Below wr.heap.size wr _).mono hb.size)⟩
      case measure => simp [intOf] <;> omega
    · have hbe := hbV.trans (hb.mono hbV.size)
      go_wp2_with fail
      go_ret2
      exact ⟨rfl, hbe⟩
set_option maxHeartbeats 400000 in
theorem keepsNone_any (A : Option Addr) (n c : Nat) (s : List OpV) (w : World) (hx : ROps w A n s) (hnc : n ≤ c) :
    Calls Try.prog 29 #[.string ⟨#[]⟩, .slice A n c] w fun e w' => e = .returned (.bool false) ∧ Below w.heap.size w w' := by
  have HF := Lib.hid (faultNone_any A n c s w hx hnc)
  clear hx
  go_enter Try.func29, Try.ntmps29
  go_wp2_with fail
  refine HF.out.mono ?_
  rintro e w1 ⟨rfl, hb1⟩
  go_wp2_with fail
  go_ret
  exact ⟨rfl, hb1⟩

def BreaksAt (b : ByteArray) (B : List OpV → Nat → Bool) : Prop := ∀ (A : Option Addr) (n c i : Nat) (s : List OpV) (w : World), ROps w A n s → i < n →
  Calls Try.prog 114 #[.string b, .slice A n c, .int .i64 (i : Int)] w fun e w' => e = .returned (.tuple #[.bool (B s i), .bool true]) ∧ Below w.heap.size w w'
set_option maxHeartbeats 1000000 in
theorem sfault_any {b : ByteArray} {B : List OpV → Nat → Bool} (hB : BreaksAt b B) (A : Option Addr) (n c : Nat) (s : List OpV) (w : World) (hx : ROps w A n s) :
    Calls Try.prog 115 #[.string b, .slice A n c] w fun e w' => e = .returned (.int .i64 (faultZ (B s) s.length)) ∧ Below w.heap.size w w' := by
  have hn := hx.2.1
  have hl := hx.1
  have HX := Lib.hid hx
  have HBR := Lib.hid hB
  clear hx hB
  rw [hl]
  clear hl
  go_enter Try.func115, Try.ntmps115
  go_wp2_with fail
  go_loopw [5] (fun x wr => ∃ k : Nat, k ≤ n ∧ x = .int .i64 k ∧ Below w.heap.size w wr ∧ ∀ j, j < k → B s j = false) (fun x _ => n - (intOf x).toNat)
  case atStart => exact ⟨0, by omega, rfl, Below.refl _ _, by omega⟩
  case round =>
    obtain ⟨wo, rfl⟩ : ∃ z : World, z = wr := ⟨_, rfl⟩
    obtain ⟨k, hk, rfl, hb, hno⟩ := hrel
    by_cases hlt : k < n
    · obtain ⟨bb, hbb⟩ : ∃ bb, B s k = bb := ⟨_, rfl⟩
      have hC : Calls Try.prog 114 #[.string b, .slice A n c, .int .i64 (k : Int)] wo fun e w' => e = .returned (.tuple #[.bool bb, .bool true]) ∧ Below wo.heap.size wo w' := by
        have := HBR.out A n c k s wo (HX.out.below hb (Nat.le_refl _)) hlt; rw [hbb] at this; exact this
      have HC := Lib.hid hC
      have HT : Hid (bb = true → faultZ (B s) n = (k : Int)) := fun h => faultZ_hit hlt (hbb.trans h) hno
      have HN : Hid (bb = false → ∀ j, j < k + 1 → B s j = false) := fun h j hj => by
        by_cases e : j = k
        · subst e; exact hbb.trans h
        · exact hno j (by omega)
      have hki : (k : Int) < (n : Int) := by omega
      clear hC hno hbb
      go_wp2_with fail
      refine HC.out.mono ?_
      rintro e w2 ⟨rfl, hb2⟩
      have hbb := hb.trans (hb2.mono hb.size)
      cases bb
      · have hf := Lib.hid (HN.out rfl)
        go_wp2_with fail
        go_roundw
        case rel => exact ⟨k + 1, by omega, by go_num, hbb, hf.out⟩
        case measure => simp [intOf]; omega
      · have ht := Lib.hid (HT.out rfl)
        go_wp2_with fail
        go_ret
        exact ⟨ret_int (by rw [ht.out]), hbb⟩
    · have ht : Hid (faultZ (B s) n = -1) := faultZ_none (fun j hj => hno j (by omega))
      have hki : ¬ (k : Int) < (n : Int) := by omega
      clear hno
      go_wp2_with fail
      go_ret
      exact ⟨ret_int (by rw [ht.out]), hb⟩
set_option maxHeartbeats 1000000 in
theorem sFaultOf_any {b : ByteArray} {B : List OpV → Nat → Bool} (hB : BreaksAt b B) (A : Option Addr) (n c : Nat) (s : List OpV) (w : World) (hx : ROps w A n s) :
    Calls Try.prog 77 #[.string b, .slice A n c] w (FaultP s w (faultZ (B s) s.length)) := by
  have HX := Lib.hid hx
  have HF := Lib.hid (fun W hW => sfault_any hB A n c s W (hx.below (w := w) (w' := W) hW (Nat.le_refl _)))
  obtain ⟨W, hW⟩ : ∃ W : World, W = w.alloc (.cells #[.int .i64 0, .int .i64 2, .int .i64 0] 62) := ⟨_, rfl⟩
  have hbW : Below w.heap.size w W := by rw [hW]; exact (Below.refl _ _).alloc (Nat.le_refl _) _
  have hl1 : ROps W (some ⟨w.heap.size, 0, none⟩) 1 [⟨0, 2, 0⟩] := by rw [hW]; exact ROps.lit1 w ⟨0, 2, 0⟩ _
  have HC := Lib.hid (hB (some ⟨w.heap.size, 0, none⟩) 1 1 0 _ W hl1 (by omega))
  have HW := Lib.hid hW
  obtain ⟨b0, hb0⟩ : ∃ b0, B [⟨0, 2, 0⟩] 0 = b0 := ⟨_, rfl⟩
  rw [hb0] at HC
  clear hx hB hW hl1 hb0
  go_enter Try.func77, Try.ntmps77
  go_wp2_with fail
  rw [← HW.out]
  refine HC.out.mono ?_
  rintro e w2 ⟨rfl, hb2⟩
  have HB2 := Lib.hid (hbW.trans (hb2.mono hbW.size))
  clear hb2 hbW
  go_wp2_with fail
  refine (svalid_any A n c s w2 (HX.out.below HB2.out (Nat.le_refl _))).mono ?_
  rintro e w3 ⟨rfl, hb3⟩
  have HB3 := Lib.hid (HB2.out.trans (hb3.mono HB2.out.size))
  clear hb3
  cases hv : validS s
  · have HV := Lib.hid hv
    clear hv
    go_wp2_with fail
    go_ret2
    exact FaultP.no HV.out HB3.out
  · have HV := Lib.hid hv
    clear hv
    go_wp2_with fail
    refine (HF.out w3 HB3.out).mono ?_
    rintro e w4 ⟨rfl, hb4⟩
    have hbF := HB3.out.trans (hb4.mono HB3.out.size)
    go_wp2_with fail
    go_ret2
    exact FaultP.yes HV.out rfl hbF
theorem faultZ_neg {B : Nat → Bool} {n : Nat} : decide (faultZ B n < 0) = (faultZ B n == -1) := by
  unfold faultZ
  cases (List.range n).find? B with
  | none => rfl
  | some i =>
    simp only
    rw [Bool.eq_iff_iff, decide_eq_true_eq, beq_iff_eq]
    omega
set_option maxHeartbeats 400000 in
theorem sKeeps_any {b : ByteArray} {B : List OpV → Nat → Bool} (hB : BreaksAt b B) (A : Option Addr) (n c : Nat) (s : List OpV) (w : World) (hx : ROps w A n s) :
    Calls Try.prog 32 #[.string b, .slice A n c] w fun e w' => e = .returned (.bool (validS s && faultZ (B s) s.length == -1)) ∧ Below w.heap.size w w' := by
  obtain ⟨Z, hZ⟩ : ∃ z, faultZ (B s) s.length = z := ⟨_, rfl⟩
  obtain ⟨V, hV⟩ : ∃ z, validS s = z := ⟨_, rfl⟩
  have hN := faultZ_neg (B := B s) (n := s.length)
  have hF : Calls Try.prog 77 #[.string b, .slice A n c] w fun e w' => e = .returned (.tuple #[.int .i64 (if V then Z else -1), .bool V]) ∧ Below w.heap.size w w' := by
    have := sFaultOf_any hB A n c s w hx
    unfold FaultP at this
    rw [hZ, hV] at this
    exact this
  rw [hZ] at hN
  rw [hZ, hV, ← hN]
  have HF := Lib.hid hF
  clear hF hZ hV hx hB hN
  go_enter Try.func32, Try.ntmps32
  go_wp2_with fail
  refine HF.out.mono ?_
  cases V
  · rintro e w1 ⟨rfl, hb1⟩
    go_wp2_with fail
    go_ret
    exact ⟨ret_bool (by first | rfl | simp), hb1⟩
  · rintro e w1 ⟨rfl, hb1⟩
    go_wp2_with fail
    go_ret
    exact ⟨ret_bool (by first | rfl | simp), hb1⟩
set_option maxHeartbeats 1000000 in
theorem sKeepsNone_any (A : Option Addr) (n c : Nat) (s : List OpV) (w : World) (hx : ROps w A n s) :
    Calls Try.prog 32 #[.string ⟨#[]⟩, .slice A n c] w fun e w' => e = .returned (.bool false) ∧ Below w.heap.size w w' := by
  have hF : Calls Try.prog 77 #[.string ⟨#[]⟩, .slice A n c] w fun e w' => e = .returned (.tuple #[.int .i64 (-1), .bool false]) ∧ Below w.heap.size w w' := by
    clear hx
    obtain ⟨W, hW⟩ : ∃ W : World, W = w.alloc (.cells #[.int .i64 0, .int .i64 2, .int .i64 0] 62) := ⟨_, rfl⟩
    have hbW : Below w.heap.size w W := by rw [hW]; exact (Below.refl _ _).alloc (Nat.le_refl _) _
    have HC := Lib.hid (sbreaks_none (some ⟨w.heap.size, 0, none⟩) 1 1 0 W)
    have HW := Lib.hid hW
    clear hW
    go_enter Try.func77, Try.ntmps77
    go_wp2_with fail
    rw [← HW.out]
    refine HC.out.mono ?_
    rintro e w2 ⟨rfl, hb2⟩
    have hbF := hbW.trans (hb2.mono hbW.size)
    go_wp2_with fail
    go_ret2
    exact ⟨rfl, hbF⟩
  have HF := Lib.hid hF
  clear hF hx
  go_enter Try.func32, Try.ntmps32
  go_wp2_with fail
  refine HF.out.mono ?_
  rintro e w1 ⟨rfl, hb1⟩
  go_wp2_with fail
  go_ret
  exact ⟨rfl, hb1⟩
end Go.Proofs.Ytncebpmckbcabaa
