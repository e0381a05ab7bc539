/-
  HeldAt of the program and of the reference.
-/
import Derived.Test.YtcakjhappchlmaaQWLkT1
namespace Go.Proofs.Ytcakjhappchlmaa
open Go.RowKit Go.BigFrame
set_option linter.unusedVariables false

def heldV (st : List OpV) (i t x : Int) : Int := if validL st && inR i 0 (st.length : Int) then heldI (st.take i.toNat) t x else -1
theorem inR_iff {a lo hi : Int} : inR a lo hi = true ↔ lo ≤ a ∧ a ≤ hi := by unfold inR; rw [Bool.and_eq_true, decide_eq_true_eq, decide_eq_true_eq]
theorem heldV_out {st : List OpV} {i t x : Int} (h : validL st = false ∨ inR i 0 (st.length : Int) = false ∨ inR t 0 3 = false ∨ inR x 0 2 = false) : heldV st i t x = -1 := by
  unfold heldV
  split
  · rename_i hc
    rw [Bool.and_eq_true] at hc
    rcases h with h | h | h | h
    · rw [h] at hc; cases hc.1
    · rw [h] at hc; cases hc.2
    · refine heldI_out (fun s hs => (validL_iff.1 hc.1).2 s (List.mem_of_mem_take hs)) fun hr => ?_
      rw [inR_iff.2 hr.1] at h; cases h
    · refine heldI_out (fun s hs => (validL_iff.1 hc.1).2 s (List.mem_of_mem_take hs)) fun hr => ?_
      rw [inR_iff.2 hr.2] at h; cases h
  · rfl
set_option maxRecDepth 100000 in
set_option maxHeartbeats 2000000 in
theorem HeldAt_any (A : Option Addr) (n c : Nat) (st : List OpV) (i t x : Int) (w : World) (hx : ROps w A n st) (hnc : n ≤ c) :
    Calls Try.prog 19 #[.slice A n c, .int .i64 i, .int .i64 t, .int .i64 x] w fun e w' => e = .returned (.int .i64 (heldV st i t x)) ∧ Below w.heap.size w w' := by
  have hn := hx.2.1
  have hl := hx.1
  have HX := Lib.hid hx
  have hva := ValidSteps_any A n c st w hx
  obtain ⟨bv, hbv⟩ : ∃ b, validL st = b := ⟨_, rfl⟩
  obtain ⟨b1, hb1⟩ : ∃ b, inR i 0 (n : Int) = b := ⟨_, rfl⟩
  obtain ⟨b2, hb2⟩ : ∃ b, inR t 0 3 = b := ⟨_, rfl⟩
  obtain ⟨b3, hb3⟩ : ∃ b, inR x 0 2 = b := ⟨_, rfl⟩
  rw [hbv] at hva
  have HVA := Lib.hid hva
  have HOUT : Hid ((bv && b1 && b2 && b3) = false → heldV st i t x = -1) := fun h => heldV_out (by
    rw [hbv, hl, hb1, hb2, hb3]
    cases bv
    · exact .inl rfl
    · cases b1
      · exact .inr (.inl rfl)
      · cases b2
        · exact .inr (.inr (.inl rfl))
        · cases b3
          · exact .inr (.inr (.inr rfl))
          · cases h)
  have W1 : ∀ W : World, Calls Try.prog 75 #[.int .i64 i, .int .i64 0, .int .i64 (n : Int)] W fun e w' => e = .returned (.bool b1) ∧ W = w' := fun W => by have := within_any i 0 n W; rw [hb1] at this; exact this
  have W2 : ∀ W : World, Calls Try.prog 75 #[.int .i64 t, .int .i64 0, .int .i64 3] W fun e w' => e = .returned (.bool b2) ∧ W = w' := fun W => by have := within_any t 0 3 W; rw [hb2] at this; exact this
  have W3 : ∀ W : World, Calls Try.prog 75 #[.int .i64 x, .int .i64 0, .int .i64 2] W fun e w' => e = .returned (.bool b3) ∧ W = w' := fun W => by have := within_any x 0 2 W; rw [hb3] at this; exact this
  have W1' := Lib.hid W1
  have W2' := Lib.hid W2
  have W3' := Lib.hid W3
  have HBV := Lib.hid hbv
  have HB1 := Lib.hid hb1
  have HB2 := Lib.hid hb2
  have HB3 := Lib.hid hb3
  clear hx hva hbv hb1 hb2 hb3 W1 W2 W3
  by_cases hall : (bv && b1 && b2 && b3) = true
  · simp only [Bool.and_eq_true] at hall
    obtain ⟨⟨⟨rfl, rfl⟩, rfl⟩, rfl⟩ := hall
    obtain ⟨hi0, hin⟩ := inR_iff.1 HB1.out
    obtain ⟨ht0, ht3⟩ := inR_iff.1 HB2.out
    obtain ⟨hx0, hx2⟩ := inR_iff.1 HB3.out
    obtain ⟨I, rfl⟩ := Int.eq_ofNat_of_zero_le hi0
    obtain ⟨T, rfl⟩ := Int.eq_ofNat_of_zero_le ht0
    obtain ⟨X, rfl⟩ := Int.eq_ofNat_of_zero_le hx0
    have hIn : I ≤ n := by omega
    have hT3 : T ≤ 3 := by omega
    have hX2 : X ≤ 2 := by omega
    have HTO : Hid (∀ W : World, Below w.heap.size w W → Calls Try.prog 79 #[.slice A I c] W (TabPost W (st.take I))) := fun W hW => tableOf_any A I c (st.take I) W ((HX.out.below hW (Nat.le_refl _)).take hIn) (fun s hs => (validL_iff.1 HBV.out).2 s (List.mem_of_mem_take hs))
    have HE : Hid (heldV st (I : Int) (T : Int) (X : Int) = heldI (st.take I) (T : Int) (X : Int)) := by
      show _ = _
      unfold heldV
      rw [HBV.out, hl, HB1.out, Int.toNat_natCast]
      rfl
    have hT4 : (T : Int) < 4 := by omega
    have hX3 : (X : Int) < 3 := by omega
    have hIc : (I : Int) ≤ (c : Int) := by omega
    clear hi0 hin ht0 ht3 hx0 hx2
    have hI0 : (0 : Int) ≤ (I : Int) := by omega
    have hT0 : (0 : Int) ≤ (T : Int) := by omega
    have hX0 : (0 : Int) ≤ (X : Int) := by omega
    go_enter Try.func19, Try.ntmps19
    go_wp2_with (first
      | (go_at_call 16; refine HVA.out.mono ?_; rintro e w1 ⟨rfl, hbw⟩)
      | (go_at_call 75; with_reducible refine (W1'.out _).mono ?_; rintro e w' ⟨rfl, rfl⟩)
      | (go_at_call 75; with_reducible refine (W2'.out _).mono ?_; rintro e w' ⟨rfl, rfl⟩)
      | (go_at_call 75; with_reducible refine (W3'.out _).mono ?_; rintro e w' ⟨rfl, rfl⟩)
      | (go_at_call 79; go_loud (refine (HTO.out w1 hbw).mono ?_; rintro e w2 ⟨g, rfl, hg, hT, hbt⟩; have hcell := hT.cell hT3 hX2; have HBB := Lib.hid (hbw.trans (hbt.mono hbw.size)); clear hT hbt hg)))
    go_ret
    exact ⟨ret_int HE.out.symm, HBB.out⟩
  · have hf : (bv && b1 && b2 && b3) = false := by simpa using hall
    have HM := Lib.hid (HOUT.out hf)
    have HF := Lib.hid hf
    clear hall hf
    cases bv
    · go_enter Try.func19, Try.ntmps19
      go_wp2_with (go_at_call 16; refine HVA.out.mono ?_; rintro e w1 ⟨rfl, hbw⟩)
      go_ret
      exact ⟨ret_int HM.out.symm, hbw⟩
    · cases b1
      · go_enter Try.func19, Try.ntmps19
        go_wp2_with (first
          | (go_at_call 16; refine HVA.out.mono ?_; rintro e w1 ⟨rfl, hbw⟩)
          | (go_at_call 75; with_reducible refine (W1'.out _).mono ?_; rintro e w' ⟨rfl, rfl⟩))
        go_ret
        exact ⟨ret_int HM.out.symm, hbw⟩
      · cases b2
        · go_enter Try.func19, Try.ntmps19
          go_wp2_with (first
            | (go_at_call 16; refine HVA.out.mono ?_; rintro e w1 ⟨rfl, hbw⟩)
            | (go_at_call 75; with_reducible refine (W1'.out _).mono ?_; rintro e w' ⟨rfl, rfl⟩)
            | (go_at_call 75; with_reducible refine (W2'.out _).mono ?_; rintro e w' ⟨rfl, rfl⟩))
          go_ret
          exact ⟨ret_int HM.out.symm, hbw⟩
        · cases b3
          · go_enter Try.func19, Try.ntmps19
            go_wp2_with (first
              | (go_at_call 16; refine HVA.out.mono ?_; rintro e w1 ⟨rfl, hbw⟩)
              | (go_at_call 75; with_reducible refine (W1'.out _).mono ?_; rintro e w' ⟨rfl, rfl⟩)
              | (go_at_call 75; with_reducible refine (W2'.out _).mono ?_; rintro e w' ⟨rfl, rfl⟩)
              | (go_at_call 75; with_reducible refine (W3'.out _).mono ?_; rintro e w' ⟨rfl, rfl⟩))
            go_ret
            exact ⟨ret_int HM.out.symm, hbw⟩
          · have := HF.out
            cases this
set_option maxRecDepth 100000 in
set_option maxHeartbeats 2000000 in
theorem sHeldAt_any (A : Option Addr) (n c : Nat) (st : List OpV) (i t x : Int) (w : World) (hx : ROps w A n st) :
    Calls Try.prog 20 #[.slice A n c, .int .i64 i, .int .i64 t, .int .i64 x] w fun e w' => e = .returned (.int .i64 (heldV st i t x)) ∧ Below w.heap.size w w' := by
  have hn := hx.2.1
  have hl := hx.1
  have HX := Lib.hid hx
  have hva := svalidSteps_any A n c st w hx
  obtain ⟨bv, hbv⟩ : ∃ b, validL st = b := ⟨_, rfl⟩
  obtain ⟨b1, hb1⟩ : ∃ b, inR i 0 (n : Int) = b := ⟨_, rfl⟩
  rw [hbv] at hva
  have HVA := Lib.hid hva
  have W1 : ∀ W : World, Calls Try.prog 80 #[.int .i64 i, .int .i64 0, .int .i64 (n : Int)] W fun e w' => e = .returned (.bool b1) ∧ W = w' := fun W => by have := inRange_any i 0 n W; rw [hb1] at this; exact this
  have W1' := Lib.hid W1
  have hv : heldV st i t x = if bv && b1 then heldI (st.take i.toNat) t x else -1 := by unfold heldV; rw [hbv, hl, hb1]
  have HV := Lib.hid hv
  have HB1 := Lib.hid hb1
  clear hx hva hbv hb1 W1 hv
  cases bv
  · go_enter Try.func20, Try.ntmps20
    go_wp2_with (go_at_call 76; refine HVA.out.mono ?_; rintro e w1 ⟨rfl, hbw⟩)
    go_ret
    exact ⟨ret_int (by rw [HV.out]; rfl), hbw⟩
  · cases b1
    · go_enter Try.func20, Try.ntmps20
      go_wp2_with (first
        | (go_at_call 76; refine HVA.out.mono ?_; rintro e w1 ⟨rfl, hbw⟩)
        | (go_at_call 80; with_reducible refine (W1'.out _).mono ?_; rintro e w' ⟨rfl, rfl⟩))
      go_ret
      exact ⟨ret_int (by rw [HV.out]; rfl), hbw⟩
    · obtain ⟨hi0, hin⟩ := inR_iff.1 HB1.out
      obtain ⟨I, rfl⟩ := Int.eq_ofNat_of_zero_le hi0
      have hIn : I ≤ n := by omega
      clear hi0 hin
      go_enter Try.func20, Try.ntmps20
      go_wp2_with (first
        | (go_at_call 76; refine HVA.out.mono ?_; rintro e w1 ⟨rfl, hbw⟩)
        | (go_at_call 80; with_reducible refine (W1'.out _).mono ?_; rintro e w' ⟨rfl, rfl⟩)
        | (go_at_call 81; refine (held_any A n c st I t x w1 (HX.out.below hbw (Nat.le_refl _)) hIn).mono ?_; rintro e w2 ⟨rfl, hbh⟩))
      go_ret
      exact ⟨ret_int (by rw [HV.out]; rfl), hbw.trans (hbh.mono hbw.size)⟩
end Go.Proofs.Ytcakjhappchlmaa
