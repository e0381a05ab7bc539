/-
  commitOf, writesOf, survivorsOf of the program.
-/
import Derived.Test.YtofcpfabjfhjoaaSpan
namespace Go.Proofs.Ytofcpfabjfhjoaa
open Go.RowKit Go.BigFrame
set_option linter.unusedVariables false

def commitI (s : List OpV) (t : Int) : Int := idxI s ⟨t, 2, 0⟩
set_option maxHeartbeats 400000 in
theorem commitOf_any (A : Option Addr) (n c : Nat) (s : List OpV) (t : Int) (w : World) (hx : ROps w A n s) :
    Calls Try.prog 85 #[.slice A n c, .int .i64 t] w fun e w' => e = .returned (.int .i64 (commitI s t)) ∧ Below w.heap.size w w' := by
  have HS := Lib.hid (IndexOp_any A n c s ⟨t, 2, 0⟩ w hx)
  clear hx
  go_enter Try.func85, Try.ntmps85
  go_wp2_with fail
  refine HS.out.mono ?_
  rintro e w1 ⟨rfl, hb⟩
  go_wp2_with fail
  go_ret
  exact ⟨rfl, hb⟩

/-- The items that a transaction writes, as bits. -/
def wTo (s : List OpV) (t : Int) : Nat → Nat
  | 0 => 0
  | k + 1 => match s[k]? with | some o => if o.tx == t && o.kind == 1 then wTo s t k ||| (1 <<< o.item.toNat) else wTo s t k | none => wTo s t k
def wI (s : List OpV) (t : Int) : Nat := wTo s t s.length
def itemsOk (s : List OpV) : Prop := ∀ o ∈ s, o.kind = 1 → 0 ≤ o.item ∧ o.item ≤ 2
theorem wTo_lt (s : List OpV) (t : Int) (h : itemsOk s) (k : Nat) : wTo s t k < 8 := by
  induction k with
  | zero => simp [wTo]
  | succ k ih =>
    simp only [wTo]
    split
    · rename_i o ho
      split
      · rename_i hc
        have hm := List.mem_of_getElem? ho
        simp only [Bool.and_eq_true, beq_iff_eq] at hc
        have := h o hm hc.2
        have h3 : o.item.toNat ≤ 2 := by omega
        have h4 : (1 <<< o.item.toNat) < 2 ^ 3 := by
          rcases (by omega : o.item.toNat = 0 ∨ o.item.toNat = 1 ∨ o.item.toNat = 2) with e | e | e <;> rw [e] <;> decide
        exact Nat.or_lt_two_pow (n := 3) ih h4
      · exact ih
    · exact ih
theorem ofInt64 (a : Nat) (ha : a < 9223372036854775808) : (BitVec.ofInt 64 (a : Int)).toNat = a := by
  rw [BitVec.ofInt_natCast, BitVec.toNat_ofNat]; exact Nat.mod_eq_of_lt (by omega)
theorem or_nat (a b : Nat) (ha : a < 9223372036854775808) (hb : b < 9223372036854775808) : bits .or .i64 (a : Int) (b : Int) = ((a ||| b : Nat) : Int) := by
  have hx : a ||| b < 2 ^ 63 := Nat.or_lt_two_pow (by omega) (by omega)
  show IntKind.i64.wrap ((BitVec.ofInt 64 (a : Int) ||| BitVec.ofInt 64 (b : Int)).toNat : Int) = _
  rw [BitVec.toNat_or, ofInt64 a ha, ofInt64 b hb, IntKind.wrap_i64]
  omega
theorem and_nat (a b : Nat) (ha : a < 9223372036854775808) (hb : b < 9223372036854775808) : bits .and .i64 (a : Int) (b : Int) = ((a &&& b : Nat) : Int) := by
  have hx : a &&& b < 2 ^ 63 := Nat.and_lt_two_pow _ (by omega)
  show IntKind.i64.wrap ((BitVec.ofInt 64 (a : Int) &&& BitVec.ofInt 64 (b : Int)).toNat : Int) = _
  rw [BitVec.toNat_and, ofInt64 a ha, ofInt64 b hb, IntKind.wrap_i64]
  omega

set_option maxHeartbeats 1000000 in
theorem writesOf_any (A : Option Addr) (n c : Nat) (s : List OpV) (t : Int) (w : World) (hx : ROps w A n s) (hi : itemsOk s) :
    Calls Try.prog 118 #[.slice A n c, .int .i64 t] w fun e w' => e = .returned (.int .i64 (wI s t : Nat)) ∧ Below w.heap.size w w' := by
  have hn := hx.2.1
  have hl := hx.1
  have HX := Lib.hid hx
  have HI := Lib.hid hi
  clear hx hi
  go_enter Try.func118, Try.ntmps118
  go_wp2_with fail
  go_loopw [5, 10] (fun m i wr => ∃ k : Nat, k ≤ n ∧ i = .int .i64 k ∧ m = .int .i64 (wTo s t k : Nat) ∧ Below w.heap.size w wr) (fun _ i _ => n - (intOf i).toNat)
  case atStart => exact ⟨0, Nat.zero_le _, rfl, rfl, Below.refl _ _⟩
  case round =>
    obtain ⟨k, hk, rfl, rfl, hb⟩ := hrel
    by_cases hlt : k < n
    · obtain ⟨b, off, o, rfl, hbl, ho, c0, c1, c2⟩ := (HX.out.below hb (Nat.le_refl _)).at_ hlt
      have hw8 := wTo_lt s t HI.out k
      have hit := HI.out o (List.mem_of_getElem? ho)
      have hstep : Hid (wTo s t (k + 1) = if o.tx == t && o.kind == 1 then wTo s t k ||| (1 <<< o.item.toNat) else wTo s t k) := by
        show _ = _
        simp only [wTo, ho]
      generalize hM : wTo s t k = M at *
      have HM := Lib.hid hM
      clear hM ho
      obtain ⟨tx, kd, it⟩ := o
      simp only at hstep c0 c1 c2 hit
      by_cases h1 : tx = t
      · subst h1
        by_cases h2 : kd = 1
        · subst h2
          have hit := hit rfl
          rcases (by omega : it = 0 ∨ it = 1 ∨ it = 2) with rfl | rfl | rfl
          · have e1 : bits .or .i64 (M : Int) 1 = ((M ||| 1 : Nat) : Int) := or_nat M 1 (by omega) (by omega)
            go_wp2_with fail
            go_roundw
            case rel => exact ⟨k + 1, by omega, by go_num, by rw [hstep.out, if_pos (by simp)]; rfl, hb.trans ((by (repeat (first | exact Below.refl _ _ | assumption | refine B_alloc ?_ (Nat.le_refl _) _ | refine Below.drew ?_ | refine B_drewN ?_ _ | refine B_after (by assumption) ?_ | (refine B_set ?_ ?_; rotate_left; (first | exact Nat.le_refl _ | (simp; done) | (simp at *; omega))))) : Below wr.heap.size wr _).mono hb.size)⟩
            case measure => simp [intOf]; omega
          · have e1 : bits .or .i64 (M : Int) 2 = ((M ||| 2 : Nat) : Int) := or_nat M 2 (by omega) (by omega)
            go_wp2_with fail
            go_roundw
            case rel => exact ⟨k + 1, by omega, by go_num, by rw [hstep.out, if_pos (by simp)]; rfl, hb.trans ((by (repeat (first | exact Below.refl _ _ | assumption | refine B_alloc ?_ (Nat.le_refl _) _ | refine Below.drew ?_ | refine B_drewN ?_ _ | refine B_after (by assumption) ?_ | (refine B_set ?_ ?_; rotate_left; (first | exact Nat.le_refl _ | (simp; done) | (simp at *; omega))))) : Below wr.heap.size wr _).mono hb.size)⟩
            case measure => simp [intOf]; omega
          · have e1 : bits .or .i64 (M : Int) 4 = ((M ||| 4 : Nat) : Int) := or_nat M 4 (by omega) (by omega)
            go_wp2_with fail
            go_roundw
            case rel => exact ⟨k + 1, by omega, by go_num, by rw [hstep.out, if_pos (by simp)]; rfl, hb.trans ((by (repeat (first | exact Below.refl _ _ | assumption | refine B_alloc ?_ (Nat.le_refl _) _ | refine Below.drew ?_ | refine B_drewN ?_ _ | refine B_after (by assumption) ?_ | (refine B_set ?_ ?_; rotate_left; (first | exact Nat.le_refl _ | (simp; done) | (simp at *; omega))))) : Below wr.heap.size wr _).mono hb.size)⟩
            case measure => simp [intOf]; omega
        · have h2' : (kd == 1) = false := by simpa using h2
          clear hit
          go_wp2_with fail
          go_roundw
          case rel => exact ⟨k + 1, by omega, by go_num, by rw [hstep.out, if_neg (by simp [h2'])], hb.trans ((by (repeat (first | exact Below.refl _ _ | assumption | refine B_alloc ?_ (Nat.le_refl _) _ | refine Below.drew ?_ | refine B_drewN ?_ _ | refine B_after (by assumption) ?_ | (refine B_set ?_ ?_; rotate_left; (first | exact Nat.le_refl _ | (simp; done) | (simp at *; omega))))) : Below wr.heap.size wr _).mono hb.size)⟩
          case measure => simp [intOf]; omega
      · have h1' : (tx == t) = false := by simpa using h1
        clear hit
        go_wp2_with fail
        go_roundw
        case rel => exact ⟨k + 1, by omega, by go_num, by rw [hstep.out, if_neg (by simp [h1'])], hb.trans ((by (repeat (first | exact Below.refl _ _ | assumption | refine B_alloc ?_ (Nat.le_refl _) _ | refine Below.drew ?_ | refine B_drewN ?_ _ | refine B_after (by assumption) ?_ | (refine B_set ?_ ?_; rotate_left; (first | exact Nat.le_refl _ | (simp; done) | (simp at *; omega))))) : Below wr.heap.size wr _).mono hb.size)⟩
        case measure => simp [intOf]; omega
    · obtain rfl : k = n := by omega
      have h1 : Hid (wTo s t k = wI s t) := by show _ = _; unfold wI; rw [hl]
      go_wp2_with fail
      go_ret
      exact ⟨by rw [← h1.out]; rfl, hb⟩
end Go.Proofs.Ytofcpfabjfhjoaa
