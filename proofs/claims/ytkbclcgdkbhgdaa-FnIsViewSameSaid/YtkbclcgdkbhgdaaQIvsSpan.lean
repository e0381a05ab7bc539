/-
  span, firstOf, commitOf, writesOf of the program.
-/
import Derived.Test.YtkbclcgdkbhgdaaPkOrdX1
import Derived.Test.YtkbclcgdkbhgdaaQIvsEqOp
namespace Go.Proofs.Ytkbclcgdkbhgdaa
open Go.RowKit Go.BigFrame
set_option linter.unusedVariables false

def isAt (s : List OpV) (k : Nat) (t : Int) : Bool := match s[k]? with | some o => o.tx == t | none => false
def firstTo (s : List OpV) (t : Int) : Nat → Int
  | 0 => -1
  | k + 1 => if firstTo s t k < 0 ∧ isAt s k t = true then (k : Int) else firstTo s t k
def lastTo (s : List OpV) (t : Int) : Nat → Int
  | 0 => -1
  | k + 1 => if isAt s k t = true then (k : Int) else lastTo s t k
def firstI (s : List OpV) (t : Int) : Int := firstTo s t s.length
def lastI (s : List OpV) (t : Int) : Int := lastTo s t s.length
theorem firstTo_ge (s : List OpV) (t : Int) (k : Nat) : -1 ≤ firstTo s t k ∧ firstTo s t k ≤ k := by
  induction k with
  | zero => simp [firstTo]
  | succ k ih => simp only [firstTo]; split <;> omega

set_option maxHeartbeats 400000 in
theorem span_any (A : Option Addr) (n c : Nat) (s : List OpV) (t : Int) (w : World) (hx : ROps w A n s) :
    Calls Try.prog 83 #[.slice A n c, .int .i64 t] w fun e w' => e = .returned (.tuple #[.int .i64 (firstI s t), .int .i64 (lastI s t)]) ∧ Below w.heap.size w w' := by
  have hn := hx.2.1
  have hl := hx.1
  have HX := Lib.hid hx
  clear hx
  go_enter Try.func83, Try.ntmps83
  go_wp2_with fail
  go_loopw [6, 7, 12] (fun f l i wr => ∃ k : Nat, k ≤ n ∧ i = .int .i64 k ∧ f = .int .i64 (firstTo s t k) ∧ l = .int .i64 (lastTo s t k) ∧ Below w.heap.size w wr) (fun _ _ i _ => n - (intOf i).toNat)
  case atStart => exact ⟨0, Nat.zero_le _, rfl, rfl, rfl, Below.refl _ _⟩
  case round =>
    obtain ⟨k, hk, rfl, rfl, rfl, hb⟩ := hrel
    by_cases hlt : k < n
    · obtain ⟨b, off, o, rfl, hbl, ho, c0, c1, c2⟩ := (HX.out.below hb (Nat.le_refl _)).at_ hlt
      have hat : isAt s k t = (o.tx == t) := by unfold isAt; rw [ho]
      have hf : Hid (firstTo s t (k + 1) = if firstTo s t k < 0 ∧ (o.tx == t) = true then (k : Int) else firstTo s t k) := by
        show firstTo s t (k + 1) = _
        simp only [firstTo, hat]
      have hla : Hid (lastTo s t (k + 1) = if (o.tx == t) = true then (k : Int) else lastTo s t k) := by
        show lastTo s t (k + 1) = _
        simp only [lastTo, hat]
      generalize hF : firstTo s t k = F at *
      generalize hL : lastTo s t k = L at *
      have HF := Lib.hid hF
      have HL := Lib.hid hL
      clear hF hL hat ho
      obtain ⟨tx, kd, it⟩ := o
      simp only at hf hla c0 c1 c2
      by_cases h1 : tx = t
      · subst h1
        by_cases h2 : F < 0
        · go_wp2_with fail
          go_roundw
          case rel => exact ⟨k + 1, by omega, by go_num, by rw [hf.out, if_pos ⟨h2, by simp⟩], by rw [hla.out, if_pos (by simp)], hb.trans ((by (repeat (first | exact Below.refl _ _ | assumption | refine B_alloc ?_ (Nat.le_refl _) _ | refine Below.drew ?_ | refine B_drewN ?_ _ | refine B_after (by assumption) ?_ | (refine B_set ?_ ?_; rotate_left; (first | exact Nat.le_refl _ | (simp; done) | (simp at *; omega))))) : Below wr.heap.size wr _).mono hb.size)⟩
          case measure => simp [intOf]; omega
        · go_wp2_with fail
          go_roundw
          case rel => exact ⟨k + 1, by omega, by go_num, by rw [hf.out, if_neg (fun h => h2 h.1)], by rw [hla.out, if_pos (by simp)], hb.trans ((by (repeat (first | exact Below.refl _ _ | assumption | refine B_alloc ?_ (Nat.le_refl _) _ | refine Below.drew ?_ | refine B_drewN ?_ _ | refine B_after (by assumption) ?_ | (refine B_set ?_ ?_; rotate_left; (first | exact Nat.le_refl _ | (simp; done) | (simp at *; omega))))) : Below wr.heap.size wr _).mono hb.size)⟩
          case measure => simp [intOf]; omega
      · have h1' : (tx == t) = false := by simpa using h1
        go_wp2_with fail
        go_roundw
        case rel => exact ⟨k + 1, by omega, by go_num, by rw [hf.out, if_neg (fun h => by simp [h1'] at h)], by rw [hla.out, if_neg (by simp [h1'])], hb.trans ((by (repeat (first | exact Below.refl _ _ | assumption | refine B_alloc ?_ (Nat.le_refl _) _ | refine Below.drew ?_ | refine B_drewN ?_ _ | refine B_after (by assumption) ?_ | (refine B_set ?_ ?_; rotate_left; (first | exact Nat.le_refl _ | (simp; done) | (simp at *; omega))))) : Below wr.heap.size wr _).mono hb.size)⟩
        case measure => simp [intOf]; omega
    · obtain rfl : k = n := by omega
      have h1 : Hid (firstTo s t k = firstI s t) := by show _ = _; unfold firstI; rw [hl]
      have h2 : Hid (lastTo s t k = lastI s t) := by show _ = _; unfold lastI; rw [hl]
      go_wp2_with fail
      go_ret2
      exact ⟨by rw [← h1.out, ← h2.out]; rfl, hb⟩

/-- The place of an operation in a list, -1 if it is not there. -/
def idxTo (s : List OpV) (q : OpV) (k : Nat) : Prop := ∀ j, j < k → ∀ o, s[j]? = some o → (o == q) = false
def idxI (s : List OpV) (q : OpV) : Int := if s.any (fun o => o == q) then (s.findIdx (fun o => o == q) : Int) else -1
theorem idxI_hit {s : List OpV} {q o : OpV} {k : Nat} (ho : s[k]? = some o) (h : (o == q) = true) (hno : ∀ j, j < k → ∀ o, s[j]? = some o → (o == q) = false) : idxI s q = (k : Int) := by
  obtain ⟨hk, he⟩ := List.getElem?_eq_some_iff.1 ho
  have h1 : s.any (fun o => o == q) = true := List.any_eq_true.2 ⟨o, List.mem_of_getElem? ho, h⟩
  have h2 : s.findIdx (fun o => o == q) = k := by
    rw [List.findIdx_eq hk]
    exact ⟨by rw [he]; exact h, fun j hj => by have := hno j hj _ (List.getElem?_eq_getElem (by omega)); exact this⟩
  unfold idxI
  rw [h1, h2]; rfl
theorem idxI_none {s : List OpV} {q : OpV} (hno : ∀ j, j < s.length → ∀ o, s[j]? = some o → (o == q) = false) : idxI s q = -1 := by
  unfold idxI
  rw [find_none_all hno]; rfl

theorem beq_op (a b c a' b' c' : Int) : (a == a' && b == b' && c == c') = ((⟨a', b', c'⟩ : OpV) == ⟨a, b, c⟩) := by
  rw [Bool.eq_iff_iff]
  simp only [Bool.and_eq_true, beq_iff_eq, OpV.mk.injEq]
  constructor
  · rintro ⟨⟨rfl, rfl⟩, rfl⟩; exact ⟨rfl, rfl, rfl⟩
  · rintro ⟨rfl, rfl, rfl⟩; exact ⟨⟨rfl, rfl⟩, rfl⟩

set_option maxRecDepth 100000 in
set_option maxHeartbeats 400000 in
theorem IndexOp_any (A : Option Addr) (n c : Nat) (s : List OpV) (q : OpV) (w : World) (hx : ROps w A n s) :
    Calls Try.prog 133 #[.slice A n c, q.val] w fun e w' => e = .returned (.int .i64 (idxI s q)) ∧ Below w.heap.size w w' := by
  have hn := hx.2.1
  have hl := hx.1
  obtain ⟨qt, qk, qi⟩ := q
  unfold OpV.val
  have hST : ∀ W : World, W = w.alloc (.cells #[.int .i64 qt, .int .i64 qk, .int .i64 qi] 32) → Below w.heap.size w W ∧ (∀ u : Later W, u.1.cell? ⟨w.heap.size, 0, none⟩ = some (.int .i64 qt)) ∧ (∀ u : Later W, u.1.cell? ⟨w.heap.size, 1, none⟩ = some (.int .i64 qk)) ∧ (∀ u : Later W, u.1.cell? ⟨w.heap.size, 2, none⟩ = some (.int .i64 qi)) := by
    intro W hW
    obtain ⟨a, b, c, d, _⟩ := op_box hW
    exact ⟨d, a, b, c⟩
  have HST := Lib.hid hST
  have HX := Lib.hid hx
  clear hx hST
  go_enter Try.func133, Try.ntmps133
  go_wp2_with fail
  obtain ⟨W, hW⟩ : ∃ W : World, W = w.alloc (.cells #[.int .i64 qt, .int .i64 qk, .int .i64 qi] 32) := ⟨_, rfl⟩
  rw [← hW]
  obtain ⟨hbW, L0, L1, L2⟩ := HST.out W hW
  clear HST hW
  go_loopw [8] (fun i wr => ∃ k : Nat, k ≤ n ∧ i = .int .i64 k ∧ Below W.heap.size W wr ∧ (∀ j, j < k → ∀ o, s[j]? = some o → (o == ⟨qt, qk, qi⟩) = false)) (fun i _ => n - (intOf i).toNat)
  case atStart => exact ⟨0, Nat.zero_le _, rfl, Below.refl _ _, by omega⟩
  case round =>
    obtain ⟨k, hk, rfl, hb, hno⟩ := hrel
    by_cases hlt : k < n
    · obtain ⟨b, off, o, rfl, hbl, ho, c0, c1, c2⟩ := (HX.out.below (hbW.trans (hb.mono hbW.size)) (Nat.le_refl _)).at_ hlt
      have M0 : ∀ u : Later wr, u.1.cell? ⟨w.heap.size, 0, none⟩ = some (.int .i64 qt) := fun u => L0 ⟨u.1, hb.trans (u.2.mono hb.size)⟩
      have M1 : ∀ u : Later wr, u.1.cell? ⟨w.heap.size, 1, none⟩ = some (.int .i64 qk) := fun u => L1 ⟨u.1, hb.trans (u.2.mono hb.size)⟩
      have M2 : ∀ u : Later wr, u.1.cell? ⟨w.heap.size, 2, none⟩ = some (.int .i64 qi) := fun u => L2 ⟨u.1, hb.trans (u.2.mono hb.size)⟩
      have C0 := Later.cell c0
      have C1 := Later.cell c1
      have C2 := Later.cell c2
      have HN : Hid ((o == ⟨qt, qk, qi⟩) = false → ∀ j, j < k + 1 → ∀ o, s[j]? = some o → (o == ⟨qt, qk, qi⟩) = false) := fun h => no_snoc ho hno h
      have HT : Hid ((o == ⟨qt, qk, qi⟩) = true → idxI s ⟨qt, qk, qi⟩ = (k : Int)) := fun h => idxI_hit ho h hno
      clear hno ho c0 c1 c2
      obtain ⟨tx, kd, it⟩ := o
      simp only at C0 C1 C2
      have hbq : Hid ((qt == tx && qk == kd && qi == it) = ((⟨tx, kd, it⟩ : OpV) == ⟨qt, qk, qi⟩)) := beq_op _ _ _ _ _ _
      cases hq : ((⟨tx, kd, it⟩ : OpV) == ⟨qt, qk, qi⟩)
      all_goals
        have heq : ∀ w : World, (binOp .eql 32 (.agg #[.int .i64 qt, .int .i64 qk, .int .i64 qi]) (.agg #[.int .i64 tx, .int .i64 kd, .int .i64 it])).run Try.prog w = .ok (.bool _) w := fun w => by
          rw [eql_op, hbq.out, hq]
        have hgd := op_guard
        have HQ := Lib.hid hq
        clear hq
        go_wp2_with fail
        refine region_later (by kernel_rfl) (by kernel_rfl) ?_
        repeat (go_big_quiet_step (fail))
        refine wpQuiet_nil ?_
        rintro _ ⟨u, rfl⟩
        have hbu : Below W.heap.size W u.1 := hb.trans (u.2.mono hb.size)
        first
          | (have HR := Lib.hid (HT.out HQ.out)
             go_wp2_with fail
             go_ret
             exact ⟨ret_int HR.out.symm, hbW.trans (hbu.mono hbW.size)⟩)
          | (go_wp2_with fail
             go_roundw
             case rel => exact ⟨k + 1, by omega, by go_num, hbu, HN.out HQ.out⟩
             case measure => simp [intOf]; omega)
    · have HE := Lib.hid (idxI_none (s := s) (q := ⟨qt, qk, qi⟩) (fun j hj => hno j (by omega)))
      clear hno
      go_wp2_with fail
      go_ret
      exact ⟨ret_int HE.out.symm, hbW.trans (hb.mono hbW.size)⟩
end Go.Proofs.Ytkbclcgdkbhgdaa
