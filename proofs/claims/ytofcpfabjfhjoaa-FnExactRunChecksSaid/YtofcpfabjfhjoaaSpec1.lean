/-
  The reference: validOp, validSchedule, stampOf, commitAt, touches, meets.
-/
import Derived.Test.YtofcpfabjfhjoaaSurv2
namespace Go.Proofs.Ytofcpfabjfhjoaa
open Go.RowKit Go.BigFrame
set_option linter.unusedVariables false

set_option maxHeartbeats 1000000 in
theorem svalidOp_any (o : OpV) (w : World) :
    Calls Try.prog 120 #[o.val] w fun e w' => e = .returned (.bool (validOp o)) ∧ Below w.heap.size w w' := by
  obtain ⟨t, k, x⟩ := o
  unfold OpV.val
  have hcase : inR t 0 3 = false ∨ (inR t 0 3 = true ∧ (k = 0 ∨ k = 1 ∨ (k = 2 ∧ x = 0) ∨ (k = 2 ∧ (x == 0) = false) ∨ (k = 3 ∧ x = 0) ∨ (k = 3 ∧ (x == 0) = false) ∨ ((k == 0) = false ∧ (k == 1) = false ∧ (k == 2) = false ∧ (k == 3) = false))) := by
    cases h1 : inR t 0 3
    · exact .inl rfl
    · refine .inr ⟨rfl, ?_⟩
      simp only [beq_eq_false_iff_ne]
      omega
  rcases hcase with h1 | ⟨h1, rfl | rfl | ⟨rfl, rfl⟩ | ⟨rfl, h5⟩ | ⟨rfl, rfl⟩ | ⟨rfl, h5⟩ | ⟨h2, h3, h4, h5⟩⟩
  all_goals
    go_enter Try.func120, Try.ntmps120
    go_wp2_with (go_at_call 153; refine (inRange_any _ _ _ _).mono ?_; rintro e w' ⟨rfl, rfl⟩)
    go_ret
    exact ⟨ret_bool (by simp [validOp, isAcc, isEnd, *]), by (repeat (first | exact Below.refl _ _ | assumption | refine B_alloc ?_ (Nat.le_refl _) _ | refine Below.drew ?_ | refine B_drewN ?_ _ | refine B_after (by assumption) ?_ | (refine B_set ?_ ?_; rotate_left; (first | exact Nat.le_refl _ | (simp; done) | (simp at *; omega)))))⟩

def stampN (s : List OpV) (t : Int) : Nat := s.findIdx fun o => o.tx == t
def commitN (s : List OpV) (t : Int) : Nat := s.findIdx fun o => o.tx == t && o.kind == 2
def touchB (s : List OpV) (i : Nat) (t k x : Int) : Bool := (s.take i).any fun o => o.tx == t && o.kind == k && o.item == x
def meetsB (s : List OpV) (t u : Int) : Bool := [0, 1, 2].any fun x => touchB s s.length t 1 x && touchB s s.length u 1 x

theorem findIdx_hit {s : List OpV} {p : OpV → Bool} {k : Nat} {o : OpV} (ho : s[k]? = some o) (h : p o = true) (hno : ∀ j, j < k → ∀ o, s[j]? = some o → p o = false) : s.findIdx p = k := by
  obtain ⟨hk, he⟩ := List.getElem?_eq_some_iff.1 ho
  rw [List.findIdx_eq hk]
  exact ⟨by rw [he]; exact h, fun j hj => hno j hj _ (List.getElem?_eq_getElem (by omega))⟩
theorem findIdx_end {s : List OpV} {p : OpV → Bool} (hno : ∀ j, j < s.length → ∀ o, s[j]? = some o → p o = false) : s.findIdx p = s.length := by
  rw [List.findIdx_eq_length]
  intro o ho
  obtain ⟨j, hj⟩ := List.mem_iff_getElem?.1 ho
  have hl : j < s.length := by
    rcases Nat.lt_or_ge j s.length with h | h
    · exact h
    · rw [List.getElem?_eq_none h] at hj; cases hj
  simpa using hno j hl o hj

set_option maxHeartbeats 400000 in
theorem stampOf_any (A : Option Addr) (n c : Nat) (s : List OpV) (t : Int) (w : World) (hx : ROps w A n s) :
    Calls Try.prog 123 #[.slice A n c, .int .i64 t] w fun e w' => e = .returned (.int .i64 (stampN s t : Nat)) ∧ Below w.heap.size w w' := by
  have hn := hx.2.1
  have hl := hx.1
  have HX := Lib.hid hx
  clear hx
  go_enter Try.func123, Try.ntmps123
  go_wp2_with fail
  go_loop [5] (fun i => ∃ k : Nat, k ≤ n ∧ i = .int .i64 k ∧ (∀ j, j < k → ∀ o, s[j]? = some o → (o.tx == t) = false)) (fun i => n - (intOf i).toNat)
  case atStart => exact ⟨0, Nat.zero_le _, rfl, by omega⟩
  case round =>
    obtain ⟨k, hk, rfl, hno⟩ := hrel
    by_cases hlt : k < n
    · obtain ⟨b, off, o, rfl, hbl, ho, c0, c1, c2⟩ := HX.out.at_ hlt
      have HN : Hid ((o.tx == t) = false → ∀ j, j < k + 1 → ∀ o, s[j]? = some o → (o.tx == t) = false) := fun h => no_snoc (p := fun o => o.tx == t) ho hno h
      have HT : Hid ((o.tx == t) = true → stampN s t = k) := fun h => findIdx_hit ho h hno
      clear hno ho
      obtain ⟨tx, kd, it⟩ := o
      simp only at c0 c1 c2 HN HT
      by_cases h1 : tx = t
      · have hs := Lib.hid (HT.out (by simpa using h1))
        go_wp2_with fail
        go_ret
        exact ⟨by rw [hs.out]; rfl, Below.refl _ _⟩
      · have hs := Lib.hid (HN.out (by simpa using h1))
        go_wp2_with fail
        go_round
        case rel => exact ⟨k + 1, by omega, by go_num, hs.out⟩
        case measure => simp [intOf]; omega
    · have HE : Hid (stampN s t = s.length) := findIdx_end (fun j hj => hno j (by omega))
      clear hno
      go_wp2_with fail
      go_ret
      exact ⟨by rw [HE.out, hl]; rfl, Below.refl _ _⟩

set_option maxHeartbeats 400000 in
theorem commitAt_any (A : Option Addr) (n c : Nat) (s : List OpV) (t : Int) (w : World) (hx : ROps w A n s) :
    Calls Try.prog 122 #[.slice A n c, .int .i64 t] w fun e w' => e = .returned (.int .i64 (commitN s t : Nat)) ∧ Below w.heap.size w w' := by
  have hn := hx.2.1
  have hl := hx.1
  have HX := Lib.hid hx
  clear hx
  go_enter Try.func122, Try.ntmps122
  go_wp2_with fail
  go_loop [5] (fun i => ∃ k : Nat, k ≤ n ∧ i = .int .i64 k ∧ (∀ j, j < k → ∀ o, s[j]? = some o → (o.tx == t && o.kind == 2) = false)) (fun i => n - (intOf i).toNat)
  case atStart => exact ⟨0, Nat.zero_le _, rfl, by omega⟩
  case round =>
    obtain ⟨k, hk, rfl, hno⟩ := hrel
    by_cases hlt : k < n
    · obtain ⟨b, off, o, rfl, hbl, ho, c0, c1, c2⟩ := HX.out.at_ hlt
      have HN : Hid ((o.tx == t && o.kind == 2) = false → ∀ j, j < k + 1 → ∀ o, s[j]? = some o → (o.tx == t && o.kind == 2) = false) := fun h => no_snoc (p := fun o => o.tx == t && o.kind == 2) ho hno h
      have HT : Hid ((o.tx == t && o.kind == 2) = true → commitN s t = k) := fun h => findIdx_hit ho h hno
      clear hno ho
      obtain ⟨tx, kd, it⟩ := o
      simp only at c0 c1 c2 HN HT
      by_cases h1 : tx = t
      · by_cases h2 : kd = 2
        · have hs := Lib.hid (HT.out (by simp [h1, h2]))
          go_wp2_with fail
          go_ret
          exact ⟨by rw [hs.out]; rfl, Below.refl _ _⟩
        · have hs := Lib.hid (HN.out (by simp [h2]))
          go_wp2_with fail
          go_round
          case rel => exact ⟨k + 1, by omega, by go_num, hs.out⟩
          case measure => simp [intOf]; omega
      · have hs := Lib.hid (HN.out (by simp [h1]))
        go_wp2_with fail
        go_round
        case rel => exact ⟨k + 1, by omega, by go_num, hs.out⟩
        case measure => simp [intOf]; omega
    · have HE : Hid (commitN s t = s.length) := findIdx_end (fun j hj => hno j (by omega))
      clear hno
      go_wp2_with fail
      go_ret
      exact ⟨by rw [HE.out, hl]; rfl, Below.refl _ _⟩

set_option maxHeartbeats 400000 in
theorem touches_any (A : Option Addr) (n c i : Nat) (s : List OpV) (t kd0 x : Int) (w : World) (hx : ROps w A n s) (hi : i ≤ n) :
    Calls Try.prog 132 #[.slice A n c, .int .i64 (i : Int), .int .i64 t, .int .i64 kd0, .int .i64 x] w fun e w' => e = .returned (.bool (touchB s i t kd0 x)) ∧ Below w.heap.size w w' := by
  have hn := hx.2.1
  have hl := hx.1
  have HX := Lib.hid hx
  clear hx
  go_enter Try.func132, Try.ntmps132
  go_wp2_with fail
  go_loop [11] (fun i' => ∃ k : Nat, k ≤ i ∧ i' = .int .i64 k ∧ (∀ j, j < k → ∀ o, s[j]? = some o → (o.tx == t && o.kind == kd0 && o.item == x) = false)) (fun i' => i - (intOf i').toNat)
  case atStart => exact ⟨0, Nat.zero_le _, rfl, by omega⟩
  case round =>
    obtain ⟨k, hk, rfl, hno⟩ := hrel
    by_cases hlt : k < i
    · obtain ⟨b, off, o, rfl, hbl, ho, c0, c1, c2⟩ := HX.out.at_ (k := k) (by omega)
      have HN : Hid ((o.tx == t && o.kind == kd0 && o.item == x) = false → ∀ j, j < k + 1 → ∀ o, s[j]? = some o → (o.tx == t && o.kind == kd0 && o.item == x) = false) := fun h => no_snoc (p := fun o => o.tx == t && o.kind == kd0 && o.item == x) ho hno h
      have HT : Hid ((o.tx == t && o.kind == kd0 && o.item == x) = true → touchB s i t kd0 x = true) := fun h => by
        refine List.any_eq_true.2 ⟨o, ?_, h⟩
        exact List.mem_of_getElem? (i := k) (by rw [List.getElem?_take, if_pos hlt]; exact ho)
      clear hno ho
      obtain ⟨tx, kd, it⟩ := o
      simp only at c0 c1 c2 HN HT
      by_cases h1 : tx = t
      · by_cases h2 : kd = kd0
        · by_cases h3 : it = x
          · have hs := Lib.hid (HT.out (by simp [h1, h2, h3]))
            go_wp2_with fail
            go_ret
            exact ⟨ret_bool hs.out.symm, Below.refl _ _⟩
          · have hs := Lib.hid (HN.out (by simp [h3]))
            go_wp2_with fail
            go_round
            case rel => exact ⟨k + 1, by omega, by go_num, hs.out⟩
            case measure => simp [intOf]; omega
        · have hs := Lib.hid (HN.out (by simp [h2]))
          go_wp2_with fail
          go_round
          case rel => exact ⟨k + 1, by omega, by go_num, hs.out⟩
          case measure => simp [intOf]; omega
      · have hs := Lib.hid (HN.out (by simp [h1]))
        go_wp2_with fail
        go_round
        case rel => exact ⟨k + 1, by omega, by go_num, hs.out⟩
        case measure => simp [intOf]; omega
    · have HE : Hid (touchB s i t kd0 x = false) := find_none_all (fun j hj o ho => by
        rw [List.getElem?_take] at ho
        split at ho
        · exact hno j (by omega) o ho
        · cases ho)
      clear hno
      go_wp2_with fail
      go_ret
      exact ⟨ret_bool HE.out.symm, Below.refl _ _⟩
end Go.Proofs.Ytofcpfabjfhjoaa
