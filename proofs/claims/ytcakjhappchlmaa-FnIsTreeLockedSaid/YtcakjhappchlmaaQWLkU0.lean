/-
  Trees of items: treeOk of the program, validTree of the reference.
-/
import Derived.Test.YtcakjhappchlmaaPkLkG
import Derived.Test.YtcakjhappchlmaaQWLkTP
import Derived.IntWalk
namespace Go.Proofs.Ytcakjhappchlmaa
open Go.RowKit Go.BigFrame
set_option linter.unusedVariables false

theorem ints_len3 {ps : List Int} (h : ps.length = 3) : ∃ a b c, ps = [a, b, c] := by
  match ps, h with
  | [a, b, c], _ => exact ⟨a, b, c, rfl⟩
theorem parB_three (a b c : Int) : parB [a, b, c] = (a == -1 && inR b 0 0 && inR c 0 1) := by
  rw [Bool.eq_iff_iff, parB_iff]
  simp only [Bool.and_eq_true, beq_iff_eq, inR, decide_eq_true_eq, List.cons.injEq, and_true]
  omega
set_option maxHeartbeats 1000000 in
theorem treeOk_any (B : Option Addr) (m d : Nat) (ps : List Int) (w : World) (hx : RInts w B m ps) :
    Calls Try.prog 107 #[.slice B m d] w fun e w' => e = .returned (.bool (parB ps)) ∧ w = w' := by
  have hl := hx.1
  have hm := hx.2.1
  by_cases h3 : m = 3
  · subst h3
    obtain ⟨a, b, c, rfl⟩ := ints_len3 hl
    obtain ⟨bb, off, x0, rfl, hbl, h0, c0⟩ := hx.at_ (k := 0) (by omega)
    obtain ⟨_, _, x1, e1, _, h1, c1⟩ := hx.at_ (k := 1) (by omega)
    obtain ⟨_, _, x2, e2, _, h2, c2⟩ := hx.at_ (k := 2) (by omega)
    injection e1 with e1; injection e1 with q1 q2 _; subst q1; subst q2
    injection e2 with e2; injection e2 with q1 q2 _; subst q1; subst q2
    simp at h0 h1 h2
    subst h0; subst h1; subst h2
    rw [Nat.add_zero] at c0
    obtain ⟨b1, hb1⟩ : ∃ q, inR b 0 0 = q := ⟨_, rfl⟩
    obtain ⟨b2, hb2⟩ : ∃ q, inR c 0 1 = q := ⟨_, rfl⟩
    have W1 : Calls Try.prog 75 #[.int .i64 b, .int .i64 0, .int .i64 0] w fun e w' => e = .returned (.bool b1) ∧ w = w' := by have := within_any b 0 0 w; rw [hb1] at this; exact this
    have W2 : Calls Try.prog 75 #[.int .i64 c, .int .i64 0, .int .i64 1] w fun e w' => e = .returned (.bool b2) ∧ w = w' := by have := within_any c 0 1 w; rw [hb2] at this; exact this
    have W1' := Lib.hid W1
    have W2' := Lib.hid W2
    have hp : parB [a, b, c] = (a == -1 && b1 && b2) := by rw [parB_three, hb1, hb2]
    have HP := Lib.hid hp
    clear W1 W2 hp hb1 hb2 hx hl
    by_cases ha : a = -1
    · subst ha
      go_enter Try.func107, Try.ntmps107
      go_wp2_with fail
      go_loop [3] (fun i => ∃ k : Nat, 1 ≤ k ∧ k ≤ 3 ∧ i = .int .i64 k ∧ (2 ≤ k → b1 = true) ∧ (3 ≤ k → b2 = true)) (fun i => 3 - (intOf i).toNat)
      case atStart => exact ⟨1, by omega, by omega, rfl, fun h => by omega, fun h => by omega⟩
      case round =>
        obtain ⟨k, hk1, hk3, rfl, g1, g2⟩ := hrel
        rcases (by omega : k = 1 ∨ k = 2 ∨ k = 3) with rfl | rfl | rfl
        · clear g1 g2
          cases b1
          · go_wp2_with (go_at_call 75; refine W1'.out.mono ?_; rintro e w1 ⟨rfl, rfl⟩)
            go_ret
            exact ⟨ret_bool (by rw [HP.out]; rfl), rfl⟩
          · go_wp2_with (go_at_call 75; refine W1'.out.mono ?_; rintro e w1 ⟨rfl, rfl⟩)
            go_round
            case rel => exact ⟨2, by omega, by omega, rfl, fun _ => (by first | rfl | trivial), fun h => by omega⟩
            case measure => simp [intOf]
        · have h1 := g1 (by omega)
          subst h1
          clear g1 g2
          cases b2
          · go_wp2_with (go_at_call 75; refine W2'.out.mono ?_; rintro e w1 ⟨rfl, rfl⟩)
            go_ret
            exact ⟨ret_bool (by rw [HP.out]; rfl), rfl⟩
          · go_wp2_with (go_at_call 75; refine W2'.out.mono ?_; rintro e w1 ⟨rfl, rfl⟩)
            go_round
            case rel => exact ⟨3, by omega, by omega, rfl, fun _ => (by first | rfl | trivial), fun _ => (by first | rfl | trivial)⟩
            case measure => simp [intOf]
        · have h1 := g1 (by omega)
          have h2 := g2 (by omega)
          subst h1; subst h2
          clear g1 g2
          go_wp2_with fail
          go_ret
          exact ⟨ret_bool (by rw [HP.out]; rfl), rfl⟩
    · have ha' : (a != -1) = true := by simpa using ha
      go_enter Try.func107, Try.ntmps107
      go_wp2_with fail
      go_ret
      exact ⟨ret_bool (by rw [HP.out, show (a == -1) = false by simpa using ha]; rfl), rfl⟩
  · have hno : parB ps = false := by
      cases h : parB ps
      · rfl
      · exfalso
        rcases parB_iff.1 h with rfl | rfl <;> simp at hl <;> omega
    have HNO := Lib.hid hno
    have hm3 : ((m : Int) != 3) = true := by simp; omega
    clear hx hl hno
    go_enter Try.func107, Try.ntmps107
    go_wp2_with fail
    go_ret
    exact ⟨ret_bool HNO.out.symm, rfl⟩

/-- What validTree asks of a place. -/
def okPar (k : Nat) (v : Int) : Prop := (-1 ≤ v ∧ v ≤ (k : Int) - 1) ∧ ¬ (0 < k ∧ v < 0)
theorem parB_okPar {ps : List Int} (h : parB ps = true) : ∀ k v, ps[k]? = some v → okPar k v := by
  intro k v hk
  have hl := (List.getElem?_eq_some_iff.1 hk).1
  unfold okPar
  rcases parB_iff.1 h with rfl | rfl
  · rcases (by simp at hl; omega : k = 0 ∨ k = 1 ∨ k = 2) with rfl | rfl | rfl <;> simp at hk <;> omega
  · rcases (by simp at hl; omega : k = 0 ∨ k = 1 ∨ k = 2) with rfl | rfl | rfl <;> simp at hk <;> omega
theorem parB_of {ps : List Int} (h : ∀ k v, ps[k]? = some v → okPar k v) : parB ps = (ps.length == 3) := by
  by_cases h3 : ps.length = 3
  · rw [h3]
    obtain ⟨a, b, c, rfl⟩ := ints_len3 h3
    have h0 := h 0 a rfl
    have h1 := h 1 b rfl
    have h2 := h 2 c rfl
    unfold okPar at h0 h1 h2
    rw [show ((3 : Nat) == 3) = true from rfl, parB_iff]
    simp only [List.cons.injEq, and_true]
    omega
  · rw [show (ps.length == 3) = false by simpa using h3]
    cases hp : parB ps
    · rfl
    · exfalso
      rcases parB_iff.1 hp with rfl | rfl <;> simp at h3
set_option maxHeartbeats 1000000 in
theorem validTree_any (B : Option Addr) (m d : Nat) (ps : List Int) (w : World) (hx : RInts w B m ps) :
    Calls Try.prog 108 #[.slice B m d] w fun e w' => e = .returned (.bool (parB ps)) ∧ w = w' := by
  have hl := hx.1
  have hm := hx.2.1
  have HX := Lib.hid hx
  have HL := Lib.hid hl
  clear hx hl
  go_enter Try.func108, Try.ntmps108
  go_wp2_with fail
  go_loop [3] (fun i => ∃ k : Nat, k ≤ m ∧ i = .int .i64 k ∧ ∀ j, j < k → ∀ v, ps[j]? = some v → okPar j v) (fun i => m - (intOf i).toNat)
  case atStart => exact ⟨0, by omega, rfl, fun j hj => by omega⟩
  case round =>
    obtain ⟨k, hk, rfl, hno⟩ := hrel
    by_cases hlt : k < m
    · obtain ⟨b, off, v, rfl, hbl, hv, c0⟩ := HX.out.at_ hlt
      have HBAD : Hid (¬ okPar k v → parB ps = false) := fun h => by
        cases hp : parB ps
        · rfl
        · exact absurd (parB_okPar hp k v hv) h
      have HGO : Hid (okPar k v → ∀ j, j < k + 1 → ∀ v, ps[j]? = some v → okPar j v) := fun h j hj u hu => by
        by_cases e : j = k
        · subst e; rw [hv] at hu; injection hu with hu; subst hu; exact h
        · exact hno j (by omega) u hu
      obtain ⟨b1, hb1⟩ : ∃ q, inR v (-1) ((k : Int) - 1) = q := ⟨_, rfl⟩
      have W1 : Calls Try.prog 80 #[.int .i64 v, .int .i64 (-1), .int .i64 ((k : Int) - 1)] w fun e w' => e = .returned (.bool b1) ∧ w = w' := by have := inRange_any v (-1) ((k : Int) - 1) w; rw [hb1] at this; exact this
      have W1' := Lib.hid W1
      have HB1 := Lib.hid hb1
      have hkm : (k : Int) < (m : Int) := by omega
      clear hno hv W1 hb1
      cases b1
      · have HV := Lib.hid (HBAD.out fun h => by have h1 := HB1.out; unfold okPar at h; simp [inR] at h1; omega)
        go_wp2_with (go_at_call 80; refine W1'.out.mono ?_; rintro e w1 ⟨rfl, rfl⟩)
        go_ret
        exact ⟨ret_bool HV.out.symm, rfl⟩
      · by_cases hk0 : 0 < k
        · have hk0d : decide ((0 : Int) < (k : Int)) = true := by simp; omega
          by_cases hv0 : v < 0
          · have hv0d : decide (v < 0) = true := by simpa using hv0
            have HV := Lib.hid (HBAD.out fun h => h.2 ⟨hk0, hv0⟩)
            go_wp2_with (go_at_call 80; refine W1'.out.mono ?_; rintro e w1 ⟨rfl, rfl⟩)
            go_ret
            exact ⟨ret_bool HV.out.symm, rfl⟩
          · have hv0d : decide (v < 0) = false := by simp; omega
            have HG := Lib.hid (HGO.out ⟨by have h1 := HB1.out; simp [inR] at h1; omega, fun h => hv0 h.2⟩)
            go_wp2_with (go_at_call 80; refine W1'.out.mono ?_; rintro e w1 ⟨rfl, rfl⟩)
            go_round
            case rel => exact ⟨k + 1, by omega, by go_num, HG.out⟩
            case measure => simp [intOf]; omega
        · have hk0d : decide ((0 : Int) < (k : Int)) = false := by simp; omega
          have HG := Lib.hid (HGO.out ⟨by have h1 := HB1.out; simp [inR] at h1; omega, fun h => hk0 h.1⟩)
          go_wp2_with (go_at_call 80; refine W1'.out.mono ?_; rintro e w1 ⟨rfl, rfl⟩)
          go_round
          case rel => exact ⟨k + 1, by omega, by go_num, HG.out⟩
          case measure => simp [intOf]; omega
    · obtain rfl : k = m := by omega
      have hp : parB ps = (ps.length == 3) := parB_of fun j v hv => hno j (by have := (List.getElem?_eq_some_iff.1 hv).1; rw [HL.out] at this; exact this) v hv
      rw [HL.out] at hp
      have HP : Hid (parB ps = ((k : Int) == 3)) := by
        show _ = _
        rw [hp, Bool.eq_iff_iff, beq_iff_eq, beq_iff_eq]; omega
      clear hno hp
      go_wp2_with fail
      go_ret
      exact ⟨ret_bool HP.out.symm, rfl⟩
end Go.Proofs.Ytcakjhappchlmaa
