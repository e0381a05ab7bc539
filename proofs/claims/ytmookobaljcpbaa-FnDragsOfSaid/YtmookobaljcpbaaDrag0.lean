/-
  The reference: abortedAt, source, endOf.
-/
import Derived.Test.YtmookobaljcpbaaRf0
import Derived.Test.YtmookobaljcpbaaStP0
namespace Go.Proofs.Ytmookobaljcpbaa
open Go.RowKit Go.BigFrame
set_option linter.unusedVariables false

def abB (s : List OpV) (t : Int) (i : Nat) : Bool := (s.take i).any fun o => o.tx == t && o.kind == 3
theorem abB_snoc {s : List OpV} {t : Int} {k : Nat} {o : OpV} (h : s[k]? = some o) : abB s t (k + 1) = (abB s t k || (o.tx == t && o.kind == 3)) := by
  unfold abB
  rw [take_snoc h, List.any_append]; simp
theorem abB_le {s : List OpV} {t : Int} {k i : Nat} (hk : k ≤ i) (h : abB s t k = true) : abB s t i = true := by
  unfold abB at *
  rw [List.any_eq_true] at *
  obtain ⟨o, ho, e⟩ := h
  refine ⟨o, ?_, e⟩
  have : s.take k = (s.take i).take k := by rw [List.take_take, Nat.min_eq_left hk]
  rw [this] at ho
  exact List.mem_of_mem_take ho

set_option maxHeartbeats 1000000 in
theorem abortedAt_any (A : Option Addr) (n c : Nat) (s : List OpV) (t : Int) (i : Nat) (w : World) (hx : ROps w A n s) (hi : i ≤ n) :
    Calls Try.prog 90 #[.slice A n c, .int .i64 t, .int .i64 (i : Int)] w fun e w' => e = .returned (.bool (abB s t i)) ∧ Below w.heap.size w w' := by
  have hn := hx.2.1
  have hl := hx.1
  have HX := Lib.hid hx
  clear hx
  go_enter Try.func90, Try.ntmps90
  go_wp2_with fail
  go_loopw [7] (fun x wr => ∃ k : Nat, k ≤ i ∧ x = .int .i64 k ∧ abB s t k = false ∧ Below w.heap.size w wr) (fun x _ => i - (intOf x).toNat)
  case atStart => exact ⟨0, Nat.zero_le _, rfl, by simp [abB], Below.refl _ _⟩
  case round =>
    obtain ⟨k, hk, rfl, hno, hb⟩ := hrel
    by_cases hlt : k < i
    · obtain ⟨b, off, o, rfl, hbl, ho, c0, c1, c2⟩ := (HX.out.below hb (Nat.le_refl _)).at_ (k := k) (by omega)
      have HS := Lib.hid (abB_snoc (t := t) ho)
      rw [hno, Bool.false_or] at HS
      have HT : Hid (abB s t (k + 1) = true → abB s t i = true) := fun h => abB_le (by omega) h
      clear hno ho
      obtain ⟨tx, kd, it⟩ := o
      simp only at HS c0 c1 c2
      have hki : (k : Int) < (i : Int) := by omega
      have hkn : (k : Int) < (n : Int) := by omega
      have L0 := Later.cell c0
      have L1 := Later.cell c1
      by_cases h1 : tx = t
      · by_cases h2 : kd = 3
        · have hs := Lib.hid (HT.out (by rw [HS.out]; simp [h1, h2]))
          subst h1
          subst h2
          go_wp2_with fail
          go_ret
          exact ⟨ret_bool hs.out.symm, hb⟩
        · have h2' : (kd == 3) = false := by simpa using h2
          rw [h2', Bool.and_false] at HS
          subst h1
          go_wp2_with fail
          go_roundw
          case rel => exact ⟨k + 1, by omega, by go_num, HS.out, hb⟩
          case measure => simp [intOf]; omega
      · have h1' : (tx == t) = false := by simpa using h1
        rw [h1', Bool.false_and] at HS
        go_wp2_with fail
        go_roundw
        case rel => exact ⟨k + 1, by omega, by go_num, HS.out, hb⟩
        case measure => simp [intOf]; omega
    · obtain rfl : k = i := by omega
      have HN := Lib.hid hno
      clear hno
      go_wp2_with fail
      go_ret
      exact ⟨ret_bool HN.out.symm, hb⟩
end Go.Proofs.Ytmookobaljcpbaa
