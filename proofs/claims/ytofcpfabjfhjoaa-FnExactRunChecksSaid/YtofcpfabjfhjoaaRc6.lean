/-
  RunChecks of the reference; operations and integers of one call lie apart.
-/
import Derived.Test.YtofcpfabjfhjoaaRc5
import Derived.Test.YtofcpfabjfhjoaaEx2
namespace Go.Proofs.Ytofcpfabjfhjoaa
open Go.RowKit Go.BigFrame
set_option linter.unusedVariables false

theorem fresh_apart {w0 w1 w : World} {A B : Option Addr} {n m : Nat} {xs : List OpV} {ys : List Int} (h1 : FreshOps w0 w A n xs) (h2 : FreshInts w1 w B m ys) : Apart A B := by
  intro a b ha hb e
  obtain ⟨g, cur, rfl, _, hh, _⟩ := h1.2 a ha
  obtain ⟨g', cur', rfl, _, hh', _⟩ := h2.2 b hb
  simp only at e
  subst e
  rw [hh] at hh'
  injection hh' with hh'
  injection hh' with _ hh' _
  exact op_ne_int hh'

set_option maxHeartbeats 1000000 in
theorem sRunChecks_any (A : Option Addr) (n c : Nat) (s : List OpV) (w : World) (hx : ROps w A n s) (hnc : n ≤ c) :
    Calls Try.prog 58 #[.slice A n c] w (RetOI w (orNil (runB s) (rcTo s s.length).1) (orNil (runB s) (rcTo s s.length).2.1)) := by
  have hl := hx.1
  have HX := Lib.hid hx
  have hrb : Hid (runB s = (validS s && decide (s.length ≤ 12))) := rfl
  clear hx
  have HRR : Hid (∀ w1 : World, ROps w1 A n s → n ≤ 12 → validS s = true → Calls Try.prog 99 #[.slice A n c] w1 (RetOI w1 (rcTo s s.length).1 (rcTo s s.length).2.1)) := fun w1 h1 h2 h3 => runChecks_any A n c s w1 h1 h2 h3
  generalize (rcTo s s.length).1 = xs at *
  generalize (rcTo s s.length).2.1 = ys at *
  go_enter Try.func58, Try.ntmps58
  go_wp2_with fail
  refine (svalid'_any A n c s w HX.out hnc).mono ?_
  rintro e w1 ⟨rfl, hb1⟩
  cases hv : validS s
  · have HB : Hid (runB s = false) := by show _ = _; rw [hrb.out, hv]; rfl
    clear hv
    go_wp2_with fail
    go_ret2
    rw [HB.out]
    exact RetOI.nil hb1
  · by_cases h12 : n ≤ 12
    · have HB : Hid (runB s = true) := by show _ = _; rw [hrb.out, hv, hl]; simpa using h12
      have HR := Lib.hid (HRR.out w1 (HX.out.below hb1 (Nat.le_refl _)) h12 hv)
      clear HRR
      clear hv
      have h12' : ¬ (12 : Int) < (n : Int) := by omega
      have h12'' : ¬ 12 < n := by omega
      go_wp2_with fail
      refine HR.out.mono ?_
      rintro e w2 ⟨A', c', B', d', rfl, hc', hd', hf1, hf2, hb2⟩
      have HO : Hid (RetOI w xs ys (.returned (.tuple #[.slice A' xs.length c', .slice B' ys.length d'])) w2) := RetOI.later hb1 ⟨A', c', B', d', rfl, hc', hd', hf1, hf2, hb2⟩
      clear hf1 hf2
      go_wp2_with fail
      go_ret2
      rw [HB.out]
      exact HO.out
    · have HB : Hid (runB s = false) := by show _ = _; rw [hrb.out, hl]; simp; omega
      clear hv
      have h12' : (12 : Int) < (n : Int) := by omega
      have h12'' : 12 < n := by omega
      go_wp2_with fail
      go_ret2
      rw [HB.out]
      exact RetOI.nil hb1
end Go.Proofs.Ytofcpfabjfhjoaa
