/-
  Lists of lists of integers in memory.
-/
import Derived.Test.YtofcpfabjfhjoaaLaw0
import Derived.Test.YtofcpfabjfhjoaaRows0
namespace Go.Proofs.Ytofcpfabjfhjoaa
open Go.RowKit Go.BigFrame
set_option linter.unusedVariables false

/-- The slice value reads as a list of lists. -/
def RLists (w : World) (A : Option Addr) (n : Nat) (xss : List (List Int)) : Prop :=
  xss.length = n ∧ n ≤ 1099511627776 ∧ (0 < n → ∃ b off, A = some ⟨b, off, none⟩ ∧ b < w.heap.size ∧ ∀ i xs, xss[i]? = some xs →
    ∃ B m c, w.cell? ⟨b, off + i, none⟩ = some (.slice B m c) ∧ m ≤ c ∧ RInts w B m xs)
theorem RLists.nil {w : World} {A : Option Addr} : RLists w A 0 [] := ⟨rfl, by omega, fun h => absurd h (by omega)⟩
theorem RLists.below {w w' : World} {A : Option Addr} {n : Nat} {xss : List (List Int)} (h : RLists w A n xss) {B : Nat} (hb : Below B w w') (hB : w.heap.size ≤ B) : RLists w' A n xss := by
  obtain ⟨h1, h2, h3⟩ := h
  refine ⟨h1, h2, fun hn => ?_⟩
  obtain ⟨b, off, hA, hlt, hc⟩ := h3 hn
  have hs := hb.size
  refine ⟨b, off, hA, by omega, fun i xs hi => ?_⟩
  obtain ⟨C, m, c, e, hmc, hr⟩ := hc i xs hi
  exact ⟨C, m, c, (hb.cell (p := ⟨b, _, none⟩) (by simp; omega)).trans e, hmc, hr.below hb hB⟩
theorem RLists.at_ {w : World} {A : Option Addr} {n : Nat} {xss : List (List Int)} (h : RLists w A n xss) {k : Nat} (hk : k < n) : ∃ b off xs B m c, A = some ⟨b, off, none⟩ ∧ b < w.heap.size ∧ xss[k]? = some xs ∧
    w.cell? ⟨b, off + k, none⟩ = some (.slice B m c) ∧ m ≤ c ∧ RInts w B m xs := by
  obtain ⟨h1, h2, h3⟩ := h
  obtain ⟨b, off, hA, hlt, hc⟩ := h3 (by omega)
  have e : xss[k]? = some (xss[k]'(by omega)) := List.getElem?_eq_getElem (by omega)
  obtain ⟨B, m, c, r⟩ := hc k _ e
  exact ⟨b, off, _, B, m, c, hA, hlt, e, r⟩
theorem RLists.lit1 {w : World} {H : Nat} (hH : w.heap.size = H) {T : TypeId} {B : Option Addr} {m c : Nat} {xs : List Int} (hmc : m ≤ c) (hr : RInts w B m xs) : RLists (w.alloc (.cells #[.slice B m c] T)) (some ⟨H, 0, none⟩) 1 [xs] := by
  subst hH
  refine ⟨rfl, by omega, fun _ => ⟨w.heap.size, 0, rfl, by simp, fun i xs' hi => ?_⟩⟩
  match i, hi with
  | 0, hi =>
    simp only [List.getElem?_cons_zero, Option.some.injEq] at hi
    subst hi
    exact ⟨B, m, c, box_at _ _ _ _ _ (by simp), hmc, hr.below ((Below.refl _ w).alloc (Nat.le_refl _) _) (Nat.le_refl _)⟩
  | i + 1, hi => simp at hi

set_option maxRecDepth 100000 in
set_option maxHeartbeats 1000000 in
theorem holdsList_any (A B : Option Addr) (n m c d : Nat) (xss : List (List Int)) (ys : List Int) (w : World) (hx : RLists w A n xss) (hy : RInts w B m ys) :
    Calls Try.prog 42 #[.slice A n c, .slice B m d] w fun e w' => e = .returned (.bool (xss.any fun xs => xs == ys)) ∧ Below w.heap.size w w' := by
  have hn := hx.2.1
  have hl := hx.1
  have HX := Lib.hid hx
  have HY := Lib.hid hy
  clear hx hy
  go_enter Try.func42, Try.ntmps42
  go_wp2_with fail
  go_loopw [5] (fun i wr => ∃ k : Nat, k ≤ n ∧ i = .int .i64 k ∧ Below w.heap.size w wr ∧ ((xss.take k).any fun xs => xs == ys) = false) (fun i _ => n - (intOf i).toNat)
  case atStart => exact ⟨0, Nat.zero_le _, rfl, Below.refl _ _, by simp⟩
  case round =>
    obtain ⟨k, hk, rfl, hb, hno⟩ := hrel
    by_cases hlt : k < n
    · obtain ⟨b, off, xs, C, q, cq, rfl, hbl, ho, c0, hqc, hr⟩ := (HX.out.below hb (Nat.le_refl _)).at_ hlt
      have hst : ((xss.take (k + 1)).any fun xs => xs == ys) = (xs == ys) := by
        rw [List.take_add_one, ho, List.any_append, hno]; simp
      have hmem := List.mem_of_getElem? ho
      obtain ⟨bb, hbb⟩ : ∃ b, (xs == ys) = b := ⟨_, rfl⟩
      have hcl : Calls Try.prog 17 #[.slice C q cq, .slice B m d] wr fun e w' => e = .returned (.bool bb) ∧ Below wr.heap.size wr w' := by
        have := equalInts_any C B q m cq d xs ys wr hr (HY.out.below hb (Nat.le_refl _)); rw [hbb] at this; exact this
      have HT : Hid (bb = true → (xss.any fun xs => xs == ys) = true) := fun h => List.any_eq_true.2 ⟨xs, hmem, by rw [hbb]; exact h⟩
      rw [hbb] at hst
      have HS := Lib.hid hst
      have HC := Lib.hid hcl
      clear hst ho hno hcl hbb hmem hr
      go_wp2_with fail
      refine HC.out.mono ?_
      rintro e w1 ⟨rfl, hb1⟩
      have hb2 := hb.trans (hb1.mono hb.size)
      cases bb
      · go_wp2_with fail
        go_roundw
        case rel => exact ⟨k + 1, by omega, by go_num, hb2, HS.out⟩
        case measure => simp [intOf]; omega
      · go_wp2_with fail
        go_ret
        exact ⟨ret_bool (HT.out (by first | rfl | trivial)).symm, hb2⟩
    · rw [List.take_of_length_le (by omega)] at hno
      have HN := Lib.hid hno
      clear hno
      go_wp2_with fail
      go_ret
      exact ⟨ret_bool HN.out.symm, hb⟩
end Go.Proofs.Ytofcpfabjfhjoaa
