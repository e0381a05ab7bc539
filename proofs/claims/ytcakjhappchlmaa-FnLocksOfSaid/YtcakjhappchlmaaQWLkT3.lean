/-
  The program's table: others, illegal; IllegalAt of both.
-/
import Derived.Test.YtcakjhappchlmaaQWLkT2
namespace Go.Proofs.Ytcakjhappchlmaa
open Go.RowKit Go.BigFrame
set_option linter.unusedVariables false

def othL (L : List OpV) (t x least : Int) : List Int := [0, 1, 2, 3].filter fun u => u != t && decide (least ≤ heldI L u x)
def othLTo (L : List OpV) (t x least : Int) (k : Nat) : List Int := ((List.range k).map fun i : Nat => (i : Int)).filter fun u => u != t && decide (least ≤ heldI L u x)
theorem othLTo_succ (L : List OpV) (t x least : Int) (k : Nat) : othLTo L t x least (k + 1) = othLTo L t x least k ++ if ((k : Int) != t && decide (least ≤ heldI L k x)) = true then [(k : Int)] else [] := by
  unfold othLTo
  rw [List.range_succ, List.map_append, List.filter_append]
  simp [List.filter_cons]
theorem othLTo_four (L : List OpV) (t x least : Int) : othLTo L t x least 4 = othL L t x least := rfl
theorem oth_pos (L : List OpV) (t x least : Int) : decide (0 < (othL L t x least).length) = othersB L t x least := by
  rw [Bool.eq_iff_iff, decide_eq_true_eq, List.length_pos_iff]
  unfold othL othersB
  rw [List.any_eq_true]
  constructor
  · intro h
    obtain ⟨u, hu⟩ := List.exists_mem_of_ne_nil _ h
    exact ⟨u, (List.mem_filter.1 hu).1, (List.mem_filter.1 hu).2⟩
  · rintro ⟨u, h1, h2⟩ e
    have : u ∈ [0, 1, 2, 3].filter fun u => u != t && decide (least ≤ heldI L u x) := List.mem_filter.2 ⟨h1, h2⟩
    rw [e] at this
    cases this
set_option maxRecDepth 100000 in
set_option maxHeartbeats 2000000 in
theorem others_any (g : Nat) (L : List OpV) (t : Int) (X : Nat) (least : Int) (w : World) (h : TblAt w g L) (hX : X ≤ 2) :
    Calls Try.prog 123 #[.pointer (some ⟨g, 0, none⟩), .int .i64 t, .int .i64 (X : Int), .int .i64 least] w (RetInts w (othL L t (X : Int) least)) := by
  have hown0 := World.ownsRow_made (base := w.heap.size) (e := 3) (size := 1) w #[] 0 (Nat.le_refl _) (by decide) rfl
  have HST : Hid ((w.alloc (.cells #[] 3)).ownsRow w.heap.size 3 1 (.slice (some ⟨w.heap.size, 0, none⟩) 0 0) 0 (intCells (othLTo L t (X : Int) least 0)) ∧ Below w.heap.size w (w.alloc (.cells #[] 3))) := ⟨hown0, (Below.refl _ _).alloc (Nat.le_refl _) _⟩
  have H := Lib.hid h
  clear h hown0
  go_enter Try.func123, Try.ntmps123
  go_wp2_with fail
  go_loopw [9, 12] (fun ov i wr => ∃ (k m : Nat), k ≤ 4 ∧ m ≤ k ∧ i = .int .i64 k ∧ Below w.heap.size w wr ∧ wr.ownsRow w.heap.size 3 1 ov m (intCells (othLTo L t (X : Int) least k))) (fun _ i _ => 4 - (intOf i).toNat)
  case atStart => exact ⟨0, 0, by omega, Nat.le_refl _, rfl, HST.out.2, HST.out.1⟩
  case round =>
    clear HST
    obtain ⟨k, m, hk, hmk, rfl, hb, hown⟩ := hrel
    by_cases hlt : k < 4
    · have hs := hb.size
      have HT := Lib.hid (othLTo_succ L t (X : Int) least k)
      have hc := (H.out.below hb).cell (t := k) (x := X) (by omega) hX
      obtain ⟨v, hv⟩ : ∃ v, heldI L (k : Int) (X : Int) = v := ⟨_, rfl⟩
      rw [hv] at HT hc
      have hk4 : (k : Int) < 4 := by omega
      have hk0 : (0 : Int) ≤ (k : Int) := by omega
      have hX3 : (X : Int) < 3 := by omega
      have hX0 : (0 : Int) ≤ (X : Int) := by omega
      clear hv
      by_cases e1 : (k : Int) = t
      · subst e1
        go_wp2_with fail
        go_roundw
        case rel => exact ⟨k + 1, m, by omega, by omega, by go_num, hb, by rw [HT.out]; simpa using hown⟩
        case measure => simp [intOf]; omega
      · have hne : ((k : Int) != t) = true := by simp [e1]
        by_cases e2 : least ≤ v
        · go_wp2_with (at_builtin; go_loud (refine app_ints (.tmp 29) (.tmp 31) (hown.alloc _) (by simp; omega) (lit1 rfl _) (by omega) rfl rfl rfl rfl ?_; intro v3 w3 hown3 hg3 hat3))
          have hb3 := Below.own hb hown (Nat.le_refl _) (World.grownBy.trans (World.grownBy_alloc wr _ _) hg3)
          go_roundw
          case rel => exact ⟨k + 1, m + 1, by omega, by omega, by go_num, hb3, by rw [HT.out]; simpa [hne, e1, e2] using hown3⟩
          case measure => simp [intOf]; omega
        · have hdf : decide (least ≤ v) = false := by simp; omega
          go_wp2_with fail
          go_roundw
          case rel => exact ⟨k + 1, m, by omega, by omega, by go_num, hb, by rw [HT.out, hdf]; simpa using hown⟩
          case measure => simp [intOf]; omega
    · obtain ⟨Ao, co, rfl, hmc⟩ := own_form2 hown
      obtain rfl : k = 4 := by omega
      rw [othLTo_four] at hown
      have HO := Lib.hid (RetInts.mk (c := co) (own_lenInts hown) hmc (FreshInts.of_own hown (Nat.le_refl _) (by omega)) hb)
      clear hown
      go_wp2_with fail
      go_ret
      exact HO.out
end Go.Proofs.Ytcakjhappchlmaa
