/-
  slices.Repeat of one number thrice.
-/
import Derived.Test.YtkbclcgdkbhgdaaPkOrdX1
import Derived.Test.YtkbclcgdkbhgdaaPkOrdX2
import Derived.Test.YtkbclcgdkbhgdaaQIvsMul0
import Derived.Laws.CopyOwn
import Derived.Deep.RegionLaw
namespace Go.Proofs.Ytkbclcgdkbhgdaa
open Go.RowKit Go.BigFrame
set_option linter.unusedVariables false

theorem row_of_full {w : World} {base g k : Nat} {T : TypeId} {vs : List Value} (h : w.ownsRow base T 1 (.slice (some ⟨g, 0, none⟩) k k) k vs) : RowIs w g T vs := by
  rcases h.2 with ⟨h1, _⟩ | ⟨g', cap, cur, h1, h2, h3, h4, h5, h6, h7⟩
  · cases h1
  · injection h1 with ha hb hc
    injection ha with ha
    injection ha with ha
    subst ha; subst hc
    unfold RowIs
    rw [h3]
    congr 2
    apply Array.ext'
    rw [List.take_of_length_le (by simpa using Nat.le_of_eq h6)] at h7
    rw [h7]

theorem src_one {w : World} {b off : Nat} {v : Value} (h : w.cell? ⟨b, off, none⟩ = some v) : ∀ (j : Nat) (u : Value), [v][j]? = some u → w.cell? ((⟨b, off, none⟩ : Addr).add j) = some u := by
  intro j u hj
  match j, hj with
  | 0, hj =>
    simp only [List.getElem?_cons_zero, Option.some.injEq] at hj
    subst hj
    rw [addr_add]; exact h
  | j + 1, hj => simp at hj

set_option maxRecDepth 100000 in
set_option maxHeartbeats 1000000 in
theorem Repeat3_any (A : Option Addr) (c : Nat) (z : Int) (w : World) (hx : RInts w A 1 [z]) :
    Calls Try.prog 143 #[.slice A 1 c, .int .i64 3] w (RetInts w [z, z, z]) := by
  obtain ⟨b, off, x, rfl, hbl, hox, c0⟩ := hx.at_ (k := 0) (by omega)
  simp only [List.getElem?_cons_zero, Option.some.injEq] at hox
  subst hox
  simp only [Nat.add_zero] at c0
  clear hx
  obtain ⟨i0, hi, hz0, hz1, hz2⟩ := info_parts intInfo
  have hsz : (Try.prog.info? 3).map (·.size) = some 1 := by kernel_rfl
  have hone : ∀ v ∈ [Value.int .i64 z], v.oneCell' = true := by simp [Value.oneCell']
  have hfit : 0 + [Value.int .i64 z].length ≤ (intCells [0, 0, 0]).length := by simp [intCells]
  have hblt : (⟨b, off, none⟩ : Addr).block < w.heap.size := hbl
  go_enter Try.func143, Try.ntmps143
  go_wp2_with fail
  refine (mul_any w).mono ?_
  rintro e w' ⟨rfl, rfl⟩
  go_wp2_with (first
    | (at_make; refine wpList_make_full _ rfl _ _ 40 rfl w.heap.size 3 i0 _ 1 Try.underlying40 hi hz0 hz1 .i64 .i64 _ _ 3 rfl rfl rfl rfl (by rw [hz2]; omega) (by unfold maxLen; omega) (Nat.le_refl _) ?_; intro w1 hown1 hg1; have hrow := row_of_full hown1; have hb1 : Below w.heap.size w w1 := ⟨hg1.os, hg1.tape, hg1.output, hg1.size, fun k hk => hg1.block k hk (by simp)⟩; have hsrc := src_one ((hb1.cell (p := ⟨b, off, none⟩) hblt).trans c0); rw [made_ints] at hrow; have hpos : 0 < [Value.int .i64 z].length → some (⟨w.heap.size, 0, none⟩ : Addr) = some ⟨w.heap.size, 0, none⟩ ∧ ∃ ad, some (⟨b, off, none⟩ : Addr) = some ad ∧ ∀ (j : Nat) (v : Value), [Value.int .i64 z][j]? = some v → w1.cell? (ad.add j) = some v := fun _ => ⟨rfl, _, rfl, hsrc⟩)
    | (refine wpList_copy_splice rfl (.tmp 31) (.tmp 32) 40 40 rfl 3 Try.underlying40 hsz (some ⟨w.heap.size, 0, none⟩) (some ⟨b, off, none⟩) 3 3 1 c rfl rfl w.heap.size 0 (intCells [0, 0, 0]) 3 hrow [.int .i64 z] rfl hpos hfit hone w.heap.size w hb1 (Nat.le_refl _) ?_; intro w2 hg2 hb2))
  have HG0 : Hid (RowIs w2 w.heap.size 3 (intCells (List.replicate 1 z ++ List.replicate 2 0))) := hg2.out
  clear hg2 hpos hfit hsrc hrow hown1 hg1 hb1
  go_loopw [8] (fun i wr => ∃ q : Nat, 1 ≤ q ∧ q ≤ 3 ∧ i = .int .i64 q ∧ Below w.heap.size w wr ∧ RowIs wr w.heap.size 3 (intCells (List.replicate q z ++ List.replicate (3 - q) 0))) (fun i _ => 3 - (intOf i).toNat)
  case atStart => exact ⟨1, by omega, by omega, rfl, hb2, HG0.out⟩
  case round =>
    clear HG0 hb2
    obtain ⟨q, h1, h3, rfl, hb, hr⟩ := hrel
    rcases (by omega : q = 1 ∨ q = 2 ∨ q = 3) with rfl | rfl | rfl
    · have hcz : wr.drew.cell? ⟨w.heap.size, 0, none⟩ = some (.int .i64 z) := hr.cell (i := 0) (by simp [intCells])
      have hrD : Hid (wr.drew.heap[w.heap.size]? = some (.cells (intCells [z, 0, 0]).toArray 3 (0, 0))) := hr
      have hbD : Below w.heap.size w wr.drew := hb.drew
      have hsrc := src_one hcz
      have hfit : 1 + [Value.int .i64 z].length ≤ (intCells [z, 0, 0]).length := by simp [intCells]
      have hpos : Hid (0 < [Value.int .i64 z].length → some (⟨w.heap.size, 1, none⟩ : Addr) = some ⟨w.heap.size, 1, none⟩ ∧ ∃ ad, some (⟨w.heap.size, 0, none⟩ : Addr) = some ad ∧ ∀ (j : Nat) (v : Value), [Value.int .i64 z][j]? = some v → wr.drew.cell? (ad.add j) = some v) := fun _ => ⟨rfl, _, rfl, hsrc⟩
      go_wp2_with fail
      go_region_law (refine step_copy_splice rfl (.tmp 41) (.tmp 44) 40 40 rfl 3 Try.underlying40 hsz (some ⟨w.heap.size, 1, none⟩) (some ⟨w.heap.size, 0, none⟩) 2 2 1 3 (by simp [Act.eval, Act.put]) (by simp [Act.eval, Act.put]) w.heap.size 1 (intCells [z, 0, 0]) 3 hrD.out [.int .i64 z] rfl (fun _ => ⟨rfl, _, rfl, hsrc⟩) hfit hone w.heap.size w hbD (Nat.le_refl _) ?_; intro w4 hg4 hb4)
      all_goals
        (try go_simp)
        go_wp2_with fail
        go_roundw
        case rel => exact ⟨2, by omega, by omega, by go_num, hb4, hg4.out⟩
        case measure => simp [intOf] <;> decide
    · have hcz : wr.drew.cell? ⟨w.heap.size, 0, none⟩ = some (.int .i64 z) := hr.cell (i := 0) (by simp [intCells])
      have hrD : Hid (wr.drew.heap[w.heap.size]? = some (.cells (intCells [z, z, 0]).toArray 3 (0, 0))) := hr
      have hbD : Below w.heap.size w wr.drew := hb.drew
      have hsrc := src_one hcz
      have hfit : 2 + [Value.int .i64 z].length ≤ (intCells [z, z, 0]).length := by simp [intCells]
      have hpos : Hid (0 < [Value.int .i64 z].length → some (⟨w.heap.size, 2, none⟩ : Addr) = some ⟨w.heap.size, 2, none⟩ ∧ ∃ ad, some (⟨w.heap.size, 0, none⟩ : Addr) = some ad ∧ ∀ (j : Nat) (v : Value), [Value.int .i64 z][j]? = some v → wr.drew.cell? (ad.add j) = some v) := fun _ => ⟨rfl, _, rfl, hsrc⟩
      go_wp2_with fail
      go_region_law (refine step_copy_splice rfl (.tmp 41) (.tmp 44) 40 40 rfl 3 Try.underlying40 hsz (some ⟨w.heap.size, 2, none⟩) (some ⟨w.heap.size, 0, none⟩) 1 1 2 3 (by simp [Act.eval, Act.put]) (by simp [Act.eval, Act.put]) w.heap.size 2 (intCells [z, z, 0]) 3 hrD.out [.int .i64 z] rfl (fun _ => ⟨rfl, _, rfl, hsrc⟩) hfit hone w.heap.size w hbD (Nat.le_refl _) ?_; intro w4 hg4 hb4)
      all_goals
        (try go_simp)
        go_wp2_with fail
        go_roundw
        case rel => exact ⟨3, by omega, by omega, by go_num, hb4, hg4.out⟩
        case measure => simp [intOf] <;> decide
    · have HO : Hid (RetInts w [z, z, z] (.returned (.slice (some ⟨w.heap.size, 0, none⟩) 3 3)) wr) := by
        refine RetInts.mk rfl (Nat.le_refl _) ⟨RowIs.ints (rest := []) (by simpa using hr) rfl (by omega), fun ad had => ?_⟩ hb
        injection had with had
        subst had
        exact ⟨_, _, rfl, Nat.le_refl _, hr, by simp [intCells]⟩
      clear hr
      go_wp2_with fail
      go_ret
      exact HO.out
end Go.Proofs.Ytkbclcgdkbhgdaa
