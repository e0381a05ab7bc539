/-
  Texts that the proof rests on, joined: part 18.
-/
import Derived.Carry
import Derived.IntWalk
import Derived.StillTailTactics
import Derived.Scope
import Derived.WalkMore
import Derived.Deep.LoopGhost
import Derived.Deep.RegionLaw
import Derived.Lib.SliceRun
import Derived.LoopIn
import Derived.LoopNIn
import Derived.Maps.AppendAt
import Derived.OwnWalkIn
import Derived.RangeFuncBound
import Derived.RangeFuncBox
import Derived.RangeFuncCalls
import Derived.RangeFuncLeaves
import Derived.RangeFuncNested
import Derived.RangeFuncWrites
import Derived.Shelf.Abstract
import Derived.Shelf.RegionOpen
import Derived.Shelf.SortM.Plain
import Derived.Shelf.SortM.SortNone
import Derived.Sort.OwnSortedInts
import Derived.TacticsInMore
import Derived.Test.YtncebpmckbcabaaRows
import Derived.WalkKit
import Derived.Deep.QuietTactic
import Derived.Test.YtncebpmckbcabaaSJ3
import Derived.Test.YtncebpmckbcabaaSJ4
import Derived.Test.YtncebpmckbcabaaSJ5
import Derived.Test.YtncebpmckbcabaaSJ14
import Derived.Test.YtncebpmckbcabaaSJ16
import Derived.Test.YtncebpmckbcabaaSJ17
namespace Go.Proofs.Ytncebpmckbcabaa
open Go.RowKit Go.BigFrame
set_option linter.unusedVariables false

/-- The call hands back these integers in new memory and a bool, and changes nothing. -/
def RetIntsB (w0 : World) (xs : List Int) (b : Bool) (e : Ending) (w : World) : Prop :=
  ∃ A c, e = .returned (.tuple #[.slice A xs.length c, .bool b]) ∧ xs.length ≤ c ∧ FreshInts w0 w A xs.length xs ∧ Below w0.heap.size w0 w
theorem RetIntsB.nil {w0 w : World} {b : Bool} (h : Below w0.heap.size w0 w) : RetIntsB w0 [] b (.returned (.tuple #[.slice none 0 0, .bool b])) w := ⟨none, 0, rfl, Nat.le_refl _, FreshInts.none_, h⟩
theorem RetIntsB.lit {w0 w : World} {H : Nat} (hH : w.heap.size = H) (h : Below w0.heap.size w0 w) (xs : List Int) (hl : xs.length ≤ 64) {b : Bool} : RetIntsB w0 xs b (.returned (.tuple #[.slice (some ⟨H, 0, none⟩) xs.length xs.length, .bool b])) (w.alloc (.cells (intCells xs).toArray 3)) := by
  subst hH
  refine ⟨_, _, rfl, Nat.le_refl _, ⟨RInts.lit w xs _ (by omega), fun ad had => ?_⟩, h.alloc h.size _⟩
  injection had with had
  subst had
  exact ⟨_, _, rfl, h.size, heap_alloc_new w _, by simp [intCells]⟩
end Go.Proofs.Ytncebpmckbcabaa
namespace Go.Proofs.Ytncebpmckbcabaa
open Go.RowKit Go.BigFrame
set_option linter.unusedVariables false

theorem ROps.grown_ {w w' : World} {A : Option Addr} {n b : Nat} {xs : List OpV} (h : ROps w A n xs) (hg : w.grownBy w' (some b)) (hne : ∀ ad, A = some ad → ad.block ≠ b) : ROps w' A n xs := by
  obtain ⟨h1, h2, h3⟩ := h
  refine ⟨h1, h2, fun hn => ?_⟩
  obtain ⟨c, off, hA, hlt, hc⟩ := h3 hn
  have hk : w'.heap[c]? = w.heap[c]? := hg.block c hlt (fun e => hne _ hA (by injection e))
  have hs := World.grownBy.size hg
  have ce : ∀ o : Nat, w'.cell? ⟨c, o, none⟩ = w.cell? ⟨c, o, none⟩ := fun o => World.cell?_of_block (w := w) (a := ⟨c, o, none⟩) hk
  refine ⟨c, off, hA, by omega, fun i o ho => ?_⟩
  obtain ⟨c0, c1, c2⟩ := hc i o ho
  exact ⟨(ce _).trans c0, (ce _).trans c1, (ce _).trans c2⟩

end Go.Proofs.Ytncebpmckbcabaa
namespace Go.Proofs.Ytncebpmckbcabaa
open Go.RowKit Go.BigFrame Go.Shelf
set_option linter.unusedVariables false

attribute [local go_sem] Oper.semAt_some

section
variable {w : World} {ops : Array Oper} {o : Oper} {a : Act} {K : Act → World → Prop} {Q : Exit → Act → World → Prop} {E : Prop} {l m : Nat}
end

theorem Src.one (w : World) (u : Value) (t : TypeId) (h1 : u.oneCell' = true) : Src (w.alloc (.cells #[u] t)) 1 (some ⟨w.heap.size, 0, none⟩) 1 [u] :=
  ⟨rfl, by simp [h1], fun _ => ⟨_, rfl, fun j v hv => cell_one_new w u t j v hv⟩⟩

end Go.Proofs.Ytncebpmckbcabaa
namespace Go.Proofs.Ytncebpmckbcabaa
open Go.RowKit Go.BigFrame
set_option linter.unusedVariables false

theorem run_neq_slice_nil {P : Program} (w : World) (t e : TypeId) (a : Option Addr) (n c n' c' : Nat) (h : P.underlying t = some (.slice e)) :
    (binOp .neq t (.slice a n c) (.slice none n' c')).run P w = .ok (.bool (!a.isNone)) w := by
  simp only [binOp]
  simp [Op.equal, Op.maxDepth, Go.Lib.run_equalIn_slice_nil w 9999 t e a n c n' c' h]
def cirU (R : List Nat) (k : Nat) : List Int := ([0, 1, 2, 3].take k).foldl (fun b t => cirF R 4 [] b t) []
theorem cirU_succ {R : List Nat} {k : Nat} (h : k < 4) : cirU R (k + 1) = cirF R 4 [] (cirU R k) (k : Int) := by
  have e : [(0 : Int), 1, 2, 3][k]? = some (k : Int) := by
    rcases (by omega : k = 0 ∨ k = 1 ∨ k = 2 ∨ k = 3) with rfl | rfl | rfl | rfl <;> rfl
  unfold cirU
  rw [take_snoc e, List.foldl_append]; rfl

theorem cir_start (w : World) (G : Option Addr) (gc : Nat) (R : List Nat) (hG : RInts w G 4 (rowsI R)) (wL : World)
    (hwL : ((((w.alloc (.cells #[.slice G 4 gc] 26)).alloc (.cells #[.slice none 0 0] 26)).alloc (.cells #[] 3)).alloc (.cells #[.slice (some ⟨w.heap.size + 2, 0, none⟩) 0 0] 26)).alloc
      (.cells #[.func (.func 178) #[] #[.pointer (some ⟨w.heap.size + 3, 0, none⟩), .pointer (some ⟨w.heap.size, 0, none⟩), .pointer (some ⟨w.heap.size + 1, 0, none⟩), .pointer (some ⟨w.heap.size + 4, 0, none⟩)]] 150) = wL) :
    CirAt w.heap.size G gc R [] [] wL ∧ Below w.heap.size w wL := by
  obtain ⟨w1, h1⟩ : ∃ w1, w.alloc (.cells #[.slice G 4 gc] 26) = w1 := ⟨_, rfl⟩
  rw [h1] at hwL
  obtain ⟨w2, h2⟩ : ∃ w2, w1.alloc (.cells #[.slice none 0 0] 26) = w2 := ⟨_, rfl⟩
  rw [h2] at hwL
  obtain ⟨w3, h3⟩ : ∃ w3, w2.alloc (.cells #[] 3) = w3 := ⟨_, rfl⟩
  rw [h3] at hwL
  obtain ⟨w4, h4⟩ : ∃ w4, w3.alloc (.cells #[.slice (some ⟨w.heap.size + 2, 0, none⟩) 0 0] 26) = w4 := ⟨_, rfl⟩
  rw [h4] at hwL
  have s1 : w1.heap.size = w.heap.size + 1 := by rw [← h1]; simp
  have s2 : w2.heap.size = w.heap.size + 2 := by rw [← h2]; simp; omega
  have s3 : w3.heap.size = w.heap.size + 3 := by rw [← h3]; simp; omega
  have s4 : w4.heap.size = w.heap.size + 4 := by rw [← h4]; simp; omega
  have b4 : Below w4.heap.size w4 wL := by rw [← hwL]; exact (Below.refl _ _).alloc (Nat.le_refl _) _
  have b3 : Below w3.heap.size w3 wL := by
    refine Below.trans ?_ (b4.mono (by omega))
    rw [← h4]; exact (Below.refl _ _).alloc (Nat.le_refl _) _
  have b2 : Below w2.heap.size w2 wL := by
    refine Below.trans ?_ (b3.mono (by omega))
    rw [← h3]; exact (Below.refl _ _).alloc (Nat.le_refl _) _
  have b1 : Below w1.heap.size w1 wL := by
    refine Below.trans ?_ (b2.mono (by omega))
    rw [← h2]; exact (Below.refl _ _).alloc (Nat.le_refl _) _
  have b0 : Below w.heap.size w wL := by
    refine Below.trans ?_ (b1.mono (by omega))
    rw [← h1]; exact (Below.refl _ _).alloc (Nat.le_refl _) _
  have k1 : w1.heap[w.heap.size]? = some (.cells #[.slice G 4 gc] 26 (0, 0)) := by rw [← h1]; exact heap_alloc_new w _
  have k2 : w2.heap[w.heap.size + 1]? = some (.cells #[.slice none 0 0] 26 (0, 0)) := by
    have := heap_alloc_new w1 (.cells #[.slice none 0 0] 26)
    rw [h2, s1] at this; exact this
  have k3 : w3.ownsRow w.heap.size 3 1 (.slice (some ⟨w.heap.size + 2, 0, none⟩) 0 0) 0 (intCells []) := by
    have := World.ownsRow_made (base := w.heap.size) (e := 3) (size := 1) w2 #[] 0 (by omega) (by decide) rfl
    rw [s2, h3] at this
    exact this
  have k4 : w4.heap[w.heap.size + 3]? = some (.cells #[.slice (some ⟨w.heap.size + 2, 0, none⟩) 0 0] 26 (0, 0)) := by
    have := heap_alloc_new w3 (.cells #[.slice (some ⟨w.heap.size + 2, 0, none⟩) 0 0] 26)
    rw [h4, s3] at this; exact this
  have k5 := heap_alloc_new w4 (.cells #[.func (.func 178) #[] #[.pointer (some ⟨w.heap.size + 3, 0, none⟩), .pointer (some ⟨w.heap.size, 0, none⟩), .pointer (some ⟨w.heap.size + 1, 0, none⟩), .pointer (some ⟨w.heap.size + 4, 0, none⟩)]] 150)
  rw [hwL, s4] at k5
  have k1' := (b1.block _ (by omega)).trans k1
  have k2' := (b2.block _ (by omega)).trans k2
  have k4' := (b4.block _ (by omega)).trans k4
  refine ⟨⟨?_, ?_, hG.below b0 (Nat.le_refl _), ?_, ?_, ?_, .slice (some ⟨w.heap.size + 2, 0, none⟩) 0 0, .slice none 0 0, ?_, ?_, own_below k3 b3, ?_, .inl ⟨rfl, rfl⟩⟩, b0⟩
  · rw [cell_of_row _ _ _ _ _ _ k1']; rfl
  · rw [cell_of_row _ _ _ _ _ _ k5]; rfl
  · intro a ha
    obtain ⟨b, off, _, hA, hlt, _⟩ := hG.at_ (k := 0) (by omega)
    rw [ha] at hA
    injection hA with hA
    rw [hA]
    exact hlt
  · simp [World.frozen?, k4']
  · simp [World.frozen?, k2']
  · rw [cell_of_row _ _ _ _ _ _ k4']; rfl
  · rw [cell_of_row _ _ _ _ _ _ k2']; rfl
  · intro g hg
    left
    simpa [Value.ownBlock, eq_comm] using hg

set_option maxRecDepth 100000 in
set_option maxHeartbeats 4000000 in
theorem circle_any (G : Option Addr) (gc : Nat) (R : List Nat) (w : World) (h4 : Rows4 R) (hg : RInts w G 4 (rowsI R)) :
    Calls Try.prog 161 #[.slice G 4 gc] w (RetIntsB w (cirT R) (!(cirT R).isEmpty)) := by
  have HG := Lib.hid hg
  have H4 := Lib.hid h4
  clear hg h4
  go_enter Try.func161, Try.ntmps161
  go_wp2_with fail
  simp only [Nat.add_assoc, Nat.reduceAdd]
  obtain ⟨wL, hwL⟩ : ∃ wL, ((((w.alloc (.cells #[.slice G 4 gc] 26)).alloc (.cells #[.slice none 0 0] 26)).alloc (.cells #[] 3)).alloc (.cells #[.slice (some ⟨w.heap.size + 2, 0, none⟩) 0 0] 26)).alloc
      (.cells #[.func (.func 178) #[] #[.pointer (some ⟨w.heap.size + 3, 0, none⟩), .pointer (some ⟨w.heap.size, 0, none⟩), .pointer (some ⟨w.heap.size + 1, 0, none⟩), .pointer (some ⟨w.heap.size + 4, 0, none⟩)]] 150) = wL := ⟨_, rfl⟩
  have HST := Lib.hid (cir_start w G gc R HG.out wL hwL)
  rw [hwL]
  clear hwL
  go_loopw [12] (fun i wr => ∃ k : Nat, k ≤ 4 ∧ i = .int .i64 k ∧ CirAt w.heap.size G gc R [] (cirU R k) wr ∧ Below w.heap.size w wr) (fun i _ => 4 - (intOf i).toNat)
  case atStart => exact ⟨0, by omega, rfl, HST.out.1, HST.out.2⟩
  case round =>
    clear HST
    obtain ⟨k, hk, rfl, hC, hB⟩ := hrel
    by_cases hlt : k < 4
    · have hrun : Runs 178 := runs_of Try.func178 (by kernel_rfl) rfl
      unfold Runs at hrun
      have hf := hC.fcell
      have HREC := Lib.hid (circle1_any w.heap.size G gc R H4.out H4.out 4 [] (cirU R k) (k : Int) wr hC ⟨List.nodup_nil, by simp⟩ (by simp) ⟨by omega, by omega⟩ rfl)
      rw [← cirU_succ hlt] at HREC
      have HB := Lib.hid hB
      have l1 : (k : Int) < 4 := by omega
      clear hC hB
      go_wp2_with fail
      refine HREC.out.mono ?_
      rintro e w6 ⟨rfl, hC6, hB6⟩
      have HC6 := Lib.hid hC6
      have HB6 := Lib.hid (HB.out.trans hB6)
      clear hC6 hB6
      go_wp2_with fail
      go_roundw
      case rel => exact ⟨k + 1, by omega, by go_num, HC6.out, HB6.out⟩
      case measure => simp [intOf]; omega
    · obtain rfl : k = 4 := by omega
      have hU : cirU R 4 = cirT R := rfl
      rw [hU] at hC
      obtain ⟨pv, bv, _, e2, _, _, e5⟩ := hC.box
      have L2 := Later.cell e2
      have HB := Lib.hid hB
      rcases e5 with ⟨hbe, rfl⟩ | ⟨hbne, b, c, cur, rfl, hbc, hbr, hb5, hbh, hbs, _⟩
      · have HO : Hid (∀ W', Below w.heap.size w W' → RetIntsB w (cirT R) (!(cirT R).isEmpty) (.returned (.tuple #[.slice none 0 0, .bool false])) W') := fun W' h => by
          rw [hbe]; exact RetIntsB.nil h
        have hz : ∀ w1 : World, (binOp .neq 26 (.slice none 0 0) (.slice none 0 0)).run Try.prog w1 = .ok (.bool false) w1 := fun w1 => run_neq_slice_nil w1 26 3 none 0 0 0 0 Try.underlying26
        clear hbe hC hU hB
        go_wp2_with fail
        refine region_later (by kernel_rfl) (by kernel_rfl) ?_
        repeat (go_big_quiet_step ((go_at_call 49; exact later_call _ ((ClipInts_any none 0 0 _ (by omega) (by omega)).mono fun e w' h => ⟨h.1, h.2 ▸ Below.refl _ _⟩))))
        refine wpQuiet_nil ?_
        rintro _ ⟨u, rfl⟩
        have hbu := HB.out.trans (u.2.mono (by have := HB.out.size; omega))
        go_wp2_with fail
        go_ret2
        exact HO.out _ hbu
      · obtain ⟨q, hq⟩ : ∃ q, (cirT R).length = q := ⟨_, rfl⟩
        have hfr : FreshInts w wr (some ⟨b, 0, none⟩) (cirT R).length (cirT R) := ⟨hbr, fun ad had => by injection had with had; subst had; exact ⟨b, cur, rfl, by omega, hbh, hbs⟩⟩
        have hem : (cirT R).isEmpty = false := by
          cases h : cirT R with
          | nil => exact absurd h hbne
          | cons a b => rfl
        have hqm := hbr.2.1
        rw [hq] at hqm
        have HO : Hid (∀ W', Below wr.heap.size wr W' → RetIntsB w (cirT R) (!(cirT R).isEmpty) (.returned (.tuple #[.slice (some ⟨b, 0, none⟩) q q, .bool true])) W') := fun W' h => by
          rw [hem, ← hq]
          exact ⟨_, _, rfl, Nat.le_refl _, hfr.lat h, HB.out.trans (h.mono HB.out.size)⟩
        have hz : ∀ w1 : World, (binOp .neq 26 (.slice (some ⟨b, 0, none⟩) q c) (.slice none 0 0)).run Try.prog w1 = .ok (.bool true) w1 := fun w1 => run_neq_slice_nil w1 26 3 (some ⟨b, 0, none⟩) q c 0 0 Try.underlying26
        rw [hq] at L2 hbc
        clear hC hU hB hfr hem hq hbr hbh hbs hbne
        go_wp2_with fail
        refine region_later (by kernel_rfl) (by kernel_rfl) ?_
        repeat (go_big_quiet_step ((go_at_call 49; exact later_call _ ((ClipInts_any (some ⟨b, 0, none⟩) q c _ hqm hbc).mono fun e w' h => ⟨h.1, h.2 ▸ Below.refl _ _⟩))))
        refine wpQuiet_nil ?_
        rintro _ ⟨u, rfl⟩
        have hbu := u.2
        go_wp2_with fail
        go_ret2
        exact HO.out _ hbu

end Go.Proofs.Ytncebpmckbcabaa
