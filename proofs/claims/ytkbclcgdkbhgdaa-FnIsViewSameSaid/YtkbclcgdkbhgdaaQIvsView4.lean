/-
  placesOf: the walk.
-/
import Derived.Test.YtkbclcgdkbhgdaaQIvsView3
import Derived.IntWalk
import Derived.StillTailTactics
namespace Go.Proofs.Ytkbclcgdkbhgdaa
open Go.RowKit Go.BigFrame
set_option linter.unusedVariables false

/-- The call hands back a new map that holds what f says of s. -/
def RetMap (w0 : World) (s : List OpV) (f : Nat → OpV → Option Int) (e : Ending) (w : World) : Prop :=
  ∃ bm D N, e = .returned (.map (some bm)) ∧ w0.heap.size ≤ bm ∧ N ≤ 1099511627776 ∧ w.ownsMap Try.prog 73 (plainElem (H := Unit) Try.prog 3) bm N D ∧ KvIs D s f ∧ Below w0.heap.size w0 w
theorem ownsMap_blk {w w' : World} {b n : Nat} {D : DataW Unit} (h : w.ownsMap Try.prog 73 (plainElem (H := Unit) Try.prog 3) b n D) (hk : w'.heap[b]? = w.heap[b]?) : w'.ownsMap Try.prog 73 (plainElem (H := Unit) Try.prog 3) b n D := by
  obtain ⟨es, clock, hb, F, hs, hD⟩ := h
  exact ⟨es, clock, hk.trans hb, F, hs, hD⟩
structure PlInv (w : World) (bm g : Nat) (s : List OpV) (k : Nat) (wr : World) : Prop where
  below : Below w.heap.size w wr
  map : ∃ D, wr.ownsMap Try.prog 73 (plainElem (H := Unit) Try.prog 3) bm k D ∧ KvIs D s (plF k)
  row : RowIs wr g 100 (intCells (cnts s k))
  ne : w.heap.size ≤ bm ∧ w.heap.size ≤ g ∧ bm ≠ g
theorem PlInv.later {w : World} {bm g : Nat} {s : List OpV} {k : Nat} {wr W : World} (h : PlInv w bm g s k wr) (hb : Below wr.heap.size wr W) : PlInv w bm g s k W := by
  obtain ⟨D, h1, h2⟩ := h.map
  exact ⟨h.below.trans (hb.mono h.below.size), ⟨D, ownsMap_blk h1 (hb.block bm h1.lt), h2⟩, h.row.below hb (Nat.le_refl _), h.ne⟩

set_option maxRecDepth 100000 in
set_option maxHeartbeats 1000000 in
theorem placesOf_any (A : Option Addr) (n c : Nat) (s : List OpV) (w : World) (hx : ROps w A n s) (hx4 : Tx4 s) :
    Calls Try.prog 87 #[.slice A n c] w (RetMap w s (plF s.length)) := by
  have hn := hx.2.1
  have hl := hx.1
  have hmm := @run_makeMap Try.prog
  have HX := Lib.hid hx
  have HX4 := Lib.hid hx4
  have HL := Lib.hid hl
  clear hx hx4 hl
  go_enter Try.func87, Try.ntmps87
  go_wp2_with fail
  have HST : Hid (PlInv w w.heap.size (w.heap.size + 1) s 0 ((w.alloc (.map #[] 0)).alloc (.cells #[.int .i64 0, .int .i64 0, .int .i64 0, .int .i64 0] 100))) := by
    have hb0 : Below w.heap.size w (w.alloc (.map #[] 0)) := (Below.refl _ w).alloc (Nat.le_refl _) _
    have hs0 : (w.alloc (.map #[] 0)).heap.size = w.heap.size + 1 := by simp
    refine ⟨hb0.alloc (by omega) _, ⟨_, (World.ownsMap_made w _ _ _).alloc _, KvIs.empty.congr fun j p _ => by simp [plF]⟩, ?_, by omega, by omega, by omega⟩
    unfold RowIs
    rw [← hs0, cnts_zero]
    exact heap_alloc_new _ _
  clear hmm
  generalize (w.alloc (.map #[] 0)).alloc (.cells #[.int .i64 0, .int .i64 0, .int .i64 0, .int .i64 0] 100) = w1 at *
  obtain ⟨g, hg⟩ : ∃ g, g = w.heap.size + 1 := ⟨_, rfl⟩
  rw [← hg] at HST ⊢
  clear hg
  go_loopw [10] (fun i wr => ∃ k : Nat, k ≤ n ∧ i = .int .i64 k ∧ PlInv w w.heap.size g s k wr) (fun i _ => n - (intOf i).toNat)
  case atStart => exact ⟨0, Nat.zero_le _, rfl, HST.out⟩
  case round =>
    clear HST
    obtain ⟨wo, rfl⟩ : ∃ wo : World, wo = wr := ⟨_, rfl⟩
    obtain ⟨k, hk, rfl, hI⟩ := hrel
    have HI := Lib.hid hI
    by_cases hlt : k < n
    · obtain ⟨b, off, o, rfl, hbl, ho, c0, c1, c2⟩ := (HX.out.below hI.below (Nat.le_refl _)).at_ hlt
      have hox := HX4.out o (List.mem_of_getElem? ho)
      have HO := Lib.hid ho
      obtain ⟨ot, ok, oi⟩ := o
      simp only at c0 c1 c2 hox
      obtain ⟨T, rfl⟩ := Int.eq_ofNat_of_zero_le hox.1
      have hT3 : T ≤ 3 := by omega
      obtain ⟨C, hC⟩ : ∃ C, cntN s (T : Int) k = C := ⟨_, rfl⟩
      have hCk : C ≤ k := by rw [← hC]; exact cntN_le
      have HCC := Lib.hid hC
      obtain ⟨V, hV⟩ : ∃ V : World, V = wo.alloc (.cells #[.int .i64 (T : Int), .int .i64 ok, .int .i64 oi] 32) := ⟨_, rfl⟩
      have hbV : Below wo.heap.size wo V := by rw [hV]; exact (Below.refl _ _).alloc (Nat.le_refl _) _
      have hsV : V.heap.size = wo.heap.size + 1 := by rw [hV]; simp
      have hIV := hI.later hbV
      have hgl := hI.row.lt
      have v0 : V.cell? ⟨wo.heap.size, 0, none⟩ = some (.int .i64 (T : Int)) := by rw [hV]; exact box_at _ _ _ _ _ rfl
      have hcr : V.cell? ⟨g, T, none⟩ = some (.int .i64 (C : Int)) := by
        refine hIV.row.cell ?_
        have := cnts_at (s := s) (k := k) hT3
        rw [hC] at this
        simp only [intCells, List.getElem?_map, this, Option.map_some]
      obtain ⟨D, hown, hkv⟩ := hIV.map
      have HKV := Lib.hid hkv
      have HIV := Lib.hid hIV
      have HV := Lib.hid hV
      have hT4 : (T : Int) < 4 := by omega
      have hT0 : (0 : Int) ≤ (T : Int) := by omega
      have hcw : IntKind.i64.wrap ((C : Int) + 1) = (C : Int) + 1 := IntWalk.i64_in _ (by omega)
      have hki : (k : Int) < (n : Int) := by omega
      obtain ⟨wd, hwd⟩ : ∃ wd : World, wd = V.drew := ⟨_, rfl⟩
      have hownd : wd.ownsMap Try.prog 73 (plainElem (H := Unit) Try.prog 3) w.heap.size k D := by rw [hwd]; exact hown.drew
      have hIVd : PlInv w w.heap.size g s k wd := by rw [hwd]; exact hIV.later (Below.refl _ _).drew
      have HIVd := Lib.hid hIVd
      have v0d : wd.cell? ⟨wo.heap.size, 0, none⟩ = some (.int .i64 (T : Int)) := by rw [hwd]; exact v0
      have hcrd : wd.cell? ⟨g, T, none⟩ = some (.int .i64 (C : Int)) := by rw [hwd]; exact hcr
      have hsd : wd.heap.size = wo.heap.size + 1 := by rw [hwd]; exact hsV
      have hbo := hI.below.size
      have hbm : w.heap.size < wo.heap.size := by obtain ⟨D0, h1, _⟩ := hI.map; exact h1.lt
      have hne := hI.ne
      have HNX : Hid (∀ w4 : World, w4.ownsMap Try.prog 73 (plainElem (H := Unit) Try.prog 3) w.heap.size (k + 1) (D.put (pllit (T : Int) (C : Int)) (.lit (.int .i64 (k : Int)))) → wd.grownBy w4 (some w.heap.size) →
          w4.cell? ⟨wo.heap.size, 0, none⟩ = some (.int .i64 (T : Int)) ∧ w4.cell? ⟨g, T, none⟩ = some (.int .i64 (C : Int)) ∧ w4.frozen? ⟨g, T, none⟩ = false ∧ ∀ v : Int, v = (C : Int) + 1 → PlInv w w.heap.size g s (k + 1) (w4.setCell ⟨g, T, none⟩ (.int .i64 v))) := by
        intro w4 h1 h2
        have hbd := hIVd.below
        have hb4 : Below w.heap.size w w4 := hbd.grown h2 hbd.size (fun j e => by cases e; exact Nat.le_refl _)
        have hrow4 : RowIs w4 g 100 (intCells (cnts s k)) := hIVd.row.grown h2 (by intro e; injection e with e; exact hne.2.2 e)
        have hgw4 := hrow4.lt
        refine ⟨?_, ?_, hrow4.frozen T, fun v hv => ?_⟩
        · have hk1 : w4.heap[wo.heap.size]? = wd.heap[wo.heap.size]? := h2.block _ (by omega) (by intro e; injection e with e; omega)
          exact (World.cell?_of_block (w := wd) (a := ⟨wo.heap.size, 0, none⟩) hk1).trans v0d
        · refine hrow4.cell ?_
          have := cnts_at (s := s) (k := k) hT3
          rw [hC] at this
          simp only [intCells, List.getElem?_map, this, Option.map_some]
        · subst hv
          refine ⟨hb4.setCell (by simpa using hne.2.1) _, ⟨_, (h1.kept grown_set (by intro e; injection e with e; exact hne.2.2 e)), ?_⟩, ?_, hne⟩
          · have := plF_put hkv HX4.out (by have := HL.out; omega) ho
            simp only at this
            rw [hC] at this
            exact this
          · have h3 := row_setInt (v := (C : Int) + 1) (k := T) (ys := cnts s k) (more := []) (by rw [List.append_nil]; exact hrow4) (by simp [cnts]; omega)
            rw [List.append_nil] at h3
            have h4 := cnts_succ (T := T) ho rfl hT3
            rw [hC] at h4
            rw [h4]
            exact h3
      have HSD := Lib.hid hsd
      clear hsd hsV hV
      clear hI hIV hIVd hkv hown hbV ho hC
      go_wp2_with fail
      rw [← HV.out]
      refine wp_region_still_tail 9 (by kernel_rfl) (by kernel_rfl) ?_
      simp only [List.take_succ_cons, List.take_zero, List.drop_succ_cons, List.drop_zero]
      repeat (first | still_step)
      refine wpStill_nil ?_
      change wpList _ _ _ _ _ V.drew
      rw [← hwd]
      go_wp2_with (at_mapUpdate; refine wpList_mapUpdate_own _ rfl _ _ _ 70 rfl 73 3 plkeyed Try.underlying70 (plainElem (H := Unit) Try.prog 3) w.heap.size k D rfl hownd (by unfold maxLen; omega) _ _ (pllit (T : Int) (C : Int)) rfl rfl (plkey (wf_small (by omega)) (wf_nat (by omega))) (.lit (.int .i64 (k : Int))) [] (plainElem_int Try.underlying3 (wf_nat (by omega))) ?_; intro w4 hown4 hg4; obtain ⟨e0, e1, e2, hP⟩ := HNX.out w4 hown4 hg4; have HP := Lib.hid hP; clear hP hown4 hg4)
      go_roundw
      case rel => exact ⟨k + 1, by omega, by go_num, HP.out _ rfl⟩
      case measure => simp [intOf]; omega
    · obtain rfl : k = n := by omega
      obtain ⟨D, hown, hkv⟩ := hI.map
      have HR : Hid (RetMap w s (plF s.length) (.returned (.map (some w.heap.size))) wo) := by
        refine ⟨_, D, k, rfl, hI.ne.1, hn, hown, ?_, hI.below⟩
        rw [HL.out]; exact hkv
      clear hI hown hkv
      go_wp2_with fail
      go_ret
      exact HR.out
end Go.Proofs.Ytkbclcgdkbhgdaa
