/-
  LocksOf of the program: what a round keeps, and a call of the closure.
-/
import Derived.Test.YtcakjhappchlmaaQWLkL0
import Derived.Test.YtcakjhappchlmaaPkLkF
namespace Go.Proofs.Ytcakjhappchlmaa
open Go.RowKit Go.BigFrame
set_option linter.unusedVariables false

theorem hStep_ge {t x a : Int} {s : OpV} (ho : okStep s = true) (h : -1 ≤ a) : -1 ≤ hStep t x a s := by
  have := (okStep_iff.1 ho).2.1
  unfold hStep
  split
  · split
    · omega
    · split <;> omega
  · exact h
theorem heldI_ge {st : List OpV} (h : ∀ s ∈ st, okStep s = true) (t x : Int) : -1 ≤ heldI st t x := by
  have : ∀ (l : List OpV) (a : Int), (∀ s ∈ l, okStep s = true) → -1 ≤ a → -1 ≤ l.foldl (hStep t x) a := by
    intro l
    induction l with
    | nil => exact fun a _ h => h
    | cons s r ih => exact fun a hl h => by rw [List.foldl_cons]; exact ih _ (fun q hq => hl q (List.mem_cons_of_mem _ hq)) (hStep_ge (hl s List.mem_cons_self) h)
  exact this st (-1) h (by omega)
theorem ok_snoc {L : List OpV} {o : OpV} (h : ∀ s ∈ L, okStep s = true) (ho : okStep o = true) : ∀ s ∈ L ++ [o], okStep s = true := fun s hs => by
  rcases List.mem_append.1 hs with h1 | h1
  · exact h s h1
  · rw [List.mem_singleton.1 h1]; exact ho
theorem dropTo_ok {L : List OpV} {t : Int} (h : ∀ s ∈ L, okStep s = true) (ht : 0 ≤ t ∧ t ≤ 3) : ∀ j, j ≤ 3 → (∀ s ∈ dropTo L t j, okStep s = true) ∧ (dropTo L t j).length ≤ L.length + j
  | 0, _ => ⟨h, Nat.le_refl _⟩
  | j + 1, hj => by
    obtain ⟨h1, h2⟩ := dropTo_ok h ht j (by omega)
    rw [dropTo_succ]
    split
    · exact ⟨ok_snoc h1 (okStep_iff.2 (by simp only; omega)), by rw [List.length_append, List.length_singleton]; omega⟩
    · exact ⟨h1, by omega⟩
theorem op_ty : (92 : TypeId) ≠ 121 ∧ (92 : TypeId) ≠ 23 ∧ (92 : TypeId) ≠ 31 := by decide
/-- In a round: the boxes, the table, the list, and the operation's own box. -/
structure LkI (w : World) (tb ob tg Bx : Nat) (o : OpV) (L : List OpV) (u : World) : Prop where
  put : ∃ v, PutAt w.heap.size tb ob tg v L u
  box : RowIs u Bx 92 [.int .i64 o.tx, .int .i64 o.kind, .int .i64 o.item]
  below : Below w.heap.size w u
section
variable {w u u' : World} {tb ob tg Bx : Nat} {o : OpV} {L : List OpV}
theorem LkI.lat (h : LkI w tb ob tg Bx o L u) (hb : Below u.heap.size u u') : LkI w tb ob tg Bx o L u' := by
  obtain ⟨⟨v, h1⟩, h2, h3⟩ := h
  exact ⟨⟨v, h1.below hb⟩, RowIs.below h2 hb (Nat.le_refl _), h3.trans (hb.mono h3.size)⟩
theorem LkI.tcell (h : LkI w tb ob tg Bx o L u) : u.cell? ⟨tb, 0, none⟩ = some (.pointer (some ⟨tg, 0, none⟩)) := by
  obtain ⟨⟨v, h1⟩, _, _⟩ := h
  exact RowIs.cell h1.tbox rfl
theorem LkI.lock (h : LkI w tb ob tg Bx o L u) {t x : Nat} (ht : t ≤ 3) (hx : x ≤ 2) : u.cell? ⟨tg, t * 3 + x, none⟩ = some (.int .i64 (heldI L t x)) := by
  obtain ⟨⟨v, h1⟩, _, _⟩ := h
  exact h1.tbl.cell ht hx
theorem LkI.cells (h : LkI w tb ob tg Bx o L u) : u.cell? ⟨Bx, 0, none⟩ = some (.int .i64 o.tx) ∧ u.cell? ⟨Bx, 1, none⟩ = some (.int .i64 o.kind) ∧ u.cell? ⟨Bx, 2, none⟩ = some (.int .i64 o.item) :=
  ⟨RowIs.cell h.box rfl, RowIs.cell h.box rfl, RowIs.cell h.box rfl⟩
/-- The closure's call in a round. -/
theorem lk_put {a b c : Int} (h : LkI w tb ob tg Bx o L u) (ho : okStep ⟨a, b, c⟩ = true) (hL : L.length ≤ 9000) :
    Calls Try.prog 101 #[.agg #[.int .i64 a, .int .i64 b, .int .i64 c], .pointer (some ⟨tb, 0, none⟩), .pointer (some ⟨ob, 0, none⟩)] u fun e u' => e = .returned (.tuple #[]) ∧ LkI w tb ob tg Bx o (L ++ [⟨a, b, c⟩]) u' := by
  obtain ⟨⟨v, h1⟩, h2, h3⟩ := h
  refine (put_any ⟨a, b, c⟩ u h1 ho h3.size hL).mono ?_
  rintro e u' ⟨rfl, v', hp, hk⟩
  obtain ⟨t1, t2, t3⟩ := op_ty
  have hlow := h1.low
  have hvb : ∀ k, k < w.heap.size → v.ownBlock ≠ some k := fun k hk e => by have := (World.ownsRow.lt h1.row k e).1; omega
  refine ⟨rfl, ⟨v', hp⟩, (hk.block Bx (RowIs.lt h2) (rows_ne h2 h1.tbl t1) (rows_ne h2 h1.obox t2) (own_ne h1.row h2 t3)).trans h2, ?_⟩
  have hs := h3.size
  exact h3.trans ⟨hk.os, hk.tape, hk.output, by have := hk.size; omega, fun k hk' => hk.block k (by omega) (by omega) (by omega) (hvb k hk')⟩
end
/-- The start. -/
theorem put_start {w w1 wt : World} {tg : Nat} (hb1 : Below w.heap.size w w1) (hbt : Below ((w1.alloc (.cells #[] 31)).alloc (.cells #[.slice (some ⟨w1.heap.size, 0, none⟩) 0 0] 23)).heap.size ((w1.alloc (.cells #[] 31)).alloc (.cells #[.slice (some ⟨w1.heap.size, 0, none⟩) 0 0] 23)) wt)
    (hT : TblAt wt tg []) (htg : ((w1.alloc (.cells #[] 31)).alloc (.cells #[.slice (some ⟨w1.heap.size, 0, none⟩) 0 0] 23)).heap.size ≤ tg) :
    (∃ v, PutAt w.heap.size wt.heap.size (w1.heap.size + 1) tg v [] (wt.alloc (.cells #[.pointer (some ⟨tg, 0, none⟩)] 82))) ∧ Below w.heap.size w (wt.alloc (.cells #[.pointer (some ⟨tg, 0, none⟩)] 82)) := by
  have hs1 := hb1.size
  have hst := hbt.size
  simp only [World.size_alloc] at htg hst
  have hba : Below w1.heap.size w1 ((w1.alloc (.cells #[] 31)).alloc (.cells #[.slice (some ⟨w1.heap.size, 0, none⟩) 0 0] 23)) := ((Below.refl _ _).alloc (Nat.le_refl _) _).alloc (by simp) _
  have hbp : Below wt.heap.size wt (wt.alloc (.cells #[.pointer (some ⟨tg, 0, none⟩)] 82)) := (Below.refl _ _).alloc (Nat.le_refl _) _
  have ho : RowIs ((w1.alloc (.cells #[] 31)).alloc (.cells #[.slice (some ⟨w1.heap.size, 0, none⟩) 0 0] 23)) (w1.heap.size + 1) 23 [.slice (some ⟨w1.heap.size, 0, none⟩) 0 0] := by
    have := heap_alloc_new (w1.alloc (.cells #[] 31)) (.cells #[.slice (some ⟨w1.heap.size, 0, none⟩) 0 0] 23)
    rw [World.size_alloc] at this
    exact this
  have hr : ((w1.alloc (.cells #[] 31)).alloc (.cells #[.slice (some ⟨w1.heap.size, 0, none⟩) 0 0] 23)).ownsRow w.heap.size 31 3 (.slice (some ⟨w1.heap.size, 0, none⟩) 0 0) 0 (opCells []) := (own_base (World.ownsRow_made w1 #[] 0 (Nat.le_refl _) (by decide) rfl) hs1).alloc _
  have hbn := hb1.trans ((hba.trans (hbt.mono (by simp; omega))).mono hs1)
  refine ⟨⟨.slice (some ⟨w1.heap.size, 0, none⟩) 0 0, heap_alloc_new wt _, RowIs.below (RowIs.below ho hbt (Nat.le_refl _)) hbp (Nat.le_refl _), hT.below hbp, own_below (own_below hr hbt) hbp, by omega, by omega, by omega⟩, hbn.alloc hbn.size _⟩
set_option maxHeartbeats 400000 in
theorem ClipSteps_any (A : Option Addr) (n c : Nat) (w : World) (hn : n ≤ 1099511627776) (hnc : n ≤ c) :
    Calls Try.prog 102 #[.slice A n c] w fun e w' => e = .returned (.slice A n n) ∧ w = w' := by
  go_enter Try.func102, Try.ntmps102
  go_wp2_with fail
  go_ret
  exact ⟨rfl, rfl⟩
set_option maxHeartbeats 400000 in
theorem runnableL_any (A : Option Addr) (n c : Nat) (s : List OpV) (w : World) (hx : ROps w A n s) (hnc : n ≤ c) :
    Calls Try.prog 100 #[.slice A n c] w fun e w' => e = .returned (.bool (validS s && decide (s.length ≤ 12))) ∧ Below w.heap.size w w' := by
  have hl := hx.1
  have HX := Lib.hid hx
  obtain ⟨rb, hrb⟩ : ∃ z, (validS s && decide (s.length ≤ 12)) = z := ⟨_, rfl⟩
  have hr : Hid (rb = (validS s && decide (s.length ≤ 12))) := hrb.symm
  rw [hrb]
  clear hrb
  clear hx
  go_enter Try.func100, Try.ntmps100
  go_wp2_with fail
  refine (ValidSchedule_any A n c s w HX.out hnc).mono ?_
  rintro e w1 ⟨rfl, hb1⟩
  obtain ⟨bv, hv⟩ : ∃ b, validS s = b := ⟨_, rfl⟩
  rw [hv] at hr ⊢
  clear hv
  cases bv
  · go_wp2_with fail
    go_ret
    exact ⟨ret_bool (by rw [hr.out]; rfl), hb1⟩
  · go_wp2_with fail
    go_ret
    exact ⟨ret_bool (by rw [hr.out, hl, Bool.true_and]; exact decide_eq_decide.2 (by omega)), hb1⟩
end Go.Proofs.Ytcakjhappchlmaa
