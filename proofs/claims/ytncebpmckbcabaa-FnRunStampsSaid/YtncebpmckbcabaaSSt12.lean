/-
  Texts that the proof rests on, joined: part 12.
-/
import Derived.RangeFuncNested
import Derived.RangeFuncBound
import Derived.RangeFuncCalls
import Derived.RangeFuncLeaves
import Derived.Shelf.Abstract
import Derived.Shelf.RegionOpen
import Derived.WalkKit
import Derived.Lib.SliceRun
import Derived.OwnWalkIn
import Derived.TacticsInMore
import Derived.LoopNIn
import Derived.LoopIn
import Derived.Stop.RegionWithIn
import Derived.Test.YtncebpmckbcabaaSSt5
import Derived.Test.YtncebpmckbcabaaSSt6
import Derived.Test.YtncebpmckbcabaaSSt8
import Derived.Test.YtncebpmckbcabaaSSt11
namespace Go.Proofs.Ytncebpmckbcabaa
open Go.RowKit Go.BigFrame
set_option linter.unusedVariables false

theorem intsInfo : (Try.prog.info? 26).map (fun i => (i.zero, i.size, i.bytes)) = some (some (.slice none 0 0), 1, 24) := by kernel_rfl


section
variable {w : World} {ops : Array Oper} {o : Oper} {a : Act} {K : Act → World → Prop} {Q : Exit → Act → World → Prop} {E : Prop}
end

theorem rowsI_at3 {R : List Nat} (h : Rows4 R) {w : World} {A : Option Addr} (hr : RInts w A 4 (rowsI R)) {t : Nat} (ht : t < 4) : ∃ b off, A = some ⟨b, off, none⟩ ∧ b < w.heap.size ∧ w.cell? ⟨b, off + t, none⟩ = some (.int .i64 ((R.getD t 0 : Nat) : Int)) ∧ R.getD t 0 < 16 := by
  obtain ⟨b, off, x, hA, hlt, hx, hc⟩ := hr.at_ ht
  obtain ⟨h1, h2⟩ := rowsI_at h (T := t) (by omega)
  refine ⟨b, off, hA, hlt, ?_, h2⟩
  rw [hc]
  simp only [intCells, List.getElem?_map, hx, Option.map_some] at h1
  exact h1
theorem FreshInts.lat {w0 w w' : World} {A : Option Addr} {n : Nat} {xs : List Int} (h : FreshInts w0 w A n xs) (hb : Below w.heap.size w w') : FreshInts w0 w' A n xs :=
  ⟨h.1.below hb (Nat.le_refl _), fun ad had => by obtain ⟨b, cur, e, h1, h2, h3⟩ := h.2 ad had; exact ⟨b, cur, e, h1, (hb.block b (lt_of_block h2)).trans h2, h3⟩⟩
theorem FreshInts.since {w0 w1 w : World} {A : Option Addr} {n : Nat} {xs : List Int} (h : FreshInts w1 w A n xs) (hs : w0.heap.size ≤ w1.heap.size) : FreshInts w0 w A n xs :=
  ⟨h.1, fun ad had => by obtain ⟨b, cur, e, h1, h2, h3⟩ := h.2 ad had; exact ⟨b, cur, e, by omega, h2, h3⟩⟩
/-- A row of integers is as it was when another block has turned. -/
theorem FreshInts.grownT {w0 w w' : World} {A : Option Addr} {n : Nat} {xs : List Int} {row : Option Nat} (h : FreshInts w0 w A n xs) (hg : w.grownBy w' row) (hne : ∀ g, row = some g → ∀ cur, w.heap[g]? ≠ some (.cells cur 3 (0, 0))) : FreshInts w0 w' A n xs := by
  have hblk : ∀ ad, A = some ad → ∃ b cur, ad = ⟨b, 0, none⟩ ∧ w0.heap.size ≤ b ∧ w.heap[b]? = some (.cells cur 3 (0, 0)) ∧ n ≤ cur.size ∧ w'.heap[b]? = w.heap[b]? := fun ad had => by
    obtain ⟨b, cur, e, h1, h2, h3⟩ := h.2 ad had
    exact ⟨b, cur, e, h1, h2, h3, hg.block b (lt_of_block h2) (fun e => hne b e.symm cur h2)⟩
  refine ⟨⟨h.1.1, h.1.2.1, fun hn => ?_⟩, fun ad had => ?_⟩
  · obtain ⟨b, off, hA, hlt, hc⟩ := h.1.2.2 hn
    obtain ⟨b', cur, e, _, _, _, hk⟩ := hblk _ hA
    injection e with e1 e2 _
    subst e1
    have hs := World.grownBy.size hg
    exact ⟨b, off, hA, by omega, fun i x hx => (World.cell?_of_block (w := w) (a := ⟨b, off + i, none⟩) hk).trans (hc i x hx)⟩
  · obtain ⟨b, cur, e, h1, h2, h3, hk⟩ := hblk ad had
    exact ⟨b, cur, e, h1, hk.trans h2, h3⟩

/-- These slice values are these lists, each in memory made since w0. -/
def RowsR (w0 w : World) (rv : List Value) (xss : List (List Int)) : Prop :=
  rv.length = xss.length ∧ ∀ (i : Nat) (xs : List Int), xss[i]? = some xs → ∃ B c, rv[i]? = some (.slice B xs.length c) ∧ xs.length ≤ c ∧ FreshInts w0 w B xs.length xs
theorem RowsR.nil {w0 w : World} : RowsR w0 w [] [] := ⟨rfl, fun i xs h => by simp at h⟩
theorem RowsR.below {w0 w w' : World} {rv : List Value} {xss : List (List Int)} (h : RowsR w0 w rv xss) (hb : Below w.heap.size w w') : RowsR w0 w' rv xss :=
  ⟨h.1, fun i xs hi => by obtain ⟨C, c, e, hmc, hr⟩ := h.2 i xs hi; exact ⟨C, c, e, hmc, hr.lat hb⟩⟩
theorem RowsR.since {w0 w1 w : World} {rv : List Value} {xss : List (List Int)} (h : RowsR w1 w rv xss) (hs : w0.heap.size ≤ w1.heap.size) : RowsR w0 w rv xss :=
  ⟨h.1, fun i xs hi => by obtain ⟨C, c, e, hmc, hr⟩ := h.2 i xs hi; exact ⟨C, c, e, hmc, hr.since hs⟩⟩
theorem RowsR.grown {w0 w w' : World} {rv : List Value} {xss : List (List Int)} {row : Option Nat} (h : RowsR w0 w rv xss) (hg : w.grownBy w' row) (hne : ∀ g, row = some g → ∀ cur, w.heap[g]? ≠ some (.cells cur 3 (0, 0))) : RowsR w0 w' rv xss :=
  ⟨h.1, fun i xs hi => by obtain ⟨C, c, e, hmc, hr⟩ := h.2 i xs hi; exact ⟨C, c, e, hmc, hr.grownT hg hne⟩⟩
theorem RowsR.append {w0 w : World} {rv rs : List Value} {xss yss : List (List Int)} (h : RowsR w0 w rv xss) (k : RowsR w0 w rs yss) : RowsR w0 w (rv ++ rs) (xss ++ yss) := by
  refine ⟨by simp [h.1, k.1], fun i xs hi => ?_⟩
  rcases Nat.lt_or_ge i xss.length with hlt | hge
  · rw [List.getElem?_append_left hlt] at hi
    obtain ⟨C, c, e, r⟩ := h.2 i xs hi
    exact ⟨C, c, by rw [List.getElem?_append_left (by rw [h.1]; exact hlt)]; exact e, r⟩
  · rw [List.getElem?_append_right hge] at hi
    obtain ⟨C, c, e, r⟩ := k.2 _ xs hi
    exact ⟨C, c, by rw [List.getElem?_append_right (by rw [h.1]; exact hge), h.1]; exact e, r⟩
theorem RowsR.one {w0 w : World} {rv : List Value} {xss : List (List Int)} (h : RowsR w0 w rv xss) : ∀ u ∈ rv, u.oneCell' = true := by
  intro u hu
  obtain ⟨i, hi⟩ := List.mem_iff_getElem?.1 hu
  have hl := (List.getElem?_eq_some_iff.1 hi).1
  obtain ⟨C, c, e, _⟩ := h.2 i _ (List.getElem?_eq_getElem (by rw [← h.1]; exact hl))
  rw [e] at hi
  injection hi with hi
  rw [← hi]; rfl
theorem RowsR.lit {w0 w : World} {B : Option Addr} {n c : Nat} {xs : List Int} (hn : xs.length = n) (hc : n ≤ c) (h : FreshInts w0 w B n xs) : RowsR w0 w [.slice B n c] [xs] := by
  subst hn
  refine ⟨rfl, fun i ys hi => ?_⟩
  match i, hi with
  | 0, hi =>
    simp only [List.getElem?_cons_zero, Option.some.injEq] at hi
    subst hi
    exact ⟨B, c, rfl, hc, h⟩
  | i + 1, hi => simp at hi
/-- The block of an owned row of slices is none of integers. -/
theorem own_noInt {w : World} {base n : Nat} {v : Value} {rv : List Value} (h : w.ownsRow base 26 1 v n rv) : ∀ g, v.ownBlock = some g → ∀ cur, w.heap[g]? ≠ some (.cells cur 3 (0, 0)) := by
  intro g hg cur hc
  rcases h.2 with ⟨h1, h2⟩ | ⟨g', cap, cur', h1, h2, h3, h4, h5, h6, h7⟩
  · rw [h1] at hg; cases hg
  · rw [h1] at hg
    have : g' = g := by simpa [Value.ownBlock] using hg
    subst this
    rw [h3] at hc
    injection hc with hc
    injection hc with _ ht _
    exact absurd ht (by decide)

/-- The row of rows, in a block made since w0. -/
def OuterR (w0 w : World) (A : Option Addr) (n : Nat) (rv : List Value) : Prop :=
  Src w 1 A n rv ∧ ∀ ad, A = some ad → ∃ b cur, ad = ⟨b, 0, none⟩ ∧ w0.heap.size ≤ b ∧ w.heap[b]? = some (.cells cur 26 (0, 0))
theorem OuterR.of_own {w0 w : World} {base n c : Nat} {A : Option Addr} {rv : List Value} (h : w.ownsRow base 26 1 (.slice A n c) n rv) (hb : w0.heap.size ≤ base) (h1 : ∀ u ∈ rv, u.oneCell' = true) : OuterR w0 w A n rv := by
  have hl : rv.length = n := by have := h.1; omega
  rcases h.2 with ⟨e1, e2⟩ | ⟨g, cap, cur, e1, e2, e3, e4, e5, e6, e7⟩
  · injection e1 with ha hb' hc
    subst ha
    subst e2
    exact ⟨⟨by omega, h1, fun h0 => absurd h0 (by omega)⟩, fun ad had => by cases had⟩
  · injection e1 with ha _ hc
    subst ha
    refine ⟨⟨by omega, h1, fun h0 => ⟨_, rfl, fun j u hu => h.cells (g := g) (by simp [Value.ownBlock]) j u hu⟩⟩, fun ad had => ?_⟩
    injection had with had
    subst had
    exact ⟨g, cur, rfl, by omega, e3⟩

/-- The call hands back these lists in new memory and changes nothing. -/
def RetLists (w0 : World) (xss : List (List Int)) (e : Ending) (w : World) : Prop :=
  ∃ A c rv, e = .returned (.slice A xss.length c) ∧ xss.length ≤ c ∧ OuterR w0 w A xss.length rv ∧ RowsR w0 w rv xss ∧ Below w0.heap.size w0 w
theorem RetLists.nil {w0 w : World} (h : Below w0.heap.size w0 w) : RetLists w0 [] (.returned (.slice none 0 0)) w :=
  ⟨none, 0, [], rfl, Nat.le_refl _, ⟨⟨rfl, by simp, fun h => absurd h (by simp)⟩, fun ad h => by cases h⟩, RowsR.nil, h⟩
theorem RetLists.of_own {w0 w : World} {xss : List (List Int)} {A : Option Addr} {n c base : Nat} {rv : List Value} (hn : xss.length = n) (hc : n ≤ c) (h : w.ownsRow base 26 1 (.slice A n c) n rv) (hbase : w0.heap.size ≤ base) (hr : RowsR w0 w rv xss) (hb : Below w0.heap.size w0 w) : RetLists w0 xss (.returned (.slice A n c)) w := by
  subst hn; exact ⟨A, c, rv, rfl, hc, OuterR.of_own h hbase hr.one, hr, hb⟩
theorem RetLists.lit1 {w0 w1 : World} {xs : List Int} {A : Option Addr} {n c : Nat} (hn : xs.length = n) (hc : n ≤ c) (hf : FreshInts w0 w1 A n xs) (hb : Below w0.heap.size w0 w1) :
    RetLists w0 [xs] (.returned (.slice (some ⟨w1.heap.size, 0, none⟩) 1 1)) (w1.alloc (.cells #[.slice A n c] 26)) := by
  have hs := hb.size
  refine ⟨_, _, [.slice A n c], rfl, Nat.le_refl _, ⟨⟨rfl, by simp [Value.oneCell'], fun _ => ⟨_, rfl, fun j u hu => ?_⟩⟩, fun ad had => ?_⟩, RowsR.lit hn hc (hf.lat ((Below.refl _ _).alloc (Nat.le_refl _) _)), hb.alloc hs _⟩
  · match j, hu with
    | 0, hu =>
      simp only [List.getElem?_cons_zero, Option.some.injEq] at hu
      subst hu
      rw [addr_add]
      exact box_at _ _ _ _ _ (by simp)
    | j + 1, hu => simp at hu
  · injection had with had
    subst had
    exact ⟨_, _, rfl, hs, heap_alloc_new w1 _⟩
end Go.Proofs.Ytncebpmckbcabaa
namespace Go.Proofs.Ytncebpmckbcabaa
open Go.RowKit Go.BigFrame
set_option linter.unusedVariables false


set_option maxHeartbeats 400000 in
theorem IndexS_any (A : Option Addr) (n c : Nat) (xs : List Int) (x : Int) (w : World) (hx : RInts w A n xs) :
    Calls Try.prog 116 #[.slice A n c, .int .i64 x] w fun e w' => e = .returned (.int .i64 (idxZ xs x)) ∧ Below w.heap.size w w' := by
  have hn := hx.2.1
  have hl := hx.1
  have HX := Lib.hid hx
  clear hx
  go_enter Try.func116, Try.ntmps116
  go_wp2_with fail
  go_loopw [8] (fun i wr => ∃ k : Nat, k ≤ n ∧ i = .int .i64 k ∧ Below w.heap.size w wr ∧ (∀ j, j < k → ∀ y, xs[j]? = some y → (y == x) = false)) (fun i _ => n - (intOf i).toNat)
  case atStart => exact ⟨0, Nat.zero_le _, rfl, Below.refl _ _, by omega⟩
  case round =>
    obtain ⟨k, hk, rfl, hb, hno⟩ := hrel
    by_cases hlt : k < n
    · obtain ⟨b, off, y, rfl, hbl, ho, c0⟩ := (HX.out.below hb (Nat.le_refl _)).at_ hlt
      have HN : Hid ((y == x) = false → ∀ j, j < k + 1 → ∀ y, xs[j]? = some y → (y == x) = false) := fun h => no_snoc ho hno h
      have HT : Hid ((y == x) = true → idxZ xs x = (k : Int)) := fun h => idxZ_hit ho h hno
      have L0 := Later.cell c0
      clear hno ho
      by_cases h1 : y = x
      · have hs := Lib.hid (HT.out (by simpa using h1))
        have h1' : (x == y) = true := by simpa using h1.symm
        go_wp2_with fail
        try (refine region_later (by kernel_rfl) (by kernel_rfl) ?_; repeat (go_big_quiet_step (fail)); refine wpQuiet_nil ?_; rintro _ ⟨u, rfl⟩; go_wp2_with fail)
        go_ret
        exact ⟨ret_int hs.out.symm, by first | exact hb | exact hb.trans (u.2.mono hb.size)⟩
      · have hs := Lib.hid (HN.out (by simpa using h1))
        have h1' : (x == y) = false := by simpa using fun h => h1 h.symm
        go_wp2_with fail
        try (refine region_later (by kernel_rfl) (by kernel_rfl) ?_; repeat (go_big_quiet_step (fail)); refine wpQuiet_nil ?_; rintro _ ⟨u, rfl⟩; go_wp2_with fail)
        go_roundw
        case rel => exact ⟨k + 1, by omega, by go_num, by first | exact hb | exact hb.trans (u.2.mono hb.size), hs.out⟩
        case measure => simp [intOf]; omega
    · have HE := Lib.hid (idxZ_none (xs := xs) (x := x) (fun j hj => hno j (by omega)))
      clear hno
      go_wp2_with fail
      go_ret
      exact ⟨ret_int HE.out.symm, hb⟩


set_option maxHeartbeats 400000 in
theorem ContainsS_any (A : Option Addr) (n c : Nat) (xs : List Int) (x : Int) (w : World) (hx : RInts w A n xs) :
    Calls Try.prog 81 #[.slice A n c, .int .i64 x] w fun e w' => e = .returned (.bool (xs.any fun y => y == x)) ∧ Below w.heap.size w w' := by
  have HI := Lib.hid (IndexS_any A n c xs x w hx)
  have hz := idxZ_any xs x
  clear hx
  go_enter Try.func81, Try.ntmps81
  go_wp2_with fail
  refine HI.out.mono ?_
  rintro e w1 ⟨rfl, hb⟩
  generalize idxZ xs x = z at *
  cases ha : (xs.any fun y => y == x)
  · rw [ha] at hz
    have hz2 : z = -1 := by simpa using hz
    subst hz2
    have HA := Lib.hid ha
    clear ha hz
    go_wp2_with fail
    go_ret
    exact ⟨ret_bool HA.out.symm, hb⟩
  · rw [ha] at hz
    have hz2 : 0 ≤ z := by simpa using hz
    have HA := Lib.hid ha
    clear ha hz
    go_wp2_with fail
    go_ret
    exact ⟨ret_bool HA.out.symm, hb⟩

end Go.Proofs.Ytncebpmckbcabaa
namespace Go.Proofs.Ytncebpmckbcabaa
open Go.RowKit Go.BigFrame Go.Shelf
set_option linter.unusedVariables false

attribute [local go_sem] Oper.semAt_some

/-- A step of the iterator, as the loop's body sees it: new blocks, and its own four. -/
structure ItStep (a : Nat) (V W : World) : Prop where
  os : W.os = V.os
  tape : W.tape = V.tape
  output : W.output = V.output
  size : V.heap.size ≤ W.heap.size
  block : ∀ k, k < V.heap.size → ¬ (a ≤ k ∧ k < a + 4) → W.heap[k]? = V.heap[k]?
theorem ItStep.refl (a : Nat) (V : World) : ItStep a V V := ⟨rfl, rfl, rfl, Nat.le_refl _, fun _ _ _ => rfl⟩
theorem ItStep.trans {a : Nat} {U V W : World} (h : ItStep a U V) (k : ItStep a V W) : ItStep a U W :=
  ⟨k.os.trans h.os, k.tape.trans h.tape, k.output.trans h.output, Nat.le_trans h.size k.size, fun i hi hn => (k.block i (Nat.lt_of_lt_of_le hi h.size) hn).trans (h.block i hi hn)⟩
theorem ItStep.of_below {a : Nat} {V W : World} (h : Below V.heap.size V W) : ItStep a V W := ⟨h.os, h.tape, h.output, h.size, fun k hk _ => h.block k hk⟩
theorem ItStep.of_grown {a : Nat} {V W : World} {row : Option Nat} (h : V.grownBy W row) (hr : ∀ g, row = some g → a ≤ g ∧ g < a + 4) : ItStep a V W :=
  ⟨h.os, h.tape, h.output, h.size, fun k hk hn => h.block k hk (fun e => hn (hr k e.symm))⟩
theorem ItStep.set {a : Nat} (V : World) {p : Addr} (u : Value) (hp : a ≤ p.block ∧ p.block < a + 4) : ItStep a V (V.setCell p u) :=
  ⟨rfl, rfl, rfl, by simp [World.setCell], fun k hk hn => Below.heap_setCell V p u k (by rintro rfl; exact hn hp)⟩
/-- What a round keeps for the iterator. -/
structure RdKeep (a bx n0 : Nat) (V W : World) : Prop where
  size : V.heap.size ≤ W.heap.size
  block : ∀ k, k < V.heap.size → (k < n0 ∨ k = bx ∨ (a ≤ k ∧ k < a + 4)) → W.heap[k]? = V.heap[k]?
theorem RInts.kept {V W : World} {A : Option Addr} {n : Nat} {xs : List Int} (h : RInts V A n xs) (hs : V.heap.size ≤ W.heap.size) (hA : ∀ ad, A = some ad → W.heap[ad.block]? = V.heap[ad.block]?) : RInts W A n xs := by
  refine ⟨h.1, h.2.1, fun hn => ?_⟩
  obtain ⟨b, off, hA', hl, hc⟩ := h.2.2 hn
  have hk := hA _ hA'
  exact ⟨b, off, hA', by omega, fun i x hx => (World.cell?_of_block (w := V) (a := ⟨b, off + i, none⟩) hk).trans (hc i x hx)⟩

/-- The iterator's blocks, and the list that it goes over. -/
structure Iter (a bx l n c : Nat) (A : Option Addr) (list pre : List Int) (V : World) : Prop where
  yb : V.heap[a]? = some (.cells #[.func (.yield l) #[] #[]] 43 (0, 0))
  row : V.ownsRow a 3 1 (.slice (some ⟨a + 1, 0, none⟩) pre.length n) pre.length (intCells pre)
  ob : V.heap[a + 2]? = some (.cells #[.slice (some ⟨a + 1, 0, none⟩) pre.length n] 26 (0, 0))
  fb : V.heap[a + 3]? = some (.cells #[.func (.func 175) #[] #[.pointer (some ⟨a + 2, 0, none⟩), .pointer (some ⟨bx, 0, none⟩), .pointer (some ⟨a, 0, none⟩), .pointer (some ⟨a + 3, 0, none⟩)]] 91 (0, 0))
  lb : V.cell? ⟨bx, 0, none⟩ = some (.slice A n c)
  list : RInts V A n list
theorem Iter.below {a bx l n c : Nat} {A : Option Addr} {list pre : List Int} {V W : World} (h : Iter a bx l n c A list pre V) (hb : Below V.heap.size V W) : Iter a bx l n c A list pre W :=
  ⟨(hb.block _ (lt_of_block h.yb)).trans h.yb, own_below h.row hb, (hb.block _ (lt_of_block h.ob)).trans h.ob, (hb.block _ (lt_of_block h.fb)).trans h.fb,
   (hb.cell (p := ⟨bx, 0, none⟩) (block_lt_of_cell h.lb)).trans h.lb, h.list.below hb (Nat.le_refl _)⟩
theorem ownsRow_block {V W : World} {base n m : Nat} {T : TypeId} {sz g c : Nat} {xs : List Value} (h : V.ownsRow base T sz (.slice (some ⟨g, 0, none⟩) n c) m xs) (hs : V.heap.size ≤ W.heap.size) (hk : W.heap[g]? = V.heap[g]?) : W.ownsRow base T sz (.slice (some ⟨g, 0, none⟩) n c) m xs := by
  refine ⟨h.1, ?_⟩
  rcases h.2 with ⟨e, _⟩ | ⟨g', cap, cur, e, h2, h3, h4⟩
  · cases e
  · have eg : g' = g := by
      injection e with e1
      injection e1 with e1
      injection e1 with e1
      exact e1.symm
    subst eg
    exact .inr ⟨g', cap, cur, e, h2, hk.trans h3, h4⟩
theorem Iter.kept {a bx l n c n0 : Nat} {A : Option Addr} {list pre : List Int} {V W : World} (h : Iter a bx l n c A list pre V) (hA : ∀ ad, A = some ad → ad.block < n0) (hk : RdKeep a bx n0 V W) : Iter a bx l n c A list pre W := by
  have hob := hk.block (a + 2) (lt_of_block h.ob) (.inr (.inr (by omega)))
  have hyb := hk.block a (lt_of_block h.yb) (.inr (.inr (by omega)))
  have hfb := hk.block (a + 3) (lt_of_block h.fb) (.inr (.inr (by omega)))
  have hrb := hk.block (a + 1) (by have := lt_of_block h.ob; omega) (.inr (.inr (by omega)))
  have hbx : bx < V.heap.size := block_lt_of_cell h.lb
  have hlb := hk.block bx hbx (.inr (.inl rfl))
  refine ⟨hyb.trans h.yb, ownsRow_block h.row hk.size hrb, hob.trans h.ob, hfb.trans h.fb, (World.cell?_of_block (w := V) (a := ⟨bx, 0, none⟩) hlb).trans h.lb, ?_⟩
  refine ⟨h.list.1, h.list.2.1, fun h0 => ?_⟩
  obtain ⟨b, off, hA', hl, hc⟩ := h.list.2.2 h0
  have hkb := hk.block b hl (.inl (hA _ hA'))
  have hs := hk.size
  exact ⟨b, off, hA', by omega, fun i x hx => (World.cell?_of_block (w := V) (a := ⟨b, off + i, none⟩) hkb).trans (hc i x hx)⟩
theorem Iter.cells {a bx l n c : Nat} {A : Option Addr} {list pre : List Int} {V : World} (h : Iter a bx l n c A list pre V) :
    V.cell? ⟨a, 0, none⟩ = some (.func (.yield l) #[] #[]) ∧ V.cell? ⟨a + 2, 0, none⟩ = some (.slice (some ⟨a + 1, 0, none⟩) pre.length n) ∧ V.frozen? ⟨a + 2, 0, none⟩ = false ∧
    V.cell? ⟨a + 3, 0, none⟩ = some (.func (.func 175) #[] #[.pointer (some ⟨a + 2, 0, none⟩), .pointer (some ⟨bx, 0, none⟩), .pointer (some ⟨a, 0, none⟩), .pointer (some ⟨a + 3, 0, none⟩)]) := by
  refine ⟨?_, ?_, ?_, ?_⟩
  · rw [cell_of_row _ _ _ _ _ _ h.yb]; rfl
  · rw [cell_of_row _ _ _ _ _ _ h.ob]; rfl
  · simp [World.frozen?, h.ob]
  · rw [cell_of_row _ _ _ _ _ _ h.fb]; rfl
/-- The order with another length, as its box tells. -/
theorem Iter.put {a bx l n c : Nat} {A : Option Addr} {list pre pre' : List Int} {V W : World} (h : Iter a bx l n c A list pre V) (hg : V.grownBy W (some (a + 1))) (hbx : bx < a) (hA : ∀ ad, A = some ad → ad.block < a)
    (hrow : W.ownsRow a 3 1 (.slice (some ⟨a + 1, 0, none⟩) pre'.length n) pre'.length (intCells pre')) :
    Iter a bx l n c A list pre' (W.setCell ⟨a + 2, 0, none⟩ (.slice (some ⟨a + 1, 0, none⟩) pre'.length n)) := by
  have blk : ∀ k, k < V.heap.size → k ≠ a + 1 → k ≠ a + 2 → (W.setCell ⟨a + 2, 0, none⟩ (.slice (some ⟨a + 1, 0, none⟩) pre'.length n)).heap[k]? = V.heap[k]? := fun k hk h1 h2 =>
    (Below.heap_setCell W _ _ k (by simpa using h2)).trans (hg.block k hk (fun e => h1 (by injection e)))
  have hs := World.grownBy.size hg
  have hob : W.heap[a + 2]? = some (.cells #[.slice (some ⟨a + 1, 0, none⟩) pre.length n] 26 (0, 0)) := (hg.block (a + 2) (lt_of_block h.ob) (by simp)).trans h.ob
  refine ⟨(blk a (lt_of_block h.yb) (by omega) (by omega)).trans h.yb, ?_, ?_, (blk (a + 3) (lt_of_block h.fb) (by omega) (by omega)).trans h.fb, ?_, ?_⟩
  · refine ownsRow_block hrow (by simp [World.setCell]) (Below.heap_setCell W _ _ (a + 1) (by simp))
  · simp [World.setCell, Array.getElem?_modify, hob]
  · exact (World.cell?_of_block (w := V) (a := ⟨bx, 0, none⟩) (blk bx (block_lt_of_cell h.lb) (by omega) (by omega))).trans h.lb
  · refine ⟨h.list.1, h.list.2.1, fun h0 => ?_⟩
    obtain ⟨b, off, hA', hl, hc⟩ := h.list.2.2 h0
    have hba := hA _ hA'
    simp only at hba
    refine ⟨b, off, hA', by simp [World.setCell]; omega, fun i x hx => (World.cell?_of_block (w := V) (a := ⟨b, off + i, none⟩) (blk b hl (by omega) (by omega))).trans (hc i x hx)⟩
theorem own_less {w : World} {base g k c : Nat} {xs : List Int} {t : Int} (h : w.ownsRow base 3 1 (.slice (some ⟨g, 0, none⟩) (k + 1) c) (k + 1) (intCells (xs ++ [t]))) (hk : xs.length = k) : w.ownsRow base 3 1 (.slice (some ⟨g, 0, none⟩) k c) k (intCells xs) := by
  refine ⟨by simp [intCells, hk], ?_⟩
  rcases h.2 with ⟨e, _⟩ | ⟨g', cap, cur, e, h2, h3, h4, h5, h6, h7⟩
  · cases e
  · injection e with e1 e2 e3
    injection e1 with e1
    injection e1 with e1
    subst e1; subst e3
    refine .inr ⟨_, _, cur, rfl, h2, h3, by omega, h5, h6, ?_⟩
    have : (cur.toList.take ((k + 1) * 1)).take (k * 1) = cur.toList.take (k * 1) := by rw [List.take_take]; congr 1; omega
    rw [← this, h7]
    simp [intCells, hk]
end Go.Proofs.Ytncebpmckbcabaa
namespace Go.Proofs.Ytncebpmckbcabaa
open Go.RowKit Go.BigFrame Go.Shelf
set_option linter.unusedVariables false

attribute [local go_sem] Oper.semAt_some

/-- What the loop's body asks of the iterator, and what it does in a round. -/
structure PermCtx (a bx n0 l n : Nat) (list : List Int) (J : List (List Int) → World → Prop) : Prop where
  abide : ∀ s V W, J s V → ItStep a V W → J s W
  round : ∀ acc x V W1 A' c' m, J acc V → ItStep a V W1 → a + 4 ≤ V.heap.size → FreshInts V W1 A' n x → n ≤ c' → (acc ++ [x]) <+: permF list n [] →
    YieldAt Fence.wide m Try.prog l #[.slice A' n c'] W1 fun e W' => e = .returned (.bool true) ∧ J (acc ++ [x]) W' ∧ RdKeep a bx n0 W1 W'

/-- What the orders that begin with 'pre' and then go on with t are. -/
def permN (list : List Int) (m : Nat) (pre : List Int) (t : Int) : List (List Int) := if pre.any (fun y => y == t) then [] else permF list m (pre ++ [t])
theorem permF_succ {list : List Int} {m : Nat} {pre : List Int} : permF list (m + 1) pre = list.flatMap (permN list m pre) := rfl
theorem Iter.sz {a bx l n c : Nat} {A : Option Addr} {list pre : List Int} {V : World} (h : Iter a bx l n c A list pre V) : a + 4 ≤ V.heap.size := by have := lt_of_block h.fb; omega

set_option maxRecDepth 100000 in
set_option maxHeartbeats 1000000 in
theorem from_zero (a bx n0 l n c : Nat) (A : Option Addr) (list : List Int) (J : List (List Int) → World → Prop) (hP : PermCtx a bx n0 l n list J) (hA : ∀ ad, A = some ad → ad.block < n0)
    (pre : List Int) (acc : List (List Int)) (V : World) (hI : Iter a bx l n c A list pre V) (hJ : J acc V) (hlen : pre.length = n) (hpre : (acc ++ [pre]) <+: permF list n []) :
      Calls Try.prog 175 #[.pointer (some ⟨a + 2, 0, none⟩), .pointer (some ⟨bx, 0, none⟩), .pointer (some ⟨a, 0, none⟩), .pointer (some ⟨a + 3, 0, none⟩)] V fun e V' =>
        e = .returned (.bool true) ∧ Iter a bx l n c A list pre V' ∧ J (acc ++ [pre]) V' := by
  subst hlen
  obtain ⟨c0, c2, f2, c3⟩ := hI.cells
  have clb := hI.lb
  have hln := hI.list.2.1
  have hcl : Calls Try.prog 176 #[.slice (some ⟨a + 1, 0, none⟩) pre.length pre.length] V.drew (RetInts V.drew pre) := CloneI_any (a + 1) 0 pre.length pre.length pre V.drew (RInts.of_own hI.row hln)
  have HC := Lib.hid hcl
  have HR : Hid (∀ (A1 : Option Addr) (c1 m : Nat) (w1 : World), FreshInts V.drew w1 A1 pre.length pre → pre.length ≤ c1 → Below V.drew.heap.size V.drew w1 →
      YieldAt Fence.wide m Try.prog l #[.slice A1 pre.length c1] w1 fun e W' => e = .returned (.bool true) ∧ J (acc ++ [pre]) W' ∧ Iter a bx l pre.length c A list pre W') := by
    intro A1 c1 m w1 hf hc1 hb
    refine (hP.round acc pre V w1 A1 c1 m hJ ⟨hb.os, hb.tape, hb.output, hb.size, fun k hk _ => hb.block k hk⟩ hI.sz hf hc1 hpre).mono ?_
    rintro e W' ⟨he, hj, hk⟩
    exact ⟨he, hj, (hI.below (W := w1) ⟨hb.os, hb.tape, hb.output, hb.size, hb.block⟩).kept hA hk⟩
  clear hI hJ hpre hP hcl
  refine (callsIn_wide (n := 5)).1 ?_
  refine callsIn_of_wp Try.func175 rfl trivial ?_ rfl
  simp only [Try.ntmps175, List.size_toArray, List.length_cons, List.length_nil, Nat.reduceAdd, Nat.reduceSub, Array.replicate_succ, Array.replicate_zero, List.push_toArray, List.append_toArray, List.nil_append, List.cons_append]
  gi_wp2
  gi_region_with (first
    | (refine ⟨trivial, ?_⟩; gi_at_call 176; refine (callsIn_wide.2 HC.out).mono ?_; rintro e w1 ⟨A1, c1, rfl, hc1, hf, hb⟩; have c0' := (hb.cell (p := ⟨a, 0, none⟩) (block_lt_of_cell c0)).trans c0; obtain ⟨fn, tmps, assign, body, hy, hR⟩ := HR.out A1 c1 4 w1 hf hc1 hb)
    | (refine hR.mono ?_; rintro e w2 ⟨rfl, hJ2, hI2⟩))
  all_goals
    gi_wp2
    go_ret
    exact ⟨rfl, hI2, hJ2⟩
end Go.Proofs.Ytncebpmckbcabaa
