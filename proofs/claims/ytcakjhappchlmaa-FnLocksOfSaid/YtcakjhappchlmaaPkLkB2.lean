/-
  Texts that the proofs rest on, joined: PkLkB2.
-/
import Derived.Test.YtcakjhappchlmaaPkLkA
import Derived.Lib.SliceRun
import Derived.Maps.AppendAt
import Derived.Test.YtcakjhappchlmaaPkLkB
import Derived.RangeFuncNested
import Derived.RangeFuncBound
import Derived.RangeFuncCalls
import Derived.RangeFuncLeaves
import Derived.Shelf.Abstract
import Derived.Shelf.RegionOpen
import Derived.WalkKit
import Derived.OwnWalkIn
import Derived.TacticsInMore
import Derived.LoopNIn
import Derived.LoopIn
import Derived.Stop.RegionWithIn
import Derived.Laws.EntriesVeiled
import Derived.Deep.RegionLaw
import Derived.Defers
import Derived.IntWalk
import Derived.Carry
import Derived.StillTailTactics
import Derived.Scope
import Derived.WalkMore
import Derived.Deep.QuietTactic
namespace Go.Proofs.Ytcakjhappchlmaa
open Go.RowKit Go.BigFrame
set_option linter.unusedVariables false

theorem RInts.drop1 {w : World} {A : Option Addr} {n : Nat} {xs : List Int} (h : RInts w A n xs) {k c : Nat} (hk : k ≤ n) (hc : n ≤ c) :
    RInts w (if c = k then A else A.map (·.add k)) (n - k) (xs.drop k) := by
  obtain ⟨h1, h2, h3⟩ := h
  refine ⟨by simp; omega, by omega, fun hn => ?_⟩
  obtain ⟨b, off, rfl, hlt, hcell⟩ := h3 (by omega)
  rw [if_neg (by omega)]
  refine ⟨b, off + k, by simp [addr_add], hlt, fun i o ho => ?_⟩
  rw [List.getElem?_drop] at ho
  have := hcell _ o ho
  have e1 : off + (k + i) = off + k + i := by omega
  rw [e1] at this
  exact this

set_option maxRecDepth 100000 in
set_option maxHeartbeats 1000000 in
theorem CloneI_any (b off n c : Nat) (xs : List Int) (w : World) (hx : RInts w (some ⟨b, off, none⟩) n xs) :
    Calls Try.prog 178 #[.slice (some ⟨b, off, none⟩) n c] w (RetInts w xs) := by
  have hl := hx.1
  have hn := hx.2.1
  have HX1 : Hid (RInts (w.alloc (.cells #[] 3)) (some ⟨b, off, none⟩) n xs) := hx.below ((Below.refl _ w).alloc (Nat.le_refl _) _) (Nat.le_refl _)
  have HST : Hid ((w.alloc (.cells #[] 3)).ownsRow w.heap.size 3 1 (.slice (some ⟨w.heap.size, 0, none⟩) 0 0) 0 (intCells [])) :=
    World.ownsRow_made w #[] 0 (Nat.le_refl _) (by decide) rfl
  have hz : ∀ w1 : World, (binOp .eql 34 (.slice (some ⟨b, off, none⟩) n c) (.slice none 0 0)).run Try.prog w1 = .ok (.bool false) w1 := fun w1 => Go.Lib.run_eql_slice_nil w1 34 3 (some ⟨b, off, none⟩) n c 0 0 Try.underlying34
  clear hx
  go_enter Try.func178, Try.ntmps178
  go_wp2_with (at_builtin; refine app_ints (.tmp 5) (.tmp 6) HST.out (by simp) HX1.out (by omega) rfl rfl rfl rfl ?_; intro v1 w1 hown1 hg1 hat1)
  have hb1 : Below w.heap.size w w1 := Below.own ((Below.refl _ w).alloc (Nat.le_refl _) _) HST.out (Nat.le_refl _) hg1
  rw [List.nil_append, Nat.zero_add] at hown1
  obtain ⟨A1, c1, rfl, hc1⟩ := own_form2 hown1
  have HO := Lib.hid (RetInts.mk hl hc1 (FreshInts.of_own (w0 := w) hown1 (Nat.le_refl _) (by omega)) hb1)
  clear hown1 hg1 hat1 HST HX1 hb1
  go_wp2_with fail
  go_ret
  exact HO.out

end Go.Proofs.Ytcakjhappchlmaa
namespace Go.Proofs.Ytcakjhappchlmaa
open Go.RowKit Go.BigFrame Go.Shelf
set_option linter.unusedVariables false

attribute [local go_sem] Oper.semAt_some

/-- A step of the iterator, as the loop's body sees it: new blocks, and its own four. -/
structure ItStep (a : Nat) (V W : World) : Prop where
  os : W.os = V.os
  tape : W.tape = V.tape
  output : W.output = V.output
  size : V.heap.size ≤ W.heap.size
  block : ∀ k, k < V.heap.size → ¬ (a ≤ k ∧ k < a + 4) → W.heap[k]? = V.heap[k]?
theorem ItStep.refl (a : Nat) (V : World) : ItStep a V V := ⟨rfl, rfl, rfl, Nat.le_refl _, fun _ _ _ => rfl⟩
theorem ItStep.trans {a : Nat} {U V W : World} (h : ItStep a U V) (k : ItStep a V W) : ItStep a U W :=
  ⟨k.os.trans h.os, k.tape.trans h.tape, k.output.trans h.output, Nat.le_trans h.size k.size, fun i hi hn => (k.block i (Nat.lt_of_lt_of_le hi h.size) hn).trans (h.block i hi hn)⟩
theorem ItStep.of_below {a : Nat} {V W : World} (h : Below V.heap.size V W) : ItStep a V W := ⟨h.os, h.tape, h.output, h.size, fun k hk _ => h.block k hk⟩
theorem ItStep.of_grown {a : Nat} {V W : World} {row : Option Nat} (h : V.grownBy W row) (hr : ∀ g, row = some g → a ≤ g ∧ g < a + 4) : ItStep a V W :=
  ⟨h.os, h.tape, h.output, h.size, fun k hk hn => h.block k hk (fun e => hn (hr k e.symm))⟩
theorem ItStep.set {a : Nat} (V : World) {p : Addr} (u : Value) (hp : a ≤ p.block ∧ p.block < a + 4) : ItStep a V (V.setCell p u) :=
  ⟨rfl, rfl, rfl, by simp [World.setCell], fun k hk hn => Below.heap_setCell V p u k (by rintro rfl; exact hn hp)⟩
/-- What a round keeps for the iterator. -/
structure RdKeep (a bx n0 : Nat) (V W : World) : Prop where
  size : V.heap.size ≤ W.heap.size
  block : ∀ k, k < V.heap.size → (k < n0 ∨ k = bx ∨ (a ≤ k ∧ k < a + 4)) → W.heap[k]? = V.heap[k]?
theorem RInts.kept {V W : World} {A : Option Addr} {n : Nat} {xs : List Int} (h : RInts V A n xs) (hs : V.heap.size ≤ W.heap.size) (hA : ∀ ad, A = some ad → W.heap[ad.block]? = V.heap[ad.block]?) : RInts W A n xs := by
  refine ⟨h.1, h.2.1, fun hn => ?_⟩
  obtain ⟨b, off, hA', hl, hc⟩ := h.2.2 hn
  have hk := hA _ hA'
  exact ⟨b, off, hA', by omega, fun i x hx => (World.cell?_of_block (w := V) (a := ⟨b, off + i, none⟩) hk).trans (hc i x hx)⟩

/-- The iterator's blocks, and the list that it goes over. -/
structure Iter (a bx l n c : Nat) (A : Option Addr) (list pre : List Int) (V : World) : Prop where
  yb : V.heap[a]? = some (.cells #[.func (.yield l) #[] #[]] 60 (0, 0))
  row : V.ownsRow a 3 1 (.slice (some ⟨a + 1, 0, none⟩) pre.length n) pre.length (intCells pre)
  ob : V.heap[a + 2]? = some (.cells #[.slice (some ⟨a + 1, 0, none⟩) pre.length n] 34 (0, 0))
  fb : V.heap[a + 3]? = some (.cells #[.func (.func 177) #[] #[.pointer (some ⟨a + 2, 0, none⟩), .pointer (some ⟨bx, 0, none⟩), .pointer (some ⟨a, 0, none⟩), .pointer (some ⟨a + 3, 0, none⟩)]] 89 (0, 0))
  lb : V.cell? ⟨bx, 0, none⟩ = some (.slice A n c)
  list : RInts V A n list
theorem Iter.below {a bx l n c : Nat} {A : Option Addr} {list pre : List Int} {V W : World} (h : Iter a bx l n c A list pre V) (hb : Below V.heap.size V W) : Iter a bx l n c A list pre W :=
  ⟨(hb.block _ (lt_of_block h.yb)).trans h.yb, own_below h.row hb, (hb.block _ (lt_of_block h.ob)).trans h.ob, (hb.block _ (lt_of_block h.fb)).trans h.fb,
   (hb.cell (p := ⟨bx, 0, none⟩) (block_lt_of_cell h.lb)).trans h.lb, h.list.below hb (Nat.le_refl _)⟩
theorem ownsRow_block {V W : World} {base n m : Nat} {T : TypeId} {sz g c : Nat} {xs : List Value} (h : V.ownsRow base T sz (.slice (some ⟨g, 0, none⟩) n c) m xs) (hs : V.heap.size ≤ W.heap.size) (hk : W.heap[g]? = V.heap[g]?) : W.ownsRow base T sz (.slice (some ⟨g, 0, none⟩) n c) m xs := by
  refine ⟨h.1, ?_⟩
  rcases h.2 with ⟨e, _⟩ | ⟨g', cap, cur, e, h2, h3, h4⟩
  · cases e
  · have eg : g' = g := by
      injection e with e1
      injection e1 with e1
      injection e1 with e1
      exact e1.symm
    subst eg
    exact .inr ⟨g', cap, cur, e, h2, hk.trans h3, h4⟩
theorem Iter.kept {a bx l n c n0 : Nat} {A : Option Addr} {list pre : List Int} {V W : World} (h : Iter a bx l n c A list pre V) (hA : ∀ ad, A = some ad → ad.block < n0) (hk : RdKeep a bx n0 V W) : Iter a bx l n c A list pre W := by
  have hob := hk.block (a + 2) (lt_of_block h.ob) (.inr (.inr (by omega)))
  have hyb := hk.block a (lt_of_block h.yb) (.inr (.inr (by omega)))
  have hfb := hk.block (a + 3) (lt_of_block h.fb) (.inr (.inr (by omega)))
  have hrb := hk.block (a + 1) (by have := lt_of_block h.ob; omega) (.inr (.inr (by omega)))
  have hbx : bx < V.heap.size := block_lt_of_cell h.lb
  have hlb := hk.block bx hbx (.inr (.inl rfl))
  refine ⟨hyb.trans h.yb, ownsRow_block h.row hk.size hrb, hob.trans h.ob, hfb.trans h.fb, (World.cell?_of_block (w := V) (a := ⟨bx, 0, none⟩) hlb).trans h.lb, ?_⟩
  refine ⟨h.list.1, h.list.2.1, fun h0 => ?_⟩
  obtain ⟨b, off, hA', hl, hc⟩ := h.list.2.2 h0
  have hkb := hk.block b hl (.inl (hA _ hA'))
  have hs := hk.size
  exact ⟨b, off, hA', by omega, fun i x hx => (World.cell?_of_block (w := V) (a := ⟨b, off + i, none⟩) hkb).trans (hc i x hx)⟩
theorem Iter.cells {a bx l n c : Nat} {A : Option Addr} {list pre : List Int} {V : World} (h : Iter a bx l n c A list pre V) :
    V.cell? ⟨a, 0, none⟩ = some (.func (.yield l) #[] #[]) ∧ V.cell? ⟨a + 2, 0, none⟩ = some (.slice (some ⟨a + 1, 0, none⟩) pre.length n) ∧ V.frozen? ⟨a + 2, 0, none⟩ = false ∧
    V.cell? ⟨a + 3, 0, none⟩ = some (.func (.func 177) #[] #[.pointer (some ⟨a + 2, 0, none⟩), .pointer (some ⟨bx, 0, none⟩), .pointer (some ⟨a, 0, none⟩), .pointer (some ⟨a + 3, 0, none⟩)]) := by
  refine ⟨?_, ?_, ?_, ?_⟩
  · rw [cell_of_row _ _ _ _ _ _ h.yb]; rfl
  · rw [cell_of_row _ _ _ _ _ _ h.ob]; rfl
  · simp [World.frozen?, h.ob]
  · rw [cell_of_row _ _ _ _ _ _ h.fb]; rfl
/-- The order with another length, as its box tells. -/
theorem Iter.put {a bx l n c : Nat} {A : Option Addr} {list pre pre' : List Int} {V W : World} (h : Iter a bx l n c A list pre V) (hg : V.grownBy W (some (a + 1))) (hbx : bx < a) (hA : ∀ ad, A = some ad → ad.block < a)
    (hrow : W.ownsRow a 3 1 (.slice (some ⟨a + 1, 0, none⟩) pre'.length n) pre'.length (intCells pre')) :
    Iter a bx l n c A list pre' (W.setCell ⟨a + 2, 0, none⟩ (.slice (some ⟨a + 1, 0, none⟩) pre'.length n)) := by
  have blk : ∀ k, k < V.heap.size → k ≠ a + 1 → k ≠ a + 2 → (W.setCell ⟨a + 2, 0, none⟩ (.slice (some ⟨a + 1, 0, none⟩) pre'.length n)).heap[k]? = V.heap[k]? := fun k hk h1 h2 =>
    (Below.heap_setCell W _ _ k (by simpa using h2)).trans (hg.block k hk (fun e => h1 (by injection e)))
  have hs := World.grownBy.size hg
  have hob : W.heap[a + 2]? = some (.cells #[.slice (some ⟨a + 1, 0, none⟩) pre.length n] 34 (0, 0)) := (hg.block (a + 2) (lt_of_block h.ob) (by simp)).trans h.ob
  refine ⟨(blk a (lt_of_block h.yb) (by omega) (by omega)).trans h.yb, ?_, ?_, (blk (a + 3) (lt_of_block h.fb) (by omega) (by omega)).trans h.fb, ?_, ?_⟩
  · refine ownsRow_block hrow (by simp [World.setCell]) (Below.heap_setCell W _ _ (a + 1) (by simp))
  · simp [World.setCell, Array.getElem?_modify, hob]
  · exact (World.cell?_of_block (w := V) (a := ⟨bx, 0, none⟩) (blk bx (block_lt_of_cell h.lb) (by omega) (by omega))).trans h.lb
  · refine ⟨h.list.1, h.list.2.1, fun h0 => ?_⟩
    obtain ⟨b, off, hA', hl, hc⟩ := h.list.2.2 h0
    have hba := hA _ hA'
    simp only at hba
    refine ⟨b, off, hA', by simp [World.setCell]; omega, fun i x hx => (World.cell?_of_block (w := V) (a := ⟨b, off + i, none⟩) (blk b hl (by omega) (by omega))).trans (hc i x hx)⟩
theorem own_less {w : World} {base g k c : Nat} {xs : List Int} {t : Int} (h : w.ownsRow base 3 1 (.slice (some ⟨g, 0, none⟩) (k + 1) c) (k + 1) (intCells (xs ++ [t]))) (hk : xs.length = k) : w.ownsRow base 3 1 (.slice (some ⟨g, 0, none⟩) k c) k (intCells xs) := by
  refine ⟨by simp [intCells, hk], ?_⟩
  rcases h.2 with ⟨e, _⟩ | ⟨g', cap, cur, e, h2, h3, h4, h5, h6, h7⟩
  · cases e
  · injection e with e1 e2 e3
    injection e1 with e1
    injection e1 with e1
    subst e1; subst e3
    refine .inr ⟨_, _, cur, rfl, h2, h3, by omega, h5, h6, ?_⟩
    have : (cur.toList.take ((k + 1) * 1)).take (k * 1) = cur.toList.take (k * 1) := by rw [List.take_take]; congr 1; omega
    rw [← this, h7]
    simp [intCells, hk]
end Go.Proofs.Ytcakjhappchlmaa
namespace Go.Proofs.Ytcakjhappchlmaa
open Go.RowKit Go.BigFrame Go.Shelf
set_option linter.unusedVariables false

attribute [local go_sem] Oper.semAt_some

/-- What the loop's body asks of the iterator, and what it does in a round. -/
structure PermCtx (a bx n0 l n : Nat) (list : List Int) (J : List (List Int) → World → Prop) : Prop where
  abide : ∀ s V W, J s V → ItStep a V W → J s W
  round : ∀ acc x V W1 A' c' m, J acc V → ItStep a V W1 → a + 4 ≤ V.heap.size → FreshInts V W1 A' n x → n ≤ c' → (acc ++ [x]) <+: permF list n [] →
    YieldAt Fence.wide m Try.prog l #[.slice A' n c'] W1 fun e W' => e = .returned (.bool true) ∧ J (acc ++ [x]) W' ∧ RdKeep a bx n0 W1 W'

/-- What the orders that begin with 'pre' and then go on with t are. -/
def permN (list : List Int) (m : Nat) (pre : List Int) (t : Int) : List (List Int) := if pre.any (fun y => y == t) then [] else permF list m (pre ++ [t])
theorem permF_succ {list : List Int} {m : Nat} {pre : List Int} : permF list (m + 1) pre = list.flatMap (permN list m pre) := rfl
theorem prefix_of_snoc {α : Type} {acc a b c L : List α} (h : (acc ++ (a ++ (b ++ c))) <+: L) : (acc ++ (a ++ b)) <+: L := by
  refine List.IsPrefix.trans ?_ h
  exact ⟨c, by simp⟩
theorem Iter.sz {a bx l n c : Nat} {A : Option Addr} {list pre : List Int} {V : World} (h : Iter a bx l n c A list pre V) : a + 4 ≤ V.heap.size := by have := lt_of_block h.fb; omega

set_option maxRecDepth 100000 in
set_option maxHeartbeats 1000000 in
theorem from_zero (a bx n0 l n c : Nat) (A : Option Addr) (list : List Int) (J : List (List Int) → World → Prop) (hP : PermCtx a bx n0 l n list J) (hA : ∀ ad, A = some ad → ad.block < n0)
    (pre : List Int) (acc : List (List Int)) (V : World) (hI : Iter a bx l n c A list pre V) (hJ : J acc V) (hlen : pre.length = n) (hpre : (acc ++ [pre]) <+: permF list n []) :
      Calls Try.prog 177 #[.pointer (some ⟨a + 2, 0, none⟩), .pointer (some ⟨bx, 0, none⟩), .pointer (some ⟨a, 0, none⟩), .pointer (some ⟨a + 3, 0, none⟩)] V fun e V' =>
        e = .returned (.bool true) ∧ Iter a bx l n c A list pre V' ∧ J (acc ++ [pre]) V' := by
  subst hlen
  obtain ⟨c0, c2, f2, c3⟩ := hI.cells
  have clb := hI.lb
  have hln := hI.list.2.1
  have hcl : Calls Try.prog 178 #[.slice (some ⟨a + 1, 0, none⟩) pre.length pre.length] V.drew (RetInts V.drew pre) := CloneI_any (a + 1) 0 pre.length pre.length pre V.drew (RInts.of_own hI.row hln)
  have HC := Lib.hid hcl
  have HR : Hid (∀ (A1 : Option Addr) (c1 m : Nat) (w1 : World), FreshInts V.drew w1 A1 pre.length pre → pre.length ≤ c1 → Below V.drew.heap.size V.drew w1 →
      YieldAt Fence.wide m Try.prog l #[.slice A1 pre.length c1] w1 fun e W' => e = .returned (.bool true) ∧ J (acc ++ [pre]) W' ∧ Iter a bx l pre.length c A list pre W') := by
    intro A1 c1 m w1 hf hc1 hb
    refine (hP.round acc pre V w1 A1 c1 m hJ ⟨hb.os, hb.tape, hb.output, hb.size, fun k hk _ => hb.block k hk⟩ hI.sz hf hc1 hpre).mono ?_
    rintro e W' ⟨he, hj, hk⟩
    exact ⟨he, hj, (hI.below (W := w1) ⟨hb.os, hb.tape, hb.output, hb.size, hb.block⟩).kept hA hk⟩
  clear hI hJ hpre hP hcl
  refine (callsIn_wide (n := 5)).1 ?_
  refine callsIn_of_wp Try.func177 rfl trivial ?_ rfl
  simp only [Try.ntmps177, List.size_toArray, List.length_cons, List.length_nil, Nat.reduceAdd, Nat.reduceSub, Array.replicate_succ, Array.replicate_zero, List.push_toArray, List.append_toArray, List.nil_append, List.cons_append]
  gi_wp2
  gi_region_with (first
    | (refine ⟨trivial, ?_⟩; gi_at_call 178; refine (callsIn_wide.2 HC.out).mono ?_; rintro e w1 ⟨A1, c1, rfl, hc1, hf, hb⟩; have c0' := (hb.cell (p := ⟨a, 0, none⟩) (block_lt_of_cell c0)).trans c0; obtain ⟨fn, tmps, assign, body, hy, hR⟩ := HR.out A1 c1 4 w1 hf hc1 hb)
    | (refine hR.mono ?_; rintro e w2 ⟨rfl, hJ2, hI2⟩))
  all_goals
    gi_wp2
    go_ret
    exact ⟨rfl, hI2, hJ2⟩
end Go.Proofs.Ytcakjhappchlmaa
namespace Go.Proofs.Ytcakjhappchlmaa
open Go.RowKit Go.BigFrame Go.Shelf
set_option linter.unusedVariables false

/-- A loop of the recursion: what lies and what has come. -/
structure FromInv (a bx l n c : Nat) (A : Option Addr) (list pre : List Int) (J : List (List Int) → World → Prop) (acc : List (List Int)) (V : World) : Prop where
  it : Iter a bx l n c A list pre V
  j : J acc V

theorem cell_grown {V W : World} {row : Option Nat} (hg : V.grownBy W row) {p : Addr} (hp : p.block < V.heap.size) (hne : some p.block ≠ row) : W.cell? p = V.cell? p := World.cell?_of_block (w := V) (hg.block _ hp hne)
theorem frozen_grown {V W : World} {row : Option Nat} (hg : V.grownBy W row) {p : Addr} (hp : p.block < V.heap.size) (hne : some p.block ≠ row) : W.frozen? p = V.frozen? p := by
  unfold World.frozen?
  rw [hg.block _ hp hne]
/-- One order more: what lies then. -/
theorem put_len {a bx l n c d : Nat} {A : Option Addr} {list pre : List Int} {t : Int} {V W : World} (hd : pre.length = d) (h : Iter a bx l n c A list pre V) (hg : V.grownBy W (some (a + 1))) (hbx : bx < a) (hA : ∀ ad, A = some ad → ad.block < a)
    (hrow : W.ownsRow a 3 1 (.slice (some ⟨a + 1, 0, none⟩) (d + 1) n) (d + 1) (intCells pre ++ [.int .i64 t])) :
    W.cell? ⟨a + 2, 0, none⟩ = some (.slice (some ⟨a + 1, 0, none⟩) d n) ∧ W.frozen? ⟨a + 2, 0, none⟩ = false ∧ Iter a bx l n c A list (pre ++ [t]) (W.setCell ⟨a + 2, 0, none⟩ (.slice (some ⟨a + 1, 0, none⟩) (d + 1) n)) ∧
      (W.setCell ⟨a + 2, 0, none⟩ (.slice (some ⟨a + 1, 0, none⟩) (d + 1) n)).cell? ⟨a + 3, 0, none⟩ = some (.func (.func 177) #[] #[.pointer (some ⟨a + 2, 0, none⟩), .pointer (some ⟨bx, 0, none⟩), .pointer (some ⟨a, 0, none⟩), .pointer (some ⟨a + 3, 0, none⟩)]) := by
  subst hd
  obtain ⟨c0, c2, f2, c3⟩ := h.cells
  have hs := h.sz
  have hl : (pre ++ [t]).length = pre.length + 1 := by simp
  have hI : Iter a bx l n c A list (pre ++ [t]) (W.setCell ⟨a + 2, 0, none⟩ (.slice (some ⟨a + 1, 0, none⟩) (pre ++ [t]).length n)) := h.put hg hbx hA (by rw [hl]; simpa [intCells] using hrow)
  rw [hl] at hI
  exact ⟨(cell_grown hg (p := ⟨a + 2, 0, none⟩) (by simp; omega) (by simp)).trans c2, (frozen_grown hg (p := ⟨a + 2, 0, none⟩) (by simp; omega) (by simp)).trans f2, hI, hI.cells.2.2.2⟩
theorem put_step {a : Nat} {V W : World} {u : Value} (hg : V.grownBy W (some (a + 1))) : ItStep a V (W.setCell ⟨a + 2, 0, none⟩ u) :=
  (ItStep.of_grown hg (fun g e => by injection e with e; omega)).trans (ItStep.set W u (p := ⟨a + 2, 0, none⟩) (by simp))

set_option maxRecDepth 100000 in
set_option maxHeartbeats 2000000 in
theorem from_any (a bx n0 l n c : Nat) (A : Option Addr) (list : List Int) (J : List (List Int) → World → Prop) (hP : PermCtx a bx n0 l n list J) (hbx : bx < a) (hA : ∀ ad, A = some ad → ad.block < n0) (hn0 : n0 ≤ a) (m : Nat) :
    ∀ (pre : List Int) (acc : List (List Int)) (V : World), Iter a bx l n c A list pre V → J acc V → pre.length + m = n → (acc ++ permF list m pre) <+: permF list n [] →
      Calls Try.prog 177 #[.pointer (some ⟨a + 2, 0, none⟩), .pointer (some ⟨bx, 0, none⟩), .pointer (some ⟨a, 0, none⟩), .pointer (some ⟨a + 3, 0, none⟩)] V fun e V' =>
        e = .returned (.bool true) ∧ Iter a bx l n c A list pre V' ∧ J (acc ++ permF list m pre) V' := by
  induction m with
  | zero =>
    intro pre acc V hI hJ hlen hpre
    exact from_zero a bx n0 l n c A list J hP hA pre acc V hI hJ (by omega) hpre
  | succ m ih =>
    intro pre acc V hI hJ hlen hpre
    obtain ⟨d, hh⟩ : ∃ d, pre.length = d := ⟨_, rfl⟩
    have HLEN := Lib.hid hh
    have hhn : d < n := by omega
    have hdm : d + m + 1 = n := by omega
    have hdn : ((d : Int) == (n : Int)) = false := by simp; omega
    obtain ⟨c0, c2, f2, c3⟩ := hI.cells
    rw [hh] at c2
    have clb := hI.lb
    have hln := hI.list.2.1
    have hlist := hI.list.1
    have HP := Lib.hid hP
    have HIH := Lib.hid ih
    have HPRE := Lib.hid hpre
    have HFI : Hid (FromInv a bx l n c A list pre J acc V) := ⟨hI, hJ⟩
    have HA := Lib.hid hA
    have HL := Lib.hid hlist
    clear hI hJ hP ih hpre hA hlist hlen hh
    go_enter Try.func177, Try.ntmps177
    go_wp2_with fail
    go_loopw [18] (fun i wr => ∃ k : Nat, k ≤ n ∧ i = .int .i64 k ∧ FromInv a bx l n c A list pre J (acc ++ (list.take k).flatMap (permN list m pre)) wr) (fun i _ => n - (intOf i).toNat)
    case atStart => exact ⟨0, Nat.zero_le _, rfl, by simpa using HFI.out⟩
    case round =>
      clear HFI c0 c2 f2 c3 clb
      obtain ⟨k, hk, rfl, hinv⟩ := hrel
      have HINV := Lib.hid hinv
      clear hinv
      by_cases hlt : k < n
      · obtain ⟨c0, c2, f2, c3⟩ := HINV.out.it.cells
        rw [HLEN.out] at c2
        obtain ⟨b, off, t, hAe, hbl, ho, ct⟩ := HINV.out.it.list.at_ hlt
        have hbA : b < a := by have := HA.out _ hAe; simp only at this; omega
        subst hAe
        have hst : (list.take (k + 1)).flatMap (permN list m pre) = (list.take k).flatMap (permN list m pre) ++ permN list m pre t := by
          rw [take_snoc ho, List.flatMap_append]; simp
        have hpx : permF list (m + 1) pre = ((list.take k).flatMap (permN list m pre) ++ permN list m pre t) ++ (list.drop (k + 1)).flatMap (permN list m pre) := by
          rw [permF_succ, ← hst, ← List.flatMap_append, List.take_append_drop]
        have HPX : Hid ((acc ++ (list.take k).flatMap (permN list m pre) ++ permN list m pre t) <+: permF list n []) := by
          have := HPRE.out
          rw [hpx] at this
          refine List.IsPrefix.trans ⟨(list.drop (k + 1)).flatMap (permN list m pre), ?_⟩ this
          simp [List.append_assoc]
        have HST : Hid (acc ++ (list.take (k + 1)).flatMap (permN list m pre) = acc ++ (list.take k).flatMap (permN list m pre) ++ permN list m pre t) := by show _ = _; rw [hst, List.append_assoc]
        have HN : Hid (permN list m pre t = if pre.any (fun y => y == t) then [] else permF list m (pre ++ [t])) := rfl
        clear hst hpx ho
        generalize acc ++ (list.take k).flatMap (permN list m pre) = acc1 at *
        generalize permN list m pre t = nx at *
        have hrow := HINV.out.it.row
        rw [HLEN.out] at hrow
        have hcI : Calls Try.prog 87 #[.slice (some ⟨a + 1, 0, none⟩) d n, .int .i64 t] wr fun e w' => e = .returned (.bool (pre.any fun y => y == t)) ∧ Below wr.heap.size wr w' := ContainsS_any (some ⟨a + 1, 0, none⟩) d n pre t wr (RInts.of_own hrow (by omega))
        obtain ⟨bc, hbc⟩ : ∃ bc, (pre.any fun y => y == t) = bc := ⟨_, rfl⟩
        have HBC := Lib.hid hbc
        rw [hbc] at hcI
        have HC := Lib.hid hcI
        have HROW := Lib.hid hrow
        have clb := HINV.out.it.lb
        have hsz := HINV.out.it.sz
        clear hcI hbc hrow
        cases bc
        · go_wp2_with fail
          refine (HC.out).mono ?_
          rintro e w1 ⟨rfl, hb1⟩
          have c2' := (hb1.cell (p := ⟨a + 2, 0, none⟩) (by simp; omega)).trans c2
          have f2' := (hb1.frozen (p := ⟨a + 2, 0, none⟩) (by simp; omega)).trans f2
          have hrow1 := (own_below HROW.out hb1).alloc (.cells #[.int .i64 t] 3)
          have hbw1 := hb1.size
          have HI1 : Hid (Iter a bx l n c (some ⟨b, off, none⟩) list pre (w1.alloc (.cells #[.int .i64 t] 3))) := HINV.out.it.below ((hb1.trans ((Below.refl wr.heap.size w1).alloc hbw1 _)))
          have HJ1 : Hid (∀ W, ItStep a (w1.alloc (.cells #[.int .i64 t] 3)) W → J acc1 W) := fun W hW => HP.out.abide _ _ _ HINV.out.j ((ItStep.of_below (hb1.trans ((Below.refl wr.heap.size w1).alloc hbw1 _))).trans hW)
          have HAB : Hid (∀ ad, some (⟨b, off, none⟩ : Addr) = some ad → ad.block < a) := fun ad h => by injection h with h; subst h; exact hbA
          go_wp2_with (at_builtin; refine wpList_append_fits _ rfl (.tmp 25) (.tmp 27) 34 rfl a 3 (info_parts intInfo).choose 1 Try.underlying34 (info_parts intInfo).choose_spec.1 (info_parts intInfo).choose_spec.2.2.1 (a + 1) d n (intCells pre) rfl hrow1 ⟨w1.heap.size, 0, none⟩ 1 1 [.int .i64 t] rfl rfl (cell_one_new _ _ _) (by simp [Value.oneCell']) (by omega) ?_; intro w3 hown3 hg3; have hpl := put_len HLEN.out HI1.out hg3 hbx HAB.out hown3; have c2w := hpl.1; have f2w := hpl.2.1; have c3w := hpl.2.2.2; have HI4 := Lib.hid hpl.2.2.1; have HJ4 := Lib.hid (HJ1.out _ (put_step (u := .slice (some ⟨a + 1, 0, none⟩) (d + 1) n) hg3)); clear hpl hown3 hg3)
          have hlen4 : (pre ++ [t]).length + m = n := by simp [HLEN.out]; omega
          refine (HIH.out (pre ++ [t]) acc1 _ HI4.out HJ4.out hlen4 (by have := HPX.out; rw [HN.out, HBC.out] at this; simpa using this)).mono ?_
          rintro e w5 ⟨rfl, hI5, hJ5⟩
          obtain ⟨_, c25, f25, _⟩ := hI5.cells
          have hl5 : (pre ++ [t]).length = d + 1 := by simp [HLEN.out]
          rw [hl5] at c25
          have s1 : IntKind.i64.wrap (((d + 1 : Nat) : Int) - 1) = (d : Int) := by rw [IntWalk.i64_in _ (by omega)]; omega
          have HI5 := Lib.hid hI5
          have HJ5 := Lib.hid hJ5
          clear hI5 hJ5 c2w f2w c3w
          go_wp2_with fail
          go_roundw
          case rel => exact ⟨k + 1, by omega, by go_num, by
            rw [HST.out, HN.out, HBC.out, if_neg (by simp)]
            refine ⟨?_, HP.out.abide _ _ _ HJ5.out (ItStep.set _ _ (by simp))⟩
            have hr := HI5.out.row
            rw [hl5] at hr
            have h6 := HI5.out.put (pre' := pre) (World.grownBy.refl _ _) hbx HAB.out (by rw [HLEN.out]; exact own_less (xs := pre) hr HLEN.out)
            rw [HLEN.out] at h6
            exact h6⟩
          case measure => simp [intOf]; omega
        · go_wp2_with fail
          refine (HC.out).mono ?_
          rintro e w1 ⟨rfl, hb1⟩
          go_wp2_with fail
          go_roundw
          case rel => exact ⟨k + 1, by omega, by go_num, by
            rw [HST.out, HN.out, HBC.out, if_pos rfl, List.append_nil]
            exact ⟨HINV.out.it.below hb1, HP.out.abide _ _ _ HINV.out.j (ItStep.of_below hb1)⟩⟩
          case measure => simp [intOf]; omega
      · obtain rfl : k = n := by omega
        go_wp2_with fail
        go_ret
        have e : list.take k = list := List.take_of_length_le (by have := HL.out; omega)
        have hi := HINV.out
        rw [e] at hi
        exact ⟨rfl, hi.it, hi.j⟩
end Go.Proofs.Ytcakjhappchlmaa
namespace Go.Proofs.Ytcakjhappchlmaa
open Go.RowKit Go.BigFrame Go.Shelf
set_option linter.unusedVariables false

attribute [local go_sem] Oper.semAt_some

theorem run_mkInts (n : Nat) (hn : n ≤ 1000000) (w : World) : ∃ cs : Array Value, cs.size = n ∧
    (Instr.makeSlice 34 (.int .i64 0) (.int .i64 (n : Int))).run Try.prog w = .ok (.slice (some ⟨w.heap.size, 0, none⟩) 0 n) (w.alloc (.cells cs 3)) := by
  obtain ⟨i0, hi, hz0, hz1, hz2⟩ := info_parts intInfo
  have := run_makeSlice (P := Try.prog) (w := w) 34 3 i0 _ Try.underlying34 hi hz0 .i64 .i64 0 (n : Int) (Int.le_refl _) (by omega) (by rw [hz1]; omega) (by rw [hz2]; omega) (by omega)
  simp only [Int.toNat_zero, Int.toNat_natCast, hz1] at this
  exact ⟨_, by rw [size_madeCells]; omega, this⟩

set_option maxHeartbeats 1000000 in
/-- 'permutations(list)': a closure over the list's box. -/
theorem permutations_any (A : Option Addr) (n c : Nat) (w : World) :
    Calls Try.prog 165 #[.slice A n c] w fun e w' => e = .returned (.func (.func 176) #[] #[.pointer (some ⟨w.heap.size, 0, none⟩)]) ∧ w' = w.alloc (.cells #[.slice A n c] 34) := by
  go_enter Try.func165, Try.ntmps165
  go_wp2_with fail
  go_ret
  exact ⟨rfl, rfl⟩

/-- What lies where the recursion begins. -/
theorem iter_start {bx l n c : Nat} {A : Option Addr} {list : List Int} {W : World} {cs : Array Value} (hcs : cs.size = n) (hb : W.cell? ⟨bx, 0, none⟩ = some (.slice A n c)) (hl : RInts W A n list) (hn : n ≤ 4) :
    Iter W.heap.size bx l n c A list [] ((((W.alloc (.cells #[.func (.yield l) #[] #[]] 60)).alloc (.cells cs 3)).alloc (.cells #[.slice (some ⟨W.heap.size + 1, 0, none⟩) 0 n] 34)).alloc (.cells #[.func (.func 177) #[] #[.pointer (some ⟨W.heap.size + 2, 0, none⟩), .pointer (some ⟨bx, 0, none⟩), .pointer (some ⟨W.heap.size, 0, none⟩), .pointer (some ⟨W.heap.size + 3, 0, none⟩)]] 89)) := by
  obtain ⟨W1, h1⟩ : ∃ W1, W.alloc (.cells #[.func (.yield l) #[] #[]] 60) = W1 := ⟨_, rfl⟩
  obtain ⟨W2, h2⟩ : ∃ W2, W1.alloc (.cells cs 3) = W2 := ⟨_, rfl⟩
  obtain ⟨W3, h3⟩ : ∃ W3, W2.alloc (.cells #[.slice (some ⟨W.heap.size + 1, 0, none⟩) 0 n] 34) = W3 := ⟨_, rfl⟩
  obtain ⟨W4, h4⟩ : ∃ W4, W3.alloc (.cells #[.func (.func 177) #[] #[.pointer (some ⟨W.heap.size + 2, 0, none⟩), .pointer (some ⟨bx, 0, none⟩), .pointer (some ⟨W.heap.size, 0, none⟩), .pointer (some ⟨W.heap.size + 3, 0, none⟩)]] 89) = W4 := ⟨_, rfl⟩
  rw [h1, h2, h3, h4]
  have s1 : W1.heap.size = W.heap.size + 1 := by rw [← h1]; simp
  have s2 : W2.heap.size = W.heap.size + 2 := by rw [← h2]; simp; omega
  have s3 : W3.heap.size = W.heap.size + 3 := by rw [← h3]; simp; omega
  have b4 : Below W3.heap.size W3 W4 := by rw [← h4]; exact (Below.refl _ _).alloc (Nat.le_refl _) _
  have b3 : Below W2.heap.size W2 W4 := by
    refine Below.trans ?_ (b4.mono (by omega))
    rw [← h3]; exact (Below.refl _ _).alloc (Nat.le_refl _) _
  have b2 : Below W1.heap.size W1 W4 := by
    refine Below.trans ?_ (b3.mono (by omega))
    rw [← h2]; exact (Below.refl _ _).alloc (Nat.le_refl _) _
  have b1 : Below W.heap.size W W4 := by
    refine Below.trans ?_ (b2.mono (by omega))
    rw [← h1]; exact (Below.refl _ _).alloc (Nat.le_refl _) _
  have k1 : W1.heap[W.heap.size]? = some (.cells #[.func (.yield l) #[] #[]] 60 (0, 0)) := by rw [← h1]; exact heap_alloc_new W _
  have k2 : W2.ownsRow W.heap.size 3 1 (.slice (some ⟨W.heap.size + 1, 0, none⟩) 0 n) 0 (intCells []) := by
    have := World.ownsRow_made (base := W.heap.size) (e := 3) (size := 1) W1 cs n (by omega) (by unfold maxLen; omega) (by omega)
    rw [s1, h2] at this
    exact this
  have k3 : W3.heap[W.heap.size + 2]? = some (.cells #[.slice (some ⟨W.heap.size + 1, 0, none⟩) 0 n] 34 (0, 0)) := by
    have := heap_alloc_new W2 (.cells #[.slice (some ⟨W.heap.size + 1, 0, none⟩) 0 n] 34)
    rw [h3, s2] at this; exact this
  have k4 := heap_alloc_new W3 (.cells #[.func (.func 177) #[] #[.pointer (some ⟨W.heap.size + 2, 0, none⟩), .pointer (some ⟨bx, 0, none⟩), .pointer (some ⟨W.heap.size, 0, none⟩), .pointer (some ⟨W.heap.size + 3, 0, none⟩)]] 89)
  rw [h4, s3] at k4
  exact ⟨(b2.block _ (by omega)).trans k1, own_below k2 b3, (b4.block _ (by omega)).trans k3, k4, (b1.cell (p := ⟨bx, 0, none⟩) (block_lt_of_cell hb)).trans hb, hl.below b1 (Nat.le_refl _)⟩

set_option maxRecDepth 100000 in
set_option maxHeartbeats 2000000 in
/-- The closure, called with what takes the orders: all of them come, in order. -/
theorem perms_any (bx n0 l n c : Nat) (A : Option Addr) (list : List Int) (J : List (List Int) → World → Prop) (W : World) (hP : PermCtx W.heap.size bx n0 l n list J)
    (hb : W.cell? ⟨bx, 0, none⟩ = some (.slice A n c)) (hl : RInts W A n list) (hA : ∀ ad, A = some ad → ad.block < n0) (hn0 : n0 ≤ W.heap.size) (hn4 : n ≤ 4) (h0 : J [] W) :
    Calls Try.prog 176 #[.func (.yield l) #[] #[], .pointer (some ⟨bx, 0, none⟩)] W fun e W' => (∃ v, e = .returned v) ∧ J (permF list n []) W' := by
  obtain ⟨cs, hcs, hmk⟩ := run_mkInts n (by omega) (W.alloc (.cells #[.func (.yield l) #[] #[]] 60))
  have hbx : bx < W.heap.size := by have := block_lt_of_cell hb; simpa using this
  have HX := Lib.hid (And.intro hl (And.intro h0 hP))
  have HA := Lib.hid hA
  have HCS := Lib.hid hcs
  clear hl h0 hP hA hcs
  go_enter Try.func176, Try.ntmps176
  go_wp2_with fail
  refine (from_any W.heap.size bx n0 l n c A list J HX.out.2.2 hbx HA.out hn0 n [] [] _ (iter_start HCS.out hb HX.out.1 hn4) (HX.out.2.2.abide _ _ _ HX.out.2.1 ?hst) (by simp) (by simp)).mono ?_
  case hst => exact ItStep.of_below ((((Below.refl _ W).alloc (Nat.le_refl _) _).alloc (by simp) _).alloc (by simp; omega) _ |>.alloc (by simp; omega) _)
  rintro e w5 ⟨rfl, _, hJ5⟩
  have HJ5 := Lib.hid hJ5
  clear hJ5
  go_wp2_with fail
  go_end0
  exact ⟨⟨_, rfl⟩, by have := HJ5.out; simpa using this⟩
end Go.Proofs.Ytcakjhappchlmaa
namespace Go.Proofs.Ytcakjhappchlmaa
open Go.RowKit Go.BigFrame Go.Shelf
set_option linter.unusedVariables false

/-- Six blocks more: what is made behind them is made since. -/
def six (w : World) : World := (((((w.alloc (.cells #[] 3)).alloc (.cells #[] 3)).alloc (.cells #[] 3)).alloc (.cells #[] 3)).alloc (.cells #[] 3)).alloc (.cells #[] 3)
theorem six_size (w : World) : (six w).heap.size = w.heap.size + 6 := by simp [six]

/-- A step of the loop's statement and of the iterator, as the body's own things see it. -/
structure LpStep (b : Nat) (V W : World) : Prop where
  os : W.os = V.os
  tape : W.tape = V.tape
  output : W.output = V.output
  size : V.heap.size ≤ W.heap.size
  block : ∀ k, k < V.heap.size → ¬ (b ≤ k ∧ k < b + 6) → W.heap[k]? = V.heap[k]?
theorem LpStep.refl (b : Nat) (V : World) : LpStep b V V := ⟨rfl, rfl, rfl, Nat.le_refl _, fun _ _ _ => rfl⟩
theorem LpStep.trans {b : Nat} {U V W : World} (h : LpStep b U V) (k : LpStep b V W) : LpStep b U W :=
  ⟨k.os.trans h.os, k.tape.trans h.tape, k.output.trans h.output, Nat.le_trans h.size k.size, fun i hi hn => (k.block i (Nat.lt_of_lt_of_le hi h.size) hn).trans (h.block i hi hn)⟩
theorem LpStep.of_below {b : Nat} {V W : World} (h : Below V.heap.size V W) : LpStep b V W := ⟨h.os, h.tape, h.output, h.size, fun k hk _ => h.block k hk⟩
theorem LpStep.of_it {b : Nat} {V W : World} (h : ItStep (b + 2) V W) : LpStep b V W := ⟨h.os, h.tape, h.output, h.size, fun k hk hn => h.block k hk (fun e => hn (by omega))⟩
theorem LpStep.put {b : Nat} (V : World) {l : Nat} (o : Obj) (hl : b ≤ l ∧ l < b + 6) : LpStep b V (V.putObj l o) :=
  ⟨rfl, rfl, rfl, by simp, fun k hk hn => World.putObj_heap_other (by rintro rfl; exact hn hl)⟩
/-- What a round's body keeps. -/
structure BdKeep (b bx n0 : Nat) (V W : World) : Prop where
  size : V.heap.size ≤ W.heap.size
  block : ∀ k, k < V.heap.size → (k < n0 ∨ k = bx ∨ (b ≤ k ∧ k < b + 6)) → W.heap[k]? = V.heap[k]?
theorem BdKeep.trans {b bx n0 : Nat} {U V W : World} (h : BdKeep b bx n0 U V) (k : BdKeep b bx n0 V W) : BdKeep b bx n0 U W :=
  ⟨Nat.le_trans h.size k.size, fun i hi hn => (k.block i (Nat.lt_of_lt_of_le hi h.size) hn).trans (h.block i hi hn)⟩
theorem BdKeep.of_below {b bx n0 : Nat} {V W : World} (h : Below V.heap.size V W) : BdKeep b bx n0 V W := ⟨h.size, fun k hk _ => h.block k hk⟩

def permPost (b bx n0 : Nat) (I : List (List Int) → World → Prop) (xs : List (List Int)) (W : World) : Exit → Act → World → Prop
  | .normal, _, W' => BdKeep b bx n0 W W' ∧ I xs W'
  | _, _, _ => False

theorem wpIn_rangePerm {g : Operand} {ps : Array Tmp} {assign body : Code} {Q : Exit → Act → World → Prop} {a : Act} {w : World} {N : Nat} (bx n0 n c : Nat) (A : Option Addr) (list : List Int)
    (hg : a.eval g = .func (.func 176) #[] #[.pointer (some ⟨bx, 0, none⟩)]) (hps : ps.size = 1)
    (hb : w.cell? ⟨bx, 0, none⟩ = some (.slice A n c)) (hl : RInts w A n list) (hA : ∀ ad, A = some ad → ad.block < n0) (hn0 : n0 ≤ w.heap.size) (hn4 : n ≤ 4)
    (I : List (List Int) → World → Prop) (hI : ∀ s V W, I s V → LpStep w.heap.size V W → I s W) (h0 : I [] w) (a₁ : Value → Act)
    (hassign : ∀ (l m : Nat) (v : Value) (W : World) (K : Act → World → Prop), K (a₁ v) W →
      assign.wpIn (Fence.wide.inRound l) m Try.prog (Exit.then K (fun _ _ _ => False)) { tmps := (ps.zip #[v]).foldl (fun t (p, v) => t.setIfInBounds p v) a.tmps, defers := [] } W)
    (hbody : ∀ (l m : Nat) (pre : List (List Int)) (x : List Int) (V W : World) (A' : Option Addr) (c' : Nat), I pre V → LpStep w.heap.size V W → w.heap.size + 6 ≤ V.heap.size → FreshInts V W A' n x → n ≤ c' → (pre ++ [x]) <+: permF list n [] →
      body.wpIn (Fence.wide.inRound l) m Try.prog (permPost w.heap.size bx n0 I (pre ++ [x]) W) (a₁ (.slice A' n c')) W)
    (hdone : ∀ W : World, I (permF list n []) W → w.heap.size < W.heap.size → W.heap[w.heap.size]? = some (.deferred (some [])) → Q .normal { a with defers := { target := .collected w.heap.size, args := #[] } :: a.defers } W) :
    (Code.rangeFunc g ps assign body).wpIn Fence.wide N Try.prog Q a w := by
  refine wpIn_rangeFunc ?_
  intro fn hfn
  rw [Fence.wide_round]
  obtain ⟨rec, hrec⟩ : ∃ rec : LoopState → Loop, rec = fun st => { state := st, pending := none, fn, tmps := a.tmps, params := ps, assign, body, defers := w.heap.size } := ⟨_, rfl⟩
  obtain ⟨W1, hW1⟩ : ∃ W1, (w.alloc (.deferred (some []))).alloc (.loop (rec .ready)) = W1 := ⟨_, rfl⟩
  have hL1 : W1.heap[w.heap.size + 1]? = some (.loop (rec .ready)) := by
    rw [← hW1]; have := World.alloc_heap_new (w.alloc (.deferred (some []))) (.loop (rec .ready)); rwa [World.size_alloc] at this
  have hK1 : W1.heap[w.heap.size]? = some (.deferred (some [])) := by
    rw [← hW1]; exact (Below.heap_alloc _ _ _ (by simp)).trans (World.alloc_heap_new w _)
  have hb1 : Below w.heap.size w W1 := by
    rw [← hW1]; exact (((Below.refl _ w).alloc (Nat.le_refl _) _).alloc (by simp) _)
  have hs1 : W1.heap.size = w.heap.size + 2 := by rw [← hW1]; simp
  have hI1 : I [] W1 := hI _ _ _ h0 (LpStep.of_below hb1)
  have hbx : bx < w.heap.size := block_lt_of_cell hb
  refine ⟨w.heap.size + 1, [{ target := .collected w.heap.size, args := #[] }], W1, { target := .fn (.func 176) #[.pointer (some ⟨bx, 0, none⟩)], args := #[.func (.yield (w.heap.size + 1)) #[] #[]] }, W1, 176,
    #[.func (.yield (w.heap.size + 1)) #[] #[], .pointer (some ⟨bx, 0, none⟩)], W1, ?_, ?_, fun f' hf' => trivial, ?_, fun h => by simp [Fence.wide] at h, ?_⟩
  · rw [← hW1, hrec]; exact run_enterLoop_outer _ _ _ _ _
  · simp only [resolve, hg]
    simp [go_sem]
  · have eg : ∀ args w, (callFunc 176 args).run Try.prog w = .ok (.enter 176 args) w := enters_of Try.func176 (by kernel_rfl) rfl
    simp [invoke, go_sem, eg]
  · refine callsIn_wide.2 ((perms_any bx n0 (w.heap.size + 1) n c A list
      (fun pre V => I pre V ∧ V.heap[w.heap.size + 1]? = some (.loop (rec .ready)) ∧ V.heap[w.heap.size]? = some (.deferred (some []))) W1 ?_
      ((hb1.cell (p := ⟨bx, 0, none⟩) hbx).trans hb) (hl.below hb1 (Nat.le_refl _)) hA (by omega) hn4 ⟨hI1, hL1, hK1⟩).mono ?_)
    · rw [hs1]
      refine ⟨fun s V W hs hst => ?_, fun acc x V W A' c' m hj hst hsz hf hc' hpre => ?_⟩
      · obtain ⟨hi, hlp, hdf⟩ := hs
        exact ⟨hI _ _ _ hi (LpStep.of_it hst), (hst.block _ (Array.getElem?_eq_some_iff.1 hlp).1 (by omega)).trans hlp, (hst.block _ (Array.getElem?_eq_some_iff.1 hdf).1 (by omega)).trans hdf⟩
      · obtain ⟨hi0, hl0, hk0⟩ := hj
        have hi : I acc W := hI _ _ _ hi0 (LpStep.of_it hst)
        have hlp : W.heap[w.heap.size + 1]? = some (.loop (rec .ready)) := (hst.block _ (Array.getElem?_eq_some_iff.1 hl0).1 (by omega)).trans hl0
        have hk : W.heap[w.heap.size]? = some (.deferred (some [])) := (hst.block _ (Array.getElem?_eq_some_iff.1 hk0).1 (by omega)).trans hk0
        have hlt : w.heap.size + 1 < W.heap.size := (Array.getElem?_eq_some_iff.1 hlp).1
        have hy := run_yield (P := Try.prog) (args := #[.slice A' n c']) hlp (by rw [hrec]; simp [hps])
        rw [hrec] at hy
        refine ⟨fn, _, assign, body, hy, roundIn_of_wpIn hfn (hassign _ m (.slice A' n c') W _ ⟨_, run_beginRound hlp (by rw [hrec]), ?_⟩)⟩
        have hl2 : (W.putObj (w.heap.size + 1) (.loop { rec .ready with state := .busy })).heap[w.heap.size + 1]? = some (.loop { rec .ready with state := .busy }) := World.putObj_heap_same hlt
        have hk2 : (W.putObj (w.heap.size + 1) (.loop { rec .ready with state := .busy })).heap[w.heap.size]? = some (.deferred (some [])) := (World.putObj_heap_other (by omega)).trans hk
        have hf2 : FreshInts V (W.putObj (w.heap.size + 1) (.loop { rec .ready with state := .busy })) A' n x := by
          refine (hf.grownT (grownBy_putObj' W (w.heap.size + 1) _) ?_)
          intro g hg' cur hcur
          injection hg' with hg'
          subst hg'
          rw [hlp] at hcur
          cases hcur
        refine wpIn_mono (hbody _ m acc x V _ A' c' hi0 ((LpStep.of_it hst).trans (LpStep.put _ _ (by omega))) (by omega) hf2 hc' hpre) ?_
        rintro e a3 W3 hp
        cases e with
        | normal =>
          obtain ⟨hk3, hi3⟩ := hp
          have hl3 : W3.heap[w.heap.size + 1]? = some (.loop { rec .ready with state := .busy }) := (hk3.block _ (by simp; omega) (.inr (.inr (by omega)))).trans hl2
          have hd3 : W3.heap[w.heap.size]? = some (.deferred (some [])) := (hk3.block _ (by simp; omega) (.inr (.inr (by omega)))).trans hk2
          have hr := run_endRound (P := Try.prog) none hl3
          rw [hrec] at hr
          refine ⟨_, _, hr, rfl, ⟨hI _ _ _ hi3 (LpStep.put _ _ (by omega)), ?_, (World.putObj_heap_other (by omega)).trans hd3⟩, ?_, ?_⟩
          · rw [hrec]; exact World.putObj_heap_same (Array.getElem?_eq_some_iff.1 hl3).1
          · have := hk3.size; simp at this ⊢; exact this
          · intro k hkk hc
            have hne : k ≠ w.heap.size + 1 := by omega
            refine (World.putObj_heap_other hne).trans ((hk3.block k (by simpa using hkk) ?_).trans (World.putObj_heap_other hne))
            rcases hc with h | h | h
            · exact .inl h
            · exact .inr (.inl h)
            · exact .inr (.inr (by omega))
        | ret => exact hp.elim
        | exit id => exact hp.elim
        | goto t => exact hp.elim
        | panic ch => exact hp.elim
        | outgrown => exact hp.elim
    · rintro e W2 ⟨⟨v, rfl⟩, hi, hlp, hdf⟩
      have := run_endLoop (P := Try.prog) hlp (by rw [hrec]; simp)
      rw [hrec] at this
      exact ⟨none, _, this, hdone _ (hI _ _ _ hi (LpStep.put _ _ (by omega))) (by simpa using (Array.getElem?_eq_some_iff.1 hdf).1) ((World.putObj_heap_other (by omega)).trans hdf)⟩
#print axioms wpIn_rangePerm
end Go.Proofs.Ytcakjhappchlmaa
namespace Go.Proofs.Ytcakjhappchlmaa
open Go.RowKit Go.BigFrame
set_option linter.unusedVariables false

/-- The literal slice of one number and the empty one, as they lie when the orders begin. -/
theorem lit1_own (w : World) : (w.alloc (.cells #[] 3)).ownsRow w.heap.size 3 1 (.slice (some ⟨w.heap.size, 0, none⟩) 0 0) 0 (intCells []) := World.ownsRow_made w #[] 0 (Nat.le_refl _) (by decide) rfl
theorem RInts.grownAt {w w' : World} {g n : Nat} {xs : List Int} {row : Option Nat} (h : RInts w (some ⟨g, 0, none⟩) n xs) (hg : w.grownBy w' row) (hlt : g < w.heap.size) (hne : row ≠ some g) : RInts w' (some ⟨g, 0, none⟩) n xs := by
  have hk := hg.block g hlt hne.symm
  refine ⟨h.1, h.2.1, fun hn => ?_⟩
  obtain ⟨b, off, hA, hl, hc⟩ := h.2.2 hn
  injection hA with hA
  injection hA with e1 e2 _
  subst e1; subst e2
  have hs := World.grownBy.size hg
  exact ⟨g, 0, rfl, by omega, fun i x hx => (World.cell?_of_block (w := w) (a := ⟨g, 0 + i, none⟩) hk).trans (hc i x hx)⟩
/-- The first append of a call's argument, however the region draws. -/
structure Arg1 (wi Wa : World) (ob lb : Nat) (t : Int) : Prop where
  row : Wa.ownsRow wi.heap.size 3 1 (.slice (some ⟨ob, 0, none⟩) 0 0) 0 (intCells [])
  lit : RInts Wa (some ⟨lb, 0, none⟩) 1 [t]
  ne : some ob ≠ some lb
  lt : lb < Wa.heap.size
  below : Below wi.heap.size wi Wa
theorem arg1_b (wi : World) (t : Int) : Arg1 wi ((wi.alloc (.cells #[] 3)).alloc (.cells #[.int .i64 t] 3)).drew wi.heap.size (wi.heap.size + 1) t := by
  refine ⟨((lit1_own wi).alloc _).drew, ?_, by simp, by simp, (((Below.refl _ wi).alloc (Nat.le_refl _) _).alloc (by simp) _).drew⟩
  have h := lit1 (w := wi.alloc (.cells #[] 3)) (H := wi.heap.size + 1) (by simp) t
  exact h
theorem arg1_c (wi : World) (t : Int) : Arg1 wi ((wi.alloc (.cells #[.int .i64 t] 3)).alloc (.cells #[] 3)).drew (wi.heap.size + 1) wi.heap.size t := by
  refine ⟨?_, ?_, by simp, by simp; omega, (((Below.refl _ wi).alloc (Nat.le_refl _) _).alloc (by simp) _).drew⟩
  · have h := World.ownsRow_made (base := wi.heap.size) (e := 3) (size := 1) (wi.alloc (.cells #[.int .i64 t] 3)) #[] 0 (by simp) (by decide) rfl
    rw [World.size_alloc] at h
    exact h.drew
  · have h := (lit1 (w := wi) rfl t).below ((Below.refl _ (wi.alloc (.cells #[.int .i64 t] 3))).alloc (Nat.le_refl _) (.cells #[] 3)) (Nat.le_refl _)
    exact h
end Go.Proofs.Ytcakjhappchlmaa
namespace Go.Proofs.Ytcakjhappchlmaa
open Go.RowKit Go.BigFrame
set_option linter.unusedVariables false

theorem topF_len {list : List Int} {rows : List Nat} (h4 : list.length ≤ 4) (m : Nat) : ∀ pre, (topF list rows m pre).length ≤ 4 ^ m := by
  induction m with
  | zero => intro pre; simp [topF]
  | succ m ih =>
    intro pre
    simp only [topF]
    have : ∀ (l : List Int) (f : Int → List (List Int)), (∀ t, (f t).length ≤ 4 ^ m) → (l.flatMap f).length ≤ l.length * 4 ^ m := by
      intro l f hf
      induction l with
      | nil => simp
      | cons x r ihl =>
        rw [List.flatMap_cons, List.length_append, List.length_cons, Nat.add_mul, Nat.one_mul]
        have := hf x
        omega
    refine Nat.le_trans (this list _ fun t => ?_) ?_
    · split
      · exact ih _
      · simp
    · rw [Nat.pow_succ, Nat.mul_comm]
      exact Nat.mul_le_mul_left _ h4
theorem flat_len {f : Int → List (List Int)} {M : Nat} (hf : ∀ t, (f t).length ≤ M) (l : List Int) : (l.flatMap f).length ≤ l.length * M := by
  induction l with
  | nil => simp
  | cons x r ihl =>
    rw [List.flatMap_cons, List.length_append, List.length_cons, Nat.add_mul, Nat.one_mul]
    have := hf x
    omega
theorem flat_snoc {f : Int → List (List Int)} {list : List Int} {k : Nat} {t : Int} (h : list[k]? = some t) : (list.take (k + 1)).flatMap f = (list.take k).flatMap f ++ f t := by
  rw [take_snoc h, List.flatMap_append]; simp
/-- Whether t may come next, as far as the first q of the list tell. -/
def topOk (list : List Int) (rows : List Nat) (pre : List Int) (t : Int) (q : Nat) : Bool := !(pre.any fun y => y == t) && (list.take q).all (fun v => !edgeB rows v t || pre.any fun y => y == v)
theorem topOk_succ {list : List Int} {rows : List Nat} {pre : List Int} {t v : Int} {q : Nat} (h : list[q]? = some v) : topOk list rows pre t (q + 1) = (topOk list rows pre t q && (!edgeB rows v t || pre.any fun y => y == v)) := by
  unfold topOk
  rw [take_snoc h, List.all_append]
  simp [Bool.and_assoc]
theorem topOk_le {list : List Int} {rows : List Nat} {pre : List Int} {t : Int} {q : Nat} (h : topOk list rows pre t q = false) : topOk list rows pre t list.length = false := by
  cases h' : topOk list rows pre t list.length
  · rfl
  · exfalso
    have h2 : topOk list rows pre t q = true := by
      unfold topOk at h' ⊢
      rw [Bool.and_eq_true] at h' ⊢
      refine ⟨h'.1, List.all_eq_true.2 fun x hx => ?_⟩
      exact (List.all_eq_true.1 h'.2) x (by rw [List.take_length]; exact List.mem_of_mem_take hx)
    rw [h] at h2
    cases h2
/-- What the orders that go on with t are. -/
def topN (list : List Int) (rows : List Nat) (m : Nat) (pre : List Int) (t : Int) : List (List Int) := if topOk list rows pre t list.length then topF list rows m (pre ++ [t]) else []
theorem topF_succ {list : List Int} {rows : List Nat} {m : Nat} {pre : List Int} : topF list rows (m + 1) pre = list.flatMap (topN list rows m pre) := by
  simp only [topF]
  refine flat_congr fun t _ => ?_
  unfold topN topOk
  rw [List.take_length]
theorem topN_len {list : List Int} {rows : List Nat} (h4 : list.length ≤ 4) {m : Nat} (hm : m ≤ 4) {pre : List Int} (t : Int) : (topN list rows m pre t).length ≤ 256 := by
  have h1 : (4:Nat) ^ m ≤ 4 ^ 4 := Nat.pow_le_pow_right (by omega) hm
  unfold topN
  split
  · exact Nat.le_trans (topF_len h4 m _) (by simpa using h1)
  · simp

/-- What the inner loop knows. -/
structure TopAt (A B R : Option Addr) (n h : Nat) (list pre : List Int) (rows : List Nat) (w : World) : Prop where
  list : RInts w A n list
  pre : RInts w B h pre
  rows : RInts w R 4 (rowsI rows)
theorem TopAt.below {A B R : Option Addr} {n h : Nat} {list pre : List Int} {rows : List Nat} {w w' : World} (t : TopAt A B R n h list pre rows w) (hb : Below w.heap.size w w') : TopAt A B R n h list pre rows w' :=
  ⟨t.list.below hb (Nat.le_refl _), t.pre.below hb (Nat.le_refl _), t.rows.below hb (Nat.le_refl _)⟩

/-- What the recursive call is handed. -/
def Arg2 (wi w2 : World) (v2 : Value) (h : Nat) (xs : List Int) : Prop := ∃ B2 c2, v2 = .slice B2 h c2 ∧ RInts w2 B2 h xs ∧ Below wi.heap.size wi w2
theorem Arg2.of {wi Wa w2 : World} {v v2 : Value} {n h : Nat} {xs ys : List Int} (hb : Below wi.heap.size wi Wa) (hown : Wa.ownsRow wi.heap.size 3 1 v n (intCells xs)) (hg : Wa.grownBy w2 v.ownBlock) (h2 : w2.ownsRow wi.heap.size 3 1 v2 h (intCells ys)) (hh : h ≤ 100) : Arg2 wi w2 v2 h ys := by
  obtain ⟨B2, c2, rfl, hc2⟩ := own_form2 h2
  exact ⟨B2, c2, rfl, RInts.of_own h2 (by omega), Below.own hb hown (Nat.le_refl _) hg⟩

end Go.Proofs.Ytcakjhappchlmaa
namespace Go.Proofs.Ytcakjhappchlmaa
open Go.RowKit Go.BigFrame Go.Shelf
set_option linter.unusedVariables false

def goneN (pre : List Int) : Nat := pre.foldl (fun g t => g ||| 1 <<< t.toNat) 0
theorem goneN_snoc (pre : List Int) (t : Int) : goneN (pre ++ [t]) = goneN pre ||| 1 <<< t.toNat := by simp [goneN]
theorem gone_fold (i : Nat) : ∀ (pre : List Int) (g : Nat), (pre.foldl (fun g t => g ||| 1 <<< t.toNat) g).testBit i = (g.testBit i || pre.any fun u => u.toNat == i) := by
  intro pre
  induction pre with
  | nil => intro g; simp
  | cons t r ih =>
    intro g
    rw [List.foldl_cons, ih, List.any_cons, Nat.testBit_or, Bool.or_assoc]
    congr 1
    congr 1
    rw [Nat.one_shiftLeft, Nat.testBit_two_pow]
    by_cases h : t.toNat = i <;> simp [h]
theorem goneN_bit (pre : List Int) (i : Nat) : (goneN pre).testBit i = pre.any fun u => u.toNat == i := by
  unfold goneN; rw [gone_fold]; simp
theorem goneN_lt {pre : List Int} (h : ∀ t ∈ pre, 0 ≤ t ∧ t ≤ 3) : goneN pre < 16 := by
  refine Nat.lt_pow_two_of_testBit (n := 4) _ fun i hi => ?_
  rw [goneN_bit, List.any_eq_false]
  intro u hu
  have := h u hu
  simp
  omega
theorem gone_and {R : List Nat} {pre : List Int} {t : Int} : (R.getD t.toNat 0 &&& goneN pre = 0) ↔ (pre.any fun u => edgeB R t u) = false := by
  constructor
  · intro h
    rw [List.any_eq_false]
    intro u hu he
    have h1 : (R.getD t.toNat 0 &&& goneN pre).testBit u.toNat = false := by rw [h]; simp
    rw [Nat.testBit_and, goneN_bit] at h1
    unfold edgeB at he
    rw [he, Bool.true_and, List.any_eq_false] at h1
    exact h1 u hu (by simp)
  · intro h
    refine Nat.eq_of_testBit_eq fun i => ?_
    rw [Nat.testBit_and, goneN_bit, Nat.zero_testBit]
    cases hb : (pre.any fun u => u.toNat == i)
    · simp
    · rw [List.any_eq_true] at hb
      obtain ⟨u, hu, hui⟩ := hb
      have hui' : u.toNat = i := by simpa using hui
      rw [List.any_eq_false] at h
      have := h u hu
      unfold edgeB at this
      rw [hui'] at this
      simpa using this
/-- One more of an order that goes so far. -/
theorem acc_go {R : List Nat} {x : List Int} {k : Nat} {t : Int} (ht : x[k]? = some t) (ha : accB R [] (x.take k) = true) (h : R.getD t.toNat 0 &&& goneN (x.take k) = 0) : accB R [] (x.take (k + 1)) = true := by
  rw [take_snoc ht, accB_append, ha]
  simp only [accB, List.nil_append, Bool.true_and, Bool.and_true]
  rw [gone_and.1 h]; rfl
theorem acc_no {R : List Nat} {x : List Int} {k : Nat} {t : Int} (ht : x[k]? = some t) (h : ¬ (R.getD t.toNat 0 &&& goneN (x.take k) = 0)) : accB R [] x = false := by
  have e : x = x.take k ++ (t :: x.drop (k + 1)) := by
    rw [List.getElem?_eq_some_iff] at ht
    obtain ⟨hlt, hx⟩ := ht
    conv => lhs; rw [← List.take_append_drop k x]
    rw [List.drop_eq_getElem_cons hlt, hx]
  rw [e, accB_append]
  simp only [accB, List.nil_append]
  have : ((x.take k).any fun u => edgeB R t u) = true := by
    cases hb : ((x.take k).any fun u => edgeB R t u)
    · exact absurd (gone_and.2 hb) h
    · rfl
  rw [this]; simp
theorem gone_take {x : List Int} {k : Nat} {t : Int} (ht : x[k]? = some t) : goneN (x.take (k + 1)) = goneN (x.take k) ||| 1 <<< t.toNat := by
  rw [take_snoc ht, goneN_snoc]
theorem permF_len {list : List Int} (h4 : list.length ≤ 4) (m : Nat) : ∀ pre, (permF list m pre).length ≤ 4 ^ m := by
  induction m with
  | zero => intro pre; simp [permF]
  | succ m ih =>
    intro pre
    rw [permF_succ]
    refine Nat.le_trans (flat_len (M := 4 ^ m) (fun t => ?_) _) ?_
    · unfold permN
      split
      · simp
      · exact ih _
    · rw [Nat.pow_succ, Nat.mul_comm]; exact Nat.mul_le_mul_left _ h4
/-- What an order is made of. -/
theorem permF_sub {list : List Int} (m : Nat) : ∀ pre p, p ∈ permF list m pre → ∀ t ∈ p, t ∈ pre ∨ t ∈ list := by
  induction m with
  | zero => intro pre p hp t ht; simp only [permF, List.mem_singleton] at hp; subst hp; exact .inl ht
  | succ m ih =>
    intro pre p hp t ht
    rw [permF_succ, List.mem_flatMap] at hp
    obtain ⟨u, hu, hp⟩ := hp
    unfold permN at hp
    split at hp
    · cases hp
    · rcases ih _ _ hp t ht with h | h
      · rcases List.mem_append.1 h with h | h
        · exact .inl h
        · rw [List.mem_singleton] at h; subst h; exact .inr hu
      · exact .inr h
theorem permF_length {list : List Int} (m : Nat) : ∀ pre p, p ∈ permF list m pre → p.length = pre.length + m := by
  induction m with
  | zero => intro pre p hp; simp only [permF, List.mem_singleton] at hp; subst hp; simp
  | succ m ih =>
    intro pre p hp
    rw [permF_succ, List.mem_flatMap] at hp
    obtain ⟨u, hu, hp⟩ := hp
    unfold permN at hp
    split at hp
    · cases hp
    · have := ih _ _ hp; simp at this; omega

/-- No two of these slices lie in one block. -/
def ApartR (rv : List Value) : Prop := ∀ (i j : Nat) (a b : Addr) (n m c d : Nat), i ≠ j → rv[i]? = some (Value.slice (some a) n c) → rv[j]? = some (Value.slice (some b) m d) → a.block ≠ b.block
theorem ApartR.nil : ApartR [] := fun i j a b n m c d _ h => by simp at h
theorem ApartR.snoc {rv : List Value} {A : Option Addr} {n c : Nat} (h : ApartR rv) (hA : ∀ (i : Nat) (a : Addr) (m d : Nat) (b : Addr), A = some b → rv[i]? = some (Value.slice (some a) m d) → a.block ≠ b.block) : ApartR (rv ++ [Value.slice A n c]) := by
  intro i j a b n' m' c' d' hij hi hj
  have at2 : ∀ k a n'' c'', (rv ++ [Value.slice A n c])[k]? = some (.slice (some a) n'' c'') → rv[k]? = some (.slice (some a) n'' c'') ∨ (k = rv.length ∧ A = some a) := by
    intro k a n'' c'' hk
    rcases Nat.lt_or_ge k rv.length with h1 | h1
    · rw [List.getElem?_append_left h1] at hk; exact .inl hk
    · rw [List.getElem?_append_right h1] at hk
      rcases Nat.eq_zero_or_pos (k - rv.length) with h0 | h0
      · rw [h0] at hk
        simp only [List.getElem?_cons_zero, Option.some.injEq] at hk
        injection hk with e1 _ _
        exact .inr ⟨by omega, e1⟩
      · rw [List.getElem?_eq_none (by simp; omega)] at hk; cases hk
  rcases at2 i a _ _ hi with h1 | ⟨e1, h1⟩
  · rcases at2 j b _ _ hj with h2 | ⟨e2, h2⟩
    · exact h i j a b _ _ _ _ hij h1 h2
    · exact hA i a _ _ b h2 h1
  · rcases at2 j b _ _ hj with h2 | ⟨e2, h2⟩
    · exact fun e => hA j b _ _ a h1 h2 e.symm
    · omega
/-- The rows' blocks are there. -/
theorem RowsR.blocks {w0 w : World} {rv : List Value} {xss : List (List Int)} (h : RowsR w0 w rv xss) : ∀ (i : Nat) (a : Addr) (m d : Nat), rv[i]? = some (Value.slice (some a) m d) → a.block < w.heap.size := by
  intro i a m d hi
  have hl := (List.getElem?_eq_some_iff.1 hi).1
  obtain ⟨C, c, e, _, hr⟩ := h.2 i _ (List.getElem?_eq_getElem (by rw [← h.1]; exact hl))
  rw [hi] at e
  injection e with e
  injection e with e1 _ _
  obtain ⟨b, cur, e2, _, h2, _⟩ := hr.2 a e1.symm
  rw [e2]
  exact lt_of_block h2
/-- The call hands back these lists in new memory, each in a block of its own. -/
def RetListsA (w0 : World) (xss : List (List Int)) (e : Ending) (w : World) : Prop :=
  ∃ A c rv, e = .returned (.slice A xss.length c) ∧ xss.length ≤ c ∧ OuterR w0 w A xss.length rv ∧ RowsR w0 w rv xss ∧ ApartR rv ∧ Below w0.heap.size w0 w
theorem RetListsA.nil {w0 w : World} (h : Below w0.heap.size w0 w) : RetListsA w0 [] (.returned (.slice none 0 0)) w :=
  ⟨none, 0, [], rfl, Nat.le_refl _, ⟨⟨rfl, by simp, fun h => absurd h (by simp)⟩, fun ad h => by cases h⟩, RowsR.nil, ApartR.nil, h⟩
theorem RetListsA.lists {w0 w : World} {xss : List (List Int)} {e : Ending} (h : RetListsA w0 xss e w) : RetLists w0 xss e w := by
  obtain ⟨A, c, rv, h1, h2, h3, h4, _, h5⟩ := h
  exact ⟨A, c, rv, h1, h2, h3, h4, h5⟩

/-- What a loop over all orders has gathered in 'out', whose box lies at bo. -/
structure OutInv (w0 w : World) (bo q : Nat) (xss : List (List Int)) (V : World) : Prop where
  below : Below w0.heap.size w0 V
  frozen : V.frozen? ⟨bo, 0, none⟩ = false
  out : ∃ ov rv, V.cell? ⟨bo, 0, none⟩ = some ov ∧ V.ownsRow w0.heap.size 34 1 ov xss.length rv ∧ RowsR (six w) V rv xss ∧ ApartR rv ∧ ∀ g, ov.ownBlock = some g → g = q ∨ w.heap.size + 6 ≤ g
theorem own_turned {V W : World} {base : Nat} {e : TypeId} {size n : Nat} {v : Value} {xs : List Value} (h : V.ownsRow base e size v n xs) (hk : ∀ g, v.ownBlock = some g → W.heap[g]? = V.heap[g]?) : W.ownsRow base e size v n xs := by
  refine ⟨h.1, ?_⟩
  rcases h.2 with h1 | ⟨g, cap, cur, e1, h2, h3, h4⟩
  · exact .inl h1
  · exact .inr ⟨g, cap, cur, e1, h2, (hk g (by rw [e1]; simp [Value.ownBlock])).trans h3, h4⟩
theorem FreshInts.turned {w0 V W : World} {A : Option Addr} {n : Nat} {xs : List Int} (h : FreshInts w0 V A n xs) (hs : V.heap.size ≤ W.heap.size) (hk : ∀ g, w0.heap.size ≤ g → g < V.heap.size → (∃ cur, V.heap[g]? = some (.cells cur 3 (0, 0))) → W.heap[g]? = V.heap[g]?) : FreshInts w0 W A n xs := by
  have hblk : ∀ ad, A = some ad → ∃ b cur, ad = ⟨b, 0, none⟩ ∧ w0.heap.size ≤ b ∧ V.heap[b]? = some (.cells cur 3 (0, 0)) ∧ n ≤ cur.size ∧ W.heap[b]? = V.heap[b]? := fun ad had => by
    obtain ⟨b, cur, e, h1, h2, h3⟩ := h.2 ad had
    exact ⟨b, cur, e, h1, h2, h3, hk b h1 (lt_of_block h2) ⟨cur, h2⟩⟩
  refine ⟨⟨h.1.1, h.1.2.1, fun hn => ?_⟩, fun ad had => ?_⟩
  · obtain ⟨b, off, hA, hlt, hc⟩ := h.1.2.2 hn
    obtain ⟨b', cur, e, _, _, _, hkb⟩ := hblk _ hA
    injection e with e1 e2 _
    subst e1
    exact ⟨b, off, hA, by omega, fun i x hx => (World.cell?_of_block (w := V) (a := ⟨b, off + i, none⟩) hkb).trans (hc i x hx)⟩
  · obtain ⟨b, cur, e, h1, h2, h3, hkb⟩ := hblk ad had
    exact ⟨b, cur, e, h1, hkb.trans h2, h3⟩
theorem RowsR.turned {w0 V W : World} {rv : List Value} {xss : List (List Int)} (h : RowsR w0 V rv xss) (hs : V.heap.size ≤ W.heap.size) (hk : ∀ g, w0.heap.size ≤ g → g < V.heap.size → (∃ cur, V.heap[g]? = some (.cells cur 3 (0, 0))) → W.heap[g]? = V.heap[g]?) : RowsR w0 W rv xss :=
  ⟨h.1, fun i xs hi => by obtain ⟨C, c, e, hmc, hr⟩ := h.2 i xs hi; exact ⟨C, c, e, hmc, hr.turned hs hk⟩⟩
theorem OutInv.open_ {w0 w : World} {bo q : Nat} {xss : List (List Int)} {V W : World} (h : OutInv w0 w bo q xss V) (hq : q < w.heap.size) (hw : w0.heap.size ≤ w.heap.size) (hbo : bo < w.heap.size) (hst : LpStep w.heap.size V W) :
    Below w0.heap.size w0 W ∧ W.frozen? ⟨bo, 0, none⟩ = false ∧ ∃ ov rv, W.cell? ⟨bo, 0, none⟩ = some ov ∧ W.ownsRow w0.heap.size 34 1 ov xss.length rv ∧ RowsR (six w) W rv xss ∧ ApartR rv ∧ (∀ g, ov.ownBlock = some g → g = q ∨ w.heap.size + 6 ≤ g) ∧
      ∀ (i : Nat) (a : Addr) (m d : Nat), rv[i]? = some (Value.slice (some a) m d) → a.block < V.heap.size := by
  obtain ⟨hb, hf, ov, rv, hc, hown, hr, hap, hg⟩ := h
  have hbV : bo < V.heap.size := block_lt_of_cell hc
  have kb : W.heap[bo]? = V.heap[bo]? := hst.block bo hbV (by omega)
  refine ⟨⟨hst.os.trans hb.os, hst.tape.trans hb.tape, hst.output.trans hb.output, Nat.le_trans hb.size hst.size, fun k hk => (hst.block k (Nat.lt_of_lt_of_le hk hb.size) (by omega)).trans (hb.block k hk)⟩, ?_, ov, rv, (World.cell?_of_block (w := V) (a := ⟨bo, 0, none⟩) kb).trans hc, ?_, ?_, hap, hg, hr.blocks⟩
  · rw [World.frozen?_of_block (w := V) (a := ⟨bo, 0, none⟩) kb]; exact hf
  · refine own_turned hown fun g hge => hst.block g ?_ (by have := hg g hge; omega)
    rcases hown.2 with ⟨h1, _⟩ | ⟨g', cap, cur, e1, _, h3, _⟩
    · rw [h1] at hge; cases hge
    · rw [e1] at hge
      have : g' = g := by simpa [Value.ownBlock] using hge
      subst this
      exact lt_of_block h3
  · exact hr.turned hst.size fun g h6 hgV _ => hst.block g hgV (by rw [six_size] at h6; omega)
theorem OutInv.step {w0 w : World} {bo q : Nat} {xss : List (List Int)} {V W : World} (h : OutInv w0 w bo q xss V) (hq : q < w.heap.size) (hw : w0.heap.size ≤ w.heap.size) (hbo : bo < w.heap.size) (hst : LpStep w.heap.size V W) : OutInv w0 w bo q xss W := by
  obtain ⟨h1, h2, ov, rv, h3, h4, h5, h6, h7, _⟩ := h.open_ hq hw hbo hst
  exact ⟨h1, h2, ov, rv, h3, h4, h5, h6, h7⟩
theorem OutInv.start {w0 w : World} {bo q : Nat} (hb : Below w0.heap.size w0 w) (hc : w.cell? ⟨bo, 0, none⟩ = some (.slice (some ⟨q, 0, none⟩) 0 0)) (hf : w.frozen? ⟨bo, 0, none⟩ = false) (hown : w.ownsRow w0.heap.size 34 1 (.slice (some ⟨q, 0, none⟩) 0 0) 0 []) : OutInv w0 w bo q [] w :=
  ⟨hb, hf, _, [], hc, hown, RowsR.nil, ApartR.nil, fun g hg => .inl (by simpa [Value.ownBlock, eq_comm] using hg)⟩
/-- One order more in 'out': a list of the call's own, appended; the box of 'out' turned. -/
theorem OutInv.push {w0 w : World} {bo q : Nat} {xss : List (List Int)} {V V1 W : World} {ov ov' : Value} {rv : List Value} {A : Option Addr} {n : Nat} {x : List Int} (hw : w0.heap.size ≤ w.heap.size) (hbo : bo < w.heap.size) (hbo0 : w0.heap.size ≤ bo) (hq : q ≠ bo ∧ q < w.heap.size)
    (hb : Below w0.heap.size w0 V) (hf : V.frozen? ⟨bo, 0, none⟩ = false) (hc : V.cell? ⟨bo, 0, none⟩ = some ov) (hown : V.ownsRow w0.heap.size 34 1 ov xss.length rv) (hr : RowsR (six w) V rv xss) (hap : ApartR (rv ++ [.slice A n n])) (hg : ∀ g, ov.ownBlock = some g → g = q ∨ w.heap.size + 6 ≤ g)
    (hx : FreshInts (six w) V A n x) (hxl : x.length = n) (hb1 : Below V.heap.size V V1) (hlo : w.heap.size + 6 ≤ V.heap.size)
    (hown' : W.ownsRow w0.heap.size 34 1 ov' (xss.length + 1) (rv ++ [.slice A n n])) (hgr : V1.grownBy W ov.ownBlock) (hnew : ov'.ownBlock = ov.ownBlock ∨ ov'.ownBlock = some V1.heap.size) :
    OutInv w0 w bo q (xss ++ [x]) (W.setCell ⟨bo, 0, none⟩ ov') := by
  have hs1 := hb1.size
  have hgs := World.grownBy.size hgr
  have hboV : bo < V.heap.size := block_lt_of_cell hc
  have hown1 : V1.ownsRow w0.heap.size 34 1 ov xss.length rv := own_below hown hb1
  have hne : ov.ownBlock ≠ some bo := fun e => by have := hg bo e; omega
  have hWbo : W.heap[bo]? = V.heap[bo]? := (hgr.block bo (by omega) (fun e => hne e.symm)).trans (hb1.block bo hboV)
  have hbW : Below w0.heap.size w0 W := Below.own (hb.trans (hb1.mono hb.size)) hown1 (Nat.le_refl _) hgr
  have hint : ∀ g, ov.ownBlock = some g → ∀ cur, V1.heap[g]? ≠ some (.cells cur 3 (0, 0)) := own_noInt hown1
  have turn : ∀ g, V.heap.size > g → (∃ cur, V.heap[g]? = some (.cells cur 3 (0, 0))) → g ≠ bo → (W.setCell ⟨bo, 0, none⟩ ov').heap[g]? = V.heap[g]? := by
    intro g hgV ⟨cur, hcur⟩ hgb
    refine (Below.heap_setCell W _ _ g (by simpa using hgb)).trans ?_
    refine (hgr.block g (by omega) ?_).trans (hb1.block g hgV)
    intro e
    exact hint g e.symm cur ((hb1.block g hgV).trans hcur)
  refine ⟨hbW.setCell (by simpa using hbo0) _, ?_, ov', rv ++ [.slice A n n], World.cell?_setCell_same' _ _ _ ?_, ?_, ?_, hap, ?_⟩
  · rw [World.frozen?_setCell, World.frozen?_of_block (w := V) (a := ⟨bo, 0, none⟩) hWbo]; exact hf
  · rw [World.cell?_of_block (w := V) (a := ⟨bo, 0, none⟩) hWbo, hc]; rfl
  · rw [List.length_append, List.length_singleton]
    refine own_turned hown' fun g hge => Below.heap_setCell W _ _ g ?_
    intro e
    simp only at e
    subst e
    rcases hnew with h | h
    · rw [h] at hge; have := hg _ hge; omega
    · rw [h] at hge; injection hge with hge; omega
  · refine RowsR.append (hr.turned (by simp [World.setCell]; omega) fun g h6 hgV hcur => turn g hgV hcur (by rw [six_size] at h6; omega)) ?_
    exact RowsR.lit hxl (Nat.le_refl _) (hx.turned (by simp [World.setCell]; omega) fun g h6 hgV hcur => turn g hgV hcur (by rw [six_size] at h6; omega))
  · intro g hge
    rcases hnew with h | h
    · rw [h] at hge; exact hg g hge
    · rw [h] at hge; injection hge with hge; exact .inr (by omega)
/-- What such a push keeps of all else. -/
theorem push_keep {w : World} {bo q bx n0 : Nat} {V V1 W : World} {ov ov' : Value} (hbo : bo < w.heap.size) (hn0 : n0 ≤ bo ∧ n0 ≤ q) (hne : bx ≠ bo ∧ bx ≠ q ∧ bx < w.heap.size) (hq : q < w.heap.size)
    (hg : ∀ g, ov.ownBlock = some g → g = q ∨ w.heap.size + 6 ≤ g) (hn0w : n0 ≤ w.heap.size) (hb1 : Below V.heap.size V V1) (hgr : V1.grownBy W ov.ownBlock) :
    BdKeep w.heap.size bx n0 V (W.setCell ⟨bo, 0, none⟩ ov') := by
  have hs1 := hb1.size
  have hgs := World.grownBy.size hgr
  refine ⟨by simp [World.setCell]; omega, fun k hk hc => ?_⟩
  refine (Below.heap_setCell W _ _ k ?_).trans ((hgr.block k (by omega) ?_).trans (hb1.block k hk))
  · simp only; omega
  · intro e
    have := hg k e.symm
    omega
theorem push_cell {w : World} {bo q p : Nat} {V V1 W : World} {ov ov' v : Value} (hg : ∀ g, ov.ownBlock = some g → g = q ∨ w.heap.size + 6 ≤ g) (hp : p < w.heap.size) (hpq : p ≠ q) (hpb : p ≠ bo) (hb1 : Below V.heap.size V V1) (hgr : V1.grownBy W ov.ownBlock)
    (hc : V.cell? ⟨p, 0, none⟩ = some v) : (W.setCell ⟨bo, 0, none⟩ ov').cell? ⟨p, 0, none⟩ = some v := by
  have hpV : p < V.heap.size := block_lt_of_cell hc
  have hs1 := hb1.size
  refine (World.cell?_of_block (w := V) (a := ⟨p, 0, none⟩) ?_).trans hc
  refine (Below.heap_setCell W _ _ p (by simpa using hpb)).trans ((hgr.block p (by omega) ?_).trans (hb1.block p hpV))
  intro e
  have := hg p e.symm
  omega
end Go.Proofs.Ytcakjhappchlmaa
namespace Go.Proofs.Ytcakjhappchlmaa
open Go.RowKit Go.BigFrame
set_option linter.unusedVariables false

/-- The best circle so far, as its variable tells; its block is not the path's. -/
def BestIs (H : Nat) (best : List Int) (bv pv : Value) (W : World) : Prop :=
  (best = [] ∧ bv = .slice none 0 0) ∨ (best ≠ [] ∧ ∃ b c cur, bv = .slice (some ⟨b, 0, none⟩) best.length c ∧ best.length ≤ c ∧ RInts W (some ⟨b, 0, none⟩) best.length best ∧ H + 5 ≤ b ∧ W.heap[b]? = some (.cells cur 3 (0, 0)) ∧ best.length ≤ cur.size ∧ pv.ownBlock ≠ some b)
structure CirAt (H : Nat) (G : Option Addr) (gc : Nat) (R : List Nat) (path best : List Int) (W : World) : Prop where
  gcell : W.cell? ⟨H, 0, none⟩ = some (.slice G 4 gc)
  fcell : W.cell? ⟨H + 4, 0, none⟩ = some (.func (.func 186) #[] #[.pointer (some ⟨H + 3, 0, none⟩), .pointer (some ⟨H, 0, none⟩), .pointer (some ⟨H + 1, 0, none⟩), .pointer (some ⟨H + 4, 0, none⟩)])
  rows : RInts W G 4 (rowsI R)
  gblk : ∀ a, G = some a → a.block < H
  pf : W.frozen? ⟨H + 3, 0, none⟩ = false
  bf : W.frozen? ⟨H + 1, 0, none⟩ = false
  box : ∃ pv bv, W.cell? ⟨H + 3, 0, none⟩ = some pv ∧ W.cell? ⟨H + 1, 0, none⟩ = some bv ∧ W.ownsRow H 3 1 pv path.length (intCells path) ∧ (∀ g, pv.ownBlock = some g → g = H + 2 ∨ H + 5 ≤ g) ∧ BestIs H best bv pv W
theorem CirAt.sz {H : Nat} {G : Option Addr} {gc : Nat} {R : List Nat} {path best : List Int} {W : World} (h : CirAt H G gc R path best W) : H + 5 ≤ W.heap.size := by
  have : H + 4 < W.heap.size := block_lt_of_cell h.fcell
  omega
/-- Blocks that did not turn. -/
theorem CirAt.kept {H : Nat} {G : Option Addr} {gc : Nat} {R : List Nat} {path path' best : List Int} {W W' : World} {pv pv' : Value} (h : CirAt H G gc R path best W) (hpc : W.cell? ⟨H + 3, 0, none⟩ = some pv) (hs : W.heap.size ≤ W'.heap.size)
    (hk : ∀ k, k < W.heap.size → k ≠ H + 3 → pv.ownBlock ≠ some k → W'.heap[k]? = W.heap[k]?) (hc : W'.cell? ⟨H + 3, 0, none⟩ = some pv') (hf : W'.frozen? ⟨H + 3, 0, none⟩ = false)
    (hown : W'.ownsRow H 3 1 pv' path'.length (intCells path')) (hg : ∀ g, pv'.ownBlock = some g → (pv.ownBlock = some g ∨ W.heap.size ≤ g)) : CirAt H G gc R path' best W' := by
  have hsz := h.sz
  obtain ⟨h1, h2, h3, h4, h5, h6, pv0, bv, e1, e2, e3, e4, e5⟩ := h
  rw [hpc] at e1
  injection e1 with e1
  subst e1
  have nb : ∀ k, k < H + 5 → k ≠ H + 2 → pv.ownBlock ≠ some k := fun k hk5 hk2 e => by have := e4 k e; omega
  have cb : ∀ k o, k < H + 5 → k ≠ H + 2 → k ≠ H + 3 → W'.cell? ⟨k, o, none⟩ = W.cell? ⟨k, o, none⟩ := fun k o a b c => World.cell?_of_block (w := W) (a := ⟨k, o, none⟩) (hk k (by omega) c (nb k a b))
  refine ⟨(cb H 0 (by omega) (by omega) (by omega)).trans h1, (cb (H + 4) 0 (by omega) (by omega) (by omega)).trans h2, ?_, h4, hf, ?_, pv', bv, hc, (cb (H + 1) 0 (by omega) (by omega) (by omega)).trans e2, hown, fun g hge => ?_, ?_⟩
  · refine h3.kept hs fun ad had => ?_
    have := h4 ad had
    refine hk _ (by omega) (by omega) fun e => ?_
    rcases World.ownsRow.lt e3 _ e with ⟨h7, _⟩
    omega
  · unfold World.frozen? at h6 ⊢
    rw [hk (H + 1) (by omega) (by omega) (nb _ (by omega) (by omega))]
    exact h6
  · rcases hg g hge with h7 | h7
    · exact e4 g h7
    · exact .inr (by omega)
  · rcases e5 with ⟨a, b⟩ | ⟨a, b, c, cur, h7, h8, h9, h10, h11, h12, h13⟩
    · exact .inl ⟨a, b⟩
    · have hb : b < W.heap.size := lt_of_block h11
      have hkb := hk b hb (by omega) h13
      refine .inr ⟨a, b, c, cur, h7, h8, h9.kept hs (fun ad had => by injection had with had; subst had; exact hkb), h10, hkb.trans h11, h12, fun e => ?_⟩
      rcases hg b e with h14 | h14
      · exact h13 h14
      · omega
theorem CirAt.below {H : Nat} {G : Option Addr} {gc : Nat} {R : List Nat} {path best : List Int} {W W' : World} (h : CirAt H G gc R path best W) (hb : Below W.heap.size W W') : CirAt H G gc R path best W' := by
  have hsz := h.sz
  obtain ⟨pv, bv, e1, e2, e3, e4, e5⟩ := h.box
  refine h.kept e1 hb.size (fun k hk _ _ => hb.block k hk) ((hb.cell (p := ⟨H + 3, 0, none⟩) (by simp; omega)).trans e1) ?_ (own_below e3 hb) (fun g hg => .inl hg)
  have := h.pf
  rw [← this]
  exact hb.frozen (p := ⟨H + 3, 0, none⟩) (by simp; omega)
theorem CirAt.push {H : Nat} {G : Option Addr} {gc : Nat} {R : List Nat} {path best : List Int} {W w' : World} {pv v' : Value} {t : Int} {S : Nat} (h : CirAt H G gc R path best W) (hp : W.cell? ⟨H + 3, 0, none⟩ = some pv)
    (hown : w'.ownsRow H 3 1 v' (path.length + 1) (intCells (path ++ [t]))) (hg : W.grownBy w' pv.ownBlock) (hS : W.heap.size ≤ S) (hat : v'.ownBlock = pv.ownBlock ∨ v'.ownBlock = some S) :
    w'.cell? ⟨H + 3, 0, none⟩ = some pv ∧ w'.frozen? ⟨H + 3, 0, none⟩ = false ∧ CirAt H G gc R (path ++ [t]) best (w'.setCell ⟨H + 3, 0, none⟩ v') ∧ Below H W (w'.setCell ⟨H + 3, 0, none⟩ v') := by
  have hsz := h.sz
  obtain ⟨pv0, bv, e1, e2, e3, e4, e5⟩ := h.box
  rw [hp] at e1
  injection e1 with e1
  subst e1
  have hgs := World.grownBy.size hg
  have hne : some (H + 3) ≠ pv.ownBlock := fun e => by have := e4 _ e.symm; omega
  have c1 : w'.cell? ⟨H + 3, 0, none⟩ = some pv := (cell_grown hg (p := ⟨H + 3, 0, none⟩) (by simp; omega) hne).trans hp
  have f1 : w'.frozen? ⟨H + 3, 0, none⟩ = false := (frozen_grown hg (p := ⟨H + 3, 0, none⟩) (by simp; omega) hne).trans h.pf
  have hv3 : ∀ g, v'.ownBlock = some g → g ≠ H + 3 := fun g hge e => by
    rcases hat with h1 | h1
    · rw [h1] at hge; have := e4 g hge; omega
    · rw [h1] at hge; injection hge with hge; omega
  refine ⟨c1, f1, ?_, ?_⟩
  · refine h.kept hp (by simp [World.setCell]; omega) (fun k hk h3 hne => ?_) (World.cell?_setCell_same' _ _ _ (by rw [c1]; rfl)) (by rw [World.frozen?_setCell]; exact f1) ?_ (fun g hge => ?_)
    · exact (Below.heap_setCell w' _ _ k (by simpa using h3)).trans (hg.block k hk (fun e => hne e.symm))
    · rw [List.length_append, List.length_singleton]
      exact own_turned hown fun g hge => Below.heap_setCell w' _ _ g (by simpa using hv3 g hge)
    · rcases hat with h1 | h1
      · rw [h1] at hge; exact .inl hge
      · rw [h1] at hge; injection hge with hge; exact .inr (by omega)
  · have hb : Below H W w' := ⟨hg.os, hg.tape, hg.output, hgs, fun k hk => hg.block k (by omega) (fun e => by have := e4 _ e.symm; omega)⟩
    exact hb.setCell (by simp) _
theorem CirAt.pop {H : Nat} {G : Option Addr} {gc : Nat} {R : List Nat} {path best : List Int} {W : World} {t : Int} (h : CirAt H G gc R (path ++ [t]) best W) :
    ∃ g c, W.cell? ⟨H + 3, 0, none⟩ = some (.slice (some ⟨g, 0, none⟩) (path.length + 1) c) ∧ path.length + 1 ≤ c ∧ c ≤ 9223372036854775807 ∧ W.frozen? ⟨H + 3, 0, none⟩ = false ∧
      CirAt H G gc R path best (W.setCell ⟨H + 3, 0, none⟩ (.slice (some ⟨g, 0, none⟩) path.length c)) ∧ Below H W (W.setCell ⟨H + 3, 0, none⟩ (.slice (some ⟨g, 0, none⟩) path.length c)) := by
  have hsz := h.sz
  obtain ⟨pv, bv, e1, e2, e3, e4, e5⟩ := h.box
  have e3' := e3
  rw [List.length_append, List.length_singleton] at e3'
  rcases e3'.2 with ⟨_, h0⟩ | ⟨g, cap, cur, rfl, h2, h3, h4, h5, _⟩
  · omega
  · have hg3 : g ≠ H + 3 := by have := e4 g (by simp [Value.ownBlock]); omega
    refine ⟨g, cap, e1, h4, by unfold maxLen at h5; omega, h.pf, ?_, (Below.refl _ _).setCell (by simp) _⟩
    refine h.kept e1 (by simp [World.setCell]) (fun k hk h3 _ => Below.heap_setCell W _ _ k (by simpa using h3)) (World.cell?_setCell_same' _ _ _ (by rw [e1]; rfl)) (by rw [World.frozen?_setCell]; exact h.pf) ?_ (fun g' hge => .inl (by simpa [Value.ownBlock] using hge))
    exact own_turned (own_less e3' rfl) fun g' hge => Below.heap_setCell W _ _ g' (by
      have : g = g' := by simpa [Value.ownBlock] using hge
      subst this; simpa using hg3)
theorem CirAt.better {H : Nat} {G : Option Addr} {gc : Nat} {R : List Nat} {path best : List Int} {W W' : World} {A : Option Addr} {c : Nat} (h : CirAt H G gc R path best W) (hne : path ≠ []) (hf : FreshInts W W' A path.length path) (hc : path.length ≤ c) (hb : Below W.heap.size W W') :
    (∃ bv, W'.cell? ⟨H + 1, 0, none⟩ = some bv) ∧ W'.frozen? ⟨H + 1, 0, none⟩ = false ∧ CirAt H G gc R path path (W'.setCell ⟨H + 1, 0, none⟩ (.slice A path.length c)) ∧ Below H W (W'.setCell ⟨H + 1, 0, none⟩ (.slice A path.length c)) := by
  have hsz := h.sz
  have h' := h.below hb
  have hs := hb.size
  obtain ⟨h1, h2, h3, h4, h5, h6, pv, bv, e1, e2, e3, e4, e5⟩ := h'
  have hpl : 0 < path.length := List.length_pos_iff.2 hne
  obtain ⟨b0, off0, x0, hA, _, _, _⟩ := hf.1.at_ hpl
  obtain ⟨b, cur, hA', hbge, hbh, hbc⟩ := hf.2 _ hA
  rw [hA'] at hA
  subst hA
  have kb : ∀ k, k ≠ H + 1 → (W'.setCell ⟨H + 1, 0, none⟩ (.slice (some ⟨b, 0, none⟩) path.length c)).heap[k]? = W'.heap[k]? := fun k hk => Below.heap_setCell W' _ _ k (by simpa using hk)
  have cb : ∀ k o, k ≠ H + 1 → (W'.setCell ⟨H + 1, 0, none⟩ (.slice (some ⟨b, 0, none⟩) path.length c)).cell? ⟨k, o, none⟩ = W'.cell? ⟨k, o, none⟩ := fun k o hk => World.cell?_of_block (w := W') (a := ⟨k, o, none⟩) (kb k hk)
  -- the path's row lies in older memory
  obtain ⟨pv1, bv1, d1, _, d3, _, _⟩ := h.box
  have hpv : pv1 = pv := by
    have := (hb.cell (p := ⟨H + 3, 0, none⟩) (by simp; omega)).trans d1
    rw [e1] at this
    injection this with this
    exact this.symm
  subst hpv
  have hpb : pv1.ownBlock ≠ some b := fun e => by have := (World.ownsRow.lt d3 _ e).2; omega
  refine ⟨⟨bv, e2⟩, h6, ⟨(cb H 0 (by omega)).trans h1, (cb (H + 4) 0 (by omega)).trans h2, ?_, h4, by rw [World.frozen?_setCell]; exact h5, by rw [World.frozen?_setCell]; exact h6, pv1, _, (cb (H + 3) 0 (by omega)).trans e1, World.cell?_setCell_same' _ _ _ (by rw [e2]; rfl), ?_, e4, .inr ⟨hne, b, c, cur, rfl, hc, ?_, by omega, (kb b (by omega)).trans hbh, hbc, hpb⟩⟩, ?_⟩
  · exact h3.kept (by simp [World.setCell]) fun ad had => kb _ (by have := h4 ad had; omega)
  · exact own_turned e3 fun g hge => kb g (by have := e4 g hge; omega)
  · exact hf.1.kept (by simp [World.setCell]) fun ad had => kb _ (by injection had with had; subst had; simp only; omega)
  · exact (hb.mono (by omega)).setCell (by simp) _
end Go.Proofs.Ytcakjhappchlmaa
namespace Go.Proofs.Ytcakjhappchlmaa
open Go.RowKit Go.BigFrame
set_option linter.unusedVariables false

set_option maxRecDepth 100000 in
set_option maxHeartbeats 1000000 in
theorem circle11_any {H : Nat} {G : Option Addr} {gc : Nat} {R : List Nat} {path best : List Int} {t : Int} {W : World} (u : FrameMode) (h : CirAt H G gc R (path ++ [t]) best W) (hl : path.length ≤ 4) :
    CallsD Try.prog 187 #[.pointer (some ⟨H + 3, 0, none⟩)] u W fun e u' w' => u' = u ∧ (e = .returned (.tuple #[]) ∧ CirAt H G gc R path best w' ∧ Below H W w') := by
  obtain ⟨g, c, hc, hlc, hcm, hf, hC, hB⟩ := h.pop
  have HC := Lib.hid (And.intro hC hB)
  obtain ⟨n, hn⟩ : ∃ n, path.length = n := ⟨_, rfl⟩
  rw [hn] at hc hlc HC hl
  have hnc : (n : Int) ≤ (c : Int) := by omega
  clear h hC hB hn
  go_enter_d Try.func187, Try.ntmps187
  go_wp2_with fail
  go_end0
  exact ⟨rfl, HC.out⟩

/-- One more of those who may come next. -/
def cirTo (R : List Nat) (m : Nat) (p b : List Int) (t : Int) (k : Nat) : List Int :=
  ([0, 1, 2, 3].take k).foldl (fun b u => if edgeB R t u && decide (p.headD 0 < u) && !(p.any fun y => y == u) then cirF R m p b u else b) b
theorem cirTo_succ {R : List Nat} {m : Nat} {p b : List Int} {t : Int} {k : Nat} (h : k < 4) : cirTo R m p b t (k + 1) = if edgeB R t (k : Int) && decide (p.headD 0 < (k : Int)) && !(p.any fun y => y == (k : Int)) then cirF R m p (cirTo R m p b t k) (k : Int) else cirTo R m p b t k := by
  have e : [(0 : Int), 1, 2, 3][k]? = some (k : Int) := by
    rcases (by omega : k = 0 ∨ k = 1 ∨ k = 2 ∨ k = 3) with rfl | rfl | rfl | rfl <;> rfl
  unfold cirTo
  rw [take_snoc e, List.foldl_append]; rfl
def cirB (R : List Nat) (p best : List Int) (t : Int) : List Int := if edgeB R t (p.headD 0) && (best.isEmpty || decide (p.length < best.length)) then p else best
theorem cirF_succ (R : List Nat) (m : Nat) (path best : List Int) (t : Int) : cirF R (m + 1) path best t = cirTo R m (path ++ [t]) (cirB R (path ++ [t]) best t) t 4 := rfl

theorem getD_lt {R : List Nat} (h : Rows4 R) {t : Nat} : R.getD t 0 < 16 := by
  rw [List.getD_eq_getElem?_getD]
  cases e : R[t]? with
  | none => simp
  | some x => simpa using h.2 x (List.mem_of_getElem? e)
structure PathOk (p : List Int) : Prop where
  nodup : p.Nodup
  rng : ∀ x ∈ p, 0 ≤ x ∧ x ≤ 3
theorem PathOk.len {p : List Int} (h : PathOk p) : p.length ≤ 4 := by
  have := nodup_len (l1 := p) (l2 := [0, 1, 2, 3]) h.nodup (fun x hx => by
    have := h.rng x hx
    rcases (by omega : x = 0 ∨ x = 1 ∨ x = 2 ∨ x = 3) with rfl | rfl | rfl | rfl <;> simp)
  simpa using this
theorem PathOk.snoc {p : List Int} {t : Int} (h : PathOk p) (ht : t ∉ p) (hr : 0 ≤ t ∧ t ≤ 3) : PathOk (p ++ [t]) := by
  refine ⟨?_, fun x hx => ?_⟩
  · rw [List.nodup_append]
    refine ⟨h.nodup, by simp, ?_⟩
    intro a ha b hb
    rw [List.mem_singleton] at hb
    subst hb
    exact fun e => ht (e ▸ ha)
  · rcases List.mem_append.1 hx with hx | hx
    · exact h.rng x hx
    · rw [List.mem_singleton] at hx; subst hx; exact hr

set_option maxRecDepth 100000 in
set_option maxHeartbeats 4000000 in
theorem circle1_any (H : Nat) (G : Option Addr) (gc : Nat) (R : List Nat) (h4 : Rows4 R) (h4' : Rows4 R) (m : Nat) : ∀ (path best : List Int) (t : Int) (W : World), CirAt H G gc R path best W → PathOk path → t ∉ path → 0 ≤ t ∧ t ≤ 3 → path.length + m = 4 →
    Calls Try.prog 186 #[.int .i64 t, .pointer (some ⟨H + 3, 0, none⟩), .pointer (some ⟨H, 0, none⟩), .pointer (some ⟨H + 1, 0, none⟩), .pointer (some ⟨H + 4, 0, none⟩)] W fun e W' =>
      e = .returned (.tuple #[]) ∧ CirAt H G gc R path (cirF R m path best t) W' ∧ Below H W W' := by
  induction m with
  | zero =>
    intro path best t W hC hp ht hr hl
    exfalso
    have := (hp.snoc ht hr).len
    simp at this
    omega
  | succ m ih =>
    intro path best t W hC hp ht hr hl
    obtain ⟨pv, bv, e1, e2, e3, e4, e5⟩ := hC.box
    obtain ⟨Ap, cp, rfl, hcp⟩ := own_form2 e3
    have hsz := hC.sz
    obtain ⟨n, hn⟩ : ∃ n, path.length = n := ⟨_, rfl⟩
    rw [hn] at e1 e3 e4 hcp
    have hpush : ∀ v' w', w'.ownsRow H 3 1 v' (n + 1) (intCells (path ++ [t])) → (W.alloc (.cells #[.int .i64 t] 3)).grownBy w' (Value.slice Ap n cp).ownBlock → (v'.ownBlock = (Value.slice Ap n cp).ownBlock ∨ v'.ownBlock = some (W.alloc (.cells #[.int .i64 t] 3)).heap.size) →
        w'.cell? ⟨H + 3, 0, none⟩ = some (.slice Ap n cp) ∧ w'.frozen? ⟨H + 3, 0, none⟩ = false ∧ CirAt H G gc R (path ++ [t]) best (w'.setCell ⟨H + 3, 0, none⟩ v') ∧ Below H W (w'.setCell ⟨H + 3, 0, none⟩ v') := fun v' w' a b c =>
      hC.push e1 (by rw [hn]; exact a) (World.grownBy.trans (World.grownBy_alloc W _ _) b) (by simp) c
    have hpok := hp.snoc ht hr
    have HPUSH := Lib.hid hpush
    have HOWN := Lib.hid e3
    have HPOK := Lib.hid hpok
    have HIH := Lib.hid ih
    have H4 := Lib.hid h4
    have HF := Lib.hid (cirF_succ R m path best t)
    have HN := Lib.hid hn
    have hn3 : n + m + 1 = 4 := by omega
    have c0 := hC.gcell
    clear hpush e3 e4 e5 e2 hC hp hn ih h4 hpok ht hl
    go_enter_defers Try.func186, Try.ntmps186
    go_wp2_with (at_builtin; refine app_ints (.tmp 7) (.tmp 9) (HOWN.out.alloc _) (by simp; omega) (lit1 rfl t) (by omega) rfl rfl rfl rfl ?_; intro v1 w1 hown1 hg1 hat1; obtain ⟨A1, c1, rfl, hcc1⟩ := own_form2 hown1; obtain ⟨hc1, hf1, hC1, hB1⟩ := HPUSH.out _ w1 hown1 hg1 hat1)
    obtain ⟨W2, hW2⟩ : ∃ W2, w1.setCell ⟨H + 3, 0, none⟩ (.slice A1 (n + 1) c1) = W2 := ⟨_, rfl⟩
    rw [hW2] at hC1 hB1 ⊢
    clear hW2 hc1 hf1 hown1 hg1 hat1
    obtain ⟨P, hP⟩ : ∃ P, path ++ [t] = P := ⟨_, rfl⟩
    rw [hP] at hC1 HPOK HF
    have hPN : P.length = n + 1 := by rw [← hP]; simp [HN.out]
    obtain ⟨T, rfl⟩ := Int.eq_ofNat_of_zero_le hr.1
    obtain ⟨x0, rest, hPc⟩ : ∃ x0 rest, P = x0 :: rest := by
      cases P with
      | nil => simp at hPN
      | cons a b => exact ⟨a, b, rfl⟩
    have hx0 := HPOK.out.rng x0 (by rw [hPc]; simp)
    obtain ⟨K0, rfl⟩ := Int.eq_ofNat_of_zero_le hx0.1
    have hPH : P.headD 0 = (K0 : Int) := by rw [hPc]; rfl
    have hP0 : P[0]? = some (K0 : Int) := by rw [hPc]; rfl
    obtain ⟨r, hr0⟩ : ∃ r, R.getD T 0 = r := ⟨_, rfl⟩
    have hr16 := getD_lt h4' (t := T)
    rw [hr0] at hr16
    have HPN := Lib.hid hPN
    have HPH := Lib.hid hPH
    have HP0 := Lib.hid hP0
    have HPD := Lib.hid hP
    have HRT := Lib.hid hr0
    have hT4 : (T : Int) < 4 := by omega
    have hT0 : (0 : Int) ≤ (T : Int) := by omega
    obtain ⟨pv, bv2, e1', e2', e3', _, e5'⟩ := hC1.box
    rw [HPN.out] at e3'
    rcases e3'.2 with ⟨_, h0⟩ | ⟨g, cap, cur, rfl, _, _, hcap, hcm, _⟩
    · omega
    obtain ⟨b3, off3, x3, hA3, hb3, hx3, hxc3⟩ := (RInts.of_own e3' (by omega)).at_ (k := 0) (by omega)
    injection hA3 with hA3; injection hA3 with q1 q2 _; subst q1; subst q2
    rw [HP0.out] at hx3
    injection hx3 with hx3
    subst hx3
    simp only [Nat.add_zero] at hxc3
    obtain ⟨bG, offG, hGe, hbG, hgc3, _⟩ := rowsI_at3 H4.out hC1.rows (t := T) (by omega)
    rw [HRT.out] at hgc3
    have hg0 := hC1.gcell
    have hab := and_bit r K0 (by omega)
    have hmn : min K0 64 = K0 := by omega
    obtain ⟨b1, hb1⟩ : ∃ b, r.testBit K0 = b := ⟨_, rfl⟩
    rw [hb1] at hab
    have hedge : edgeB R (T : Int) (P.headD 0) = b1 := by rw [HPH.out]; unfold edgeB; rw [Int.toNat_natCast, Int.toNat_natCast, HRT.out, hb1]
    have HEDGE := Lib.hid hedge
    have HC1 := Lib.hid hC1
    have HRI := Lib.hid (RInts.of_own e3' (by omega))
    have G0 := Later.cell hg0
    have G1 := Later.cell e1'
    have G2 := Later.cell hxc3
    have G4 := Later.cell e2'
    have hBI := e5'
    have hK0 : (0 : Int) ≤ (K0 : Int) := by omega
    subst hGe
    have G3 := Later.cell hgc3
    have HB1 := Lib.hid hB1
    clear hPN hPH hP0 hP hr0 e1' e2' e3' e5' hb1 hedge hC1 hg0 hxc3 hgc3 hPc hx0 hB1 c0 e1
    have HFC : Hid (∀ B, cirB R P best (T : Int) = B → cirTo R m P B (T : Int) 4 = cirF R (m + 1) path best (T : Int)) := fun B hB => by rw [HF.out, hB]
    cases b1
    · have hBB : cirB R P best (T : Int) = best := by unfold cirB; rw [HEDGE.out]; simp
      obtain ⟨B1, hB1e⟩ : ∃ B1, best = B1 := ⟨_, rfl⟩
      have HFB := Lib.hid (HFC.out _ (hBB.trans hB1e))
      refine region_later (by kernel_rfl) (by kernel_rfl) ?_
      repeat (go_big_quiet_step (fail))
      refine wpQuiet_nil ?_
      rintro _ ⟨u, rfl⟩
      have hCu := HC1.out.below u.2
      have HC3 : Hid (CirAt H (some ⟨bG, offG, none⟩) gc R P B1 u.1 ∧ Below H W u.1) := ⟨hB1e ▸ hCu, HB1.out.trans (u.2.mono (by have := HC1.out.sz; omega))⟩
      have hgu := hCu.gcell
      clear hCu hBB hBI HC1 HB1 hB1e
      obtain ⟨w3, hw3⟩ : ∃ w3, u.1 = w3 := ⟨_, rfl⟩
      rw [hw3] at HC3 hgu ⊢
      clear hw3
      go_wp2_with fail
      go_loopw [37] (fun i wr => ∃ k : Nat, k ≤ 4 ∧ i = .int .i64 k ∧ CirAt H (some ⟨bG, offG, none⟩) gc R P (cirTo R m P B1 (T : Int) k) wr ∧ Below H W wr) (fun i _ => 4 - (intOf i).toNat)
      case atStart => exact ⟨0, by omega, rfl, HC3.out.1, HC3.out.2⟩
      case round =>
        clear HC3
        obtain ⟨k, hk, rfl, hC, hB⟩ := hrel
        have HC := Lib.hid hC
        have HB := Lib.hid hB
        by_cases hlt : k < 4
        · obtain ⟨pv, bv3, e1, _, e3, _, _⟩ := hC.box
          have hri := e3
          rw [HPN.out] at hri e3
          rcases hri.2 with ⟨_, h0⟩ | ⟨g3, cap3, cur3, rfl, _, _, hcap3, hcm3, _⟩
          · omega
          obtain ⟨b3, off3, x3, hA3, hb3, hx3, hxc3⟩ := (RInts.of_own e3 (by omega)).at_ (k := 0) (by omega)
          injection hA3 with hA3; injection hA3 with q1 q2 _; subst q1; subst q2
          rw [HP0.out] at hx3
          injection hx3 with hx3
          subst hx3
          simp only [Nat.add_zero] at hxc3
          obtain ⟨bG', offG', hGe, hbG', hgc3, _⟩ := rowsI_at3 H4.out hC.rows (t := T) (by omega)
          have hg0 := hC.gcell
          injection hGe with hGe; injection hGe with q1 q2 _; subst q1; subst q2
          rw [HRT.out] at hgc3
          have hab := and_bit r k (by omega)
          have hmn : min k 64 = k := by omega
          obtain ⟨b1, hb1⟩ : ∃ b, r.testBit k = b := ⟨_, rfl⟩
          obtain ⟨b4, hb4⟩ : ∃ b, (P.any fun y => y == (k : Int)) = b := ⟨_, rfl⟩
          have hT := cirTo_succ (R := R) (m := m) (p := P) (b := B1) (t := (T : Int)) hlt
          have hedge : edgeB R (T : Int) (k : Int) = b1 := by unfold edgeB; rw [Int.toNat_natCast, Int.toNat_natCast, HRT.out, hb1]
          rw [hedge, HPH.out, hb4] at hT
          rw [hb1] at hab
          have HT := Lib.hid hT
          have HCN := Lib.hid (ContainsS_any (some ⟨g3, 0, none⟩) (n + 1) cap3 P (k : Int) wr (RInts.of_own e3 (by omega)))
          rw [hb4] at HCN
          have HB4 := Lib.hid hb4
          have l1 : (k : Int) < 4 := by omega
          have l2 : (0 : Int) ≤ (k : Int) := by omega
          clear hT hedge hb1 hb4 e3 hri hC hB
          cases b1
          · have hz : Hid (cirTo R m P B1 (T : Int) (k + 1) = cirTo R m P B1 (T : Int) k) := by show _ = _; rw [HT.out]; simp
            go_wp2_with fail
            go_roundw
            case rel => exact ⟨k + 1, by omega, by go_num, by rw [hz.out]; exact HC.out, HB.out⟩
            case measure => simp [intOf]; omega
          · by_cases h2 : (K0 : Int) < (k : Int)
            · go_wp2_with fail
              refine HCN.out.mono ?_
              rintro e w5 ⟨rfl, hb5⟩
              have hC5 := HC.out.below hb5
              have hB5 := HB.out.trans (hb5.mono (by have := HB.out.size; have := HC.out.sz; omega))
              cases b4
              · have hz : Hid (cirTo R m P B1 (T : Int) (k + 1) = cirF R m P (cirTo R m P B1 (T : Int) k) (k : Int)) := by show _ = _; rw [HT.out]; simp [h2]
                have HREC := Lib.hid (HIH.out P (cirTo R m P B1 (T : Int) k) (k : Int) w5 hC5 HPOK.out (fun h => by have := any_mem_iff.2 h; rw [HB4.out] at this; cases this) ⟨by omega, by omega⟩ (by rw [HPN.out]; omega))
                have hf5 := hC5.fcell
                have HB5 := Lib.hid hB5
                clear hC5 hB5 hb5
                go_wp2_with fail
                refine HREC.out.mono ?_
                rintro e w6 ⟨rfl, hC6, hB6⟩
                have HC6 := Lib.hid hC6
                have HB6 := Lib.hid (HB5.out.trans hB6)
                clear hC6 hB6
                go_wp2_with fail
                go_roundw
                case rel => exact ⟨k + 1, by omega, by go_num, by rw [hz.out]; exact HC6.out, HB6.out⟩
                case measure => simp [intOf]; omega
              · have hz : Hid (cirTo R m P B1 (T : Int) (k + 1) = cirTo R m P B1 (T : Int) k) := by show _ = _; rw [HT.out]; simp
                go_wp2_with fail
                go_roundw
                case rel => exact ⟨k + 1, by omega, by go_num, by rw [hz.out]; exact hC5, hB5⟩
                case measure => simp [intOf]; omega
            · have hz : Hid (cirTo R m P B1 (T : Int) (k + 1) = cirTo R m P B1 (T : Int) k) := by show _ = _; rw [HT.out]; simp [h2]
              go_wp2_with fail
              go_roundw
              case rel => exact ⟨k + 1, by omega, by go_num, by rw [hz.out]; exact HC.out, HB.out⟩
              case measure => simp [intOf]; omega
        · obtain rfl : k = 4 := by omega
          rw [HFB.out] at hC
          rw [← HPD.out] at hC
          have HD := Lib.hid (circle11_any .returning hC (by rw [HN.out]; omega))
          clear hC hB HC
          have HBB := Lib.hid HB.out
          go_wp2_with fail
          refine leaves_cons (f := 187) (args := #[.pointer (some ⟨H + 3, 0, none⟩)]) (by simp) (by simp [go_sem]) ?_
          refine HD.out.mono ?_
          rintro e u' w'' ⟨rfl, rfl, hC', hB'⟩
          exact ⟨_, results_none rfl _ _ _, rfl, hC', HBB.out.trans hB'⟩
    · rcases hBI with ⟨hbe, rfl⟩ | ⟨hbne, bb, cb, curb, rfl, hbc, _, _, _, _, _⟩
      · have hBB : cirB R P best (T : Int) = P := by unfold cirB; rw [HEDGE.out, hbe]; simp
        obtain ⟨B1, hB1e⟩ : ∃ B1, P = B1 := ⟨_, rfl⟩
        have HFB := Lib.hid (HFC.out _ (hBB.trans hB1e))
        have hz : ∀ w1 : World, (binOp .eql 34 (.slice none 0 0) (.slice none 0 0)).run Try.prog w1 = .ok (.bool true) w1 := fun w1 => Go.Lib.run_eql_slice_nil w1 34 3 none 0 0 0 0 Try.underlying34
        clear hBB hbe
        refine region_later (by kernel_rfl) (by kernel_rfl) ?_
        repeat (go_big_quiet_step (fail))
        refine wpQuiet_nil ?_
        rintro _ ⟨u, rfl⟩
        have hCu := HC1.out.below u.2
        have hBu := HB1.out.trans (u.2.mono (by have := HC1.out.sz; omega))
        have hg3u := G1 u
        have HCL := Lib.hid (CloneI_any g 0 (n + 1) cap P u.1 (HRI.out.later u))
        have HCU := Lib.hid hCu
        have HBU := Lib.hid hBu
        clear hCu hBu HC1 HB1
        go_wp2_with fail
        refine HCL.out.mono ?_
        rintro e w5 ⟨A5, c5, rfl, hc5, hf5, hb5⟩
        obtain ⟨⟨bv5, hcell5⟩, hfz5, hC5, hB5⟩ := HCU.out.better (by intro e; have := HPN.out; rw [e] at this; simp at this) hf5 hc5 hb5
        have HC3 : Hid (CirAt H (some ⟨bG, offG, none⟩) gc R P B1 (w5.setCell ⟨H + 1, 0, none⟩ (.slice A5 P.length c5)) ∧ Below H W (w5.setCell ⟨H + 1, 0, none⟩ (.slice A5 P.length c5))) := ⟨hB1e ▸ hC5, HBU.out.trans hB5⟩
        have hgu := hC5.gcell
        clear hC5 hB5 hf5 hb5 HCL hB1e
        go_wp2_with fail
        go_loopw [37] (fun i wr => ∃ k : Nat, k ≤ 4 ∧ i = .int .i64 k ∧ CirAt H (some ⟨bG, offG, none⟩) gc R P (cirTo R m P B1 (T : Int) k) wr ∧ Below H W wr) (fun i _ => 4 - (intOf i).toNat)
        case atStart => exact ⟨0, by omega, rfl, HC3.out.1, HC3.out.2⟩
        case round =>
          clear HC3
          obtain ⟨k, hk, rfl, hC, hB⟩ := hrel
          have HC := Lib.hid hC
          have HB := Lib.hid hB
          by_cases hlt : k < 4
          · obtain ⟨pv, bv3, e1, _, e3, _, _⟩ := hC.box
            have hri := e3
            rw [HPN.out] at hri e3
            rcases hri.2 with ⟨_, h0⟩ | ⟨g3, cap3, cur3, rfl, _, _, hcap3, hcm3, _⟩
            · omega
            obtain ⟨b3, off3, x3, hA3, hb3, hx3, hxc3⟩ := (RInts.of_own e3 (by omega)).at_ (k := 0) (by omega)
            injection hA3 with hA3; injection hA3 with q1 q2 _; subst q1; subst q2
            rw [HP0.out] at hx3
            injection hx3 with hx3
            subst hx3
            simp only [Nat.add_zero] at hxc3
            obtain ⟨bG', offG', hGe, hbG', hgc3, _⟩ := rowsI_at3 H4.out hC.rows (t := T) (by omega)
            have hg0 := hC.gcell
            injection hGe with hGe; injection hGe with q1 q2 _; subst q1; subst q2
            rw [HRT.out] at hgc3
            have hab := and_bit r k (by omega)
            have hmn : min k 64 = k := by omega
            obtain ⟨b1, hb1⟩ : ∃ b, r.testBit k = b := ⟨_, rfl⟩
            obtain ⟨b4, hb4⟩ : ∃ b, (P.any fun y => y == (k : Int)) = b := ⟨_, rfl⟩
            have hT := cirTo_succ (R := R) (m := m) (p := P) (b := B1) (t := (T : Int)) hlt
            have hedge : edgeB R (T : Int) (k : Int) = b1 := by unfold edgeB; rw [Int.toNat_natCast, Int.toNat_natCast, HRT.out, hb1]
            rw [hedge, HPH.out, hb4] at hT
            rw [hb1] at hab
            have HT := Lib.hid hT
            have HCN := Lib.hid (ContainsS_any (some ⟨g3, 0, none⟩) (n + 1) cap3 P (k : Int) wr (RInts.of_own e3 (by omega)))
            rw [hb4] at HCN
            have HB4 := Lib.hid hb4
            have l1 : (k : Int) < 4 := by omega
            have l2 : (0 : Int) ≤ (k : Int) := by omega
            clear hT hedge hb1 hb4 e3 hri hC hB
            cases b1
            · have hz : Hid (cirTo R m P B1 (T : Int) (k + 1) = cirTo R m P B1 (T : Int) k) := by show _ = _; rw [HT.out]; simp
              go_wp2_with fail
              go_roundw
              case rel => exact ⟨k + 1, by omega, by go_num, by rw [hz.out]; exact HC.out, HB.out⟩
              case measure => simp [intOf]; omega
            · by_cases h2 : (K0 : Int) < (k : Int)
              · go_wp2_with fail
                refine HCN.out.mono ?_
                rintro e w5 ⟨rfl, hb5⟩
                have hC5 := HC.out.below hb5
                have hB5 := HB.out.trans (hb5.mono (by have := HB.out.size; have := HC.out.sz; omega))
                cases b4
                · have hz : Hid (cirTo R m P B1 (T : Int) (k + 1) = cirF R m P (cirTo R m P B1 (T : Int) k) (k : Int)) := by show _ = _; rw [HT.out]; simp [h2]
                  have HREC := Lib.hid (HIH.out P (cirTo R m P B1 (T : Int) k) (k : Int) w5 hC5 HPOK.out (fun h => by have := any_mem_iff.2 h; rw [HB4.out] at this; cases this) ⟨by omega, by omega⟩ (by rw [HPN.out]; omega))
                  have hf5 := hC5.fcell
                  have HB5 := Lib.hid hB5
                  clear hC5 hB5 hb5
                  go_wp2_with fail
                  refine HREC.out.mono ?_
                  rintro e w6 ⟨rfl, hC6, hB6⟩
                  have HC6 := Lib.hid hC6
                  have HB6 := Lib.hid (HB5.out.trans hB6)
                  clear hC6 hB6
                  go_wp2_with fail
                  go_roundw
                  case rel => exact ⟨k + 1, by omega, by go_num, by rw [hz.out]; exact HC6.out, HB6.out⟩
                  case measure => simp [intOf]; omega
                · have hz : Hid (cirTo R m P B1 (T : Int) (k + 1) = cirTo R m P B1 (T : Int) k) := by show _ = _; rw [HT.out]; simp
                  go_wp2_with fail
                  go_roundw
                  case rel => exact ⟨k + 1, by omega, by go_num, by rw [hz.out]; exact hC5, hB5⟩
                  case measure => simp [intOf]; omega
              · have hz : Hid (cirTo R m P B1 (T : Int) (k + 1) = cirTo R m P B1 (T : Int) k) := by show _ = _; rw [HT.out]; simp [h2]
                go_wp2_with fail
                go_roundw
                case rel => exact ⟨k + 1, by omega, by go_num, by rw [hz.out]; exact HC.out, HB.out⟩
                case measure => simp [intOf]; omega
          · obtain rfl : k = 4 := by omega
            rw [HFB.out] at hC
            rw [← HPD.out] at hC
            have HD := Lib.hid (circle11_any .returning hC (by rw [HN.out]; omega))
            clear hC hB HC
            have HBB := Lib.hid HB.out
            go_wp2_with fail
            refine leaves_cons (f := 187) (args := #[.pointer (some ⟨H + 3, 0, none⟩)]) (by simp) (by simp [go_sem]) ?_
            refine HD.out.mono ?_
            rintro e u' w'' ⟨rfl, rfl, hC', hB'⟩
            exact ⟨_, results_none rfl _ _ _, rfl, hC', HBB.out.trans hB'⟩
      · obtain ⟨q, hq⟩ : ∃ q, best.length = q := ⟨_, rfl⟩
        have hz : ∀ w1 : World, (binOp .eql 34 (.slice (some ⟨bb, 0, none⟩) q cb) (.slice none 0 0)).run Try.prog w1 = .ok (.bool false) w1 := fun w1 => Go.Lib.run_eql_slice_nil w1 34 3 (some ⟨bb, 0, none⟩) q cb 0 0 Try.underlying34
        rw [hq] at G4
        have hbe2 : best.isEmpty = false := by cases best with
          | nil => exact absurd rfl hbne
          | cons a b => rfl
        by_cases hlq : n + 1 < q
        · have hBB : cirB R P best (T : Int) = P := by unfold cirB; rw [HEDGE.out, hbe2, HPN.out, hq]; simp [hlq]
          obtain ⟨B1, hB1e⟩ : ∃ B1, P = B1 := ⟨_, rfl⟩
          have HFB := Lib.hid (HFC.out _ (hBB.trans hB1e))
          clear hBB hbe2 hbne hq hbc
          refine region_later (by kernel_rfl) (by kernel_rfl) ?_
          repeat (go_big_quiet_step (fail))
          refine wpQuiet_nil ?_
          rintro _ ⟨u, rfl⟩
          have hCu := HC1.out.below u.2
          have hBu := HB1.out.trans (u.2.mono (by have := HC1.out.sz; omega))
          have hg3u := G1 u
          have HCL := Lib.hid (CloneI_any g 0 (n + 1) cap P u.1 (HRI.out.later u))
          have HCU := Lib.hid hCu
          have HBU := Lib.hid hBu
          clear hCu hBu HC1 HB1
          go_wp2_with fail
          refine HCL.out.mono ?_
          rintro e w5 ⟨A5, c5, rfl, hc5, hf5, hb5⟩
          obtain ⟨⟨bv5, hcell5⟩, hfz5, hC5, hB5⟩ := HCU.out.better (by intro e; have := HPN.out; rw [e] at this; simp at this) hf5 hc5 hb5
          have HC3 : Hid (CirAt H (some ⟨bG, offG, none⟩) gc R P B1 (w5.setCell ⟨H + 1, 0, none⟩ (.slice A5 P.length c5)) ∧ Below H W (w5.setCell ⟨H + 1, 0, none⟩ (.slice A5 P.length c5))) := ⟨hB1e ▸ hC5, HBU.out.trans hB5⟩
          have hgu := hC5.gcell
          clear hC5 hB5 hf5 hb5 HCL hB1e
          go_wp2_with fail
          go_loopw [37] (fun i wr => ∃ k : Nat, k ≤ 4 ∧ i = .int .i64 k ∧ CirAt H (some ⟨bG, offG, none⟩) gc R P (cirTo R m P B1 (T : Int) k) wr ∧ Below H W wr) (fun i _ => 4 - (intOf i).toNat)
          case atStart => exact ⟨0, by omega, rfl, HC3.out.1, HC3.out.2⟩
          case round =>
            clear HC3
            obtain ⟨k, hk, rfl, hC, hB⟩ := hrel
            have HC := Lib.hid hC
            have HB := Lib.hid hB
            by_cases hlt : k < 4
            · obtain ⟨pv, bv3, e1, _, e3, _, _⟩ := hC.box
              have hri := e3
              rw [HPN.out] at hri e3
              rcases hri.2 with ⟨_, h0⟩ | ⟨g3, cap3, cur3, rfl, _, _, hcap3, hcm3, _⟩
              · omega
              obtain ⟨b3, off3, x3, hA3, hb3, hx3, hxc3⟩ := (RInts.of_own e3 (by omega)).at_ (k := 0) (by omega)
              injection hA3 with hA3; injection hA3 with q1 q2 _; subst q1; subst q2
              rw [HP0.out] at hx3
              injection hx3 with hx3
              subst hx3
              simp only [Nat.add_zero] at hxc3
              obtain ⟨bG', offG', hGe, hbG', hgc3, _⟩ := rowsI_at3 H4.out hC.rows (t := T) (by omega)
              have hg0 := hC.gcell
              injection hGe with hGe; injection hGe with q1 q2 _; subst q1; subst q2
              rw [HRT.out] at hgc3
              have hab := and_bit r k (by omega)
              have hmn : min k 64 = k := by omega
              obtain ⟨b1, hb1⟩ : ∃ b, r.testBit k = b := ⟨_, rfl⟩
              obtain ⟨b4, hb4⟩ : ∃ b, (P.any fun y => y == (k : Int)) = b := ⟨_, rfl⟩
              have hT := cirTo_succ (R := R) (m := m) (p := P) (b := B1) (t := (T : Int)) hlt
              have hedge : edgeB R (T : Int) (k : Int) = b1 := by unfold edgeB; rw [Int.toNat_natCast, Int.toNat_natCast, HRT.out, hb1]
              rw [hedge, HPH.out, hb4] at hT
              rw [hb1] at hab
              have HT := Lib.hid hT
              have HCN := Lib.hid (ContainsS_any (some ⟨g3, 0, none⟩) (n + 1) cap3 P (k : Int) wr (RInts.of_own e3 (by omega)))
              rw [hb4] at HCN
              have HB4 := Lib.hid hb4
              have l1 : (k : Int) < 4 := by omega
              have l2 : (0 : Int) ≤ (k : Int) := by omega
              clear hT hedge hb1 hb4 e3 hri hC hB
              cases b1
              · have hz : Hid (cirTo R m P B1 (T : Int) (k + 1) = cirTo R m P B1 (T : Int) k) := by show _ = _; rw [HT.out]; simp
                go_wp2_with fail
                go_roundw
                case rel => exact ⟨k + 1, by omega, by go_num, by rw [hz.out]; exact HC.out, HB.out⟩
                case measure => simp [intOf]; omega
              · by_cases h2 : (K0 : Int) < (k : Int)
                · go_wp2_with fail
                  refine HCN.out.mono ?_
                  rintro e w5 ⟨rfl, hb5⟩
                  have hC5 := HC.out.below hb5
                  have hB5 := HB.out.trans (hb5.mono (by have := HB.out.size; have := HC.out.sz; omega))
                  cases b4
                  · have hz : Hid (cirTo R m P B1 (T : Int) (k + 1) = cirF R m P (cirTo R m P B1 (T : Int) k) (k : Int)) := by show _ = _; rw [HT.out]; simp [h2]
                    have HREC := Lib.hid (HIH.out P (cirTo R m P B1 (T : Int) k) (k : Int) w5 hC5 HPOK.out (fun h => by have := any_mem_iff.2 h; rw [HB4.out] at this; cases this) ⟨by omega, by omega⟩ (by rw [HPN.out]; omega))
                    have hf5 := hC5.fcell
                    have HB5 := Lib.hid hB5
                    clear hC5 hB5 hb5
                    go_wp2_with fail
                    refine HREC.out.mono ?_
                    rintro e w6 ⟨rfl, hC6, hB6⟩
                    have HC6 := Lib.hid hC6
                    have HB6 := Lib.hid (HB5.out.trans hB6)
                    clear hC6 hB6
                    go_wp2_with fail
                    go_roundw
                    case rel => exact ⟨k + 1, by omega, by go_num, by rw [hz.out]; exact HC6.out, HB6.out⟩
                    case measure => simp [intOf]; omega
                  · have hz : Hid (cirTo R m P B1 (T : Int) (k + 1) = cirTo R m P B1 (T : Int) k) := by show _ = _; rw [HT.out]; simp
                    go_wp2_with fail
                    go_roundw
                    case rel => exact ⟨k + 1, by omega, by go_num, by rw [hz.out]; exact hC5, hB5⟩
                    case measure => simp [intOf]; omega
                · have hz : Hid (cirTo R m P B1 (T : Int) (k + 1) = cirTo R m P B1 (T : Int) k) := by show _ = _; rw [HT.out]; simp [h2]
                  go_wp2_with fail
                  go_roundw
                  case rel => exact ⟨k + 1, by omega, by go_num, by rw [hz.out]; exact HC.out, HB.out⟩
                  case measure => simp [intOf]; omega
            · obtain rfl : k = 4 := by omega
              rw [HFB.out] at hC
              rw [← HPD.out] at hC
              have HD := Lib.hid (circle11_any .returning hC (by rw [HN.out]; omega))
              clear hC hB HC
              have HBB := Lib.hid HB.out
              go_wp2_with fail
              refine leaves_cons (f := 187) (args := #[.pointer (some ⟨H + 3, 0, none⟩)]) (by simp) (by simp [go_sem]) ?_
              refine HD.out.mono ?_
              rintro e u' w'' ⟨rfl, rfl, hC', hB'⟩
              exact ⟨_, results_none rfl _ _ _, rfl, hC', HBB.out.trans hB'⟩
        · have hBB : cirB R P best (T : Int) = best := by unfold cirB; rw [HEDGE.out, hbe2, HPN.out, hq]; simp [hlq]
          obtain ⟨B1, hB1e⟩ : ∃ B1, best = B1 := ⟨_, rfl⟩
          have HFB := Lib.hid (HFC.out _ (hBB.trans hB1e))
          clear hBB hbe2 hbne hq hbc
          refine region_later (by kernel_rfl) (by kernel_rfl) ?_
          repeat (go_big_quiet_step (fail))
          refine wpQuiet_nil ?_
          rintro _ ⟨u, rfl⟩
          have hCu := HC1.out.below u.2
          have hBu := HB1.out.trans (u.2.mono (by have := HC1.out.sz; omega))
          have hg3u := G1 u
          have HC3 : Hid (CirAt H (some ⟨bG, offG, none⟩) gc R P B1 u.1 ∧ Below H W u.1) := ⟨hB1e ▸ hCu, hBu⟩
          have hgu := hCu.gcell
          clear hCu hBu HC1 HB1 hB1e
          obtain ⟨w3, hw3⟩ : ∃ w3, u.1 = w3 := ⟨_, rfl⟩
          rw [hw3] at HC3 hgu hg3u ⊢
          clear hw3
          go_wp2_with fail
          go_loopw [37] (fun i wr => ∃ k : Nat, k ≤ 4 ∧ i = .int .i64 k ∧ CirAt H (some ⟨bG, offG, none⟩) gc R P (cirTo R m P B1 (T : Int) k) wr ∧ Below H W wr) (fun i _ => 4 - (intOf i).toNat)
          case atStart => exact ⟨0, by omega, rfl, HC3.out.1, HC3.out.2⟩
          case round =>
            clear HC3
            obtain ⟨k, hk, rfl, hC, hB⟩ := hrel
            have HC := Lib.hid hC
            have HB := Lib.hid hB
            by_cases hlt : k < 4
            · obtain ⟨pv, bv3, e1, _, e3, _, _⟩ := hC.box
              have hri := e3
              rw [HPN.out] at hri e3
              rcases hri.2 with ⟨_, h0⟩ | ⟨g3, cap3, cur3, rfl, _, _, hcap3, hcm3, _⟩
              · omega
              obtain ⟨b3, off3, x3, hA3, hb3, hx3, hxc3⟩ := (RInts.of_own e3 (by omega)).at_ (k := 0) (by omega)
              injection hA3 with hA3; injection hA3 with q1 q2 _; subst q1; subst q2
              rw [HP0.out] at hx3
              injection hx3 with hx3
              subst hx3
              simp only [Nat.add_zero] at hxc3
              obtain ⟨bG', offG', hGe, hbG', hgc3, _⟩ := rowsI_at3 H4.out hC.rows (t := T) (by omega)
              have hg0 := hC.gcell
              injection hGe with hGe; injection hGe with q1 q2 _; subst q1; subst q2
              rw [HRT.out] at hgc3
              have hab := and_bit r k (by omega)
              have hmn : min k 64 = k := by omega
              obtain ⟨b1, hb1⟩ : ∃ b, r.testBit k = b := ⟨_, rfl⟩
              obtain ⟨b4, hb4⟩ : ∃ b, (P.any fun y => y == (k : Int)) = b := ⟨_, rfl⟩
              have hT := cirTo_succ (R := R) (m := m) (p := P) (b := B1) (t := (T : Int)) hlt
              have hedge : edgeB R (T : Int) (k : Int) = b1 := by unfold edgeB; rw [Int.toNat_natCast, Int.toNat_natCast, HRT.out, hb1]
              rw [hedge, HPH.out, hb4] at hT
              rw [hb1] at hab
              have HT := Lib.hid hT
              have HCN := Lib.hid (ContainsS_any (some ⟨g3, 0, none⟩) (n + 1) cap3 P (k : Int) wr (RInts.of_own e3 (by omega)))
              rw [hb4] at HCN
              have HB4 := Lib.hid hb4
              have l1 : (k : Int) < 4 := by omega
              have l2 : (0 : Int) ≤ (k : Int) := by omega
              clear hT hedge hb1 hb4 e3 hri hC hB
              cases b1
              · have hz : Hid (cirTo R m P B1 (T : Int) (k + 1) = cirTo R m P B1 (T : Int) k) := by show _ = _; rw [HT.out]; simp
                go_wp2_with fail
                go_roundw
                case rel => exact ⟨k + 1, by omega, by go_num, by rw [hz.out]; exact HC.out, HB.out⟩
                case measure => simp [intOf]; omega
              · by_cases h2 : (K0 : Int) < (k : Int)
                · go_wp2_with fail
                  refine HCN.out.mono ?_
                  rintro e w5 ⟨rfl, hb5⟩
                  have hC5 := HC.out.below hb5
                  have hB5 := HB.out.trans (hb5.mono (by have := HB.out.size; have := HC.out.sz; omega))
                  cases b4
                  · have hz : Hid (cirTo R m P B1 (T : Int) (k + 1) = cirF R m P (cirTo R m P B1 (T : Int) k) (k : Int)) := by show _ = _; rw [HT.out]; simp [h2]
                    have HREC := Lib.hid (HIH.out P (cirTo R m P B1 (T : Int) k) (k : Int) w5 hC5 HPOK.out (fun h => by have := any_mem_iff.2 h; rw [HB4.out] at this; cases this) ⟨by omega, by omega⟩ (by rw [HPN.out]; omega))
                    have hf5 := hC5.fcell
                    have HB5 := Lib.hid hB5
                    clear hC5 hB5 hb5
                    go_wp2_with fail
                    refine HREC.out.mono ?_
                    rintro e w6 ⟨rfl, hC6, hB6⟩
                    have HC6 := Lib.hid hC6
                    have HB6 := Lib.hid (HB5.out.trans hB6)
                    clear hC6 hB6
                    go_wp2_with fail
                    go_roundw
                    case rel => exact ⟨k + 1, by omega, by go_num, by rw [hz.out]; exact HC6.out, HB6.out⟩
                    case measure => simp [intOf]; omega
                  · have hz : Hid (cirTo R m P B1 (T : Int) (k + 1) = cirTo R m P B1 (T : Int) k) := by show _ = _; rw [HT.out]; simp
                    go_wp2_with fail
                    go_roundw
                    case rel => exact ⟨k + 1, by omega, by go_num, by rw [hz.out]; exact hC5, hB5⟩
                    case measure => simp [intOf]; omega
                · have hz : Hid (cirTo R m P B1 (T : Int) (k + 1) = cirTo R m P B1 (T : Int) k) := by show _ = _; rw [HT.out]; simp [h2]
                  go_wp2_with fail
                  go_roundw
                  case rel => exact ⟨k + 1, by omega, by go_num, by rw [hz.out]; exact HC.out, HB.out⟩
                  case measure => simp [intOf]; omega
            · obtain rfl : k = 4 := by omega
              rw [HFB.out] at hC
              rw [← HPD.out] at hC
              have HD := Lib.hid (circle11_any .returning hC (by rw [HN.out]; omega))
              clear hC hB HC
              have HBB := Lib.hid HB.out
              go_wp2_with fail
              refine leaves_cons (f := 187) (args := #[.pointer (some ⟨H + 3, 0, none⟩)]) (by simp) (by simp [go_sem]) ?_
              refine HD.out.mono ?_
              rintro e u' w'' ⟨rfl, rfl, hC', hB'⟩
              exact ⟨_, results_none rfl _ _ _, rfl, hC', HBB.out.trans hB'⟩
end Go.Proofs.Ytcakjhappchlmaa
namespace Go.Proofs.Ytcakjhappchlmaa
open Go.RowKit Go.BigFrame
set_option linter.unusedVariables false

/-- The call hands back these integers in new memory and a bool, and changes nothing. -/
def RetIntsB (w0 : World) (xs : List Int) (b : Bool) (e : Ending) (w : World) : Prop :=
  ∃ A c, e = .returned (.tuple #[.slice A xs.length c, .bool b]) ∧ xs.length ≤ c ∧ FreshInts w0 w A xs.length xs ∧ Below w0.heap.size w0 w
theorem RetIntsB.nil {w0 w : World} {b : Bool} (h : Below w0.heap.size w0 w) : RetIntsB w0 [] b (.returned (.tuple #[.slice none 0 0, .bool b])) w := ⟨none, 0, rfl, Nat.le_refl _, FreshInts.none_, h⟩
theorem RetIntsB.lit {w0 w : World} {H : Nat} (hH : w.heap.size = H) (h : Below w0.heap.size w0 w) (xs : List Int) (hl : xs.length ≤ 64) {b : Bool} : RetIntsB w0 xs b (.returned (.tuple #[.slice (some ⟨H, 0, none⟩) xs.length xs.length, .bool b])) (w.alloc (.cells (intCells xs).toArray 3)) := by
  subst hH
  refine ⟨_, _, rfl, Nat.le_refl _, ⟨RInts.lit w xs _ (by omega), fun ad had => ?_⟩, h.alloc h.size _⟩
  injection had with had
  subst had
  exact ⟨_, _, rfl, h.size, heap_alloc_new w _, by simp [intCells]⟩
end Go.Proofs.Ytcakjhappchlmaa
namespace Go.Proofs.Ytcakjhappchlmaa
open Go.RowKit Go.BigFrame
set_option linter.unusedVariables false

/-- What lies while the pairs are found. -/
structure GrInv (w : World) (bm : Nat) (C : Option Addr) (m : Nat) (L : List OpV) (R : List Nat) (N : Nat) (wr : World) : Prop where
  below : Below w.heap.size w wr
  map : ∃ D, wr.ownsMap Try.prog 155 (plainElem (H := Unit) Try.prog 4) bm N D ∧ MapIs D R
  list : ROps wr C m L
theorem ownsMap_block {w w' : World} {b n : Nat} {D : DataW Unit} (h : w.ownsMap Try.prog 155 (plainElem (H := Unit) Try.prog 4) b n D) (hk : w'.heap[b]? = w.heap[b]?) : w'.ownsMap Try.prog 155 (plainElem (H := Unit) Try.prog 4) b n D := by
  obtain ⟨es, clock, hb, F, hs, hD⟩ := h
  exact ⟨es, clock, hk.trans hb, F, hs, hD⟩
theorem GrInv.lt {w : World} {bm : Nat} {C : Option Addr} {m : Nat} {L : List OpV} {R : List Nat} {N : Nat} {wr : World} (h : GrInv w bm C m L R N wr) : bm < wr.heap.size := by
  obtain ⟨D, h1, _⟩ := h.map
  exact h1.lt
theorem GrInv.later {w : World} {bm : Nat} {C : Option Addr} {m : Nat} {L : List OpV} {R : List Nat} {N : Nat} {wr W : World} (h : GrInv w bm C m L R N wr) (hb : Below wr.heap.size wr W) : GrInv w bm C m L R N W := by
  obtain ⟨D, h1, h2⟩ := h.map
  exact ⟨h.below.trans (hb.mono h.below.size), ⟨D, ownsMap_block h1 (hb.block bm h1.lt), h2⟩, h.list.below hb (Nat.le_refl _)⟩
theorem GrInv.more {w : World} {bm : Nat} {C : Option Addr} {m : Nat} {L : List OpV} {R : List Nat} {N N' : Nat} {wr : World} (h : GrInv w bm C m L R N wr) (hn : N ≤ N') : GrInv w bm C m L R N' wr := by
  obtain ⟨D, h1, h2⟩ := h.map
  exact ⟨h.below, ⟨D, h1.mono hn, h2⟩, h.list⟩
theorem ROps.grown_ {w w' : World} {A : Option Addr} {n b : Nat} {xs : List OpV} (h : ROps w A n xs) (hg : w.grownBy w' (some b)) (hne : ∀ ad, A = some ad → ad.block ≠ b) : ROps w' A n xs := by
  obtain ⟨h1, h2, h3⟩ := h
  refine ⟨h1, h2, fun hn => ?_⟩
  obtain ⟨c, off, hA, hlt, hc⟩ := h3 hn
  have hk : w'.heap[c]? = w.heap[c]? := hg.block c hlt (fun e => hne _ hA (by injection e))
  have hs := World.grownBy.size hg
  have ce : ∀ o : Nat, w'.cell? ⟨c, o, none⟩ = w.cell? ⟨c, o, none⟩ := fun o => World.cell?_of_block (w := w) (a := ⟨c, o, none⟩) hk
  refine ⟨c, off, hA, by omega, fun i o ho => ?_⟩
  obtain ⟨c0, c1, c2⟩ := hc i o ho
  exact ⟨(ce _).trans c0, (ce _).trans c1, (ce _).trans c2⟩

/-- While the rows are filled: those pairs that have come stand in the rows. -/
structure GrFill (w : World) (bm r g N : Nat) (R : List Nat) (left : Lit → Bool) (cnt : Nat) (wr : World) : Prop where
  below : Below w.heap.size w wr
  rng : ∃ D, wr.ranges Try.prog 155 (plainElem (H := Unit) Try.prog 4) bm r N D left cnt ∧ MapIs D R ∧ ∀ kl, left kl = true → Maps.has D kl = true
  row : ∃ O, Rows4 O ∧ RowIs wr g 3 (intCells (rowsI O) ++ []) ∧ ∀ t u : Nat, t < 4 → u < 4 → (O.getD t 0).testBit u = ((R.getD t 0).testBit u && !left (gplit t u))
  ne : r ≠ g ∧ bm ≠ g ∧ w.heap.size ≤ g ∧ w.heap.size ≤ r
theorem GrFill.later {w : World} {bm r g N : Nat} {R : List Nat} {left : Lit → Bool} {cnt : Nat} {wr W : World} (h : GrFill w bm r g N R left cnt wr) (hb : Below wr.heap.size wr W) : GrFill w bm r g N R left cnt W := by
  obtain ⟨h1, ⟨D, h2, h3⟩, ⟨O, h5, h6, h7⟩, h8⟩ := h
  exact ⟨h1.trans (hb.mono h1.size), ⟨D, h2.kept (grown_below hb (row := none)) (by simp) (by simp), h3⟩, ⟨O, h5, h6.below hb (Nat.le_refl _), h7⟩, h8⟩
theorem sameKey_gp {t u t' u' : Nat} (ht : t < 4) (hu : u < 4) (ht' : t' < 4) (hu' : u' < 4) : (gplit t' u').sameKey (gplit t u) = (decide (t' = t) && decide (u' = u)) := by
  by_cases h : t' = t ∧ u' = u
  · obtain ⟨rfl, rfl⟩ := h
    rw [WideAt.sameKey_self (gplit_key _ _)]; simp
  · rw [Maps.sameKey_ne (fun e => h ?_)]
    · have : (decide (t' = t) && decide (u' = u)) = false := by simpa using h
      exact this.symm
    · obtain ⟨h1, h2⟩ := gplit_inj (wf_small (by omega)) (wf_small (by omega)) (wf_small (by omega)) (wf_small (by omega)) e
      exact ⟨by omega, by omega⟩

theorem GrFill.step {w wi w1 V : World} {bm r g N : Nat} {R O : List Nat} {left : Lit → Bool} {cnt1 : Nat} {D : DataW Unit} {T U : Nat} (hb : Below w.heap.size w wi) (hmi : MapIs D R) (hlh : ∀ kl, left kl = true → Maps.has D kl = true)
    (h4 : Rows4 O) (hrow : RowIs wi g 3 (intCells (rowsI O) ++ [])) (hbit : ∀ t u : Nat, t < 4 → u < 4 → (O.getD t 0).testBit u = ((R.getD t 0).testBit u && !left (gplit t u)))
    (hne : r ≠ g ∧ bm ≠ g ∧ w.heap.size ≤ g ∧ w.heap.size ≤ r) (hT : T < 4) (hU : U < 4) (hR : (R.getD T 0).testBit U = true)
    (hrg1 : w1.ranges Try.prog 155 (plainElem (H := Unit) Try.prog 4) bm r N D (fun z => left z && !z.sameKey (gplit T U)) cnt1) (hg1 : wi.grownBy w1 (some r)) (hV : Below w1.heap.size w1 V) (v : Int) (hv : v = ((O.getD T 0 ||| 1 <<< U : Nat) : Int)) :
    GrFill w bm r g N R (fun z => left z && !z.sameKey (gplit T U)) cnt1 (V.setCell ⟨g, T, none⟩ (.int .i64 v)) := by
  have hlt := hrow.lt
  have hz1 := World.grownBy.size hg1
  have hz2 := hV.size
  have hrow1 : RowIs w1 g 3 (intCells (rowsI O) ++ []) := (hg1.block g hlt (by intro e; injection e with e; exact hne.1 e.symm)).trans hrow
  have hrowV := hrow1.below hV (Nat.le_refl _)
  have hs := row_setInt (v := v) (k := T) hrowV (by simp [rowsI, h4.1]; omega)
  rw [hv, ← Int.toNat_natCast U, ← rowsI_set] at hs
  have hgs : V.grownBy (V.setCell ⟨g, T, none⟩ (.int .i64 v)) (some g) := grown_set
  refine ⟨?_, ⟨D, (hrg1.kept (grown_below hV (row := none)) (by simp) (by simp)).kept hgs (by intro e; injection e with e; exact hne.2.1 e) (by intro e; injection e with e; exact hne.1 e), hmi, fun kl hk => hlh kl (by simp only [Bool.and_eq_true] at hk; exact hk.1)⟩, ⟨rowSet O T U, rowSet_ok h4 (by omega), by rw [hv]; exact hs, fun t u ht hu => ?_⟩, hne⟩
  · have h1 : Below w.heap.size w w1 := hb.grown hg1 hb.size (fun k e => by cases e; exact hne.2.2.2)
    exact (h1.trans (hV.mono h1.size)).setCell (by simpa using hne.2.2.1) _
  · rw [rowSet_bit h4 (by omega), hbit t u ht hu, sameKey_gp hT hU ht hu]
    by_cases e : t = T ∧ u = U
    · obtain ⟨rfl, rfl⟩ := e
      rw [hR]; simp
    · have : (decide (t = T) && decide (u = U)) = false := by simpa using e
      rw [this]; simp

set_option maxRecDepth 100000 in
set_option maxHeartbeats 4000000 in
theorem graphOf_any (A : Option Addr) (n c : Nat) (s : List OpV) (w : World) (hx : ROps w A n s) (hv : validS s = true) :
    Calls Try.prog 142 #[.slice A n c] w (RetInts w (rowsI (grI (committed s)))) := by
  have hn := hx.2.1
  have hl := hx.1
  have hmm := @run_makeMap Try.prog
  obtain ⟨i0, hi, hz0, hz1, hz2⟩ := info_parts intInfo
  have HX := Lib.hid hx
  have HV := Lib.hid hv
  have hb0 : Below w.heap.size w (w.alloc (.map #[] 0)) := (Below.refl _ w).alloc (Nat.le_refl _) _
  have HM0 : Hid ((w.alloc (.map #[] 0)).ownsMap Try.prog 155 (plainElem (H := Unit) Try.prog 4) w.heap.size 0 (.map [])) := World.ownsMap_made w _ _ _
  have HC := Lib.hid (committedOf_any A n c s (w.alloc (.map #[] 0)) (hx.below hb0 (Nat.le_refl _)))
  have HB0 := Lib.hid hb0
  clear hx hv hb0
  go_enter Try.func142, Try.ntmps142
  go_wp2_with fail
  refine HC.out.mono ?_
  rintro e w1 ⟨C, cc, rfl, hcc, hfr, hb1⟩
  clear hmm
  obtain ⟨L, hL⟩ : ∃ L, committed s = L := ⟨_, rfl⟩
  have hCb : ∀ ad, C = some ad → ad.block ≠ w.heap.size := fun ad had => by
    obtain ⟨b, cur, e, h1, _, _⟩ := hfr.2 ad had
    simp at h1
    rw [e]; simp only; omega
  have hR3 : ∀ o ∈ L, 0 ≤ o.tx ∧ o.tx ≤ 3 := fun o ho => by
    rw [← hL] at ho
    exact validS_tx3 HV.out (List.mem_filter.1 ho).1
  have h16 : L.length ≤ 16 := by
    rw [← hL]
    refine Nat.le_trans (List.length_filter_le _ _) ?_
    have := HV.out
    unfold validS at this
    simp only [Bool.and_eq_true, decide_eq_true_eq] at this
    exact this.1
  have HST : Hid (GrInv w w.heap.size C L.length L (grTo L 0) 0 w1) := by
    refine ⟨HB0.out.trans (hb1.mono HB0.out.size), ⟨_, ownsMap_block HM0.out (hb1.block w.heap.size (by simp)), MapIs.empty⟩, ?_⟩
    rw [← hL]; exact hfr.1
  have HCB := Lib.hid hCb
  have HR3 := Lib.hid hR3
  have HGI : Hid (grI (committed s) = grTo L L.length) := by show _ = _; rw [hL]; rfl
  rw [hL] at hcc ⊢
  obtain ⟨m, hm⟩ : ∃ m, L.length = m := ⟨_, rfl⟩
  rw [hm] at HST HGI hcc h16 ⊢
  have HLEN := Lib.hid hm
  clear hfr hb1 hCb hR3 hL HC HM0 hm
  go_wp2_with fail
  go_loopw [16] (fun i wr => ∃ k : Nat, k ≤ m ∧ i = .int .i64 k ∧ GrInv w w.heap.size C m L (grTo L k) (16 * k) wr) (fun i _ => m - (intOf i).toNat)
  case atStart => exact ⟨0, Nat.zero_le _, rfl, HST.out⟩
  case round =>
    clear HST
    obtain ⟨wo, rfl⟩ : ∃ wo : World, wo = wr := ⟨_, rfl⟩
    obtain ⟨k, hk, rfl, hinv⟩ := hrel
    have HINV := Lib.hid hinv
    by_cases hlt : k < m
    · obtain ⟨b, off, a, hCe, hbl, ho, c0, c1, c2⟩ := HINV.out.list.at_ hlt
      subst hCe
      have har := HR3.out a (List.mem_of_getElem? ho)
      have HGS := Lib.hid (grTo_succ ho)
      obtain ⟨at_, ak, ai⟩ := a
      simp only at c0 c1 c2 har
      obtain ⟨M, hM⟩ : ∃ M : Nat, M = m - (k + 1) := ⟨_, rfl⟩
      have hMi : (m : Int) - ((k : Int) + 1) = (M : Int) := by omega
      have hjw : IntKind.i64.wrap ((k : Int) + 1) = (k : Int) + 1 := IntWalk.i64_in _ (by omega)
      have hjt : ((k : Int) + 1).toNat = k + 1 := by omega
      have HHO := Lib.hid ho
      have HHM := Lib.hid hM
      clear hinv ho hM
      by_cases hkc : k + 1 = cc
      · obtain rfl : m = k + 1 := by omega
        subst hkc
        have hfin : ∀ W, Below wo.heap.size wo W → GrInv w w.heap.size (some ⟨b, off, none⟩) (k + 1) L (grTo L (k + 1)) (16 * (k + 1)) W := fun W hW => by
          rw [HGS.out, HLEN.out, Nat.sub_self, grRow_zero]
          exact (HINV.out.later hW).more (by omega)
        have HN := Lib.hid hfin
        clear hfin
        go_wp2_with fail
        have hba : Below wo.heap.size wo (wo.alloc (.cells #[.int .i64 at_, .int .i64 ak, .int .i64 ai] 92)) := (Below.refl _ _).alloc (Nat.le_refl _) _
        go_loopw [26] (fun i wr2 => i = .int .i64 0 ∧ Below wo.heap.size wo wr2) (fun _ _ => 0)
        case atStart => exact ⟨rfl, hba⟩
        case round =>
          obtain ⟨rfl, hb2⟩ := hrel
          go_wp2_with fail
          go_roundw
          case rel => exact ⟨k + 1, by omega, by go_num, HN.out _ hb2⟩
          case measure => simp [intOf] <;> omega
      · have hjc2 : ¬ ((k : Int) + 1 = (cc : Int)) := by omega
        have hjc3 : ¬ (cc ≤ k + 1) := by omega
        have hjm : k + 1 ≤ m := by omega
        go_wp2_with fail
        have hwas : (wo.alloc (.cells #[.int .i64 at_, .int .i64 ak, .int .i64 ai] 92)).heap.size = wo.heap.size + 1 := by simp
        have hbox : ∀ i v, (#[Value.int .i64 at_, .int .i64 ak, .int .i64 ai] : Array Value)[i]? = some v → (wo.alloc (.cells #[.int .i64 at_, .int .i64 ak, .int .i64 ai] 92)).cell? ⟨wo.heap.size, i, none⟩ = some v := fun i v h => box_at _ _ _ _ _ h
        have hlt0 := HINV.out.lt
        have HW1 : Hid (GrInv w w.heap.size (some ⟨b, off, none⟩) m L (grTo L k) (16 * k) (wo.alloc (.cells #[.int .i64 at_, .int .i64 ak, .int .i64 ai] 92))) := HINV.out.later ((Below.refl _ _).alloc (Nat.le_refl _) _)
        obtain ⟨wa, hwa⟩ : ∃ wa, wo.alloc (.cells #[.int .i64 at_, .int .i64 ak, .int .i64 ai] 92) = wa := ⟨_, rfl⟩
        rw [hwa] at hwas hbox HW1 ⊢
        have a0 := hbox 0 _ rfl
        have a1 := hbox 1 _ rfl
        have a2 := hbox 2 _ rfl
        clear hbox hwa c0 c1 c2
        go_loopw [26] (fun i wr2 => ∃ q : Nat, q ≤ m - (k + 1) ∧ i = .int .i64 q ∧ wa.grownBy wr2 (some w.heap.size) ∧ GrInv w w.heap.size (some ⟨b, off, none⟩) m L (grRow L k ⟨at_, ak, ai⟩ (grTo L k) q) (16 * k + q) wr2) (fun i _ => m - (k + 1) - (intOf i).toNat)
        case atStart => exact ⟨0, Nat.zero_le _, rfl, World.grownBy.refl _ _, HW1.out⟩
        case round =>
          clear HW1
          obtain ⟨wi, rfl⟩ : ∃ wi : World, wi = wr := ⟨_, rfl⟩
          obtain ⟨q, hq, rfl, hgr, hinv2⟩ := hrel
          have HI2 := Lib.hid hinv2
          have HGR := Lib.hid hgr
          by_cases hlq : q < m - (k + 1)
          · obtain ⟨b', off', p, hCe, hbl2, hp, d0, d1, d2⟩ := hinv2.list.at_ (k := k + 1 + q) (by omega)
            injection hCe with hCe
            injection hCe with q1 q2 _
            subst q1; subst q2
            have hpr := HR3.out p (List.mem_of_getElem? hp)
            have HGR2 := Lib.hid (grRow_succ (a := ⟨at_, ak, ai⟩) (rows := grTo L k) hp)
            obtain ⟨pt, pk, pit⟩ := p
            simp only at d0 d1 d2 hpr
            have eo : off + (k + 1 + q) * 3 = off + (k + 1) * 3 + q * 3 := by omega
            rw [eo] at d0 d1 d2
            have e0 := (cell_grown hgr (p := ⟨wo.heap.size, 0, none⟩) (by simp; omega) (by simp; omega)).trans a0
            have e1 := (cell_grown hgr (p := ⟨wo.heap.size, 1, none⟩) (by simp; omega) (by simp; omega)).trans a1
            have e2 := (cell_grown hgr (p := ⟨wo.heap.size, 2, none⟩) (by simp; omega) (by simp; omega)).trans a2
            have hbI := hinv2.lt
            obtain ⟨wb, hwb⟩ : ∃ wb, wi.alloc (.cells #[.int .i64 pt, .int .i64 pk, .int .i64 pit] 92) = wb := ⟨_, rfl⟩
            have hbb : Below wi.heap.size wi wb := by rw [← hwb]; exact (Below.refl _ _).alloc (Nat.le_refl _) _
            have hb0x : ∀ i v, (#[Value.int .i64 pt, .int .i64 pk, .int .i64 pit] : Array Value)[i]? = some v → wb.cell? ⟨wi.heap.size, i, none⟩ = some v := fun i v h => by rw [← hwb]; exact box_at _ _ _ _ _ h
            have hwbs : wb.heap.size = wi.heap.size + 1 := by rw [← hwb]; simp
            have p0 := hb0x 0 _ rfl
            have p1 := hb0x 1 _ rfl
            have p2 := hb0x 2 _ rfl
            have hwoi : wo.heap.size < wi.heap.size := by have := World.grownBy.size hgr; omega
            have f0 := (hbb.cell (p := ⟨wo.heap.size, 0, none⟩) hwoi).trans e0
            have f1 := (hbb.cell (p := ⟨wo.heap.size, 1, none⟩) hwoi).trans e1
            have f2 := (hbb.cell (p := ⟨wo.heap.size, 2, none⟩) hwoi).trans e2
            obtain ⟨cb, hcb⟩ : ∃ cb, confB ⟨at_, ak, ai⟩ ⟨pt, pk, pit⟩ = cb := ⟨_, rfl⟩
            have hcf : Calls Try.prog 164 #[.agg #[.int .i64 at_, .int .i64 ak, .int .i64 ai], .agg #[.int .i64 pt, .int .i64 pk, .int .i64 pit]] wb fun e w' => e = .returned (.bool cb) ∧ Below wb.heap.size wb w' := by
              have := conflicts_any ⟨at_, ak, ai⟩ ⟨pt, pk, pit⟩ wb; rw [hcb] at this; exact this
            have HCF := Lib.hid hcf
            have hst : grRow L k ⟨at_, ak, ai⟩ (grTo L k) (q + 1) = if cb then rowSet (grRow L k ⟨at_, ak, ai⟩ (grTo L k) q) at_ pt else grRow L k ⟨at_, ak, ai⟩ (grTo L k) q := by
              rw [HGR2.out]; unfold grStep; rw [hcb]
            have HST := Lib.hid hst
            have HOK : Hid (Rows4 (grRow L k ⟨at_, ak, ai⟩ (grTo L k) q)) := grRow_ok HR3.out (grTo_ok HR3.out k) q
            have HWB := Lib.hid hwb
            have HBB := Lib.hid hbb
            clear hinv2 hgr hp hb0x hcb hcf hst HGR2 hwb eo
            have lq : (q : Int) < ((m - (k + 1) : Nat) : Int) := by omega
            go_wp2_with fail
            rw [HWB.out]
            clear d0 d1 d2 e0 e1 e2
            refine HCF.out.mono ?_
            rintro e w3 ⟨rfl, hb3⟩
            have hb03 : Below wi.heap.size wi w3 := HBB.out.trans (hb3.mono HBB.out.size)
            have HI3 := Lib.hid (HI2.out.later hb03)
            have HG3 : Hid (wa.grownBy w3 (some w.heap.size)) := HGR.out.trans (grown_below hb03)
            cases cb
            · clear f0 f1 f2 p0 p1 p2
              go_wp2_with fail
              go_roundw
              case rel => exact ⟨q + 1, by omega, by go_num, HG3.out, by rw [HST.out, if_neg (by simp)]; exact HI3.out.more (by omega)⟩
              case measure => simp [intOf]; omega
            · have g0 := (hb3.cell (p := ⟨wo.heap.size, 0, none⟩) (by simp; omega)).trans f0
              have g1 := (hb3.cell (p := ⟨wi.heap.size, 0, none⟩) (by simp; omega)).trans p0
              obtain ⟨D3, hown3, hmi3⟩ := HI3.out.map
              clear f0 f1 f2 p0 p1 p2
              go_wp2_with (at_mapUpdate; refine wpList_mapUpdate_own _ rfl _ _ _ 153 rfl 155 4 gpkeyed Try.underlying153 (plainElem (H := Unit) Try.prog 4) w.heap.size (16 * k + q) D3 rfl hown3 (by unfold maxLen; omega) _ _ (gplit at_ pt) rfl rfl (gpkey (wf_small har) (wf_small hpr)) (.lit (.bool true)) [] (plainElem_bool Try.underlying4 true) ?_; intro w4 hown4 hg4)
              have hn : GrInv w w.heap.size (some ⟨b, off, none⟩) m L (grRow L k ⟨at_, ak, ai⟩ (grTo L k) (q + 1)) (16 * k + (q + 1)) w4 := by
                refine ⟨HI3.out.below.grown hg4 HI3.out.below.size (fun k e => by cases e; exact Nat.le_refl _), ⟨_, hown4, ?_⟩, HI3.out.list.grown_ hg4 HCB.out⟩
                rw [HST.out, if_pos (by trivial)]
                exact hmi3.put HOK.out har hpr _
              have HN := Lib.hid hn
              have HG4 := Lib.hid (HG3.out.trans hg4)
              clear hn hown3 hmi3 hown4 hg4 g0 g1
              go_wp2_with fail
              go_roundw
              case rel => exact ⟨q + 1, by omega, by go_num, HG4.out, HN.out⟩
              case measure => simp [intOf]; omega
          · have hfin : GrInv w w.heap.size (some ⟨b, off, none⟩) m L (grTo L (k + 1)) (16 * (k + 1)) wi := by
              rw [HGS.out, HLEN.out]
              have : q = m - (k + 1) := by omega
              subst this
              exact HI2.out.more (by omega)
            have HN := Lib.hid hfin
            clear hfin hinv2 hgr
            go_wp2_with fail
            go_roundw
            case rel => exact ⟨k + 1, by omega, by go_num, HN.out⟩
            case measure => simp [intOf]; omega
    · obtain rfl : k = m := by omega
      obtain ⟨D, hown, hmi⟩ := HINV.out.map
      have HMI := Lib.hid hmi
      have hbs := HINV.out.below.size
      have hlt0 := HINV.out.lt
      go_wp2_with (first | (at_make; refine wpList_make_full _ rfl _ _ 34 rfl wo.heap.size 3 i0 _ 1 Try.underlying34 hi hz0 hz1 .i64 .i64 _ _ 4 rfl rfl rfl rfl (by rw [hz2]; omega) (by unfold maxLen; omega) (Nat.le_refl _) ?_; intro w2 hown2 hg2) | (at_range; refine wpList_range_own _ rfl _ 153 rfl 155 4 gpkeyed Try.underlying153 (plainElem (H := Unit) Try.prog 4) w.heap.size (16 * k) D rfl (ownsMap_block hown (hg2.block w.heap.size hlt0 (by simp))) ?_; intro w0 hrg0 hg0 hs0))
      have hbw2 : Below wo.heap.size wo w2 := ⟨hg2.os, hg2.tape, hg2.output, hg2.size, fun k hk => hg2.block k hk (by simp)⟩
      have hrow : RowIs w2 wo.heap.size 3 (intCells (rowsI [0, 0, 0, 0]) ++ []) := by
        rcases hown2.2 with ⟨h1, _⟩ | ⟨g, cap, cur, h1, h2, h3, h4, h5, h6, h7⟩
        · cases h1
        · injection h1 with ha hb hc
          injection ha with ha
          injection ha with ha
          subst ha; subst hc
          unfold RowIs
          rw [h3]
          congr 2
          apply Array.ext'
          rw [List.take_of_length_le (by simpa using Nat.le_of_eq h6)] at h7
          rw [h7, made_ints]
          rfl
      have hown2m := ownsMap_block hown (hbw2.block w.heap.size hlt0)
      have HROW := Lib.hid hrow
      have HB2 := Lib.hid (HINV.out.below.trans (hbw2.mono HINV.out.below.size))
      have hz2 := hbw2.size
      have hgl := hrow.lt
      clear hown2 hg2 hbw2 hrow hown HINV
      try go_frame
      have hb20 : Below w2.heap.size w2 w0 := ⟨hg0.os, hg0.tape, hg0.output, hg0.size, fun k hk => hg0.block k hk (by simp)⟩
      have HST : Hid (GrFill w w.heap.size w2.heap.size wo.heap.size (16 * k) (grTo L k) (Maps.has D) (Maps.size D) w0) := by
        refine ⟨HB2.out.trans (hb20.mono HB2.out.size), ⟨D, hrg0, HMI.out, fun _ h => h⟩, ⟨[0, 0, 0, 0], zero4, HROW.out.below hb20 (Nat.le_refl _), fun t u ht hu => ?_⟩, by omega, by omega, hbs, by omega⟩
        have h1 := HMI.out.has t u (wf_small (by omega)) (wf_small (by omega))
        rw [Int.toNat_natCast, Int.toNat_natCast] at h1
        have h0 : (([0, 0, 0, 0] : List Nat).getD t 0).testBit u = false := by
          rcases (by omega : t = 0 ∨ t = 1 ∨ t = 2 ∨ t = 3) with rfl | rfl | rfl | rfl <;> simp
        rw [h0]
        cases hbt : ((grTo L k).getD t 0).testBit u
        · rfl
        · rw [h1.2 ⟨by omega, by omega, by omega, by omega, hbt⟩]; rfl
      clear hrg0 hg0 hs0 hb20 HROW HB2 HMI
      go_loopw [10] (fun _ wr' => ∃ left cnt, GrFill w w.heap.size w2.heap.size wo.heap.size (16 * k) (grTo L k) left cnt wr') (fun _ wr' => wr'.rangeLeft w.heap.size w2.heap.size)
      case atStart => exact ⟨_, _, HST.out⟩
      case round =>
        obtain ⟨left, cnt, hF⟩ := hrel
        obtain ⟨wi, rfl⟩ : ∃ z : World, z = wr := ⟨_, rfl⟩
        have HF := Lib.hid hF
        obtain ⟨hbi, ⟨D', hrg, hmi, hlh⟩, ⟨O, h4O, hrow, hbit⟩, hne⟩ := hF
        have HRG := Lib.hid hrg
        have HMI := Lib.hid hmi
        have HLH := Lib.hid hlh
        have HROW := Lib.hid hrow
        have HBIT := Lib.hid hbit
        have H4O := Lib.hid h4O
        have hok := grTo_ok HR3.out k
        have HOK := Lib.hid hok
        clear hrg hmi hlh hrow hbit h4O hok HST
        go_wp2_with (at_next; refine gpbool_next rfl _ rfl _ _ _ D' left cnt rfl HRG.out (fun hc0 hl0 => ?_) (fun t u c w1 cnt1 hwt hwu hlx hat hrg1 hlt1 hg1 hs1 hen1 => ?_))
        · have hOR : O = grTo L k := rows_ext H4O.out HOK.out fun t u ht hu => by rw [HBIT.out t u ht hu, hl0]; simp
          have hrw := HROW.out
          rw [hOR] at hrw
          have hl4 : (rowsI (grTo L k)).length = 4 := by simp [rowsI, HOK.out.1]
          have HO : Hid (RetInts w (rowsI (grI (committed s))) (.returned (.slice (some ⟨wo.heap.size, 0, none⟩) 4 4)) wi) := by
            show RetInts _ _ _ _
            rw [HGI.out]
            refine RetInts.mk hl4 (Nat.le_refl _) ⟨hrw.ints hl4 (by omega), fun ad had => ?_⟩ hbi
            injection had with had
            subst had
            exact ⟨_, _, rfl, hne.2.2.1, hrw, by simp [intCells, hl4]⟩
          clear hOR hrw hl0 HF HRG
          go_ret
          exact HO.out
        · obtain ⟨ht0, ht3, hu0, hu3, hbt⟩ := (HMI.out.has t u hwt hwu).1 (HLH.out _ hlx)
          obtain ⟨T, rfl⟩ := Int.eq_ofNat_of_zero_le ht0
          obtain ⟨U, rfl⟩ := Int.eq_ofNat_of_zero_le hu0
          rw [Int.toNat_natCast, Int.toNat_natCast] at hbt
          have hT4 : T < 4 := by omega
          have hU4 : U < 4 := by omega
          obtain ⟨V, hV⟩ : ∃ V : World, V = w1.alloc (.cells #[.int .i64 (T : Int), .int .i64 (U : Int)] 155) := ⟨_, rfl⟩
          have hbV : Below w1.heap.size w1 V := by rw [hV]; exact (Below.refl _ _).alloc (Nat.le_refl _) _
          have HSET : Hid (∀ v : Int, v = ((O.getD T 0 ||| 1 <<< U : Nat) : Int) → GrFill w w.heap.size w2.heap.size wo.heap.size (16 * k) (grTo L k) (fun z => left z && !z.sameKey (gplit T U)) cnt1 (V.drew.setCell ⟨wo.heap.size, T, none⟩ (.int .i64 v))) := fun v hv =>
            GrFill.step hbi HMI.out HLH.out H4O.out HROW.out HBIT.out hne hT4 hU4 hbt hrg1 hg1 hbV.drew v hv
          have HMS : Hid (cnt1 < cnt ∧ wi.rangeLeft w.heap.size w2.heap.size = cnt) := ⟨hlt1, HRG.out.left_eq⟩
          have v0 : V.cell? ⟨w1.heap.size, 0, none⟩ = some (.int .i64 (T : Int)) := by rw [hV]; exact box_at _ _ _ _ _ rfl
          have v1 : V.cell? ⟨w1.heap.size, 1, none⟩ = some (.int .i64 (U : Int)) := by rw [hV]; exact box_at _ _ _ _ _ rfl
          have hrowV : RowIs V wo.heap.size 3 (intCells (rowsI O) ++ []) := RowIs.below ((hg1.block wo.heap.size HROW.out.lt (by intro e; injection e with e; exact hne.1 e.symm)).trans HROW.out) hbV (Nat.le_refl _)
          have hr16 := (rowsI_at H4O.out (T := T) (by omega)).2
          have hcr : V.cell? ⟨wo.heap.size, T, none⟩ = some (.int .i64 ((O.getD T 0 : Nat) : Int)) := by
            refine hrowV.cell ?_
            rw [List.append_nil]
            exact (rowsI_at H4O.out (T := T) (by omega)).1
          have hfz := hrowV.frozen T
          generalize O.getD T 0 = x at *
          have hVV := Lib.hid hV
          have e1 : bits .or .i64 (x : Int) 1 = ((x ||| 1 : Nat) : Int) := or_nat x 1 (by omega) (by omega)
          have e2 : bits .or .i64 (x : Int) 2 = ((x ||| 2 : Nat) : Int) := or_nat x 2 (by omega) (by omega)
          have e4 : bits .or .i64 (x : Int) 4 = ((x ||| 4 : Nat) : Int) := or_nat x 4 (by omega) (by omega)
          have e8 : bits .or .i64 (x : Int) 8 = ((x ||| 8 : Nat) : Int) := or_nat x 8 (by omega) (by omega)
          have l1 : (T : Int) < 4 := by omega
          have l2 : (0 : Int) ≤ (T : Int) := by omega
          rw [hs1] at v0 v1
          obtain ⟨wd, hwd⟩ : ∃ wd : World, wd = V.drew := ⟨_, rfl⟩
          rw [← hwd] at HSET
          have hcr2 : wd.cell? ⟨wo.heap.size, T, none⟩ = some (.int .i64 (x : Int)) := by rw [hwd]; exact hcr
          have hfz2 : wd.frozen? ⟨wo.heap.size, T, none⟩ = false := by rw [hwd]; exact hfz
          clear hrg1 hg1 hlx hat hV hbV hrowV hwt hwu hbt HF HRG
          rw [← hVV.out]
          rcases (by omega : U = 0 ∨ U = 1 ∨ U = 2 ∨ U = 3) with rfl | rfl | rfl | rfl
          all_goals
            refine wp_region_still_tail 10 (by kernel_rfl) (by kernel_rfl) ?_
            simp only [List.take_succ_cons, List.take_zero, List.drop_succ_cons, List.drop_zero]
            repeat (first | still_step | fail)
            refine wpStill_nil ?_
            change wpList _ _ _ _ _ V.drew
            rw [← hwd]
            go_wp2_with fail
            go_roundw
            case rel =>
              first | rw [e1] | rw [e2] | rw [e4] | rw [e8]
              have h := HSET.out _ rfl
              rw [hwd] at h
              exact ⟨_, _, h⟩
            case measure =>
              first | rw [e1] | rw [e2] | rw [e4] | rw [e8]
              have h := HSET.out _ rfl
              rw [hwd] at h
              obtain ⟨D9, hr9, _⟩ := h.rng
              have h1 := hr9.left_eq
              exact Nat.lt_of_lt_of_le (Nat.lt_of_le_of_lt (Nat.le_of_eq h1) HMS.out.1) (Nat.le_of_eq HMS.out.2.symm)
end Go.Proofs.Ytcakjhappchlmaa
namespace Go.Proofs.Ytcakjhappchlmaa
open Go.RowKit Go.BigFrame Go.Shelf
set_option linter.unusedVariables false

attribute [local go_sem] Oper.semAt_some

set_option maxHeartbeats 400000 in
theorem ClipO_any (A : Option Addr) (n c : Nat) (w : World) (hn : n ≤ 1099511627776) (hnc : n ≤ c) :
    Calls Try.prog 89 #[.slice A n c] w fun e w' => e = .returned (.slice A n n) ∧ w = w' := by
  go_enter Try.func89, Try.ntmps89
  go_wp2
  go_ret
  exact ⟨rfl, rfl⟩
set_option maxHeartbeats 400000 in
theorem ClipL_any (A : Option Addr) (n c : Nat) (w : World) (hn : n ≤ 1099511627776) (hnc : n ≤ c) :
    Calls Try.prog 166 #[.slice A n c] w fun e w' => e = .returned (.slice A n n) ∧ w = w' := by
  go_enter Try.func166, Try.ntmps166
  go_wp2
  go_ret
  exact ⟨rfl, rfl⟩

section
variable {w : World} {ops : Array Oper} {o : Oper} {a : Act} {K : Act → World → Prop} {Q : Exit → Act → World → Prop} {E : Prop} {l m : Nat}
/-- append of a slice, at a step of a region that draws its order, within a round. -/
theorem stepIn_rows (s x : Operand) {base : Nat} {v : Value} {n : Nat} {rv : List Value} (hown : w.ownsRow base 34 1 v n rv) (hbase : base ≤ w.heap.size)
    {A : Option Addr} {k c : Nat} {rs : List Value} (hr : Src w 1 A k rs) (hn : n + k ≤ 1099511627776)
    (hgd : o.guard = none) (ho : o.op = .call { callee := .builtin .append, args := #[s, x], argTypes := #[52, 52] }) (hs : a.eval s = v) (hx : a.eval x = .slice A k c)
    (h : ∀ v' w', w'.ownsRow base 34 1 v' (n + k) (rv ++ rs) → w.grownBy w' v.ownBlock → (v'.ownBlock = v.ownBlock ∨ v'.ownBlock = some w.heap.size) → K (a.put o.dst v') w') :
    if Region.wanted o (yielded ops a.tmps) = true then Oper.wpIn (Fence.wide.inRound l) m Try.prog o a w K Q else E := by
  have hw : Region.wanted o (yielded ops a.tmps) = true := by simp [Region.wanted, hgd]
  rw [if_pos hw]
  obtain ⟨i0, hi, hz0, hz1, hz2⟩ := info_parts intsInfo
  obtain ⟨v', w', hrun, h2, h3, h4⟩ := run_app (P := Try.prog) base 52 o.type 34 i0 _ 1 24 Try.underlying52 hi hz0 hz1 hz2 rfl (by decide) v n rv hown A k c rs hr (by simp only [maxLen]; omega) (by omega) hbase
  unfold Oper.wpIn
  refine ⟨?_, ?_⟩
  · simp [Oper.about, ho, resolve, Target.leads, Sem.run_pure]
  · rw [Oper.semAt_plain _ _ _ (by rw [ho]; intro c hc'; cases hc')]
    simp [execOp, ho, resolve, invoke, builtin, hs, hx, hrun, Result.andThen]
    exact h v' w' h2 h3 h4
end

theorem orders_start (w : World) (A G : Option Addr) (n c gc : Nat) (wL : World) (hwL : (((w.alloc (.cells #[.slice G 4 gc] 34)).alloc (.cells #[] 34)).alloc (.cells #[.slice (some ⟨w.heap.size + 1, 0, none⟩) 0 0] 52)).alloc (.cells #[.slice A n c] 34) = wL) :
    Below w.heap.size w wL ∧ wL.heap.size = w.heap.size + 4 ∧ wL.cell? ⟨w.heap.size, 0, none⟩ = some (.slice G 4 gc) ∧ wL.cell? ⟨w.heap.size + 2, 0, none⟩ = some (.slice (some ⟨w.heap.size + 1, 0, none⟩) 0 0) ∧
      wL.frozen? ⟨w.heap.size + 2, 0, none⟩ = false ∧ wL.cell? ⟨w.heap.size + 3, 0, none⟩ = some (.slice A n c) ∧ wL.ownsRow w.heap.size 34 1 (.slice (some ⟨w.heap.size + 1, 0, none⟩) 0 0) 0 [] := by
  obtain ⟨w1, h1⟩ : ∃ w1, w.alloc (.cells #[.slice G 4 gc] 34) = w1 := ⟨_, rfl⟩
  rw [h1] at hwL
  obtain ⟨w2, h2⟩ : ∃ w2, w1.alloc (.cells #[] 34) = w2 := ⟨_, rfl⟩
  rw [h2] at hwL
  obtain ⟨w3, h3⟩ : ∃ w3, w2.alloc (.cells #[.slice (some ⟨w.heap.size + 1, 0, none⟩) 0 0] 52) = w3 := ⟨_, rfl⟩
  rw [h3] at hwL
  have s1 : w1.heap.size = w.heap.size + 1 := by rw [← h1]; simp
  have s2 : w2.heap.size = w.heap.size + 2 := by rw [← h2]; simp; omega
  have s3 : w3.heap.size = w.heap.size + 3 := by rw [← h3]; simp; omega
  have s4 : wL.heap.size = w.heap.size + 4 := by rw [← hwL]; simp; omega
  have b3 : Below w3.heap.size w3 wL := by rw [← hwL]; exact (Below.refl _ _).alloc (Nat.le_refl _) _
  have b2 : Below w2.heap.size w2 wL := by
    refine Below.trans ?_ (b3.mono (by omega))
    rw [← h3]; exact (Below.refl _ _).alloc (Nat.le_refl _) _
  have b1 : Below w1.heap.size w1 wL := by
    refine Below.trans ?_ (b2.mono (by omega))
    rw [← h2]; exact (Below.refl _ _).alloc (Nat.le_refl _) _
  have b0 : Below w.heap.size w wL := by
    refine Below.trans ?_ (b1.mono (by omega))
    rw [← h1]; exact (Below.refl _ _).alloc (Nat.le_refl _) _
  have k1 : w1.heap[w.heap.size]? = some (.cells #[.slice G 4 gc] 34 (0, 0)) := by rw [← h1]; exact heap_alloc_new w _
  have k2 : w2.ownsRow w.heap.size 34 1 (.slice (some ⟨w.heap.size + 1, 0, none⟩) 0 0) 0 [] := by
    have := World.ownsRow_made (base := w.heap.size) (e := 34) (size := 1) w1 #[] 0 (by omega) (by decide) rfl
    rw [s1, h2] at this
    exact this
  have k3 : w3.heap[w.heap.size + 2]? = some (.cells #[.slice (some ⟨w.heap.size + 1, 0, none⟩) 0 0] 52 (0, 0)) := by
    have := heap_alloc_new w2 (.cells #[.slice (some ⟨w.heap.size + 1, 0, none⟩) 0 0] 52)
    rw [h3, s2] at this; exact this
  have k4 : wL.heap[w.heap.size + 3]? = some (.cells #[.slice A n c] 34 (0, 0)) := by
    have := heap_alloc_new w3 (.cells #[.slice A n c] 34)
    rw [hwL, s3] at this; exact this
  have k1' := (b1.block _ (by omega)).trans k1
  have k3' := (b3.block _ (by omega)).trans k3
  refine ⟨b0, s4, ?_, ?_, ?_, ?_, own_below k2 b2⟩
  · rw [cell_of_row _ _ _ _ _ _ k1']; rfl
  · rw [cell_of_row _ _ _ _ _ _ k3']; rfl
  · simp [World.frozen?, k3']
  · rw [cell_of_row _ _ _ _ _ _ k4]; rfl

theorem Src.one (w : World) (u : Value) (t : TypeId) (h1 : u.oneCell' = true) : Src (w.alloc (.cells #[u] t)) 1 (some ⟨w.heap.size, 0, none⟩) 1 [u] :=
  ⟨rfl, by simp [h1], fun _ => ⟨_, rfl, fun j v hv => cell_one_new w u t j v hv⟩⟩

set_option maxRecDepth 100000 in
set_option maxHeartbeats 2000000 in
theorem ordersBy_any (A G : Option Addr) (n c gc : Nat) (list : List Int) (R : List Nat) (w : World) (hl : RInts w A n list) (hA : ∀ ad, A = some ad → ad.block < w.heap.size) (hg : RInts w G 4 (rowsI R)) (h4 : Rows4 R) (hr : ∀ t ∈ list, 0 ≤ t ∧ t ≤ 3) (hn4 : n ≤ 4) :
    Calls Try.prog 141 #[.slice A n c, .slice G 4 gc] w (RetListsA w (ordI list R)) := by
  have hlen := hl.1
  have HL := Lib.hid hl
  have HG := Lib.hid hg
  have H4 := Lib.hid h4
  have HR := Lib.hid hr
  have HA := Lib.hid hA
  have HLEN := Lib.hid hlen
  clear hl hg h4 hr hA hlen
  refine (callsIn_wide (n := 9)).1 ?_
  refine callsIn_of_wp_marks Try.func141 rfl trivial ?_ rfl
  simp only [Try.ntmps141, List.size_toArray, List.length_cons, List.length_nil, Nat.reduceAdd, Nat.reduceSub, Array.replicate_succ, Array.replicate_zero, List.push_toArray, List.append_toArray, List.nil_append, List.cons_append]
  gi_wp2
  refine (wpIn_wide (n := 9)).2 (wp_scope_straight ((wpIn_wide (n := 9)).1 ?_))
  gi_wp2
  refine wpIn_label ?_
  gi_wp2_with (refine ⟨trivial, ?_⟩; gi_at_call 165; refine (callsIn_wide.2 (permutations_any A n c _)).mono ?_; rintro e w' ⟨rfl, rfl⟩)
  -- the world where the loop begins
  obtain ⟨wL, hwL⟩ : ∃ wL, (((w.alloc (.cells #[.slice G 4 gc] 34)).alloc (.cells #[] 34)).alloc (.cells #[.slice (some ⟨w.heap.size + 1, 0, none⟩) 0 0] 52)).alloc (.cells #[.slice A n c] 34) = wL := ⟨_, rfl⟩
  have hfacts : Below w.heap.size w wL ∧ wL.heap.size = w.heap.size + 4 ∧ wL.cell? ⟨w.heap.size, 0, none⟩ = some (.slice G 4 gc) ∧ wL.cell? ⟨w.heap.size + 2, 0, none⟩ = some (.slice (some ⟨w.heap.size + 1, 0, none⟩) 0 0) ∧
      wL.frozen? ⟨w.heap.size + 2, 0, none⟩ = false ∧ wL.cell? ⟨w.heap.size + 3, 0, none⟩ = some (.slice A n c) ∧ wL.ownsRow w.heap.size 34 1 (.slice (some ⟨w.heap.size + 1, 0, none⟩) 0 0) 0 [] := orders_start w A G n c gc wL hwL
  rw [hwL]
  clear hwL
  obtain ⟨hbL, hsL, cg, co, fo, cl, hoL⟩ := hfacts
  have hS : w.heap.size + 2 < wL.heap.size := by omega
  refine wpIn_rangePerm (w.heap.size + 3) w.heap.size n c A list rfl rfl cl (HL.out.below hbL (Nat.le_refl _)) HA.out (by omega) hn4
    (fun acc V => OutInv w wL (w.heap.size + 2) (w.heap.size + 1) (acc.filter (accB R [])) V ∧ V.cell? ⟨w.heap.size, 0, none⟩ = some (.slice G 4 gc)) ?hI ⟨OutInv.start hbL co fo hoL, cg⟩
    (fun v => { tmps := #[.slice A n c, .slice G 4 gc, undef, .pointer (some ⟨w.heap.size, 0, none⟩), .slice none 0 0, .pointer (some ⟨w.heap.size + 1 + 1, 0, none⟩), v, undef, undef, undef, .slice (some ⟨w.heap.size + 1, 0, none⟩) 0 0, .slice A n c, .func (.func 176) #[] #[.pointer (some ⟨w.heap.size + 3, 0, none⟩)], v, undef, undef, undef, undef, undef, undef, undef, undef, undef, undef, undef, undef, undef, undef, undef, undef, undef, undef, undef, undef, undef, undef, undef, undef, undef], defers := [] }) ?assign ?body ?done
  case hI =>
    rintro s V W ⟨h1, h2⟩ hst
    exact ⟨h1.step (by omega) (by omega) (by omega) hst, (World.cell?_of_block (w := V) (a := ⟨w.heap.size, 0, none⟩) (hst.block _ (block_lt_of_cell h2) (by simp; omega))).trans h2⟩
  case assign =>
    intro l m v W K hK
    gi_wp2
    exact hK
  case done =>
    rintro W ⟨hO, _⟩ hsz hdf
    have hO2 := hO.step (by omega) (by omega) (by omega) (LpStep.put W (l := wL.heap.size) (.deferred none) (by omega))
    obtain ⟨hb, hf, ov, rv, hc, hown, hrows, hapr, hgo⟩ := hO
    obtain ⟨Ao, co', rfl, hco⟩ := own_form2 hown
    have HRET : Hid (RetListsA w ((permF list n []).filter (accB R [])) (.returned (.slice Ao ((permF list n []).filter (accB R [])).length ((permF list n []).filter (accB R [])).length)) (W.putObj wL.heap.size (.deferred none))) := by
      obtain ⟨hb2, _, ov2, rv2, hc2, hown2, hrows2, hap2, _⟩ := hO2
      have ek : (W.putObj wL.heap.size (.deferred none)).cell? ⟨w.heap.size + 2, 0, none⟩ = W.cell? ⟨w.heap.size + 2, 0, none⟩ := World.cell?_of_block (w := W) (World.putObj_heap_other (by simp; omega))
      rw [ek, hc] at hc2
      injection hc2 with hc2
      subst hc2
      exact ⟨Ao, _, rv2, rfl, Nat.le_refl _, OuterR.of_own hown2 (Nat.le_refl _) hrows2.one, hrows2.since (by rw [six_size]; omega), hap2, hb2⟩
    have hN : ((permF list n []).filter (accB R [])).length ≤ 256 := by
      refine Nat.le_trans (List.length_filter_le _ _) (Nat.le_trans (permF_len (by rw [HLEN.out]; exact hn4) n []) ?_)
      exact Nat.pow_le_pow_right (by omega) hn4
    have HOR : Hid (ordI list R = (permF list n []).filter (accB R [])) := by show _ = _; unfold ordI; rw [HLEN.out]
    generalize (permF list n []).filter (accB R []) = res at *
    generalize res.length = N at *
    clear hO2 hown hrows hgo hb hapr
    gi_wp2_with (refine ⟨trivial, ?_⟩; gi_at_call 166; refine (callsIn_wide.2 (ClipL_any Ao N co' _ (by omega) hco)).mono ?_; rintro e w' ⟨rfl, rfl⟩)
    rw [Exit.noGoto_ret]
    rw [hsL] at hdf HRET
    refine ⟨by simp, .inl ⟨_, _, rfl, run_takeDeferred hdf, ?_⟩⟩
    exact ⟨_, results_tmp rfl _ _ _, by rw [HOR.out]; exact HRET.out⟩
  case body =>
    rintro l m pre x V W A' c' ⟨hOV, hgV⟩ hstV hloV hfV hc' hpx
    have hO : OutInv w wL (w.heap.size + 2) (w.heap.size + 1) (pre.filter (accB R [])) W := hOV.step (by omega) (by omega) (by omega) hstV
    have hgc : W.cell? ⟨w.heap.size, 0, none⟩ = some (.slice G 4 gc) := (World.cell?_of_block (w := V) (a := ⟨w.heap.size, 0, none⟩) (hstV.block _ (block_lt_of_cell hgV) (by simp; omega))).trans hgV
    have hlo : wL.heap.size + 6 ≤ W.heap.size := by have := hstV.size; omega
    have hfx : FreshInts (six wL) W A' n x := hfV.since (by rw [six_size]; omega)
    have HOP := Lib.hid (hOV.open_ (by omega) (by omega) (by omega) hstV)
    have HFV := Lib.hid hfV
    clear hOV hgV hstV hloV hfV
    have hxm : x ∈ permF list n [] := List.IsPrefix.subset hpx (by simp)
    have hxl : x.length = n := by have := permF_length n [] x hxm; simpa using this
    have hxr : ∀ t ∈ x, 0 ≤ t ∧ t ≤ 3 := fun t ht => by
      rcases permF_sub n [] x hxm t ht with h | h
      · cases h
      · exact HR.out t h
    have hpl : (pre.filter (accB R [])).length + 1 ≤ 256 := by
      have h1 := hpx.length_le
      have h2 := permF_len (list := list) (by rw [HLEN.out]; exact hn4) n []
      have h3 : (4:Nat) ^ n ≤ 256 := Nat.pow_le_pow_right (by omega) hn4
      have h4 := List.length_filter_le (accB R []) pre
      simp at h1
      omega
    have HX := Lib.hid hfx
    have HO := Lib.hid hO
    have HXR := Lib.hid hxr
    have HXL := Lib.hid hxl
    have HGW : Hid (RInts W G 4 (rowsI R)) := HG.out.below hO.below (Nat.le_refl _)
    have HF1 : Hid (accB R [] x = true → (pre ++ [x]).filter (accB R []) = pre.filter (accB R []) ++ [x]) := fun h => by rw [List.filter_append, List.filter_cons, if_pos h, List.filter_nil]
    have HF0 : Hid (accB R [] x = false → (pre ++ [x]).filter (accB R []) = pre.filter (accB R [])) := fun h => by rw [List.filter_append, List.filter_cons, if_neg (by rw [h]; simp), List.filter_nil, List.append_nil]
    clear hO hfx hpx hxm hxr hxl
    gi_wp2
    gi_loopw [7, 16] (fun g i wr => ∃ k : Nat, k ≤ n ∧ i = .int .i64 k ∧ g = .int .i64 (goneN (x.take k) : Nat) ∧ accB R [] (x.take k) = true ∧ wr = W) (fun _ i _ => n - (intOf i).toNat)
    case atStart => exact ⟨0, Nat.zero_le _, rfl, by simp [goneN], by simp [accB], rfl⟩
    case round =>
      obtain ⟨k, hk, rfl, rfl, hacc, rfl⟩ := hrel
      have HACC := Lib.hid hacc
      clear hacc
      by_cases hlt : k < n
      · obtain ⟨b, off, t, rfl, hbl, ho, ct⟩ := HX.out.1.at_ hlt
        have htr := HXR.out t (List.mem_of_getElem? ho)
        have hg16 : goneN (x.take k) < 16 := goneN_lt fun u hu => HXR.out u (List.mem_of_mem_take hu)
        have HGO : Hid (goneN (x.take (k + 1)) = goneN (x.take k) ||| 1 <<< t.toNat) := gone_take ho
        have HNO : Hid (¬ (R.getD t.toNat 0 &&& goneN (x.take k) = 0) → accB R [] x = false) := acc_no ho
        have HYES : Hid (R.getD t.toNat 0 &&& goneN (x.take k) = 0 → accB R [] (x.take (k + 1)) = true) := fun h => acc_go ho HACC.out h
        clear ho HACC
        generalize goneN (x.take k) = g at *
        obtain ⟨tn, rfl⟩ := Int.eq_ofNat_of_zero_le htr.1
        have htn : tn < 4 := by omega
        obtain ⟨bg, offg, rfl, hbg, cgr, hr16⟩ := rowsI_at3 H4.out HGW.out htn
        simp only [Int.toNat_natCast] at HNO HYES HGO
        generalize R.getD tn 0 = r at *
        have hand := and_nat r g (by omega) (by omega)
        obtain ⟨v, hv⟩ : ∃ v, r &&& g = v := ⟨_, rfl⟩
        rw [hv] at hand HNO HYES
        have l1 : (tn : Int) < 4 := by omega
        have l2 : (0 : Int) ≤ (tn : Int) := by omega
        have l3 : (k : Int) < n := by omega
        have l4 : (0 : Int) ≤ (k : Int) := by omega
        clear hv
        by_cases hv0 : v = 0
        · subst hv0
          have HY := Lib.hid (HYES.out rfl)
          have e1 : bits .or .i64 (g : Int) 1 = ((g ||| 1 : Nat) : Int) := or_nat g 1 (by omega) (by omega)
          have e2 : bits .or .i64 (g : Int) 2 = ((g ||| 2 : Nat) : Int) := or_nat g 2 (by omega) (by omega)
          have e4 : bits .or .i64 (g : Int) 4 = ((g ||| 4 : Nat) : Int) := or_nat g 4 (by omega) (by omega)
          have e8 : bits .or .i64 (g : Int) 8 = ((g ||| 8 : Nat) : Int) := or_nat g 8 (by omega) (by omega)
          clear HYES HNO
          rcases (by omega : tn = 0 ∨ tn = 1 ∨ tn = 2 ∨ tn = 3) with rfl | rfl | rfl | rfl
          all_goals
            try simp only [Nat.add_zero] at cgr
            gi_wp2
            go_roundw
            case rel => exact ⟨k + 1, by omega, by go_num, by rw [HGO.out]; rfl, HY.out, by first | rfl | trivial⟩
            case measure => simp [intOf]; omega
        · have hvn : ((v : Int) != 0) = true := by simp; omega
          have HN := Lib.hid (HNO.out hv0)
          clear HYES HNO
          gi_wp2
          refine ⟨BdKeep.of_below (Below.refl _ _), ?_, hgc⟩
          show OutInv _ _ _ _ ((pre ++ [x]).filter (accB R [])) _
          rw [HF0.out HN.out]
          exact HO.out
      · obtain rfl : k = n := by omega
        have hacx : accB R [] x = true := by
          have := HACC.out
          rwa [List.take_of_length_le (by rw [HXL.out]; exact Nat.le_refl _)] at this
        have HF := Lib.hid (HF1.out hacx)
        obtain ⟨hb, hf, ov, rv, hc, hown, hrows, hapr, hgo, hblk⟩ := HOP.out
        obtain ⟨Ao, co', rfl, hco⟩ := own_form2 hown
        have HAPR : Hid (ApartR (rv ++ [.slice A' k k])) := hapr.snoc fun i a m d b hAb hi => by
          obtain ⟨b', cur, e1, e2, _, _⟩ := HFV.out.2 b hAb
          have := hblk i a m d hi
          rw [e1]; simp only; omega
        have hcA : (wr.alloc (.cells #[.slice A' k k] 34)).drew.cell? ⟨w.heap.size + 2, 0, none⟩ = some (.slice Ao (pre.filter (accB R [])).length co') := (((Below.refl _ wr).alloc (Nat.le_refl _) (.cells #[.slice A' k k] 34)).drew.cell (p := ⟨w.heap.size + 2, 0, none⟩) (block_lt_of_cell hc)).trans hc
        have hbA : Below wr.heap.size wr (wr.alloc (.cells #[.slice A' k k] 34)).drew := ((Below.refl _ wr).alloc (Nat.le_refl _) _).drew
        have HBA := Lib.hid hbA
        have HOWN := Lib.hid hown
        have HOWA := Lib.hid (own_below hown hbA)
        have HROWS := Lib.hid hrows
        have HGO := Lib.hid hgo
        have hs2 : w.heap.size ≤ wr.heap.size := hb.size
        have HB := Lib.hid hb
        have HGC := Lib.hid hgc
        have HHF := Lib.hid hf
        have HHC := Lib.hid hc
        generalize hN : (pre.filter (accB R [])).length = N at *
        have HN := Lib.hid hN
        clear hapr hblk HFV HOP hown hrows hgo hbA hb hacx HACC HF0 HF1 hN
        gi_wp2
        refine wpIn_region_any (by kernel_rfl) ?_
        change wpAnyIn _ _ _ _ _ _ _ _ _ (World.drew _)
        refine wpAnyIn_ready (rs := [0, 1]) (by kernel_rfl) (by simp) ?_
        refine AllReadyIn.cons rfl (fun K hK => ?_) ?_
        · skip
          go_simp
          refine hK _ _ ?_
          clear hK K
          refine wpAnyIn_ready (rs := [1]) (by kernel_rfl) (by simp) ?_
          refine AllReadyIn.cons rfl (fun K hK => ?_) ?_
          · skip
            go_simp
            refine hK _ _ ?_
            clear hK K
            refine wpAnyIn_ready (rs := [2]) (by kernel_rfl) (by simp) ?_
            refine AllReadyIn.cons rfl (fun K hK => ?_) ?_
            · skip
              go_simp
              refine ⟨trivial, fun h => (by simp [Fence.wide] at h), ?_⟩
              gi_at_call 89
              refine (CallsIn.inRound l (callsIn_wide.2 (ClipO_any A' k c' _ (by omega) hc'))).mono ?_
              rintro e w' ⟨rfl, rfl⟩
              go_simp
              refine hK _ _ ?_
              clear hK K
              refine wpAnyIn_ready (rs := [3]) (by kernel_rfl) (by simp) ?_
              refine AllReadyIn.cons rfl (fun K hK => ?_) ?_
              · skip
                go_simp
                refine hK _ _ ?_
                clear hK K
                refine wpAnyIn_ready (rs := [4]) (by kernel_rfl) (by simp) ?_
                refine AllReadyIn.cons rfl (fun K hK => ?_) ?_
                · skip
                  refine stepIn_rows (.tmp 32) (.tmp 35) HOWA.out (by have := HBA.out.size; omega) (Src.one wr.drew (.slice A' k k) 34 rfl) (by omega) rfl rfl rfl rfl ?_
                  intro v1 w1 hown1 hg1 hat1
                  obtain ⟨A1, c1, rfl, hc1⟩ := own_form2 hown1
                  have hne : (Value.slice Ao N co').ownBlock ≠ some (w.heap.size + 2) := fun e => by have := HGO.out _ e; omega
                  have c2w := (cell_grown hg1 (p := ⟨w.heap.size + 2, 0, none⟩) (block_lt_of_cell hcA) (fun e => hne e.symm)).trans hcA
                  have f2w : w1.frozen? ⟨w.heap.size + 2, 0, none⟩ = false := (frozen_grown hg1 (p := ⟨w.heap.size + 2, 0, none⟩) (block_lt_of_cell hcA) (fun e => hne e.symm)).trans ((HBA.out.frozen (p := ⟨w.heap.size + 2, 0, none⟩) (block_lt_of_cell hc)).trans hf)
                  have hfin := And.intro (push_keep (w := wL) (bo := w.heap.size + 2) (q := w.heap.size + 1) (bx := w.heap.size + 3) (n0 := w.heap.size) (ov' := .slice A1 (N + 1) c1) (by omega) ⟨by omega, by omega⟩ ⟨by omega, by omega, by omega⟩ (by omega) HGO.out (by omega) HBA.out hg1) (And.intro (OutInv.push (w := wL) (bo := w.heap.size + 2) (q := w.heap.size + 1) (xss := pre.filter (accB R [])) (by omega) (by omega) (by omega) ⟨by omega, by omega⟩ HB.out HHF.out HHC.out (by rw [HN.out]; exact HOWN.out) HROWS.out HAPR.out HGO.out HX.out HXL.out HBA.out hlo (by rw [HN.out]; exact hown1) hg1 hat1) (push_cell (w := wL) (bo := w.heap.size + 2) (q := w.heap.size + 1) (p := w.heap.size) (ov' := .slice A1 (N + 1) c1) HGO.out (by omega) (by omega) (by omega) HBA.out hg1 HGC.out))
                  have HFIN := Lib.hid hfin
                  clear hfin hown1 hg1 hat1
                  go_simp
                  refine hK _ _ ?_
                  clear hK K
                  refine wpAnyIn_ready (rs := [5]) (by kernel_rfl) (by simp) ?_
                  refine AllReadyIn.cons rfl (fun K hK => ?_) ?_
                  · skip
                    go_simp
                    refine hK _ _ ?_
                    clear hK K
                    refine wpAnyIn_done (by kernel_rfl) ?_ _
                    have hgoal : permPost wL.heap.size (w.heap.size + 3) w.heap.size (fun acc V => OutInv w wL (w.heap.size + 2) (w.heap.size + 1) (acc.filter (accB R [])) V ∧ V.cell? ⟨w.heap.size, 0, none⟩ = some (.slice G 4 gc)) (pre ++ [x]) wr .normal { tmps := #[], defers := [] } (w1.setCell ⟨w.heap.size + 2, 0, none⟩ (.slice A1 (N + 1) c1)) := by
                      refine ⟨HFIN.out.1, ?_, HFIN.out.2.2⟩
                      show OutInv _ _ _ _ ((pre ++ [x]).filter (accB R [])) _
                      rw [HF.out]
                      exact HFIN.out.2.1
                    exact hgoal
                  exact AllReadyIn.nil
                exact AllReadyIn.nil
              exact AllReadyIn.nil
            exact AllReadyIn.nil
          exact AllReadyIn.nil
        refine AllReadyIn.cons rfl (fun K hK => ?_) ?_
        · skip
          go_simp
          refine hK _ _ ?_
          clear hK K
          refine wpAnyIn_ready (rs := [0, 2]) (by kernel_rfl) (by simp) ?_
          refine AllReadyIn.cons rfl (fun K hK => ?_) ?_
          · skip
            go_simp
            refine hK _ _ ?_
            clear hK K
            refine wpAnyIn_ready (rs := [2]) (by kernel_rfl) (by simp) ?_
            refine AllReadyIn.cons rfl (fun K hK => ?_) ?_
            · skip
              go_simp
              refine ⟨trivial, fun h => (by simp [Fence.wide] at h), ?_⟩
              gi_at_call 89
              refine (CallsIn.inRound l (callsIn_wide.2 (ClipO_any A' k c' _ (by omega) hc'))).mono ?_
              rintro e w' ⟨rfl, rfl⟩
              go_simp
              refine hK _ _ ?_
              clear hK K
              refine wpAnyIn_ready (rs := [3]) (by kernel_rfl) (by simp) ?_
              refine AllReadyIn.cons rfl (fun K hK => ?_) ?_
              · skip
                go_simp
                refine hK _ _ ?_
                clear hK K
                refine wpAnyIn_ready (rs := [4]) (by kernel_rfl) (by simp) ?_
                refine AllReadyIn.cons rfl (fun K hK => ?_) ?_
                · skip
                  refine stepIn_rows (.tmp 32) (.tmp 35) HOWA.out (by have := HBA.out.size; omega) (Src.one wr.drew (.slice A' k k) 34 rfl) (by omega) rfl rfl rfl rfl ?_
                  intro v1 w1 hown1 hg1 hat1
                  obtain ⟨A1, c1, rfl, hc1⟩ := own_form2 hown1
                  have hne : (Value.slice Ao N co').ownBlock ≠ some (w.heap.size + 2) := fun e => by have := HGO.out _ e; omega
                  have c2w := (cell_grown hg1 (p := ⟨w.heap.size + 2, 0, none⟩) (block_lt_of_cell hcA) (fun e => hne e.symm)).trans hcA
                  have f2w : w1.frozen? ⟨w.heap.size + 2, 0, none⟩ = false := (frozen_grown hg1 (p := ⟨w.heap.size + 2, 0, none⟩) (block_lt_of_cell hcA) (fun e => hne e.symm)).trans ((HBA.out.frozen (p := ⟨w.heap.size + 2, 0, none⟩) (block_lt_of_cell hc)).trans hf)
                  have hfin := And.intro (push_keep (w := wL) (bo := w.heap.size + 2) (q := w.heap.size + 1) (bx := w.heap.size + 3) (n0 := w.heap.size) (ov' := .slice A1 (N + 1) c1) (by omega) ⟨by omega, by omega⟩ ⟨by omega, by omega, by omega⟩ (by omega) HGO.out (by omega) HBA.out hg1) (And.intro (OutInv.push (w := wL) (bo := w.heap.size + 2) (q := w.heap.size + 1) (xss := pre.filter (accB R [])) (by omega) (by omega) (by omega) ⟨by omega, by omega⟩ HB.out HHF.out HHC.out (by rw [HN.out]; exact HOWN.out) HROWS.out HAPR.out HGO.out HX.out HXL.out HBA.out hlo (by rw [HN.out]; exact hown1) hg1 hat1) (push_cell (w := wL) (bo := w.heap.size + 2) (q := w.heap.size + 1) (p := w.heap.size) (ov' := .slice A1 (N + 1) c1) HGO.out (by omega) (by omega) (by omega) HBA.out hg1 HGC.out))
                  have HFIN := Lib.hid hfin
                  clear hfin hown1 hg1 hat1
                  go_simp
                  refine hK _ _ ?_
                  clear hK K
                  refine wpAnyIn_ready (rs := [5]) (by kernel_rfl) (by simp) ?_
                  refine AllReadyIn.cons rfl (fun K hK => ?_) ?_
                  · skip
                    go_simp
                    refine hK _ _ ?_
                    clear hK K
                    refine wpAnyIn_done (by kernel_rfl) ?_ _
                    have hgoal : permPost wL.heap.size (w.heap.size + 3) w.heap.size (fun acc V => OutInv w wL (w.heap.size + 2) (w.heap.size + 1) (acc.filter (accB R [])) V ∧ V.cell? ⟨w.heap.size, 0, none⟩ = some (.slice G 4 gc)) (pre ++ [x]) wr .normal { tmps := #[], defers := [] } (w1.setCell ⟨w.heap.size + 2, 0, none⟩ (.slice A1 (N + 1) c1)) := by
                      refine ⟨HFIN.out.1, ?_, HFIN.out.2.2⟩
                      show OutInv _ _ _ _ ((pre ++ [x]).filter (accB R [])) _
                      rw [HF.out]
                      exact HFIN.out.2.1
                    exact hgoal
                  exact AllReadyIn.nil
                exact AllReadyIn.nil
              exact AllReadyIn.nil
            exact AllReadyIn.nil
          refine AllReadyIn.cons rfl (fun K hK => ?_) ?_
          · skip
            go_simp
            refine ⟨trivial, fun h => (by simp [Fence.wide] at h), ?_⟩
            gi_at_call 89
            refine (CallsIn.inRound l (callsIn_wide.2 (ClipO_any A' k c' _ (by omega) hc'))).mono ?_
            rintro e w' ⟨rfl, rfl⟩
            go_simp
            refine hK _ _ ?_
            clear hK K
            refine wpAnyIn_ready (rs := [0, 3]) (by kernel_rfl) (by simp) ?_
            refine AllReadyIn.cons rfl (fun K hK => ?_) ?_
            · skip
              go_simp
              refine hK _ _ ?_
              clear hK K
              refine wpAnyIn_ready (rs := [3]) (by kernel_rfl) (by simp) ?_
              refine AllReadyIn.cons rfl (fun K hK => ?_) ?_
              · skip
                go_simp
                refine hK _ _ ?_
                clear hK K
                refine wpAnyIn_ready (rs := [4]) (by kernel_rfl) (by simp) ?_
                refine AllReadyIn.cons rfl (fun K hK => ?_) ?_
                · skip
                  refine stepIn_rows (.tmp 32) (.tmp 35) HOWA.out (by have := HBA.out.size; omega) (Src.one wr.drew (.slice A' k k) 34 rfl) (by omega) rfl rfl rfl rfl ?_
                  intro v1 w1 hown1 hg1 hat1
                  obtain ⟨A1, c1, rfl, hc1⟩ := own_form2 hown1
                  have hne : (Value.slice Ao N co').ownBlock ≠ some (w.heap.size + 2) := fun e => by have := HGO.out _ e; omega
                  have c2w := (cell_grown hg1 (p := ⟨w.heap.size + 2, 0, none⟩) (block_lt_of_cell hcA) (fun e => hne e.symm)).trans hcA
                  have f2w : w1.frozen? ⟨w.heap.size + 2, 0, none⟩ = false := (frozen_grown hg1 (p := ⟨w.heap.size + 2, 0, none⟩) (block_lt_of_cell hcA) (fun e => hne e.symm)).trans ((HBA.out.frozen (p := ⟨w.heap.size + 2, 0, none⟩) (block_lt_of_cell hc)).trans hf)
                  have hfin := And.intro (push_keep (w := wL) (bo := w.heap.size + 2) (q := w.heap.size + 1) (bx := w.heap.size + 3) (n0 := w.heap.size) (ov' := .slice A1 (N + 1) c1) (by omega) ⟨by omega, by omega⟩ ⟨by omega, by omega, by omega⟩ (by omega) HGO.out (by omega) HBA.out hg1) (And.intro (OutInv.push (w := wL) (bo := w.heap.size + 2) (q := w.heap.size + 1) (xss := pre.filter (accB R [])) (by omega) (by omega) (by omega) ⟨by omega, by omega⟩ HB.out HHF.out HHC.out (by rw [HN.out]; exact HOWN.out) HROWS.out HAPR.out HGO.out HX.out HXL.out HBA.out hlo (by rw [HN.out]; exact hown1) hg1 hat1) (push_cell (w := wL) (bo := w.heap.size + 2) (q := w.heap.size + 1) (p := w.heap.size) (ov' := .slice A1 (N + 1) c1) HGO.out (by omega) (by omega) (by omega) HBA.out hg1 HGC.out))
                  have HFIN := Lib.hid hfin
                  clear hfin hown1 hg1 hat1
                  go_simp
                  refine hK _ _ ?_
                  clear hK K
                  refine wpAnyIn_ready (rs := [5]) (by kernel_rfl) (by simp) ?_
                  refine AllReadyIn.cons rfl (fun K hK => ?_) ?_
                  · skip
                    go_simp
                    refine hK _ _ ?_
                    clear hK K
                    refine wpAnyIn_done (by kernel_rfl) ?_ _
                    have hgoal : permPost wL.heap.size (w.heap.size + 3) w.heap.size (fun acc V => OutInv w wL (w.heap.size + 2) (w.heap.size + 1) (acc.filter (accB R [])) V ∧ V.cell? ⟨w.heap.size, 0, none⟩ = some (.slice G 4 gc)) (pre ++ [x]) wr .normal { tmps := #[], defers := [] } (w1.setCell ⟨w.heap.size + 2, 0, none⟩ (.slice A1 (N + 1) c1)) := by
                      refine ⟨HFIN.out.1, ?_, HFIN.out.2.2⟩
                      show OutInv _ _ _ _ ((pre ++ [x]).filter (accB R [])) _
                      rw [HF.out]
                      exact HFIN.out.2.1
                    exact hgoal
                  exact AllReadyIn.nil
                exact AllReadyIn.nil
              exact AllReadyIn.nil
            refine AllReadyIn.cons rfl (fun K hK => ?_) ?_
            · skip
              go_simp
              refine hK _ _ ?_
              clear hK K
              refine wpAnyIn_ready (rs := [0]) (by kernel_rfl) (by simp) ?_
              refine AllReadyIn.cons rfl (fun K hK => ?_) ?_
              · skip
                go_simp
                refine hK _ _ ?_
                clear hK K
                refine wpAnyIn_ready (rs := [4]) (by kernel_rfl) (by simp) ?_
                refine AllReadyIn.cons rfl (fun K hK => ?_) ?_
                · skip
                  refine stepIn_rows (.tmp 32) (.tmp 35) HOWA.out (by have := HBA.out.size; omega) (Src.one wr.drew (.slice A' k k) 34 rfl) (by omega) rfl rfl rfl rfl ?_
                  intro v1 w1 hown1 hg1 hat1
                  obtain ⟨A1, c1, rfl, hc1⟩ := own_form2 hown1
                  have hne : (Value.slice Ao N co').ownBlock ≠ some (w.heap.size + 2) := fun e => by have := HGO.out _ e; omega
                  have c2w := (cell_grown hg1 (p := ⟨w.heap.size + 2, 0, none⟩) (block_lt_of_cell hcA) (fun e => hne e.symm)).trans hcA
                  have f2w : w1.frozen? ⟨w.heap.size + 2, 0, none⟩ = false := (frozen_grown hg1 (p := ⟨w.heap.size + 2, 0, none⟩) (block_lt_of_cell hcA) (fun e => hne e.symm)).trans ((HBA.out.frozen (p := ⟨w.heap.size + 2, 0, none⟩) (block_lt_of_cell hc)).trans hf)
                  have hfin := And.intro (push_keep (w := wL) (bo := w.heap.size + 2) (q := w.heap.size + 1) (bx := w.heap.size + 3) (n0 := w.heap.size) (ov' := .slice A1 (N + 1) c1) (by omega) ⟨by omega, by omega⟩ ⟨by omega, by omega, by omega⟩ (by omega) HGO.out (by omega) HBA.out hg1) (And.intro (OutInv.push (w := wL) (bo := w.heap.size + 2) (q := w.heap.size + 1) (xss := pre.filter (accB R [])) (by omega) (by omega) (by omega) ⟨by omega, by omega⟩ HB.out HHF.out HHC.out (by rw [HN.out]; exact HOWN.out) HROWS.out HAPR.out HGO.out HX.out HXL.out HBA.out hlo (by rw [HN.out]; exact hown1) hg1 hat1) (push_cell (w := wL) (bo := w.heap.size + 2) (q := w.heap.size + 1) (p := w.heap.size) (ov' := .slice A1 (N + 1) c1) HGO.out (by omega) (by omega) (by omega) HBA.out hg1 HGC.out))
                  have HFIN := Lib.hid hfin
                  clear hfin hown1 hg1 hat1
                  go_simp
                  refine hK _ _ ?_
                  clear hK K
                  refine wpAnyIn_ready (rs := [5]) (by kernel_rfl) (by simp) ?_
                  refine AllReadyIn.cons rfl (fun K hK => ?_) ?_
                  · skip
                    go_simp
                    refine hK _ _ ?_
                    clear hK K
                    refine wpAnyIn_done (by kernel_rfl) ?_ _
                    have hgoal : permPost wL.heap.size (w.heap.size + 3) w.heap.size (fun acc V => OutInv w wL (w.heap.size + 2) (w.heap.size + 1) (acc.filter (accB R [])) V ∧ V.cell? ⟨w.heap.size, 0, none⟩ = some (.slice G 4 gc)) (pre ++ [x]) wr .normal { tmps := #[], defers := [] } (w1.setCell ⟨w.heap.size + 2, 0, none⟩ (.slice A1 (N + 1) c1)) := by
                      refine ⟨HFIN.out.1, ?_, HFIN.out.2.2⟩
                      show OutInv _ _ _ _ ((pre ++ [x]).filter (accB R [])) _
                      rw [HF.out]
                      exact HFIN.out.2.1
                    exact hgoal
                  exact AllReadyIn.nil
                exact AllReadyIn.nil
              exact AllReadyIn.nil
            exact AllReadyIn.nil
          exact AllReadyIn.nil
        exact AllReadyIn.nil
end Go.Proofs.Ytcakjhappchlmaa
namespace Go.Proofs.Ytcakjhappchlmaa
open Go.RowKit Go.BigFrame
set_option linter.unusedVariables false

theorem graphOf_any' (A : Option Addr) (n c : Nat) (s : List OpV) (w : World) (hx : ROps w A n s) (hnc : n ≤ c) (hv : validS s = true) :
    Calls Try.prog 142 #[.slice A n c] w (RetInts w (rowsI (grI (committed s)))) := graphOf_any A n c s w hx hv

theorem RetListsA.from {w W w' : World} {xss : List (List Int)} {e : Ending} (hb : Below w.heap.size w W) (h : RetListsA W xss e w') : RetListsA w xss e w' := by
  obtain ⟨A6, c6, rv, rfl, h2, h3, h4, h5, h6⟩ := h
  have hs := hb.size
  exact ⟨A6, c6, rv, rfl, h2, ⟨h3.1, fun ad had => by obtain ⟨b, cur, e1, e2, e3⟩ := h3.2 ad had; exact ⟨b, cur, e1, by omega, e3⟩⟩, h4.since hs, h5, hb.trans (h6.mono hs)⟩
theorem RetLists.from {w W w' : World} {xss : List (List Int)} {e : Ending} (hb : Below w.heap.size w W) (h : RetLists W xss e w') : RetLists w xss e w' := by
  obtain ⟨A6, c6, rv, rfl, h2, h3, h4, h6⟩ := h
  have hs := hb.size
  exact ⟨A6, c6, rv, rfl, h2, ⟨h3.1, fun ad had => by obtain ⟨b, cur, e1, e2, e3⟩ := h3.2 ad had; exact ⟨b, cur, e1, by omega, e3⟩⟩, h4.since hs, hb.trans (h6.mono hs)⟩

set_option maxRecDepth 100000 in
set_option maxHeartbeats 1000000 in
theorem ordersOf_any (A : Option Addr) (n c : Nat) (s : List OpV) (w : World) (hx : ROps w A n s) (hv : validS s = true) :
    Calls Try.prog 110 #[.slice A n c] w (RetListsA w (ordO s)) := by
  have HX := Lib.hid hx
  have HV := Lib.hid hv
  clear hx hv
  go_enter Try.func110, Try.ntmps110
  go_wp2_with fail
  refine (committedOf_any A n c s w HX.out).mono ?_
  rintro e w1 ⟨C, cc, rfl, hcc, hf, hb1⟩
  have hf1 := hf.1
  have HT := Lib.hid (txsOf_any C (committed s).length cc (committed s) w1 hf1)
  clear hf
  go_wp2_with fail
  refine HT.out.mono ?_
  rintro e w2 ⟨L, lc, rfl, hlc, hf2, hb2⟩
  have hb12 := hb1.trans (hb2.mono hb1.size)
  have hG := graphOf_any A n c s w2 (HX.out.below hb12 (Nat.le_refl _)) HV.out
  have HG := Lib.hid hG
  have hL4 : (txsOf (committed s)).length ≤ 4 := txsOf_len _
  have HRL := Lib.hid (txsOf_rng0 (committed s))
  have HLR := Lib.hid hf2.1
  have HLB : Hid (∀ ad, L = some ad → ad.block < w2.heap.size) := FreshInts.blk hf2
  have HOO : Hid (ordO s = ordI (txsOf (committed s)) (grI (committed s))) := rfl
  have HR4 : Hid (Rows4 (grI (committed s))) := grI_ok (comm_tx4 HV.out)
  clear hf2 hG hf1 HT
  generalize txsOf (committed s) = LL at *
  go_wp2_with fail
  refine HG.out.mono ?_
  rintro e w3 ⟨G, gc, rfl, hgc, ⟨hg3, _⟩, hb3⟩
  have hlen : (rowsI (grI (committed s))).length = 4 := by simp [rowsI, HR4.out.1]
  rw [hlen] at hg3 hgc ⊢
  have hb13 := hb12.trans (hb3.mono hb12.size)
  have HO := Lib.hid (ordersBy_any L G LL.length lc gc LL (grI (committed s)) w3 (HLR.out.below hb3 (Nat.le_refl _)) (fun ad h => Nat.lt_of_lt_of_le (HLB.out ad h) hb3.size) hg3 HR4.out HRL.out hL4)
  rw [← HOO.out] at HO
  clear hg3 hlen hb3
  go_wp2_with fail
  refine HO.out.mono ?_
  intro e w4 hret
  obtain ⟨A6, c6, rv, rfl, h2, h3, h4, h5, h6⟩ := hret
  have HR : Hid (RetListsA w (ordO s) (.returned (.slice A6 (ordO s).length c6)) w4) := RetListsA.from hb13 ⟨A6, c6, rv, rfl, h2, h3, h4, h5, h6⟩
  clear h2 h3 h4 h5 h6 HO
  go_wp2_with fail
  go_ret
  exact HR.out

set_option maxRecDepth 100000 in
set_option maxHeartbeats 1000000 in
theorem OrdersOf_any (A : Option Addr) (n c : Nat) (s : List OpV) (w : World) (hx : ROps w A n s) (hnc : n ≤ c) :
    Calls Try.prog 48 #[.slice A n c] w (RetListsA w (orNil (validS s) (ordO s))) := by
  have HX := Lib.hid hx
  clear hx
  go_enter Try.func48, Try.ntmps48
  go_wp2_with fail
  refine (ValidSchedule_any A n c s w HX.out hnc).mono ?_
  rintro e w1 ⟨rfl, hb⟩
  cases hv : validS s
  · have HV := Lib.hid hv
    clear hv
    go_wp2_with fail
    go_ret
    rw [HV.out]
    exact RetListsA.nil hb
  · have HV := Lib.hid hv
    have HO := Lib.hid (ordersOf_any A n c s w1 (HX.out.below hb (Nat.le_refl _)) hv)
    clear hv
    go_wp2_with fail
    refine HO.out.mono ?_
    intro e w4 hret
    obtain ⟨A6, c6, rv, rfl, h2, h3, h4, h5, h6⟩ := hret
    have HR : Hid (RetListsA w (ordO s) (.returned (.slice A6 (ordO s).length c6)) w4) := RetListsA.from hb ⟨A6, c6, rv, rfl, h2, h3, h4, h5, h6⟩
    clear h2 h3 h4 h5 h6 HO
    go_wp2_with fail
    go_ret
    rw [HV.out]
    exact HR.out

set_option maxRecDepth 100000 in
set_option maxHeartbeats 1000000 in
theorem IsSerializable_any (A : Option Addr) (n c : Nat) (s : List OpV) (w : World) (hx : ROps w A n s) (hnc : n ≤ c) :
    Calls Try.prog 44 #[.slice A n c] w fun e w' => e = .returned (.bool (validS s && decide (0 < (ordO s).length))) ∧ Below w.heap.size w w' := by
  have HX := Lib.hid hx
  clear hx
  have hO := OrdersOf_any A n c s w HX.out hnc
  have HE : Hid ((validS s && decide (0 < (ordO s).length)) = decide (0 < (orNil (validS s) (ordO s)).length)) := by
    show _ = _
    cases validS s
    · rfl
    · simp [orNil]
  have HO := Lib.hid hO
  clear hO
  go_enter Try.func44, Try.ntmps44
  go_wp2_with fail
  refine HO.out.mono ?_
  intro e w4 hret
  obtain ⟨A6, c6, rv, rfl, h2, h3, h4, h5, h6⟩ := hret
  have hb := h6
  clear h3 h4 h5 h6
  obtain ⟨N, hN⟩ : ∃ N, (orNil (validS s) (ordO s)).length = N := ⟨_, rfl⟩
  rw [hN] at HE h2 ⊢
  clear hN HO
  go_wp2_with fail
  go_ret
  exact ⟨ret_bool HE.out.symm, hb⟩

/-! the reference -/
end Go.Proofs.Ytcakjhappchlmaa
namespace Go.Proofs.Ytcakjhappchlmaa
open Go.RowKit Go.BigFrame
set_option linter.unusedVariables false

theorem run_neq_slice_nil {P : Program} (w : World) (t e : TypeId) (a : Option Addr) (n c n' c' : Nat) (h : P.underlying t = some (.slice e)) :
    (binOp .neq t (.slice a n c) (.slice none n' c')).run P w = .ok (.bool (!a.isNone)) w := by
  simp only [binOp]
  simp [Op.equal, Op.maxDepth, Go.Lib.run_equalIn_slice_nil w 9999 t e a n c n' c' h]
def cirU (R : List Nat) (k : Nat) : List Int := ([0, 1, 2, 3].take k).foldl (fun b t => cirF R 4 [] b t) []
theorem cirU_succ {R : List Nat} {k : Nat} (h : k < 4) : cirU R (k + 1) = cirF R 4 [] (cirU R k) (k : Int) := by
  have e : [(0 : Int), 1, 2, 3][k]? = some (k : Int) := by
    rcases (by omega : k = 0 ∨ k = 1 ∨ k = 2 ∨ k = 3) with rfl | rfl | rfl | rfl <;> rfl
  unfold cirU
  rw [take_snoc e, List.foldl_append]; rfl

theorem cir_start (w : World) (G : Option Addr) (gc : Nat) (R : List Nat) (hG : RInts w G 4 (rowsI R)) (wL : World)
    (hwL : ((((w.alloc (.cells #[.slice G 4 gc] 34)).alloc (.cells #[.slice none 0 0] 34)).alloc (.cells #[] 3)).alloc (.cells #[.slice (some ⟨w.heap.size + 2, 0, none⟩) 0 0] 34)).alloc
      (.cells #[.func (.func 186) #[] #[.pointer (some ⟨w.heap.size + 3, 0, none⟩), .pointer (some ⟨w.heap.size, 0, none⟩), .pointer (some ⟨w.heap.size + 1, 0, none⟩), .pointer (some ⟨w.heap.size + 4, 0, none⟩)]] 160) = wL) :
    CirAt w.heap.size G gc R [] [] wL ∧ Below w.heap.size w wL := by
  obtain ⟨w1, h1⟩ : ∃ w1, w.alloc (.cells #[.slice G 4 gc] 34) = w1 := ⟨_, rfl⟩
  rw [h1] at hwL
  obtain ⟨w2, h2⟩ : ∃ w2, w1.alloc (.cells #[.slice none 0 0] 34) = w2 := ⟨_, rfl⟩
  rw [h2] at hwL
  obtain ⟨w3, h3⟩ : ∃ w3, w2.alloc (.cells #[] 3) = w3 := ⟨_, rfl⟩
  rw [h3] at hwL
  obtain ⟨w4, h4⟩ : ∃ w4, w3.alloc (.cells #[.slice (some ⟨w.heap.size + 2, 0, none⟩) 0 0] 34) = w4 := ⟨_, rfl⟩
  rw [h4] at hwL
  have s1 : w1.heap.size = w.heap.size + 1 := by rw [← h1]; simp
  have s2 : w2.heap.size = w.heap.size + 2 := by rw [← h2]; simp; omega
  have s3 : w3.heap.size = w.heap.size + 3 := by rw [← h3]; simp; omega
  have s4 : w4.heap.size = w.heap.size + 4 := by rw [← h4]; simp; omega
  have b4 : Below w4.heap.size w4 wL := by rw [← hwL]; exact (Below.refl _ _).alloc (Nat.le_refl _) _
  have b3 : Below w3.heap.size w3 wL := by
    refine Below.trans ?_ (b4.mono (by omega))
    rw [← h4]; exact (Below.refl _ _).alloc (Nat.le_refl _) _
  have b2 : Below w2.heap.size w2 wL := by
    refine Below.trans ?_ (b3.mono (by omega))
    rw [← h3]; exact (Below.refl _ _).alloc (Nat.le_refl _) _
  have b1 : Below w1.heap.size w1 wL := by
    refine Below.trans ?_ (b2.mono (by omega))
    rw [← h2]; exact (Below.refl _ _).alloc (Nat.le_refl _) _
  have b0 : Below w.heap.size w wL := by
    refine Below.trans ?_ (b1.mono (by omega))
    rw [← h1]; exact (Below.refl _ _).alloc (Nat.le_refl _) _
  have k1 : w1.heap[w.heap.size]? = some (.cells #[.slice G 4 gc] 34 (0, 0)) := by rw [← h1]; exact heap_alloc_new w _
  have k2 : w2.heap[w.heap.size + 1]? = some (.cells #[.slice none 0 0] 34 (0, 0)) := by
    have := heap_alloc_new w1 (.cells #[.slice none 0 0] 34)
    rw [h2, s1] at this; exact this
  have k3 : w3.ownsRow w.heap.size 3 1 (.slice (some ⟨w.heap.size + 2, 0, none⟩) 0 0) 0 (intCells []) := by
    have := World.ownsRow_made (base := w.heap.size) (e := 3) (size := 1) w2 #[] 0 (by omega) (by decide) rfl
    rw [s2, h3] at this
    exact this
  have k4 : w4.heap[w.heap.size + 3]? = some (.cells #[.slice (some ⟨w.heap.size + 2, 0, none⟩) 0 0] 34 (0, 0)) := by
    have := heap_alloc_new w3 (.cells #[.slice (some ⟨w.heap.size + 2, 0, none⟩) 0 0] 34)
    rw [h4, s3] at this; exact this
  have k5 := heap_alloc_new w4 (.cells #[.func (.func 186) #[] #[.pointer (some ⟨w.heap.size + 3, 0, none⟩), .pointer (some ⟨w.heap.size, 0, none⟩), .pointer (some ⟨w.heap.size + 1, 0, none⟩), .pointer (some ⟨w.heap.size + 4, 0, none⟩)]] 160)
  rw [hwL, s4] at k5
  have k1' := (b1.block _ (by omega)).trans k1
  have k2' := (b2.block _ (by omega)).trans k2
  have k4' := (b4.block _ (by omega)).trans k4
  refine ⟨⟨?_, ?_, hG.below b0 (Nat.le_refl _), ?_, ?_, ?_, .slice (some ⟨w.heap.size + 2, 0, none⟩) 0 0, .slice none 0 0, ?_, ?_, own_below k3 b3, ?_, .inl ⟨rfl, rfl⟩⟩, b0⟩
  · rw [cell_of_row _ _ _ _ _ _ k1']; rfl
  · rw [cell_of_row _ _ _ _ _ _ k5]; rfl
  · intro a ha
    obtain ⟨b, off, _, hA, hlt, _⟩ := hG.at_ (k := 0) (by omega)
    rw [ha] at hA
    injection hA with hA
    rw [hA]
    exact hlt
  · simp [World.frozen?, k4']
  · simp [World.frozen?, k2']
  · rw [cell_of_row _ _ _ _ _ _ k4']; rfl
  · rw [cell_of_row _ _ _ _ _ _ k2']; rfl
  · intro g hg
    left
    simpa [Value.ownBlock, eq_comm] using hg

set_option maxRecDepth 100000 in
set_option maxHeartbeats 4000000 in
theorem circle_any (G : Option Addr) (gc : Nat) (R : List Nat) (w : World) (h4 : Rows4 R) (hg : RInts w G 4 (rowsI R)) :
    Calls Try.prog 183 #[.slice G 4 gc] w (RetIntsB w (cirT R) (!(cirT R).isEmpty)) := by
  have HG := Lib.hid hg
  have H4 := Lib.hid h4
  clear hg h4
  go_enter Try.func183, Try.ntmps183
  go_wp2_with fail
  simp only [Nat.add_assoc, Nat.reduceAdd]
  obtain ⟨wL, hwL⟩ : ∃ wL, ((((w.alloc (.cells #[.slice G 4 gc] 34)).alloc (.cells #[.slice none 0 0] 34)).alloc (.cells #[] 3)).alloc (.cells #[.slice (some ⟨w.heap.size + 2, 0, none⟩) 0 0] 34)).alloc
      (.cells #[.func (.func 186) #[] #[.pointer (some ⟨w.heap.size + 3, 0, none⟩), .pointer (some ⟨w.heap.size, 0, none⟩), .pointer (some ⟨w.heap.size + 1, 0, none⟩), .pointer (some ⟨w.heap.size + 4, 0, none⟩)]] 160) = wL := ⟨_, rfl⟩
  have HST := Lib.hid (cir_start w G gc R HG.out wL hwL)
  rw [hwL]
  clear hwL
  go_loopw [12] (fun i wr => ∃ k : Nat, k ≤ 4 ∧ i = .int .i64 k ∧ CirAt w.heap.size G gc R [] (cirU R k) wr ∧ Below w.heap.size w wr) (fun i _ => 4 - (intOf i).toNat)
  case atStart => exact ⟨0, by omega, rfl, HST.out.1, HST.out.2⟩
  case round =>
    clear HST
    obtain ⟨k, hk, rfl, hC, hB⟩ := hrel
    by_cases hlt : k < 4
    · have hrun : Runs 186 := runs_of Try.func186 (by kernel_rfl) rfl
      unfold Runs at hrun
      have hf := hC.fcell
      have HREC := Lib.hid (circle1_any w.heap.size G gc R H4.out H4.out 4 [] (cirU R k) (k : Int) wr hC ⟨List.nodup_nil, by simp⟩ (by simp) ⟨by omega, by omega⟩ rfl)
      rw [← cirU_succ hlt] at HREC
      have HB := Lib.hid hB
      have l1 : (k : Int) < 4 := by omega
      clear hC hB
      go_wp2_with fail
      refine HREC.out.mono ?_
      rintro e w6 ⟨rfl, hC6, hB6⟩
      have HC6 := Lib.hid hC6
      have HB6 := Lib.hid (HB.out.trans hB6)
      clear hC6 hB6
      go_wp2_with fail
      go_roundw
      case rel => exact ⟨k + 1, by omega, by go_num, HC6.out, HB6.out⟩
      case measure => simp [intOf]; omega
    · obtain rfl : k = 4 := by omega
      have hU : cirU R 4 = cirT R := rfl
      rw [hU] at hC
      obtain ⟨pv, bv, _, e2, _, _, e5⟩ := hC.box
      have L2 := Later.cell e2
      have HB := Lib.hid hB
      rcases e5 with ⟨hbe, rfl⟩ | ⟨hbne, b, c, cur, rfl, hbc, hbr, hb5, hbh, hbs, _⟩
      · have HO : Hid (∀ W', Below w.heap.size w W' → RetIntsB w (cirT R) (!(cirT R).isEmpty) (.returned (.tuple #[.slice none 0 0, .bool false])) W') := fun W' h => by
          rw [hbe]; exact RetIntsB.nil h
        have hz : ∀ w1 : World, (binOp .neq 34 (.slice none 0 0) (.slice none 0 0)).run Try.prog w1 = .ok (.bool false) w1 := fun w1 => run_neq_slice_nil w1 34 3 none 0 0 0 0 Try.underlying34
        clear hbe hC hU hB
        go_wp2_with fail
        refine region_later (by kernel_rfl) (by kernel_rfl) ?_
        repeat (go_big_quiet_step ((go_at_call 89; exact later_call _ ((ClipInts_any none 0 0 _ (by omega) (by omega)).mono fun e w' h => ⟨h.1, h.2 ▸ Below.refl _ _⟩))))
        refine wpQuiet_nil ?_
        rintro _ ⟨u, rfl⟩
        have hbu := HB.out.trans (u.2.mono (by have := HB.out.size; omega))
        go_wp2_with fail
        go_ret2
        exact HO.out _ hbu
      · obtain ⟨q, hq⟩ : ∃ q, (cirT R).length = q := ⟨_, rfl⟩
        have hfr : FreshInts w wr (some ⟨b, 0, none⟩) (cirT R).length (cirT R) := ⟨hbr, fun ad had => by injection had with had; subst had; exact ⟨b, cur, rfl, by omega, hbh, hbs⟩⟩
        have hem : (cirT R).isEmpty = false := by
          cases h : cirT R with
          | nil => exact absurd h hbne
          | cons a b => rfl
        have hqm := hbr.2.1
        rw [hq] at hqm
        have HO : Hid (∀ W', Below wr.heap.size wr W' → RetIntsB w (cirT R) (!(cirT R).isEmpty) (.returned (.tuple #[.slice (some ⟨b, 0, none⟩) q q, .bool true])) W') := fun W' h => by
          rw [hem, ← hq]
          exact ⟨_, _, rfl, Nat.le_refl _, hfr.lat h, HB.out.trans (h.mono HB.out.size)⟩
        have hz : ∀ w1 : World, (binOp .neq 34 (.slice (some ⟨b, 0, none⟩) q c) (.slice none 0 0)).run Try.prog w1 = .ok (.bool true) w1 := fun w1 => run_neq_slice_nil w1 34 3 (some ⟨b, 0, none⟩) q c 0 0 Try.underlying34
        rw [hq] at L2 hbc
        clear hC hU hB hfr hem hq hbr hbh hbs hbne
        go_wp2_with fail
        refine region_later (by kernel_rfl) (by kernel_rfl) ?_
        repeat (go_big_quiet_step ((go_at_call 89; exact later_call _ ((ClipInts_any (some ⟨b, 0, none⟩) q c _ hqm hbc).mono fun e w' h => ⟨h.1, h.2 ▸ Below.refl _ _⟩))))
        refine wpQuiet_nil ?_
        rintro _ ⟨u, rfl⟩
        have hbu := u.2
        go_wp2_with fail
        go_ret2
        exact HO.out _ hbu

/-- The circle of a schedule. -/
def cycL (s : List OpV) : List Int := cycT (grI (committed s))
theorem gr_diag' {s : List OpV} (h : validS s = true) : ∀ t : Int, 0 ≤ t → edgeB (grI (committed s)) t t = false := fun t ht => gr_diag (comm_tx4 h) ht
end Go.Proofs.Ytcakjhappchlmaa
namespace Go.Proofs.Ytcakjhappchlmaa
open Go.RowKit Go.BigFrame
set_option linter.unusedVariables false

/-- The call hands back a slice that reads as the list, and changes nothing. -/
def RetRd (w0 : World) (xs : List Int) (e : Ending) (w : World) : Prop := ∃ A c, e = .returned (.slice A xs.length c) ∧ xs.length ≤ c ∧ RInts w A xs.length xs ∧ Below w0.heap.size w0 w
theorem RetRd.nil {w0 w : World} (h : Below w0.heap.size w0 w) : RetRd w0 [] (.returned (.slice none 0 0)) w := ⟨none, 0, rfl, Nat.le_refl _, RInts.nil, h⟩
theorem RetRd.mk {w0 w : World} {xs : List Int} {A : Option Addr} {n c : Nat} (hn : xs.length = n) (hc : n ≤ c) (h : RInts w A n xs) (hb : Below w0.heap.size w0 w) : RetRd w0 xs (.returned (.slice A n c)) w := by
  subst hn; exact ⟨A, c, rfl, hc, h, hb⟩
def cyCand (R : List Nat) (m : Nat) (head : List Int) (t : Int) : List Int := if decide (head.headD 0 < t) && !(head.any fun y => y == t) && edgeB R (head.getLastD 0) t then cyF R m (head ++ [t]) else []
theorem cyF_succ (R : List Nat) (m : Nat) (head : List Int) : cyF R (m + 1) head = firstNE ([0, 1, 2, 3].map (cyCand R m head)) := rfl
theorem firstNE_hit {f : Int → List Int} {j : Nat} (hj : j < 4) (hno : ∀ u : Nat, u < j → f (u : Int) = []) (h : f (j : Int) ≠ []) : firstNE ([0, 1, 2, 3].map f) = f (j : Int) := by
  have hem : (f (j : Int)).isEmpty = false := by
    cases e : f (j : Int) with
    | nil => exact absurd e h
    | cons a b => rfl
  rcases (by omega : j = 0 ∨ j = 1 ∨ j = 2 ∨ j = 3) with rfl | rfl | rfl | rfl
  · have e : f 0 = f ((0 : Nat) : Int) := rfl
    simp only [List.map, firstNE, e, hem]; simp
  · have e0 : f 0 = [] := hno 0 (by omega)
    have e : f 1 = f ((1 : Nat) : Int) := rfl
    simp only [List.map, firstNE, e0, e, hem]; simp
  · have e0 : f 0 = [] := hno 0 (by omega)
    have e1 : f 1 = [] := hno 1 (by omega)
    have e : f 2 = f ((2 : Nat) : Int) := rfl
    simp only [List.map, firstNE, e0, e1, e, hem]; simp
  · have e0 : f 0 = [] := hno 0 (by omega)
    have e1 : f 1 = [] := hno 1 (by omega)
    have e2 : f 2 = [] := hno 2 (by omega)
    have e : f 3 = f ((3 : Nat) : Int) := rfl
    simp only [List.map, firstNE, e0, e1, e2, e, hem]; simp
theorem firstNE_none {f : Int → List Int} (hno : ∀ u : Nat, u < 4 → f (u : Int) = []) : firstNE ([0, 1, 2, 3].map f) = [] := by
  have e0 : f 0 = [] := hno 0 (by omega)
  have e1 : f 1 = [] := hno 1 (by omega)
  have e2 : f 2 = [] := hno 2 (by omega)
  have e3 : f 3 = [] := hno 3 (by omega)
  simp [List.map, firstNE, e0, e1, e2, e3]
theorem getLast_at {head : List Int} {h : Nat} {x : Int} (hl : head.length = h + 1) (hx : head[h]? = some x) : head.getLastD 0 = x := by
  rw [List.getLastD_eq_getLast?, List.getLast?_eq_getElem?, hl, Nat.add_sub_cancel, hx]; rfl

set_option maxRecDepth 100000 in
set_option maxHeartbeats 4000000 in
theorem cycleFrom_any (R : List Nat) (h4 : Rows4 R) (G : Option Addr) (gc : Nat) (m : Nat) : ∀ (B : Option Addr) (h ch : Nat) (head : List Int) (w : World), RInts w G 4 (rowsI R) → RInts w B (h + 1) head → (∀ x ∈ head, 0 ≤ x ∧ x ≤ 3) → h + 1 + m ≤ 4 → h + 1 ≤ ch →
    Calls Try.prog 173 #[.slice G 4 gc, .slice B (h + 1) ch, .int .i64 ((h + 1 + m : Nat) : Int)] w (RetRd w (cyF R m head)) := by
  induction m with
  | zero =>
    intro B h ch head w hg hh hr hm hch
    obtain ⟨bh, offh, x0, rfl, hbh, hx0, hc0⟩ := hh.at_ (k := 0) (by omega)
    obtain ⟨bh', offh', xl, hA', _, hxl, hcl⟩ := hh.at_ (k := h) (by omega)
    injection hA' with hA'; injection hA' with q1 q2 _; subst q1; subst q2
    have hlast := getLast_at hh.1 hxl
    have hhead : head.headD 0 = x0 := by
      cases head with
      | nil => simp at hx0
      | cons a b => simpa using hx0
    obtain ⟨X0, rfl⟩ := Int.eq_ofNat_of_zero_le (hr x0 (List.mem_of_getElem? hx0)).1
    obtain ⟨XL, rfl⟩ := Int.eq_ofNat_of_zero_le (hr xl (List.mem_of_getElem? hxl)).1
    have hX0 := (hr _ (List.mem_of_getElem? hx0)).2
    have hXL := (hr _ (List.mem_of_getElem? hxl)).2
    obtain ⟨bG, offG, rfl, hbG, hcg, hr16⟩ := rowsI_at3 h4 hg (t := XL) (by omega)
    obtain ⟨r, hr0⟩ : ∃ r, R.getD XL 0 = r := ⟨_, rfl⟩
    rw [hr0] at hcg hr16
    obtain ⟨bb, hbb⟩ : ∃ b, r.testBit X0 = b := ⟨_, rfl⟩
    have hcy : cyF R 0 head = if bb then head else [] := by
      unfold cyF edgeB
      rw [hlast, hhead, Int.toNat_natCast, Int.toNat_natCast, hr0, hbb]
    have HCY := Lib.hid hcy
    have hbit : ∀ W : World, Calls Try.prog 185 #[.int .i64 (r : Int), .int .i64 (X0 : Int)] W fun e w' => e = .returned (.int .i64 (if bb then 1 else 0)) ∧ W = w' := fun W => by
      have := sbit_any r X0 W (by omega) (by omega); rw [hbb] at this; exact this
    have HBIT := Lib.hid hbit
    have HH := Lib.hid hh
    simp only [Nat.add_zero] at hc0
    have G0 := Later.cell hc0
    have G1 := Later.cell hcl
    have G2 := Later.cell hcg
    have hX4 : (XL : Int) < 4 := by omega
    have hX40 : (0 : Int) ≤ (XL : Int) := by omega
    have hw1 : IntKind.i64.wrap ((h : Int) + 1 - 1) = (h : Int) := by rw [show (h : Int) + 1 - 1 = (h : Int) by omega]; exact IntWalk.i64_in _ (by omega)
    have hh0 : (0 : Int) ≤ (h : Int) := by omega
    have hhl : (h : Int) < ((h + 1 : Nat) : Int) := by omega
    clear hh hcy hbit hc0 hcl hcg hg hx0 hxl hlast hhead hr0 hbb hr
    go_enter Try.func173, Try.ntmps173
    go_wp2_with fail
    refine region_later (by kernel_rfl) (by kernel_rfl) ?_
    repeat (go_big_quiet_step ((go_at_call 185; exact later_same _ (HBIT.out _))))
    refine wpQuiet_nil ?_
    rintro _ ⟨u, rfl⟩
    cases bb
    · have hz : Hid (RetRd w (cyF R 0 head) (.returned (.slice none 0 0)) u.1) := by
        show RetRd _ _ _ _
        rw [HCY.out]
        exact RetRd.nil u.2
      go_wp2_with fail
      go_ret
      exact hz.out
    · have hz : Hid (RetRd w (cyF R 0 head) (.returned (.slice (some ⟨bh, offh, none⟩) (h + 1) ch)) u.1) := by
        show RetRd _ _ _ _
        rw [HCY.out]
        exact RetRd.mk HH.out.1 hch (HH.out.later u) u.2
      go_wp2_with fail
      go_ret
      exact hz.out
  | succ m ih =>
    intro B h ch head w hg hh hr hm hch
    obtain ⟨bh, offh, x0, rfl, hbh, hx0, hc0⟩ := hh.at_ (k := 0) (by omega)
    obtain ⟨bh', offh', xl, hA', _, hxl, hcl⟩ := hh.at_ (k := h) (by omega)
    injection hA' with hA'; injection hA' with q1 q2 _; subst q1; subst q2
    have hlast := getLast_at hh.1 hxl
    have hhead : head.headD 0 = x0 := by
      cases head with
      | nil => simp at hx0
      | cons a b => simpa using hx0
    obtain ⟨X0, rfl⟩ := Int.eq_ofNat_of_zero_le (hr x0 (List.mem_of_getElem? hx0)).1
    obtain ⟨XL, rfl⟩ := Int.eq_ofNat_of_zero_le (hr xl (List.mem_of_getElem? hxl)).1
    have hX0 := (hr _ (List.mem_of_getElem? hx0)).2
    have hXL := (hr _ (List.mem_of_getElem? hxl)).2
    obtain ⟨bG, offG, rfl, hbG, hcg, hr16⟩ := rowsI_at3 h4 hg (t := XL) (by omega)
    obtain ⟨r, hr0⟩ : ∃ r, R.getD XL 0 = r := ⟨_, rfl⟩
    rw [hr0] at hcg hr16
    have hlow : ∀ u : Nat, u < X0 + 1 → cyCand R m head (u : Int) = [] := fun u hu => by
      unfold cyCand
      rw [hhead]
      have : decide ((X0 : Int) < (u : Int)) = false := by simp; omega
      rw [this]; rfl
    have hcand : ∀ k : Nat, X0 < k → cyCand R m head (k : Int) = if !(head.any fun y => y == (k : Int)) && r.testBit k then cyF R m (head ++ [(k : Int)]) else [] := fun k hk => by
      unfold cyCand
      rw [hhead, hlast]
      have : decide ((X0 : Int) < (k : Int)) = true := by simp; omega
      rw [this, Bool.true_and]
      unfold edgeB
      rw [Int.toNat_natCast, Int.toNat_natCast, hr0]
    have HLOW := Lib.hid hlow
    have HCAND := Lib.hid hcand
    have HCY := Lib.hid (cyF_succ R m head)
    have HH := Lib.hid hh
    have HG := Lib.hid hg
    have HR := Lib.hid hr
    have HIH := Lib.hid ih
    have HBIT : Hid (∀ (k : Nat) (b : Bool) (W : World), k < 4 → r.testBit k = b → Calls Try.prog 185 #[.int .i64 (r : Int), .int .i64 (k : Int)] W fun e w' => e = .returned (.int .i64 (if b then 1 else 0)) ∧ W = w') := fun k b W hk hb => by
      have := sbit_any r k W (by omega) (by omega); rw [hb] at this; exact this
    have hc0' := hc0
    simp only [Nat.add_zero] at hc0'
    have G0 := Later.cell hc0'
    have G1 := Later.cell hcl
    have G2 := Later.cell hcg
    have hX4 : (XL : Int) < 4 := by omega
    have hX40 : (0 : Int) ≤ (XL : Int) := by omega
    have hmn : ((h : Int) + 1 == (h : Int) + 1 + ((m : Int) + 1)) = false := by rw [beq_eq_false_iff_ne]; omega
    simp only [Nat.add_zero] at hc0
    clear hh hcl hcg hg hx0 hxl hlast hhead hr0 hr ih hlow hcand
    go_enter Try.func173, Try.ntmps173
    go_wp2_with fail
    go_loopw [7] (fun i wr => ∃ j : Nat, X0 + 1 ≤ j ∧ j ≤ 4 ∧ i = .int .i64 j ∧ Below w.heap.size w wr ∧ ∀ u : Nat, u < j → cyCand R m head (u : Int) = []) (fun i _ => 4 - (intOf i).toNat)
    case atStart => exact ⟨X0 + 1, Nat.le_refl _, by omega, by go_num, Below.refl _ _, HLOW.out⟩
    case round =>
      obtain ⟨j, hj1, hj4, rfl, hb, hno⟩ := hrel
      have HNO := Lib.hid hno
      clear hno
      by_cases hlt : j < 4
      · obtain ⟨b1, hb1⟩ : ∃ b, (head.any fun y => y == (j : Int)) = b := ⟨_, rfl⟩
        obtain ⟨b2, hb2⟩ : ∃ b, r.testBit j = b := ⟨_, rfl⟩
        have hcd := HCAND.out j (by omega)
        rw [hb1, hb2] at hcd
        have HCD := Lib.hid hcd
        have HNX : Hid (cyCand R m head (j : Int) = [] → ∀ u : Nat, u < j + 1 → cyCand R m head (u : Int) = []) := fun h u hu => by
          by_cases e : u = j
          · subst e; exact h
          · exact HNO.out u (by omega)
        have hI := hasInt_any (some ⟨bh, offh, none⟩) (h + 1) ch head (j : Int) wr (HH.out.below hb (Nat.le_refl _))
        rw [hb1] at hI
        have HI := Lib.hid hI
        have HB2 := Lib.hid hb2
        have l1 : (j : Int) < 4 := by omega
        have l2 : (0 : Int) ≤ (j : Int) := by omega
        have hs := hb.size
        clear hcd hI hb1 hb2
        cases b1
        · go_wp2_with fail
          refine HI.out.mono ?_
          rintro e w2 ⟨rfl, hbx⟩
          have hbw2 := hb.trans (hbx.mono hs)
          have g1 := G1 ⟨w2, hbw2⟩
          have g2 := G2 ⟨w2, hbw2⟩
          simp only at g1 g2
          have HBI := Lib.hid (HBIT.out j b2 w2 hlt HB2.out)
          clear hbx
          cases b2
          · have hz := Lib.hid (HNX.out (by rw [HCD.out]; rfl))
            go_wp2_with fail
            refine HBI.out.mono ?_
            rintro e w3 ⟨rfl, hw3⟩
            subst hw3
            go_wp2_with fail
            go_roundw
            case rel => exact ⟨j + 1, by omega, by omega, by go_num, hbw2, hz.out⟩
            case measure => simp [intOf]; omega
          · have hz : Hid (cyCand R m head (j : Int) = cyF R m (head ++ [(j : Int)])) := by show _ = _; rw [HCD.out]; rfl
            have HE : Hid ((w2.alloc (.cells #[] 3)).ownsRow w2.heap.size 3 1 (.slice (some ⟨w2.heap.size, 0, none⟩) 0 0) 0 (intCells [])) := World.ownsRow_made w2 #[] 0 (Nat.le_refl _) (by decide) rfl
            have hba : Below w2.heap.size w2 (w2.alloc (.cells #[] 3)) := (Below.refl _ _).alloc (Nat.le_refl _) _
            have HHX : Hid (RInts (w2.alloc (.cells #[] 3)) (some ⟨bh, offh, none⟩) (h + 1) head) := (HH.out.below hbw2 (Nat.le_refl _)).below hba (Nat.le_refl _)
            have HBA := Lib.hid hba
            clear hba
            go_wp2_with fail
            refine HBI.out.mono ?_
            rintro e w3 ⟨rfl, hw3⟩
            subst hw3
            go_wp2_with (first
              | (at_builtin; refine app_ints (.tmp 56) (.tmp 57) HE.out (by simp) HHX.out (by omega) rfl rfl rfl rfl ?_; intro v3 w3 hown3 hg3 hat3; have hs3 := World.grownBy.size hg3)
              | (at_builtin; refine app_ints (.tmp 58) (.tmp 60) (hown3.alloc _) (by simp at hs3 ⊢; omega) (lit1 rfl (j : Int)) (by omega) rfl rfl rfl rfl ?_; intro v4 w4 hown4 hg4 hat4))
            have hb3 : Below w2.heap.size w2 w3 := Below.own HBA.out HE.out (Nat.le_refl _) hg3
            have hb4 : Below w2.heap.size w2 w4 := Below.own hb3 hown3 (Nat.le_refl _) (World.grownBy.trans (World.grownBy_alloc w3 _ _) hg4)
            rw [List.nil_append, Nat.zero_add] at hown4
            obtain ⟨B4, c4, hv4, hc4⟩ := own_form2 hown4
            subst hv4
            have hr4 := RInts.of_own hown4 (by omega)
            have hbw4 := hbw2.trans (hb4.mono hbw2.size)
            have hREC := HIH.out B4 (h + 1) c4 (head ++ [(j : Int)]) w4 (HG.out.below hbw4 (Nat.le_refl _)) hr4 (fun x hx => by
              rcases List.mem_append.1 hx with hx | hx
              · exact HR.out x hx
              · rw [List.mem_singleton] at hx; subst hx; omega) (by omega) hc4
            rw [show ((h + 1 + 1 + m : Nat) : Int) = (h : Int) + 1 + ((m : Int) + 1) by omega, ← hz.out] at hREC
            have HREC := Lib.hid hREC
            clear hown3 hg3 hat3 hown4 hg4 hat4 hREC hr4 hb3 hb4
            refine HREC.out.mono ?_
            rintro e w5 ⟨A5, c5, rfl, hc5, hr5, hb5⟩
            have hbw5 := hbw4.trans (hb5.mono hbw4.size)
            by_cases hem : cyCand R m head (j : Int) = []
            · have hz2 := Lib.hid (HNX.out hem)
              have hl0 : (cyCand R m head (j : Int)).length = 0 := by rw [hem]; rfl
              rw [hl0]
              clear hem hl0 hr5 hc5
              go_wp2_with fail
              go_roundw
              case rel => exact ⟨j + 1, by omega, by omega, by go_num, hbw5, hz2.out⟩
              case measure => simp [intOf]; omega
            · have hfin : Hid (RetRd w (cyF R (m + 1) head) (.returned (.slice A5 (cyCand R m head (j : Int)).length c5)) w5) := by
                show RetRd _ _ _ _
                rw [HCY.out, firstNE_hit hlt HNO.out hem]
                exact ⟨A5, c5, rfl, hc5, hr5, hbw5⟩
              have hlp : 0 < (cyCand R m head (j : Int)).length := List.length_pos_iff.2 hem
              obtain ⟨q, hq⟩ : ∃ q, (cyCand R m head (j : Int)).length = q := ⟨_, rfl⟩
              rw [hq] at hfin hlp ⊢
              clear hem hr5 hc5 hq
              go_wp2_with fail
              go_ret
              exact hfin.out
        · have hz := Lib.hid (HNX.out (by rw [HCD.out]; rfl))
          go_wp2_with fail
          refine HI.out.mono ?_
          rintro e w2 ⟨rfl, hbx⟩
          go_wp2_with fail
          go_roundw
          case rel => exact ⟨j + 1, by omega, by omega, by go_num, hb.trans (hbx.mono hs), hz.out⟩
          case measure => simp [intOf]; omega
      · obtain rfl : j = 4 := by omega
        have hfin : Hid (RetRd w (cyF R (m + 1) head) (.returned (.slice none 0 0)) wr) := by
          show RetRd _ _ _ _
          rw [HCY.out, firstNE_none HNO.out]
          exact RetRd.nil hb
        go_wp2_with fail
        go_ret
        exact hfin.out

def cyRow (R : List Nat) (m : Nat) : List Int := firstNE ([0, 1, 2, 3].map fun t => cyF R m [t])
theorem firstNE_append (a b : List (List Int)) : firstNE (a ++ b) = if firstNE a = [] then firstNE b else firstNE a := by
  induction a with
  | nil => simp [firstNE]
  | cons x r ih =>
    simp only [List.cons_append, firstNE]
    split
    · exact ih
    · rename_i h
      rw [if_neg (by intro e; rw [e] at h; simp at h)]
theorem cycT_rows (R : List Nat) : cycT R = if cyRow R 1 = [] then (if cyRow R 2 = [] then cyRow R 3 else cyRow R 2) else cyRow R 1 := by
  have : cycT R = firstNE (([0, 1, 2, 3].map fun t => cyF R 1 [t]) ++ (([0, 1, 2, 3].map fun t => cyF R 2 [t]) ++ ([0, 1, 2, 3].map fun t => cyF R 3 [t]))) := rfl
  rw [this, firstNE_append, firstNE_append]; rfl
theorem cycT_hit {R : List Nat} {m : Nat} (h1 : 1 ≤ m) (h3 : m ≤ 3) (hp : ∀ k, 1 ≤ k → k < m → cyRow R k = []) (h : cyRow R m ≠ []) : cycT R = cyRow R m := by
  rw [cycT_rows]
  rcases (by omega : m = 1 ∨ m = 2 ∨ m = 3) with rfl | rfl | rfl
  · rw [if_neg h]
  · rw [if_pos (hp 1 (by omega) (by omega)), if_neg h]
  · rw [if_pos (hp 1 (by omega) (by omega)), if_pos (hp 2 (by omega) (by omega))]
theorem cycT_no {R : List Nat} (hp : ∀ k, 1 ≤ k → k < 4 → cyRow R k = []) : cycT R = [] := by
  rw [cycT_rows, if_pos (hp 1 (by omega) (by omega)), if_pos (hp 2 (by omega) (by omega)), hp 3 (by omega) (by omega)]

set_option maxRecDepth 100000 in
set_option maxHeartbeats 2000000 in
theorem cycle_any (R : List Nat) (h4 : Rows4 R) (G : Option Addr) (gc : Nat) (w : World) (hg : RInts w G 4 (rowsI R)) :
    Calls Try.prog 155 #[.slice G 4 gc] w (RetRd w (cycT R)) := by
  have HG := Lib.hid hg
  have H4 := Lib.hid h4
  clear hg h4
  go_enter Try.func155, Try.ntmps155
  go_wp2_with fail
  go_loopw [3] (fun i wr => ∃ q : Nat, 1 ≤ q ∧ q ≤ 4 ∧ i = .int .i64 ((q + 1 : Nat) : Int) ∧ Below w.heap.size w wr ∧ ∀ k, 1 ≤ k → k < q → cyRow R k = []) (fun i _ => 5 - (intOf i).toNat)
  case atStart => exact ⟨1, by omega, by omega, by go_num, Below.refl _ _, by omega⟩
  case round =>
    obtain ⟨wo, rfl⟩ : ∃ z : World, z = wr := ⟨_, rfl⟩
    obtain ⟨q, hq1, hq4, rfl, hb, hno⟩ := hrel
    have HNO := Lib.hid hno
    clear hno
    obtain ⟨Q, hQ⟩ : ∃ Q : Nat, q + 1 = Q := ⟨_, rfl⟩
    by_cases hlt : q < 4
    · rw [hQ]
      have hQi : (Q : Int) ≤ 4 := by omega
      go_wp2_with fail
      go_loopw [4] (fun i wr => ∃ j : Nat, j ≤ 4 ∧ i = .int .i64 j ∧ Below w.heap.size w wr ∧ ∀ u : Nat, u < j → cyF R q [(u : Int)] = []) (fun i _ => 4 - (intOf i).toNat)
      case atStart => exact ⟨0, by omega, rfl, hb, by omega⟩
      case round =>
        obtain ⟨j, hj4, rfl, hbi, hno2⟩ := hrel
        have HN2 := Lib.hid hno2
        clear hno2
        by_cases hltj : j < 4
        · have l1 : (j : Int) < 4 := by omega
          have hs := hbi.size
          have hba : Below w.heap.size w (wr.alloc (.cells #[.int .i64 (j : Int)] 3)) := hbi.alloc hs _
          have hC := cycleFrom_any R H4.out G gc q (some ⟨wr.heap.size, 0, none⟩) 0 1 [(j : Int)] (wr.alloc (.cells #[.int .i64 (j : Int)] 3)) (HG.out.below hba (Nat.le_refl _)) (lit1 rfl (j : Int)) (by intro x hx; rw [List.mem_singleton] at hx; subst hx; omega) (by omega) (Nat.le_refl _)
          rw [show 0 + 1 + q = Q by omega] at hC
          have HC := Lib.hid hC
          have HBA := Lib.hid hba
          clear hC hba
          go_wp2_with fail
          refine HC.out.mono ?_
          rintro e w5 ⟨A5, c5, rfl, hc5, hr5, hb5⟩
          have hbw5 := HBA.out.trans (hb5.mono HBA.out.size)
          by_cases hem : cyF R q [(j : Int)] = []
          · have hz : Hid (∀ u : Nat, u < j + 1 → cyF R q [(u : Int)] = []) := fun u hu => by
              by_cases e : u = j
              · subst e; exact hem
              · exact HN2.out u (by omega)
            have hl0 : (cyF R q [(j : Int)]).length = 0 := by rw [hem]; rfl
            rw [hl0]
            clear hem hl0 hr5 hc5
            go_wp2_with fail
            go_roundw
            case rel => exact ⟨j + 1, by omega, by go_num, hbw5, hz.out⟩
            case measure => simp [intOf]; omega
          · have hrow : cyRow R q = cyF R q [(j : Int)] := firstNE_hit (f := fun t => cyF R q [t]) hltj HN2.out hem
            have hfin : Hid (RetRd w (cycT R) (.returned (.slice A5 (cyF R q [(j : Int)]).length c5)) w5) := by
              show RetRd _ _ _ _
              rw [cycT_hit hq1 (by omega) HNO.out (by rw [hrow]; exact hem), hrow]
              exact ⟨A5, c5, rfl, hc5, hr5, hbw5⟩
            have hlp : 0 < (cyF R q [(j : Int)]).length := List.length_pos_iff.2 hem
            obtain ⟨p, hp⟩ : ∃ p, (cyF R q [(j : Int)]).length = p := ⟨_, rfl⟩
            rw [hp] at hfin hlp ⊢
            clear hem hr5 hc5 hp hrow
            go_wp2_with fail
            go_ret
            exact hfin.out
        · obtain rfl : j = 4 := by omega
          have hz : Hid (∀ k, 1 ≤ k → k < q + 1 → cyRow R k = []) := fun k h1 h2 => by
            by_cases e : k = q
            · subst e; exact firstNE_none (f := fun t => cyF R k [t]) HN2.out
            · exact HNO.out k h1 (by omega)
          have HQ := Lib.hid hQ
          clear hQ
          go_wp2_with fail
          go_roundw
          case rel => exact ⟨q + 1, by omega, by omega, by have := HQ.out; go_num, hbi, hz.out⟩
          case measure => have := HQ.out; simp [intOf]; omega
    · have hfin : Hid (RetRd w (cycT R) (.returned (.slice none 0 0)) wo) := by
        show RetRd _ _ _ _
        rw [cycT_no (fun k h1 h2 => HNO.out k h1 (by omega))]
        exact RetRd.nil hb
      rw [hQ]
      have hQi : ¬ (Q : Int) ≤ 4 := by omega
      go_wp2_with fail
      go_ret
      exact hfin.out

/-- A list and a bool, the list somewhere. -/
def RetRdB (w0 : World) (xs : List Int) (b : Bool) (e : Ending) (w : World) : Prop := ∃ A c, e = .returned (.tuple #[.slice A xs.length c, .bool b]) ∧ xs.length ≤ c ∧ RInts w A xs.length xs ∧ Below w0.heap.size w0 w
end Go.Proofs.Ytcakjhappchlmaa
