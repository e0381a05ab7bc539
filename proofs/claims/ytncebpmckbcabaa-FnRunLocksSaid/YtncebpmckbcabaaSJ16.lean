/-
  Texts that the proof rests on, joined: part 16.
-/
import Derived.Lib.SliceRun
import Derived.Maps.AppendAt
import Derived.RangeFuncNested
import Derived.RangeFuncBound
import Derived.RangeFuncCalls
import Derived.RangeFuncLeaves
import Derived.Shelf.Abstract
import Derived.Shelf.RegionOpen
import Derived.WalkKit
import Derived.OwnWalkIn
import Derived.TacticsInMore
import Derived.LoopNIn
import Derived.LoopIn
import Derived.Stop.RegionWithIn
import Derived.Laws.EntriesVeiled
import Derived.Deep.RegionLaw
import Derived.Defers
import Derived.Test.YtncebpmckbcabaaSJ2
import Derived.Test.YtncebpmckbcabaaSJ3
import Derived.Test.YtncebpmckbcabaaSJ4
import Derived.Test.YtncebpmckbcabaaSJ5
import Derived.Test.YtncebpmckbcabaaSJ9
import Derived.Test.YtncebpmckbcabaaSJ14
import Derived.Test.YtncebpmckbcabaaSJ15
namespace Go.Proofs.Ytncebpmckbcabaa
open Go.RowKit Go.BigFrame
set_option linter.unusedVariables false

section
variable {w : World} {ops : Array Oper} {o : Oper} {a : Act} {K : Act → World → Prop} {Q : Exit → Act → World → Prop} {E : Prop}
/-- append, at a step of a region that draws its order. -/
theorem step_app {P : Program} (hgd : o.guard = none) (s x : Operand) (t : TypeId)
    (ho : o.op = .call { callee := .builtin .append, args := #[s, x], argTypes := #[t, t] })
    (base : Nat) (e : TypeId) (i : TypeInfo) (z : Value) (size bytes : Nat) (ht : P.underlying t = some (.slice e)) (hi : P.info? e = some i) (hz : i.zero = some z)
    (hsize : i.size = size) (hby : i.bytes = bytes) (hzs : z.cells.size = size) (hsz : 0 < size)
    (v : Value) (n : Nat) (xs : List Value) (hs : a.eval s = v) (hown : w.ownsRow base e size v n xs)
    (A : Option Addr) (m c : Nat) (news : List Value) (hx : a.eval x = .slice A m c) (hr : Src w size A m news)
    (h63 : n + m ≤ maxLen) (hbytes : (n + m) * bytes ≤ 140737488355328) (hbase : base ≤ w.heap.size)
    (h : ∀ v' w', w'.ownsRow base e size v' (n + m) (xs ++ news) → w.grownBy w' v.ownBlock → (v'.ownBlock = v.ownBlock ∨ v'.ownBlock = some w.heap.size) → K (a.put o.dst v') w') :
    if Region.wanted o (yielded ops a.tmps) = true then Oper.wp P o a w K Q else E := by
  have hw : Region.wanted o (yielded ops a.tmps) = true := by simp [Region.wanted, hgd]
  rw [if_pos hw]
  obtain ⟨v', w', hrun, h2, h3, h4⟩ := run_app (P := P) base t o.type e i z size bytes ht hi hz hsize hby hzs hsz v n xs hown A m c news hr h63 hbytes hbase
  unfold Oper.wp execOp
  simp only [ho, resolve, invoke, builtin, Sem.run_bind, Sem.run_pure, Result.andThen_ok, List.map_toArray, List.map_cons, List.map_nil, hs, hx, hrun]
  exact h v' w' h2 h3 h4
theorem step_ints (s x : Operand) {base : Nat} {v : Value} {n : Nat} {xs : List Int} (hown : w.ownsRow base 3 1 v n (intCells xs)) (hbase : base ≤ w.heap.size)
    {A : Option Addr} {m c : Nat} {ys : List Int} (hr : RInts w A m ys) (hn : n ≤ 1099511627776)
    (hgd : o.guard = none) (ho : o.op = .call { callee := .builtin .append, args := #[s, x], argTypes := #[26, 26] }) (hs : a.eval s = v) (hx : a.eval x = .slice A m c)
    (h : ∀ v' w', w'.ownsRow base 3 1 v' (n + m) (intCells (xs ++ ys)) → w.grownBy w' v.ownBlock → (v'.ownBlock = v.ownBlock ∨ v'.ownBlock = some w.heap.size) → K (a.put o.dst v') w') :
    if Region.wanted o (yielded ops a.tmps) = true then Oper.wp Try.prog o a w K Q else E := by
  obtain ⟨i0, hi, hz0, hz1, hz2⟩ := info_parts intInfo
  have hm := hr.2.1
  refine step_app hgd s x _ ho base _ i0 _ 1 8 Try.underlying26 hi hz0 hz1 hz2 rfl (by decide) v n _ hs hown A m c _ hx hr.src (by simp only [maxLen]; omega) (by omega) hbase ?_
  intro v' w' h1 h2 h3
  have e : intCells xs ++ intCells ys = intCells (xs ++ ys) := by simp [intCells]
  rw [e] at h1
  exact h v' w' h1 h2 h3
end

theorem rowsI_at3 {R : List Nat} (h : Rows4 R) {w : World} {A : Option Addr} (hr : RInts w A 4 (rowsI R)) {t : Nat} (ht : t < 4) : ∃ b off, A = some ⟨b, off, none⟩ ∧ b < w.heap.size ∧ w.cell? ⟨b, off + t, none⟩ = some (.int .i64 ((R.getD t 0 : Nat) : Int)) ∧ R.getD t 0 < 16 := by
  obtain ⟨b, off, x, hA, hlt, hx, hc⟩ := hr.at_ ht
  obtain ⟨h1, h2⟩ := rowsI_at h (T := t) (by omega)
  refine ⟨b, off, hA, hlt, ?_, h2⟩
  rw [hc]
  simp only [intCells, List.getElem?_map, hx, Option.map_some] at h1
  exact h1
theorem FreshInts.lat {w0 w w' : World} {A : Option Addr} {n : Nat} {xs : List Int} (h : FreshInts w0 w A n xs) (hb : Below w.heap.size w w') : FreshInts w0 w' A n xs :=
  ⟨h.1.below hb (Nat.le_refl _), fun ad had => by obtain ⟨b, cur, e, h1, h2, h3⟩ := h.2 ad had; exact ⟨b, cur, e, h1, (hb.block b (lt_of_block h2)).trans h2, h3⟩⟩
theorem FreshInts.since {w0 w1 w : World} {A : Option Addr} {n : Nat} {xs : List Int} (h : FreshInts w1 w A n xs) (hs : w0.heap.size ≤ w1.heap.size) : FreshInts w0 w A n xs :=
  ⟨h.1, fun ad had => by obtain ⟨b, cur, e, h1, h2, h3⟩ := h.2 ad had; exact ⟨b, cur, e, by omega, h2, h3⟩⟩
end Go.Proofs.Ytncebpmckbcabaa
namespace Go.Proofs.Ytncebpmckbcabaa
open Go.RowKit Go.BigFrame
set_option linter.unusedVariables false

set_option maxRecDepth 100000 in
set_option maxHeartbeats 1000000 in
theorem CloneI_any (b off n c : Nat) (xs : List Int) (w : World) (hx : RInts w (some ⟨b, off, none⟩) n xs) :
    Calls Try.prog 176 #[.slice (some ⟨b, off, none⟩) n c] w (RetInts w xs) := by
  have hl := hx.1
  have hn := hx.2.1
  have HX1 : Hid (RInts (w.alloc (.cells #[] 3)) (some ⟨b, off, none⟩) n xs) := hx.below ((Below.refl _ w).alloc (Nat.le_refl _) _) (Nat.le_refl _)
  have HST : Hid ((w.alloc (.cells #[] 3)).ownsRow w.heap.size 3 1 (.slice (some ⟨w.heap.size, 0, none⟩) 0 0) 0 (intCells [])) :=
    World.ownsRow_made w #[] 0 (Nat.le_refl _) (by decide) rfl
  have hz : ∀ w1 : World, (binOp .eql 26 (.slice (some ⟨b, off, none⟩) n c) (.slice none 0 0)).run Try.prog w1 = .ok (.bool false) w1 := fun w1 => Go.Lib.run_eql_slice_nil w1 26 3 (some ⟨b, off, none⟩) n c 0 0 Try.underlying26
  clear hx
  go_enter Try.func176, Try.ntmps176
  go_wp2_with (at_builtin; refine app_ints (.tmp 5) (.tmp 6) HST.out (by simp) HX1.out (by omega) rfl rfl rfl rfl ?_; intro v1 w1 hown1 hg1 hat1)
  have hb1 : Below w.heap.size w w1 := Below.own ((Below.refl _ w).alloc (Nat.le_refl _) _) HST.out (Nat.le_refl _) hg1
  rw [List.nil_append, Nat.zero_add] at hown1
  obtain ⟨A1, c1, rfl, hc1⟩ := own_form2 hown1
  have HO := Lib.hid (RetInts.mk hl hc1 (FreshInts.of_own (w0 := w) hown1 (Nat.le_refl _) (by omega)) hb1)
  clear hown1 hg1 hat1 HST HX1 hb1
  go_wp2_with fail
  go_ret
  exact HO.out

end Go.Proofs.Ytncebpmckbcabaa
namespace Go.Proofs.Ytncebpmckbcabaa
open Go.RowKit Go.BigFrame Go.Shelf
set_option linter.unusedVariables false

attribute [local go_sem] Oper.semAt_some

theorem RInts.kept {V W : World} {A : Option Addr} {n : Nat} {xs : List Int} (h : RInts V A n xs) (hs : V.heap.size ≤ W.heap.size) (hA : ∀ ad, A = some ad → W.heap[ad.block]? = V.heap[ad.block]?) : RInts W A n xs := by
  refine ⟨h.1, h.2.1, fun hn => ?_⟩
  obtain ⟨b, off, hA', hl, hc⟩ := h.2.2 hn
  have hk := hA _ hA'
  exact ⟨b, off, hA', by omega, fun i x hx => (World.cell?_of_block (w := V) (a := ⟨b, off + i, none⟩) hk).trans (hc i x hx)⟩

theorem own_less {w : World} {base g k c : Nat} {xs : List Int} {t : Int} (h : w.ownsRow base 3 1 (.slice (some ⟨g, 0, none⟩) (k + 1) c) (k + 1) (intCells (xs ++ [t]))) (hk : xs.length = k) : w.ownsRow base 3 1 (.slice (some ⟨g, 0, none⟩) k c) k (intCells xs) := by
  refine ⟨by simp [intCells, hk], ?_⟩
  rcases h.2 with ⟨e, _⟩ | ⟨g', cap, cur, e, h2, h3, h4, h5, h6, h7⟩
  · cases e
  · injection e with e1 e2 e3
    injection e1 with e1
    injection e1 with e1
    subst e1; subst e3
    refine .inr ⟨_, _, cur, rfl, h2, h3, by omega, h5, h6, ?_⟩
    have : (cur.toList.take ((k + 1) * 1)).take (k * 1) = cur.toList.take (k * 1) := by rw [List.take_take]; congr 1; omega
    rw [← this, h7]
    simp [intCells, hk]
end Go.Proofs.Ytncebpmckbcabaa
namespace Go.Proofs.Ytncebpmckbcabaa
open Go.RowKit Go.BigFrame Go.Shelf
set_option linter.unusedVariables false

theorem cell_grown {V W : World} {row : Option Nat} (hg : V.grownBy W row) {p : Addr} (hp : p.block < V.heap.size) (hne : some p.block ≠ row) : W.cell? p = V.cell? p := World.cell?_of_block (w := V) (hg.block _ hp hne)
theorem frozen_grown {V W : World} {row : Option Nat} (hg : V.grownBy W row) {p : Addr} (hp : p.block < V.heap.size) (hne : some p.block ≠ row) : W.frozen? p = V.frozen? p := by
  unfold World.frozen?
  rw [hg.block _ hp hne]
end Go.Proofs.Ytncebpmckbcabaa
namespace Go.Proofs.Ytncebpmckbcabaa
open Go.RowKit Go.BigFrame Go.Shelf
set_option linter.unusedVariables false

theorem own_turned {V W : World} {base : Nat} {e : TypeId} {size n : Nat} {v : Value} {xs : List Value} (h : V.ownsRow base e size v n xs) (hk : ∀ g, v.ownBlock = some g → W.heap[g]? = V.heap[g]?) : W.ownsRow base e size v n xs := by
  refine ⟨h.1, ?_⟩
  rcases h.2 with h1 | ⟨g, cap, cur, e1, h2, h3, h4⟩
  · exact .inl h1
  · exact .inr ⟨g, cap, cur, e1, h2, (hk g (by rw [e1]; simp [Value.ownBlock])).trans h3, h4⟩
theorem FreshInts.turned {w0 V W : World} {A : Option Addr} {n : Nat} {xs : List Int} (h : FreshInts w0 V A n xs) (hs : V.heap.size ≤ W.heap.size) (hk : ∀ g, w0.heap.size ≤ g → g < V.heap.size → (∃ cur, V.heap[g]? = some (.cells cur 3 (0, 0))) → W.heap[g]? = V.heap[g]?) : FreshInts w0 W A n xs := by
  have hblk : ∀ ad, A = some ad → ∃ b cur, ad = ⟨b, 0, none⟩ ∧ w0.heap.size ≤ b ∧ V.heap[b]? = some (.cells cur 3 (0, 0)) ∧ n ≤ cur.size ∧ W.heap[b]? = V.heap[b]? := fun ad had => by
    obtain ⟨b, cur, e, h1, h2, h3⟩ := h.2 ad had
    exact ⟨b, cur, e, h1, h2, h3, hk b h1 (lt_of_block h2) ⟨cur, h2⟩⟩
  refine ⟨⟨h.1.1, h.1.2.1, fun hn => ?_⟩, fun ad had => ?_⟩
  · obtain ⟨b, off, hA, hlt, hc⟩ := h.1.2.2 hn
    obtain ⟨b', cur, e, _, _, _, hkb⟩ := hblk _ hA
    injection e with e1 e2 _
    subst e1
    exact ⟨b, off, hA, by omega, fun i x hx => (World.cell?_of_block (w := V) (a := ⟨b, off + i, none⟩) hkb).trans (hc i x hx)⟩
  · obtain ⟨b, cur, e, h1, h2, h3, hkb⟩ := hblk ad had
    exact ⟨b, cur, e, h1, hkb.trans h2, h3⟩
end Go.Proofs.Ytncebpmckbcabaa
namespace Go.Proofs.Ytncebpmckbcabaa
open Go.RowKit Go.BigFrame
set_option linter.unusedVariables false

/-- The best circle so far, as its variable tells; its block is not the path's. -/
def BestIs (H : Nat) (best : List Int) (bv pv : Value) (W : World) : Prop :=
  (best = [] ∧ bv = .slice none 0 0) ∨ (best ≠ [] ∧ ∃ b c cur, bv = .slice (some ⟨b, 0, none⟩) best.length c ∧ best.length ≤ c ∧ RInts W (some ⟨b, 0, none⟩) best.length best ∧ H + 5 ≤ b ∧ W.heap[b]? = some (.cells cur 3 (0, 0)) ∧ best.length ≤ cur.size ∧ pv.ownBlock ≠ some b)
structure CirAt (H : Nat) (G : Option Addr) (gc : Nat) (R : List Nat) (path best : List Int) (W : World) : Prop where
  gcell : W.cell? ⟨H, 0, none⟩ = some (.slice G 4 gc)
  fcell : W.cell? ⟨H + 4, 0, none⟩ = some (.func (.func 178) #[] #[.pointer (some ⟨H + 3, 0, none⟩), .pointer (some ⟨H, 0, none⟩), .pointer (some ⟨H + 1, 0, none⟩), .pointer (some ⟨H + 4, 0, none⟩)])
  rows : RInts W G 4 (rowsI R)
  gblk : ∀ a, G = some a → a.block < H
  pf : W.frozen? ⟨H + 3, 0, none⟩ = false
  bf : W.frozen? ⟨H + 1, 0, none⟩ = false
  box : ∃ pv bv, W.cell? ⟨H + 3, 0, none⟩ = some pv ∧ W.cell? ⟨H + 1, 0, none⟩ = some bv ∧ W.ownsRow H 3 1 pv path.length (intCells path) ∧ (∀ g, pv.ownBlock = some g → g = H + 2 ∨ H + 5 ≤ g) ∧ BestIs H best bv pv W
theorem CirAt.sz {H : Nat} {G : Option Addr} {gc : Nat} {R : List Nat} {path best : List Int} {W : World} (h : CirAt H G gc R path best W) : H + 5 ≤ W.heap.size := by
  have : H + 4 < W.heap.size := block_lt_of_cell h.fcell
  omega
/-- Blocks that did not turn. -/
theorem CirAt.kept {H : Nat} {G : Option Addr} {gc : Nat} {R : List Nat} {path path' best : List Int} {W W' : World} {pv pv' : Value} (h : CirAt H G gc R path best W) (hpc : W.cell? ⟨H + 3, 0, none⟩ = some pv) (hs : W.heap.size ≤ W'.heap.size)
    (hk : ∀ k, k < W.heap.size → k ≠ H + 3 → pv.ownBlock ≠ some k → W'.heap[k]? = W.heap[k]?) (hc : W'.cell? ⟨H + 3, 0, none⟩ = some pv') (hf : W'.frozen? ⟨H + 3, 0, none⟩ = false)
    (hown : W'.ownsRow H 3 1 pv' path'.length (intCells path')) (hg : ∀ g, pv'.ownBlock = some g → (pv.ownBlock = some g ∨ W.heap.size ≤ g)) : CirAt H G gc R path' best W' := by
  have hsz := h.sz
  obtain ⟨h1, h2, h3, h4, h5, h6, pv0, bv, e1, e2, e3, e4, e5⟩ := h
  rw [hpc] at e1
  injection e1 with e1
  subst e1
  have nb : ∀ k, k < H + 5 → k ≠ H + 2 → pv.ownBlock ≠ some k := fun k hk5 hk2 e => by have := e4 k e; omega
  have cb : ∀ k o, k < H + 5 → k ≠ H + 2 → k ≠ H + 3 → W'.cell? ⟨k, o, none⟩ = W.cell? ⟨k, o, none⟩ := fun k o a b c => World.cell?_of_block (w := W) (a := ⟨k, o, none⟩) (hk k (by omega) c (nb k a b))
  refine ⟨(cb H 0 (by omega) (by omega) (by omega)).trans h1, (cb (H + 4) 0 (by omega) (by omega) (by omega)).trans h2, ?_, h4, hf, ?_, pv', bv, hc, (cb (H + 1) 0 (by omega) (by omega) (by omega)).trans e2, hown, fun g hge => ?_, ?_⟩
  · refine h3.kept hs fun ad had => ?_
    have := h4 ad had
    refine hk _ (by omega) (by omega) fun e => ?_
    rcases World.ownsRow.lt e3 _ e with ⟨h7, _⟩
    omega
  · unfold World.frozen? at h6 ⊢
    rw [hk (H + 1) (by omega) (by omega) (nb _ (by omega) (by omega))]
    exact h6
  · rcases hg g hge with h7 | h7
    · exact e4 g h7
    · exact .inr (by omega)
  · rcases e5 with ⟨a, b⟩ | ⟨a, b, c, cur, h7, h8, h9, h10, h11, h12, h13⟩
    · exact .inl ⟨a, b⟩
    · have hb : b < W.heap.size := lt_of_block h11
      have hkb := hk b hb (by omega) h13
      refine .inr ⟨a, b, c, cur, h7, h8, h9.kept hs (fun ad had => by injection had with had; subst had; exact hkb), h10, hkb.trans h11, h12, fun e => ?_⟩
      rcases hg b e with h14 | h14
      · exact h13 h14
      · omega
theorem CirAt.below {H : Nat} {G : Option Addr} {gc : Nat} {R : List Nat} {path best : List Int} {W W' : World} (h : CirAt H G gc R path best W) (hb : Below W.heap.size W W') : CirAt H G gc R path best W' := by
  have hsz := h.sz
  obtain ⟨pv, bv, e1, e2, e3, e4, e5⟩ := h.box
  refine h.kept e1 hb.size (fun k hk _ _ => hb.block k hk) ((hb.cell (p := ⟨H + 3, 0, none⟩) (by simp; omega)).trans e1) ?_ (own_below e3 hb) (fun g hg => .inl hg)
  have := h.pf
  rw [← this]
  exact hb.frozen (p := ⟨H + 3, 0, none⟩) (by simp; omega)
theorem CirAt.push {H : Nat} {G : Option Addr} {gc : Nat} {R : List Nat} {path best : List Int} {W w' : World} {pv v' : Value} {t : Int} {S : Nat} (h : CirAt H G gc R path best W) (hp : W.cell? ⟨H + 3, 0, none⟩ = some pv)
    (hown : w'.ownsRow H 3 1 v' (path.length + 1) (intCells (path ++ [t]))) (hg : W.grownBy w' pv.ownBlock) (hS : W.heap.size ≤ S) (hat : v'.ownBlock = pv.ownBlock ∨ v'.ownBlock = some S) :
    w'.cell? ⟨H + 3, 0, none⟩ = some pv ∧ w'.frozen? ⟨H + 3, 0, none⟩ = false ∧ CirAt H G gc R (path ++ [t]) best (w'.setCell ⟨H + 3, 0, none⟩ v') ∧ Below H W (w'.setCell ⟨H + 3, 0, none⟩ v') := by
  have hsz := h.sz
  obtain ⟨pv0, bv, e1, e2, e3, e4, e5⟩ := h.box
  rw [hp] at e1
  injection e1 with e1
  subst e1
  have hgs := World.grownBy.size hg
  have hne : some (H + 3) ≠ pv.ownBlock := fun e => by have := e4 _ e.symm; omega
  have c1 : w'.cell? ⟨H + 3, 0, none⟩ = some pv := (cell_grown hg (p := ⟨H + 3, 0, none⟩) (by simp; omega) hne).trans hp
  have f1 : w'.frozen? ⟨H + 3, 0, none⟩ = false := (frozen_grown hg (p := ⟨H + 3, 0, none⟩) (by simp; omega) hne).trans h.pf
  have hv3 : ∀ g, v'.ownBlock = some g → g ≠ H + 3 := fun g hge e => by
    rcases hat with h1 | h1
    · rw [h1] at hge; have := e4 g hge; omega
    · rw [h1] at hge; injection hge with hge; omega
  refine ⟨c1, f1, ?_, ?_⟩
  · refine h.kept hp (by simp [World.setCell]; omega) (fun k hk h3 hne => ?_) (World.cell?_setCell_same' _ _ _ (by rw [c1]; rfl)) (by rw [World.frozen?_setCell]; exact f1) ?_ (fun g hge => ?_)
    · exact (Below.heap_setCell w' _ _ k (by simpa using h3)).trans (hg.block k hk (fun e => hne e.symm))
    · rw [List.length_append, List.length_singleton]
      exact own_turned hown fun g hge => Below.heap_setCell w' _ _ g (by simpa using hv3 g hge)
    · rcases hat with h1 | h1
      · rw [h1] at hge; exact .inl hge
      · rw [h1] at hge; injection hge with hge; exact .inr (by omega)
  · have hb : Below H W w' := ⟨hg.os, hg.tape, hg.output, hgs, fun k hk => hg.block k (by omega) (fun e => by have := e4 _ e.symm; omega)⟩
    exact hb.setCell (by simp) _
theorem CirAt.pop {H : Nat} {G : Option Addr} {gc : Nat} {R : List Nat} {path best : List Int} {W : World} {t : Int} (h : CirAt H G gc R (path ++ [t]) best W) :
    ∃ g c, W.cell? ⟨H + 3, 0, none⟩ = some (.slice (some ⟨g, 0, none⟩) (path.length + 1) c) ∧ path.length + 1 ≤ c ∧ c ≤ 9223372036854775807 ∧ W.frozen? ⟨H + 3, 0, none⟩ = false ∧
      CirAt H G gc R path best (W.setCell ⟨H + 3, 0, none⟩ (.slice (some ⟨g, 0, none⟩) path.length c)) ∧ Below H W (W.setCell ⟨H + 3, 0, none⟩ (.slice (some ⟨g, 0, none⟩) path.length c)) := by
  have hsz := h.sz
  obtain ⟨pv, bv, e1, e2, e3, e4, e5⟩ := h.box
  have e3' := e3
  rw [List.length_append, List.length_singleton] at e3'
  rcases e3'.2 with ⟨_, h0⟩ | ⟨g, cap, cur, rfl, h2, h3, h4, h5, _⟩
  · omega
  · have hg3 : g ≠ H + 3 := by have := e4 g (by simp [Value.ownBlock]); omega
    refine ⟨g, cap, e1, h4, by unfold maxLen at h5; omega, h.pf, ?_, (Below.refl _ _).setCell (by simp) _⟩
    refine h.kept e1 (by simp [World.setCell]) (fun k hk h3 _ => Below.heap_setCell W _ _ k (by simpa using h3)) (World.cell?_setCell_same' _ _ _ (by rw [e1]; rfl)) (by rw [World.frozen?_setCell]; exact h.pf) ?_ (fun g' hge => .inl (by simpa [Value.ownBlock] using hge))
    exact own_turned (own_less e3' rfl) fun g' hge => Below.heap_setCell W _ _ g' (by
      have : g = g' := by simpa [Value.ownBlock] using hge
      subst this; simpa using hg3)
theorem CirAt.better {H : Nat} {G : Option Addr} {gc : Nat} {R : List Nat} {path best : List Int} {W W' : World} {A : Option Addr} {c : Nat} (h : CirAt H G gc R path best W) (hne : path ≠ []) (hf : FreshInts W W' A path.length path) (hc : path.length ≤ c) (hb : Below W.heap.size W W') :
    (∃ bv, W'.cell? ⟨H + 1, 0, none⟩ = some bv) ∧ W'.frozen? ⟨H + 1, 0, none⟩ = false ∧ CirAt H G gc R path path (W'.setCell ⟨H + 1, 0, none⟩ (.slice A path.length c)) ∧ Below H W (W'.setCell ⟨H + 1, 0, none⟩ (.slice A path.length c)) := by
  have hsz := h.sz
  have h' := h.below hb
  have hs := hb.size
  obtain ⟨h1, h2, h3, h4, h5, h6, pv, bv, e1, e2, e3, e4, e5⟩ := h'
  have hpl : 0 < path.length := List.length_pos_iff.2 hne
  obtain ⟨b0, off0, x0, hA, _, _, _⟩ := hf.1.at_ hpl
  obtain ⟨b, cur, hA', hbge, hbh, hbc⟩ := hf.2 _ hA
  rw [hA'] at hA
  subst hA
  have kb : ∀ k, k ≠ H + 1 → (W'.setCell ⟨H + 1, 0, none⟩ (.slice (some ⟨b, 0, none⟩) path.length c)).heap[k]? = W'.heap[k]? := fun k hk => Below.heap_setCell W' _ _ k (by simpa using hk)
  have cb : ∀ k o, k ≠ H + 1 → (W'.setCell ⟨H + 1, 0, none⟩ (.slice (some ⟨b, 0, none⟩) path.length c)).cell? ⟨k, o, none⟩ = W'.cell? ⟨k, o, none⟩ := fun k o hk => World.cell?_of_block (w := W') (a := ⟨k, o, none⟩) (kb k hk)
  -- the path's row lies in older memory
  obtain ⟨pv1, bv1, d1, _, d3, _, _⟩ := h.box
  have hpv : pv1 = pv := by
    have := (hb.cell (p := ⟨H + 3, 0, none⟩) (by simp; omega)).trans d1
    rw [e1] at this
    injection this with this
    exact this.symm
  subst hpv
  have hpb : pv1.ownBlock ≠ some b := fun e => by have := (World.ownsRow.lt d3 _ e).2; omega
  refine ⟨⟨bv, e2⟩, h6, ⟨(cb H 0 (by omega)).trans h1, (cb (H + 4) 0 (by omega)).trans h2, ?_, h4, by rw [World.frozen?_setCell]; exact h5, by rw [World.frozen?_setCell]; exact h6, pv1, _, (cb (H + 3) 0 (by omega)).trans e1, World.cell?_setCell_same' _ _ _ (by rw [e2]; rfl), ?_, e4, .inr ⟨hne, b, c, cur, rfl, hc, ?_, by omega, (kb b (by omega)).trans hbh, hbc, hpb⟩⟩, ?_⟩
  · exact h3.kept (by simp [World.setCell]) fun ad had => kb _ (by have := h4 ad had; omega)
  · exact own_turned e3 fun g hge => kb g (by have := e4 g hge; omega)
  · exact hf.1.kept (by simp [World.setCell]) fun ad had => kb _ (by injection had with had; subst had; simp only; omega)
  · exact (hb.mono (by omega)).setCell (by simp) _
end Go.Proofs.Ytncebpmckbcabaa
