/-
  Texts that the proof rests on, joined: part 21.
-/
import Derived.Defers
import Derived.Laws.EntriesVeiled
import Derived.Test.YtcakjhappchlmaaSWx10
import Derived.Test.YtcakjhappchlmaaSWx18
import Derived.Test.YtcakjhappchlmaaSWx20
namespace Go.Proofs.Ytcakjhappchlmaa
open Go.RowKit Go.BigFrame
set_option linter.unusedVariables false

/-- The best circle so far, as its variable tells; its block is not the path's. -/
def BestIs (H : Nat) (best : List Int) (bv pv : Value) (W : World) : Prop :=
  (best = [] ∧ bv = .slice none 0 0) ∨ (best ≠ [] ∧ ∃ b c cur, bv = .slice (some ⟨b, 0, none⟩) best.length c ∧ best.length ≤ c ∧ RInts W (some ⟨b, 0, none⟩) best.length best ∧ H + 5 ≤ b ∧ W.heap[b]? = some (.cells cur 3 (0, 0)) ∧ best.length ≤ cur.size ∧ pv.ownBlock ≠ some b)
structure CirAt (H : Nat) (G : Option Addr) (gc : Nat) (R : List Nat) (path best : List Int) (W : World) : Prop where
  gcell : W.cell? ⟨H, 0, none⟩ = some (.slice G 4 gc)
  fcell : W.cell? ⟨H + 4, 0, none⟩ = some (.func (.func 186) #[] #[.pointer (some ⟨H + 3, 0, none⟩), .pointer (some ⟨H, 0, none⟩), .pointer (some ⟨H + 1, 0, none⟩), .pointer (some ⟨H + 4, 0, none⟩)])
  rows : RInts W G 4 (rowsI R)
  gblk : ∀ a, G = some a → a.block < H
  pf : W.frozen? ⟨H + 3, 0, none⟩ = false
  bf : W.frozen? ⟨H + 1, 0, none⟩ = false
  box : ∃ pv bv, W.cell? ⟨H + 3, 0, none⟩ = some pv ∧ W.cell? ⟨H + 1, 0, none⟩ = some bv ∧ W.ownsRow H 3 1 pv path.length (intCells path) ∧ (∀ g, pv.ownBlock = some g → g = H + 2 ∨ H + 5 ≤ g) ∧ BestIs H best bv pv W
theorem CirAt.sz {H : Nat} {G : Option Addr} {gc : Nat} {R : List Nat} {path best : List Int} {W : World} (h : CirAt H G gc R path best W) : H + 5 ≤ W.heap.size := by
  have : H + 4 < W.heap.size := block_lt_of_cell h.fcell
  omega
/-- Blocks that did not turn. -/
theorem CirAt.kept {H : Nat} {G : Option Addr} {gc : Nat} {R : List Nat} {path path' best : List Int} {W W' : World} {pv pv' : Value} (h : CirAt H G gc R path best W) (hpc : W.cell? ⟨H + 3, 0, none⟩ = some pv) (hs : W.heap.size ≤ W'.heap.size)
    (hk : ∀ k, k < W.heap.size → k ≠ H + 3 → pv.ownBlock ≠ some k → W'.heap[k]? = W.heap[k]?) (hc : W'.cell? ⟨H + 3, 0, none⟩ = some pv') (hf : W'.frozen? ⟨H + 3, 0, none⟩ = false)
    (hown : W'.ownsRow H 3 1 pv' path'.length (intCells path')) (hg : ∀ g, pv'.ownBlock = some g → (pv.ownBlock = some g ∨ W.heap.size ≤ g)) : CirAt H G gc R path' best W' := by
  have hsz := h.sz
  obtain ⟨h1, h2, h3, h4, h5, h6, pv0, bv, e1, e2, e3, e4, e5⟩ := h
  rw [hpc] at e1
  injection e1 with e1
  subst e1
  have nb : ∀ k, k < H + 5 → k ≠ H + 2 → pv.ownBlock ≠ some k := fun k hk5 hk2 e => by have := e4 k e; omega
  have cb : ∀ k o, k < H + 5 → k ≠ H + 2 → k ≠ H + 3 → W'.cell? ⟨k, o, none⟩ = W.cell? ⟨k, o, none⟩ := fun k o a b c => World.cell?_of_block (w := W) (a := ⟨k, o, none⟩) (hk k (by omega) c (nb k a b))
  refine ⟨(cb H 0 (by omega) (by omega) (by omega)).trans h1, (cb (H + 4) 0 (by omega) (by omega) (by omega)).trans h2, ?_, h4, hf, ?_, pv', bv, hc, (cb (H + 1) 0 (by omega) (by omega) (by omega)).trans e2, hown, fun g hge => ?_, ?_⟩
  · refine h3.kept hs fun ad had => ?_
    have := h4 ad had
    refine hk _ (by omega) (by omega) fun e => ?_
    rcases World.ownsRow.lt e3 _ e with ⟨h7, _⟩
    omega
  · unfold World.frozen? at h6 ⊢
    rw [hk (H + 1) (by omega) (by omega) (nb _ (by omega) (by omega))]
    exact h6
  · rcases hg g hge with h7 | h7
    · exact e4 g h7
    · exact .inr (by omega)
  · rcases e5 with ⟨a, b⟩ | ⟨a, b, c, cur, h7, h8, h9, h10, h11, h12, h13⟩
    · exact .inl ⟨a, b⟩
    · have hb : b < W.heap.size := lt_of_block h11
      have hkb := hk b hb (by omega) h13
      refine .inr ⟨a, b, c, cur, h7, h8, h9.kept hs (fun ad had => by injection had with had; subst had; exact hkb), h10, hkb.trans h11, h12, fun e => ?_⟩
      rcases hg b e with h14 | h14
      · exact h13 h14
      · omega
theorem CirAt.below {H : Nat} {G : Option Addr} {gc : Nat} {R : List Nat} {path best : List Int} {W W' : World} (h : CirAt H G gc R path best W) (hb : Below W.heap.size W W') : CirAt H G gc R path best W' := by
  have hsz := h.sz
  obtain ⟨pv, bv, e1, e2, e3, e4, e5⟩ := h.box
  refine h.kept e1 hb.size (fun k hk _ _ => hb.block k hk) ((hb.cell (p := ⟨H + 3, 0, none⟩) (by simp; omega)).trans e1) ?_ (own_below e3 hb) (fun g hg => .inl hg)
  have := h.pf
  rw [← this]
  exact hb.frozen (p := ⟨H + 3, 0, none⟩) (by simp; omega)
theorem CirAt.push {H : Nat} {G : Option Addr} {gc : Nat} {R : List Nat} {path best : List Int} {W w' : World} {pv v' : Value} {t : Int} {S : Nat} (h : CirAt H G gc R path best W) (hp : W.cell? ⟨H + 3, 0, none⟩ = some pv)
    (hown : w'.ownsRow H 3 1 v' (path.length + 1) (intCells (path ++ [t]))) (hg : W.grownBy w' pv.ownBlock) (hS : W.heap.size ≤ S) (hat : v'.ownBlock = pv.ownBlock ∨ v'.ownBlock = some S) :
    w'.cell? ⟨H + 3, 0, none⟩ = some pv ∧ w'.frozen? ⟨H + 3, 0, none⟩ = false ∧ CirAt H G gc R (path ++ [t]) best (w'.setCell ⟨H + 3, 0, none⟩ v') ∧ Below H W (w'.setCell ⟨H + 3, 0, none⟩ v') := by
  have hsz := h.sz
  obtain ⟨pv0, bv, e1, e2, e3, e4, e5⟩ := h.box
  rw [hp] at e1
  injection e1 with e1
  subst e1
  have hgs := World.grownBy.size hg
  have hne : some (H + 3) ≠ pv.ownBlock := fun e => by have := e4 _ e.symm; omega
  have c1 : w'.cell? ⟨H + 3, 0, none⟩ = some pv := (cell_grown hg (p := ⟨H + 3, 0, none⟩) (by simp; omega) hne).trans hp
  have f1 : w'.frozen? ⟨H + 3, 0, none⟩ = false := (frozen_grown hg (p := ⟨H + 3, 0, none⟩) (by simp; omega) hne).trans h.pf
  have hv3 : ∀ g, v'.ownBlock = some g → g ≠ H + 3 := fun g hge e => by
    rcases hat with h1 | h1
    · rw [h1] at hge; have := e4 g hge; omega
    · rw [h1] at hge; injection hge with hge; omega
  refine ⟨c1, f1, ?_, ?_⟩
  · refine h.kept hp (by simp [World.setCell]; omega) (fun k hk h3 hne => ?_) (World.cell?_setCell_same' _ _ _ (by rw [c1]; rfl)) (by rw [World.frozen?_setCell]; exact f1) ?_ (fun g hge => ?_)
    · exact (Below.heap_setCell w' _ _ k (by simpa using h3)).trans (hg.block k hk (fun e => hne e.symm))
    · rw [List.length_append, List.length_singleton]
      exact own_turned hown fun g hge => Below.heap_setCell w' _ _ g (by simpa using hv3 g hge)
    · rcases hat with h1 | h1
      · rw [h1] at hge; exact .inl hge
      · rw [h1] at hge; injection hge with hge; exact .inr (by omega)
  · have hb : Below H W w' := ⟨hg.os, hg.tape, hg.output, hgs, fun k hk => hg.block k (by omega) (fun e => by have := e4 _ e.symm; omega)⟩
    exact hb.setCell (by simp) _
theorem CirAt.pop {H : Nat} {G : Option Addr} {gc : Nat} {R : List Nat} {path best : List Int} {W : World} {t : Int} (h : CirAt H G gc R (path ++ [t]) best W) :
    ∃ g c, W.cell? ⟨H + 3, 0, none⟩ = some (.slice (some ⟨g, 0, none⟩) (path.length + 1) c) ∧ path.length + 1 ≤ c ∧ c ≤ 9223372036854775807 ∧ W.frozen? ⟨H + 3, 0, none⟩ = false ∧
      CirAt H G gc R path best (W.setCell ⟨H + 3, 0, none⟩ (.slice (some ⟨g, 0, none⟩) path.length c)) ∧ Below H W (W.setCell ⟨H + 3, 0, none⟩ (.slice (some ⟨g, 0, none⟩) path.length c)) := by
  have hsz := h.sz
  obtain ⟨pv, bv, e1, e2, e3, e4, e5⟩ := h.box
  have e3' := e3
  rw [List.length_append, List.length_singleton] at e3'
  rcases e3'.2 with ⟨_, h0⟩ | ⟨g, cap, cur, rfl, h2, h3, h4, h5, _⟩
  · omega
  · have hg3 : g ≠ H + 3 := by have := e4 g (by simp [Value.ownBlock]); omega
    refine ⟨g, cap, e1, h4, by unfold maxLen at h5; omega, h.pf, ?_, (Below.refl _ _).setCell (by simp) _⟩
    refine h.kept e1 (by simp [World.setCell]) (fun k hk h3 _ => Below.heap_setCell W _ _ k (by simpa using h3)) (World.cell?_setCell_same' _ _ _ (by rw [e1]; rfl)) (by rw [World.frozen?_setCell]; exact h.pf) ?_ (fun g' hge => .inl (by simpa [Value.ownBlock] using hge))
    exact own_turned (own_less e3' rfl) fun g' hge => Below.heap_setCell W _ _ g' (by
      have : g = g' := by simpa [Value.ownBlock] using hge
      subst this; simpa using hg3)
theorem CirAt.better {H : Nat} {G : Option Addr} {gc : Nat} {R : List Nat} {path best : List Int} {W W' : World} {A : Option Addr} {c : Nat} (h : CirAt H G gc R path best W) (hne : path ≠ []) (hf : FreshInts W W' A path.length path) (hc : path.length ≤ c) (hb : Below W.heap.size W W') :
    (∃ bv, W'.cell? ⟨H + 1, 0, none⟩ = some bv) ∧ W'.frozen? ⟨H + 1, 0, none⟩ = false ∧ CirAt H G gc R path path (W'.setCell ⟨H + 1, 0, none⟩ (.slice A path.length c)) ∧ Below H W (W'.setCell ⟨H + 1, 0, none⟩ (.slice A path.length c)) := by
  have hsz := h.sz
  have h' := h.below hb
  have hs := hb.size
  obtain ⟨h1, h2, h3, h4, h5, h6, pv, bv, e1, e2, e3, e4, e5⟩ := h'
  have hpl : 0 < path.length := List.length_pos_iff.2 hne
  obtain ⟨b0, off0, x0, hA, _, _, _⟩ := hf.1.at_ hpl
  obtain ⟨b, cur, hA', hbge, hbh, hbc⟩ := hf.2 _ hA
  rw [hA'] at hA
  subst hA
  have kb : ∀ k, k ≠ H + 1 → (W'.setCell ⟨H + 1, 0, none⟩ (.slice (some ⟨b, 0, none⟩) path.length c)).heap[k]? = W'.heap[k]? := fun k hk => Below.heap_setCell W' _ _ k (by simpa using hk)
  have cb : ∀ k o, k ≠ H + 1 → (W'.setCell ⟨H + 1, 0, none⟩ (.slice (some ⟨b, 0, none⟩) path.length c)).cell? ⟨k, o, none⟩ = W'.cell? ⟨k, o, none⟩ := fun k o hk => World.cell?_of_block (w := W') (a := ⟨k, o, none⟩) (kb k hk)
  -- the path's row lies in older memory
  obtain ⟨pv1, bv1, d1, _, d3, _, _⟩ := h.box
  have hpv : pv1 = pv := by
    have := (hb.cell (p := ⟨H + 3, 0, none⟩) (by simp; omega)).trans d1
    rw [e1] at this
    injection this with this
    exact this.symm
  subst hpv
  have hpb : pv1.ownBlock ≠ some b := fun e => by have := (World.ownsRow.lt d3 _ e).2; omega
  refine ⟨⟨bv, e2⟩, h6, ⟨(cb H 0 (by omega)).trans h1, (cb (H + 4) 0 (by omega)).trans h2, ?_, h4, by rw [World.frozen?_setCell]; exact h5, by rw [World.frozen?_setCell]; exact h6, pv1, _, (cb (H + 3) 0 (by omega)).trans e1, World.cell?_setCell_same' _ _ _ (by rw [e2]; rfl), ?_, e4, .inr ⟨hne, b, c, cur, rfl, hc, ?_, by omega, (kb b (by omega)).trans hbh, hbc, hpb⟩⟩, ?_⟩
  · exact h3.kept (by simp [World.setCell]) fun ad had => kb _ (by have := h4 ad had; omega)
  · exact own_turned e3 fun g hge => kb g (by have := e4 g hge; omega)
  · exact hf.1.kept (by simp [World.setCell]) fun ad had => kb _ (by injection had with had; subst had; simp only; omega)
  · exact (hb.mono (by omega)).setCell (by simp) _
end Go.Proofs.Ytcakjhappchlmaa
