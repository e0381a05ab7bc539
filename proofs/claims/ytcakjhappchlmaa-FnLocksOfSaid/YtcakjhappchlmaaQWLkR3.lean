/-
  The iterator of slices.Backward over steps.
-/
import Derived.Test.YtcakjhappchlmaaQWLkR2
import Derived.RangeFuncNested
import Derived.RangeFuncBound
import Derived.RangeFuncCalls
import Derived.RangeFuncLeaves
import Derived.RangeFuncBox
import Derived.Shelf.Abstract
import Derived.Shelf.RegionOpen
import Derived.WalkKit
import Derived.OwnWalkIn
import Derived.TacticsInMore
import Derived.LoopNIn
import Derived.LoopIn
namespace Go.Proofs.Ytcakjhappchlmaa
open Go.RowKit Go.BigFrame Go.Shelf
set_option linter.unusedVariables false

attribute [local go_sem] Oper.semAt_some

/-- The steps from the end: what has come behind k rounds. -/
def bkU (st : List OpV) (k : Nat) : List (Nat × OpV) := (List.range k).map fun m => (st.length - 1 - m, st.getD (st.length - 1 - m) OpV.zero)
theorem bkU_succ (st : List OpV) (k : Nat) : bkU st (k + 1) = bkU st k ++ [(st.length - 1 - k, st.getD (st.length - 1 - k) OpV.zero)] := by simp [bkU, List.range_succ]
theorem bkU_len (st : List OpV) (k : Nat) : (bkU st k).length = k := by simp [bkU]
/-- The slice reads as these steps, in a block below n0. -/
def ROpsAt (n0 : Nat) (w : World) (A : Option Addr) (n : Nat) (xs : List OpV) : Prop :=
  xs.length = n ∧ n ≤ 1099511627776 ∧ (0 < n → ∃ b off, A = some ⟨b, off, none⟩ ∧ b < n0 ∧ ∀ i o, xs[i]? = some o →
    w.cell? ⟨b, off + i * 3, none⟩ = some (.int .i64 o.tx) ∧ w.cell? ⟨b, off + i * 3 + 1, none⟩ = some (.int .i64 o.kind) ∧ w.cell? ⟨b, off + i * 3 + 2, none⟩ = some (.int .i64 o.item))
theorem ROps.at0 {w : World} {A : Option Addr} {n : Nat} {xs : List OpV} (h : ROps w A n xs) : ROpsAt w.heap.size w A n xs := h
theorem ROpsAt.below {n0 : Nat} {w w' : World} {A : Option Addr} {n : Nat} {xs : List OpV} (h : ROpsAt n0 w A n xs) (hb : Below n0 w w') : ROpsAt n0 w' A n xs := by
  refine ⟨h.1, h.2.1, fun h0 => ?_⟩
  obtain ⟨b, off, hA, hlt, hc⟩ := h.2.2 h0
  refine ⟨b, off, hA, hlt, fun i o ho => ?_⟩
  obtain ⟨c0, c1, c2⟩ := hc i o ho
  exact ⟨(hb.cell (p := ⟨b, _, none⟩) hlt).trans c0, (hb.cell (p := ⟨b, _, none⟩) hlt).trans c1, (hb.cell (p := ⟨b, _, none⟩) hlt).trans c2⟩

/-- What a round keeps for the iterator. -/
structure BkKeep (n0 Bs : Nat) (W W' : World) : Prop where
  below : Below n0 W W'
  box : W'.heap[Bs]? = W.heap[Bs]?
theorem BkKeep.refl (n0 Bs : Nat) (W : World) : BkKeep n0 Bs W W := ⟨Below.refl _ _, rfl⟩
theorem BkKeep.trans {n0 Bs : Nat} {A B C : World} (h : BkKeep n0 Bs A B) (k : BkKeep n0 Bs B C) : BkKeep n0 Bs A C := ⟨h.below.trans k.below, k.box.trans h.box⟩
theorem BkKeep.boxed {n0 Bs : Nat} {A B : World} {t : TypeId} {v : Value} (h : BkKeep n0 Bs A B) (hb : Go.Boxed A Bs t v) : Go.Boxed B Bs t v := h.box.trans hb

set_option maxRecDepth 100000 in
set_option maxHeartbeats 2000000 in
theorem back1_in (F : Fence) (N : Nat) (hf : F.fn 124) (hro : F.round = none) (hN : 1 ≤ N) (l Bs n0 n c : Nat) (A : Option Addr) (st : List OpV) (J Jx : List (Nat × OpV) → World → Prop)
    (hY : ∀ pre (x : Nat × OpV) W, J pre W → pre.length < n → YieldAt F (N - 1) Try.prog l #[.int .i64 (x.1 : Int), .agg #[.int .i64 x.2.tx, .int .i64 x.2.kind, .int .i64 x.2.item]] W fun e W' =>
      (e = .returned (.bool true) ∧ J (pre ++ [x]) W' ∧ BkKeep n0 Bs W W') ∨ (e = .returned (.bool false) ∧ Jx (pre ++ [x]) W'))
    (W : World) (hBs : Go.Boxed W Bs 23 (.slice A n c)) (hR : ROpsAt n0 W A n st) (h0 : J [] W) :
    CallsIn F N Try.prog 124 #[.func (.yield l) #[] #[], .pointer (some ⟨Bs, 0, none⟩)] W fun e W' => (∃ v, e = .returned v) ∧
      ((∃ ys, ys = bkU st n ∧ J ys W') ∨ (∃ pre, (∃ k, k ≤ n ∧ pre = bkU st k) ∧ Jx pre W')) := by
  have hn := hR.2.1
  have HL := Lib.hid hR.1
  have HR := Lib.hid hR
  have H0 : Hid (J (bkU st 0) W) := h0
  clear hR h0
  refine callsIn_of_wp Try.func124 rfl hf ?_ hro
  simp only [Try.ntmps124, List.size_toArray, List.length_cons, List.length_nil, Nat.reduceAdd, Nat.reduceSub, Array.replicate_succ, Array.replicate_zero, List.push_toArray, List.append_toArray, List.nil_append, List.cons_append]
  have cB0 := hBs.cell
  gi_wp2
  clear cB0
  gi_loopw [3] (fun i wr => ∃ k : Nat, k ≤ n ∧ i = .int .i64 ((n : Int) - 1 - k) ∧ J (bkU st k) wr ∧ BkKeep n0 Bs W wr) (fun i _ => (intOf i + 1).toNat)
  case atStart => exact ⟨0, Nat.zero_le _, by simp, H0.out, BkKeep.refl _ _ _⟩
  case round =>
    clear H0
    obtain ⟨k, hk, rfl, hJs, hnx⟩ := hrel
    have cBs := (hnx.boxed hBs).cell
    by_cases hlt : k < n
    · obtain ⟨q, hq⟩ : ∃ q : Nat, q = n - 1 - k := ⟨_, rfl⟩
      have hqi : (n : Int) - 1 - (k : Int) = (q : Int) := by omega
      rw [hqi]
      have hus : bkU st (k + 1) = bkU st k ++ [(q, st.getD q OpV.zero)] := by rw [bkU_succ, HL.out, ← hq]
      have ho : st[q]? = some (st.getD q OpV.zero) := by rw [List.getD_eq_getElem?_getD, List.getElem?_eq_getElem (by rw [HL.out]; omega)]; rfl
      generalize st.getD q OpV.zero = o at *
      obtain ⟨b, off, rfl, hb, hc⟩ := (HR.out.below hnx.below).2.2 (by omega)
      obtain ⟨c0, c1, c2⟩ := hc q o ho
      obtain ⟨fn, tmps, assign, body, hy, hRd⟩ := hY _ (q, o) wr hJs (by rw [bkU_len]; exact hlt)
      have HUS := Lib.hid hus
      have hqn : q < n := by omega
      have hqn2 : (q : Int) < (n : Int) := by omega
      have hq0 : decide ((0 : Int) ≤ (q : Int)) = true := by simp
      have HQ := Lib.hid hqi
      obtain ⟨tx, kd, it⟩ := o
      dsimp only at hy c0 c1 c2 hRd
      clear hus ho hc hqi hq
      gi_wp2
      refine hRd.mono ?_
      rintro e W3 (⟨rfl, hJ3, hk3⟩ | ⟨rfl, hJx3⟩)
      · gi_wp2
        go_roundw
        case rel => exact ⟨k + 1, by omega, by have := HQ.out; congr 1; omega, by rw [HUS.out]; exact hJ3, hnx.trans hk3⟩
        case measure => simp [intOf] <;> omega
      · gi_wp2
        refine bodyPost_ret (results_none rfl _ _ _) rfl ?_
        exact ⟨⟨_, rfl⟩, .inr ⟨_, ⟨k + 1, by omega, HUS.out.symm⟩, hJx3⟩⟩
    · obtain rfl : k = n := by omega
      have hno : decide ((0 : Int) ≤ (k : Int) - 1 - (k : Int)) = false := by simp; omega
      obtain ⟨z, hz⟩ : ∃ z : Int, z = (k : Int) - 1 - (k : Int) := ⟨_, rfl⟩
      have hz0 : z < 0 := by omega
      rw [← hz]
      clear hz hno
      gi_wp2
      go_end0
      exact ⟨⟨_, rfl⟩, .inl ⟨_, rfl, hJs⟩⟩
theorem back_stops (F : Fence) (N : Nat) (hf : F.fn 124) (hro : F.round = none) (hN : 1 ≤ N) (Bs n0 n c : Nat) (A : Option Addr) (st : List OpV) (w : World) (hn0 : n0 ≤ w.heap.size)
    (hc : Go.Boxed w Bs 23 (.slice A n c)) (hR : ROpsAt n0 w A n st) :
    SeqStopsK F N Try.prog 124 #[.pointer (some ⟨Bs, 0, none⟩)] (fun x : Nat × OpV => #[Value.int .i64 (x.1 : Int), .agg #[.int .i64 x.2.tx, .int .i64 x.2.kind, .int .i64 x.2.item]]) (BkKeep n0 Bs) (fun ys => ys = bkU st n) (fun pre => ∃ k, k ≤ n ∧ pre = bkU st k) n w :=
  fun l J Jx W hW _ _ hY h0 => back1_in F N hf hro hN l Bs n0 n c A st J Jx hY W ((hW.block Bs hc.lt).trans hc) (hR.below (hW.mono hn0)) h0
end Go.Proofs.Ytcakjhappchlmaa
