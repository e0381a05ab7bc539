/-
  What the program keeps of a schedule: txsOf, opsOf, committedOf and their exported faces; IsSerial.
-/
import Derived.Test.YtofcpfabjfhjoaaKept
namespace Go.Proofs.Ytofcpfabjfhjoaa
open Go.RowKit Go.BigFrame
set_option linter.unusedVariables false

def opsOf (s : List OpV) (t : Int) : List OpV := s.filter fun o => o.tx == t
def committed (s : List OpV) : List OpV := s.filter fun o => endOf s o.tx == 2
def hasTx (s : List OpV) (t : Int) : Bool := s.any fun o => o.tx == t
def txsOf (s : List OpV) : List Int := [0, 1, 2, 3].filter fun t => hasTx s t


set_option maxHeartbeats 400000 in
theorem opsOf1_any (o : OpV) (t : Int) (b : Nat) (w : World) (hc : w.cell? ⟨b, 0, none⟩ = some (.int .i64 t)) :
    Calls Try.prog 145 #[o.val, .pointer (some ⟨b, 0, none⟩)] w fun e w' => e = .returned (.bool (o.tx == t)) ∧ Below w.heap.size w w' := by
  obtain ⟨x, k, i⟩ := o
  unfold OpV.val
  have hbl : b < w.heap.size := block_lt_of_cell hc
  go_enter Try.func145, Try.ntmps145
  go_wp2_with fail
  go_ret
  exact ⟨rfl, (Below.refl _ _).alloc (Nat.le_refl _) _⟩


set_option maxHeartbeats 400000 in
theorem txsOf1_any (o : OpV) (t : Int) (b : Nat) (w : World) (hc : w.cell? ⟨b, 0, none⟩ = some (.int .i64 t)) :
    Calls Try.prog 129 #[o.val, .pointer (some ⟨b, 0, none⟩)] w fun e w' => e = .returned (.bool (o.tx == t)) ∧ Below w.heap.size w w' := by
  obtain ⟨x, k, i⟩ := o
  unfold OpV.val
  have hbl : b < w.heap.size := block_lt_of_cell hc
  go_enter Try.func129, Try.ntmps129
  go_wp2_with fail
  go_ret
  exact ⟨rfl, (Below.refl _ _).alloc (Nat.le_refl _) _⟩


theorem runs_opsOf1 : Runs 145 := runs_of Try.func145 (by kernel_rfl) rfl
theorem runs_txsOf1 : Runs 129 := runs_of Try.func129 (by kernel_rfl) rfl
theorem runs_committedOf1 : Runs 131 := runs_of Try.func131 (by kernel_rfl) rfl

set_option maxHeartbeats 400000 in
theorem opsOf_any (A : Option Addr) (n c : Nat) (s : List OpV) (t : Int) (w : World) (hx : ROps w A n s) :
    Calls Try.prog 103 #[.slice A n c, .int .i64 t] w (RetOps w (opsOf s t)) := by
  have hcl : ∀ W : World, W = w.alloc (.cells #[.int .i64 t] 3) → ROps W A n s ∧ ClosOp W 145 #[.pointer (some ⟨w.heap.size, 0, none⟩)] s (fun o => o.tx == t) ∧ Below w.heap.size w W := by
    intro W hW
    have hc : W.cell? ⟨w.heap.size, 0, none⟩ = some (.int .i64 t) := by rw [hW]; exact box_at _ _ _ _ _ rfl
    have hb : Below w.heap.size w W := by rw [hW]; exact (Below.refl _ _).alloc (Nat.le_refl _) _
    exact ⟨hx.below hb (Nat.le_refl _), ⟨runs_opsOf1, fun W' o hb' ho => opsOf1_any o t _ W' ((Later.cell hc ⟨W', hb'⟩))⟩, hb⟩
  have HC := Lib.hid hcl
  clear hcl hx
  go_enter Try.func103, Try.ntmps103
  go_wp2_with fail
  obtain ⟨W, hW⟩ : ∃ W : World, W = w.alloc (.cells #[.int .i64 t] 3) := ⟨_, rfl⟩
  rw [← hW]
  obtain ⟨hr, hf, hb⟩ := HC.out W hW
  refine (kept_any A n c s _ _ _ W hr hf).mono ?_
  rintro e w' ⟨A', c', rfl, hc', ⟨h1, h2⟩, hb'⟩
  clear hW
  go_wp2_with fail
  go_ret
  have hs := hb.size
  exact ⟨A', c', rfl, hc', ⟨h1, fun ad had => by obtain ⟨b, cur, h3, h4, h5⟩ := h2 ad had; exact ⟨b, cur, h3, by omega, h5⟩⟩, hb.trans (hb'.mono hs)⟩

set_option maxHeartbeats 400000 in
theorem committedOf1_any (o : OpV) (A : Option Addr) (n c b : Nat) (s : List OpV) (w : World) (hc : w.cell? ⟨b, 0, none⟩ = some (.slice A n c)) (hx : ROps w A n s) :
    Calls Try.prog 131 #[o.val, .pointer (some ⟨b, 0, none⟩)] w fun e w' => e = .returned (.bool (endOf s o.tx == 2)) ∧ Below w.heap.size w w' := by
  obtain ⟨t, k, x⟩ := o
  unfold OpV.val
  have hbl : b < w.heap.size := block_lt_of_cell hc
  have HX := Lib.hid hx
  clear hx
  go_enter Try.func131, Try.ntmps131
  go_wp2_with fail
  refine (endOf_any A n c s t _ (HX.out.below ((Below.refl _ _).alloc (Nat.le_refl _) _) (Nat.le_refl _))).mono ?_
  rintro e w' ⟨rfl, hb⟩
  go_wp2_with fail
  go_ret
  exact ⟨rfl, by (repeat (first | exact Below.refl _ _ | assumption | refine B_alloc ?_ (Nat.le_refl _) _ | refine Below.drew ?_ | refine B_drewN ?_ _ | refine B_after (by assumption) ?_ | (refine B_set ?_ ?_; rotate_left; (first | exact Nat.le_refl _ | (simp; done) | (simp at *; omega)))))⟩

set_option maxHeartbeats 400000 in
theorem committedOf_any (A : Option Addr) (n c : Nat) (s : List OpV) (w : World) (hx : ROps w A n s) :
    Calls Try.prog 77 #[.slice A n c] w (RetOps w (committed s)) := by
  have hcl : ∀ W : World, W = w.alloc (.cells #[.slice A n c] 23) → ROps W A n s ∧ ClosOp W 131 #[.pointer (some ⟨w.heap.size, 0, none⟩)] s (fun o => endOf s o.tx == 2) ∧ Below w.heap.size w W := by
    intro W hW
    have hc : W.cell? ⟨w.heap.size, 0, none⟩ = some (.slice A n c) := by rw [hW]; exact box_at _ _ _ _ _ rfl
    have hb : Below w.heap.size w W := by rw [hW]; exact (Below.refl _ _).alloc (Nat.le_refl _) _
    have hx' := hx.below hb (Nat.le_refl _)
    exact ⟨hx', ⟨runs_committedOf1, fun W' o hb' ho => committedOf1_any o A n c _ s W' ((Later.cell hc ⟨W', hb'⟩)) (hx'.below hb' (Nat.le_refl _))⟩, hb⟩
  have HC := Lib.hid hcl
  clear hcl hx
  go_enter Try.func77, Try.ntmps77
  go_wp2_with fail
  obtain ⟨W, hW⟩ : ∃ W : World, W = w.alloc (.cells #[.slice A n c] 23) := ⟨_, rfl⟩
  rw [← hW]
  obtain ⟨hr, hf, hb⟩ := HC.out W hW
  refine (kept_any A n c s _ _ _ W hr hf).mono ?_
  rintro e w' ⟨A', c', rfl, hc', ⟨h1, h2⟩, hb'⟩
  clear hW
  go_wp2_with fail
  go_ret
  have hs := hb.size
  exact ⟨A', c', rfl, hc', ⟨h1, fun ad had => by obtain ⟨b, cur, h3, h4, h5⟩ := h2 ad had; exact ⟨b, cur, h3, by omega, h5⟩⟩, hb.trans (hb'.mono hs)⟩
end Go.Proofs.Ytofcpfabjfhjoaa
