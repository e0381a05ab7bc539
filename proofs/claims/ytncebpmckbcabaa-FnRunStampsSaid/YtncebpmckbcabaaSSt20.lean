/-
  Texts that the proof rests on, joined: part 20.
-/
import Derived.IntWalk
import Derived.Laws.EntriesVeiled
import Derived.Test.YtncebpmckbcabaaSSt3
import Derived.Test.YtncebpmckbcabaaSSt5
import Derived.Test.YtncebpmckbcabaaSSt11
import Derived.Test.YtncebpmckbcabaaSSt14
import Derived.Test.YtncebpmckbcabaaSSt19
namespace Go.Proofs.Ytncebpmckbcabaa
open Go.RowKit Go.BigFrame
set_option linter.unusedVariables false

theorem opCells_set (xs : List OpV) : ∀ (i : Nat) (o : OpV), xs[i]? = some o → ∀ v : Int,
    (opCells xs).set (i * 3) (.int .i64 v) = opCells (xs.set i ⟨v, o.kind, o.item⟩) ∧ (opCells xs).set (i * 3 + 1) (.int .i64 v) = opCells (xs.set i ⟨o.tx, v, o.item⟩) ∧
    (opCells xs).set (i * 3 + 2) (.int .i64 v) = opCells (xs.set i ⟨o.tx, o.kind, v⟩) := by
  induction xs with
  | nil => intro i o h; simp at h
  | cons x r ih =>
    intro i o h v
    cases i with
    | zero => simp at h; subst h; simp [opCells]
    | succ i =>
      obtain ⟨h0, h1, h2⟩ := ih i o (by simpa using h) v
      have e : (i + 1) * 3 = i * 3 + 3 := by omega
      refine ⟨?_, ?_, ?_⟩
      · rw [e]; simp [opCells, h0]
      · rw [e]; simp [opCells, h1]
      · rw [e]; simp [opCells, h2]

def BentPost (w0 : World) (rb L n : Nat) (v : Value) (e : Ending) (w : World) : Prop :=
  ∃ (xs : List OpV) (p : Nat), e = .returned v ∧ w.ownsRow L 62 3 v n (opCells xs) ∧ Rd w rb p ∧ p ≤ 80000 ∧ Only rb w0 w

theorem bent_step {w0 w : World} {rb L n p g c : Nat} {xs : List OpV} (hown : w.ownsRow L 62 3 (.slice (some ⟨g, 0, none⟩) n c) n (opCells xs)) (hr : Rd w rb p) (hp : p ≤ 80000) (hO : Only rb w0 w)
    (hL : w0.heap.size ≤ L) (hrb : rb < w0.heap.size) (i : Nat) (hi : i < n) (v : Int) :
    BentPost w0 rb L n (.slice (some ⟨g, 0, none⟩) n c) (.returned (.slice (some ⟨g, 0, none⟩) n c)) (w.setCell ⟨g, i * 3, none⟩ (.int .i64 v)) ∧
    BentPost w0 rb L n (.slice (some ⟨g, 0, none⟩) n c) (.returned (.slice (some ⟨g, 0, none⟩) n c)) (w.setCell ⟨g, i * 3 + 1, none⟩ (.int .i64 v)) ∧
    BentPost w0 rb L n (.slice (some ⟨g, 0, none⟩) n c) (.returned (.slice (some ⟨g, 0, none⟩) n c)) (w.setCell ⟨g, i * 3 + 2, none⟩ (.int .i64 v)) := by
  have hl := hown.1
  rw [length_opCells] at hl
  have e : xs[i]? = some (xs[i]'(by omega)) := List.getElem?_eq_getElem (by omega)
  have hset := opCells_set xs i _ e v
  have hg := World.ownsRow.lt hown g rfl
  have hk : ∀ j, Rd (w.setCell ⟨g, j, none⟩ (.int .i64 v)) rb p ∧ Only rb w0 (w.setCell ⟨g, j, none⟩ (.int .i64 v)) := fun j =>
    ⟨hr.grown (hown.stored j _).2 fun k hk => by injection hk with hk; omega, hO.grown (hown.stored j _).2 fun k hk => by injection hk with hk; omega⟩
  have h0 := (hown.stored (i * 3) (.int .i64 v)).1
  have h1 := (hown.stored (i * 3 + 1) (.int .i64 v)).1
  have h2 := (hown.stored (i * 3 + 2) (.int .i64 v)).1
  rw [hset.1] at h0
  rw [hset.2.1] at h1
  rw [hset.2.2] at h2
  exact ⟨⟨_, p, rfl, h0, (hk _).1, hp, (hk _).2⟩, ⟨_, p, rfl, h1, (hk _).1, hp, (hk _).2⟩, ⟨_, p, rfl, h2, (hk _).1, hp, (hk _).2⟩⟩

theorem own_cells3 {w : World} {L n c g : Nat} {xs : List OpV} (hown : w.ownsRow L 62 3 (.slice (some ⟨g, 0, none⟩) n c) n (opCells xs)) {i : Nat} (hi : i < n) : ∃ o : OpV,
    w.cell? ⟨g, i * 3, none⟩ = some (.int .i64 o.tx) ∧ w.cell? ⟨g, i * 3 + 1, none⟩ = some (.int .i64 o.kind) ∧ w.cell? ⟨g, i * 3 + 2, none⟩ = some (.int .i64 o.item) := by
  have hl := hown.1
  rw [length_opCells] at hl
  have e : xs[i]? = some (xs[i]'(by omega)) := List.getElem?_eq_getElem (by omega)
  obtain ⟨c0, c1, c2⟩ := opCells_at xs i _ e
  exact ⟨_, (hown.cellAt _ (by omega)).trans c0, (hown.cellAt _ (by omega)).trans c1, (hown.cellAt _ (by omega)).trans c2⟩

set_option maxRecDepth 100000 in
set_option maxHeartbeats 2000000 in
theorem bent_any (rb p L n c : Nat) (A : Option Addr) (xs : List OpV) (w0 w : World) (h : Rd w rb p) (hp : p ≤ 70000) (hown : w.ownsRow L 62 3 (.slice A n c) n (opCells xs)) (hn : n ≤ 20) (hO : Only rb w0 w)
    (hL : w0.heap.size ≤ L) (hrb : rb < w0.heap.size) :
    Calls Try.prog 98 #[.pointer (some ⟨rb, 0, none⟩), .slice A n c] w (BentPost w0 rb L n (.slice A n c)) := by
  have hsz := hO.size
  go_enter Try.func98, Try.ntmps98
  go_wp2_with fail
  refine (pick_any rb p 40 w h (by omega) (by omega)).mono ?_
  rintro e w1 ⟨k, rfl, hr1, _, _, ho1⟩
  have hown1 := own_only hown ho1 (by omega)
  have hO1 := hO.trans ho1
  have hend : Hid (BentPost w0 rb L n (.slice A n c) (.returned (.slice A n c)) w1) := ⟨xs, _, rfl, hown1, hr1, by omega, hO1⟩
  by_cases hn0 : 0 < n
  · obtain ⟨g, c', hve, hg1, hg2⟩ := own_block hown1 hn0
    injection hve with hA _ hc
    subst hA; subst hc
    clear hown
    by_cases h0 : k = 0
    · go_wp2_with fail
      refine (pick_any rb _ _ _ hr1 (by omega) (by omega)).mono ?_
      rintro e w2 ⟨i, rfl, hr2, _, hi, ho2⟩
      obtain ⟨hi0, hi1⟩ := hi (by omega)
      obtain ⟨i, rfl⟩ := Int.eq_ofNat_of_zero_le hi0
      have hown2 := own_only hown1 ho2 (by omega)
      have hs2 := ho2.size
      have hlt2 := hr2.lt
      go_wp2_with fail
      refine (one_any rb _ _ _ _ _ _ (hr2.alloc _) (by omega) (lit3 rfl 4 (-1) 2) (by omega) (far_lit hlt2)).mono ?_
      rintro e w3 ⟨v, rfl, _, hr3, ho3⟩
      have hown3 := own_only (hown2.alloc _) ho3 (by omega)
      have hst := (bent_step hown3 hr3 (by omega) (((hO1.trans ho2).alloc _).trans ho3) hL hrb i (by omega) v).2.1
      obtain ⟨o, d0, d1, d2⟩ := own_cells3 hown3 (i := i) (by omega)
      have hf := hown3.frozenAt (i * 3 + 1)
      go_wp2_with fail
      go_ret
      exact hst
    · by_cases h1 : k = 1
      · go_wp2_with fail
        refine (pick_any rb _ _ _ hr1 (by omega) (by omega)).mono ?_
        rintro e w2 ⟨i, rfl, hr2, _, hi, ho2⟩
        obtain ⟨hi0, hi1⟩ := hi (by omega)
        obtain ⟨i, rfl⟩ := Int.eq_ofNat_of_zero_le hi0
        have hown2 := own_only hown1 ho2 (by omega)
        have hs2 := ho2.size
        have hlt2 := hr2.lt
        go_wp2_with fail
        refine (one_any rb _ _ _ _ _ _ (hr2.alloc _) (by omega) (lit3 rfl 4 (-1) 0) (by omega) (far_lit hlt2)).mono ?_
        rintro e w3 ⟨v, rfl, _, hr3, ho3⟩
        have hown3 := own_only (hown2.alloc _) ho3 (by omega)
        have hst := (bent_step hown3 hr3 (by omega) (((hO1.trans ho2).alloc _).trans ho3) hL hrb i (by omega) v).1
        obtain ⟨o, d0, d1, d2⟩ := own_cells3 hown3 (i := i) (by omega)
        have hf := hown3.frozenAt (i * 3)
        go_wp2_with fail
        go_ret
        exact hst
      · by_cases h2 : k = 2
        · go_wp2_with fail
          refine (pick_any rb _ _ _ hr1 (by omega) (by omega)).mono ?_
          rintro e w2 ⟨i, rfl, hr2, _, hi, ho2⟩
          obtain ⟨hi0, hi1⟩ := hi (by omega)
          obtain ⟨i, rfl⟩ := Int.eq_ofNat_of_zero_le hi0
          have hown2 := own_only hown1 ho2 (by omega)
          have hs2 := ho2.size
          have hlt2 := hr2.lt
          go_wp2_with fail
          refine (one_any rb _ _ _ _ _ _ (hr2.alloc _) (by omega) (lit3 rfl 3 (-1) 1) (by omega) (far_lit hlt2)).mono ?_
          rintro e w3 ⟨v, rfl, _, hr3, ho3⟩
          have hown3 := own_only (hown2.alloc _) ho3 (by omega)
          have hst := (bent_step hown3 hr3 (by omega) (((hO1.trans ho2).alloc _).trans ho3) hL hrb i (by omega) v).2.2
          obtain ⟨o, d0, d1, d2⟩ := own_cells3 hown3 (i := i) (by omega)
          have hf := hown3.frozenAt (i * 3 + 2)
          go_wp2_with fail
          go_ret
          exact hst
        · clear hown1 hr1 ho1 hO1
          go_wp2_with fail
          go_ret
          exact hend.out
  · have hn1 : n = 0 := by omega
    subst hn1
    clear hown hown1 hr1 ho1 hO1
    by_cases h0 : k = 0
    · go_wp2_with fail
      go_ret
      exact hend.out
    · by_cases h1 : k = 1
      · go_wp2_with fail
        go_ret
        exact hend.out
      · by_cases h2 : k = 2
        · go_wp2_with fail
          go_ret
          exact hend.out
        · go_wp2_with fail
          go_ret
          exact hend.out

def SomeSched (w0 : World) (rb : Nat) (e : Ending) (w : World) : Prop :=
  ∃ (A : Option Addr) (n c p : Nat) (xs : List OpV), e = .returned (.slice A n c) ∧ w.ownsRow w0.heap.size 62 3 (.slice A n c) n (opCells xs) ∧ n ≤ 20 ∧ Rd w rb p ∧ p ≤ 80000 ∧ Only rb w0 w

set_option maxHeartbeats 400000 in
theorem someSchedule_any (rb p : Nat) (w : World) (h : Rd w rb p) (hp : p ≤ 50000) :
    Calls Try.prog 76 #[.pointer (some ⟨rb, 0, none⟩)] w (SomeSched w rb) := by
  have hlt := h.lt
  go_enter Try.func76, Try.ntmps76
  go_wp2_with fail
  refine (goodSchedule_any rb p 16 w h hp (by omega)).mono ?_
  rintro e w1 ⟨v, n, xs, q, rfl, hown, hn, hr, hq, hO⟩
  obtain ⟨A, c, rfl⟩ := own_form hown
  go_wp2_with fail
  refine (bent_any rb q w.heap.size n c A xs w w1 hr (by omega) hown hn hO (Nat.le_refl _) hlt).mono ?_
  rintro e w2 ⟨xs', q', rfl, hown', hr', hq', hO'⟩
  go_wp2_with fail
  go_ret
  exact ⟨A, n, c, q', xs', rfl, hown', hn, hr', hq', hO'⟩

end Go.Proofs.Ytncebpmckbcabaa
namespace Go.Proofs.Ytncebpmckbcabaa
open Go.RowKit Go.BigFrame
set_option linter.unusedVariables false

set_option maxHeartbeats 400000 in
theorem runSchedule_any (rb p : Nat) (w : World) (h : Rd w rb p) (hp : p ≤ 40000) :
    Calls Try.prog 60 #[.pointer (some ⟨rb, 0, none⟩)] w (SomeSched w rb) := by
  have hlt := h.lt
  go_enter Try.func60, Try.ntmps60
  go_wp2_with fail
  refine (pick_any rb p 24 w h (by omega) (by omega)).mono ?_
  rintro e w1 ⟨k, rfl, hr1, _, _, ho1⟩
  by_cases h0 : k = 0
  · subst h0
    go_wp2_with fail
    refine (someSchedule_any rb (p + 1) w1 hr1 (by omega)).mono ?_
    rintro e w2 ⟨A, n, c, q, xs, rfl, hown, hn, hr, hq, hO⟩
    go_wp2_with fail
    go_ret
    exact ⟨A, n, c, q, xs, rfl, own_base hown ho1.size, hn, hr, hq, ho1.trans hO⟩
  · go_wp2_with fail
    refine (goodSchedule_any rb (p + 1) 12 w1 hr1 (by omega) (by omega)).mono ?_
    rintro e w2 ⟨v, n, xs, q, rfl, hown, hn, hr, hq, hO⟩
    obtain ⟨A, c, rfl⟩ := own_form hown
    go_wp2_with fail
    refine (bent_any rb q w1.heap.size n c A xs w1 w2 hr (by omega) hown hn hO (Nat.le_refl _) (Nat.lt_of_lt_of_le hlt ho1.size)).mono ?_
    rintro e w3 ⟨xs', q', rfl, hown', hr', hq', hO'⟩
    go_wp2_with fail
    go_ret
    exact ⟨A, n, c, q', xs', rfl, own_base hown' ho1.size, hn, hr', hq', ho1.trans hO'⟩
end Go.Proofs.Ytncebpmckbcabaa
namespace Go.Proofs.Ytncebpmckbcabaa
open Go.RowKit Go.BigFrame
set_option linter.unusedVariables false

set_option maxHeartbeats 1000000 in
theorem sRunStamps_any (A : Option Addr) (n c : Nat) (s : List OpV) (skip : Bool) (w : World) (hx : ROps w A n s) :
    Calls Try.prog 36 #[.slice A n c, .bool skip] w (RetOI w (orNil (runB s) (stRun s skip s.length).done) (orNil (runB s) (stRun s skip s.length).dead)) := by
  have hl := hx.1
  have HX := Lib.hid hx
  have HS0 : Hid (∀ (W : World), ROps W A n s → validS s = true → n ≤ 12 → Calls Try.prog 84 #[.slice A n c, .bool skip] W (RetOI W (stRun s skip s.length).done (stRun s skip s.length).dead)) := fun W h1 h2 h3 => srunStamps_any A n c s skip W h1 h2 h3
  obtain ⟨xs, hxs⟩ : ∃ xs, (stRun s skip s.length).done = xs := ⟨_, rfl⟩
  obtain ⟨ys, hys⟩ : ∃ ys, (stRun s skip s.length).dead = ys := ⟨_, rfl⟩
  rw [hxs, hys] at HS0 ⊢
  clear hx hxs hys
  go_enter Try.func36, Try.ntmps36
  go_wp2_with fail
  refine (svalid_any A n c s w HX.out).mono ?_
  rintro e w1 ⟨rfl, hb1⟩
  cases hv : validS s
  · have hr : Hid (runB s = false) := by show _ = _; unfold runB; rw [hv]; rfl
    clear hv
    go_wp2_with fail
    go_ret2
    rw [hr.out]
    exact RetOI.nil hb1
  · by_cases h12 : 12 < n
    · have hr : Hid (runB s = false) := by show _ = _; unfold runB; rw [hv]; simp; omega
      have h12i : (12 : Int) < (n : Int) := by omega
      clear hv
      go_wp2_with fail
      go_ret2
      rw [hr.out]
      exact RetOI.nil hb1
    · have hr : Hid (runB s = true) := by show _ = _; unfold runB; rw [hv]; simp; omega
      have h12i : ¬ (12 : Int) < (n : Int) := by omega
      have HC := Lib.hid (HS0.out w1 (HX.out.below hb1 (Nat.le_refl _)) hv (by omega))
      clear hv
      go_wp2_with fail
      refine HC.out.mono ?_
      rintro e w2 hret
      have HR := Lib.hid (RetOI.later hb1 hret)
      obtain ⟨O, oc, P, pc, rfl, hoc, hpc, _, _, _⟩ := hret
      clear hoc hpc
      go_wp2_with fail
      go_ret2
      rw [hr.out]
      exact HR.out
def DrawnT (w : World) (e : Ending) (w' : World) : Prop := ∃ A n c s skip, e = .returned (.tuple #[.slice A n c, .bool skip]) ∧ n ≤ c ∧ ROps w' A n s ∧ n ≤ 1000 ∧ Below w.heap.size w w'
theorem only_belowT {w w1 w2 : World} {rb : Nat} (hb : Below w.heap.size w w1) (hrb : w.heap.size ≤ rb) (hO : Only rb w1 w2) : Below w.heap.size w w2 := by
  have hs := hb.size
  exact hb.trans ⟨hO.os, hO.tape, hO.output, hO.size, fun k hk => hO.heap (by omega) (by omega)⟩
set_option maxRecDepth 100000 in
set_option maxHeartbeats 2000000 in
theorem DrawRunStamps_any (A : Option Addr) (n c : Nat) (w : World) (hx : RBytes w A n) (hc : n ≤ c) :
    Calls Try.prog 34 #[.slice A n c] w (DrawnT w) := by
  go_enter Try.func34, Try.ntmps34
  go_wp2_with fail
  refine (newReader_any A n c w hx hc).mono ?_
  rintro e w1 ⟨rb, rfl, hrb, hr, hb⟩
  have hlt := hr.lt
  go_wp2_with fail
  refine (runSchedule_any rb 0 w1 hr (by omega)).mono ?_
  rintro e w3 ⟨A3, n3, c3, q, xs, rfl, hown, hn3, hr3, hq, hO3⟩
  obtain ⟨A4, c4, he, hmc⟩ := own_form2 hown
  injection he with e1 e2 e3
  subst e1; subst e3
  have HX : Hid (ROps w3 A3 n3 xs) := ROps.of_own hown (by omega)
  have hfar : Hid (∀ ad, A3 = some ad → ad.block ≠ rb) := fun ad had e => by
    obtain ⟨g, cur, h1, h2, _⟩ := (FreshOps.of_own (w0 := w1) hown (Nat.le_refl _) (by omega)).2 ad had
    rw [h1] at e
    simp only at e
    omega
  clear hown
  go_wp2_with fail
  refine (pick_any rb q 2 w3 hr3 (by omega) (by omega)).mono ?_
  rintro e w4 ⟨v, rfl, _, _, _, ho4⟩
  have HX4 : Hid (ROps w4 A3 n3 xs) := HX.out.grown ho4 (fun ad had e => by injection e with e; exact hfar.out ad had e.symm)
  have HF : Hid (∀ b, DrawnT w (.returned (.tuple #[.slice A3 n3 c3, .bool b])) w4) := fun b => ⟨A3, n3, c3, xs, b, rfl, hmc, HX4.out, by omega, only_belowT hb hrb (hO3.trans ho4)⟩
  clear hO3 ho4 hr3 HX hb
  go_wp2_with fail
  refine bodyPost_ret (v := .tuple #[.slice A3 n3 c3, .bool (v == 0)]) (by simp [results, Try.results34, go_sem]) rfl ?_
  exact HF.out _
end Go.Proofs.Ytncebpmckbcabaa
