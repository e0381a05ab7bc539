/-
  Recoverable schedules drag no one who has committed; where nothing cascades no one is dragged. Plain; and the statement's own helpers.
-/
import Derived.Test.YtmookobaljcpbaaDirty0
import Derived.Test.YtmookobaljcpbaaDrag2
import Derived.Test.YtmookobaljcpbaaGen3
import Derived.Test.YtmookobaljcpbaaLaw0
import Derived.IntWalk
namespace Go.Proofs.Ytmookobaljcpbaa
open Go.RowKit Go.BigFrame
set_option linter.unusedVariables false

theorem faultZ_neg {B : Nat → Bool} {n : Nat} (h : faultZ B n = -1) : ∀ j, j < n → B j = false := by
  intro j hj
  unfold faultZ at h
  cases e : (List.range n).find? B with
  | none => have := List.find?_eq_none.1 e j (List.mem_range.2 hj); simpa using this
  | some i => rw [e] at h; simp only at h; omega
theorem endOf_take_two {s : List OpV} {i : Nat} {u : Int} (h : endOf (s.take i) u = 2) : endOf s u = 2 := by
  unfold endOf at h ⊢
  cases e : (s.take i).find? (fun o => o.tx == u && isEnd o) with
  | none => rw [e] at h; simp at h
  | some q =>
    rw [e] at h
    have : s.find? (fun o => o.tx == u && isEnd o) = some q := by
      calc s.find? (fun o => o.tx == u && isEnd o) = (s.take i ++ s.drop i).find? (fun o => o.tx == u && isEnd o) := by rw [List.take_append_drop]
        _ = some q := by rw [List.find?_append, e]; rfl
    rw [this]; exact h
theorem drag_step_rec {s : List OpV} (hv : validS s = true) (hr : faultZ (recB s) s.length = -1) {D : List Int} (hD : ∀ u ∈ D, endOf s u ≠ 2) {k : Nat} {o : OpV} (ho : s[k]? = some o) :
    ∀ u ∈ dStep s D k o, endOf s u ≠ 2 := by
  intro u hu
  unfold dStep at hu
  split at hu
  · rename_i hc
    rcases List.mem_append.1 hu with hu | hu
    · exact hD u hu
    · rw [List.mem_singleton] at hu
      subst hu
      intro h2
      unfold dOk at hc
      simp only [Bool.and_eq_true, Bool.not_eq_true', beq_iff_eq, decide_eq_true_eq] at hc
      obtain ⟨⟨⟨hk0, hnot⟩, h0⟩, hsrc⟩ := hc
      have hsm := any_eq_iff.1 hsrc
      obtain ⟨q, hq, hqt, hq2⟩ := (endOf_two_iff hv o.tx).1 h2
      obtain ⟨i, hi⟩ := List.mem_iff_getElem?.1 hq
      obtain ⟨hil, hie⟩ := List.getElem?_eq_some_iff.1 hi
      obtain ⟨hkl, hke⟩ := List.getElem?_eq_some_iff.1 ho
      have hki : k < i := by
        rcases Nat.lt_trichotomy k i with h | h | h
        · exact h
        · subst h
          rw [ho] at hi
          injection hi with hi
          subst hi
          omega
        · exfalso
          have := List.pairwise_iff_getElem.1 ((validS_iff s).1 hv).2.2 i k hil hkl h
          rw [hie, hke] at this
          exact this (by unfold isEnd; rw [hq2]; rfl) hqt
      have hd : dirtyB s k i = false := by
        have hB := faultZ_neg hr i hil
        unfold recB at hB
        rw [hi] at hB
        simp only at hB
        rw [List.any_eq_false] at hB
        have := hB k (List.mem_range.2 hki)
        unfold recIn at this
        rw [ho] at this
        simp only at this
        rw [hq2, hqt, hk0] at this
        simpa using this
      have hne : srcN s k o ≠ o.tx := fun e => by
        rw [e] at hsm
        rw [any_eq_iff.2 hsm] at hnot
        cases hnot
      unfold srcN at h0 hne hsm
      unfold dirtyB at hd
      rw [ho] at hd
      simp only at hd
      simp [h0, hne] at hd
      exact hD _ hsm (endOf_take_two hd)
  · exact hD u hu
theorem drag_to_rec {s : List OpV} (hv : validS s = true) (hr : faultZ (recB s) s.length = -1) {D : List Int} (hD : ∀ u ∈ D, endOf s u ≠ 2) (k : Nat) : ∀ u ∈ dTo s D k, endOf s u ≠ 2 := by
  induction k with
  | zero => exact hD
  | succ k ih =>
    cases e : s[k]? with
    | none => simp only [dTo, e]; exact ih
    | some o => rw [dTo_succ e]; exact drag_step_rec hv hr ih e
theorem drag_it_rec {s : List OpV} (hv : validS s = true) (hr : faultZ (recB s) s.length = -1) (m : Nat) : ∀ {D : List Int}, (∀ u ∈ D, endOf s u ≠ 2) → ∀ u ∈ dIt s m D, endOf s u ≠ 2 := by
  induction m with
  | zero => intro D hD; exact hD
  | succ m ih => intro D hD; exact ih (drag_to_rec hv hr hD _)
/-- Of a recoverable schedule one who has not committed drags no one who has. -/
theorem drag_rec {s : List OpV} {t : Int} (hv : validS s = true) (hr : faultZ (recB s) s.length = -1) (ht : endOf s t ≠ 2) : dragB s t = true := by
  unfold dragB
  rw [List.all_eq_true]
  intro u hu
  rw [drag_filter] at hu
  have h2 := (List.mem_filter.1 hu).2
  simp only [Bool.and_eq_true] at h2
  have := drag_it_rec hv hr 4 (D := [t]) (fun u hu => by rw [List.mem_singleton] at hu; subst hu; exact ht) u (any_eq_iff.1 h2.2)
  simpa using this
theorem drag_step_cas {s : List OpV} {t : Int} (hc : faultZ (casB s) s.length = -1) (ht : endOf s t ≠ 2) {k : Nat} {o : OpV} (ho : s[k]? = some o) : dStep s [t] k o = [t] := by
  unfold dStep
  rw [if_neg]
  intro h
  unfold dOk at h
  simp only [Bool.and_eq_true, Bool.not_eq_true', beq_iff_eq, decide_eq_true_eq] at h
  obtain ⟨⟨⟨hk0, hnot⟩, h0⟩, hsrc⟩ := h
  have hst := List.mem_singleton.1 (any_eq_iff.1 hsrc)
  have hB := faultZ_neg hc k (List.getElem?_eq_some_iff.1 ho).1
  have hne : t ≠ o.tx := fun e => by
    rw [e] at hnot
    simp at hnot
  unfold casB at hB
  rw [ho] at hB
  simp only at hB
  rw [hk0] at hB
  have hd : dirtyB s k k = false := by simpa using hB
  unfold dirtyB at hd
  rw [ho] at hd
  unfold srcN at hst h0
  rw [hst] at h0
  simp only at hd
  rw [hst] at hd
  simp [h0, hne] at hd
  exact ht (endOf_take_two hd)
/-- Where nothing cascades one who has not committed drags no one. -/
theorem drag_cas {s : List OpV} {t : Int} (hc : faultZ (casB s) s.length = -1) (ht : endOf s t ≠ 2) : dragL s t = [] := by
  have h1 : ∀ k, dTo s [t] k = [t] := by
    intro k
    induction k with
    | zero => rfl
    | succ k ih =>
      cases e : s[k]? with
      | none => simp only [dTo, e]; exact ih
      | some o => rw [dTo_succ e, ih]; exact drag_step_cas hc ht e
  have h2 : dIt s 4 [t] = [t] := dIt_fix (h1 _) 4
  unfold dragL
  rw [h2]; rfl
theorem drag_asc (s : List OpV) (t : Int) : (dragL s t).Pairwise fun a b => a < b := by
  rw [drag_filter]
  exact List.Pairwise.filter _ (by decide)
theorem drag_not (s : List OpV) (t : Int) : ((dragL s t).any fun y => y == t) = false := by
  rw [List.any_eq_false]
  intro y hy e
  rw [drag_filter] at hy
  have := (List.mem_filter.1 hy).2
  have e : y = t := by simpa using e
  rw [e] at this
  simp at this

set_option maxRecDepth 100000 in
set_option maxHeartbeats 1000000 in
theorem ascends_true (A : Option Addr) (n c : Nat) (xs : List Int) (w : World) (hx : RInts w A n xs) (ha : xs.Pairwise fun a b => a < b) :
    Calls Try.prog 37 #[.slice A n c] w fun e w' => e = .returned (.bool true) ∧ Below w.heap.size w w' := by
  have hn := hx.2.1
  have hl := hx.1
  have HX := Lib.hid hx
  have HA := Lib.hid ha
  clear hx ha
  go_enter Try.func37, Try.ntmps37
  go_wp2_with fail
  go_loopw [3] (fun i wr => ∃ k : Nat, 1 ≤ k ∧ k ≤ n + 1 ∧ i = .int .i64 k ∧ Below w.heap.size w wr) (fun i _ => n - (intOf i).toNat)
  case atStart => exact ⟨1, Nat.le_refl _, by omega, rfl, Below.refl _ _⟩
  case round =>
    obtain ⟨k, hk1, hk, rfl, hb⟩ := hrel
    by_cases hlt : k < n
    · have hxr := HX.out.below hb (Nat.le_refl _)
      obtain ⟨b, off, x, rfl, hbl, hx1, c0⟩ := hxr.at_ hlt
      obtain ⟨b', off', y, hA', _, hy1, d0⟩ := hxr.at_ (k := k - 1) (by omega)
      injection hA' with hA'; injection hA' with q1 q2 _; subst q1; subst q2
      have hyx : y < x := by
        obtain ⟨h1, e1⟩ := List.getElem?_eq_some_iff.1 hx1
        obtain ⟨h2, e2⟩ := List.getElem?_eq_some_iff.1 hy1
        have := List.pairwise_iff_getElem.1 HA.out (k - 1) k h2 h1 (by omega)
        rw [e1, e2] at this
        exact this
      have hle : ¬ x ≤ y := by omega
      have L0 := Later.cell c0
      have L1 := Later.cell d0
      have hki : (k : Int) < (n : Int) := by omega
      have hk0 : (0 : Int) ≤ (k : Int) := by omega
      have hk1i : (1 : Int) ≤ (k : Int) := by omega
      have hk1n : (k : Int) - 1 < (n : Int) := by omega
      have hk10 : (0 : Int) ≤ (k : Int) - 1 := by omega
      have hkt : ((k : Int) - 1).toNat = k - 1 := by omega
      have hkw : IntKind.i64.wrap ((k : Int) - 1) = (k : Int) - 1 := IntWalk.i64_in _ (by omega)
      clear hxr hx1 hy1 c0 d0 hyx
      go_wp2_with fail
      refine region_later (by kernel_rfl) (by kernel_rfl) ?_
      repeat (go_big_quiet_step (fail))
      refine wpQuiet_nil ?_
      rintro _ ⟨u, rfl⟩
      have hbu := hb.trans (u.2.mono hb.size)
      go_wp2_with fail
      go_roundw
      case rel => exact ⟨k + 1, by omega, by omega, by go_num, hbu⟩
      case measure => simp [intOf]; omega
    · go_wp2_with fail
      go_ret
      exact ⟨rfl, hb⟩

def DrawnI (w0 : World) (e : Ending) (w : World) : Prop :=
  ∃ (A : Option Addr) (n c : Nat) (xs : List OpV) (t : Int), e = .returned (.tuple #[.slice A n c, .int .i64 t]) ∧
    w.ownsRow w0.heap.size 55 3 (.slice A n c) n (opCells xs) ∧ n ≤ 20 ∧ Below w0.heap.size w0 w
theorem lit8 {w : World} {H : Nat} (hH : w.heap.size = H) (a b c d e f g h : Int) : RInts (w.alloc (.cells #[.int .i64 a, .int .i64 b, .int .i64 c, .int .i64 d, .int .i64 e, .int .i64 f, .int .i64 g, .int .i64 h] 3)) (some ⟨H, 0, none⟩) 8 [a, b, c, d, e, f, g, h] := by
  subst hH; exact RInts.lit w [a, b, c, d, e, f, g, h] _ (by simp)
set_option maxHeartbeats 1000000 in
theorem DrawDragsOf_any (A : Option Addr) (n c : Nat) (w : World) (hx : RBytes w A n) (hc : n ≤ c) :
    Calls Try.prog 35 #[.slice A n c] w (DrawnI w) := by
  go_enter Try.func35, Try.ntmps35
  go_wp2_with fail
  refine (newReader_any A n c w hx hc).mono ?_
  rintro e w1 ⟨rb, rfl, hrb, hr, hb⟩
  have hlt1 := hr.lt
  go_wp2_with fail
  refine (someSchedule_any rb 0 w1 hr (by omega)).mono ?_
  rintro e w2 ⟨A', n', c', p', xs, rfl, hown, hn', hr2, hp2, hO⟩
  have hlt2 : rb < w2.heap.size := hr2.lt
  have HOWN := Lib.hid hown
  have HO := Lib.hid hO
  have HR2 := Lib.hid hr2
  clear hown hO hr2
  go_wp2_with fail
  refine (one_any rb p' (some ⟨w2.heap.size, 0, none⟩) 8 8 [0, 1, 2, 3, 0, 1, 4, -1] _ (HR2.out.alloc _) (by omega) (lit8 rfl 0 1 2 3 0 1 4 (-1)) (by omega) (far_lit hlt2)).mono ?_
  rintro e w5 ⟨x, rfl, _, hr5, ho5⟩
  have hown5 := own_only (HOWN.out.alloc (.cells #[.int .i64 0, .int .i64 1, .int .i64 2, .int .i64 3, .int .i64 0, .int .i64 1, .int .i64 4, .int .i64 (-1)] 3)) ho5 hlt1
  have hOO := (HO.out.alloc (.cells #[.int .i64 0, .int .i64 1, .int .i64 2, .int .i64 3, .int .i64 0, .int .i64 1, .int .i64 4, .int .i64 (-1)] 3)).trans ho5
  have hs := hb.size
  have HF : Hid (DrawnI w (.returned (.tuple #[.slice A' n' c', .int .i64 x])) w5) :=
    ⟨A', n', c', xs, x, rfl, own_base hown5 hs, hn', hb.trans ⟨hOO.os, hOO.tape, hOO.output, hOO.size, fun k hk => hOO.heap (by omega) (by omega)⟩⟩
  clear hown5 hOO ho5 hr5
  go_wp2_with fail
  go_ret2
  exact HF.out
end Go.Proofs.Ytmookobaljcpbaa
