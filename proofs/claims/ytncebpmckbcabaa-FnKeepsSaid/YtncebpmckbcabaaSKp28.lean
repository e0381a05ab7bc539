/-
  Texts that the proof rests on, joined: part 28.
-/
import Derived.Deep.CutRange
import Derived.Laws.EntriesVeiled
import Derived.Test.YtncebpmckbcabaaSKp1
import Derived.Test.YtncebpmckbcabaaSKp3
import Derived.Test.YtncebpmckbcabaaSKp6
import Derived.Test.YtncebpmckbcabaaSKp7
import Derived.Test.YtncebpmckbcabaaSKp8
import Derived.Test.YtncebpmckbcabaaSKp10
import Derived.Test.YtncebpmckbcabaaSKp12
import Derived.Test.YtncebpmckbcabaaSKp22
import Derived.Test.YtncebpmckbcabaaSKp27
namespace Go.Proofs.Ytncebpmckbcabaa
open Go.RowKit Go.BigFrame
set_option linter.unusedVariables false

theorem opCells_set (xs : List OpV) : ∀ (i : Nat) (o : OpV), xs[i]? = some o → ∀ v : Int,
    (opCells xs).set (i * 3) (.int .i64 v) = opCells (xs.set i ⟨v, o.kind, o.item⟩) ∧ (opCells xs).set (i * 3 + 1) (.int .i64 v) = opCells (xs.set i ⟨o.tx, v, o.item⟩) ∧
    (opCells xs).set (i * 3 + 2) (.int .i64 v) = opCells (xs.set i ⟨o.tx, o.kind, v⟩) := by
  induction xs with
  | nil => intro i o h; simp at h
  | cons x r ih =>
    intro i o h v
    cases i with
    | zero => simp at h; subst h; simp [opCells]
    | succ i =>
      obtain ⟨h0, h1, h2⟩ := ih i o (by simpa using h) v
      have e : (i + 1) * 3 = i * 3 + 3 := by omega
      refine ⟨?_, ?_, ?_⟩
      · rw [e]; simp [opCells, h0]
      · rw [e]; simp [opCells, h1]
      · rw [e]; simp [opCells, h2]

def BentPost (w0 : World) (rb L n : Nat) (v : Value) (e : Ending) (w : World) : Prop :=
  ∃ (xs : List OpV) (p : Nat), e = .returned v ∧ w.ownsRow L 62 3 v n (opCells xs) ∧ Rd w rb p ∧ p ≤ 80000 ∧ Only rb w0 w

theorem bent_step {w0 w : World} {rb L n p g c : Nat} {xs : List OpV} (hown : w.ownsRow L 62 3 (.slice (some ⟨g, 0, none⟩) n c) n (opCells xs)) (hr : Rd w rb p) (hp : p ≤ 80000) (hO : Only rb w0 w)
    (hL : w0.heap.size ≤ L) (hrb : rb < w0.heap.size) (i : Nat) (hi : i < n) (v : Int) :
    BentPost w0 rb L n (.slice (some ⟨g, 0, none⟩) n c) (.returned (.slice (some ⟨g, 0, none⟩) n c)) (w.setCell ⟨g, i * 3, none⟩ (.int .i64 v)) ∧
    BentPost w0 rb L n (.slice (some ⟨g, 0, none⟩) n c) (.returned (.slice (some ⟨g, 0, none⟩) n c)) (w.setCell ⟨g, i * 3 + 1, none⟩ (.int .i64 v)) ∧
    BentPost w0 rb L n (.slice (some ⟨g, 0, none⟩) n c) (.returned (.slice (some ⟨g, 0, none⟩) n c)) (w.setCell ⟨g, i * 3 + 2, none⟩ (.int .i64 v)) := by
  have hl := hown.1
  rw [length_opCells] at hl
  have e : xs[i]? = some (xs[i]'(by omega)) := List.getElem?_eq_getElem (by omega)
  have hset := opCells_set xs i _ e v
  have hg := World.ownsRow.lt hown g rfl
  have hk : ∀ j, Rd (w.setCell ⟨g, j, none⟩ (.int .i64 v)) rb p ∧ Only rb w0 (w.setCell ⟨g, j, none⟩ (.int .i64 v)) := fun j =>
    ⟨hr.grown (hown.stored j _).2 fun k hk => by injection hk with hk; omega, hO.grown (hown.stored j _).2 fun k hk => by injection hk with hk; omega⟩
  have h0 := (hown.stored (i * 3) (.int .i64 v)).1
  have h1 := (hown.stored (i * 3 + 1) (.int .i64 v)).1
  have h2 := (hown.stored (i * 3 + 2) (.int .i64 v)).1
  rw [hset.1] at h0
  rw [hset.2.1] at h1
  rw [hset.2.2] at h2
  exact ⟨⟨_, p, rfl, h0, (hk _).1, hp, (hk _).2⟩, ⟨_, p, rfl, h1, (hk _).1, hp, (hk _).2⟩, ⟨_, p, rfl, h2, (hk _).1, hp, (hk _).2⟩⟩

theorem own_cells3 {w : World} {L n c g : Nat} {xs : List OpV} (hown : w.ownsRow L 62 3 (.slice (some ⟨g, 0, none⟩) n c) n (opCells xs)) {i : Nat} (hi : i < n) : ∃ o : OpV,
    w.cell? ⟨g, i * 3, none⟩ = some (.int .i64 o.tx) ∧ w.cell? ⟨g, i * 3 + 1, none⟩ = some (.int .i64 o.kind) ∧ w.cell? ⟨g, i * 3 + 2, none⟩ = some (.int .i64 o.item) := by
  have hl := hown.1
  rw [length_opCells] at hl
  have e : xs[i]? = some (xs[i]'(by omega)) := List.getElem?_eq_getElem (by omega)
  obtain ⟨c0, c1, c2⟩ := opCells_at xs i _ e
  exact ⟨_, (hown.cellAt _ (by omega)).trans c0, (hown.cellAt _ (by omega)).trans c1, (hown.cellAt _ (by omega)).trans c2⟩

set_option maxRecDepth 100000 in
set_option maxHeartbeats 2000000 in
theorem bent_any (rb p L n c : Nat) (A : Option Addr) (xs : List OpV) (w0 w : World) (h : Rd w rb p) (hp : p ≤ 70000) (hown : w.ownsRow L 62 3 (.slice A n c) n (opCells xs)) (hn : n ≤ 20) (hO : Only rb w0 w)
    (hL : w0.heap.size ≤ L) (hrb : rb < w0.heap.size) :
    Calls Try.prog 98 #[.pointer (some ⟨rb, 0, none⟩), .slice A n c] w (BentPost w0 rb L n (.slice A n c)) := by
  have hsz := hO.size
  go_enter Try.func98, Try.ntmps98
  go_wp2_with fail
  refine (pick_any rb p 40 w h (by omega) (by omega)).mono ?_
  rintro e w1 ⟨k, rfl, hr1, _, _, ho1⟩
  have hown1 := own_only hown ho1 (by omega)
  have hO1 := hO.trans ho1
  have hend : Hid (BentPost w0 rb L n (.slice A n c) (.returned (.slice A n c)) w1) := ⟨xs, _, rfl, hown1, hr1, by omega, hO1⟩
  by_cases hn0 : 0 < n
  · obtain ⟨g, c', hve, hg1, hg2⟩ := own_block hown1 hn0
    injection hve with hA _ hc
    subst hA; subst hc
    clear hown
    by_cases h0 : k = 0
    · go_wp2_with fail
      refine (pick_any rb _ _ _ hr1 (by omega) (by omega)).mono ?_
      rintro e w2 ⟨i, rfl, hr2, _, hi, ho2⟩
      obtain ⟨hi0, hi1⟩ := hi (by omega)
      obtain ⟨i, rfl⟩ := Int.eq_ofNat_of_zero_le hi0
      have hown2 := own_only hown1 ho2 (by omega)
      have hs2 := ho2.size
      have hlt2 := hr2.lt
      go_wp2_with fail
      refine (one_any rb _ _ _ _ _ _ (hr2.alloc _) (by omega) (lit3 rfl 4 (-1) 2) (by omega) (far_lit hlt2)).mono ?_
      rintro e w3 ⟨v, rfl, _, hr3, ho3⟩
      have hown3 := own_only (hown2.alloc _) ho3 (by omega)
      have hst := (bent_step hown3 hr3 (by omega) (((hO1.trans ho2).alloc _).trans ho3) hL hrb i (by omega) v).2.1
      obtain ⟨o, d0, d1, d2⟩ := own_cells3 hown3 (i := i) (by omega)
      have hf := hown3.frozenAt (i * 3 + 1)
      go_wp2_with fail
      go_ret
      exact hst
    · by_cases h1 : k = 1
      · go_wp2_with fail
        refine (pick_any rb _ _ _ hr1 (by omega) (by omega)).mono ?_
        rintro e w2 ⟨i, rfl, hr2, _, hi, ho2⟩
        obtain ⟨hi0, hi1⟩ := hi (by omega)
        obtain ⟨i, rfl⟩ := Int.eq_ofNat_of_zero_le hi0
        have hown2 := own_only hown1 ho2 (by omega)
        have hs2 := ho2.size
        have hlt2 := hr2.lt
        go_wp2_with fail
        refine (one_any rb _ _ _ _ _ _ (hr2.alloc _) (by omega) (lit3 rfl 4 (-1) 0) (by omega) (far_lit hlt2)).mono ?_
        rintro e w3 ⟨v, rfl, _, hr3, ho3⟩
        have hown3 := own_only (hown2.alloc _) ho3 (by omega)
        have hst := (bent_step hown3 hr3 (by omega) (((hO1.trans ho2).alloc _).trans ho3) hL hrb i (by omega) v).1
        obtain ⟨o, d0, d1, d2⟩ := own_cells3 hown3 (i := i) (by omega)
        have hf := hown3.frozenAt (i * 3)
        go_wp2_with fail
        go_ret
        exact hst
      · by_cases h2 : k = 2
        · go_wp2_with fail
          refine (pick_any rb _ _ _ hr1 (by omega) (by omega)).mono ?_
          rintro e w2 ⟨i, rfl, hr2, _, hi, ho2⟩
          obtain ⟨hi0, hi1⟩ := hi (by omega)
          obtain ⟨i, rfl⟩ := Int.eq_ofNat_of_zero_le hi0
          have hown2 := own_only hown1 ho2 (by omega)
          have hs2 := ho2.size
          have hlt2 := hr2.lt
          go_wp2_with fail
          refine (one_any rb _ _ _ _ _ _ (hr2.alloc _) (by omega) (lit3 rfl 3 (-1) 1) (by omega) (far_lit hlt2)).mono ?_
          rintro e w3 ⟨v, rfl, _, hr3, ho3⟩
          have hown3 := own_only (hown2.alloc _) ho3 (by omega)
          have hst := (bent_step hown3 hr3 (by omega) (((hO1.trans ho2).alloc _).trans ho3) hL hrb i (by omega) v).2.2
          obtain ⟨o, d0, d1, d2⟩ := own_cells3 hown3 (i := i) (by omega)
          have hf := hown3.frozenAt (i * 3 + 2)
          go_wp2_with fail
          go_ret
          exact hst
        · clear hown1 hr1 ho1 hO1
          go_wp2_with fail
          go_ret
          exact hend.out
  · have hn1 : n = 0 := by omega
    subst hn1
    clear hown hown1 hr1 ho1 hO1
    by_cases h0 : k = 0
    · go_wp2_with fail
      go_ret
      exact hend.out
    · by_cases h1 : k = 1
      · go_wp2_with fail
        go_ret
        exact hend.out
      · by_cases h2 : k = 2
        · go_wp2_with fail
          go_ret
          exact hend.out
        · go_wp2_with fail
          go_ret
          exact hend.out

def SomeSched (w0 : World) (rb : Nat) (e : Ending) (w : World) : Prop :=
  ∃ (A : Option Addr) (n c p : Nat) (xs : List OpV), e = .returned (.slice A n c) ∧ w.ownsRow w0.heap.size 62 3 (.slice A n c) n (opCells xs) ∧ n ≤ 20 ∧ Rd w rb p ∧ p ≤ 80000 ∧ Only rb w0 w

set_option maxHeartbeats 400000 in
theorem someSchedule_any (rb p : Nat) (w : World) (h : Rd w rb p) (hp : p ≤ 50000) :
    Calls Try.prog 76 #[.pointer (some ⟨rb, 0, none⟩)] w (SomeSched w rb) := by
  have hlt := h.lt
  go_enter Try.func76, Try.ntmps76
  go_wp2_with fail
  refine (goodSchedule_any rb p 16 w h hp (by omega)).mono ?_
  rintro e w1 ⟨v, n, xs, q, rfl, hown, hn, hr, hq, hO⟩
  obtain ⟨A, c, rfl⟩ := own_form hown
  go_wp2_with fail
  refine (bent_any rb q w.heap.size n c A xs w w1 hr (by omega) hown hn hO (Nat.le_refl _) hlt).mono ?_
  rintro e w2 ⟨xs', q', rfl, hown', hr', hq', hO'⟩
  go_wp2_with fail
  go_ret
  exact ⟨A, n, c, q', xs', rfl, hown', hn, hr', hq', hO'⟩

end Go.Proofs.Ytncebpmckbcabaa
namespace Go.Proofs.Ytncebpmckbcabaa
open Go.RowKit
set_option linter.unusedVariables false

/-! where a transaction takes its last lock -/
def takesB (t : Int) (o : OpV) : Bool := o.tx == t && decide (o.kind ≤ 1)
/-! the points, as the reference gathers them -/
/-! the points, as the program gathers them: from the end -/
/-! two phases -/
def twoR (a b : OpV) : Prop := ¬ (a.tx = b.tx ∧ a.kind = 2 ∧ b.kind ≤ 1)
instance (a b : OpV) : Decidable (twoR a b) := by unfold twoR; infer_instance
/-! legal steps: who holds a lock for itself holds it alone -/
/-- A lock that comes is taken. -/
theorem comes {st : List OpV} {u x : Int} {l : Nat} {o : OpV} (h : st[l]? = some o) {b : Int} (hb : 0 ≤ b) (h0 : heldI (st.take l) u x < b) (h1 : b ≤ heldI (st.take (l + 1)) u x) : takesB u o = true ∧ o.item = x := by
  rw [heldI_succ h] at h1
  unfold hStep at h1
  split at h1
  · rename_i hc
    split at h1
    · omega
    · split at h1
      · rename_i h3
        exact ⟨by simp [takesB, hc.1, h3], hc.2⟩
      · omega
  · omega
/-- A lock that goes is given back, where steps are legal. -/
theorem goes {st : List OpV} {t x : Int} {j : Nat} {o : OpV} (hv : ∀ o ∈ st, okStep o = true) (h : st[j]? = some o) (hl : illAtB st j = false) {b : Int} (hb : 0 ≤ b) (h0 : b ≤ heldI (st.take j) t x) (h1 : heldI (st.take (j + 1)) t x < b) : o.tx = t ∧ o.kind = 2 := by
  have hk := okStep_iff.1 (hv o (List.mem_of_getElem? h))
  have hr := heldI_rng (st := st.take j) (fun q hq => hv q (List.mem_of_mem_take hq)) t x
  unfold illAtB at hl
  rw [h] at hl
  simp only at hl
  rw [heldI_succ h] at h1
  unfold hStep at h1
  split at h1
  · rename_i hc
    refine ⟨hc.1, ?_⟩
    split at h1
    · assumption
    · split at h1
      · exfalso
        unfold illB at hl
        rw [hc.1, hc.2] at hl
        by_cases k0 : o.kind = 0
        · rw [if_pos k0, Bool.or_eq_false_iff, decide_eq_false_iff_not] at hl
          omega
        · omega
      · omega
  · omega
end Go.Proofs.Ytncebpmckbcabaa
namespace Go.Proofs.Ytncebpmckbcabaa
open Go.RowKit
set_option linter.unusedVariables false

theorem least_by {α : Type} (f : α → Nat) : ∀ {L : List α}, L ≠ [] → ∃ x ∈ L, ∀ y ∈ L, f x ≤ f y := by
  intro L
  induction L with
  | nil => intro h; exact absurd rfl h
  | cons a r ih =>
    intro _
    by_cases hr : r = []
    · subst hr; exact ⟨a, by simp, by simp⟩
    · obtain ⟨x, hx, hm⟩ := ih hr
      by_cases h : f a ≤ f x
      · refine ⟨a, by simp, fun y hy => ?_⟩
        rcases List.mem_cons.1 hy with e | e
        · rw [e]; exact Nat.le_refl _
        · exact Nat.le_trans h (hm y e)
      · refine ⟨x, by simp [hx], fun y hy => ?_⟩
        rcases List.mem_cons.1 hy with e | e
        · rw [e]; omega
        · exact hm y e
theorem cf_pair {L : List OpV} {t u : Int} : Cf L t u ↔ ¬ L.Pairwise (fun a b => ¬ (confB a b = true ∧ a.tx = t ∧ b.tx = u)) := by
  rw [List.pairwise_iff_getElem]
  constructor
  · rintro ⟨i, k, a, b, hik, ha, hb, r⟩ h
    obtain ⟨h1, e1⟩ := List.getElem?_eq_some_iff.1 ha
    obtain ⟨h2, e2⟩ := List.getElem?_eq_some_iff.1 hb
    have := h i k h1 h2 hik
    rw [e1, e2] at this
    exact this r
  · intro h
    apply Classical.byContradiction
    intro hn
    refine h fun i k h1 h2 hik r => hn ⟨i, k, _, _, hik, List.getElem?_eq_getElem h1, List.getElem?_eq_getElem h2, r⟩
theorem Cf.sub {L M : List OpV} {t u : Int} (h : Cf M t u) (hs : List.Sublist M L) : Cf L t u := by
  rw [cf_pair] at h ⊢
  exact fun hp => h (hp.sublist hs)
theorem stamp_inj {s : List OpV} {a b : OpV} (ha : a ∈ s) (hb : b ∈ s) (h : stampN s a.tx = stampN s b.tx) : a.tx = b.tx := by
  obtain ⟨q, hq, e⟩ := stampN_at ha
  obtain ⟨p, hp, e'⟩ := stampN_at hb
  rw [h, hp] at hq
  injection hq with hq
  rw [← e, ← e', hq]
/-- In a serial schedule conflicts go by the first operations. -/
theorem Cf.serial {s : List OpV} (hs : isSer s = true) {L : List OpV} (hL : List.Sublist L s) {t u : Int} (h : Cf L t u) : stampN s t < stampN s u := by
  have h2 := h.sub hL
  obtain ⟨i, k, a, b, hik, ha, hb, hc, rfl, rfl⟩ := h2
  have hp := ser_sorted hs
  rw [List.pairwise_iff_getElem] at hp
  obtain ⟨h1, e1⟩ := List.getElem?_eq_some_iff.1 ha
  obtain ⟨h3, e3⟩ := List.getElem?_eq_some_iff.1 hb
  have := hp i k h1 h3 hik
  rw [e1, e3] at this
  rcases Nat.lt_or_ge (stampN s a.tx) (stampN s b.tx) with h' | h'
  · exact h'
  · exact absurd (stamp_inj (List.mem_of_getElem? ha) (List.mem_of_getElem? hb) (Nat.le_antisymm this h')) h.ne
end Go.Proofs.Ytncebpmckbcabaa
namespace Go.Proofs.Ytncebpmckbcabaa
open Go.RowKit
set_option linter.unusedVariables false

/-- What is open at k: an operation ahead that P takes, that conflicts, of one without an end. -/
def opnB (P : OpV → Bool) (s : List OpV) (k : Nat) : Bool := match s[k]? with | some q => (s.take k).any fun o => P o && confB o q && decide (endOf (s.take k) o.tx < 0) | none => false

/-- t has no end in D. -/
def Act (D : List OpV) (t : Int) : Prop := ∀ o ∈ D, o.tx = t → isEnd o = false
theorem Act.snoc {D : List OpV} {t : Int} {o : OpV} : Act (D ++ [o]) t ↔ Act D t ∧ (o.tx = t → isEnd o = false) := by
  unfold Act
  constructor
  · exact fun h => ⟨fun p hp => h p (by simp [hp]), h o (by simp)⟩
  · rintro ⟨h1, h2⟩ p hp
    rcases List.mem_append.1 hp with hp | hp
    · exact h1 p hp
    · rw [List.mem_singleton] at hp; subst hp; exact h2
/-! ### legal steps -/
/-! ### LocksOf -/
section
variable {s : List OpV}
end
end Go.Proofs.Ytncebpmckbcabaa
namespace Go.Proofs.Ytncebpmckbcabaa
open Go.RowKit Go.BigFrame
set_option linter.unusedVariables false

def faultZ (B : Nat → Bool) (n : Nat) : Int := match (List.range n).find? B with | some i => (i : Int) | none => -1
theorem faultZ_hit {B : Nat → Bool} {n k : Nat} (hk : k < n) (h : B k = true) (hno : ∀ j, j < k → B j = false) : faultZ B n = (k : Int) := by
  have : (List.range n).find? B = some k := by
    rw [List.find?_eq_some_iff_getElem]
    exact ⟨h, k, by simpa using hk, by simp, fun j hj => by simp [hno j hj]⟩
  unfold faultZ; rw [this]
theorem faultZ_none {B : Nat → Bool} {n : Nat} (hno : ∀ j, j < n → B j = false) : faultZ B n = -1 := by
  have : (List.range n).find? B = none := by
    rw [List.find?_eq_none]
    intro x hx
    rw [hno x (List.mem_range.1 hx)]; simp
  unfold faultZ; rw [this]
def FaultP (s : List OpV) (w : World) (z : Int) (e : Ending) (w' : World) : Prop := e = .returned (.tuple #[.int .i64 (if validS s then z else -1), .bool (validS s)]) ∧ Below w.heap.size w w'
theorem FaultP.no {s : List OpV} {w w' : World} {z : Int} (hv : validS s = false) (hb : Below w.heap.size w w') : FaultP s w z (.returned (.tuple #[.int .i64 (-1), .bool false])) w' := ⟨by rw [hv]; rfl, hb⟩
theorem FaultP.yes {s : List OpV} {w w' : World} {z i : Int} (hv : validS s = true) (hz : z = i) (hb : Below w.heap.size w w') : FaultP s w z (.returned (.tuple #[.int .i64 i, .bool true])) w' := ⟨by rw [hv, hz]; rfl, hb⟩
set_option maxHeartbeats 1000000 in
theorem rules_any (w : World) : Calls Try.prog 112 #[] w fun e w' => e = .returned (.slice (some ⟨w.heap.size, 0, none⟩) 5 5) ∧ w' = w.alloc (.cells #[.string { data := #[114, 101, 99, 111, 118, 101, 114, 97, 98, 108, 101] }, .func (.func 138) #[] #[], .string { data := #[99, 97, 115, 99, 97, 100, 101, 115] }, .func (.func 140) #[] #[], .string { data := #[115, 116, 114, 105, 99, 116] }, .func (.func 141) #[] #[], .string { data := #[114, 105, 103, 111, 114, 111, 117, 115] }, .func (.func 144) #[] #[], .string { data := #[99, 111, 109, 109, 105, 116, 115] }, .func (.func 145) #[] #[]] 127) := by
  go_enter Try.func112, Try.ntmps112
  go_wp2_with fail
  go_ret
  exact ⟨rfl, rfl⟩
end Go.Proofs.Ytncebpmckbcabaa
