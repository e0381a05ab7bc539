/-
  viewOf: what its map holds while the places come.
-/
import Derived.Test.YtkbclcgdkbhgdaaQIvsView6
namespace Go.Proofs.Ytkbclcgdkbhgdaa
open Go.RowKit
set_option linter.unusedVariables false

/-- From whom each read reads. -/
def vwF (s : List OpV) (i : Nat) (o : OpV) : Option Int := if o.kind = 0 then some (vsrc s i o) else none
/-- Those whose keys have come. -/
def vwP (s : List OpV) (left : Lit → Bool) (i : Nat) (o : OpV) : Option Int := if left (pllit o.tx (cntN s o.tx i : Int)) = false then vwF s i o else none
theorem pl_other {s : List OpV} (hx : Tx4 s) (hn : s.length ≤ 1099511627776) {i j : Nat} {o p : OpV} (hi : s[i]? = some o) (hj : s[j]? = some p) (h : j ≠ i) : (pllit p.tx (cntN s p.tx j : Int)).sameKey (pllit o.tx (cntN s o.tx i : Int)) = false := by
  cases e : (pllit p.tx (cntN s p.tx j : Int)).sameKey (pllit o.tx (cntN s o.tx i : Int))
  · rfl
  · exfalso
    have hil := (List.getElem?_eq_some_iff.1 hi).1
    have hjl := (List.getElem?_eq_some_iff.1 hj).1
    have b1 := cntN_le (s := s) (t := o.tx) (i := i)
    have b2 := cntN_le (s := s) (t := p.tx) (i := j)
    obtain ⟨e2, e3⟩ := pl_sameKey (wf_small (hx p (List.mem_of_getElem? hj))) (wf_nat (by omega)) (wf_small (hx o (List.mem_of_getElem? hi))) (wf_nat (by omega)) e
    have e4 : cntN s p.tx j = cntN s o.tx i := by omega
    rw [e2] at e4
    exact h (At.uniq (s := s) (t := o.tx) (k := cntN s o.tx i) ⟨p, hj, e2, e4⟩ ⟨o, hi, rfl, rfl⟩)
theorem pl_self (t u : Int) : (pllit t u).sameKey (pllit t u) = true := WideAt.sameKey_self (pllit_key t u)
/-- A read more. -/
theorem vwP_put {D : DataW Unit} {s : List OpV} {left : Lit → Bool} (h : KvIs D s (vwP s left)) (hx : Tx4 s) (hn : s.length ≤ 1099511627776) {i : Nat} {o : OpV} {u : Int} (hi : s[i]? = some o) (hu : (cntN s o.tx i : Int) = u) (hk : o.kind = 0) :
    KvIs (D.put (pllit o.tx u) (.lit (.int .i64 (vsrc s i o)))) s (vwP s fun z => left z && !z.sameKey (pllit o.tx u)) := by
  subst hu
  refine h.put hx hn hi ?_ fun j p hj hp => ?_
  · simp only [vwP, pl_self, Bool.not_true, Bool.and_false, if_true, vwF, hk]
  · simp only [vwP, pl_other hx hn hi hp hj, Bool.not_false, Bool.and_true]
/-- One that is no read. -/
theorem vwP_skip {D : DataW Unit} {s : List OpV} {left : Lit → Bool} (h : KvIs D s (vwP s left)) (hx : Tx4 s) (hn : s.length ≤ 1099511627776) {i : Nat} {o : OpV} {u : Int} (hi : s[i]? = some o) (hu : (cntN s o.tx i : Int) = u) (hk : o.kind ≠ 0) :
    KvIs D s (vwP s fun z => left z && !z.sameKey (pllit o.tx u)) := by
  subst hu
  refine h.congr fun j p hp => ?_
  by_cases hj : j = i
  · subst hj
    rw [hi] at hp
    injection hp with hp
    subst hp
    simp only [vwP, vwF, hk, if_false]
    split <;> split <;> rfl
  · simp only [vwP, pl_other hx hn hi hp hj, Bool.not_false, Bool.and_true]
theorem vwP_start {s : List OpV} {left : Lit → Bool} (h : ∀ i o, s[i]? = some o → left (pllit o.tx (cntN s o.tx i : Int)) = true) : KvIs (.map []) s (vwP s left) :=
  KvIs.empty.congr fun j p hp => by simp only [vwP, h j p hp]; simp
theorem vwP_done {D : DataW Unit} {s : List OpV} {left : Lit → Bool} (h : KvIs D s (vwP s left)) (hl : ∀ kl, left kl = false) : KvIs D s (vwF s) :=
  h.congr fun j p hp => by simp only [vwP, hl, if_true]
theorem KvIs.hasAll {D : DataW Unit} {s : List OpV} (h : KvIs D s (plF s.length)) (hx : Tx4 s) (hn : s.length ≤ 1099511627776) : ∀ i o, s[i]? = some o → Maps.has D (pllit o.tx (cntN s o.tx i : Int)) = true := fun i o hi => by
  have hil := (List.getElem?_eq_some_iff.1 hi).1
  have b1 := cntN_le (s := s) (t := o.tx) (i := i)
  exact (h.has o.tx (cntN s o.tx i : Int) (wf_small (hx o (List.mem_of_getElem? hi))) (wf_nat (by omega))).2 ⟨i, o, hi, rfl, rfl, by simp [plF, hil]⟩
theorem owns_size {w : World} {b n : Nat} {D : DataW Unit} (h : w.ownsMap Try.prog 73 (plainElem (H := Unit) Try.prog 3) b n D) : Maps.size D ≤ n := by
  obtain ⟨es, clock, hb, F, hs, rfl⟩ := h
  rw [Maps.size_eq]
  first
    | (rw [length_sorted]; simpa using hs)
    | (rw [Go.length_sorted]; simpa using hs)
    | (rw [DataW.length_sorted]; simpa using hs)
    | (rw [(sorted_perm _).length_eq]; simpa using hs)
    | (rw [(Maps.sorted_perm _).length_eq]; simpa using hs)
end Go.Proofs.Ytkbclcgdkbhgdaa
