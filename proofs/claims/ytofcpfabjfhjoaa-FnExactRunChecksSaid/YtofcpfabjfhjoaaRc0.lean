/-
  What is checked at the end: what the program and the reference compute, and that it is the same.
-/
import Derived.Test.YtofcpfabjfhjoaaPlain6
namespace Go.Proofs.Ytofcpfabjfhjoaa
open Go.RowKit
set_option linter.unusedVariables false

def rcOwn (s : List OpV) (i : Nat) (t : Int) : List OpV := (s.take i).filter fun p => p.tx == t
def rcWrites (s : List OpV) (i : Nat) (t : Int) : List OpV := (s.take i).filter fun p => p.tx == t && p.kind == 1
def rcBad (s C : List OpV) (i : Nat) (o : OpV) : Bool := C.any fun c => [(0 : Int), 1, 2].any fun x => decide ((stampN s o.tx : Int) < c.item) && touchB s i o.tx 0 x && touchB s c.item.toNat c.tx 1 x
def rcStep (s : List OpV) (i : Nat) (o : OpV) (st : List OpV × List Int × List OpV) : List OpV × List Int × List OpV :=
  if o.kind == 0 || o.kind == 3 then (st.1 ++ [o], st.2.1, st.2.2)
  else if o.kind == 2 then
    if rcBad s st.2.2 i o then (st.1 ++ [⟨o.tx, 3, 0⟩], st.2.1 ++ [o.tx], st.2.2)
    else (st.1 ++ rcWrites s i o.tx ++ [o], st.2.1, st.2.2 ++ [⟨o.tx, 0, (i : Int)⟩])
  else st
def rcTo (s : List OpV) : Nat → List OpV × List Int × List OpV
  | 0 => ([], [], [])
  | k + 1 => match s[k]? with | some o => rcStep s k o (rcTo s k) | none => rcTo s k
theorem rcTo_succ {s : List OpV} {k : Nat} {o : OpV} (h : s[k]? = some o) : rcTo s (k + 1) = rcStep s k o (rcTo s k) := by simp only [rcTo, h]
def rcWr (W : List Int) (i : Nat) (own : List OpV) : List Int := own.foldl (fun W p => if p.kind == 1 then W.set p.item.toNat (i : Int) else W) W
theorem rcWr_snoc {W : List Int} {i : Nat} {own : List OpV} {q : Nat} {p : OpV} (h : own[q]? = some p) : rcWr W i (own.take (q + 1)) = if p.kind == 1 then (rcWr W i (own.take q)).set p.item.toNat (i : Int) else rcWr W i (own.take q) := by
  unfold rcWr
  rw [take_snoc h, List.foldl_append]; rfl
theorem rcWr_len (W : List Int) (i : Nat) (own : List OpV) : (rcWr W i own).length = W.length := by
  unfold rcWr
  induction own generalizing W with
  | nil => rfl
  | cons p r ih =>
    rw [List.foldl_cons, ih]
    split
    · rw [List.length_set]
    · rfl
def riBad (s : List OpV) (W : List Int) (i : Nat) (o : OpV) : Bool := (rcOwn s i o.tx).any fun p => p.kind == 0 && decide (firstI s o.tx < W.getD p.item.toNat 0)
def riStep (s : List OpV) (i : Nat) (o : OpV) (st : List OpV × List Int × List Int) : List OpV × List Int × List Int :=
  if o.kind == 0 || o.kind == 3 then (st.1 ++ [o], st.2.1, st.2.2)
  else if o.kind == 1 then st
  else if riBad s st.2.2 i o then (st.1 ++ [⟨o.tx, 3, 0⟩], st.2.1 ++ [o.tx], st.2.2)
  else (st.1 ++ (rcOwn s i o.tx).filter (fun p => p.kind == 1) ++ [o], st.2.1, rcWr st.2.2 i (rcOwn s i o.tx))
def riTo (s : List OpV) : Nat → List OpV × List Int × List Int
  | 0 => ([], [], [-1, -1, -1])
  | k + 1 => match s[k]? with | some o => riStep s k o (riTo s k) | none => riTo s k
theorem riTo_succ {s : List OpV} {k : Nat} {o : OpV} (h : s[k]? = some o) : riTo s (k + 1) = riStep s k o (riTo s k) := by simp only [riTo, h]
theorem riTo_len (s : List OpV) (k : Nat) : (riTo s k).2.2.length = 3 := by
  induction k with
  | zero => rfl
  | succ k ih =>
    simp only [riTo]
    cases s[k]? with
    | none => exact ih
    | some o =>
      simp only [riStep]
      split
      · exact ih
      · split
        · exact ih
        · split
          · exact ih
          · simp only [rcWr_len]; exact ih

theorem rcWrites_eq (s : List OpV) (i : Nat) (t : Int) : (rcOwn s i t).filter (fun p => p.kind == 1) = rcWrites s i t := by
  unfold rcOwn rcWrites
  rw [List.filter_filter]
  refine List.filter_congr fun p _ => ?_
  exact Bool.and_comm _ _
theorem getD_setI {W : List Int} {i j : Nat} {v : Int} (hi : i < W.length) : (W.set i v).getD j 0 = if i = j then v else W.getD j 0 := by
  rw [List.getD_eq_getElem?_getD, List.getElem?_set, List.getD_eq_getElem?_getD]
  split
  · rename_i e; subst e; first | rfl | (rw [if_pos hi]; rfl)
  · rfl
/-- What the places of the last writes are behind one transaction more. -/
theorem rcWr_get {W : List Int} {i : Nat} {own : List OpV} (hW : W.length = 3) (hi : ∀ p ∈ own, 0 ≤ p.item ∧ p.item ≤ 2) {x : Nat} (hx : x < 3) :
    (rcWr W i own).getD x 0 = if (own.any fun p => p.kind == 1 && p.item == (x : Int)) then (i : Int) else W.getD x 0 := by
  induction own generalizing W with
  | nil => rfl
  | cons p r ih =>
    have hp := hi p (by simp)
    have hr : ∀ q ∈ r, 0 ≤ q.item ∧ q.item ≤ 2 := fun q hq => hi q (by simp [hq])
    have e : rcWr W i (p :: r) = rcWr (if p.kind == 1 then W.set p.item.toNat (i : Int) else W) i r := rfl
    rw [e, ih (by split; · rw [List.length_set]; exact hW
                  · exact hW) hr, List.any_cons]
    cases hk : (p.kind == 1)
    · simp
    · obtain ⟨P, hP⟩ := Int.eq_ofNat_of_zero_le hp.1
      rw [hP]
      simp only [Bool.true_and, if_true, Int.toNat_natCast]
      rw [getD_setI (by omega)]
      cases ha : (r.any fun p => p.kind == 1 && p.item == (x : Int))
      · simp only [Bool.or_false]
        by_cases hPx : P = x
        · subst hPx; simp
        · have : ((P : Int) == (x : Int)) = false := by rw [beq_eq_false_iff_ne]; omega
          rw [this, if_neg hPx]; first | done | simp
      · simp
theorem touch_own {s : List OpV} {i : Nat} {t k x : Int} : touchB s i t k x = (rcOwn s i t).any fun p => p.kind == k && p.item == x := by
  unfold touchB rcOwn
  rw [List.any_filter]
  congr 1
  funext p
  rw [Bool.and_assoc]

def WInv (s C : List OpV) (W : List Int) (k : Nat) : Prop :=
  (∀ c ∈ C, ∃ j : Nat, j < k ∧ c.item = (j : Int)) ∧ ∀ x, x < 3 → ∀ z : Nat, ((z : Int) < W.getD x 0 ↔ ∃ c ∈ C, (z : Int) < c.item ∧ touchB s c.item.toNat c.tx 1 (x : Int) = true)
theorem WInv.next {s C : List OpV} {W : List Int} {k : Nat} (h : WInv s C W k) : WInv s C W (k + 1) :=
  ⟨fun c hc => by obtain ⟨j, hj, e⟩ := h.1 c hc; exact ⟨j, by omega, e⟩, h.2⟩
theorem rcOwn_item {s : List OpV} (h : validS s = true) (i : Nat) (t : Int) : ∀ p ∈ rcOwn s i t, 0 ≤ p.item ∧ p.item ≤ 2 := by
  intro p hp
  exact validS_item h (List.mem_of_mem_take (List.mem_filter.1 hp).1)
theorem bad_eq {s C : List OpV} {W : List Int} {k : Nat} (h : validS s = true) (hw : WInv s C W k) {o : OpV} (ho : s[k]? = some o) : riBad s W k o = rcBad s C k o := by
  unfold riBad rcBad
  rw [firstI_eq (List.mem_of_getElem? ho), Bool.eq_iff_iff, List.any_eq_true, List.any_eq_true]
  constructor
  · rintro ⟨p, hp, e⟩
    simp only [Bool.and_eq_true, beq_iff_eq, decide_eq_true_eq] at e
    have hi := rcOwn_item h k o.tx p hp
    obtain ⟨P, hP⟩ := Int.eq_ofNat_of_zero_le hi.1
    rw [hP, Int.toNat_natCast] at e
    obtain ⟨c, hc, h1, h2⟩ := (hw.2 P (by omega) _).1 e.2
    refine ⟨c, hc, List.any_eq_true.2 ⟨(P : Int), ?_, ?_⟩⟩
    · rcases (by omega : P = 0 ∨ P = 1 ∨ P = 2) with rfl | rfl | rfl <;> simp
    · have ht : touchB s k o.tx 0 (P : Int) = true := by
        rw [touch_own, List.any_eq_true]
        exact ⟨p, hp, by simp [e.1, hP]⟩
      simp [h1, h2, ht]
  · rintro ⟨c, hc, e⟩
    rw [List.any_eq_true] at e
    obtain ⟨x, hx, e⟩ := e
    simp only [Bool.and_eq_true, decide_eq_true_eq] at e
    obtain ⟨⟨e1, e2⟩, e3⟩ := e
    obtain ⟨P, hP3, rfl⟩ : ∃ P : Nat, P < 3 ∧ x = (P : Int) := by
      simp only [List.mem_cons, List.not_mem_nil, or_false] at hx
      rcases hx with rfl | rfl | rfl
      · exact ⟨0, by omega, rfl⟩
      · exact ⟨1, by omega, rfl⟩
      · exact ⟨2, by omega, rfl⟩
    rw [touch_own, List.any_eq_true] at e2
    obtain ⟨p, hp, e2⟩ := e2
    simp only [Bool.and_eq_true, beq_iff_eq] at e2
    refine ⟨p, hp, ?_⟩
    simp only [Bool.and_eq_true, beq_iff_eq, decide_eq_true_eq]
    refine ⟨e2.1, ?_⟩
    rw [e2.2, Int.toNat_natCast]
    exact (hw.2 P hP3 _).2 ⟨c, hc, e1, e3⟩
theorem rc_eq {s : List OpV} (h : validS s = true) (k : Nat) (hk : k ≤ s.length) : (riTo s k).1 = (rcTo s k).1 ∧ (riTo s k).2.1 = (rcTo s k).2.1 ∧ WInv s (rcTo s k).2.2 (riTo s k).2.2 k := by
  induction k with
  | zero =>
    refine ⟨rfl, rfl, fun c hc => (by cases hc), fun x hx z => ?_⟩
    constructor
    · intro hz
      exfalso
      have : ([-1, -1, -1] : List Int).getD x 0 = -1 := by
        rcases (by omega : x = 0 ∨ x = 1 ∨ x = 2) with rfl | rfl | rfl <;> rfl
      simp only [riTo] at hz
      rw [this] at hz
      omega
    · rintro ⟨c, hc, _⟩; cases hc
  | succ k ih =>
    obtain ⟨i1, i2, i3⟩ := ih (by omega)
    have e : s[k]? = some (s[k]'(by omega)) := List.getElem?_eq_getElem (by omega)
    rw [riTo_succ e, rcTo_succ e]
    generalize s[k]'(by omega) = o at *
    have hlen := riTo_len s k
    generalize riTo s k = I at *
    generalize rcTo s k = S at *
    obtain ⟨I1, I2, I3⟩ := I
    obtain ⟨S1, S2, S3⟩ := S
    simp only at i1 i2 i3 hlen
    subst i1; subst i2
    have hbad := bad_eq h i3 e
    unfold riStep rcStep
    simp only
    rw [hbad, rcWrites_eq]
    cases h03 : (o.kind == 0 || o.kind == 3)
    · cases h1 : (o.kind == 1)
      · have h2 : (o.kind == 2) = true := by
          have hv := ((validS_iff s).1 h).2.1 o (List.mem_of_getElem? e)
          unfold validOp isAcc isEnd at hv
          simp only [Bool.or_eq_false_iff] at h03
          rw [h03.1, h03.2, h1] at hv
          simp only [Bool.or_false, Bool.false_and, Bool.false_or, Bool.and_eq_true] at hv
          exact hv.2.1
        rw [h2]
        cases hb : rcBad s S3 k o
        · simp only [Bool.false_eq_true, if_false, if_true]
          refine ⟨trivial, trivial, fun c hc => ?_, fun x hx z => ?_⟩
          · rcases List.mem_append.1 hc with hc | hc
            · obtain ⟨j, hj, e⟩ := i3.1 c hc; exact ⟨j, by omega, e⟩
            · rw [List.mem_singleton] at hc; subst hc; exact ⟨k, by omega, rfl⟩
          · rw [rcWr_get hlen (rcOwn_item h k o.tx) hx, ← touch_own]
            constructor
            · intro hz
              split at hz
              · rename_i ht
                exact ⟨_, List.mem_append_right _ (List.mem_singleton.2 rfl), hz, by simpa using ht⟩
              · obtain ⟨c, hc, r⟩ := (i3.2 x hx z).1 hz
                exact ⟨c, List.mem_append_left _ hc, r⟩
            · rintro ⟨c, hc, h1, h2⟩
              rcases List.mem_append.1 hc with hc | hc
              · split
                · obtain ⟨j, hj, e⟩ := i3.1 c hc
                  rw [e] at h1; omega
                · exact (i3.2 x hx z).2 ⟨c, hc, h1, h2⟩
              · rw [List.mem_singleton] at hc; subst hc
                simp only [Int.toNat_natCast] at h2
                rw [h2, if_pos rfl]; exact h1
        · simp only [Bool.false_eq_true, if_false, if_true]
          exact ⟨trivial, trivial, i3.next⟩
      · have h2 : (o.kind == 2) = false := by
          have : o.kind = 1 := by simpa using h1
          rw [this]; rfl
        rw [h2]
        simp only [Bool.false_eq_true, if_false, if_true]
        exact ⟨trivial, trivial, i3.next⟩
    · simp only [if_true]
      exact ⟨trivial, trivial, i3.next⟩
/-- Whether a schedule is run. -/
def runB (s : List OpV) : Bool := validS s && decide (s.length ≤ 12)
theorem runChecks_eq (s : List OpV) : orNil (runB s) (riTo s s.length).1 = orNil (runB s) (rcTo s s.length).1 ∧ orNil (runB s) (riTo s s.length).2.1 = orNil (runB s) (rcTo s s.length).2.1 := by
  cases h : validS s
  · unfold runB; rw [h]; exact ⟨rfl, rfl⟩
  · have := rc_eq h s.length (Nat.le_refl _)
    rw [this.1, this.2.1]; exact ⟨rfl, rfl⟩
end Go.Proofs.Ytofcpfabjfhjoaa
