/-
  Texts that the proof rests on, joined: part 9.
-/
import Derived.Test.YtncebpmckbcabaaSKp6
import Derived.Test.YtncebpmckbcabaaSKp8
namespace Go.Proofs.Ytncebpmckbcabaa
open Go.RowKit
set_option linter.unusedVariables false

/-- Those in the way: the others with a lock that is in the way. -/
def inWayI (L : List OpV) (t x kind : Int) : List Int := [0, 1, 2, 3].filter fun u => u != t && (decide (0 ≤ heldI L u x) && (heldI L u x == 1 || kind == 1))
/-- t gives back its locks on the first k items. -/
def dropTo (L : List OpV) (t : Int) : Nat → List OpV
  | 0 => L
  | k + 1 => if 0 ≤ heldI (dropTo L t k) t (k : Int) then dropTo L t k ++ [⟨t, 2, (k : Int)⟩] else dropTo L t k
theorem dropTo_succ (L : List OpV) (t : Int) (k : Nat) : dropTo L t (k + 1) = if 0 ≤ heldI (dropTo L t k) t (k : Int) then dropTo L t k ++ [⟨t, 2, (k : Int)⟩] else dropTo L t k := rfl
def dropL (L : List OpV) (t : Int) : List OpV := dropTo L t 3

structure Dsk where
  done : List OpV
  wait : List OpV
  locks : List OpV
  dead : List Int
def Dsk.zero : Dsk := ⟨[], [], [], []⟩

def killD (d : Dsk) (t : Int) : Dsk := ⟨d.done ++ [⟨t, 3, 0⟩], d.wait.filter fun o => o.tx != t, dropL d.locks t, d.dead ++ [t]⟩
def grantL (L : List OpV) (o : OpV) : List OpV := if isEnd o then dropL L o.tx else if heldI L o.tx o.item < o.kind then L ++ [⟨o.tx, o.kind, o.item⟩] else L
def grantD (d : Dsk) (o : OpV) : Dsk := ⟨d.done ++ [o], d.wait, grantL d.locks o, d.dead⟩
inductive Rul where
  | wait
  | die
  | wound
  deriving DecidableEq
/-- Those in the way of an operation. -/
def wayO (L : List OpV) (o : OpV) : List Int := if isEnd o then [] else inWayI L o.tx o.item o.kind
def waitD (d : Dsk) (o : OpV) : Dsk := ⟨d.done, d.wait ++ [o], d.locks, d.dead⟩
def killsD (d : Dsk) (ts : List Int) : Dsk := ts.foldl killD d
def askD (r : Rul) (d : Dsk) (o : OpV) : Dsk :=
  match r with
  | .wait => if (wayO d.locks o).isEmpty then grantD d o else waitD d o
  | .die => if (wayO d.locks o).isEmpty then grantD d o else if (wayO d.locks o).headD 0 < o.tx then killD d o.tx else waitD d o
  | .wound => if ((wayO d.locks o).filter fun u => !decide (o.tx < u)).isEmpty then grantD (killsD d ((wayO d.locks o).filter fun u => decide (o.tx < u))) o else waitD (killsD d ((wayO d.locks o).filter fun u => decide (o.tx < u))) o
/-- The operation at i is the first of its transaction. -/
def frstB (W : List OpV) (i : Nat) : Bool := match W[i]? with | some o => (W.take i).all fun p => p.tx != o.tx | none => false
def freeB (d : Dsk) (i : Nat) : Bool := match d.wait[i]? with | some o => frstB d.wait i && (wayO d.locks o).isEmpty | none => false
def dieB (d : Dsk) (i : Nat) : Bool := match d.wait[i]? with | some o => frstB d.wait i && decide ((wayO d.locks o).headD 0 < o.tx) | none => false
def woundB (d : Dsk) (i : Nat) : Bool := match d.wait[i]? with | some o => frstB d.wait i && decide (o.tx < (wayO d.locks o).getLastD 0) | none => false
/-- For each transaction those its first waiting operation waits for, as bits. -/
def bitsOf (us : List Int) : Nat := us.foldl (fun a u => a ||| 2 ^ u.toNat) 0
def waitRow (d : Dsk) (t : Int) : Nat := match (opsOf d.wait t).head? with | some o => if isEnd o then 0 else bitsOf (inWayI d.locks t o.item o.kind) | none => 0
def waitsR (d : Dsk) : List Nat := [0, 1, 2, 3].map (waitRow d)
def maxL (c : List Int) : Int := c.foldl max (c.headD 0)
/-- What is done next, if anything. -/
def nextD (r : Rul) (d : Dsk) : Option Dsk :=
  match (List.range d.wait.length).find? (freeB d) with
  | some i => some (grantD ⟨d.done, d.wait.take i ++ d.wait.drop (i + 1), d.locks, d.dead⟩ (d.wait.getD i OpV.zero))
  | none => match r with
    | .die => match (List.range d.wait.length).find? (dieB d) with
      | some i => some (killD d (d.wait.getD i OpV.zero).tx)
      | none => none
    | .wound => match (List.range d.wait.length).find? (woundB d) with
      | some i => some (killD d ((wayO d.locks (d.wait.getD i OpV.zero)).getLastD 0))
      | none => none
    | .wait => if (cycT (waitsR d)).isEmpty then none else some (killD d (maxL (cycT (waitsR d))))
def resumeD (r : Rul) : Nat → Dsk → Dsk
  | 0, d => d
  | f + 1, d => match nextD r d with | some e => resumeD r f e | none => d

/-! the measure -/
def holdB (L : List OpV) (u : Int) : Bool := [0, 1, 2].any fun x => decide (0 ≤ heldI L u x)
def hold (L : List OpV) : List Int := [0, 1, 2, 3].filter (holdB L)
def msr (d : Dsk) : Nat := 2 * d.wait.length + (hold d.locks).length

theorem heldI_free (L : List OpV) (t : Int) (k : Int) (u x : Int) : heldI (L ++ [⟨t, 2, k⟩]) u x = if u = t ∧ x = k then -1 else heldI L u x := by
  rw [heldI_snoc]
  unfold hStep
  by_cases h : t = u ∧ k = x
  · rw [if_pos h, if_pos rfl, if_pos ⟨h.1.symm, h.2.symm⟩]
  · rw [if_neg h, if_neg (fun h' => h ⟨h'.1.symm, h'.2.symm⟩)]
theorem dropTo_held (L : List OpV) (t : Int) (k : Nat) : ∀ u x : Int, ((u ≠ t ∨ x < 0 ∨ (k : Int) ≤ x) → heldI (dropTo L t k) u x = heldI L u x) ∧ (u = t → 0 ≤ x → x < (k : Int) → heldI (dropTo L t k) u x < 0) := by
  induction k with
  | zero => exact fun u x => ⟨fun _ => rfl, fun _ _ _ => by omega⟩
  | succ k ih =>
    intro u x
    obtain ⟨h1, h2⟩ := ih u x
    rw [dropTo_succ]
    by_cases hh : 0 ≤ heldI (dropTo L t k) t (k : Int)
    · rw [if_pos hh, heldI_free]
      constructor
      · intro h
        rw [if_neg (by omega)]
        exact h1 (by omega)
      · intro hu hx hk
        by_cases hxk : x = (k : Int)
        · rw [if_pos ⟨hu, hxk⟩]; omega
        · rw [if_neg (by omega)]
          exact h2 hu hx (by omega)
    · rw [if_neg hh]
      constructor
      · intro h; exact h1 (by omega)
      · intro hu hx hk
        by_cases hxk : x = (k : Int)
        · subst hu; subst hxk; omega
        · exact h2 hu hx (by omega)
theorem dropL_held (L : List OpV) (t u x : Int) : ((u ≠ t ∨ x < 0 ∨ 3 ≤ x) → heldI (dropL L t) u x = heldI L u x) ∧ (u = t → 0 ≤ x → x < 3 → heldI (dropL L t) u x < 0) := dropTo_held L t 3 u x
theorem dropTo_len (L : List OpV) (t : Int) (k : Nat) : L.length ≤ (dropTo L t k).length ∧ (dropTo L t k).length ≤ L.length + k := by
  induction k with
  | zero => exact ⟨Nat.le_refl _, by show L.length ≤ _; omega⟩
  | succ k ih =>
    rw [dropTo_succ]
    split
    · rw [List.length_append, List.length_singleton]; omega
    · omega
theorem dropL_len (L : List OpV) (t : Int) : (dropL L t).length ≤ L.length + 3 := (dropTo_len L t 3).2

theorem holdB_iff {L : List OpV} {u : Int} : holdB L u = true ↔ ∃ x : Int, (x = 0 ∨ x = 1 ∨ x = 2) ∧ 0 ≤ heldI L u x := by
  simp only [holdB, List.any_cons, List.any_nil, Bool.or_eq_true, decide_eq_true_eq]
  constructor
  · rintro (h | h | h | h)
    · exact ⟨0, by omega, h⟩
    · exact ⟨1, by omega, h⟩
    · exact ⟨2, by omega, h⟩
    · cases h
  · rintro ⟨x, rfl | rfl | rfl, h⟩
    · exact .inl h
    · exact .inr (.inl h)
    · exact .inr (.inr (.inl h))
theorem filter_le {l : List Int} {p q : Int → Bool} (h : ∀ u ∈ l, p u = true → q u = true) : (l.filter p).length ≤ (l.filter q).length := by
  rw [← List.countP_eq_length_filter, ← List.countP_eq_length_filter]
  exact List.countP_mono_left h
theorem filter_lt {l : List Int} {p q : Int → Bool} (h : ∀ u ∈ l, p u = true → q u = true) {v : Int} (hv : v ∈ l) (h1 : p v = false) (h2 : q v = true) : (l.filter p).length < (l.filter q).length := by
  induction l with
  | nil => cases hv
  | cons x r ih =>
    have hle := filter_le (l := r) (p := p) (q := q) fun u hu => h u (List.mem_cons_of_mem _ hu)
    rw [List.filter_cons, List.filter_cons]
    rcases List.mem_cons.1 hv with rfl | hv
    · rw [if_neg (by simp [h1]), if_pos h2, List.length_cons]; omega
    · have := ih (fun u hu => h u (List.mem_cons_of_mem _ hu)) hv
      have hx := h x (by simp)
      by_cases hp : p x = true
      · rw [if_pos hp, if_pos (hx hp), List.length_cons, List.length_cons]; omega
      · rw [if_neg hp]
        split
        · rw [List.length_cons]; omega
        · exact this
theorem hold_drop (L : List OpV) (t : Int) : (hold (dropL L t)).length ≤ (hold L).length := by
  refine filter_le fun u _ h => ?_
  rw [holdB_iff] at h ⊢
  obtain ⟨x, hx, h⟩ := h
  refine ⟨x, hx, ?_⟩
  by_cases hu : u = t
  · have := (dropL_held L t u x).2 hu (by omega) (by omega); omega
  · rw [(dropL_held L t u x).1 (.inl hu)] at h; exact h
theorem hold_drop_lt {L : List OpV} {t x : Int} (ht : 0 ≤ t ∧ t ≤ 3) (hx : 0 ≤ x ∧ x ≤ 2) (h : 0 ≤ heldI L t x) : (hold (dropL L t)).length < (hold L).length := by
  refine filter_lt (v := t) (fun u _ h => ?_) ?_ ?_ ?_
  · rw [holdB_iff] at h ⊢
    obtain ⟨x, hx, h⟩ := h
    refine ⟨x, hx, ?_⟩
    by_cases hu : u = t
    · have := (dropL_held L t u x).2 hu (by omega) (by omega); omega
    · rw [(dropL_held L t u x).1 (.inl hu)] at h; exact h
  · rcases (by omega : t = 0 ∨ t = 1 ∨ t = 2 ∨ t = 3) with rfl | rfl | rfl | rfl <;> simp
  · cases hb : holdB (dropL L t) t
    · rfl
    · obtain ⟨y, hy, h2⟩ := holdB_iff.1 hb
      have := (dropL_held L t t y).2 rfl (by omega) (by omega); omega
  · rw [holdB_iff]
    exact ⟨x, by omega, h⟩
theorem hold_snoc (L : List OpV) (s : OpV) : (hold (L ++ [s])).length ≤ (hold L).length + 1 := by
  have key : ∀ l : List Int, l.Nodup → (l.filter (holdB (L ++ [s]))).length ≤ (l.filter (holdB L)).length + 1 ∧ (s.tx ∉ l → (l.filter (holdB (L ++ [s]))).length ≤ (l.filter (holdB L)).length) := by
    intro l
    induction l with
    | nil => exact fun _ => ⟨by simp, fun _ => by simp⟩
    | cons u r ih =>
      intro hd
      rw [List.nodup_cons] at hd
      obtain ⟨h1, h2⟩ := ih hd.2
      have same : u ≠ s.tx → holdB (L ++ [s]) u = holdB L u := fun hu => by
        unfold holdB
        simp only [heldI_snoc]
        have : ∀ x, hStep u x (heldI L u x) s = heldI L u x := fun x => by unfold hStep; rw [if_neg (fun h => hu h.1.symm)]
        simp only [this]
      rw [List.filter_cons, List.filter_cons]
      by_cases hu : u = s.tx
      · have h3 := h2 (by rw [← hu]; exact hd.1)
        refine ⟨?_, fun hm => absurd (by rw [hu]; simp) hm⟩
        split <;> split <;> (try simp only [List.length_cons]) <;> omega
      · rw [same hu]
        refine ⟨?_, fun hm => ?_⟩
        · split <;> (try simp only [List.length_cons]) <;> omega
        · have h3 := h2 (fun h => hm (List.mem_cons_of_mem _ h))
          split <;> (try simp only [List.length_cons]) <;> omega
  exact (key [0, 1, 2, 3] (by decide)).1
theorem hold_grant (L : List OpV) (o : OpV) : (hold (grantL L o)).length ≤ (hold L).length + 1 := by
  unfold grantL
  split
  · have := hold_drop L o.tx; omega
  · split
    · exact hold_snoc L _
    · omega
theorem grantL_len (L : List OpV) (o : OpV) : (grantL L o).length ≤ L.length + 3 := by
  unfold grantL
  split
  · exact dropL_len L o.tx
  · split
    · simp
    · omega

theorem mem_inWay {L : List OpV} {t x k u : Int} : u ∈ inWayI L t x k ↔ (0 ≤ u ∧ u ≤ 3) ∧ u ≠ t ∧ 0 ≤ heldI L u x ∧ (heldI L u x = 1 ∨ k = 1) := by
  unfold inWayI
  rw [List.mem_filter]
  simp only [Bool.and_eq_true, bne_iff_ne, decide_eq_true_eq, Bool.or_eq_true, beq_iff_eq, List.mem_cons, List.not_mem_nil, or_false]
  constructor
  · rintro ⟨h1, h2, h3⟩; exact ⟨by omega, h2, h3⟩
  · rintro ⟨h1, h2, h3⟩; exact ⟨by omega, h2, h3⟩
theorem mem_way {L : List OpV} {o : OpV} {u : Int} : u ∈ wayO L o ↔ isEnd o = false ∧ (0 ≤ u ∧ u ≤ 3) ∧ u ≠ o.tx ∧ 0 ≤ heldI L u o.item ∧ (heldI L u o.item = 1 ∨ o.kind = 1) := by
  unfold wayO
  split
  · rename_i h; simp [h]
  · rename_i h; rw [mem_inWay]; simp [h]
theorem way_len (L : List OpV) (o : OpV) : (wayO L o).length ≤ 4 := by
  unfold wayO
  split
  · simp
  · exact List.length_filter_le _ _

/-! the rows of waiting -/
theorem bitsOf_bit {us : List Int} (h : ∀ u ∈ us, 0 ≤ u ∧ u ≤ 3) (a : Nat) (u : Nat) : ((us.foldl (fun a u => a ||| 2 ^ u.toNat) a).testBit u = true ↔ a.testBit u = true ∨ (u : Int) ∈ us) := by
  induction us generalizing a with
  | nil => simp
  | cons v r ih =>
    rw [List.foldl_cons, ih (fun u hu => h u (List.mem_cons_of_mem _ hu)), Nat.testBit_or, Bool.or_eq_true, Nat.testBit_two_pow]
    have := h v (by simp)
    rw [List.mem_cons, decide_eq_true_eq]
    constructor
    · rintro ((h1 | h1) | h1)
      · exact .inl h1
      · exact .inr (.inl (by omega))
      · exact .inr (.inr h1)
    · rintro (h1 | h1 | h1)
      · exact .inl (.inl h1)
      · exact .inl (.inr (by omega))
      · exact .inr h1
theorem bitsOf_lt {us : List Int} (h : ∀ u ∈ us, 0 ≤ u ∧ u ≤ 3) : ∀ a : Nat, a < 16 → us.foldl (fun a u => a ||| 2 ^ u.toNat) a < 16 := by
  induction us with
  | nil => exact fun a ha => ha
  | cons v r ih =>
    intro a ha
    rw [List.foldl_cons]
    refine ih (fun u hu => h u (List.mem_cons_of_mem _ hu)) _ ?_
    have hv := h v (by simp)
    exact Nat.or_lt_two_pow (n := 4) ha (by rcases (by omega : v = 0 ∨ v = 1 ∨ v = 2 ∨ v = 3) with rfl | rfl | rfl | rfl <;> decide)
theorem inWay_rng {L : List OpV} {t x k : Int} : ∀ u ∈ inWayI L t x k, 0 ≤ u ∧ u ≤ 3 := fun u hu => (mem_inWay.1 hu).1
theorem waitRow_lt (d : Dsk) (t : Int) : waitRow d t < 16 := by
  unfold waitRow
  split
  · split
    · omega
    · exact bitsOf_lt inWay_rng 0 (by omega)
  · omega
theorem waitsR_ok (d : Dsk) : Rows4 (waitsR d) := ⟨rfl, fun r hr => by
  unfold waitsR at hr
  obtain ⟨t, _, rfl⟩ := List.mem_map.1 hr
  exact waitRow_lt d t⟩
theorem waitsR_at (d : Dsk) {t : Nat} (ht : t < 4) : (waitsR d).getD t 0 = waitRow d (t : Int) := by
  rcases (by omega : t = 0 ∨ t = 1 ∨ t = 2 ∨ t = 3) with rfl | rfl | rfl | rfl <;> rfl
theorem waitRow_bit {d : Dsk} {t : Int} {u : Nat} : (waitRow d t).testBit u = true ↔ ∃ o, (opsOf d.wait t).head? = some o ∧ isEnd o = false ∧ (u : Int) ∈ inWayI d.locks t o.item o.kind := by
  unfold waitRow
  split
  · rename_i o ho
    split
    · rename_i he
      rw [ho]
      simp [he]
    · rename_i he
      unfold bitsOf
      rw [bitsOf_bit inWay_rng, ho]
      simp [he]
  · rename_i ho
    rw [ho]
    simp
theorem waits_diag (d : Dsk) : ∀ t : Int, 0 ≤ t → edgeB (waitsR d) t t = false := by
  intro t ht
  obtain ⟨T, rfl⟩ := Int.eq_ofNat_of_zero_le ht
  cases h : edgeB (waitsR d) (T : Int) (T : Int)
  · rfl
  · exfalso
    unfold edgeB at h
    rw [Int.toNat_natCast] at h
    by_cases h4 : T < 4
    · rw [waitsR_at d h4, waitRow_bit] at h
      obtain ⟨o, _, _, h⟩ := h
      exact (mem_inWay.1 h).2.1 rfl
    · have : (waitsR d).getD T 0 = 0 := by
        rw [List.getD_eq_getElem?_getD, List.getElem?_eq_none (by rw [(waitsR_ok d).1]; omega)]; rfl
      rw [this] at h
      simp at h
theorem maxL_mem {c : List Int} (h : c ≠ []) : maxL c ∈ c := by
  have : ∀ (l : List Int) (a : Int), l.foldl max a = a ∨ l.foldl max a ∈ l := by
    intro l
    induction l with
    | nil => exact fun a => .inl rfl
    | cons x r ih =>
      intro a
      rw [List.foldl_cons]
      rcases ih (max a x) with h | h
      · rw [h]
        rcases (by omega : max a x = a ∨ max a x = x) with e | e
        · exact .inl e
        · exact .inr (by rw [e]; simp)
      · exact .inr (List.mem_cons_of_mem _ h)
  unfold maxL
  rcases this c (c.headD 0) with e | e
  · rw [e]
    cases c with
    | nil => exact absurd rfl h
    | cons x r => simp
  · exact e
/-- Each of a circle waits. -/
theorem cyc_waits {d : Dsk} (h : cycT (waitsR d) ≠ []) {t : Int} (ht : t ∈ cycT (waitsR d)) : (0 ≤ t ∧ t ≤ 3) ∧ ∃ o ∈ d.wait, o.tx = t := by
  obtain ⟨i, hi⟩ := List.mem_iff_getElem?.1 ht
  have hil := (List.getElem?_eq_some_iff.1 hi).1
  obtain ⟨_, h1, _, _, h2, h3⟩ := cyc_at (waitsR_ok d) (waits_diag d) h hil
  have e : (cycT (waitsR d)).getD i 0 = t := by rw [List.getD_eq_getElem?_getD, hi]; rfl
  rw [e] at h1 h2 h3
  refine ⟨⟨h2, h3⟩, ?_⟩
  unfold edgeB at h1
  obtain ⟨T, rfl⟩ := Int.eq_ofNat_of_zero_le h2
  rw [Int.toNat_natCast, waitsR_at d (by omega), waitRow_bit] at h1
  obtain ⟨o, ho, _⟩ := h1
  have := List.mem_of_head? ho
  unfold opsOf at this
  rw [List.mem_filter] at this
  exact ⟨o, this.1, by simpa using this.2⟩
theorem filter_ne_lt {W : List OpV} {t : Int} (h : ∃ o ∈ W, o.tx = t) : (W.filter fun o => o.tx != t).length < W.length := by
  obtain ⟨o, ho, rfl⟩ := h
  rcases Nat.lt_or_ge (W.filter fun p => p.tx != o.tx).length W.length with h | h
  · exact h
  · exfalso
    have h1 := List.length_filter_le (fun p : OpV => p.tx != o.tx) W
    have h2 := List.length_filter_eq_length_iff.1 (Nat.le_antisymm h1 h) o ho
    simp at h2
theorem msr_kill_wait {d : Dsk} {t : Int} (h : ∃ o ∈ d.wait, o.tx = t) : msr (killD d t) < msr d := by
  have h1 := filter_ne_lt h
  have h2 := hold_drop d.locks t
  unfold msr killD
  simp only
  omega
theorem msr_kill_held {d : Dsk} {t x : Int} (ht : 0 ≤ t ∧ t ≤ 3) (hx : 0 ≤ x ∧ x ≤ 2) (h : 0 ≤ heldI d.locks t x) : msr (killD d t) < msr d := by
  have h1 := List.length_filter_le (fun p : OpV => p.tx != t) d.wait
  have h2 := hold_drop_lt ht hx h
  unfold msr killD
  simp only
  omega
theorem msr_kill (d : Dsk) (t : Int) : msr (killD d t) ≤ msr d := by
  have h1 := List.length_filter_le (fun p : OpV => p.tx != t) d.wait
  have h2 := hold_drop d.locks t
  unfold msr killD
  simp only
  omega
theorem getD_at {W : List OpV} {i : Nat} {o : OpV} (h : W[i]? = some o) : W.getD i OpV.zero = o := by rw [List.getD_eq_getElem?_getD, h]; rfl
theorem cut_len {W : List OpV} {i : Nat} (h : i < W.length) : (W.take i ++ W.drop (i + 1)).length + 1 = W.length := by
  rw [List.length_append, List.length_take, List.length_drop]; omega
/-- What may come next. -/
theorem nextD_cases {r : Rul} {d e : Dsk} (h : nextD r d = some e) :
    (∃ (i : Nat) (o : OpV), d.wait[i]? = some o ∧ freeB d i = true ∧ (∀ j, j < i → freeB d j = false) ∧ e = grantD ⟨d.done, d.wait.take i ++ d.wait.drop (i + 1), d.locks, d.dead⟩ o) ∨
    ((∀ j, j < d.wait.length → freeB d j = false) ∧ ∃ t : Int, e = killD d t ∧
      ((r = .die ∧ ∃ (i : Nat) (o : OpV), d.wait[i]? = some o ∧ dieB d i = true ∧ (∀ j, j < i → dieB d j = false) ∧ t = o.tx) ∨
       (r = .wound ∧ ∃ (i : Nat) (o : OpV), d.wait[i]? = some o ∧ woundB d i = true ∧ (∀ j, j < i → woundB d j = false) ∧ t = (wayO d.locks o).getLastD 0) ∨
       (r = .wait ∧ cycT (waitsR d) ≠ [] ∧ t = maxL (cycT (waitsR d))))) := by
  have pick : ∀ (p : Nat → Bool) (i : Nat), (List.range d.wait.length).find? p = some i → i < d.wait.length ∧ p i = true ∧ ∀ j, j < i → p j = false := by
    intro p i hf
    rw [List.find?_range_eq_some] at hf
    obtain ⟨h1, h2, h3⟩ := hf
    exact ⟨by simpa using h2, h1, fun j hj => by have := h3 j hj; simpa using this⟩
  cases hf : (List.range d.wait.length).find? (freeB d) with
  | some i =>
    obtain ⟨h1, h2, h3⟩ := pick _ _ hf
    have e1 : d.wait[i]? = some (d.wait[i]'h1) := List.getElem?_eq_getElem h1
    simp only [nextD, hf] at h
    rw [getD_at e1] at h
    injection h with h
    exact .inl ⟨i, _, e1, h2, h3, h.symm⟩
  | none =>
    have hno : ∀ j, j < d.wait.length → freeB d j = false := fun j hj => by
      have := List.find?_eq_none.1 hf j (List.mem_range.2 hj); simpa using this
    refine .inr ⟨hno, ?_⟩
    cases r with
    | die =>
      cases hg : (List.range d.wait.length).find? (dieB d) with
      | none => simp only [nextD, hf, hg] at h; cases h
      | some i =>
        obtain ⟨h1, h2, h3⟩ := pick _ _ hg
        have e1 : d.wait[i]? = some (d.wait[i]'h1) := List.getElem?_eq_getElem h1
        simp only [nextD, hf, hg] at h
        rw [getD_at e1] at h
        injection h with h
        exact ⟨_, h.symm, .inl ⟨rfl, i, _, e1, h2, h3, rfl⟩⟩
    | wound =>
      cases hg : (List.range d.wait.length).find? (woundB d) with
      | none => simp only [nextD, hf, hg] at h; cases h
      | some i =>
        obtain ⟨h1, h2, h3⟩ := pick _ _ hg
        have e1 : d.wait[i]? = some (d.wait[i]'h1) := List.getElem?_eq_getElem h1
        simp only [nextD, hf, hg] at h
        rw [getD_at e1] at h
        injection h with h
        exact ⟨_, h.symm, .inr (.inl ⟨rfl, i, _, e1, h2, h3, rfl⟩)⟩
    | wait =>
      simp only [nextD, hf] at h
      by_cases hc : (cycT (waitsR d)).isEmpty = true
      · rw [if_pos hc] at h; cases h
      · rw [if_neg hc] at h
        injection h with h
        exact ⟨_, h.symm, .inr (.inr ⟨rfl, fun e => hc (by rw [e]; rfl), rfl⟩)⟩
/-- The items of accesses that wait are items. -/
def ItemsOk (W : List OpV) : Prop := ∀ o ∈ W, isEnd o = true ∨ (0 ≤ o.item ∧ o.item ≤ 2)
theorem last_mem {l : List Int} (h : l ≠ []) : l.getLastD 0 ∈ l := by
  cases l with
  | nil => exact absurd rfl h
  | cons x r => rw [List.getLastD_cons]; exact List.getLastD_mem_cons
theorem way_ne {d : Dsk} {i : Nat} {o : OpV} (hi : d.wait[i]? = some o) (hf : frstB d.wait i = true) (hn : freeB d i = false) : wayO d.locks o ≠ [] := by
  intro e
  unfold freeB at hn
  rw [hi] at hn
  simp only at hn
  rw [hf, e] at hn
  cases hn
theorem next_less {r : Rul} {d e : Dsk} (hx : r = .wound → ItemsOk d.wait) (h : nextD r d = some e) : msr e < msr d := by
  rcases nextD_cases h with ⟨i, o, hi, _, _, rfl⟩ | ⟨hno, t, rfl, hh⟩
  · have h1 := cut_len (List.getElem?_eq_some_iff.1 hi).1
    have h2 := hold_grant d.locks o
    unfold msr grantD
    simp only
    omega
  · rcases hh with ⟨rfl, i, o, hi, h1, h2, rfl⟩ | ⟨rfl, i, o, hi, h1, h2, rfl⟩ | ⟨rfl, hc, rfl⟩
    · exact msr_kill_wait ⟨o, List.mem_of_getElem? hi, rfl⟩
    · have hil := (List.getElem?_eq_some_iff.1 hi).1
      unfold woundB at h1
      rw [hi] at h1
      simp only [Bool.and_eq_true, decide_eq_true_eq] at h1
      have hw := way_ne hi h1.1 (hno i hil)
      have hm := mem_way.1 (last_mem hw)
      have hit := hx rfl o (List.mem_of_getElem? hi)
      rw [hm.1] at hit
      exact msr_kill_held hm.2.1 (hit.resolve_left (by simp)) hm.2.2.2.1
    · exact msr_kill_wait (cyc_waits hc (maxL_mem hc)).2
theorem next_items {r : Rul} {d e : Dsk} (h : nextD r d = some e) (hx : ItemsOk d.wait) : ItemsOk e.wait := by
  rcases nextD_cases h with ⟨i, o, hi, _, _, rfl⟩ | ⟨hno, t, rfl, hh⟩
  · intro p hp
    rcases List.mem_append.1 hp with hp | hp
    · exact hx p (List.mem_of_mem_take hp)
    · exact hx p (List.mem_of_mem_drop hp)
  · intro p hp
    exact hx p (List.mem_filter.1 hp).1

/-! how long the lists grow -/
structure Bnd (d : Dsk) (N : Nat) : Prop where
  done : d.done.length + msr d ≤ N
  locks : d.locks.length ≤ 3 * d.done.length
  dead : d.dead.length ≤ d.done.length
theorem Bnd.wait {d : Dsk} {N : Nat} (h : Bnd d N) : 2 * d.wait.length ≤ N := by have := h.done; unfold msr at this; omega
theorem Bnd.mono {d : Dsk} {N M : Nat} (h : Bnd d N) (hm : N ≤ M) : Bnd d M := ⟨Nat.le_trans h.done hm, h.locks, h.dead⟩
theorem Bnd.kill {d : Dsk} {N : Nat} (h : Bnd d N) (t : Int) : Bnd (killD d t) (N + 1) := by
  have h1 := msr_kill d t
  have h2 := dropL_len d.locks t
  obtain ⟨a, b, c⟩ := h
  refine ⟨?_, ?_, ?_⟩ <;> simp only [killD, List.length_append, List.length_singleton] at * <;> omega
theorem Bnd.kills {d : Dsk} (ts : List Int) : ∀ {N : Nat} {d : Dsk}, Bnd d N → Bnd (killsD d ts) (N + ts.length) := by
  induction ts with
  | nil => exact fun h => h
  | cons t r ih =>
    intro N d h
    have := ih (h.kill t)
    refine Bnd.mono this ?_
    rw [List.length_cons]; omega
theorem Bnd.grant {d : Dsk} {N : Nat} (h : Bnd d N) (o : OpV) : Bnd (grantD d o) (N + 2) := by
  have h1 := hold_grant d.locks o
  have h2 := grantL_len d.locks o
  obtain ⟨a, b, c⟩ := h
  refine ⟨?_, ?_, ?_⟩ <;> simp only [grantD, msr, List.length_append, List.length_singleton] at * <;> omega
theorem Bnd.waits {d : Dsk} {N : Nat} (h : Bnd d N) (o : OpV) : Bnd (waitD d o) (N + 2) := by
  obtain ⟨a, b, c⟩ := h
  refine ⟨?_, ?_, ?_⟩ <;> simp only [waitD, msr, List.length_append, List.length_singleton] at * <;> omega
theorem Bnd.ask {d : Dsk} {N : Nat} (h : Bnd d N) (r : Rul) (o : OpV) : Bnd (askD r d o) (N + 6) := by
  unfold askD
  split
  · split
    · exact (h.grant o).mono (by omega)
    · exact (h.waits o).mono (by omega)
  · split
    · exact (h.grant o).mono (by omega)
    · split
      · exact (h.kill _).mono (by omega)
      · exact (h.waits o).mono (by omega)
  · have hl : ((wayO d.locks o).filter fun u => decide (o.tx < u)).length ≤ 4 := Nat.le_trans (List.length_filter_le _ _) (way_len d.locks o)
    have hk := Bnd.kills (d := d) ((wayO d.locks o).filter fun u => decide (o.tx < u)) h
    split
    · exact (hk.grant o).mono (by omega)
    · exact (hk.waits o).mono (by omega)
theorem Bnd.next {r : Rul} {d e : Dsk} {N : Nat} (hx : r = .wound → ItemsOk d.wait) (h : Bnd d N) (hn : nextD r d = some e) : Bnd e N := by
  have hlt := next_less hx hn
  obtain ⟨a, b, c⟩ := h
  rcases nextD_cases hn with ⟨i, o, hi, _, _, rfl⟩ | ⟨_, t, rfl, _⟩
  · have h2 := grantL_len d.locks o
    refine ⟨?_, ?_, ?_⟩ <;> simp only [grantD, List.length_append, List.length_singleton] at * <;> omega
  · have h2 := dropL_len d.locks t
    refine ⟨?_, ?_, ?_⟩ <;> simp only [killD, List.length_append, List.length_singleton] at * <;> omega
theorem resume_none {r : Rul} {f : Nat} {d : Dsk} (h : nextD r d = none) : resumeD r f d = d := by
  cases f with
  | zero => rfl
  | succ f => simp only [resumeD, h]
theorem resume_some {r : Rul} {f : Nat} {d e : Dsk} (h : nextD r d = some e) : resumeD r (f + 1) d = resumeD r f e := by simp only [resumeD, h]
/-- Fuel beyond the measure is not used. -/
theorem resume_fuel {r : Rul} : ∀ (f : Nat) (d : Dsk), (r = .wound → ItemsOk d.wait) → msr d ≤ f → resumeD r f d = resumeD r (msr d) d ∧ nextD r (resumeD r f d) = none ∧ (ItemsOk d.wait → ItemsOk (resumeD r f d).wait) ∧ (∀ N, Bnd d N → Bnd (resumeD r f d) N) := by
  intro f
  induction f with
  | zero =>
    intro d hx hm
    have h0 : msr d = 0 := by omega
    refine ⟨by rw [h0], ?_, fun h => h, fun N h => h⟩
    cases hn : nextD r d with
    | none => exact hn
    | some e => have := next_less hx hn; omega
  | succ f ih =>
    intro d hx hm
    cases hn : nextD r d with
    | none => rw [resume_none hn, resume_none hn]; exact ⟨rfl, hn, fun h => h, fun N h => h⟩
    | some e =>
      have hlt := next_less hx hn
      have hx2 : r = .wound → ItemsOk e.wait := fun h => next_items hn (hx h)
      obtain ⟨h1, h2, h3, h4⟩ := ih e hx2 (by omega)
      rw [resume_some hn]
      refine ⟨?_, h2, fun h => h3 (next_items hn h), fun N h => h4 N (h.next hx hn)⟩
      obtain ⟨m, hmm⟩ : ∃ m, msr d = m + 1 := ⟨msr d - 1, by omega⟩
      rw [hmm, resume_some hn, h1]
      by_cases hmf : m = f
      · subst hmf; exact h1.symm
      · -- the same with less fuel
        have : ∀ (a b : Nat) (d : Dsk), (r = .wound → ItemsOk d.wait) → msr d ≤ a → a ≤ b → resumeD r b d = resumeD r a d := by
          intro a
          induction a with
          | zero =>
            intro b d hx hm _
            have hd : nextD r d = none := by
              cases hn : nextD r d with
              | none => rfl
              | some e => have := next_less hx hn; omega
            rw [resume_none hd, resume_none hd]
          | succ a iha =>
            intro b d hx hm hab
            obtain ⟨b, rfl⟩ : ∃ c, b = c + 1 := ⟨b - 1, by omega⟩
            cases hn : nextD r d with
            | none => rw [resume_none hn, resume_none hn]
            | some e =>
              have := next_less hx hn
              rw [resume_some hn, resume_some hn]
              exact iha b e (fun h => next_items hn (hx h)) (by omega) (by omega)
        exact (this (msr e) m e hx2 (Nat.le_refl _) (by omega)).symm
def settleD (r : Rul) (d : Dsk) : Dsk := resumeD r (msr d) d
theorem settle_none {r : Rul} {d : Dsk} (h : nextD r d = none) : settleD r d = d := resume_none h
theorem settle_some {r : Rul} {d e : Dsk} (hx : r = .wound → ItemsOk d.wait) (h : nextD r d = some e) : settleD r d = settleD r e := by
  have hlt := next_less hx h
  unfold settleD
  obtain ⟨m, hmm⟩ : ∃ m, msr d = m + 1 := ⟨msr d - 1, by omega⟩
  rw [hmm, resume_some h]
  exact (resume_fuel m e (fun h' => next_items h (hx h')) (by omega)).1
/-- The whole run. -/
def runStep (r : Rul) (d : Dsk) (o : OpV) : Dsk :=
  if d.dead.any fun y => y == o.tx then d else if (opsOf d.wait o.tx).isEmpty then settleD r (askD r d o) else waitD d o
def runD (r : Rul) (s : List OpV) : Dsk := s.foldl (runStep r) Dsk.zero
theorem runD_succ {r : Rul} {s : List OpV} {k : Nat} {o : OpV} (h : s[k]? = some o) : runD r (s.take (k + 1)) = runStep r (runD r (s.take k)) o := by
  unfold runD
  rw [take_snoc h, List.foldl_append, List.foldl_cons, List.foldl_nil]
theorem items_ask {r : Rul} {d : Dsk} {o : OpV} (h : ItemsOk d.wait) (ho : isEnd o = true ∨ (0 ≤ o.item ∧ o.item ≤ 2)) : ItemsOk (askD r d o).wait := by
  have hk : ∀ (ts : List Int) (d : Dsk), ItemsOk d.wait → ItemsOk (killsD d ts).wait := by
    intro ts
    induction ts with
    | nil => exact fun d h => h
    | cons t r ih => exact fun d h => ih _ fun p hp => h p (List.mem_filter.1 hp).1
  have hw : ∀ d : Dsk, ItemsOk d.wait → ItemsOk (waitD d o).wait := fun d h p hp => by
    rcases List.mem_append.1 hp with hp | hp
    · exact h p hp
    · rw [List.mem_singleton] at hp; subst hp; exact ho
  unfold askD
  split
  · split
    · exact h
    · exact hw d h
  · split
    · exact h
    · split
      · exact fun p hp => h p (List.mem_filter.1 hp).1
      · exact hw d h
  · split
    · exact hk _ d h
    · exact hw _ (hk _ d h)
theorem runStep_facts {r : Rul} {d : Dsk} {o : OpV} {N : Nat} (hb : Bnd d N) (hi : r = .wound → ItemsOk d.wait) (ho : r = .wound → isEnd o = true ∨ (0 ≤ o.item ∧ o.item ≤ 2)) : Bnd (runStep r d o) (N + 6) ∧ (r = .wound → ItemsOk (runStep r d o).wait) := by
  unfold runStep
  split
  · exact ⟨hb.mono (by omega), hi⟩
  · split
    · have h1 : r = .wound → ItemsOk (askD r d o).wait := fun h => items_ask (hi h) (ho h)
      obtain ⟨_, _, h3, h4⟩ := resume_fuel (r := r) _ (askD r d o) h1 (Nat.le_refl _)
      exact ⟨h4 _ (hb.ask r o), fun h => h3 (h1 h)⟩
    · refine ⟨(hb.waits o).mono (by omega), fun h p hp => ?_⟩
      rcases List.mem_append.1 hp with hp | hp
      · exact hi h p hp
      · rw [List.mem_singleton] at hp; subst hp; exact ho h
theorem runD_facts {r : Rul} {s : List OpV} (hs : r = .wound → ItemsOk s) (k : Nat) : Bnd (runD r (s.take k)) (6 * k) ∧ (r = .wound → ItemsOk (runD r (s.take k)).wait) := by
  induction k with
  | zero =>
    have e : runD r (s.take 0) = Dsk.zero := rfl
    rw [e]
    exact ⟨⟨by decide, by decide, by decide⟩, fun _ o ho => by cases ho⟩
  | succ k ih =>
    cases e : s[k]? with
    | none =>
      have hl : s.length ≤ k := by
        rcases Nat.lt_or_ge k s.length with h | h
        · rw [List.getElem?_eq_getElem h] at e; cases e
        · exact h
      rw [List.take_of_length_le (by omega)]
      rw [List.take_of_length_le (by omega)] at ih
      exact ⟨ih.1.mono (by omega), ih.2⟩
    | some o =>
      rw [runD_succ e]
      have := runStep_facts (r := r) ih.1 ih.2 (fun h => hs h o (List.mem_of_getElem? e))
      exact ⟨this.1.mono (by omega), this.2⟩
end Go.Proofs.Ytncebpmckbcabaa
