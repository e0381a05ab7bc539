/-
  Texts of operations and of schedules, as lists of bytes. Plain.
-/
import Derived.Test.YtddkjbibjjehjaaDoorValid
import Derived.Test.YtddkjbibjjehjaaDoorStP0
import Derived.Lib.Join
import Derived.Lib.IndexLaws
namespace Go.Proofs.YtddkjbibjjehjaaDoor
open Go.RowKit
set_option linter.unusedVariables false

def kcs : List UInt8 := [114, 119, 99, 97]
def tcs : List UInt8 := [48, 49, 50, 51]
def xcs : List UInt8 := [120, 121, 122]
def opL (o : OpV) : List UInt8 := [kcs.getD o.kind.toNat 0, tcs.getD o.tx.toNat 0] ++ (if isAcc o then [xcs.getD o.item.toNat 0] else [])
def badOp : OpV := ⟨-1, 0, 0⟩
/-- The operation of a text, as the reference reads it. -/
def rdL : List UInt8 → OpV
  | k :: t :: r =>
    if t < 48 || 57 < t then badOp
    else if k == 114 || k == 119 then (match r with | [x] => if x < 120 || 122 < x then badOp else ⟨(t.toNat : Int) - 48, if k == 114 then 0 else 1, (x.toNat : Int) - 120⟩ | _ => badOp)
    else if k == 99 || k == 97 then (match r with | [] => ⟨(t.toNat : Int) - 48, if k == 99 then 2 else 3, 0⟩ | _ => badOp)
    else badOp
  | _ => badOp
theorem bad_not : validOp badOp = false := by decide
theorem op_cases {o : OpV} (h : validOp o = true) : (∃ k t x : Nat, k < 2 ∧ t < 4 ∧ x < 3 ∧ o = ⟨t, k, x⟩) ∨ (∃ k t : Nat, (k = 2 ∨ k = 3) ∧ t < 4 ∧ o = ⟨t, k, 0⟩) := by
  obtain ⟨t, k, x⟩ := o
  unfold validOp inR at h
  simp only [Bool.and_eq_true, Bool.or_eq_true, decide_eq_true_eq, isAcc, isEnd, beq_iff_eq] at h
  obtain ⟨ht, hk⟩ := h
  rcases hk with ⟨hk, hx⟩ | ⟨hk, hx⟩
  · exact .inl ⟨k.toNat, t.toNat, x.toNat, by omega, by omega, by omega, by congr 1 <;> omega⟩
  · exact .inr ⟨k.toNat, t.toNat, by omega, by omega, by subst hx; congr 1 <;> omega⟩
theorem op_all {p : OpV → Prop} (h1 : ∀ k, k < 2 → ∀ t, t < 4 → ∀ x, x < 3 → p ⟨(t : Nat), (k : Nat), (x : Nat)⟩) (h2 : ∀ k, k < 4 → 2 ≤ k → ∀ t, t < 4 → p ⟨(t : Nat), (k : Nat), 0⟩) {o : OpV} (h : validOp o = true) : p o := by
  rcases op_cases h with ⟨k, t, x, hk, ht, hx, rfl⟩ | ⟨k, t, hk, ht, rfl⟩
  · exact h1 k hk t ht x hx
  · exact h2 k (by omega) (by omega) t ht
theorem rd_op {o : OpV} (h : validOp o = true) : rdL (opL o) = o := op_all (p := fun o => rdL (opL o) = o) (by decide) (by decide) h
theorem op_comma {o : OpV} (h : validOp o = true) : (44 : UInt8) ∉ opL o := op_all (p := fun o => (44 : UInt8) ∉ opL o) (by decide) (by decide) h
theorem u8_cases {x : UInt8} {a b : Nat} (h1 : a ≤ x.toNat) (h2 : x.toNat ≤ b) (p : UInt8 → Prop) (h : ∀ n, n < 256 → a ≤ n → n ≤ b → p (UInt8.ofNat n)) : p x := by
  have := h x.toNat (by have := x.toNat_lt; omega) h1 h2
  rwa [UInt8.ofNat_toNat] at this
theorem op_rd {l : List UInt8} (h : validOp (rdL l) = true) : opL (rdL l) = l := by
  match l with
  | [] => exact absurd h (by decide)
  | [_] => exact absurd h (by simp [rdL, bad_not])
  | k :: t :: r =>
    dsimp only [rdL] at h ⊢
    by_cases ht : (t < 48 || 57 < t) = true
    · rw [if_pos ht, bad_not] at h; cases h
    · rw [if_neg ht] at h ⊢
      have ht2 : 48 ≤ t.toNat ∧ t.toNat ≤ 57 := by
        simp only [Bool.or_eq_true, decide_eq_true_eq, not_or, UInt8.lt_iff_toNat_lt] at ht
        have e1 : (48 : UInt8).toNat = 48 := rfl
        have e2 : (57 : UInt8).toNat = 57 := rfl
        omega
      by_cases hk : (k == 114 || k == 119) = true
      · rw [if_pos hk] at h ⊢
        match r with
        | [] => rw [bad_not] at h; cases h
        | _ :: _ :: _ => rw [bad_not] at h; cases h
        | [x] =>
          simp only at h ⊢
          by_cases hx : (x < 120 || 122 < x) = true
          · rw [if_pos hx, bad_not] at h; cases h
          · rw [if_neg hx] at h ⊢
            have hx2 : 120 ≤ x.toNat ∧ x.toNat ≤ 122 := by
              simp only [Bool.or_eq_true, decide_eq_true_eq, not_or, UInt8.lt_iff_toNat_lt] at hx
              have e1 : (120 : UInt8).toNat = 120 := rfl
              have e2 : (122 : UInt8).toNat = 122 := rfl
              omega
            have ht3 : t.toNat ≤ 51 := by
              unfold validOp inR at h
              simp only [Bool.and_eq_true, decide_eq_true_eq] at h
              omega
            simp only [Bool.or_eq_true, beq_iff_eq] at hk
            refine u8_cases hx2.1 hx2.2 (fun x => opL ⟨(t.toNat : Int) - 48, if (k == 114) = true then 0 else 1, (x.toNat : Int) - 120⟩ = [k, t, x]) fun n hn h1 h2 => ?_
            refine u8_cases ht2.1 ht3 (fun t => opL ⟨(t.toNat : Int) - 48, if (k == 114) = true then 0 else 1, ((UInt8.ofNat n).toNat : Int) - 120⟩ = [k, t, UInt8.ofNat n]) fun m hm h3 h4 => ?_
            rcases hk with rfl | rfl <;> rcases (by omega : n = 120 ∨ n = 121 ∨ n = 122) with rfl | rfl | rfl <;> rcases (by omega : m = 48 ∨ m = 49 ∨ m = 50 ∨ m = 51) with rfl | rfl | rfl | rfl <;> rfl
      · rw [if_neg hk] at h ⊢
        by_cases hk2 : (k == 99 || k == 97) = true
        · rw [if_pos hk2] at h ⊢
          match r with
          | _ :: _ => rw [bad_not] at h; cases h
          | [] =>
            simp only at h ⊢
            have ht3 : t.toNat ≤ 51 := by
              unfold validOp inR at h
              simp only [Bool.and_eq_true, decide_eq_true_eq] at h
              omega
            simp only [Bool.or_eq_true, beq_iff_eq] at hk2
            refine u8_cases ht2.1 ht3 (fun t => opL ⟨(t.toNat : Int) - 48, if (k == 99) = true then 2 else 3, 0⟩ = [k, t]) fun m hm h3 h4 => ?_
            rcases hk2 with rfl | rfl <;> rcases (by omega : m = 48 ∨ m = 49 ∨ m = 50 ∨ m = 51) with rfl | rfl | rfl | rfl <;> rfl
        · rw [if_neg hk2, bad_not] at h; cases h
/-- The operation of a text, as the program reads it. -/
def rdI (l : List UInt8) : OpV := ⟨Lib.indexByte tcs (l.getD 1 0), Lib.indexByte kcs (l.getD 0 0), if l.length = 3 then Lib.indexByte xcs (l.getD 2 0) else 0⟩
def okI (l : List UInt8) : Bool := decide (2 ≤ l.length) && decide (l.length ≤ 3) && validOp (rdI l) && opL (rdI l) == l
theorem rdI_op {o : OpV} (h : validOp o = true) : rdI (opL o) = o := op_all (p := fun o => rdI (opL o) = o) (by decide) (by decide) h
theorem opL_len {o : OpV} : 2 ≤ (opL o).length ∧ (opL o).length ≤ 3 := by
  unfold opL
  split <;> simp
theorem okI_eq (l : List UInt8) : okI l = validOp (rdL l) := by
  rw [Bool.eq_iff_iff]
  constructor
  · intro h
    unfold okI at h
    simp only [Bool.and_eq_true, beq_iff_eq] at h
    rw [← h.2, rd_op h.1.2]
    exact h.1.2
  · intro h
    have e := op_rd h
    have e2 : rdI l = rdL l := by
      have := rdI_op h
      rw [e] at this
      exact this
    unfold okI
    have hl := opL_len (o := rdL l)
    rw [e] at hl
    rw [e2, h, e]
    simp [hl]
theorem okI_rd {l : List UInt8} (h : okI l = true) : rdI l = rdL l := by
  unfold okI at h
  simp only [Bool.and_eq_true, beq_iff_eq] at h
  have := rd_op h.1.2
  rw [h.2] at this
  exact this.symm
/-- The pieces between bytes of a kind. -/
def splc (d : UInt8) : List UInt8 → List (List UInt8)
  | [] => [[]]
  | c :: r => if c == d then [] :: splc d r else match splc d r with | [] => [[c]] | h :: t => (c :: h) :: t
abbrev spl (l : List UInt8) : List (List UInt8) := splc 44 l
theorem splc_ne (d : UInt8) (l : List UInt8) : splc d l ≠ [] := by
  cases l with
  | nil => simp [splc]
  | cons c r =>
    simp only [splc]
    split
    · simp
    · split <;> simp
theorem splc_cut {d : UInt8} {p : List UInt8} (h : d ∉ p) (r : List UInt8) : splc d (p ++ d :: r) = p :: splc d r := by
  induction p with
  | nil => simp [splc]
  | cons c p ih =>
    have hc : (c == d) = false := by
      rw [beq_eq_false_iff_ne]; intro e; exact h (by rw [e]; simp)
    have ih := ih (fun hh => h (List.mem_cons_of_mem _ hh))
    simp only [List.cons_append, splc]
    rw [ih, hc]
    rfl
theorem splc_one {d : UInt8} {p : List UInt8} (h : d ∉ p) : splc d p = [p] := by
  induction p with
  | nil => rfl
  | cons c p ih =>
    have hc : (c == d) = false := by
      rw [beq_eq_false_iff_ne]; intro e; exact h (by rw [e]; simp)
    have ih := ih (fun hh => h (List.mem_cons_of_mem _ hh))
    simp only [splc]
    rw [ih, hc]
    rfl
theorem spl_join : ∀ {ps : List (List UInt8)}, ps ≠ [] → (∀ p ∈ ps, (44 : UInt8) ∉ p) → spl (Lib.join ps [44]) = ps := by
  intro ps
  induction ps with
  | nil => intro h; exact absurd rfl h
  | cons p r ih =>
    intro _ h
    cases r with
    | nil => rw [Lib.join_one]; exact splc_one (h p (by simp))
    | cons q r =>
      have ih := ih (by simp) (fun x hx => h x (List.mem_cons_of_mem _ hx))
      rw [Lib.join_cons] at ih
      have e : Lib.join (p :: q :: r) [44] = p ++ 44 :: (q ++ Lib.joinTail [44] r) := by
        rw [Lib.join_cons]
        simp [Lib.joinTail]
      rw [e]
      show splc 44 _ = _
      rw [splc_cut (h p (by simp))]
      exact congrArg (List.cons p) ih
theorem join_spl (l : List UInt8) : Lib.join (spl l) [44] = l := by
  induction l with
  | nil => rfl
  | cons c r ih =>
    simp only [spl, splc] at ih ⊢
    split
    · rename_i hc
      obtain rfl : c = 44 := by simpa using hc
      obtain ⟨h, t, e⟩ : ∃ h t, splc 44 r = h :: t := by
        cases e : splc 44 r with
        | nil => exact absurd e (splc_ne 44 r)
        | cons h t => exact ⟨h, t, rfl⟩
      rw [e] at ih ⊢
      rw [Lib.join_cons] at ih ⊢
      rw [← ih]
      simp [Lib.joinTail]
    · cases e : splc 44 r with
      | nil => exact absurd e (splc_ne 44 r)
      | cons h t =>
        rw [e] at ih
        simp only
        rw [Lib.join_cons] at ih ⊢
        rw [← ih]; rfl
theorem splc_len (d : UInt8) : ∀ l : List UInt8, (splc d l).length ≤ l.length + 1 := by
  intro l
  induction l with
  | nil => simp [splc]
  | cons c r ih =>
    simp only [splc]
    split
    · simp only [List.length_cons]; omega
    · cases e : splc d r with
      | nil => simp
      | cons h t => rw [e] at ih; simp only [List.length_cons] at ih ⊢; omega
/-- No piece is longer than the text. -/
theorem splc_size (d : UInt8) : ∀ l : List UInt8, ∀ p ∈ splc d l, p.length ≤ l.length := by
  intro l
  induction l with
  | nil => intro p hp; simp [splc] at hp; subst hp; simp
  | cons c r ih =>
    intro p hp
    simp only [splc] at hp
    split at hp
    · rcases List.mem_cons.1 hp with rfl | hp
      · simp
      · have := ih p hp; simp only [List.length_cons]; omega
    · cases e : splc d r with
      | nil => exact absurd e (splc_ne d r)
      | cons h t =>
        rw [e] at hp ih
        simp only at hp
        rcases List.mem_cons.1 hp with rfl | hp
        · have := ih h (by simp); simp only [List.length_cons]; omega
        · have := ih p (by simp [hp]); simp only [List.length_cons]; omega
/-- What has been split off when k bytes are read: whole pieces, the piece that goes on. -/
def SplAt (d : UInt8) (l : List UInt8) (k : Nat) (out : List (List UInt8)) (from_ : Nat) : Prop :=
  from_ ≤ k ∧ k ≤ l.length ∧ out.length ≤ k ∧ ∃ h t, splc d (l.drop k) = h :: t ∧ splc d l = out ++ ((l.drop from_).take (k - from_) ++ h) :: t
theorem splAt_start (d : UInt8) (l : List UInt8) : SplAt d l 0 [] 0 := by
  refine ⟨Nat.le_refl _, Nat.zero_le _, Nat.le_refl _, ?_⟩
  cases e : splc d l with
  | nil => exact absurd e (splc_ne d l)
  | cons h t => exact ⟨h, t, by simpa using e, by simp⟩
theorem splAt_cut {d : UInt8} {l : List UInt8} {k f : Nat} {out : List (List UInt8)} (h : SplAt d l k out f) (hx : l[k]? = some d) : SplAt d l (k + 1) (out ++ [(l.drop f).take (k - f)]) (k + 1) := by
  obtain ⟨h1, h2, h3, hh, t, e1, e2⟩ := h
  obtain ⟨hl, hx⟩ := List.getElem?_eq_some_iff.1 hx
  rw [List.drop_eq_getElem_cons hl, hx] at e1
  simp only [splc, beq_self_eq_true, if_true] at e1
  injection e1 with e3 e4
  subst e3
  refine ⟨Nat.le_refl _, hl, by simp; omega, ?_⟩
  cases e : splc d (l.drop (k + 1)) with
  | nil => exact absurd e (splc_ne d _)
  | cons a b =>
    refine ⟨a, b, rfl, ?_⟩
    rw [e2, ← e4, e]
    simp
theorem splAt_on {d : UInt8} {l : List UInt8} {k f : Nat} {out : List (List UInt8)} {x : UInt8} (h : SplAt d l k out f) (hx : l[k]? = some x) (hne : x ≠ d) : SplAt d l (k + 1) out f := by
  obtain ⟨h1, h2, h3, hh, t, e1, e2⟩ := h
  obtain ⟨hl, hx⟩ := List.getElem?_eq_some_iff.1 hx
  rw [List.drop_eq_getElem_cons hl, hx] at e1
  have hb : (x == d) = false := by rw [beq_eq_false_iff_ne]; exact hne
  simp only [splc, hb] at e1
  refine ⟨by omega, hl, by omega, ?_⟩
  cases e : splc d (l.drop (k + 1)) with
  | nil => exact absurd e (splc_ne d _)
  | cons a b =>
    rw [e] at e1
    simp only [Bool.false_eq_true, if_false] at e1
    injection e1 with e3 e4
    refine ⟨a, b, rfl, ?_⟩
    rw [e2, ← e3, ← e4]
    have : (l.drop f).take (k + 1 - f) = (l.drop f).take (k - f) ++ [x] := by
      rw [show k + 1 - f = (k - f) + 1 by omega, List.take_add_one, List.getElem?_drop, show f + (k - f) = k by omega, List.getElem?_eq_getElem hl, hx]; rfl
    rw [this]; simp
theorem splAt_end {d : UInt8} {l : List UInt8} {f : Nat} {out : List (List UInt8)} (h : SplAt d l l.length out f) : splc d l = out ++ [(l.drop f)] := by
  obtain ⟨h1, h2, h3, hh, t, e1, e2⟩ := h
  rw [List.drop_length] at e1
  simp only [splc] at e1
  injection e1 with e3 e4
  subst e3
  rw [e2, ← e4, List.append_nil, List.take_of_length_le (by simp)]
/-- The first piece, by the place of the first such byte. -/
theorem splc_index {d : UInt8} : ∀ {l : List UInt8}, (Lib.indexByte l d < 0 → splc d l = [l]) ∧ (0 ≤ Lib.indexByte l d → (Lib.indexByte l d).toNat < l.length ∧ splc d l = l.take (Lib.indexByte l d).toNat :: splc d (l.drop ((Lib.indexByte l d).toNat + 1))) := by
  intro l
  induction l with
  | nil => exact ⟨fun _ => rfl, fun h => by simp [Lib.indexByte] at h⟩
  | cons c r ih =>
    have hge := Lib.indexByte_ge r d
    by_cases hc : c = d
    · subst hc
      simp [Lib.indexByte, splc]
    · have hb : (c == d) = false := by rw [beq_eq_false_iff_ne]; exact hc
      by_cases hn : Lib.indexByte r d < 0
      · have e : Lib.indexByte (c :: r) d = -1 := by simp [Lib.indexByte, hb]; omega
        refine ⟨fun _ => ?_, fun h => by omega⟩
        simp only [splc, hb]
        rw [ih.1 hn]; rfl
      · have e : Lib.indexByte (c :: r) d = Lib.indexByte r d + 1 := by simp [Lib.indexByte, hb]; omega
        obtain ⟨h1, h2⟩ := ih.2 (by omega)
        refine ⟨fun h => by omega, fun _ => ?_⟩
        have e2 : (Lib.indexByte (c :: r) d).toNat = (Lib.indexByte r d).toNat + 1 := by omega
        rw [e2]
        refine ⟨by simp; omega, ?_⟩
        simp only [splc, hb]
        rw [h2]
        simp
def schedL (s : List OpV) : List UInt8 := Lib.join (s.map opL) [44]
def parL (b : List UInt8) : List OpV := if b = [] then [] else (spl b).map rdL
theorem par_sched {s : List OpV} (h : validS s = true) : parL (schedL s) = s := by
  have hv := ((validS_iff s).1 h).2.1
  unfold parL schedL
  cases s with
  | nil => rfl
  | cons o r =>
    have hne : Lib.join ((o :: r).map opL) [44] ≠ [] := by
      rw [List.map_cons, Lib.join_cons]
      intro e
      have := (opL_len (o := o)).1
      rw [List.append_eq_nil_iff] at e
      rw [e.1] at this
      simp at this
    rw [if_neg hne, spl_join (by simp) (fun p hp => by
      obtain ⟨q, hq, rfl⟩ := List.mem_map.1 hp
      exact op_comma (hv q hq)), List.map_map]
    calc (o :: r).map (rdL ∘ opL) = (o :: r).map id := List.map_congr_left fun q hq => rd_op (hv q hq)
      _ = o :: r := List.map_id _
theorem sched_par {b : List UInt8} (h : validS (parL b) = true) : schedL (parL b) = b := by
  have hv := ((validS_iff _).1 h).2.1
  unfold parL schedL at *
  split
  · rename_i e; subst e; rfl
  · rename_i hne
    rw [if_neg hne] at hv
    rw [List.map_map]
    have : (spl b).map (opL ∘ rdL) = spl b := by
      calc (spl b).map (opL ∘ rdL) = (spl b).map id := List.map_congr_left fun q hq => op_rd (hv _ (List.mem_map.2 ⟨q, hq, rfl⟩))
        _ = spl b := List.map_id _
    rw [this, join_spl]
end Go.Proofs.YtddkjbibjjehjaaDoor
