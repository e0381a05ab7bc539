/-
  Views in plain words: from whom reads read, who writes last; the same conflicts are the same views.
-/
import Derived.Test.YtkbclcgdkbhgdaaQIvsView1
namespace Go.Proofs.Ytkbclcgdkbhgdaa
open Go.RowKit
set_option linter.unusedVariables false

/-- The transaction of the last operation below k for which W holds. -/
def lw (W : OpV → Bool) (s : List OpV) : Nat → Int
  | 0 => -1
  | k + 1 => match s[k]? with | some q => if W q then q.tx else lw W s k | none => lw W s k
theorem lw_succ {W : OpV → Bool} {s : List OpV} {k : Nat} {q : OpV} (h : s[k]? = some q) : lw W s (k + 1) = if W q then q.tx else lw W s k := by simp only [lw, h]
theorem lw_congr {W V : OpV → Bool} {s : List OpV} (h : ∀ q ∈ s, W q = V q) (k : Nat) : lw W s k = lw V s k := by
  induction k with
  | zero => rfl
  | succ k ih =>
    simp only [lw]
    cases e : s[k]? with
    | none => exact ih
    | some q => simp only [ih, h q (List.mem_of_getElem? e)]
theorem rf_lw {s : List OpV} {i : Nat} {x : Int} (k : Nat) : rfTo s i x k = lw (rfB s i x) s k := by
  induction k with
  | zero => rfl
  | succ k ih =>
    simp only [lw, rfTo]
    cases e : s[k]? with
    | none => exact ih
    | some q => simp only [ih]
theorem lw_spec {W : OpV → Bool} {s : List OpV} (k : Nat) : (lw W s k = -1 ∧ ∀ j q, j < k → s[j]? = some q → W q = false) ∨ ∃ (j : Nat) (q : OpV), j < k ∧ s[j]? = some q ∧ W q = true ∧ lw W s k = q.tx ∧ ∀ m r, j < m → m < k → s[m]? = some r → W r = false := by
  induction k with
  | zero => exact .inl ⟨rfl, fun j q h => by omega⟩
  | succ k ih =>
    cases e : s[k]? with
    | none =>
      have h0 : lw W s (k + 1) = lw W s k := by simp only [lw, e]
      rw [h0]
      rcases ih with ⟨h1, h2⟩ | ⟨j, q, h1, h2, h3, h4, h5⟩
      · refine .inl ⟨h1, fun j q hj hq => ?_⟩
        by_cases hjk : j = k
        · subst hjk; rw [e] at hq; cases hq
        · exact h2 j q (by omega) hq
      · refine .inr ⟨j, q, by omega, h2, h3, h4, fun m r hm hmk hr => ?_⟩
        by_cases hmk' : m = k
        · subst hmk'; rw [e] at hr; cases hr
        · exact h5 m r hm (by omega) hr
    | some p =>
      rw [lw_succ e]
      cases hp : W p
      · simp only [Bool.false_eq_true, if_false]
        rcases ih with ⟨h1, h2⟩ | ⟨j, q, h1, h2, h3, h4, h5⟩
        · refine .inl ⟨h1, fun j q hj hq => ?_⟩
          by_cases hjk : j = k
          · subst hjk; rw [e] at hq; injection hq with hq; subst hq; exact hp
          · exact h2 j q (by omega) hq
        · refine .inr ⟨j, q, by omega, h2, h3, h4, fun m r hm hmk hr => ?_⟩
          by_cases hmk' : m = k
          · subst hmk'; rw [e] at hr; injection hr with hr; subst hr; exact hp
          · exact h5 m r hm (by omega) hr
      · simp only [if_true]
        exact .inr ⟨k, p, by omega, e, hp, rfl, fun m r hm hmk => by omega⟩

/-- A write of x. -/
def isW (x : Int) (q : OpV) : Bool := q.kind == 1 && q.item == x
/-- No one aborts. -/
def NoAb (s : List OpV) : Prop := ∀ o ∈ s, o.kind ≠ 3
theorem endOf_noAb {s : List OpV} (h : NoAb s) (t : Int) : endOf s t ≠ 3 := by
  unfold endOf
  cases e : s.find? fun o => o.tx == t && isEnd o with
  | none => simp
  | some q => simp; exact h q (List.mem_of_find?_eq_some e)
theorem NoAb.take {s : List OpV} (h : NoAb s) (i : Nat) : NoAb (s.take i) := fun o ho => h o (List.mem_of_mem_take ho)
/-- From whom a read at i reads. -/
def vsrc (s : List OpV) (i : Nat) (o : OpV) : Int := rfTo s i o.item i
theorem vsrc_lw {s : List OpV} (h : NoAb s) {i : Nat} {o : OpV} : vsrc s i o = lw (isW o.item) s i := by
  unfold vsrc
  rw [rf_lw]
  refine lw_congr (fun q _ => ?_) i
  unfold rfB isW
  have : (endOf (s.take i) q.tx != 3) = true := by rw [bne_iff_ne]; exact endOf_noAb (h.take i) _
  rw [this, Bool.and_true]
/-- Who writes last. -/
def fnB (s : List OpV) (x : Int) (q : OpV) : Bool := q.kind == 1 && q.item == x && endOf s q.tx != 3
def finI (s : List OpV) : List Int := [lw (fnB s 0) s s.length, lw (fnB s 1) s s.length, lw (fnB s 2) s s.length]
theorem fin_lw {s : List OpV} (h : NoAb s) (x : Int) : lw (fnB s x) s s.length = lw (isW x) s s.length := by
  refine lw_congr (fun q _ => ?_) _
  unfold fnB isW
  have : (endOf s q.tx != 3) = true := by rw [bne_iff_ne]; exact endOf_noAb h _
  rw [this, Bool.and_true]

def ViewEq (a b : List OpV) : Prop := SameOps a b ∧ (∀ i o, a[i]? = some o → o.kind = 0 → vsrc a i o = vsrc b (mirN a b i) o) ∧ finI a = finI b
noncomputable def viewB (a b : List OpV) : Bool := @decide (ViewEq a b) (Classical.propDecidable _)
theorem viewB_iff {a b : List OpV} : viewB a b = true ↔ ViewEq a b := by unfold viewB; exact @decide_eq_true_iff _ (Classical.propDecidable _)
theorem viewB_not {a b : List OpV} (h : ¬ ViewEq a b) : viewB a b = false := by
  cases e : viewB a b
  · rfl
  · exact absurd (viewB_iff.1 e) h
theorem ViewEq.refl (a : List OpV) : ViewEq a a := ⟨SameOps.refl a, fun i o hi _ => by rw [mirN_refl hi], rfl⟩
theorem ViewEq.symm {a b : List OpV} (h : ViewEq a b) : ViewEq b a := by
  refine ⟨h.1.symm, fun i o hi hk => ?_, h.2.2.symm⟩
  have h1 := (mirN_spec h.1.symm hi).1
  have h2 := h.2.1 _ o h1 hk
  rw [mirN_back h.1.symm hi] at h2
  exact h2.symm
theorem mirN_trans {a b c : List OpV} (h : SameOps a b) (k : SameOps b c) {i : Nat} {o : OpV} (hi : a[i]? = some o) : mirN a c i = mirN b c (mirN a b i) := by
  obtain ⟨h1, h2⟩ := mirN_spec h hi
  obtain ⟨h3, h4⟩ := mirN_spec k h1
  exact mirN_at (h.trans k) hi h3 (h4.trans h2)
theorem ViewEq.trans {a b c : List OpV} (h : ViewEq a b) (k : ViewEq b c) : ViewEq a c := by
  refine ⟨h.1.trans k.1, fun i o hi hk => ?_, h.2.2.trans k.2.2⟩
  rw [mirN_trans h.1 k.1 hi, h.2.1 i o hi hk]
  exact k.2.1 _ o (mirN_spec h.1 hi).1 hk
theorem viewB_symm (a b : List OpV) : viewB a b = viewB b a := by
  rw [Bool.eq_iff_iff, viewB_iff, viewB_iff]
  exact ⟨ViewEq.symm, ViewEq.symm⟩
theorem viewB_congr {a b : List OpV} (h : ViewEq a b) (c : List OpV) : viewB a c = viewB b c := by
  rw [Bool.eq_iff_iff, viewB_iff, viewB_iff]
  exact ⟨fun k => h.symm.trans k, fun k => h.trans k⟩

/-- The last write is the same where the writes below are the same, in the same order. -/
theorem lw_mir {a b : List OpV} (h : SameOps a b) {x : Int} {i j : Nat}
    (hord : ∀ (m n : Nat) (o p : OpV), m < n → a[m]? = some o → a[n]? = some p → isW x o = true → isW x p = true → mirN a b m < mirN a b n)
    (hb : ∀ (m : Nat) (o : OpV), a[m]? = some o → isW x o = true → (m < i ↔ mirN a b m < j)) : lw (isW x) a i = lw (isW x) b j := by
  rcases lw_spec (W := isW x) (s := a) i with ⟨h1, h2⟩ | ⟨m, o, h1, h2, h3, h4, h5⟩
  · rcases lw_spec (W := isW x) (s := b) j with ⟨g1, _⟩ | ⟨n, p, g1, g2, g3, _, _⟩
    · rw [h1, g1]
    · exfalso
      have e1 := (mirN_spec h.symm g2).1
      have e2 := mirN_back h.symm g2
      have := (hb _ p e1 g3).2 (by rw [e2]; exact g1)
      rw [h2 _ p this e1] at g3
      cases g3
  · obtain ⟨e1, _⟩ := mirN_spec h h2
    have hj := (hb m o h2 h3).1 h1
    rcases lw_spec (W := isW x) (s := b) j with ⟨_, g2⟩ | ⟨n, p, g1, g2, g3, g4, g5⟩
    · rw [g2 _ o hj e1] at h3; cases h3
    · rcases Nat.lt_trichotomy n (mirN a b m) with e | e | e
      · rw [g5 _ o e hj e1] at h3; cases h3
      · rw [e] at g2
        rw [e1] at g2
        injection g2 with g2
        rw [h4, g4, g2]
      · exfalso
        have f1 := (mirN_spec h.symm g2).1
        have f2 := mirN_back h.symm g2
        have hni := (hb _ p f1 g3).2 (by rw [f2]; exact g1)
        rcases Nat.lt_trichotomy m (mirN b a n) with k | k | k
        · rw [h5 _ p k hni f1] at g3; cases g3
        · rw [k, f2] at e; omega
        · have := hord _ _ p o k f1 h2 g3 h3
          rw [f2] at this
          omega
theorem isW_acc {x : Int} {q : OpV} (h : isW x q = true) : isAcc q = true ∧ q.item = x ∧ q.kind = 1 := by
  simp only [isW, Bool.and_eq_true, beq_iff_eq] at h
  exact ⟨by simp [isAcc, h.1], h.2, h.1⟩
/-- Where conflicts are the same, accesses of an item of which one is a write come in the same order. -/
theorem Same.ord {a b : List OpV} (h : Same a b) {i k : Nat} {o p : OpV} (hik : i < k) (hi : a[i]? = some o) (hk : a[k]? = some p) (h1 : isAcc o = true) (h2 : isAcc p = true) (h3 : o.item = p.item) (h4 : o.kind = 1 ∨ p.kind = 1) : mirN a b i < mirN a b k := by
  by_cases ht : o.tx = p.tx
  · exact mirN_own h.1 hi hk ht hik
  · refine h.2 i k o p hik hi hk ?_
    simp only [confB, Bool.and_eq_true, bne_iff_ne, beq_iff_eq, Bool.or_eq_true]
    exact ⟨⟨⟨⟨ht, h1⟩, h2⟩, h3⟩, h4⟩
theorem SameOps.mem {a b : List OpV} (h : SameOps a b) {o : OpV} (ho : o ∈ b) : o ∈ a := by
  obtain ⟨i, hi⟩ := List.mem_iff_getElem?.1 ho
  exact List.mem_of_getElem? (mirN_spec h.symm hi).1
theorem NoAb.same {a b : List OpV} (h : NoAb a) (hs : SameOps a b) : NoAb b := fun o ho => h o (hs.mem ho)
theorem Same.view {a b : List OpV} (h : Same a b) (ha : NoAb a) : ViewEq a b := by
  have hb := ha.same h.1
  have hW : ∀ x (m n : Nat) (o p : OpV), m < n → a[m]? = some o → a[n]? = some p → isW x o = true → isW x p = true → mirN a b m < mirN a b n := fun x m n o p hmn hm hn h1 h2 => by
    obtain ⟨a1, a2, a3⟩ := isW_acc h1
    obtain ⟨b1, b2, b3⟩ := isW_acc h2
    exact h.ord hmn hm hn a1 b1 (by rw [a2, b2]) (.inl a3)
  refine ⟨h.1, fun i o hi hk => ?_, ?_⟩
  · rw [vsrc_lw ha, vsrc_lw hb]
    refine lw_mir h.1 (hW _) fun m q hm hq => ?_
    obtain ⟨b1, b2, b3⟩ := isW_acc hq
    have ao : isAcc o = true := by simp [isAcc, hk]
    rcases Nat.lt_trichotomy m i with e | e | e
    · exact ⟨fun _ => h.ord e hm hi b1 ao b2 (.inl b3), fun _ => e⟩
    · subst e
      rw [hm] at hi
      injection hi with hi
      subst hi
      omega
    · have := h.ord e hi hm ao b1 b2.symm (.inr b3)
      omega
  · unfold finI
    have : ∀ x, lw (fnB a x) a a.length = lw (fnB b x) b b.length := fun x => by
      rw [fin_lw ha, fin_lw hb]
      refine lw_mir h.1 (hW x) fun m q hm hq => ?_
      have h1 := (List.getElem?_eq_some_iff.1 hm).1
      have h2 := (List.getElem?_eq_some_iff.1 (mirN_spec h.1 hm).1).1
      exact ⟨fun _ => h2, fun _ => h1⟩
    rw [this 0, this 1, this 2]
theorem noAb_committed {s : List OpV} (hv : validS s = true) : NoAb (committed s) := fun o ho hk => by
  obtain ⟨h1, h2⟩ := mem_committed.1 ho
  obtain ⟨q, hq, hqt, hqk⟩ := endOf_two h2
  obtain ⟨i, hi⟩ := List.mem_iff_getElem?.1 h1
  obtain ⟨j, hj⟩ := List.mem_iff_getElem?.1 hq
  have a1 := validS_after hv hi hj (by simp [isEnd, hk]) hqt.symm
  have a2 := validS_after hv hj hi (by simp [isEnd, hqk]) hqt
  obtain rfl : i = j := by omega
  rw [hi] at hj
  injection hj with hj
  subst hj
  omega

/-! the program's and the reference's tests -/
theorem view_not_ops {a b : List OpV} (h : ¬ SameOps a b) : viewB a b = false := viewB_not fun k => h k.1
theorem view_not_fin {a b : List OpV} (h : finI a ≠ finI b) : viewB a b = false := viewB_not fun k => h k.2.2
theorem view_fail {a b : List OpV} {i : Nat} {o : OpV} (hi : a[i]? = some o) (hk : o.kind = 0) (h : vsrc a i o ≠ vsrc b (mirN a b i) o) : viewB a b = false := viewB_not fun k => h (k.2.1 i o hi hk)
theorem view_done {a b : List OpV} (h1 : SameOps a b) (h2 : ∀ i o, a[i]? = some o → o.kind = 0 → vsrc a i o = vsrc b (mirN a b i) o) (h3 : finI a = finI b) : viewB a b = true := viewB_iff.2 ⟨h1, h2, h3⟩

/-! transaction by transaction -/
theorem serial_ops {c : List OpV} (hv : validS c = true) {p : List Int} (hp : vordI c p = true) : SameOps c (serialI c p) := fun t => by
  have hperm := vordI_perm hp
  exact (opsOf_serial hv (hperm.nodup_iff.2 (nodup_txsOf c)) (fun t => hperm.mem_iff) t).symm
theorem serialI_ops {a b : List OpV} (h : SameOps a b) (p : List Int) : serialI a p = serialI b p := by
  unfold serialI
  congr 1
  funext t
  exact h t
theorem txsOf_ops {a b : List OpV} (h : SameOps a b) : txsOf a = txsOf b := by
  unfold txsOf
  refine List.filter_congr fun t _ => ?_
  rw [Bool.eq_iff_iff, hasTx_iff, hasTx_iff]
  have : ∀ {a b : List OpV}, SameOps a b → (∃ o ∈ a, o.tx = t) → ∃ o ∈ b, o.tx = t := fun h ⟨o, ho, e⟩ => ⟨o, h.symm.mem ho, e⟩
  exact ⟨this h, this h.symm⟩
/-- An order that goes with the conflicts has the same conflicts. -/
theorem ord_same {c : List OpV} (hv : validS c = true) {p : List Int} (hp : vordI c p = true) (ha : accB (grI c) [] p = true) : Same c (serialI c p) := by
  have hs := serial_ops hv hp
  have hperm := vordI_perm hp
  have hd : p.Nodup := hperm.nodup_iff.2 (nodup_txsOf c)
  refine ⟨hs, fun i k o q hik hi hk hc => ?_⟩
  have hso := serialI_sorted (s := c) (f := posN p) (pos_sorted hd)
  obtain ⟨h1, _⟩ := mirN_spec hs hi
  obtain ⟨h3, _⟩ := mirN_spec hs hk
  have hto : o.tx ∈ p := hperm.mem_iff.2 ((mem_txsOf hv).2 ⟨o, List.mem_of_getElem? hi, rfl⟩)
  have htq : q.tx ∈ p := hperm.mem_iff.2 ((mem_txsOf hv).2 ⟨q, List.mem_of_getElem? hk, rfl⟩)
  have hx4 : Tx4 c := fun o ho => validS_tx3 hv ho
  have hcf : edgeB (grI c) o.tx q.tx = true := (gr_edge hx4 (hx4 o (List.mem_of_getElem? hi)).1 (hx4 q (List.mem_of_getElem? hk)).1).2 ⟨i, k, o, q, hik, hi, hk, hc, rfl, rfl⟩
  have hne : o.tx ≠ q.tx := by
    simp only [confB, Bool.and_eq_true, bne_iff_ne] at hc
    exact hc.1.1.1.1
  have hpos : posN p o.tx < posN p q.tx := by
    have hacc := accB_iff.1 ha
    obtain ⟨x, hx⟩ := List.mem_iff_getElem?.1 hto
    obtain ⟨y, hy⟩ := List.mem_iff_getElem?.1 htq
    obtain ⟨hxl, hxe⟩ := List.getElem?_eq_some_iff.1 hx
    obtain ⟨hyl, hye⟩ := List.getElem?_eq_some_iff.1 hy
    have hps := pos_sorted hd
    rw [List.pairwise_iff_getElem] at hacc hps
    rcases Nat.lt_trichotomy x y with e | e | e
    · have := hps x y hxl hyl e
      rw [hxe, hye] at this; exact this
    · subst e; rw [hxe] at hye; exact absurd hye hne
    · have := hacc y x hyl hxl e
      rw [hxe, hye, hcf] at this
      cases this
  rcases Nat.lt_trichotomy (mirN c (serialI c p) i) (mirN c (serialI c p) k) with e | e | e
  · exact e
  · have := mirN_inj hs hi hk e; omega
  · exfalso
    rw [List.pairwise_iff_getElem] at hso
    obtain ⟨l1, e1⟩ := List.getElem?_eq_some_iff.1 h1
    obtain ⟨l3, e3⟩ := List.getElem?_eq_some_iff.1 h3
    have := hso _ _ l3 l1 e
    rw [e1, e3] at this
    omega
end Go.Proofs.Ytkbclcgdkbhgdaa
