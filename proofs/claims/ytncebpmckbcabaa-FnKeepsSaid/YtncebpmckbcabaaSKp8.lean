/-
  Texts that the proof rests on, joined: part 8.
-/
import Derived.Test.YtncebpmckbcabaaSKp4
import Derived.Test.YtncebpmckbcabaaSKp7
namespace Go.Proofs.Ytncebpmckbcabaa
open Go.RowKit
set_option linter.unusedVariables false

/-- t stands ahead of u by a conflict. -/
def Cf (L : List OpV) (t u : Int) : Prop := ∃ (i k : Nat) (a b : OpV), i < k ∧ L[i]? = some a ∧ L[k]? = some b ∧ confB a b = true ∧ a.tx = t ∧ b.tx = u
def Tx4 (L : List OpV) : Prop := ∀ o ∈ L, 0 ≤ o.tx ∧ o.tx ≤ 3
theorem grRow_bit {L : List OpV} (hr : Tx4 L) {i : Nat} {a : OpV} (ha : 0 ≤ a.tx ∧ a.tx ≤ 3) {rows : List Nat} (h4 : Rows4 rows) (q : Nat) {t u : Nat} (hq : i + 1 + q ≤ L.length) :
    ((grRow L i a rows q).getD t 0).testBit u = true ↔ (rows.getD t 0).testBit u = true ∨ ∃ (d : Nat) (b : OpV), d < q ∧ L[i + 1 + d]? = some b ∧ confB a b = true ∧ a.tx = t ∧ b.tx = u := by
  induction q with
  | zero =>
    rw [grRow_zero]
    constructor
    · exact .inl
    · rintro (h | ⟨d, b, hd, _⟩)
      · exact h
      · omega
  | succ q ih =>
    have ih := ih (by omega)
    have e : L[i + 1 + q]? = some (L[i + 1 + q]'(by omega)) := List.getElem?_eq_getElem (by omega)
    generalize L[i + 1 + q]'(by omega) = b at e
    have hb := hr b (List.mem_of_getElem? e)
    rw [grRow_succ e]
    unfold grStep
    have h4' := grRow_ok hr (i := i) (a := a) h4 q
    obtain ⟨T, hT⟩ := Int.eq_ofNat_of_zero_le ha.1
    obtain ⟨U, hU⟩ := Int.eq_ofNat_of_zero_le hb.1
    constructor
    · intro h
      split at h
      · rename_i hc
        rw [hT, hU, rowSet_bit h4' (by omega), Bool.or_eq_true, ih] at h
        rcases h with (h | ⟨d, b', hd, r⟩) | h
        · exact .inl h
        · exact .inr ⟨d, b', by omega, r⟩
        · simp only [Bool.and_eq_true, decide_eq_true_eq] at h
          exact .inr ⟨q, b, by omega, e, hc, by omega, by omega⟩
      · rcases ih.1 h with h | ⟨d, b', hd, r⟩
        · exact .inl h
        · exact .inr ⟨d, b', by omega, r⟩
    · intro h
      have old : (rows.getD t 0).testBit u = true ∨ (∃ (d : Nat) (b : OpV), d < q ∧ L[i + 1 + d]? = some b ∧ confB a b = true ∧ a.tx = t ∧ b.tx = u) ∨ (confB a b = true ∧ a.tx = t ∧ b.tx = u) := by
        rcases h with h | ⟨d, b', hd, h1, r⟩
        · exact .inl h
        · by_cases hdq : d = q
          · subst hdq
            rw [e] at h1
            injection h1 with h1
            subst h1
            exact .inr (.inr r)
          · exact .inr (.inl ⟨d, b', by omega, h1, r⟩)
      split
      · rw [hT, hU, rowSet_bit h4' (by omega), Bool.or_eq_true, ih]
        rcases old with h | h | ⟨_, h1, h2⟩
        · exact .inl (.inl h)
        · exact .inl (.inr h)
        · right
          simp only [Bool.and_eq_true, decide_eq_true_eq]
          omega
      · rename_i hc
        rw [ih]
        rcases old with h | h | ⟨h1, _⟩
        · exact .inl h
        · exact .inr h
        · exact absurd h1 hc
theorem grTo_bit {L : List OpV} (hr : Tx4 L) (m : Nat) (hm : m ≤ L.length) {t u : Nat} :
    ((grTo L m).getD t 0).testBit u = true ↔ ∃ (i k : Nat) (a b : OpV), i < m ∧ i < k ∧ L[i]? = some a ∧ L[k]? = some b ∧ confB a b = true ∧ a.tx = t ∧ b.tx = u := by
  induction m with
  | zero =>
    constructor
    · intro h
      exfalso
      have : ∀ t : Nat, ([0, 0, 0, 0] : List Nat).getD t 0 = 0 := by
        intro t
        rcases (by omega : t = 0 ∨ t = 1 ∨ t = 2 ∨ t = 3 ∨ 4 ≤ t) with rfl | rfl | rfl | rfl | h
        · rfl
        · rfl
        · rfl
        · rfl
        · rw [List.getD_eq_getElem?_getD, List.getElem?_eq_none (by simpa using h)]; rfl
      simp only [grTo] at h
      rw [this] at h
      simp at h
    · rintro ⟨i, k, a, b, h, _⟩
      omega
  | succ m ih =>
    have ih := ih (by omega)
    have e : L[m]? = some (L[m]'(by omega)) := List.getElem?_eq_getElem (by omega)
    generalize L[m]'(by omega) = a at e
    rw [grTo_succ e, grRow_bit hr (hr a (List.mem_of_getElem? e)) (grTo_ok hr m) _ (by omega), ih]
    constructor
    · rintro (⟨i, k, a', b, h1, r⟩ | ⟨d, b, hd, hb, r⟩)
      · exact ⟨i, k, a', b, by omega, r⟩
      · exact ⟨m, m + 1 + d, a, b, by omega, by omega, e, hb, r⟩
    · rintro ⟨i, k, a', b, h1, h2, h3, h4, r⟩
      by_cases hi : i = m
      · subst hi
        rw [e] at h3
        injection h3 with h3
        subst h3
        have hk := (List.getElem?_eq_some_iff.1 h4).1
        exact .inr ⟨k - (i + 1), b, by omega, by rw [show i + 1 + (k - (i + 1)) = k by omega]; exact h4, r⟩
      · exact .inl ⟨i, k, a', b, by omega, h2, h3, h4, r⟩
theorem grI_bit {L : List OpV} (hr : Tx4 L) {t u : Nat} : ((grI L).getD t 0).testBit u = true ↔ Cf L t u := by
  unfold grI
  rw [grTo_bit hr _ (Nat.le_refl _)]
  constructor
  · rintro ⟨i, k, a, b, _, r⟩
    exact ⟨i, k, a, b, r⟩
  · rintro ⟨i, k, a, b, h, h2, r⟩
    exact ⟨i, k, a, b, (List.getElem?_eq_some_iff.1 h2).1, h, h2, r⟩
theorem Cf.ne {L : List OpV} {t u : Int} (h : Cf L t u) : t ≠ u := by
  obtain ⟨i, k, a, b, _, _, _, hc, rfl, rfl⟩ := h
  unfold confB at hc
  simp only [Bool.and_eq_true, bne_iff_ne] at hc
  exact hc.1.1.1.1
theorem Cf.mem {L : List OpV} {t u : Int} (h : Cf L t u) : (∃ o ∈ L, o.tx = t) ∧ ∃ o ∈ L, o.tx = u := by
  obtain ⟨i, k, a, b, _, h1, h2, hc, rfl, rfl⟩ := h
  exact ⟨⟨a, List.mem_of_getElem? h1, rfl⟩, b, List.mem_of_getElem? h2, rfl⟩
theorem gr_edge {L : List OpV} (hr : Tx4 L) {t u : Int} (ht : 0 ≤ t) (hu : 0 ≤ u) : edgeB (grI L) t u = true ↔ Cf L t u := by
  obtain ⟨T, rfl⟩ := Int.eq_ofNat_of_zero_le ht
  obtain ⟨U, rfl⟩ := Int.eq_ofNat_of_zero_le hu
  unfold edgeB
  rw [Int.toNat_natCast, Int.toNat_natCast]
  exact grI_bit hr
theorem gr_diag {L : List OpV} (hr : Tx4 L) {t : Int} (ht : 0 ≤ t) : edgeB (grI L) t t = false := by
  cases h : edgeB (grI L) t t
  · rfl
  · exact absurd rfl ((gr_edge hr ht ht).1 h).ne

/-- Each set has one that none of it is ahead of. -/
def Srcs (list : List Int) (rows : List Nat) : Prop := ∀ S : List Int, S ≠ [] → (∀ x ∈ S, x ∈ list) → ∃ t ∈ S, ∀ v ∈ S, edgeB rows v t = false
theorem accB_pair {rows : List Nat} {p : List Int} : ∀ {pre : List Int}, accB rows pre p = true → p.Pairwise (fun a b => edgeB rows b a = false) ∧ ∀ a ∈ pre, ∀ b ∈ p, edgeB rows b a = false := by
  induction p with
  | nil => intro pre _; exact ⟨List.Pairwise.nil, by simp⟩
  | cons t r ih =>
    intro pre h
    simp only [accB, Bool.and_eq_true, Bool.not_eq_true'] at h
    obtain ⟨h1, h2⟩ := h
    obtain ⟨h3, h4⟩ := ih h2
    rw [List.any_eq_false] at h1
    refine ⟨List.pairwise_cons.2 ⟨fun b hb => h4 t (by simp) b hb, h3⟩, fun a ha b hb => ?_⟩
    rcases List.mem_cons.1 hb with rfl | hb
    · simpa using h1 a ha
    · exact h4 a (by simp [ha]) b hb
theorem accB_of {rows : List Nat} {p : List Int} : ∀ {pre : List Int}, p.Pairwise (fun a b => edgeB rows b a = false) → (∀ a ∈ pre, ∀ b ∈ p, edgeB rows b a = false) → accB rows pre p = true := by
  induction p with
  | nil => intro pre _ _; rfl
  | cons t r ih =>
    intro pre h1 h2
    obtain ⟨h3, h4⟩ := List.pairwise_cons.1 h1
    simp only [accB, Bool.and_eq_true, Bool.not_eq_true']
    refine ⟨?_, ih h4 fun a ha b hb => ?_⟩
    · rw [List.any_eq_false]
      intro a ha
      rw [h2 a ha t (by simp)]; simp
    · rcases List.mem_append.1 ha with ha | ha
      · exact h2 a ha b (by simp [hb])
      · rw [List.mem_singleton] at ha
        subst ha
        exact h3 b hb
theorem accB_iff {rows : List Nat} {p : List Int} : accB rows [] p = true ↔ p.Pairwise (fun a b => edgeB rows b a = false) :=
  ⟨fun h => (accB_pair h).1, fun h => accB_of h (by simp)⟩
theorem topF_ne' {list : List Int} {rows : List Nat} (hd : list.Nodup) (src : Srcs list rows) (m : Nat) :
    ∀ pre : List Int, pre.length + m = list.length → topF list rows m pre ≠ [] := by
  induction m with
  | zero => intro pre _; simp [topF]
  | succ m ih =>
    intro pre hl
    have hne : list.filter (fun x => !(pre.any fun y => y == x)) ≠ [] := by
      intro he
      rw [List.filter_eq_nil_iff] at he
      have : list.length ≤ pre.length := nodup_len hd fun x hx => by
        have := he x hx
        simp only [Bool.not_eq_true', Bool.not_eq_false] at this
        exact any_mem_iff.1 this
      omega
    obtain ⟨t, ht, hs⟩ := src _ hne (fun x hx => (List.mem_filter.1 hx).1)
    obtain ⟨htl, htp⟩ := List.mem_filter.1 ht
    have hcond : (!(pre.any fun y => y == t) && list.all (fun v => !edgeB rows v t || pre.any fun y => y == v)) = true := by
      rw [Bool.and_eq_true]
      refine ⟨htp, List.all_eq_true.2 fun v hv => ?_⟩
      cases hp : (pre.any fun y => y == v)
      · rw [hs v (List.mem_filter.2 ⟨hv, by rw [hp]; rfl⟩)]; rfl
      · simp
    simp only [topF]
    intro he
    rw [List.flatMap_eq_nil_iff] at he
    have := he t htl
    rw [if_pos hcond] at this
    exact ih (pre ++ [t]) (by simp; omega) this
/-- An order is there just where there are sources. -/
theorem ord_src {list : List Int} {rows : List Nat} (hd : list.Nodup) (hs : ∀ t ∈ list, edgeB rows t t = false) : ordI list rows ≠ [] ↔ Srcs list rows := by
  constructor
  · intro h S hne hsub
    obtain ⟨p, hp⟩ := List.exists_mem_of_ne_nil _ h
    unfold ordI at hp
    obtain ⟨hp1, hp2⟩ := List.mem_filter.1 hp
    obtain ⟨_, hall⟩ := permF_mem hd list.length (pre := []) (by simp) (by simp) (by simp) p hp1
    have hpw := accB_iff.1 hp2
    -- the first of the order that is of S
    cases hf : p.find? (fun t => S.any fun y => y == t) with
    | none =>
      exfalso
      obtain ⟨x, hx⟩ := List.exists_mem_of_ne_nil _ hne
      have := List.find?_eq_none.1 hf x (hall x (hsub x hx))
      exact this (any_mem_iff.2 hx)
    | some t =>
      obtain ⟨htS, pa, pb, hpe, has⟩ := List.find?_eq_some_iff_append.1 hf
      have htS : t ∈ S := any_mem_iff.1 htS
      refine ⟨t, htS, fun v hv => ?_⟩
      have hvp := hall v (hsub v hv)
      rw [hpe] at hvp hpw
      rcases List.mem_append.1 hvp with hva | hvb
      · have := has v hva
        rw [any_mem_iff.2 hv] at this
        cases this
      · rcases List.mem_cons.1 hvb with rfl | hvb
        · exact hs v (hsub v hv)
        · have h2 := (List.pairwise_append.1 hpw).2.1
          exact (List.pairwise_cons.1 h2).1 v hvb
  · intro h
    rw [ord_eq hd hs]
    exact topF_ne' hd h list.length [] (by simp)

/-! ### the orders of a schedule -/
def ordO (s : List OpV) : List (List Int) := ordI (txsOf (committed s)) (grI (committed s))
theorem comm_sub {s : List OpV} {o : OpV} (h : o ∈ committed s) : o ∈ s := (List.mem_filter.1 h).1
theorem comm_tx4 {s : List OpV} (h : validS s = true) : Tx4 (committed s) := fun o ho => validS_tx3 h (comm_sub ho)
theorem txsOf_rng0 (s : List OpV) : ∀ t ∈ txsOf s, 0 ≤ t ∧ t ≤ 3 := fun t ht => by
  unfold txsOf at ht
  have := (List.mem_filter.1 ht).1
  simp at this
  omega
theorem ordO_diag {s : List OpV} (h : validS s = true) : ∀ t ∈ txsOf (committed s), edgeB (grI (committed s)) t t = false := fun t ht => gr_diag (comm_tx4 h) (txsOf_rng0 _ t ht).1
theorem ordO_src {s : List OpV} (h : validS s = true) : ordO s ≠ [] ↔ Srcs (txsOf (committed s)) (grI (committed s)) := ord_src (nodup_txsOf _) (ordO_diag h)
end Go.Proofs.Ytncebpmckbcabaa
namespace Go.Proofs.Ytncebpmckbcabaa
open Go.RowKit
set_option linter.unusedVariables false

/-- The program's search from t, behind a path. -/
def cirF (R : List Nat) : Nat → List Int → List Int → Int → List Int
  | 0, _, best, _ => best
  | m + 1, path, best, t =>
    [0, 1, 2, 3].foldl (fun b u => if edgeB R t u && decide ((path ++ [t]).headD 0 < u) && !((path ++ [t]).any fun y => y == u) then cirF R m (path ++ [t]) b u else b)
      (if edgeB R t ((path ++ [t]).headD 0) && (best.isEmpty || decide ((path ++ [t]).length < best.length)) then path ++ [t] else best)
def cirT (R : List Nat) : List Int := [0, 1, 2, 3].foldl (fun b t => cirF R 4 [] b t) []
/-- The first that is not empty. -/
def firstNE : List (List Int) → List Int
  | [] => []
  | x :: r => if x.isEmpty then firstNE r else x
/-- The reference's search: m more to come. -/
def cyF (R : List Nat) : Nat → List Int → List Int
  | 0, head => if edgeB R (head.getLastD 0) (head.headD 0) then head else []
  | m + 1, head => firstNE ([0, 1, 2, 3].map fun t => if decide (head.headD 0 < t) && !(head.any fun y => y == t) && edgeB R (head.getLastD 0) t then cyF R m (head ++ [t]) else [])
def cycT (R : List Nat) : List Int := firstNE ([1, 2, 3].flatMap fun m => [0, 1, 2, 3].map fun t => cyF R m [t])
/-- Whether a list goes round, the least one first, none twice. -/
def roundB (R : List Nat) (c : List Int) : Bool := decide (2 ≤ c.length) && (List.range c.length).all fun i =>
  edgeB R (c.getD i 0) (c.getD ((i + 1) % c.length) 0) && decide (c.headD 0 ≤ c.getD i 0) && !((c.take i).any fun y => y == c.getD i 0) && decide (0 ≤ c.getD i 0) && decide (c.getD i 0 ≤ 3)
/-- Each set of the four has one that none of it is ahead of. -/
def srcB (R : List Nat) : Bool := (List.range 15).all fun m => (List.range 4).any fun t => (m + 1).testBit t && (List.range 4).all fun v => !((m + 1).testBit v) || !edgeB R (v : Int) (t : Int)
def cycOk (R : List Nat) : Bool := (cirT R == cycT R) && (if (cycT R).isEmpty then srcB R else roundB R (cycT R)) && decide ((cycT R).length ≤ 4)
def allB (a : Nat) : Bool := (List.range 16).all fun b => b.testBit 1 || (List.range 16).all fun c => c.testBit 2 || (List.range 16).all fun d => d.testBit 3 || cycOk [a, b, c, d]
set_option maxRecDepth 100000 in
theorem cyc0 : allB 0 = true := by decide +kernel
set_option maxRecDepth 100000 in
theorem cyc2 : allB 2 = true := by decide +kernel
set_option maxRecDepth 100000 in
theorem cyc4 : allB 4 = true := by decide +kernel
set_option maxRecDepth 100000 in
theorem cyc6 : allB 6 = true := by decide +kernel
set_option maxRecDepth 100000 in
theorem cyc8 : allB 8 = true := by decide +kernel
set_option maxRecDepth 100000 in
theorem cyc10 : allB 10 = true := by decide +kernel
set_option maxRecDepth 100000 in
theorem cyc12 : allB 12 = true := by decide +kernel
set_option maxRecDepth 100000 in
theorem cyc14 : allB 14 = true := by decide +kernel

theorem all16 {f : Nat → Bool} (h : (List.range 16).all f = true) {a : Nat} (ha : a < 16) : f a = true := List.all_eq_true.1 h a (List.mem_range.2 ha)
theorem cyc_ok {R : List Nat} (h4 : Rows4 R) (hd : ∀ t : Nat, t < 4 → (R.getD t 0).testBit t = false) : cycOk R = true := by
  obtain ⟨hl, hr⟩ := h4
  match R, hl with
  | [a, b, c, d], _ =>
    have ha := hr a (by simp)
    have hb := hr b (by simp)
    have hc := hr c (by simp)
    have hdd := hr d (by simp)
    have da := hd 0 (by omega)
    have db := hd 1 (by omega)
    have dc := hd 2 (by omega)
    have de := hd 3 (by omega)
    simp only [List.getD_cons_zero, List.getD_cons_succ] at da db dc de
    have hA : allB a = true := by
      have ha2 : a % 2 = 0 := by
        rw [Nat.testBit_zero] at da
        simp at da
        omega
      rcases (by omega : a = 0 ∨ a = 2 ∨ a = 4 ∨ a = 6 ∨ a = 8 ∨ a = 10 ∨ a = 12 ∨ a = 14) with rfl | rfl | rfl | rfl | rfl | rfl | rfl | rfl
      · exact cyc0
      · exact cyc2
      · exact cyc4
      · exact cyc6
      · exact cyc8
      · exact cyc10
      · exact cyc12
      · exact cyc14
    unfold allB at hA
    have h1 := all16 hA hb
    rw [db, Bool.false_or] at h1
    have h2 := all16 h1 hc
    rw [dc, Bool.false_or] at h2
    have h3 := all16 h2 hdd
    rw [de, Bool.false_or] at h3
    exact h3
theorem diag_bit {R : List Nat} (hd : ∀ t : Int, 0 ≤ t → edgeB R t t = false) : ∀ t : Nat, t < 4 → (R.getD t 0).testBit t = false := fun t _ => by
  have := hd (t : Int) (by omega)
  unfold edgeB at this
  rw [Int.toNat_natCast] at this
  exact this
theorem cyc_len {R : List Nat} (h4 : Rows4 R) (hd : ∀ t : Int, 0 ≤ t → edgeB R t t = false) : (cycT R).length ≤ 4 := by
  have := cyc_ok h4 (diag_bit hd)
  unfold cycOk at this
  simp only [Bool.and_eq_true, decide_eq_true_eq] at this
  exact this.2
theorem cyc_round {R : List Nat} (h4 : Rows4 R) (hd : ∀ t : Int, 0 ≤ t → edgeB R t t = false) (h : cycT R ≠ []) : roundB R (cycT R) = true := by
  have := cyc_ok h4 (diag_bit hd)
  unfold cycOk at this
  simp only [Bool.and_eq_true] at this
  have := this.1.2
  rw [if_neg (by simpa using h)] at this
  exact this
theorem cyc_at {R : List Nat} (h4 : Rows4 R) (hd : ∀ t : Int, 0 ≤ t → edgeB R t t = false) (h : cycT R ≠ []) {i : Nat} (hi : i < (cycT R).length) :
    2 ≤ (cycT R).length ∧ edgeB R ((cycT R).getD i 0) ((cycT R).getD ((i + 1) % (cycT R).length) 0) = true ∧ (cycT R).headD 0 ≤ (cycT R).getD i 0 ∧ (((cycT R).take i).any fun y => y == (cycT R).getD i 0) = false ∧ 0 ≤ (cycT R).getD i 0 ∧ (cycT R).getD i 0 ≤ 3 := by
  have hb := cyc_round h4 hd h
  generalize cycT R = c at *
  unfold roundB at hb
  rw [Bool.and_eq_true, decide_eq_true_eq, List.all_eq_true] at hb
  have h3 := hb.2 i (List.mem_range.2 hi)
  simp only [Bool.and_eq_true, decide_eq_true_eq, Bool.not_eq_true'] at h3
  exact ⟨hb.1, h3.1.1.1.1, h3.1.1.1.2, h3.1.1.2, h3.1.2, h3.2⟩
end Go.Proofs.Ytncebpmckbcabaa
