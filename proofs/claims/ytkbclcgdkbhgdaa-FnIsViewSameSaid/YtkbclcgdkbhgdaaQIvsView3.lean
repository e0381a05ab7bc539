/-
  The program's maps by place: what they hold.
-/
import Derived.Test.YtkbclcgdkbhgdaaQIvsView2
import Derived.Test.YtkbclcgdkbhgdaaPkOrdX2
namespace Go.Proofs.Ytkbclcgdkbhgdaa
open Go.RowKit
set_option linter.unusedVariables false


theorem plcells : Try.prog.cellsOf 73 = 2 := by kernel_rfl
theorem plrow : (73 : TypeId) < Try.prog.types.size := of_decide_eq_true (by kernel_rfl)
theorem plwide : (match Try.prog.underlying 73 with | some (.array _ _) | some (.struct _) => true | _ => false) = true := by rw [Try.underlying73]
theorem pllaid : laidOutB Try.prog = true := by kernel_rfl
set_option maxRecDepth 100000 in
theorem pllaw : WideMaps.KeyLaw Try.prog 73 := deep_law_laid pllaid (m := 2) (by omega) plrow (by kernel_rfl) plwide
theorem plkeyed : Maps.Keyed Try.prog 73 := Maps.Keyed.of_law pllaw
theorem plkt : Try.prog.keyType 73 = true := by kernel_rfl
def plval (t u : Int) : Value := .agg #[.int .i64 t, .int .i64 u]
theorem plformed {a b : Value} : (Value.agg #[a, b]).formed Try.prog 73 = true := by simp [Value.formed, Try.underlying73, plcells]
def pllit (t u : Int) : Lit := .string (keyBytes [.int .i64 t, .int .i64 u])
theorem plkey {t u : Int} (ht : (Lit.int .i64 t).wf = true) (hu : (Lit.int .i64 u).wf = true) : keyOf Try.prog 73 (plval t u) = some (pllit t u) := by
  obtain ⟨d, hd⟩ : ∃ d, Try.prog.types.size = d + 1 := ⟨Try.prog.types.size - 1, by have h : (73 : Nat) < Try.prog.types.size := plrow; omega⟩
  have hc : Try.prog.cellsOf 3 = 1 := by kernel_rfl
  unfold keyOf plval pllit
  rw [Try.underlying73]
  simp only [plkt, plformed, Bool.and_self, if_true]
  rw [hd]
  simp [Program.keyLits, Try.underlying73, Try.underlying3, plcells, hc, Value.cells, ht, hu]
set_option maxRecDepth 100000 in
theorem plinv {v : Value} {kl : Lit} (h : keyOf Try.prog 73 v = some kl) : ∃ t u : Int, v = plval t u ∧ (Lit.int .i64 t).wf = true ∧ (Lit.int .i64 u).wf = true ∧ kl = pllit t u := by
  have h0 := h
  have hf : v.formed Try.prog 73 = true := by
    unfold keyOf at h
    rw [Try.underlying73] at h
    simp only [plkt, Bool.true_and] at h
    cases hv : v.formed Try.prog 73
    · rw [hv] at h; simp at h
    · rfl
  obtain ⟨cs, rfl⟩ : ∃ cs, v = .agg cs := by
    cases v <;> simp [Value.formed, Try.underlying73] at hf ⊢
  have hsz : cs.size = 2 := by
    simp only [Value.formed, Try.underlying73, plcells, beq_iff_eq] at hf
    exact hf
  obtain ⟨a, b, rfl⟩ : ∃ a b, cs = #[a, b] := by
    obtain ⟨l⟩ := cs
    match l, hsz with
    | [a, b], _ => exact ⟨a, b, rfl⟩
  obtain ⟨d, hd⟩ : ∃ d, Try.prog.types.size = d + 1 := ⟨Try.prog.types.size - 1, by have h : (73 : Nat) < Try.prog.types.size := plrow; omega⟩
  have hc : Try.prog.cellsOf 3 = 1 := by kernel_rfl
  have key : ∀ x : Value, (∃ n : Int, x = .int .i64 n ∧ (Lit.int .i64 n).wf = true) ∨ Try.prog.keyLits (d + 1) 3 [x] = none := by
    intro x
    cases x
    case int q n =>
      by_cases hq : q = .i64 ∧ (Lit.int .i64 n).wf = true
      · obtain ⟨rfl, hw⟩ := hq
        exact .inl ⟨n, rfl, hw⟩
      · right
        simp only [Program.keyLits, Try.underlying3]
        rw [if_neg hq]
    all_goals (right; simp [Program.keyLits, Try.underlying3])
  unfold keyOf at h
  rw [Try.underlying73] at h
  simp only [plkt, plformed, Bool.and_self, if_true] at h
  rw [hd] at h
  rw [Program.keyLits.eq_def] at h
  simp only [Try.underlying73, Value.cells] at h
  rcases key a with ⟨t, rfl, ht⟩ | ha
  · rcases key b with ⟨u, rfl, hu⟩ | hb
    · refine ⟨t, u, rfl, ht, hu, ?_⟩
      have h1 := plkey ht hu
      unfold plval at h1
      rw [h1] at h0
      injection h0 with h0
      exact h0.symm
    · simp [plcells, hc, hb] at h
  · simp [plcells, hc, ha] at h


theorem plint_inv {v : Value} {z : DataW Unit × List MemPlace} (h : plainElem (H := Unit) Try.prog 3 v = some z) : ∃ c : Int, v = .int .i64 c ∧ z = (.lit (.int .i64 c), []) ∧ (Lit.int .i64 c).wf = true := by
  obtain ⟨c, h1, h2, h3⟩ := plainElem_int_inv Try.underlying3 h
  first | exact ⟨c, h1, h2, h3⟩ | exact ⟨c, h1, h3, h2⟩
section
variable {w : World} {ops : Array Oper} {rest : List Oper} {o : Oper} {a : Act} {Q : Exit → Act → World → Prop}
set_option maxRecDepth 100000 in
theorem plint_next (hg : o.guard = none) (it : Operand) (hop : o.op = Op.next it false) (b r n : Nat) (D : DataW Unit) (left : Lit → Bool) (cnt : Nat)
    (hit : a.eval it = .pointer (some ⟨r, 0, none⟩)) (h : w.ranges Try.prog 73 (plainElem (H := Unit) Try.prog 3) b r n D left cnt)
    (hDone : cnt = 0 → (∀ kl, left kl = false) → wpList Try.prog ops Q rest (a.put o.dst (.tuple #[.bool false])) w)
    (hMore : ∀ (t u : Int) (c : Int) (w' : World) (cnt' : Nat), (Lit.int .i64 t).wf = true → (Lit.int .i64 u).wf = true → (Lit.int .i64 c).wf = true → left (pllit t u) = true → (∀ zd, D.atKey (pllit t u) zd = .lit (.int .i64 c)) → w'.ranges Try.prog 73 (plainElem (H := Unit) Try.prog 3) b r n D (fun z => left z && !z.sameKey (pllit t u)) cnt' → cnt' < cnt →
      w.grownBy w' (some r) → w'.heap.size = w.heap.size → (Instr.entry (.pointer (some ⟨r, 0, none⟩))).run Try.prog w' = .ok (.tuple #[.agg #[.int .i64 t, .int .i64 u], .int .i64 c]) w' → wpList Try.prog ops Q rest (a.put o.dst (.tuple #[.bool true, .agg #[.int .i64 t, .int .i64 u], .int .i64 c])) w') :
    wpList Try.prog ops Q (o :: rest) a w := by
  refine wpList_next_ranges w hg it hop 73 plkeyed (plainElem (H := Unit) Try.prog 3) (fun p : Int × Int => plval p.1 p.2) (fun c : Int => .int .i64 c) (fun key kl hk => ?_) (fun v y hv => ?_) b r n D left cnt hit h hDone ?_
  · obtain ⟨t, u, rfl, _⟩ := plinv hk
    exact ⟨(t, u), rfl⟩
  · obtain ⟨c, rfl, _⟩ := plint_inv hv
    exact ⟨c, rfl⟩
  · rintro ⟨x1, x2⟩ c kl y w' cnt' hk hl hv hat hrg hlt hgr hsz hen
    obtain ⟨t, u, e, ht, hu, rfl⟩ := plinv hk
    unfold plval at e
    simp only [Value.agg.injEq, Array.mk.injEq, List.cons.injEq, Value.int.injEq, true_and, and_true] at e
    obtain ⟨rfl, rfl⟩ := e
    obtain ⟨c', e, rfl, hw⟩ := plint_inv hv
    obtain rfl : c = c' := by simpa using e
    exact hMore x1 x2 c w' cnt' ht hu hw hl hat hrg hlt hgr hsz hen
end


theorem pllit_inj {t u t' u' : Int} (h1 : (Lit.int .i64 t).wf = true) (h2 : (Lit.int .i64 u).wf = true) (h3 : (Lit.int .i64 t').wf = true) (h4 : (Lit.int .i64 u').wf = true) (h : pllit t u = pllit t' u') : t = t' ∧ u = u' := by
  have e1 := plkey h1 h2
  have e2 := plkey h3 h4
  rw [← h] at e2
  have := plkeyed.inj e1 e2
  unfold plval at this
  injection this with this
  simp at this
  exact this
theorem pllit_key (t u : Int) : WideAt.IsKeyLit (pllit t u) := by unfold pllit; simp [WideAt.IsKeyLit]
theorem wf_nat {k : Nat} (h : k ≤ 1099511627776) : (Lit.int .i64 (k : Int)).wf = true := by
  simp [Lit.wf, IntKind.min, IntKind.max, IntKind.signed, IntKind.bits]; omega
/-- The map holds for each operation of s, by its transaction and number, what f gives, and no more. -/
structure KvIs (D : DataW Unit) (s : List OpV) (f : Nat → OpV → Option Int) : Prop where
  isMap : Maps.IsMap D
  has : ∀ t u : Int, (Lit.int .i64 t).wf = true → (Lit.int .i64 u).wf = true → (Maps.has D (pllit t u) = true ↔ ∃ i o, s[i]? = some o ∧ o.tx = t ∧ (cntN s t i : Int) = u ∧ (f i o).isSome = true)
  val : ∀ i o v, s[i]? = some o → f i o = some v → ∀ z, D.atKey (pllit o.tx (cntN s o.tx i : Int)) z = .lit (.int .i64 v)
theorem KvIs.empty {s : List OpV} : KvIs (.map []) s fun _ _ => none := by
  refine ⟨Maps.isMap_empty, fun t u _ _ => ⟨fun h => by simp [Maps.has] at h, fun h => ?_⟩, fun i o v _ h => by cases h⟩
  obtain ⟨i, o, _, _, _, h⟩ := h
  cases h
theorem KvIs.put {D : DataW Unit} {s : List OpV} {f g : Nat → OpV → Option Int} (h : KvIs D s f) (hx : Tx4 s) (hn : s.length ≤ 1099511627776) {i : Nat} {o : OpV} (hi : s[i]? = some o) {v : Int} (hg : g i o = some v) (hgo : ∀ j p, j ≠ i → s[j]? = some p → g j p = f j p) :
    KvIs (D.put (pllit o.tx (cntN s o.tx i : Int)) (.lit (.int .i64 v))) s g := by
  have hil := (List.getElem?_eq_some_iff.1 hi).1
  have w1 : (Lit.int .i64 o.tx).wf = true := wf_small (hx o (List.mem_of_getElem? hi))
  have w2 : (Lit.int .i64 (cntN s o.tx i : Int)).wf = true := wf_nat (by have := cntN_le (s := s) (t := o.tx) (i := i); omega)
  have hkey : ∀ j p, s[j]? = some p → pllit p.tx (cntN s p.tx j : Int) = pllit o.tx (cntN s o.tx i : Int) → j = i := fun j p hj e => by
    have hjl := (List.getElem?_eq_some_iff.1 hj).1
    obtain ⟨e1, e2⟩ := pllit_inj (wf_small (hx p (List.mem_of_getElem? hj))) (wf_nat (by have := cntN_le (s := s) (t := p.tx) (i := j); omega)) w1 w2 e
    have e3 : cntN s p.tx j = cntN s o.tx i := by omega
    rw [e1] at e3
    exact At.uniq (s := s) (t := o.tx) (k := cntN s o.tx i) ⟨p, hj, e1, e3⟩ ⟨o, hi, rfl, rfl⟩
  refine ⟨h.isMap.put _ _, fun t u ht hu => ?_, fun j p w hj hw z => ?_⟩
  · by_cases he : pllit t u = pllit o.tx (cntN s o.tx i : Int)
    · obtain ⟨e1, e2⟩ := pllit_inj ht hu w1 w2 he
      subst e1; subst e2
      rw [Maps.has_put_same h.isMap (pllit_key _ _)]
      exact ⟨fun _ => ⟨i, o, hi, rfl, rfl, by rw [hg]; rfl⟩, fun _ => rfl⟩
    · rw [Maps.has_put_other he, h.has t u ht hu]
      constructor
      · rintro ⟨j, p, hj, e1, e2, e3⟩
        refine ⟨j, p, hj, e1, e2, ?_⟩
        rw [hgo j p (fun e => he (by subst e; rw [hi] at hj; injection hj with hj; subst hj; rw [← e2, e1])) hj]
        exact e3
      · rintro ⟨j, p, hj, e1, e2, e3⟩
        refine ⟨j, p, hj, e1, e2, ?_⟩
        rw [hgo j p (fun e => he (by subst e; rw [hi] at hj; injection hj with hj; subst hj; rw [← e2, e1])) hj] at e3
        exact e3
  · by_cases hji : j = i
    · subst hji
      rw [hi] at hj
      injection hj with hj
      subst hj
      rw [hg] at hw
      injection hw with hw
      subst hw
      exact Maps.atKey_put_same h.isMap (pllit_key _ _) _ _
    · rw [Maps.atKey_put_other (fun e => hji (hkey j p hj e))]
      rw [hgo j p hji hj] at hw
      exact h.val j p w hj hw z
theorem KvIs.congr {D : DataW Unit} {s : List OpV} {f g : Nat → OpV → Option Int} (h : KvIs D s f) (hg : ∀ j p, s[j]? = some p → g j p = f j p) : KvIs D s g := by
  refine ⟨h.isMap, fun t u ht hu => ?_, fun j p w hj hw z => ?_⟩
  · rw [h.has t u ht hu]
    constructor
    · rintro ⟨j, p, hj, e1, e2, e3⟩; exact ⟨j, p, hj, e1, e2, by rw [hg j p hj]; exact e3⟩
    · rintro ⟨j, p, hj, e1, e2, e3⟩; exact ⟨j, p, hj, e1, e2, by rw [hg j p hj] at e3; exact e3⟩
  · rw [hg j p hj] at hw
    exact h.val j p w hj hw z
/-- Where each operation stands; those below k. -/
def plF (k : Nat) (i : Nat) (o : OpV) : Option Int := if i < k then some (i : Int) else none
theorem plF_put {D : DataW Unit} {s : List OpV} {k : Nat} {o : OpV} (h : KvIs D s (plF k)) (hx : Tx4 s) (hn : s.length ≤ 1099511627776) (hk : s[k]? = some o) : KvIs (D.put (pllit o.tx (cntN s o.tx k : Int)) (.lit (.int .i64 (k : Int)))) s (plF (k + 1)) := by
  refine h.put hx hn hk (by simp [plF]) fun j p hj _ => ?_
  unfold plF
  by_cases e : j < k
  · rw [if_pos e, if_pos (by omega)]
  · rw [if_neg e, if_neg (by omega)]
/-- What the whole map says at a key. -/
theorem KvIs.key {D : DataW Unit} {s : List OpV} {f : Nat → OpV → Option Int} (h : KvIs D s f) {t u c : Int} (ht : (Lit.int .i64 t).wf = true) (hu : (Lit.int .i64 u).wf = true) (hk : Maps.has D (pllit t u) = true) (hat : ∀ z, D.atKey (pllit t u) z = .lit (.int .i64 c)) :
    ∃ i o, s[i]? = some o ∧ o.tx = t ∧ (cntN s t i : Int) = u ∧ f i o = some c := by
  obtain ⟨i, o, hi, e1, e2, e3⟩ := (h.has t u ht hu).1 hk
  obtain ⟨v, hv⟩ := Option.isSome_iff_exists.1 e3
  refine ⟨i, o, hi, e1, e2, ?_⟩
  have h1 := h.val i o v hi hv (.lit (.int .i64 0))
  rw [e1, e2, hat] at h1
  injection h1 with h1
  injection h1 with _ h1
  rw [hv, h1]
/-- The counts of each transaction, as the array has them. -/
def cnts (s : List OpV) (k : Nat) : List Int := [(cntN s 0 k : Int), (cntN s 1 k : Int), (cntN s 2 k : Int), (cntN s 3 k : Int)]
theorem cnts_zero (s : List OpV) : cnts s 0 = [0, 0, 0, 0] := by simp [cnts, cntN_zero]
theorem cnts_at {s : List OpV} {k T : Nat} (hT : T ≤ 3) : (cnts s k)[T]? = some (cntN s (T : Int) k : Int) := by
  rcases (by omega : T = 0 ∨ T = 1 ∨ T = 2 ∨ T = 3) with rfl | rfl | rfl | rfl <;> rfl
theorem cnts_succ {s : List OpV} {k T : Nat} {o : OpV} (h : s[k]? = some o) (ht : o.tx = (T : Int)) (hT : T ≤ 3) : cnts s (k + 1) = (cnts s k).set T ((cntN s (T : Int) k : Int) + 1) := by
  have hs : ∀ t : Int, (cntN s t (k + 1) : Int) = (cntN s t k : Int) + if t = (T : Int) then 1 else 0 := fun t => by
    rw [cntN_succ h, ht]
    by_cases e : t = (T : Int)
    · rw [if_pos e, if_pos e.symm]; rfl
    · rw [if_neg e, if_neg (fun h => e h.symm)]; rfl
  unfold cnts
  rw [hs 0, hs 1, hs 2, hs 3]
  rcases (by omega : T = 0 ∨ T = 1 ∨ T = 2 ∨ T = 3) with rfl | rfl | rfl | rfl <;> simp
end Go.Proofs.Ytkbclcgdkbhgdaa
