/-
  Texts that the proof rests on, joined: part 7.
-/
import Derived.Maps.Keyed
import Derived.Maps.Own
import Derived.Maps.OwnOps
import Derived.Maps.Range
import Derived.Maps.RangeWalk
import Derived.Maps.Views
import Derived.DeepKeys4
import Derived.Test.YtncebpmckbcabaaSSt2
import Derived.Test.YtncebpmckbcabaaSSt4
import Derived.Test.YtncebpmckbcabaaSSt5
import Derived.Test.YtncebpmckbcabaaSSt6
namespace Go.Proofs.Ytncebpmckbcabaa
open Go.RowKit
set_option linter.unusedVariables false

/-! where a transaction takes its last lock -/
def takesB (t : Int) (o : OpV) : Bool := o.tx == t && decide (o.kind ≤ 1)
/-! the points, as the reference gathers them -/
/-! the points, as the program gathers them: from the end -/
/-! two phases -/
def twoR (a b : OpV) : Prop := ¬ (a.tx = b.tx ∧ a.kind = 2 ∧ b.kind ≤ 1)
instance (a b : OpV) : Decidable (twoR a b) := by unfold twoR; infer_instance
/-! legal steps: who holds a lock for itself holds it alone -/
/-- A lock that comes is taken. -/
theorem comes {st : List OpV} {u x : Int} {l : Nat} {o : OpV} (h : st[l]? = some o) {b : Int} (hb : 0 ≤ b) (h0 : heldI (st.take l) u x < b) (h1 : b ≤ heldI (st.take (l + 1)) u x) : takesB u o = true ∧ o.item = x := by
  rw [heldI_succ h] at h1
  unfold hStep at h1
  split at h1
  · rename_i hc
    split at h1
    · omega
    · split at h1
      · rename_i h3
        exact ⟨by simp [takesB, hc.1, h3], hc.2⟩
      · omega
  · omega
/-- A lock that goes is given back, where steps are legal. -/
theorem goes {st : List OpV} {t x : Int} {j : Nat} {o : OpV} (hv : ∀ o ∈ st, okStep o = true) (h : st[j]? = some o) (hl : illAtB st j = false) {b : Int} (hb : 0 ≤ b) (h0 : b ≤ heldI (st.take j) t x) (h1 : heldI (st.take (j + 1)) t x < b) : o.tx = t ∧ o.kind = 2 := by
  have hk := okStep_iff.1 (hv o (List.mem_of_getElem? h))
  have hr := heldI_rng (st := st.take j) (fun q hq => hv q (List.mem_of_mem_take hq)) t x
  unfold illAtB at hl
  rw [h] at hl
  simp only at hl
  rw [heldI_succ h] at h1
  unfold hStep at h1
  split at h1
  · rename_i hc
    refine ⟨hc.1, ?_⟩
    split at h1
    · assumption
    · split at h1
      · exfalso
        unfold illB at hl
        rw [hc.1, hc.2] at hl
        by_cases k0 : o.kind = 0
        · rw [if_pos k0, Bool.or_eq_false_iff, decide_eq_false_iff_not] at hl
          omega
        · omega
      · omega
  · omega
end Go.Proofs.Ytncebpmckbcabaa
namespace Go.Proofs.Ytncebpmckbcabaa
open Go.RowKit
set_option linter.unusedVariables false


theorem gpcells : Try.prog.cellsOf 167 = 2 := by kernel_rfl
theorem gprow : (167 : TypeId) < Try.prog.types.size := of_decide_eq_true (by kernel_rfl)
theorem gpwide : (match Try.prog.underlying 167 with | some (.array _ _) | some (.struct _) => true | _ => false) = true := by rw [Try.underlying167]
theorem gplaid : laidOutB Try.prog = true := by kernel_rfl
set_option maxRecDepth 100000 in
theorem gplaw : WideMaps.KeyLaw Try.prog 167 := deep_law_laid gplaid (m := 2) (by omega) gprow (by kernel_rfl) gpwide
theorem gpkeyed : Maps.Keyed Try.prog 167 := Maps.Keyed.of_law gplaw
theorem gpkt : Try.prog.keyType 167 = true := by kernel_rfl
def gpval (t u : Int) : Value := .agg #[.int .i64 t, .int .i64 u]
theorem gpformed {a b : Value} : (Value.agg #[a, b]).formed Try.prog 167 = true := by simp [Value.formed, Try.underlying167, gpcells]
def gplit (t u : Int) : Lit := .string (keyBytes [.int .i64 t, .int .i64 u])
theorem gpkey {t u : Int} (ht : (Lit.int .i64 t).wf = true) (hu : (Lit.int .i64 u).wf = true) : keyOf Try.prog 167 (gpval t u) = some (gplit t u) := by
  obtain ⟨d, hd⟩ : ∃ d, Try.prog.types.size = d + 1 := ⟨Try.prog.types.size - 1, by have h : (167 : Nat) < Try.prog.types.size := gprow; omega⟩
  have hc : Try.prog.cellsOf 3 = 1 := by kernel_rfl
  unfold keyOf gpval gplit
  rw [Try.underlying167]
  simp only [gpkt, gpformed, Bool.and_self, if_true]
  rw [hd]
  simp [Program.keyLits, Try.underlying167, Try.underlying3, gpcells, hc, Value.cells, ht, hu]
set_option maxRecDepth 100000 in
theorem gpinv {v : Value} {kl : Lit} (h : keyOf Try.prog 167 v = some kl) : ∃ t u : Int, v = gpval t u ∧ (Lit.int .i64 t).wf = true ∧ (Lit.int .i64 u).wf = true ∧ kl = gplit t u := by
  have h0 := h
  have hf : v.formed Try.prog 167 = true := by
    unfold keyOf at h
    rw [Try.underlying167] at h
    simp only [gpkt, Bool.true_and] at h
    cases hv : v.formed Try.prog 167
    · rw [hv] at h; simp at h
    · rfl
  obtain ⟨cs, rfl⟩ : ∃ cs, v = .agg cs := by
    cases v <;> simp [Value.formed, Try.underlying167] at hf ⊢
  have hsz : cs.size = 2 := by
    simp only [Value.formed, Try.underlying167, gpcells, beq_iff_eq] at hf
    exact hf
  obtain ⟨a, b, rfl⟩ : ∃ a b, cs = #[a, b] := by
    obtain ⟨l⟩ := cs
    match l, hsz with
    | [a, b], _ => exact ⟨a, b, rfl⟩
  obtain ⟨d, hd⟩ : ∃ d, Try.prog.types.size = d + 1 := ⟨Try.prog.types.size - 1, by have h : (167 : Nat) < Try.prog.types.size := gprow; omega⟩
  have hc : Try.prog.cellsOf 3 = 1 := by kernel_rfl
  have key : ∀ x : Value, (∃ n : Int, x = .int .i64 n ∧ (Lit.int .i64 n).wf = true) ∨ Try.prog.keyLits (d + 1) 3 [x] = none := by
    intro x
    cases x
    case int q n =>
      by_cases hq : q = .i64 ∧ (Lit.int .i64 n).wf = true
      · obtain ⟨rfl, hw⟩ := hq
        exact .inl ⟨n, rfl, hw⟩
      · right
        simp only [Program.keyLits, Try.underlying3]
        rw [if_neg hq]
    all_goals (right; simp [Program.keyLits, Try.underlying3])
  unfold keyOf at h
  rw [Try.underlying167] at h
  simp only [gpkt, gpformed, Bool.and_self, if_true] at h
  rw [hd] at h
  rw [Program.keyLits.eq_def] at h
  simp only [Try.underlying167, Value.cells] at h
  rcases key a with ⟨t, rfl, ht⟩ | ha
  · rcases key b with ⟨u, rfl, hu⟩ | hb
    · refine ⟨t, u, rfl, ht, hu, ?_⟩
      have h1 := gpkey ht hu
      unfold gpval at h1
      rw [h1] at h0
      injection h0 with h0
      exact h0.symm
    · simp [gpcells, hc, hb] at h
  · simp [gpcells, hc, ha] at h


theorem gpbool_inv0 {P : Program} {e : TypeId} (he : P.underlying e = some .bool) {v : Value} {z : DataW Unit × List MemPlace} (h : plainElem (H := Unit) P e v = some z) : ∃ c : Bool, v = .bool c ∧ z = (.lit (.bool c), []) := by
  unfold plainElem at h
  rw [he] at h
  cases v <;> simp at h
  exact ⟨_, rfl, h.symm⟩
theorem gpbool_inv {v : Value} {z : DataW Unit × List MemPlace} (h : plainElem (H := Unit) Try.prog 4 v = some z) : ∃ c : Bool, v = .bool c ∧ z = (.lit (.bool c), []) := gpbool_inv0 Try.underlying4 h
section
variable {w : World} {ops : Array Oper} {rest : List Oper} {o : Oper} {a : Act} {Q : Exit → Act → World → Prop}
set_option maxRecDepth 100000 in
theorem gpbool_next (hg : o.guard = none) (it : Operand) (hop : o.op = Op.next it false) (b r n : Nat) (D : DataW Unit) (left : Lit → Bool) (cnt : Nat)
    (hit : a.eval it = .pointer (some ⟨r, 0, none⟩)) (h : w.ranges Try.prog 167 (plainElem (H := Unit) Try.prog 4) b r n D left cnt)
    (hDone : cnt = 0 → (∀ kl, left kl = false) → wpList Try.prog ops Q rest (a.put o.dst (.tuple #[.bool false])) w)
    (hMore : ∀ (t u : Int) (c : Bool) (w' : World) (cnt' : Nat), (Lit.int .i64 t).wf = true → (Lit.int .i64 u).wf = true → left (gplit t u) = true → (∀ zd, D.atKey (gplit t u) zd = .lit (.bool c)) → w'.ranges Try.prog 167 (plainElem (H := Unit) Try.prog 4) b r n D (fun z => left z && !z.sameKey (gplit t u)) cnt' → cnt' < cnt →
      w.grownBy w' (some r) → w'.heap.size = w.heap.size → (Instr.entry (.pointer (some ⟨r, 0, none⟩))).run Try.prog w' = .ok (.tuple #[.agg #[.int .i64 t, .int .i64 u], .bool c]) w' → wpList Try.prog ops Q rest (a.put o.dst (.tuple #[.bool true, .agg #[.int .i64 t, .int .i64 u], .bool c])) w') :
    wpList Try.prog ops Q (o :: rest) a w := by
  refine wpList_next_ranges w hg it hop 167 gpkeyed (plainElem (H := Unit) Try.prog 4) (fun p : Int × Int => gpval p.1 p.2) (fun c : Bool => .bool c) (fun key kl hk => ?_) (fun v y hv => ?_) b r n D left cnt hit h hDone ?_
  · obtain ⟨t, u, rfl, _⟩ := gpinv hk
    exact ⟨(t, u), rfl⟩
  · obtain ⟨c, rfl, _⟩ := gpbool_inv hv
    exact ⟨c, rfl⟩
  · rintro ⟨x1, x2⟩ c kl y w' cnt' hk hl hv hat hrg hlt hgr hsz hen
    obtain ⟨t, u, e, ht, hu, rfl⟩ := gpinv hk
    unfold gpval at e
    simp only [Value.agg.injEq, Array.mk.injEq, List.cons.injEq, Value.int.injEq, true_and, and_true] at e
    obtain ⟨rfl, rfl⟩ := e
    obtain ⟨c', e, rfl⟩ := gpbool_inv hv
    obtain rfl : c = c' := by simpa using e
    exact hMore x1 x2 c w' cnt' ht hu hl hat hrg hlt hgr hsz hen
end

end Go.Proofs.Ytncebpmckbcabaa
namespace Go.Proofs.Ytncebpmckbcabaa
open Go.RowKit Go.BigFrame
set_option linter.unusedVariables false

def confB (a b : OpV) : Bool := a.tx != b.tx && isAcc a && isAcc b && a.item == b.item && (a.kind == 1 || b.kind == 1)

set_option maxRecDepth 100000 in
set_option maxHeartbeats 2000000 in
theorem conflicts_any (a b : OpV) (w : World) :
    Calls Try.prog 146 #[a.val, b.val] w fun e w' => e = .returned (.bool (confB a b)) ∧ Below w.heap.size w w' := by
  obtain ⟨at_, ak, ai⟩ := a
  obtain ⟨bt, bk, bi⟩ := b
  obtain ⟨r1, h1⟩ : ∃ z, (at_ != bt) = z := ⟨_, rfl⟩
  obtain ⟨r2, h2⟩ : ∃ z, isAcc ⟨at_, ak, ai⟩ = z := ⟨_, rfl⟩
  obtain ⟨r3, h3⟩ : ∃ z, isAcc ⟨bt, bk, bi⟩ = z := ⟨_, rfl⟩
  obtain ⟨r4, h4⟩ : ∃ z, (ai == bi) = z := ⟨_, rfl⟩
  obtain ⟨r5, h5⟩ : ∃ z, (ak == 1) = z := ⟨_, rfl⟩
  obtain ⟨r6, h6⟩ : ∃ z, (bk == 1) = z := ⟨_, rfl⟩
  have HR : Hid (confB ⟨at_, ak, ai⟩ ⟨bt, bk, bi⟩ = (r1 && r2 && r3 && r4 && (r5 || r6))) := by
    show _ = _
    unfold confB
    simp only
    rw [h1, h2, h3, h4, h5, h6]
  have hA : ∀ W : World, Calls Try.prog 111 #[.agg #[.int .i64 at_, .int .i64 ak, .int .i64 ai]] W fun e w' => e = .returned (.bool r2) ∧ Below W.heap.size W w' := fun W => by
    have := access_any ⟨at_, ak, ai⟩ W; rw [h2] at this; exact this
  have hB : ∀ W : World, Calls Try.prog 111 #[.agg #[.int .i64 bt, .int .i64 bk, .int .i64 bi]] W fun e w' => e = .returned (.bool r3) ∧ Below W.heap.size W w' := fun W => by
    have := access_any ⟨bt, bk, bi⟩ W; rw [h3] at this; exact this
  have HA := Lib.hid hA
  have HB := Lib.hid hB
  obtain ⟨W, hW⟩ : ∃ W : World, W = (w.alloc (.cells #[.int .i64 at_, .int .i64 ak, .int .i64 ai] 62)).alloc (.cells #[.int .i64 bt, .int .i64 bk, .int .i64 bi] 62) := ⟨_, rfl⟩
  obtain ⟨W1, hW1⟩ : ∃ W : World, W = w.alloc (.cells #[.int .i64 at_, .int .i64 ak, .int .i64 ai] 62) := ⟨_, rfl⟩
  obtain ⟨L0, L1, L2, hbW1, hs1⟩ := op_box hW1
  rw [← hW1] at hW
  obtain ⟨M0, M1, M2, hbW, hs2⟩ := op_box hW
  have hsz : W1.heap.size = w.heap.size + 1 := by rw [hW1]; simp
  rw [hsz] at M0 M1 M2
  have hbb := hbW1.trans (hbW.mono hbW1.size)
  have l0 : ∀ u : Later W, u.1.cell? ⟨w.heap.size, 0, none⟩ = some (.int .i64 at_) := fun u => L0 ⟨u.1, hbW.trans (u.2.mono hbW.size)⟩
  have l1 : ∀ u : Later W, u.1.cell? ⟨w.heap.size, 1, none⟩ = some (.int .i64 ak) := fun u => L1 ⟨u.1, hbW.trans (u.2.mono hbW.size)⟩
  have l2 : ∀ u : Later W, u.1.cell? ⟨w.heap.size, 2, none⟩ = some (.int .i64 ai) := fun u => L2 ⟨u.1, hbW.trans (u.2.mono hbW.size)⟩
  have HW : Hid ((w.alloc (.cells #[.int .i64 at_, .int .i64 ak, .int .i64 ai] 62)).alloc (.cells #[.int .i64 bt, .int .i64 bk, .int .i64 bi] 62) = W) := by show _ = _; rw [hW, hW1]
  unfold OpV.val
  clear hA hB hW hW1 L0 L1 L2 h2 h3
  cases r1
  · go_enter Try.func146, Try.ntmps146
    go_wp2_with fail
    go_ret
    rw [HW.out]
    exact ⟨ret_bool (by rw [HR.out]; rfl), hbb⟩
  · go_enter Try.func146, Try.ntmps146
    go_wp2_with fail
    rw [HW.out]
    refine (HA.out W).mono ?_
    rintro e w1 ⟨rfl, hb1⟩
    have x0 := l0 ⟨w1, hb1⟩
    have x2 := l2 ⟨w1, hb1⟩
    have x1 := l1 ⟨w1, hb1⟩
    have y0 := M0 ⟨w1, hb1⟩
    have y1 := M1 ⟨w1, hb1⟩
    have y2 := M2 ⟨w1, hb1⟩
    simp only at x0 x1 x2 y0 y1 y2
    have hbw1 := hbb.trans (hb1.mono hbb.size)
    cases r2
    · go_wp2_with fail
      go_ret
      exact ⟨ret_bool (by rw [HR.out]; rfl), hbw1⟩
    · go_wp2_with fail
      refine (HB.out w1).mono ?_
      rintro e w2 ⟨rfl, hb2⟩
      have hbW2 := hb1.trans (hb2.mono hb1.size)
      have z1 := l1 ⟨w2, hbW2⟩
      have z2 := l2 ⟨w2, hbW2⟩
      have v1 := M1 ⟨w2, hbW2⟩
      have v2 := M2 ⟨w2, hbW2⟩
      simp only at z1 z2 v1 v2
      have hbw2 := hbb.trans (hbW2.mono hbb.size)
      clear x0 x1 x2 y0 y1 y2 HA HB
      cases r3
      · go_wp2_with fail
        go_ret
        exact ⟨ret_bool (by rw [HR.out]; rfl), hbw2⟩
      · cases r4
        · go_wp2_with fail
          go_ret
          exact ⟨ret_bool (by rw [HR.out]; rfl), hbw2⟩
        · cases r5
          · cases r6
            · go_wp2_with fail
              go_ret
              exact ⟨ret_bool (by rw [HR.out]; rfl), hbw2⟩
            · go_wp2_with fail
              go_ret
              exact ⟨ret_bool (by rw [HR.out]; rfl), hbw2⟩
          · go_wp2_with fail
            go_ret
            exact ⟨ret_bool (by rw [HR.out]; rfl), hbw2⟩

end Go.Proofs.Ytncebpmckbcabaa
namespace Go.Proofs.Ytncebpmckbcabaa
open Go.RowKit
set_option linter.unusedVariables false

/-- One pair more. -/
def grStep (a : OpV) (rows : List Nat) (b : OpV) : List Nat := if confB a b then rowSet rows a.tx b.tx else rows
def grRow (L : List OpV) (i : Nat) (a : OpV) (rows : List Nat) (k : Nat) : List Nat := ((L.drop (i + 1)).take k).foldl (grStep a) rows
def grTo (L : List OpV) : Nat → List Nat
  | 0 => [0, 0, 0, 0]
  | i + 1 => match L[i]? with
    | some a => grRow L i a (grTo L i) (L.length - (i + 1))
    | none => grTo L i
def grI (L : List OpV) : List Nat := grTo L L.length
theorem grRow_zero {L : List OpV} {i : Nat} {a : OpV} {rows : List Nat} : grRow L i a rows 0 = rows := rfl
theorem grRow_succ {L : List OpV} {i k : Nat} {a b : OpV} {rows : List Nat} (h : L[i + 1 + k]? = some b) : grRow L i a rows (k + 1) = grStep a (grRow L i a rows k) b := by
  unfold grRow
  have h' : (L.drop (i + 1))[k]? = some b := by rw [List.getElem?_drop]; exact h
  rw [take_snoc h', List.foldl_append]; rfl
theorem grTo_succ {L : List OpV} {i : Nat} {a : OpV} (h : L[i]? = some a) : grTo L (i + 1) = grRow L i a (grTo L i) (L.length - (i + 1)) := by
  simp only [grTo, h]
theorem zero4 : Rows4 [0, 0, 0, 0] := ⟨rfl, by decide⟩
theorem grStep_ok {a b : OpV} {rows : List Nat} (h : Rows4 rows) (hb : 0 ≤ b.tx ∧ b.tx ≤ 3) : Rows4 (grStep a rows b) := by
  unfold grStep
  split
  · exact rowSet_ok h hb
  · exact h
theorem grRow_ok {L : List OpV} (hr : ∀ o ∈ L, 0 ≤ o.tx ∧ o.tx ≤ 3) {i : Nat} {a : OpV} {rows : List Nat} (h : Rows4 rows) (k : Nat) : Rows4 (grRow L i a rows k) := by
  unfold grRow
  have : ∀ (l : List OpV) (rows : List Nat), Rows4 rows → (∀ o ∈ l, 0 ≤ o.tx ∧ o.tx ≤ 3) → Rows4 (l.foldl (grStep a) rows) := by
    intro l
    induction l with
    | nil => intro rows h _; exact h
    | cons x r ih => intro rows h hl; exact ih _ (grStep_ok h (hl x (by simp))) (fun o ho => hl o (by simp [ho]))
  exact this _ _ h (fun o ho => hr o (List.mem_of_mem_drop (List.mem_of_mem_take ho)))
theorem grTo_ok {L : List OpV} (hr : ∀ o ∈ L, 0 ≤ o.tx ∧ o.tx ≤ 3) (i : Nat) : Rows4 (grTo L i) := by
  induction i with
  | zero => exact zero4
  | succ i ih =>
    simp only [grTo]
    split
    · exact grRow_ok hr ih _
    · exact ih
theorem grI_ok {L : List OpV} (hr : ∀ o ∈ L, 0 ≤ o.tx ∧ o.tx ≤ 3) : Rows4 (grI L) := grTo_ok hr _

/-- Two graphs with the same bits are one. -/
theorem rows_ext {R S : List Nat} (hR : Rows4 R) (hS : Rows4 S) (h : ∀ t u, t < 4 → u < 4 → (R.getD t 0).testBit u = (S.getD t 0).testBit u) : R = S := by
  refine List.ext_getElem (by rw [hR.1, hS.1]) fun i h1 h2 => ?_
  have hi : i < 4 := by rw [← hR.1]; exact h1
  have e1 : R.getD i 0 = R[i] := by rw [List.getD_eq_getElem?_getD, List.getElem?_eq_getElem h1]; rfl
  have e2 : S.getD i 0 = S[i] := by rw [List.getD_eq_getElem?_getD, List.getElem?_eq_getElem h2]; rfl
  refine Nat.eq_of_testBit_eq fun u => ?_
  rw [← e1, ← e2]
  by_cases hu : u < 4
  · exact h i u hi hu
  · have b : ∀ x : Nat, x < 16 → x.testBit u = false := fun x hx => by
      refine Nat.testBit_lt_two_pow (Nat.lt_of_lt_of_le hx ?_)
      have : (2:Nat) ^ 4 ≤ 2 ^ u := Nat.pow_le_pow_right (by omega) (by omega)
      omega
    rw [b _ (by rw [e1]; exact hR.2 _ (List.getElem_mem _)), b _ (by rw [e2]; exact hS.2 _ (List.getElem_mem _))]

/-- What the map holds: just the pairs of the graph. -/
structure MapIs (D : DataW Unit) (R : List Nat) : Prop where
  isMap : Maps.IsMap D
  has : ∀ t u : Int, (Lit.int .i64 t).wf = true → (Lit.int .i64 u).wf = true → (Maps.has D (gplit t u) = true ↔ (0 ≤ t ∧ t ≤ 3 ∧ 0 ≤ u ∧ u ≤ 3 ∧ (R.getD t.toNat 0).testBit u.toNat = true))
theorem wf_small {t : Int} (h : 0 ≤ t ∧ t ≤ 3) : (Lit.int .i64 t).wf = true := by
  simp [Lit.wf, IntKind.min, IntKind.max, IntKind.signed, IntKind.bits]; omega
theorem MapIs.empty : MapIs (.map []) [0, 0, 0, 0] := by
  refine ⟨Maps.isMap_empty, fun t u _ _ => ⟨fun h => by simp [Maps.has] at h, fun h => ?_⟩⟩
  exfalso
  obtain ⟨h1, h2, h3, h4, h5⟩ := h
  have : t = 0 ∨ t = 1 ∨ t = 2 ∨ t = 3 := by omega
  rcases this with rfl | rfl | rfl | rfl <;> simp at h5
theorem gplit_inj {t u t' u' : Int} (h1 : (Lit.int .i64 t).wf = true) (h2 : (Lit.int .i64 u).wf = true) (h3 : (Lit.int .i64 t').wf = true) (h4 : (Lit.int .i64 u').wf = true) (h : gplit t u = gplit t' u') : t = t' ∧ u = u' := by
  have e1 := gpkey h1 h2
  have e2 := gpkey h3 h4
  rw [← h] at e2
  have := gpkeyed.inj e1 e2
  unfold gpval at this
  injection this with this
  simp at this
  exact this
theorem gplit_key (t u : Int) : WideAt.IsKeyLit (gplit t u) := by unfold gplit; simp [WideAt.IsKeyLit]
theorem MapIs.put {D : DataW Unit} {R : List Nat} (h : MapIs D R) (hR : Rows4 R) {t u : Int} (ht : 0 ≤ t ∧ t ≤ 3) (hu : 0 ≤ u ∧ u ≤ 3) (d : DataW Unit) : MapIs (D.put (gplit t u) d) (rowSet R t u) := by
  refine ⟨h.isMap.put _ _, fun t' u' ht' hu' => ?_⟩
  obtain ⟨T, rfl⟩ := Int.eq_ofNat_of_zero_le ht.1
  obtain ⟨U, rfl⟩ := Int.eq_ofNat_of_zero_le hu.1
  by_cases he : gplit t' u' = gplit (T : Int) (U : Int)
  · obtain ⟨e1, e2⟩ := gplit_inj ht' hu' (wf_small ht) (wf_small hu) he
    subst e1; subst e2
    rw [Maps.has_put_same h.isMap (gplit_key _ _)]
    simp only [true_iff]
    refine ⟨by omega, by omega, by omega, by omega, ?_⟩
    rw [Int.toNat_natCast, Int.toNat_natCast, rowSet_bit hR (by omega)]
    simp
  · rw [Maps.has_put_other he, h.has t' u' ht' hu']
    constructor
    · rintro ⟨h1, h2, h3, h4, h5⟩
      exact ⟨h1, h2, h3, h4, by rw [rowSet_bit hR (by omega), h5]; rfl⟩
    · rintro ⟨h1, h2, h3, h4, h5⟩
      rw [rowSet_bit hR (by omega), Bool.or_eq_true] at h5
      refine ⟨h1, h2, h3, h4, h5.elim id fun hh => ?_⟩
      exfalso
      simp only [Bool.and_eq_true, decide_eq_true_eq] at hh
      apply he
      have e1 : t' = (T : Int) := by omega
      have e2 : u' = (U : Int) := by omega
      rw [e1, e2]
end Go.Proofs.Ytncebpmckbcabaa
namespace Go.Proofs.Ytncebpmckbcabaa
open Go.RowKit
set_option linter.unusedVariables false

/-- t stands ahead of u by a conflict. -/
def Cf (L : List OpV) (t u : Int) : Prop := ∃ (i k : Nat) (a b : OpV), i < k ∧ L[i]? = some a ∧ L[k]? = some b ∧ confB a b = true ∧ a.tx = t ∧ b.tx = u
def Tx4 (L : List OpV) : Prop := ∀ o ∈ L, 0 ≤ o.tx ∧ o.tx ≤ 3
theorem grRow_bit {L : List OpV} (hr : Tx4 L) {i : Nat} {a : OpV} (ha : 0 ≤ a.tx ∧ a.tx ≤ 3) {rows : List Nat} (h4 : Rows4 rows) (q : Nat) {t u : Nat} (hq : i + 1 + q ≤ L.length) :
    ((grRow L i a rows q).getD t 0).testBit u = true ↔ (rows.getD t 0).testBit u = true ∨ ∃ (d : Nat) (b : OpV), d < q ∧ L[i + 1 + d]? = some b ∧ confB a b = true ∧ a.tx = t ∧ b.tx = u := by
  induction q with
  | zero =>
    rw [grRow_zero]
    constructor
    · exact .inl
    · rintro (h | ⟨d, b, hd, _⟩)
      · exact h
      · omega
  | succ q ih =>
    have ih := ih (by omega)
    have e : L[i + 1 + q]? = some (L[i + 1 + q]'(by omega)) := List.getElem?_eq_getElem (by omega)
    generalize L[i + 1 + q]'(by omega) = b at e
    have hb := hr b (List.mem_of_getElem? e)
    rw [grRow_succ e]
    unfold grStep
    have h4' := grRow_ok hr (i := i) (a := a) h4 q
    obtain ⟨T, hT⟩ := Int.eq_ofNat_of_zero_le ha.1
    obtain ⟨U, hU⟩ := Int.eq_ofNat_of_zero_le hb.1
    constructor
    · intro h
      split at h
      · rename_i hc
        rw [hT, hU, rowSet_bit h4' (by omega), Bool.or_eq_true, ih] at h
        rcases h with (h | ⟨d, b', hd, r⟩) | h
        · exact .inl h
        · exact .inr ⟨d, b', by omega, r⟩
        · simp only [Bool.and_eq_true, decide_eq_true_eq] at h
          exact .inr ⟨q, b, by omega, e, hc, by omega, by omega⟩
      · rcases ih.1 h with h | ⟨d, b', hd, r⟩
        · exact .inl h
        · exact .inr ⟨d, b', by omega, r⟩
    · intro h
      have old : (rows.getD t 0).testBit u = true ∨ (∃ (d : Nat) (b : OpV), d < q ∧ L[i + 1 + d]? = some b ∧ confB a b = true ∧ a.tx = t ∧ b.tx = u) ∨ (confB a b = true ∧ a.tx = t ∧ b.tx = u) := by
        rcases h with h | ⟨d, b', hd, h1, r⟩
        · exact .inl h
        · by_cases hdq : d = q
          · subst hdq
            rw [e] at h1
            injection h1 with h1
            subst h1
            exact .inr (.inr r)
          · exact .inr (.inl ⟨d, b', by omega, h1, r⟩)
      split
      · rw [hT, hU, rowSet_bit h4' (by omega), Bool.or_eq_true, ih]
        rcases old with h | h | ⟨_, h1, h2⟩
        · exact .inl (.inl h)
        · exact .inl (.inr h)
        · right
          simp only [Bool.and_eq_true, decide_eq_true_eq]
          omega
      · rename_i hc
        rw [ih]
        rcases old with h | h | ⟨h1, _⟩
        · exact .inl h
        · exact .inr h
        · exact absurd h1 hc
theorem grTo_bit {L : List OpV} (hr : Tx4 L) (m : Nat) (hm : m ≤ L.length) {t u : Nat} :
    ((grTo L m).getD t 0).testBit u = true ↔ ∃ (i k : Nat) (a b : OpV), i < m ∧ i < k ∧ L[i]? = some a ∧ L[k]? = some b ∧ confB a b = true ∧ a.tx = t ∧ b.tx = u := by
  induction m with
  | zero =>
    constructor
    · intro h
      exfalso
      have : ∀ t : Nat, ([0, 0, 0, 0] : List Nat).getD t 0 = 0 := by
        intro t
        rcases (by omega : t = 0 ∨ t = 1 ∨ t = 2 ∨ t = 3 ∨ 4 ≤ t) with rfl | rfl | rfl | rfl | h
        · rfl
        · rfl
        · rfl
        · rfl
        · rw [List.getD_eq_getElem?_getD, List.getElem?_eq_none (by simpa using h)]; rfl
      simp only [grTo] at h
      rw [this] at h
      simp at h
    · rintro ⟨i, k, a, b, h, _⟩
      omega
  | succ m ih =>
    have ih := ih (by omega)
    have e : L[m]? = some (L[m]'(by omega)) := List.getElem?_eq_getElem (by omega)
    generalize L[m]'(by omega) = a at e
    rw [grTo_succ e, grRow_bit hr (hr a (List.mem_of_getElem? e)) (grTo_ok hr m) _ (by omega), ih]
    constructor
    · rintro (⟨i, k, a', b, h1, r⟩ | ⟨d, b, hd, hb, r⟩)
      · exact ⟨i, k, a', b, by omega, r⟩
      · exact ⟨m, m + 1 + d, a, b, by omega, by omega, e, hb, r⟩
    · rintro ⟨i, k, a', b, h1, h2, h3, h4, r⟩
      by_cases hi : i = m
      · subst hi
        rw [e] at h3
        injection h3 with h3
        subst h3
        have hk := (List.getElem?_eq_some_iff.1 h4).1
        exact .inr ⟨k - (i + 1), b, by omega, by rw [show i + 1 + (k - (i + 1)) = k by omega]; exact h4, r⟩
      · exact .inl ⟨i, k, a', b, by omega, h2, h3, h4, r⟩
theorem grI_bit {L : List OpV} (hr : Tx4 L) {t u : Nat} : ((grI L).getD t 0).testBit u = true ↔ Cf L t u := by
  unfold grI
  rw [grTo_bit hr _ (Nat.le_refl _)]
  constructor
  · rintro ⟨i, k, a, b, _, r⟩
    exact ⟨i, k, a, b, r⟩
  · rintro ⟨i, k, a, b, h, h2, r⟩
    exact ⟨i, k, a, b, (List.getElem?_eq_some_iff.1 h2).1, h, h2, r⟩
theorem Cf.ne {L : List OpV} {t u : Int} (h : Cf L t u) : t ≠ u := by
  obtain ⟨i, k, a, b, _, _, _, hc, rfl, rfl⟩ := h
  unfold confB at hc
  simp only [Bool.and_eq_true, bne_iff_ne] at hc
  exact hc.1.1.1.1
theorem gr_edge {L : List OpV} (hr : Tx4 L) {t u : Int} (ht : 0 ≤ t) (hu : 0 ≤ u) : edgeB (grI L) t u = true ↔ Cf L t u := by
  obtain ⟨T, rfl⟩ := Int.eq_ofNat_of_zero_le ht
  obtain ⟨U, rfl⟩ := Int.eq_ofNat_of_zero_le hu
  unfold edgeB
  rw [Int.toNat_natCast, Int.toNat_natCast]
  exact grI_bit hr
theorem accB_pair {rows : List Nat} {p : List Int} : ∀ {pre : List Int}, accB rows pre p = true → p.Pairwise (fun a b => edgeB rows b a = false) ∧ ∀ a ∈ pre, ∀ b ∈ p, edgeB rows b a = false := by
  induction p with
  | nil => intro pre _; exact ⟨List.Pairwise.nil, by simp⟩
  | cons t r ih =>
    intro pre h
    simp only [accB, Bool.and_eq_true, Bool.not_eq_true'] at h
    obtain ⟨h1, h2⟩ := h
    obtain ⟨h3, h4⟩ := ih h2
    rw [List.any_eq_false] at h1
    refine ⟨List.pairwise_cons.2 ⟨fun b hb => h4 t (by simp) b hb, h3⟩, fun a ha b hb => ?_⟩
    rcases List.mem_cons.1 hb with rfl | hb
    · simpa using h1 a ha
    · exact h4 a (by simp [ha]) b hb
theorem accB_of {rows : List Nat} {p : List Int} : ∀ {pre : List Int}, p.Pairwise (fun a b => edgeB rows b a = false) → (∀ a ∈ pre, ∀ b ∈ p, edgeB rows b a = false) → accB rows pre p = true := by
  induction p with
  | nil => intro pre _ _; rfl
  | cons t r ih =>
    intro pre h1 h2
    obtain ⟨h3, h4⟩ := List.pairwise_cons.1 h1
    simp only [accB, Bool.and_eq_true, Bool.not_eq_true']
    refine ⟨?_, ih h4 fun a ha b hb => ?_⟩
    · rw [List.any_eq_false]
      intro a ha
      rw [h2 a ha t (by simp)]; simp
    · rcases List.mem_append.1 ha with ha | ha
      · exact h2 a ha b (by simp [hb])
      · rw [List.mem_singleton] at ha
        subst ha
        exact h3 b hb
theorem accB_iff {rows : List Nat} {p : List Int} : accB rows [] p = true ↔ p.Pairwise (fun a b => edgeB rows b a = false) :=
  ⟨fun h => (accB_pair h).1, fun h => accB_of h (by simp)⟩
/-! ### the orders of a schedule -/
def ordO (s : List OpV) : List (List Int) := ordI (txsOf (committed s)) (grI (committed s))
theorem comm_sub {s : List OpV} {o : OpV} (h : o ∈ committed s) : o ∈ s := (List.mem_filter.1 h).1
theorem comm_tx4 {s : List OpV} (h : validS s = true) : Tx4 (committed s) := fun o ho => validS_tx3 h (comm_sub ho)
theorem txsOf_rng0 (s : List OpV) : ∀ t ∈ txsOf s, 0 ≤ t ∧ t ≤ 3 := fun t ht => by
  unfold txsOf at ht
  have := (List.mem_filter.1 ht).1
  simp at this
  omega
end Go.Proofs.Ytncebpmckbcabaa
