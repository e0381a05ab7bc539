/-
  append onto a row of the call's own: operations and integers, from whatever source; and rows of rows.
-/
import Derived.Test.YtddkjbibjjehjaaDoorBase
import Derived.Maps.AppendAt
import Derived.Deep.AppendLies
namespace Go.Proofs.YtddkjbibjjehjaaDoor
open Go.RowKit
set_option linter.unusedVariables false

theorem opInfo : (Tryd.prog.info? 38).map (fun i => (i.zero, i.size, i.bytes)) = some (some (.agg #[.int .i64 0, .int .i64 0, .int .i64 0]), 3, 24) := by kernel_rfl
theorem intInfo : (Tryd.prog.info? 3).map (fun i => (i.zero, i.size, i.bytes)) = some (some (.int .i64 0), 1, 8) := by kernel_rfl

/-- A source of cells: m elements of 'size' cells at address A. -/
def Src (w : World) (size : Nat) (A : Option Addr) (m : Nat) (news : List Value) : Prop :=
  news.length = m * size ∧ (∀ u ∈ news, u.oneCell' = true) ∧ (0 < m → ∃ ad, A = some ad ∧ ∀ j u, news[j]? = some u → w.cell? (ad.add j) = some u)

section
variable {P : Program} {w : World}

theorem run_app_nil (base : Nat) (t ty e : TypeId) (i : TypeInfo) (size : Nat) (ht : P.underlying t = some (.slice e)) (hi : P.info? e = some i)
    (v : Value) (n : Nat) (xs : List Value) (hown : w.ownsRow base e size v n xs) (c : Nat) : (Builtin.append_ #[t, t] ty #[v, .slice none 0 c]).run P w = .ok v w := by
  rcases hown.2 with ⟨rfl, rfl⟩ | ⟨g, cap, cur, rfl, _, _, hnc, _⟩
  · simp [Builtin.append_, run_underlying ht, sizeOf, typeInfo, hi, Builtin.lenOf, Builtin.firstCells]
  · simp [Builtin.append_, run_underlying ht, sizeOf, typeInfo, hi, Builtin.lenOf, Builtin.firstCells, hnc, storeCells]

theorem run_app (base : Nat) (t ty e : TypeId) (i : TypeInfo) (z : Value) (size bytes : Nat) (ht : P.underlying t = some (.slice e)) (hi : P.info? e = some i) (hz : i.zero = some z)
    (hsize : i.size = size) (hby : i.bytes = bytes) (hzs : z.cells.size = size) (hsz : 0 < size)
    (v : Value) (n : Nat) (xs : List Value) (hown : w.ownsRow base e size v n xs)
    (A : Option Addr) (m c : Nat) (news : List Value) (hr : Src w size A m news)
    (h63 : n + m ≤ maxLen) (hbytes : (n + m) * bytes ≤ 140737488355328) (hbase : base ≤ w.heap.size) :
    ∃ v' w', (Builtin.append_ #[t, t] ty #[v, .slice A m c]).run P w = .ok v' w' ∧ w'.ownsRow base e size v' (n + m) (xs ++ news) ∧ w.grownBy w' v.ownBlock ∧
      (v'.ownBlock = v.ownBlock ∨ v'.ownBlock = some w.heap.size) := by
  obtain ⟨hl, h1, hc⟩ := hr
  rcases A with _ | ad
  · have hm : m = 0 := by
      rcases Nat.eq_zero_or_pos m with h0 | h0
      · exact h0
      · obtain ⟨ad, h, _⟩ := hc h0
        cases h
    subst hm
    have hn : news = [] := List.eq_nil_of_length_eq_zero (by simpa using hl)
    subst hn
    exact ⟨v, w, run_app_nil base t ty e i size ht hi v n xs hown c, by simpa using hown, World.grownBy.refl w _, .inl rfl⟩
  · have hcells : ∀ j u, news[j]? = some u → w.cell? (ad.add j) = some u := by
      intro j u hu
      rcases Nat.eq_zero_or_pos m with h0 | h0
      · subst h0
        have hn : news = [] := List.eq_nil_of_length_eq_zero (by simpa using hl)
        subst hn
        simp at hu
      · obtain ⟨ad', h, hc'⟩ := hc h0
        injection h with h
        subst h
        exact hc' j u hu
    obtain ⟨v', w', hrun, h2, h3, _, h5⟩ := run_append_own_at (P := P) w base t ty e i z size bytes ht hi hz hsize hby hzs hsz v n xs hown ad m c news hl hcells h1 h63 hbytes hbase
    exact ⟨v', w', hrun, h2, h3, h5⟩

theorem wpList_app {ops : Array Oper} {rest : List Oper} {o : Oper} {a : Act} {Q : Exit → Act → World → Prop} (hgd : o.guard = none) (s x : Operand) (t : TypeId)
    (ho : o.op = .call { callee := .builtin .append, args := #[s, x], argTypes := #[t, t] })
    (base : Nat) (e : TypeId) (i : TypeInfo) (z : Value) (size bytes : Nat) (ht : P.underlying t = some (.slice e)) (hi : P.info? e = some i) (hz : i.zero = some z)
    (hsize : i.size = size) (hby : i.bytes = bytes) (hzs : z.cells.size = size) (hsz : 0 < size)
    (v : Value) (n : Nat) (xs : List Value) (hs : a.eval s = v) (hown : w.ownsRow base e size v n xs)
    (A : Option Addr) (m c : Nat) (news : List Value) (hx : a.eval x = .slice A m c) (hr : Src w size A m news)
    (h63 : n + m ≤ maxLen) (hbytes : (n + m) * bytes ≤ 140737488355328) (hbase : base ≤ w.heap.size)
    (h : ∀ v' w', w'.ownsRow base e size v' (n + m) (xs ++ news) → w.grownBy w' v.ownBlock → (v'.ownBlock = v.ownBlock ∨ v'.ownBlock = some w.heap.size) → wpList P ops Q rest (a.put o.dst v') w') : wpList P ops Q (o :: rest) a w := by
  refine wpList_plain hgd fun _ hK => ?_
  obtain ⟨v', w', hrun, h2, h3, h4⟩ := run_app (P := P) base t o.type e i z size bytes ht hi hz hsize hby hzs hsz v n xs hown A m c news hr h63 hbytes hbase
  unfold Oper.wp execOp
  simp only [ho, resolve, invoke, builtin, Sem.run_bind, Sem.run_pure, Result.andThen_ok, List.map_toArray, List.map_cons, List.map_nil, hs, hx, hrun]
  exact hK _ _ (h v' w' h2 h3 h4)
end

theorem opCells_find (ys : List OpV) : ∀ (j : Nat) (u : Value), (opCells ys)[j]? = some u →
    ∃ (i : Nat) (o : OpV), ys[i]? = some o ∧ ((j = i * 3 ∧ u = .int .i64 o.tx) ∨ (j = i * 3 + 1 ∧ u = .int .i64 o.kind) ∨ (j = i * 3 + 2 ∧ u = .int .i64 o.item)) := by
  induction ys with
  | nil => intro j u h; simp [opCells] at h
  | cons y r ih =>
    intro j u h
    match j, h with
    | 0, h => exact ⟨0, y, rfl, .inl ⟨rfl, by simpa [opCells, eq_comm] using h⟩⟩
    | 1, h => exact ⟨0, y, rfl, .inr (.inl ⟨rfl, by simpa [opCells, eq_comm] using h⟩)⟩
    | 2, h => exact ⟨0, y, rfl, .inr (.inr ⟨rfl, by simpa [opCells, eq_comm] using h⟩)⟩
    | j + 3, h =>
      obtain ⟨i, o, h1, h2⟩ := ih j u (by simpa [opCells] using h)
      exact ⟨i + 1, o, by simpa using h1, by rcases h2 with ⟨a, b⟩ | ⟨a, b⟩ | ⟨a, b⟩ <;> simp [b] <;> omega⟩
theorem addr_add (b off j : Nat) : (⟨b, off, none⟩ : Addr).add j = ⟨b, off + j, none⟩ := by
  unfold Addr.add
  split
  · subst_vars; rfl
  · rfl
theorem ROps.src {w : World} {A : Option Addr} {m : Nat} {ys : List OpV} (h : ROps w A m ys) : Src w 3 A m (opCells ys) := by
  obtain ⟨h1, h2, h3⟩ := h
  refine ⟨by rw [length_opCells, h1], opCells_one ys, fun hm => ?_⟩
  obtain ⟨b, off, hA, _, hc⟩ := h3 hm
  refine ⟨_, hA, fun j u hu => ?_⟩
  obtain ⟨i, o, ho, h⟩ := opCells_find ys j u hu
  obtain ⟨c0, c1, c2⟩ := hc i o ho
  rw [addr_add]
  rcases h with ⟨rfl, rfl⟩ | ⟨rfl, rfl⟩ | ⟨rfl, rfl⟩
  · exact c0
  · exact c1
  · exact c2
theorem RInts.src {w : World} {A : Option Addr} {m : Nat} {ys : List Int} (h : RInts w A m ys) : Src w 1 A m (intCells ys) := by
  obtain ⟨h1, h2, h3⟩ := h
  refine ⟨by simp [intCells, h1], intCells_one ys, fun hm => ?_⟩
  obtain ⟨b, off, hA, _, hc⟩ := h3 hm
  refine ⟨_, hA, fun j u hu => ?_⟩
  rw [addr_add]
  simp only [intCells, List.getElem?_map, Option.map_eq_some_iff] at hu
  obtain ⟨x, hx, rfl⟩ := hu
  exact hc j x hx

section
variable {w : World} {ops : Array Oper} {rest : List Oper} {o : Oper} {a : Act} {Q : Exit → Act → World → Prop}
/-- append of operations. -/
theorem app_ops (s x : Operand) {base : Nat} {v : Value} {n : Nat} {xs : List OpV} (hown : w.ownsRow base 38 3 v n (opCells xs)) (hbase : base ≤ w.heap.size)
    {A : Option Addr} {m c : Nat} {ys : List OpV} (hr : ROps w A m ys) (hn : n ≤ 1099511627776)
    (hgd : o.guard = none) (ho : o.op = .call { callee := .builtin .append, args := #[s, x], argTypes := #[22, 22] }) (hs : a.eval s = v) (hx : a.eval x = .slice A m c)
    (h : ∀ v' w', w'.ownsRow base 38 3 v' (n + m) (opCells (xs ++ ys)) → w.grownBy w' v.ownBlock → (v'.ownBlock = v.ownBlock ∨ v'.ownBlock = some w.heap.size) → wpList Tryd.prog ops Q rest (a.put o.dst v') w') : wpList Tryd.prog ops Q (o :: rest) a w := by
  obtain ⟨i0, hi, hz0, hz1, hz2⟩ := info_parts opInfo
  have hm := hr.2.1
  refine wpList_app hgd s x _ ho base _ i0 _ 3 24 Tryd.underlying22 hi hz0 hz1 hz2 rfl (by decide) v n _ hs hown A m c _ hx hr.src (by simp only [maxLen]; omega) (by omega) hbase ?_
  intro v' w' h1 h2 h3
  rw [← opCells_append] at h1
  exact h v' w' h1 h2 h3
/-- append of integers. -/
theorem app_ints (s x : Operand) {base : Nat} {v : Value} {n : Nat} {xs : List Int} (hown : w.ownsRow base 3 1 v n (intCells xs)) (hbase : base ≤ w.heap.size)
    {A : Option Addr} {m c : Nat} {ys : List Int} (hr : RInts w A m ys) (hn : n ≤ 1099511627776)
    (hgd : o.guard = none) (ho : o.op = .call { callee := .builtin .append, args := #[s, x], argTypes := #[73, 73] }) (hs : a.eval s = v) (hx : a.eval x = .slice A m c)
    (h : ∀ v' w', w'.ownsRow base 3 1 v' (n + m) (intCells (xs ++ ys)) → w.grownBy w' v.ownBlock → (v'.ownBlock = v.ownBlock ∨ v'.ownBlock = some w.heap.size) → wpList Tryd.prog ops Q rest (a.put o.dst v') w') : wpList Tryd.prog ops Q (o :: rest) a w := by
  obtain ⟨i0, hi, hz0, hz1, hz2⟩ := info_parts intInfo
  have hm := hr.2.1
  refine wpList_app hgd s x _ ho base _ i0 _ 1 8 Tryd.underlying73 hi hz0 hz1 hz2 rfl (by decide) v n _ hs hown A m c _ hx hr.src (by simp only [maxLen]; omega) (by omega) hbase ?_
  intro v' w' h1 h2 h3
  have e : intCells xs ++ intCells ys = intCells (xs ++ ys) := by simp [intCells]
  rw [e] at h1
  exact h v' w' h1 h2 h3
end

/-- A literal slice of integers, as it lies in its new block. -/
theorem RInts.lit (w : World) (xs : List Int) (t : TypeId) (h : xs.length ≤ 1099511627776) : RInts (w.alloc (.cells (intCells xs).toArray t)) (some ⟨w.heap.size, 0, none⟩) xs.length xs := by
  refine ⟨rfl, h, fun _ => ⟨w.heap.size, 0, rfl, by simp, fun i x hx => ?_⟩⟩
  have := cell_of_row (w.alloc (.cells (intCells xs).toArray t)) w.heap.size (0 + i) _ t (0, 0) (heap_alloc_new w _)
  rw [this]
  simp [intCells, hx]
theorem lit1 {w : World} {H : Nat} (hH : w.heap.size = H) (a : Int) : RInts (w.alloc (.cells #[.int .i64 a] 3)) (some ⟨H, 0, none⟩) 1 [a] := by subst hH; exact RInts.lit w [a] _ (by simp)
theorem ROps.lit1 (w : World) (o : OpV) (t : TypeId) : ROps (w.alloc (.cells #[.int .i64 o.tx, .int .i64 o.kind, .int .i64 o.item] t)) (some ⟨w.heap.size, 0, none⟩) 1 [o] := by
  refine ⟨rfl, by omega, fun _ => ⟨w.heap.size, 0, rfl, by simp, fun i x hx => ?_⟩⟩
  match i, hx with
  | 0, hx =>
    simp at hx; subst hx
    have := fun k => cell_of_row (w.alloc (.cells #[.int .i64 o.tx, .int .i64 o.kind, .int .i64 o.item] t)) w.heap.size k _ t (0, 0) (heap_alloc_new w _)
    exact ⟨this _, this _, this _⟩
#print axioms app_ops
end Go.Proofs.YtddkjbibjjehjaaDoor
