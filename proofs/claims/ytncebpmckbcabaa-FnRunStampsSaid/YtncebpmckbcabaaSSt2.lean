/-
  Texts that the proof rests on, joined: part 2.
-/
import Derived.Maps.AppendAt
import Derived.Deep.AppendLies
import Derived.Test.YtncebpmckbcabaaSSt1
namespace Go.Proofs.Ytncebpmckbcabaa
open Go.RowKit
set_option linter.unusedVariables false

theorem opInfo : (Try.prog.info? 62).map (fun i => (i.zero, i.size, i.bytes)) = some (some (.agg #[.int .i64 0, .int .i64 0, .int .i64 0]), 3, 24) := by kernel_rfl
theorem intInfo : (Try.prog.info? 3).map (fun i => (i.zero, i.size, i.bytes)) = some (some (.int .i64 0), 1, 8) := by kernel_rfl

/-- A source of cells: m elements of 'size' cells at address A. -/
def Src (w : World) (size : Nat) (A : Option Addr) (m : Nat) (news : List Value) : Prop :=
  news.length = m * size ∧ (∀ u ∈ news, u.oneCell' = true) ∧ (0 < m → ∃ ad, A = some ad ∧ ∀ j u, news[j]? = some u → w.cell? (ad.add j) = some u)

section
variable {P : Program} {w : World}

theorem run_app_nil (base : Nat) (t ty e : TypeId) (i : TypeInfo) (size : Nat) (ht : P.underlying t = some (.slice e)) (hi : P.info? e = some i)
    (v : Value) (n : Nat) (xs : List Value) (hown : w.ownsRow base e size v n xs) (c : Nat) : (Builtin.append_ #[t, t] ty #[v, .slice none 0 c]).run P w = .ok v w := by
  rcases hown.2 with ⟨rfl, rfl⟩ | ⟨g, cap, cur, rfl, _, _, hnc, _⟩
  · simp [Builtin.append_, run_underlying ht, sizeOf, typeInfo, hi, Builtin.lenOf, Builtin.firstCells]
  · simp [Builtin.append_, run_underlying ht, sizeOf, typeInfo, hi, Builtin.lenOf, Builtin.firstCells, hnc, storeCells]

theorem run_app (base : Nat) (t ty e : TypeId) (i : TypeInfo) (z : Value) (size bytes : Nat) (ht : P.underlying t = some (.slice e)) (hi : P.info? e = some i) (hz : i.zero = some z)
    (hsize : i.size = size) (hby : i.bytes = bytes) (hzs : z.cells.size = size) (hsz : 0 < size)
    (v : Value) (n : Nat) (xs : List Value) (hown : w.ownsRow base e size v n xs)
    (A : Option Addr) (m c : Nat) (news : List Value) (hr : Src w size A m news)
    (h63 : n + m ≤ maxLen) (hbytes : (n + m) * bytes ≤ 140737488355328) (hbase : base ≤ w.heap.size) :
    ∃ v' w', (Builtin.append_ #[t, t] ty #[v, .slice A m c]).run P w = .ok v' w' ∧ w'.ownsRow base e size v' (n + m) (xs ++ news) ∧ w.grownBy w' v.ownBlock ∧
      (v'.ownBlock = v.ownBlock ∨ v'.ownBlock = some w.heap.size) := by
  obtain ⟨hl, h1, hc⟩ := hr
  rcases A with _ | ad
  · have hm : m = 0 := by
      rcases Nat.eq_zero_or_pos m with h0 | h0
      · exact h0
      · obtain ⟨ad, h, _⟩ := hc h0
        cases h
    subst hm
    have hn : news = [] := List.eq_nil_of_length_eq_zero (by simpa using hl)
    subst hn
    exact ⟨v, w, run_app_nil base t ty e i size ht hi v n xs hown c, by simpa using hown, World.grownBy.refl w _, .inl rfl⟩
  · have hcells : ∀ j u, news[j]? = some u → w.cell? (ad.add j) = some u := by
      intro j u hu
      rcases Nat.eq_zero_or_pos m with h0 | h0
      · subst h0
        have hn : news = [] := List.eq_nil_of_length_eq_zero (by simpa using hl)
        subst hn
        simp at hu
      · obtain ⟨ad', h, hc'⟩ := hc h0
        injection h with h
        subst h
        exact hc' j u hu
    obtain ⟨v', w', hrun, h2, h3, _, h5⟩ := run_append_own_at (P := P) w base t ty e i z size bytes ht hi hz hsize hby hzs hsz v n xs hown ad m c news hl hcells h1 h63 hbytes hbase
    exact ⟨v', w', hrun, h2, h3, h5⟩

theorem wpList_app {ops : Array Oper} {rest : List Oper} {o : Oper} {a : Act} {Q : Exit → Act → World → Prop} (hgd : o.guard = none) (s x : Operand) (t : TypeId)
    (ho : o.op = .call { callee := .builtin .append, args := #[s, x], argTypes := #[t, t] })
    (base : Nat) (e : TypeId) (i : TypeInfo) (z : Value) (size bytes : Nat) (ht : P.underlying t = some (.slice e)) (hi : P.info? e = some i) (hz : i.zero = some z)
    (hsize : i.size = size) (hby : i.bytes = bytes) (hzs : z.cells.size = size) (hsz : 0 < size)
    (v : Value) (n : Nat) (xs : List Value) (hs : a.eval s = v) (hown : w.ownsRow base e size v n xs)
    (A : Option Addr) (m c : Nat) (news : List Value) (hx : a.eval x = .slice A m c) (hr : Src w size A m news)
    (h63 : n + m ≤ maxLen) (hbytes : (n + m) * bytes ≤ 140737488355328) (hbase : base ≤ w.heap.size)
    (h : ∀ v' w', w'.ownsRow base e size v' (n + m) (xs ++ news) → w.grownBy w' v.ownBlock → (v'.ownBlock = v.ownBlock ∨ v'.ownBlock = some w.heap.size) → wpList P ops Q rest (a.put o.dst v') w') : wpList P ops Q (o :: rest) a w := by
  refine wpList_plain hgd fun _ hK => ?_
  obtain ⟨v', w', hrun, h2, h3, h4⟩ := run_app (P := P) base t o.type e i z size bytes ht hi hz hsize hby hzs hsz v n xs hown A m c news hr h63 hbytes hbase
  unfold Oper.wp execOp
  simp only [ho, resolve, invoke, builtin, Sem.run_bind, Sem.run_pure, Result.andThen_ok, List.map_toArray, List.map_cons, List.map_nil, hs, hx, hrun]
  exact hK _ _ (h v' w' h2 h3 h4)
end

theorem opCells_find (ys : List OpV) : ∀ (j : Nat) (u : Value), (opCells ys)[j]? = some u →
    ∃ (i : Nat) (o : OpV), ys[i]? = some o ∧ ((j = i * 3 ∧ u = .int .i64 o.tx) ∨ (j = i * 3 + 1 ∧ u = .int .i64 o.kind) ∨ (j = i * 3 + 2 ∧ u = .int .i64 o.item)) := by
  induction ys with
  | nil => intro j u h; simp [opCells] at h
  | cons y r ih =>
    intro j u h
    match j, h with
    | 0, h => exact ⟨0, y, rfl, .inl ⟨rfl, by simpa [opCells, eq_comm] using h⟩⟩
    | 1, h => exact ⟨0, y, rfl, .inr (.inl ⟨rfl, by simpa [opCells, eq_comm] using h⟩)⟩
    | 2, h => exact ⟨0, y, rfl, .inr (.inr ⟨rfl, by simpa [opCells, eq_comm] using h⟩)⟩
    | j + 3, h =>
      obtain ⟨i, o, h1, h2⟩ := ih j u (by simpa [opCells] using h)
      exact ⟨i + 1, o, by simpa using h1, by rcases h2 with ⟨a, b⟩ | ⟨a, b⟩ | ⟨a, b⟩ <;> simp [b] <;> omega⟩
theorem addr_add (b off j : Nat) : (⟨b, off, none⟩ : Addr).add j = ⟨b, off + j, none⟩ := by
  unfold Addr.add
  split
  · subst_vars; rfl
  · rfl
theorem ROps.src {w : World} {A : Option Addr} {m : Nat} {ys : List OpV} (h : ROps w A m ys) : Src w 3 A m (opCells ys) := by
  obtain ⟨h1, h2, h3⟩ := h
  refine ⟨by rw [length_opCells, h1], opCells_one ys, fun hm => ?_⟩
  obtain ⟨b, off, hA, _, hc⟩ := h3 hm
  refine ⟨_, hA, fun j u hu => ?_⟩
  obtain ⟨i, o, ho, h⟩ := opCells_find ys j u hu
  obtain ⟨c0, c1, c2⟩ := hc i o ho
  rw [addr_add]
  rcases h with ⟨rfl, rfl⟩ | ⟨rfl, rfl⟩ | ⟨rfl, rfl⟩
  · exact c0
  · exact c1
  · exact c2
theorem RInts.src {w : World} {A : Option Addr} {m : Nat} {ys : List Int} (h : RInts w A m ys) : Src w 1 A m (intCells ys) := by
  obtain ⟨h1, h2, h3⟩ := h
  refine ⟨by simp [intCells, h1], intCells_one ys, fun hm => ?_⟩
  obtain ⟨b, off, hA, _, hc⟩ := h3 hm
  refine ⟨_, hA, fun j u hu => ?_⟩
  rw [addr_add]
  simp only [intCells, List.getElem?_map, Option.map_eq_some_iff] at hu
  obtain ⟨x, hx, rfl⟩ := hu
  exact hc j x hx

section
variable {w : World} {ops : Array Oper} {rest : List Oper} {o : Oper} {a : Act} {Q : Exit → Act → World → Prop}
/-- append of operations. -/
theorem app_ops (s x : Operand) {base : Nat} {v : Value} {n : Nat} {xs : List OpV} (hown : w.ownsRow base 62 3 v n (opCells xs)) (hbase : base ≤ w.heap.size)
    {A : Option Addr} {m c : Nat} {ys : List OpV} (hr : ROps w A m ys) (hn : n ≤ 1099511627776)
    (hgd : o.guard = none) (ho : o.op = .call { callee := .builtin .append, args := #[s, x], argTypes := #[24, 24] }) (hs : a.eval s = v) (hx : a.eval x = .slice A m c)
    (h : ∀ v' w', w'.ownsRow base 62 3 v' (n + m) (opCells (xs ++ ys)) → w.grownBy w' v.ownBlock → (v'.ownBlock = v.ownBlock ∨ v'.ownBlock = some w.heap.size) → wpList Try.prog ops Q rest (a.put o.dst v') w') : wpList Try.prog ops Q (o :: rest) a w := by
  obtain ⟨i0, hi, hz0, hz1, hz2⟩ := info_parts opInfo
  have hm := hr.2.1
  refine wpList_app hgd s x _ ho base _ i0 _ 3 24 Try.underlying24 hi hz0 hz1 hz2 rfl (by decide) v n _ hs hown A m c _ hx hr.src (by simp only [maxLen]; omega) (by omega) hbase ?_
  intro v' w' h1 h2 h3
  rw [← opCells_append] at h1
  exact h v' w' h1 h2 h3
/-- append of integers. -/
theorem app_ints (s x : Operand) {base : Nat} {v : Value} {n : Nat} {xs : List Int} (hown : w.ownsRow base 3 1 v n (intCells xs)) (hbase : base ≤ w.heap.size)
    {A : Option Addr} {m c : Nat} {ys : List Int} (hr : RInts w A m ys) (hn : n ≤ 1099511627776)
    (hgd : o.guard = none) (ho : o.op = .call { callee := .builtin .append, args := #[s, x], argTypes := #[26, 26] }) (hs : a.eval s = v) (hx : a.eval x = .slice A m c)
    (h : ∀ v' w', w'.ownsRow base 3 1 v' (n + m) (intCells (xs ++ ys)) → w.grownBy w' v.ownBlock → (v'.ownBlock = v.ownBlock ∨ v'.ownBlock = some w.heap.size) → wpList Try.prog ops Q rest (a.put o.dst v') w') : wpList Try.prog ops Q (o :: rest) a w := by
  obtain ⟨i0, hi, hz0, hz1, hz2⟩ := info_parts intInfo
  have hm := hr.2.1
  refine wpList_app hgd s x _ ho base _ i0 _ 1 8 Try.underlying26 hi hz0 hz1 hz2 rfl (by decide) v n _ hs hown A m c _ hx hr.src (by simp only [maxLen]; omega) (by omega) hbase ?_
  intro v' w' h1 h2 h3
  have e : intCells xs ++ intCells ys = intCells (xs ++ ys) := by simp [intCells]
  rw [e] at h1
  exact h v' w' h1 h2 h3
end

/-- A literal slice of integers, as it lies in its new block. -/
theorem RInts.lit (w : World) (xs : List Int) (t : TypeId) (h : xs.length ≤ 1099511627776) : RInts (w.alloc (.cells (intCells xs).toArray t)) (some ⟨w.heap.size, 0, none⟩) xs.length xs := by
  refine ⟨rfl, h, fun _ => ⟨w.heap.size, 0, rfl, by simp, fun i x hx => ?_⟩⟩
  have := cell_of_row (w.alloc (.cells (intCells xs).toArray t)) w.heap.size (0 + i) _ t (0, 0) (heap_alloc_new w _)
  rw [this]
  simp [intCells, hx]
theorem lit1 {w : World} {H : Nat} (hH : w.heap.size = H) (a : Int) : RInts (w.alloc (.cells #[.int .i64 a] 3)) (some ⟨H, 0, none⟩) 1 [a] := by subst hH; exact RInts.lit w [a] _ (by simp)
theorem ROps.lit1 (w : World) (o : OpV) (t : TypeId) : ROps (w.alloc (.cells #[.int .i64 o.tx, .int .i64 o.kind, .int .i64 o.item] t)) (some ⟨w.heap.size, 0, none⟩) 1 [o] := by
  refine ⟨rfl, by omega, fun _ => ⟨w.heap.size, 0, rfl, by simp, fun i x hx => ?_⟩⟩
  match i, hx with
  | 0, hx =>
    simp at hx; subst hx
    have := fun k => cell_of_row (w.alloc (.cells #[.int .i64 o.tx, .int .i64 o.kind, .int .i64 o.item] t)) w.heap.size k _ t (0, 0) (heap_alloc_new w _)
    exact ⟨this _, this _, this _⟩
#print axioms app_ops
end Go.Proofs.Ytncebpmckbcabaa
namespace Go.Proofs.Ytncebpmckbcabaa
open Go.RowKit Go.BigFrame
set_option linter.unusedVariables false

/-- The worlds that a world may have become: below its size nothing has changed. -/
def Later (W : World) : Type := {u : World // Below W.heap.size W u}
instance (W : World) : Nonempty (Later W) := ⟨⟨W, Below.refl _ _⟩⟩
theorem Later.cell {W : World} {b o : Nat} {v : Value} (h : W.cell? ⟨b, o, none⟩ = some v) : ∀ u : Later W, u.1.cell? ⟨b, o, none⟩ = some v := fun u =>
  (u.2.cell (p := ⟨b, o, none⟩) (block_lt_of_cell h)).trans h
theorem Later.below_ {W : World} {B : Nat} (u : Later W) (h : B ≤ W.heap.size) : Below B W u.1 := u.2.mono h
theorem Later.size {W : World} (u : Later W) : W.heap.size ≤ u.1.heap.size := u.2.size

section
variable {P : Program}
theorem region_later {id : Nat} {Q : Exit → Act → World → Prop} {a : Act} {w : World} {l : List Oper} (hm : P.follows .mixedOrders = true) (hB : Region.lexB .any l.toArray = true)
    (h : wpQuiet P l.toArray (fun w' => ∃ u : Later w, w' = u.1) (fun a' => ∀ w', (∃ u : Later w, w' = u.1) → Q .normal a' w') l a) : (Code.region id l.toArray true).wp P Q a w :=
  wp_region_quiet (C := fun w' => ∃ u : Later w, w' = u.1) hm hB ⟨⟨w.drew, (Below.refl _ _).drew⟩, rfl⟩ (by simpa using h)

/-- A call that hands back v and makes memory. -/
theorem later_call {f : FuncId} {args : Array Value} {W : World} {v : Value} (u : Later W) (h : Calls P f args u.1 fun e w' => e = .returned v ∧ Below u.1.heap.size u.1 w') :
    Calls P f args u.1 fun e w' => e = .returned v ∧ ∃ u' : Later W, w' = u'.1 :=
  h.mono fun _ _ ⟨he, hb⟩ => ⟨he, ⟨_, u.2.trans (hb.mono u.2.size)⟩, rfl⟩
theorem ROps.later {W : World} {A : Option Addr} {n : Nat} {xs : List OpV} (h : ROps W A n xs) (u : Later W) : ROps u.1 A n xs := h.below u.2 (Nat.le_refl _)
theorem RInts.later {W : World} {A : Option Addr} {n : Nat} {xs : List Int} (h : RInts W A n xs) (u : Later W) : RInts u.1 A n xs := h.below u.2 (Nat.le_refl _)
end

theorem box_at (w : World) (cs : Array Value) (T : TypeId) (i : Nat) (v : Value) (h : cs[i]? = some v) : (w.alloc (.cells cs T)).cell? ⟨w.heap.size, i, none⟩ = some v := by
  rw [cell_of_row _ _ _ _ _ (0, 0) (heap_alloc_new w _)]; exact h
/-- A new box of an operation: its cells in whatever the world may become. -/
theorem op_box {W wr : World} {t k i : Int} {T : TypeId} (hW : W = wr.alloc (.cells #[.int .i64 t, .int .i64 k, .int .i64 i] T)) :
    (∀ u : Later W, u.1.cell? ⟨wr.heap.size, 0, none⟩ = some (.int .i64 t)) ∧ (∀ u : Later W, u.1.cell? ⟨wr.heap.size, 1, none⟩ = some (.int .i64 k)) ∧ (∀ u : Later W, u.1.cell? ⟨wr.heap.size, 2, none⟩ = some (.int .i64 i)) ∧
    Below wr.heap.size wr W ∧ wr.heap.size < W.heap.size := by
  subst hW
  exact ⟨Later.cell (box_at _ _ _ _ _ rfl), Later.cell (box_at _ _ _ _ _ rfl), Later.cell (box_at _ _ _ _ _ rfl), (Below.refl _ _).alloc (Nat.le_refl _) _, by simp⟩
theorem Later.trans {w wr W : World} (h : Below w.heap.size w wr) (h1 : Below wr.heap.size wr W) (u : Later W) : Below w.heap.size w u.1 := (h.trans (h1.mono h.size)).trans (u.2.mono (Nat.le_trans h.size h1.size))
end Go.Proofs.Ytncebpmckbcabaa
namespace Go.Proofs.Ytncebpmckbcabaa
open Go.RowKit Go.BigFrame
set_option linter.unusedVariables false

def isAcc (o : OpV) : Bool := o.kind == 0 || o.kind == 1
def isEnd (o : OpV) : Bool := o.kind == 2 || o.kind == 3
def inR (n lo hi : Int) : Bool := decide (lo ≤ n) && decide (n ≤ hi)
def validOp (o : OpV) : Bool := inR o.tx 0 3 && (isAcc o && inR o.item 0 2 || isEnd o && o.item == 0)
def endOf (s : List OpV) (t : Int) : Int := ((s.find? fun o => o.tx == t && isEnd o).map OpV.kind).getD (-1)

set_option maxHeartbeats 400000 in
theorem within_any (n low high : Int) (w : World) :
    Calls Try.prog 105 #[.int .i64 n, .int .i64 low, .int .i64 high] w fun e w' => e = .returned (.bool (inR n low high)) ∧ w = w' := by
  go_enter Try.func105, Try.ntmps105
  go_wp2
  all_goals (go_ret; exact ⟨ret_bool (by simp [inR]; omega), rfl⟩)
set_option maxHeartbeats 400000 in
theorem inRange_any (n low high : Int) (w : World) :
    Calls Try.prog 124 #[.int .i64 n, .int .i64 low, .int .i64 high] w fun e w' => e = .returned (.bool (inR n low high)) ∧ w = w' := by
  go_enter Try.func124, Try.ntmps124
  go_wp2
  all_goals (go_ret; exact ⟨ret_bool (by simp [inR]; omega), rfl⟩)

set_option maxHeartbeats 400000 in
theorem access_any (o : OpV) (w : World) :
    Calls Try.prog 111 #[o.val] w fun e w' => e = .returned (.bool (isAcc o)) ∧ Below w.heap.size w w' := by
  obtain ⟨t, k, x⟩ := o
  unfold OpV.val
  go_enter Try.func111, Try.ntmps111
  go_wp2
  all_goals (go_ret; exact ⟨ret_bool (by first | (simp [isAcc]; done) | rfl | simp [isAcc, *]), (Below.refl _ _).alloc (Nat.le_refl _) _⟩)
set_option maxHeartbeats 400000 in
theorem ends_any (o : OpV) (w : World) :
    Calls Try.prog 108 #[o.val] w fun e w' => e = .returned (.bool (isEnd o)) ∧ Below w.heap.size w w' := by
  obtain ⟨t, k, x⟩ := o
  unfold OpV.val
  go_enter Try.func108, Try.ntmps108
  go_wp2
  all_goals (go_ret; exact ⟨ret_bool (by first | (simp [isEnd]; done) | rfl | simp [isEnd, *]), (Below.refl _ _).alloc (Nat.le_refl _) _⟩)
set_option maxHeartbeats 400000 in
theorem sends_any (o : OpV) (w : World) :
    Calls Try.prog 89 #[o.val] w fun e w' => e = .returned (.bool (isEnd o)) ∧ Below w.heap.size w w' := by
  obtain ⟨t, k, x⟩ := o
  unfold OpV.val
  go_enter Try.func89, Try.ntmps89
  go_wp2
  all_goals (go_ret; exact ⟨ret_bool (by first | (simp [isEnd]; done) | rfl | simp [isEnd, *]), (Below.refl _ _).alloc (Nat.le_refl _) _⟩)

set_option maxHeartbeats 1000000 in
theorem valid_any (o : OpV) (w : World) :
    Calls Try.prog 72 #[o.val] w fun e w' => e = .returned (.bool (validOp o)) ∧ Below w.heap.size w w' := by
  obtain ⟨t, k, x⟩ := o
  unfold OpV.val
  cases h1 : inR t 0 3 <;> cases h2 : isAcc ⟨t, k, x⟩ <;> cases h3 : inR x 0 2 <;> cases h4 : isEnd ⟨t, k, x⟩ <;> cases h5 : (x == 0)
  all_goals
    go_enter Try.func72, Try.ntmps72
    go_wp2_with (first
      | (go_at_call 105; refine (within_any _ _ _ _).mono ?_; rintro e w' ⟨rfl, rfl⟩)
      | (go_at_call 111; refine (access_any ⟨t, k, x⟩ _).mono ?_; rintro e w' ⟨rfl, hb⟩; obtain ⟨bc, bf⟩ := bcell hb; have hsz : w.heap.size < w'.heap.size := by (have := hb.size; (try simp at this); omega))
      | (go_at_call 108; refine (ends_any ⟨t, k, x⟩ _).mono ?_; rintro e w' ⟨rfl, hb⟩; obtain ⟨bc, bf⟩ := bcell hb; have hsz : w.heap.size < w'.heap.size := by (have := hb.size; (try simp at this); omega)))
  all_goals
    go_ret
    exact ⟨ret_bool (by simp [validOp, *]), by (repeat (first | exact Below.refl _ _ | assumption | refine B_alloc ?_ (Nat.le_refl _) _ | refine Below.drew ?_ | refine B_drewN ?_ _ | refine B_after (by assumption) ?_ | (refine B_set ?_ ?_; rotate_left; (first | exact Nat.le_refl _ | (simp; done) | (simp at *; omega)))))⟩
end Go.Proofs.Ytncebpmckbcabaa
