/-
  Lists of lists that grow: append at a step of a region that draws its order; rows of slices.
-/
import Derived.Test.YtmookobaljcpbaaLists0
import Derived.Test.YtmookobaljcpbaaPerm0
import Derived.Test.YtmookobaljcpbaaRows1
namespace Go.Proofs.Ytmookobaljcpbaa
open Go.RowKit Go.BigFrame
set_option linter.unusedVariables false

theorem intsInfo : (Try.prog.info? 28).map (fun i => (i.zero, i.size, i.bytes)) = some (some (.slice none 0 0), 1, 24) := by kernel_rfl


section
variable {w : World} {ops : Array Oper} {o : Oper} {a : Act} {K : Act → World → Prop} {Q : Exit → Act → World → Prop} {E : Prop}
/-- append, at a step of a region that draws its order. -/
theorem step_app {P : Program} (hgd : o.guard = none) (s x : Operand) (t : TypeId)
    (ho : o.op = .call { callee := .builtin .append, args := #[s, x], argTypes := #[t, t] })
    (base : Nat) (e : TypeId) (i : TypeInfo) (z : Value) (size bytes : Nat) (ht : P.underlying t = some (.slice e)) (hi : P.info? e = some i) (hz : i.zero = some z)
    (hsize : i.size = size) (hby : i.bytes = bytes) (hzs : z.cells.size = size) (hsz : 0 < size)
    (v : Value) (n : Nat) (xs : List Value) (hs : a.eval s = v) (hown : w.ownsRow base e size v n xs)
    (A : Option Addr) (m c : Nat) (news : List Value) (hx : a.eval x = .slice A m c) (hr : Src w size A m news)
    (h63 : n + m ≤ maxLen) (hbytes : (n + m) * bytes ≤ 140737488355328) (hbase : base ≤ w.heap.size)
    (h : ∀ v' w', w'.ownsRow base e size v' (n + m) (xs ++ news) → w.grownBy w' v.ownBlock → (v'.ownBlock = v.ownBlock ∨ v'.ownBlock = some w.heap.size) → K (a.put o.dst v') w') :
    if Region.wanted o (yielded ops a.tmps) = true then Oper.wp P o a w K Q else E := by
  have hw : Region.wanted o (yielded ops a.tmps) = true := by simp [Region.wanted, hgd]
  rw [if_pos hw]
  obtain ⟨v', w', hrun, h2, h3, h4⟩ := run_app (P := P) base t o.type e i z size bytes ht hi hz hsize hby hzs hsz v n xs hown A m c news hr h63 hbytes hbase
  unfold Oper.wp execOp
  simp only [ho, resolve, invoke, builtin, Sem.run_bind, Sem.run_pure, Result.andThen_ok, List.map_toArray, List.map_cons, List.map_nil, hs, hx, hrun]
  exact h v' w' h2 h3 h4
theorem step_ints (s x : Operand) {base : Nat} {v : Value} {n : Nat} {xs : List Int} (hown : w.ownsRow base 3 1 v n (intCells xs)) (hbase : base ≤ w.heap.size)
    {A : Option Addr} {m c : Nat} {ys : List Int} (hr : RInts w A m ys) (hn : n ≤ 1099511627776)
    (hgd : o.guard = none) (ho : o.op = .call { callee := .builtin .append, args := #[s, x], argTypes := #[28, 28] }) (hs : a.eval s = v) (hx : a.eval x = .slice A m c)
    (h : ∀ v' w', w'.ownsRow base 3 1 v' (n + m) (intCells (xs ++ ys)) → w.grownBy w' v.ownBlock → (v'.ownBlock = v.ownBlock ∨ v'.ownBlock = some w.heap.size) → K (a.put o.dst v') w') :
    if Region.wanted o (yielded ops a.tmps) = true then Oper.wp Try.prog o a w K Q else E := by
  obtain ⟨i0, hi, hz0, hz1, hz2⟩ := info_parts intInfo
  have hm := hr.2.1
  refine step_app hgd s x _ ho base _ i0 _ 1 8 Try.underlying28 hi hz0 hz1 hz2 rfl (by decide) v n _ hs hown A m c _ hx hr.src (by simp only [maxLen]; omega) (by omega) hbase ?_
  intro v' w' h1 h2 h3
  have e : intCells xs ++ intCells ys = intCells (xs ++ ys) := by simp [intCells]
  rw [e] at h1
  exact h v' w' h1 h2 h3
end

theorem rowsI_at3 {R : List Nat} (h : Rows4 R) {w : World} {A : Option Addr} (hr : RInts w A 4 (rowsI R)) {t : Nat} (ht : t < 4) : ∃ b off, A = some ⟨b, off, none⟩ ∧ b < w.heap.size ∧ w.cell? ⟨b, off + t, none⟩ = some (.int .i64 ((R.getD t 0 : Nat) : Int)) ∧ R.getD t 0 < 16 := by
  obtain ⟨b, off, x, hA, hlt, hx, hc⟩ := hr.at_ ht
  obtain ⟨h1, h2⟩ := rowsI_at h (T := t) (by omega)
  refine ⟨b, off, hA, hlt, ?_, h2⟩
  rw [hc]
  simp only [intCells, List.getElem?_map, hx, Option.map_some] at h1
  exact h1
theorem FreshInts.lat {w0 w w' : World} {A : Option Addr} {n : Nat} {xs : List Int} (h : FreshInts w0 w A n xs) (hb : Below w.heap.size w w') : FreshInts w0 w' A n xs :=
  ⟨h.1.below hb (Nat.le_refl _), fun ad had => by obtain ⟨b, cur, e, h1, h2, h3⟩ := h.2 ad had; exact ⟨b, cur, e, h1, (hb.block b (lt_of_block h2)).trans h2, h3⟩⟩
theorem FreshInts.since {w0 w1 w : World} {A : Option Addr} {n : Nat} {xs : List Int} (h : FreshInts w1 w A n xs) (hs : w0.heap.size ≤ w1.heap.size) : FreshInts w0 w A n xs :=
  ⟨h.1, fun ad had => by obtain ⟨b, cur, e, h1, h2, h3⟩ := h.2 ad had; exact ⟨b, cur, e, by omega, h2, h3⟩⟩
/-- A row of integers is as it was when another block has turned. -/
theorem FreshInts.grownT {w0 w w' : World} {A : Option Addr} {n : Nat} {xs : List Int} {row : Option Nat} (h : FreshInts w0 w A n xs) (hg : w.grownBy w' row) (hne : ∀ g, row = some g → ∀ cur, w.heap[g]? ≠ some (.cells cur 3 (0, 0))) : FreshInts w0 w' A n xs := by
  have hblk : ∀ ad, A = some ad → ∃ b cur, ad = ⟨b, 0, none⟩ ∧ w0.heap.size ≤ b ∧ w.heap[b]? = some (.cells cur 3 (0, 0)) ∧ n ≤ cur.size ∧ w'.heap[b]? = w.heap[b]? := fun ad had => by
    obtain ⟨b, cur, e, h1, h2, h3⟩ := h.2 ad had
    exact ⟨b, cur, e, h1, h2, h3, hg.block b (lt_of_block h2) (fun e => hne b e.symm cur h2)⟩
  refine ⟨⟨h.1.1, h.1.2.1, fun hn => ?_⟩, fun ad had => ?_⟩
  · obtain ⟨b, off, hA, hlt, hc⟩ := h.1.2.2 hn
    obtain ⟨b', cur, e, _, _, _, hk⟩ := hblk _ hA
    injection e with e1 e2 _
    subst e1
    have hs := World.grownBy.size hg
    exact ⟨b, off, hA, by omega, fun i x hx => (World.cell?_of_block (w := w) (a := ⟨b, off + i, none⟩) hk).trans (hc i x hx)⟩
  · obtain ⟨b, cur, e, h1, h2, h3, hk⟩ := hblk ad had
    exact ⟨b, cur, e, h1, hk.trans h2, h3⟩

/-- These slice values are these lists, each in memory made since w0. -/
def RowsR (w0 w : World) (rv : List Value) (xss : List (List Int)) : Prop :=
  rv.length = xss.length ∧ ∀ (i : Nat) (xs : List Int), xss[i]? = some xs → ∃ B c, rv[i]? = some (.slice B xs.length c) ∧ xs.length ≤ c ∧ FreshInts w0 w B xs.length xs
theorem RowsR.nil {w0 w : World} : RowsR w0 w [] [] := ⟨rfl, fun i xs h => by simp at h⟩
theorem RowsR.below {w0 w w' : World} {rv : List Value} {xss : List (List Int)} (h : RowsR w0 w rv xss) (hb : Below w.heap.size w w') : RowsR w0 w' rv xss :=
  ⟨h.1, fun i xs hi => by obtain ⟨C, c, e, hmc, hr⟩ := h.2 i xs hi; exact ⟨C, c, e, hmc, hr.lat hb⟩⟩
theorem RowsR.since {w0 w1 w : World} {rv : List Value} {xss : List (List Int)} (h : RowsR w1 w rv xss) (hs : w0.heap.size ≤ w1.heap.size) : RowsR w0 w rv xss :=
  ⟨h.1, fun i xs hi => by obtain ⟨C, c, e, hmc, hr⟩ := h.2 i xs hi; exact ⟨C, c, e, hmc, hr.since hs⟩⟩
theorem RowsR.grown {w0 w w' : World} {rv : List Value} {xss : List (List Int)} {row : Option Nat} (h : RowsR w0 w rv xss) (hg : w.grownBy w' row) (hne : ∀ g, row = some g → ∀ cur, w.heap[g]? ≠ some (.cells cur 3 (0, 0))) : RowsR w0 w' rv xss :=
  ⟨h.1, fun i xs hi => by obtain ⟨C, c, e, hmc, hr⟩ := h.2 i xs hi; exact ⟨C, c, e, hmc, hr.grownT hg hne⟩⟩
theorem RowsR.append {w0 w : World} {rv rs : List Value} {xss yss : List (List Int)} (h : RowsR w0 w rv xss) (k : RowsR w0 w rs yss) : RowsR w0 w (rv ++ rs) (xss ++ yss) := by
  refine ⟨by simp [h.1, k.1], fun i xs hi => ?_⟩
  rcases Nat.lt_or_ge i xss.length with hlt | hge
  · rw [List.getElem?_append_left hlt] at hi
    obtain ⟨C, c, e, r⟩ := h.2 i xs hi
    exact ⟨C, c, by rw [List.getElem?_append_left (by rw [h.1]; exact hlt)]; exact e, r⟩
  · rw [List.getElem?_append_right hge] at hi
    obtain ⟨C, c, e, r⟩ := k.2 _ xs hi
    exact ⟨C, c, by rw [List.getElem?_append_right (by rw [h.1]; exact hge), h.1]; exact e, r⟩
theorem RowsR.one {w0 w : World} {rv : List Value} {xss : List (List Int)} (h : RowsR w0 w rv xss) : ∀ u ∈ rv, u.oneCell' = true := by
  intro u hu
  obtain ⟨i, hi⟩ := List.mem_iff_getElem?.1 hu
  have hl := (List.getElem?_eq_some_iff.1 hi).1
  obtain ⟨C, c, e, _⟩ := h.2 i _ (List.getElem?_eq_getElem (by rw [← h.1]; exact hl))
  rw [e] at hi
  injection hi with hi
  rw [← hi]; rfl
theorem RowsR.lit {w0 w : World} {B : Option Addr} {n c : Nat} {xs : List Int} (hn : xs.length = n) (hc : n ≤ c) (h : FreshInts w0 w B n xs) : RowsR w0 w [.slice B n c] [xs] := by
  subst hn
  refine ⟨rfl, fun i ys hi => ?_⟩
  match i, hi with
  | 0, hi =>
    simp only [List.getElem?_cons_zero, Option.some.injEq] at hi
    subst hi
    exact ⟨B, c, rfl, hc, h⟩
  | i + 1, hi => simp at hi
/-- The block of an owned row of slices is none of integers. -/
theorem own_noInt {w : World} {base n : Nat} {v : Value} {rv : List Value} (h : w.ownsRow base 28 1 v n rv) : ∀ g, v.ownBlock = some g → ∀ cur, w.heap[g]? ≠ some (.cells cur 3 (0, 0)) := by
  intro g hg cur hc
  rcases h.2 with ⟨h1, h2⟩ | ⟨g', cap, cur', h1, h2, h3, h4, h5, h6, h7⟩
  · rw [h1] at hg; cases hg
  · rw [h1] at hg
    have : g' = g := by simpa [Value.ownBlock] using hg
    subst this
    rw [h3] at hc
    injection hc with hc
    injection hc with _ ht _
    exact absurd ht (by decide)

/-- The row of rows, in a block made since w0. -/
def OuterR (w0 w : World) (A : Option Addr) (n : Nat) (rv : List Value) : Prop :=
  Src w 1 A n rv ∧ ∀ ad, A = some ad → ∃ b cur, ad = ⟨b, 0, none⟩ ∧ w0.heap.size ≤ b ∧ w.heap[b]? = some (.cells cur 28 (0, 0))
theorem OuterR.of_own {w0 w : World} {base n c : Nat} {A : Option Addr} {rv : List Value} (h : w.ownsRow base 28 1 (.slice A n c) n rv) (hb : w0.heap.size ≤ base) (h1 : ∀ u ∈ rv, u.oneCell' = true) : OuterR w0 w A n rv := by
  have hl : rv.length = n := by have := h.1; omega
  rcases h.2 with ⟨e1, e2⟩ | ⟨g, cap, cur, e1, e2, e3, e4, e5, e6, e7⟩
  · injection e1 with ha hb' hc
    subst ha
    subst e2
    exact ⟨⟨by omega, h1, fun h0 => absurd h0 (by omega)⟩, fun ad had => by cases had⟩
  · injection e1 with ha _ hc
    subst ha
    refine ⟨⟨by omega, h1, fun h0 => ⟨_, rfl, fun j u hu => h.cells (g := g) (by simp [Value.ownBlock]) j u hu⟩⟩, fun ad had => ?_⟩
    injection had with had
    subst had
    exact ⟨g, cur, rfl, by omega, e3⟩

/-- The call hands back these lists in new memory and changes nothing. -/
def RetLists (w0 : World) (xss : List (List Int)) (e : Ending) (w : World) : Prop :=
  ∃ A c rv, e = .returned (.slice A xss.length c) ∧ xss.length ≤ c ∧ OuterR w0 w A xss.length rv ∧ RowsR w0 w rv xss ∧ Below w0.heap.size w0 w
theorem RetLists.form {w0 w : World} {xss : List (List Int)} {e : Ending} (h : RetLists w0 xss e w) : ∃ A c n rv, e = .returned (.slice A n c) ∧ Hid (xss.length = n) ∧ n ≤ c ∧ OuterR w0 w A n rv ∧ RowsR w0 w rv xss ∧ Below w0.heap.size w0 w := by
  obtain ⟨A, c, rv, h⟩ := h
  exact ⟨A, c, _, rv, h.1, rfl, h.2⟩
theorem RetLists.nil {w0 w : World} (h : Below w0.heap.size w0 w) : RetLists w0 [] (.returned (.slice none 0 0)) w :=
  ⟨none, 0, [], rfl, Nat.le_refl _, ⟨⟨rfl, by simp, fun h => absurd h (by simp)⟩, fun ad h => by cases h⟩, RowsR.nil, h⟩
theorem RetLists.of_own {w0 w : World} {xss : List (List Int)} {A : Option Addr} {n c base : Nat} {rv : List Value} (hn : xss.length = n) (hc : n ≤ c) (h : w.ownsRow base 28 1 (.slice A n c) n rv) (hbase : w0.heap.size ≤ base) (hr : RowsR w0 w rv xss) (hb : Below w0.heap.size w0 w) : RetLists w0 xss (.returned (.slice A n c)) w := by
  subst hn; exact ⟨A, c, rv, rfl, hc, OuterR.of_own h hbase hr.one, hr, hb⟩
theorem RetLists.lit1 {w0 w1 : World} {xs : List Int} {A : Option Addr} {n c : Nat} (hn : xs.length = n) (hc : n ≤ c) (hf : FreshInts w0 w1 A n xs) (hb : Below w0.heap.size w0 w1) :
    RetLists w0 [xs] (.returned (.slice (some ⟨w1.heap.size, 0, none⟩) 1 1)) (w1.alloc (.cells #[.slice A n c] 28)) := by
  have hs := hb.size
  refine ⟨_, _, [.slice A n c], rfl, Nat.le_refl _, ⟨⟨rfl, by simp [Value.oneCell'], fun _ => ⟨_, rfl, fun j u hu => ?_⟩⟩, fun ad had => ?_⟩, RowsR.lit hn hc (hf.lat ((Below.refl _ _).alloc (Nat.le_refl _) _)), hb.alloc hs _⟩
  · match j, hu with
    | 0, hu =>
      simp only [List.getElem?_cons_zero, Option.some.injEq] at hu
      subst hu
      rw [addr_add]
      exact box_at _ _ _ _ _ (by simp)
    | j + 1, hu => simp at hu
  · injection had with had
    subst had
    exact ⟨_, _, rfl, hs, heap_alloc_new w1 _⟩
/-- What has been gathered. -/
def RowsInv (w wr : World) (ov : Value) (xss : List (List Int)) : Prop := ∃ (N : Nat) (rv : List Value), N ≤ 1024 ∧ xss.length = N ∧ Below w.heap.size w wr ∧ wr.ownsRow w.heap.size 28 1 ov N rv ∧ RowsR w wr rv xss
theorem RowsInv.later {w wr W : World} {ov : Value} {xss : List (List Int)} (h : RowsInv w wr ov xss) (hb : Below wr.heap.size wr W) : RowsInv w W ov xss := by
  obtain ⟨N, rv, hN, hl, h1, h2, h3⟩ := h
  exact ⟨N, rv, hN, hl, h1.trans (hb.mono h1.size), own_below h2 hb, h3.below hb⟩
end Go.Proofs.Ytmookobaljcpbaa
