/-
  TimeOrders of the program: the walk.
-/
import Derived.Test.YtkbclcgdkbhgdaaQIvsTimeP0
import Derived.Test.YtkbclcgdkbhgdaaPkOrdX3
namespace Go.Proofs.Ytkbclcgdkbhgdaa
open Go.RowKit Go.BigFrame
set_option linter.unusedVariables false

section
variable {w : World} {ops : Array Oper} {rest : List Oper} {o : Oper} {a : Act} {Q : Exit → Act → World → Prop}
/-- append of slices. -/
theorem app_rows (s x : Operand) {base : Nat} {v : Value} {n : Nat} {rv : List Value} (hown : w.ownsRow base 40 1 v n rv) (hbase : base ≤ w.heap.size)
    {A : Option Addr} {k c : Nat} {rs : List Value} (hr : Src w 1 A k rs) (hn : n + k ≤ 1099511627776)
    (hgd : o.guard = none) (ho : o.op = .call { callee := .builtin .append, args := #[s, x], argTypes := #[33, 33] }) (hs : a.eval s = v) (hx : a.eval x = .slice A k c)
    (h : ∀ v' w', w'.ownsRow base 40 1 v' (n + k) (rv ++ rs) → w.grownBy w' v.ownBlock → (v'.ownBlock = v.ownBlock ∨ v'.ownBlock = some w.heap.size) → wpList Try.prog ops Q rest (a.put o.dst v') w') : wpList Try.prog ops Q (o :: rest) a w := by
  obtain ⟨i0, hi, hz0, hz1, hz2⟩ := info_parts intsInfo
  exact wpList_app hgd s x _ ho base _ i0 _ 1 24 Try.underlying33 hi hz0 hz1 hz2 rfl (by decide) v n _ hs hown A k c _ hx hr (by simp only [maxLen]; omega) (by omega) hbase h
end

/-- The row that is looked at: nothing so far ends ahead of t's begin. -/
def okRow (s : List OpV) (xs : List Int) (k : Nat) (t : Int) (q : Nat) : Prop := ∀ j u, k < j → j < q → xs[j]? = some u → ¬ lastI s u < firstI s t
def okPre (s : List OpV) (xs : List Int) (k : Nat) : Prop := ∀ i t, i < k → xs[i]? = some t → okRow s xs i t xs.length
theorem okPre_zero {s : List OpV} {xs : List Int} : okPre s xs 0 := fun i t h => by omega
theorem okPre_succ {s : List OpV} {xs : List Int} {k : Nat} {t : Int} (h : okPre s xs k) (ht : xs[k]? = some t) (hr : okRow s xs k t xs.length) : okPre s xs (k + 1) := by
  intro i u hi hu
  by_cases e : i = k
  · subst e; rw [ht] at hu; injection hu with hu; subst hu; exact hr
  · exact h i u (by omega) hu
theorem okRow_zero {s : List OpV} {xs : List Int} {k : Nat} {t : Int} : okRow s xs k t (k + 1 + 0) := fun j u h1 h2 => by omega
theorem okRow_succ {s : List OpV} {xs : List Int} {k q : Nat} {t u : Int} (h : okRow s xs k t (k + 1 + q)) (hu : xs[k + 1 + q]? = some u) (hl : ¬ lastI s u < firstI s t) : okRow s xs k t (k + 1 + (q + 1)) := by
  intro j v h1 h2 hv
  by_cases e : j = k + 1 + q
  · subst e; rw [hu] at hv; injection hv with hv; subst hv; exact hl
  · exact h j v h1 (by omega) hv
theorem okT_of {s : List OpV} {xs : List Int} (h : okPre s xs xs.length) : okT s xs = true := by
  rw [okT_iff, List.pairwise_iff_getElem]
  intro i j hi hj hij
  exact h i _ hi (List.getElem?_eq_getElem hi) j _ hij hj (List.getElem?_eq_getElem hj)
theorem okT_not {s : List OpV} {xs : List Int} {i j : Nat} {t u : Int} (hij : i < j) (ht : xs[i]? = some t) (hu : xs[j]? = some u) (hl : lastI s u < firstI s t) : okT s xs = false := by
  cases h : okT s xs
  · rfl
  · rw [okT_iff, List.pairwise_iff_getElem] at h
    obtain ⟨hi, rfl⟩ := List.getElem?_eq_some_iff.1 ht
    obtain ⟨hj, rfl⟩ := List.getElem?_eq_some_iff.1 hu
    exact absurd hl (h i j hi hj hij)

def tmF (s : List OpV) (xss : List (List Int)) (q : Nat) : List (List Int) := (xss.take q).filter (okT s)
theorem tmF_succ {s : List OpV} {xss : List (List Int)} {q : Nat} {xs : List Int} (h : xss[q]? = some xs) : tmF s xss (q + 1) = tmF s xss q ++ if okT s xs then [xs] else [] := by
  unfold tmF
  rw [take_snoc h, List.filter_append]
  cases hh : okT s xs <;> simp [hh]
theorem tmF_all {s : List OpV} {xss : List (List Int)} : tmF s xss xss.length = xss.filter (okT s) := by unfold tmF; rw [List.take_length]
theorem tmF_len {s : List OpV} {xss : List (List Int)} {q : Nat} : (tmF s xss q).length ≤ xss.length := Nat.le_trans (List.length_filter_le _ _) (by simp; omega)

/-- What lies while the orders are picked. -/
structure TmInv (s : List OpV) (w w2 V : World) (bo : Nat) (rv : List Value) (xss : List (List Int)) (q : Nat) (ov : Value) (wr : World) : Prop where
  below : Below w.heap.size w wr
  sz : V.heap.size ≤ wr.heap.size
  keep : ∀ g, w2.heap.size ≤ g → g < V.heap.size → wr.heap[g]? = V.heap[g]?
  own : ∃ rv', wr.ownsRow w.heap.size 40 1 ov (tmF s xss q).length rv' ∧ RowsR w2 V rv' (tmF s xss q) ∧ ApartR rv' ∧ ∀ (i : Nat) (a : Addr) (m d : Nat), rv'[i]? = some (Value.slice (some a) m d) → ∃ j, j < q ∧ rv[j]? = some (Value.slice (some a) m d)
  blk : ∀ g, ov.ownBlock = some g → g = bo ∨ V.heap.size ≤ g
theorem TmInv.later {s : List OpV} {w w2 V : World} {bo : Nat} {rv : List Value} {xss : List (List Int)} {q : Nat} {ov : Value} {wr W : World} (h : TmInv s w w2 V bo rv xss q ov wr) (hb : Below wr.heap.size wr W) : TmInv s w w2 V bo rv xss q ov W := by
  obtain ⟨h1, h2, h3, ⟨rv', h4, h5⟩, h6⟩ := h
  exact ⟨h1.trans (hb.mono h1.size), Nat.le_trans h2 hb.size, fun g g1 g2 => (hb.block g (by omega)).trans (h3 g g1 g2), ⟨rv', own_below h4 hb, h5⟩, h6⟩
theorem TmInv.skip {s : List OpV} {w w2 V : World} {bo : Nat} {rv : List Value} {xss : List (List Int)} {q : Nat} {ov : Value} {wr : World} (h : TmInv s w w2 V bo rv xss q ov wr) {xs : List Int} (hx : xss[q]? = some xs) (ho : okT s xs = false) : TmInv s w w2 V bo rv xss (q + 1) ov wr := by
  obtain ⟨h1, h2, h3, ⟨rv', h4, h5, h7, h8⟩, h6⟩ := h
  have e : tmF s xss (q + 1) = tmF s xss q := by rw [tmF_succ hx, ho]; simp
  refine ⟨h1, h2, h3, ⟨rv', by rw [e]; exact h4, by rw [e]; exact h5, h7, fun i a m d hi => ?_⟩, h6⟩
  obtain ⟨j, hj, hr⟩ := h8 i a m d hi
  exact ⟨j, by omega, hr⟩
theorem TmInv.push {s : List OpV} {w w2 V : World} {bo : Nat} {A : Option Addr} {n : Nat} {rv : List Value} {xss : List (List Int)} {q : Nat} {ov : Value} {wr : World} (h : TmInv s w w2 V bo rv xss q ov wr) (hG : GLists w2 V A n rv xss) (hap : ApartR rv) (hbo : bo < w2.heap.size) (hw : w.heap.size ≤ bo) {xs : List Int} (hx : xss[q]? = some xs) (ho : okT s xs = true)
    {B : Option Addr} {m c : Nat} (hm : xs.length = m) (hrv : rv[q]? = some (.slice B m c)) :
    ∃ N rv', N ≤ xss.length ∧ wr.ownsRow w.heap.size 40 1 ov N rv' ∧ w.heap.size ≤ wr.heap.size ∧ ∀ (t : TypeId) (v' : Value) (w3 : World), w3.ownsRow w.heap.size 40 1 v' (N + 1) (rv' ++ [.slice B m c]) → (wr.alloc (.cells #[.slice B m c] t)).grownBy w3 ov.ownBlock →
      (v'.ownBlock = ov.ownBlock ∨ v'.ownBlock = some (wr.alloc (.cells #[.slice B m c] t)).heap.size) → TmInv s w w2 V bo rv xss (q + 1) v' w3 := by
  obtain ⟨h1, h2, h3, ⟨rv', h4, h5, h7, h8⟩, h6⟩ := h
  subst hm
  have e : tmF s xss (q + 1) = tmF s xss q ++ [xs] := by rw [tmF_succ hx, ho]; simp
  refine ⟨_, rv', tmF_len, h4, h1.size, fun t v' w3 hown hg hat => ?_⟩
  have hgs := World.grownBy.size hg
  have hb1 : Below w.heap.size w (wr.alloc (.cells #[.slice B xs.length c] t)) := h1.alloc h1.size _
  have hob : ∀ g, ov.ownBlock = some g → w.heap.size ≤ g := fun g hg' => by
    rcases h6 g hg' with e | e
    · omega
    · have := h1.size
      have hGl := hG.outer
      rcases h4.2 with ⟨e1, _⟩ | ⟨g', cap, cur, e1, e2, _⟩
      · rw [e1] at hg'; cases hg'
      · rw [e1] at hg'
        have : g' = g := by simpa [Value.ownBlock] using hg'
        omega
  obtain ⟨C, d, hC, hcd, hfr⟩ := hG.rows.2 q xs hx
  rw [hrv] at hC
  injection hC with hC
  injection hC with q1 _ q3
  subst q1; subst q3
  refine ⟨hb1.grown hg hb1.size hob, ?_, fun g g1 g2 => ?_, ⟨rv' ++ [.slice B xs.length c], ?_, ?_, ?_, ?_⟩, ?_⟩
  · simp at hgs; omega
  · refine (hg.block g (by simp; omega) (fun e => ?_)).trans ((Below.heap_alloc _ _ _ (by omega)).trans (h3 g g1 g2))
    rcases h6 g (by first | exact e | exact e.symm) with e | e <;> omega
  · rw [e]; simpa using hown
  · rw [e]; exact h5.append (RowsR.lit rfl hcd hfr)
  · refine h7.snoc fun i a m d b hb hi => ?_
    obtain ⟨j, hj, hr⟩ := h8 i a m d hi
    rw [hb] at hrv
    exact hap j q a b _ _ _ _ (by omega) hr hrv
  · intro i a m d hi
    rcases Nat.lt_or_ge i rv'.length with hl | hl
    · rw [List.getElem?_append_left hl] at hi
      obtain ⟨j, hj, hr⟩ := h8 i a m d hi
      exact ⟨j, by omega, hr⟩
    · rw [List.getElem?_append_right hl] at hi
      rcases Nat.eq_zero_or_pos (i - rv'.length) with h0 | h0
      · rw [h0] at hi
        simp only [List.getElem?_cons_zero] at hi
        exact ⟨q, by omega, hrv.trans hi⟩
      · rw [List.getElem?_eq_none (by simp; omega)] at hi; cases hi
  · intro g hg'
    rcases hat with hat | hat
    · exact h6 g (by rw [← hat]; exact hg')
    · rw [hat] at hg'
      injection hg' with hg'
      simp at hg'
      omega
theorem TmInv.done {A : Option Addr} {n : Nat} {s : List OpV} {w w2 V : World} {bo : Nat} {rv : List Value} {xss : List (List Int)} {ov : Value} {wr : World} (h : TmInv s w w2 V bo rv xss xss.length ov wr) (hG : GLists w2 V A n rv xss) (hw2 : w.heap.size ≤ w2.heap.size) :
    ∃ Ao co N, ov = .slice Ao N co ∧ N ≤ co ∧ N ≤ xss.length ∧ RetListsA w (xss.filter (okT s)) (.returned (.slice Ao N N)) wr := by
  obtain ⟨h1, h2, h3, ⟨rv', h4, h5, h7, h8⟩, h6⟩ := h
  obtain ⟨Ao, co, rfl, hco⟩ := own_form2 h4
  have hr : RowsR w2 wr rv' (tmF s xss xss.length) := h5.turned h2 fun g g1 g2 _ => h3 g g1 g2
  refine ⟨Ao, co, _, rfl, hco, tmF_len, ?_⟩
  rw [← tmF_all]
  exact ⟨Ao, _, rv', rfl, Nat.le_refl _, OuterR.of_own h4 (Nat.le_refl _) hr.one, hr.since hw2, h7, h1⟩
end Go.Proofs.Ytkbclcgdkbhgdaa
