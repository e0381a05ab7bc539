/-
  Lists of lists in the laws: equality, marks, and whether the marks are held.
-/
import Derived.Test.YtcakjhappchlmaaPkLkB2
import Derived.Test.YtcakjhappchlmaaQWEx2
namespace Go.Proofs.Ytcakjhappchlmaa
open Go.RowKit Go.BigFrame
set_option linter.unusedVariables false

/-- The slice value reads as these lists. -/
structure LstsAt (w : World) (A : Option Addr) (n : Nat) (xss : List (List Int)) : Prop where
  len : xss.length = n
  small : n ≤ 1099511627776
  row : 0 < n → ∃ b off, A = some ⟨b, off, none⟩ ∧ b < w.heap.size ∧ ∀ i xs, xss[i]? = some xs → ∃ B c, w.cell? ⟨b, off + i, none⟩ = some (.slice B xs.length c) ∧ RInts w B xs.length xs
theorem LstsAt.nil {w : World} {A : Option Addr} : LstsAt w A 0 [] := ⟨rfl, by omega, fun h => absurd h (by omega)⟩
theorem LstsAt.below {w w' : World} {A : Option Addr} {n : Nat} {xss : List (List Int)} (h : LstsAt w A n xss) (hb : Below w.heap.size w w') : LstsAt w' A n xss :=
  ⟨h.len, h.small, fun hn => by
    obtain ⟨b, off, e, hlt, hc⟩ := h.row hn
    have hs := hb.size
    refine ⟨b, off, e, by omega, fun i xs hi => ?_⟩
    obtain ⟨B, c, h1, h2⟩ := hc i xs hi
    exact ⟨B, c, (hb.cell (p := ⟨b, off + i, none⟩) hlt).trans h1, h2.below hb (Nat.le_refl _)⟩⟩
theorem LstsAt.get {w : World} {A : Option Addr} {n : Nat} {xss : List (List Int)} (h : LstsAt w A n xss) {k : Nat} (hk : k < n) :
    ∃ b off xs B c, A = some ⟨b, off, none⟩ ∧ b < w.heap.size ∧ xss[k]? = some xs ∧ w.cell? ⟨b, off + k, none⟩ = some (.slice B xs.length c) ∧ RInts w B xs.length xs := by
  obtain ⟨b, off, e, hlt, hc⟩ := h.row (by omega)
  have hx : xss[k]? = some (xss[k]'(by rw [h.len]; exact hk)) := List.getElem?_eq_getElem _
  obtain ⟨B, c, h1, h2⟩ := hc k _ hx
  exact ⟨b, off, _, B, c, e, hlt, hx, h1, h2⟩
theorem OuterR.cells {w0 w : World} {A : Option Addr} {n : Nat} {rv : List Value} (h : OuterR w0 w A n rv) (hn : 0 < n) : ∃ b, A = some ⟨b, 0, none⟩ ∧ w0.heap.size ≤ b ∧ b < w.heap.size ∧ ∀ (i : Nat) (u : Value), rv[i]? = some u → w.cell? ⟨b, 0 + i, none⟩ = some u := by
  obtain ⟨ad, e, hc⟩ := h.1.2.2 hn
  obtain ⟨b, cur, e2, h1, h2⟩ := h.2 ad e
  subst e2
  refine ⟨b, e, h1, lt_of_block h2, fun i u hu => ?_⟩
  have := hc i u hu
  rwa [addr_add] at this
theorem LstsAt.of {w0 w : World} {A : Option Addr} {n : Nat} {rv : List Value} {xss : List (List Int)} (ho : OuterR w0 w A n rv) (hr : RowsR w0 w rv xss) (hl : xss.length = n) (hs : n ≤ 1099511627776) : LstsAt w A n xss :=
  ⟨hl, hs, fun hn => by
    obtain ⟨b, e, _, hlt, hc⟩ := ho.cells hn
    refine ⟨b, 0, e, hlt, fun i xs hi => ?_⟩
    obtain ⟨B, c, h1, _, h2⟩ := hr.2 i xs hi
    exact ⟨B, c, hc i _ h1, h2.1⟩⟩


/-- The lengths of the first i lists. -/
def totL (xss : List (List Int)) (i : Nat) : Nat := ((xss.take i).map List.length).sum
theorem totL_succ {xss : List (List Int)} {i : Nat} {xs : List Int} (h : xss[i]? = some xs) : totL xss (i + 1) = totL xss i + xs.length := by
  unfold totL; rw [take_snoc h]; simp
theorem totL_le {xss : List (List Int)} (h4 : ∀ xs ∈ xss, xs.length ≤ 4) (i : Nat) : totL xss i ≤ 4 * i := by
  induction i with
  | zero => simp [totL]
  | succ i ih =>
    cases hx : xss[i]? with
    | none =>
      have hl : xss.length ≤ i := by rw [List.getElem?_eq_none_iff] at hx; exact hx
      have : totL xss (i + 1) = totL xss i := by unfold totL; rw [List.take_of_length_le (by omega), List.take_of_length_le hl]
      omega
    | some xs =>
      have := h4 xs (List.mem_of_getElem? hx)
      rw [totL_succ hx]; omega

/-- Rows that have been marked up to k. -/
structure MkInv (w0 w : World) (b n : Nat) (rv : List Value) (xss : List (List Int)) (k0 : Int) (k : Nat) (wr : World) : Prop where
  below : Below w0.heap.size w wr
  outer : wr.heap[b]? = w.heap[b]?
  marked : ∀ i xs, i < k → xss[i]? = some xs → ∃ B c, rv[i]? = some (.slice B xs.length c) ∧ RInts wr B xs.length (mkInts (k0 + totL xss i) xs.length)
  rest : ∀ i xs, k ≤ i → xss[i]? = some xs → ∃ B c, rv[i]? = some (.slice B xs.length c) ∧ FreshInts w0 wr B xs.length xs
/-- What the marks leave: the rows hold them. -/
def MarkedLists (w0 w : World) (A : Option Addr) (n : Nat) (xss : List (List Int)) (k0 : Int) (e : Ending) (w' : World) : Prop :=
  e = .returned (.int .i64 (k0 + totL xss n)) ∧ Below w0.heap.size w w' ∧ (0 < n → ∃ b, A = some ⟨b, 0, none⟩ ∧ b < w'.heap.size ∧ ∀ i xs, xss[i]? = some xs → ∃ B c, w'.cell? ⟨b, 0 + i, none⟩ = some (.slice B xs.length c) ∧ RInts w' B xs.length (mkInts (k0 + totL xss i) xs.length))

theorem RInts.kept2 {V W : World} {A : Option Addr} {n : Nat} {xs : List Int} (h : RInts V A n xs) (hs : V.heap.size ≤ W.heap.size) (hA : ∀ ad, A = some ad → ad.block < V.heap.size → W.heap[ad.block]? = V.heap[ad.block]?) : RInts W A n xs := by
  refine ⟨h.1, h.2.1, fun hn => ?_⟩
  obtain ⟨b, off, hA', hl, hc⟩ := h.2.2 hn
  have hk := hA _ hA' hl
  exact ⟨b, off, hA', by omega, fun i x hx => (World.cell?_of_block (w := V) (a := ⟨b, off + i, none⟩) hk).trans (hc i x hx)⟩
theorem MkInv.step {w0 w : World} (h00 : w0.heap.size ≤ w.heap.size) {b n : Nat} {rv : List Value} {xss : List (List Int)} {k0 : Int} {k : Nat} {wr w2 : World} {B : Option Addr} {c : Nat} {xs : List Int} (hap : ApartR rv) (h : MkInv w0 w b n rv xss k0 k wr) (hx : xss[k]? = some xs) (hrv : rv[k]? = some (.slice B xs.length c))
    (hf : FreshInts w0 wr B xs.length xs) (hbt : ∃ cur, wr.heap[b]? = some (.cells cur 34 (0, 0))) (hm : RInts w2 B xs.length (mkInts (k0 + totL xss k) xs.length)) (hg : wr.grownBy w2 (B.map Addr.block)) : MkInv w0 w b n rv xss k0 (k + 1) w2 := by
  obtain ⟨h1, h2, h3, h4⟩ := h
  have hs := World.grownBy.size hg
  have hBb : ∀ ad, B = some ad → w0.heap.size ≤ ad.block ∧ ∃ cur, wr.heap[ad.block]? = some (.cells cur 3 (0, 0)) := fun ad had => by
    obtain ⟨g, cur, e, e1, e2, _⟩ := hf.2 ad had
    rw [e]; exact ⟨e1, cur, e2⟩
  have hgrow : ∀ j, (B.map Addr.block) = some j → w0.heap.size ≤ j := fun j hj => by
    cases hB : B with
    | none => rw [hB] at hj; cases hj
    | some ad => rw [hB] at hj; injection hj with hj; have := (hBb ad hB).1; rw [← hj]; exact this
  have other : ∀ i D m d, i ≠ k → rv[i]? = some (.slice D m d) → ∀ ad, D = some ad → some ad.block ≠ B.map Addr.block := by
    intro i D m d hik hi ad had e
    subst had
    cases hB : B with
    | none => rw [hB] at e; cases e
    | some bd =>
      rw [hB] at e
      injection e with e
      rw [hB] at hrv
      exact hap i k ad bd _ _ _ _ hik hi hrv e
  refine ⟨h1.trans ?_, ?_, fun i ys hi hy => ?_, fun i ys hi hy => ?_⟩
  · exact (Below.refl _ wr).grown hg (by have := h1.size; omega) (fun j hj => hgrow j hj)
  · obtain ⟨cur, hcur⟩ := hbt
    refine (hg.block b (lt_of_block hcur) fun e => ?_).trans h2
    cases hB : B with
    | none => rw [hB] at e; cases e
    | some ad =>
      rw [hB] at e
      injection e with e
      obtain ⟨_, cur2, hc2⟩ := hBb ad hB
      rw [← e, hcur] at hc2
      injection hc2 with hc2
      injection hc2 with _ ht _
      exact absurd ht (by decide)
  · rcases Nat.lt_or_ge i k with hik | hik
    · obtain ⟨D, d, e1, e2⟩ := h3 i ys hik hy
      refine ⟨D, d, e1, e2.kept2 hs fun ad had hb => ?_⟩
      exact hg.block _ hb (other i D _ d (by omega) e1 ad had)
    · obtain rfl : i = k := by omega
      rw [hx] at hy
      injection hy with hy
      subst hy
      exact ⟨B, c, hrv, hm⟩
  · obtain ⟨D, d, e1, e2⟩ := h4 i ys (by omega) hy
    refine ⟨D, d, e1, ⟨e2.1.kept2 hs fun ad had hb => ?_, fun ad had => ?_⟩⟩
    · exact hg.block _ hb (other i D _ d (by omega) e1 ad had)
    · obtain ⟨g, cur, e, q1, q2, q3⟩ := e2.2 ad had
      refine ⟨g, cur, e, q1, ?_, q3⟩
      have := other i D _ d (by omega) e1 ad had
      rw [e] at this
      exact (hg.block g (lt_of_block q2) this).trans q2

/-- The rows that hold the marks. -/
def HeldAt_ (w : World) (A : Option Addr) (n : Nat) (xss : List (List Int)) (k0 : Int) : Prop :=
  0 < n → ∃ b, A = some ⟨b, 0, none⟩ ∧ b < w.heap.size ∧ ∀ i xs, xss[i]? = some xs → ∃ B c, w.cell? ⟨b, 0 + i, none⟩ = some (.slice B xs.length c) ∧ RInts w B xs.length (mkInts (k0 + totL xss i) xs.length)
theorem HeldAt_.below {w w' : World} {A : Option Addr} {n : Nat} {xss : List (List Int)} {k0 : Int} (h : HeldAt_ w A n xss k0) (hb : Below w.heap.size w w') : HeldAt_ w' A n xss k0 := fun hn => by
  obtain ⟨b, e, hl, hc⟩ := h hn
  have hs := hb.size
  refine ⟨b, e, by omega, fun i xs hi => ?_⟩
  obtain ⟨B, c, h1, h2⟩ := hc i xs hi
  exact ⟨B, c, (hb.cell (p := ⟨b, 0 + i, none⟩) hl).trans h1, h2.below hb (Nat.le_refl _)⟩

/-- The lists that the call has handed back, made since w0. -/
structure GLists (w0 w : World) (A : Option Addr) (n : Nat) (rv : List Value) (xss : List (List Int)) : Prop where
  outer : OuterR w0 w A n rv
  rows : RowsR w0 w rv xss
theorem GLists.turned {w0 V W : World} {A : Option Addr} {n : Nat} {rv : List Value} {xss : List (List Int)} (h : GLists w0 V A n rv xss) (hs : V.heap.size ≤ W.heap.size) (hk : ∀ g, w0.heap.size ≤ g → g < V.heap.size → W.heap[g]? = V.heap[g]?) : GLists w0 W A n rv xss := by
  have hblk : ∀ ad, A = some ad → ∃ b cur, ad = ⟨b, 0, none⟩ ∧ w0.heap.size ≤ b ∧ V.heap[b]? = some (.cells cur 34 (0, 0)) ∧ W.heap[b]? = V.heap[b]? := fun ad had => by
    obtain ⟨b, cur, e, h1, h2⟩ := h.outer.2 ad had
    exact ⟨b, cur, e, h1, h2, hk b h1 (lt_of_block h2)⟩
  refine ⟨⟨⟨h.outer.1.1, h.outer.1.2.1, fun hn => ?_⟩, fun ad had => ?_⟩, h.rows.turned hs fun g h1 h2 _ => hk g h1 h2⟩
  · obtain ⟨ad, e, hc⟩ := h.outer.1.2.2 hn
    obtain ⟨b, cur, e2, _, _, hkb⟩ := hblk ad e
    subst e2
    refine ⟨_, e, fun j u hu => ?_⟩
    have := hc j u hu
    rw [addr_add] at this ⊢
    exact (World.cell?_of_block (w := V) (a := ⟨b, 0 + j, none⟩) hkb).trans this
  · obtain ⟨b, cur, e, h1, h2, hkb⟩ := hblk ad had
    exact ⟨b, cur, e, h1, hkb.trans h2⟩
theorem GLists.below {w0 w w' : World} {A : Option Addr} {n : Nat} {rv : List Value} {xss : List (List Int)} (h : GLists w0 w A n rv xss) (hb : Below w.heap.size w w') : GLists w0 w' A n rv xss := h.turned hb.size fun g _ hg => hb.block g hg
theorem GLists.marked {w0 w w' : World} {A X : Option Addr} {n : Nat} {rv : List Value} {xss : List (List Int)} (h : GLists w0 w A n rv xss) (hg : w.grownBy w' (X.map Addr.block)) (hX : ∀ a, X = some a → a.block < w0.heap.size) : GLists w0 w' A n rv xss :=
  h.turned (World.grownBy.size hg) fun g h1 h2 => hg.block g h2 fun e => by
    cases hx : X with
    | none => rw [hx] at e; cases e
    | some a => rw [hx] at e; injection e with e; have := hX a hx; omega
theorem GLists.at_ {w0 w : World} {A : Option Addr} {n : Nat} {rv : List Value} {xss : List (List Int)} (h : GLists w0 w A n rv xss) (hl : xss.length = n) (hs : n ≤ 1099511627776) : LstsAt w A n xss := LstsAt.of h.outer h.rows hl hs
end Go.Proofs.Ytcakjhappchlmaa
