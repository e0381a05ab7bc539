/-
  Texts that the proof rests on, joined: part 14.
-/
import Derived.Deep.RegionHeld
import Derived.Outline
import Derived.StillTailTactics
import Derived.Test.YtncebpmckbcabaaSSt5
import Derived.Test.YtncebpmckbcabaaSSt6
import Derived.Test.YtncebpmckbcabaaSSt7
import Derived.Test.YtncebpmckbcabaaSSt8
import Derived.Test.YtncebpmckbcabaaSSt13
namespace Go.Proofs.Ytncebpmckbcabaa
open Go.RowKit Go.BigFrame Go.Shelf
set_option linter.unusedVariables false

def goneN (pre : List Int) : Nat := pre.foldl (fun g t => g ||| 1 <<< t.toNat) 0
theorem goneN_snoc (pre : List Int) (t : Int) : goneN (pre ++ [t]) = goneN pre ||| 1 <<< t.toNat := by simp [goneN]
theorem gone_fold (i : Nat) : ∀ (pre : List Int) (g : Nat), (pre.foldl (fun g t => g ||| 1 <<< t.toNat) g).testBit i = (g.testBit i || pre.any fun u => u.toNat == i) := by
  intro pre
  induction pre with
  | nil => intro g; simp
  | cons t r ih =>
    intro g
    rw [List.foldl_cons, ih, List.any_cons, Nat.testBit_or, Bool.or_assoc]
    congr 1
    congr 1
    rw [Nat.one_shiftLeft, Nat.testBit_two_pow]
    by_cases h : t.toNat = i <;> simp [h]
theorem goneN_bit (pre : List Int) (i : Nat) : (goneN pre).testBit i = pre.any fun u => u.toNat == i := by
  unfold goneN; rw [gone_fold]; simp
theorem goneN_lt {pre : List Int} (h : ∀ t ∈ pre, 0 ≤ t ∧ t ≤ 3) : goneN pre < 16 := by
  refine Nat.lt_pow_two_of_testBit (n := 4) _ fun i hi => ?_
  rw [goneN_bit, List.any_eq_false]
  intro u hu
  have := h u hu
  simp
  omega
theorem gone_and {R : List Nat} {pre : List Int} {t : Int} : (R.getD t.toNat 0 &&& goneN pre = 0) ↔ (pre.any fun u => edgeB R t u) = false := by
  constructor
  · intro h
    rw [List.any_eq_false]
    intro u hu he
    have h1 : (R.getD t.toNat 0 &&& goneN pre).testBit u.toNat = false := by rw [h]; simp
    rw [Nat.testBit_and, goneN_bit] at h1
    unfold edgeB at he
    rw [he, Bool.true_and, List.any_eq_false] at h1
    exact h1 u hu (by simp)
  · intro h
    refine Nat.eq_of_testBit_eq fun i => ?_
    rw [Nat.testBit_and, goneN_bit, Nat.zero_testBit]
    cases hb : (pre.any fun u => u.toNat == i)
    · simp
    · rw [List.any_eq_true] at hb
      obtain ⟨u, hu, hui⟩ := hb
      have hui' : u.toNat = i := by simpa using hui
      rw [List.any_eq_false] at h
      have := h u hu
      unfold edgeB at this
      rw [hui'] at this
      simpa using this
/-- One more of an order that goes so far. -/
theorem acc_go {R : List Nat} {x : List Int} {k : Nat} {t : Int} (ht : x[k]? = some t) (ha : accB R [] (x.take k) = true) (h : R.getD t.toNat 0 &&& goneN (x.take k) = 0) : accB R [] (x.take (k + 1)) = true := by
  rw [take_snoc ht, accB_append, ha]
  simp only [accB, List.nil_append, Bool.true_and, Bool.and_true]
  rw [gone_and.1 h]; rfl
theorem acc_no {R : List Nat} {x : List Int} {k : Nat} {t : Int} (ht : x[k]? = some t) (h : ¬ (R.getD t.toNat 0 &&& goneN (x.take k) = 0)) : accB R [] x = false := by
  have e : x = x.take k ++ (t :: x.drop (k + 1)) := by
    rw [List.getElem?_eq_some_iff] at ht
    obtain ⟨hlt, hx⟩ := ht
    conv => lhs; rw [← List.take_append_drop k x]
    rw [List.drop_eq_getElem_cons hlt, hx]
  rw [e, accB_append]
  simp only [accB, List.nil_append]
  have : ((x.take k).any fun u => edgeB R t u) = true := by
    cases hb : ((x.take k).any fun u => edgeB R t u)
    · exact absurd (gone_and.2 hb) h
    · rfl
  rw [this]; simp
theorem gone_take {x : List Int} {k : Nat} {t : Int} (ht : x[k]? = some t) : goneN (x.take (k + 1)) = goneN (x.take k) ||| 1 <<< t.toNat := by
  rw [take_snoc ht, goneN_snoc]
theorem permF_len {list : List Int} (h4 : list.length ≤ 4) (m : Nat) : ∀ pre, (permF list m pre).length ≤ 4 ^ m := by
  induction m with
  | zero => intro pre; simp [permF]
  | succ m ih =>
    intro pre
    rw [permF_succ]
    refine Nat.le_trans (flat_len (M := 4 ^ m) (fun t => ?_) _) ?_
    · unfold permN
      split
      · simp
      · exact ih _
    · rw [Nat.pow_succ, Nat.mul_comm]; exact Nat.mul_le_mul_left _ h4
/-- What an order is made of. -/
theorem permF_sub {list : List Int} (m : Nat) : ∀ pre p, p ∈ permF list m pre → ∀ t ∈ p, t ∈ pre ∨ t ∈ list := by
  induction m with
  | zero => intro pre p hp t ht; simp only [permF, List.mem_singleton] at hp; subst hp; exact .inl ht
  | succ m ih =>
    intro pre p hp t ht
    rw [permF_succ, List.mem_flatMap] at hp
    obtain ⟨u, hu, hp⟩ := hp
    unfold permN at hp
    split at hp
    · cases hp
    · rcases ih _ _ hp t ht with h | h
      · rcases List.mem_append.1 h with h | h
        · exact .inl h
        · rw [List.mem_singleton] at h; subst h; exact .inr hu
      · exact .inr h
theorem permF_length {list : List Int} (m : Nat) : ∀ pre p, p ∈ permF list m pre → p.length = pre.length + m := by
  induction m with
  | zero => intro pre p hp; simp only [permF, List.mem_singleton] at hp; subst hp; simp
  | succ m ih =>
    intro pre p hp
    rw [permF_succ, List.mem_flatMap] at hp
    obtain ⟨u, hu, hp⟩ := hp
    unfold permN at hp
    split at hp
    · cases hp
    · have := ih _ _ hp; simp at this; omega

/-- No two of these slices lie in one block. -/
def ApartR (rv : List Value) : Prop := ∀ (i j : Nat) (a b : Addr) (n m c d : Nat), i ≠ j → rv[i]? = some (Value.slice (some a) n c) → rv[j]? = some (Value.slice (some b) m d) → a.block ≠ b.block
theorem ApartR.nil : ApartR [] := fun i j a b n m c d _ h => by simp at h
theorem ApartR.snoc {rv : List Value} {A : Option Addr} {n c : Nat} (h : ApartR rv) (hA : ∀ (i : Nat) (a : Addr) (m d : Nat) (b : Addr), A = some b → rv[i]? = some (Value.slice (some a) m d) → a.block ≠ b.block) : ApartR (rv ++ [Value.slice A n c]) := by
  intro i j a b n' m' c' d' hij hi hj
  have at2 : ∀ k a n'' c'', (rv ++ [Value.slice A n c])[k]? = some (.slice (some a) n'' c'') → rv[k]? = some (.slice (some a) n'' c'') ∨ (k = rv.length ∧ A = some a) := by
    intro k a n'' c'' hk
    rcases Nat.lt_or_ge k rv.length with h1 | h1
    · rw [List.getElem?_append_left h1] at hk; exact .inl hk
    · rw [List.getElem?_append_right h1] at hk
      rcases Nat.eq_zero_or_pos (k - rv.length) with h0 | h0
      · rw [h0] at hk
        simp only [List.getElem?_cons_zero, Option.some.injEq] at hk
        injection hk with e1 _ _
        exact .inr ⟨by omega, e1⟩
      · rw [List.getElem?_eq_none (by simp; omega)] at hk; cases hk
  rcases at2 i a _ _ hi with h1 | ⟨e1, h1⟩
  · rcases at2 j b _ _ hj with h2 | ⟨e2, h2⟩
    · exact h i j a b _ _ _ _ hij h1 h2
    · exact hA i a _ _ b h2 h1
  · rcases at2 j b _ _ hj with h2 | ⟨e2, h2⟩
    · exact fun e => hA j b _ _ a h1 h2 e.symm
    · omega
/-- The rows' blocks are there. -/
theorem RowsR.blocks {w0 w : World} {rv : List Value} {xss : List (List Int)} (h : RowsR w0 w rv xss) : ∀ (i : Nat) (a : Addr) (m d : Nat), rv[i]? = some (Value.slice (some a) m d) → a.block < w.heap.size := by
  intro i a m d hi
  have hl := (List.getElem?_eq_some_iff.1 hi).1
  obtain ⟨C, c, e, _, hr⟩ := h.2 i _ (List.getElem?_eq_getElem (by rw [← h.1]; exact hl))
  rw [hi] at e
  injection e with e
  injection e with e1 _ _
  obtain ⟨b, cur, e2, _, h2, _⟩ := hr.2 a e1.symm
  rw [e2]
  exact lt_of_block h2
/-- The call hands back these lists in new memory, each in a block of its own. -/
def RetListsA (w0 : World) (xss : List (List Int)) (e : Ending) (w : World) : Prop :=
  ∃ A c rv, e = .returned (.slice A xss.length c) ∧ xss.length ≤ c ∧ OuterR w0 w A xss.length rv ∧ RowsR w0 w rv xss ∧ ApartR rv ∧ Below w0.heap.size w0 w
theorem RetListsA.nil {w0 w : World} (h : Below w0.heap.size w0 w) : RetListsA w0 [] (.returned (.slice none 0 0)) w :=
  ⟨none, 0, [], rfl, Nat.le_refl _, ⟨⟨rfl, by simp, fun h => absurd h (by simp)⟩, fun ad h => by cases h⟩, RowsR.nil, ApartR.nil, h⟩
theorem RetListsA.lists {w0 w : World} {xss : List (List Int)} {e : Ending} (h : RetListsA w0 xss e w) : RetLists w0 xss e w := by
  obtain ⟨A, c, rv, h1, h2, h3, h4, _, h5⟩ := h
  exact ⟨A, c, rv, h1, h2, h3, h4, h5⟩

/-- What a loop over all orders has gathered in 'out', whose box lies at bo. -/
structure OutInv (w0 w : World) (bo q : Nat) (xss : List (List Int)) (V : World) : Prop where
  below : Below w0.heap.size w0 V
  frozen : V.frozen? ⟨bo, 0, none⟩ = false
  out : ∃ ov rv, V.cell? ⟨bo, 0, none⟩ = some ov ∧ V.ownsRow w0.heap.size 26 1 ov xss.length rv ∧ RowsR (six w) V rv xss ∧ ApartR rv ∧ ∀ g, ov.ownBlock = some g → g = q ∨ w.heap.size + 6 ≤ g
theorem own_turned {V W : World} {base : Nat} {e : TypeId} {size n : Nat} {v : Value} {xs : List Value} (h : V.ownsRow base e size v n xs) (hk : ∀ g, v.ownBlock = some g → W.heap[g]? = V.heap[g]?) : W.ownsRow base e size v n xs := by
  refine ⟨h.1, ?_⟩
  rcases h.2 with h1 | ⟨g, cap, cur, e1, h2, h3, h4⟩
  · exact .inl h1
  · exact .inr ⟨g, cap, cur, e1, h2, (hk g (by rw [e1]; simp [Value.ownBlock])).trans h3, h4⟩
theorem FreshInts.turned {w0 V W : World} {A : Option Addr} {n : Nat} {xs : List Int} (h : FreshInts w0 V A n xs) (hs : V.heap.size ≤ W.heap.size) (hk : ∀ g, w0.heap.size ≤ g → g < V.heap.size → (∃ cur, V.heap[g]? = some (.cells cur 3 (0, 0))) → W.heap[g]? = V.heap[g]?) : FreshInts w0 W A n xs := by
  have hblk : ∀ ad, A = some ad → ∃ b cur, ad = ⟨b, 0, none⟩ ∧ w0.heap.size ≤ b ∧ V.heap[b]? = some (.cells cur 3 (0, 0)) ∧ n ≤ cur.size ∧ W.heap[b]? = V.heap[b]? := fun ad had => by
    obtain ⟨b, cur, e, h1, h2, h3⟩ := h.2 ad had
    exact ⟨b, cur, e, h1, h2, h3, hk b h1 (lt_of_block h2) ⟨cur, h2⟩⟩
  refine ⟨⟨h.1.1, h.1.2.1, fun hn => ?_⟩, fun ad had => ?_⟩
  · obtain ⟨b, off, hA, hlt, hc⟩ := h.1.2.2 hn
    obtain ⟨b', cur, e, _, _, _, hkb⟩ := hblk _ hA
    injection e with e1 e2 _
    subst e1
    exact ⟨b, off, hA, by omega, fun i x hx => (World.cell?_of_block (w := V) (a := ⟨b, off + i, none⟩) hkb).trans (hc i x hx)⟩
  · obtain ⟨b, cur, e, h1, h2, h3, hkb⟩ := hblk ad had
    exact ⟨b, cur, e, h1, hkb.trans h2, h3⟩
theorem RowsR.turned {w0 V W : World} {rv : List Value} {xss : List (List Int)} (h : RowsR w0 V rv xss) (hs : V.heap.size ≤ W.heap.size) (hk : ∀ g, w0.heap.size ≤ g → g < V.heap.size → (∃ cur, V.heap[g]? = some (.cells cur 3 (0, 0))) → W.heap[g]? = V.heap[g]?) : RowsR w0 W rv xss :=
  ⟨h.1, fun i xs hi => by obtain ⟨C, c, e, hmc, hr⟩ := h.2 i xs hi; exact ⟨C, c, e, hmc, hr.turned hs hk⟩⟩
theorem OutInv.open_ {w0 w : World} {bo q : Nat} {xss : List (List Int)} {V W : World} (h : OutInv w0 w bo q xss V) (hq : q < w.heap.size) (hw : w0.heap.size ≤ w.heap.size) (hbo : bo < w.heap.size) (hst : LpStep w.heap.size V W) :
    Below w0.heap.size w0 W ∧ W.frozen? ⟨bo, 0, none⟩ = false ∧ ∃ ov rv, W.cell? ⟨bo, 0, none⟩ = some ov ∧ W.ownsRow w0.heap.size 26 1 ov xss.length rv ∧ RowsR (six w) W rv xss ∧ ApartR rv ∧ (∀ g, ov.ownBlock = some g → g = q ∨ w.heap.size + 6 ≤ g) ∧
      ∀ (i : Nat) (a : Addr) (m d : Nat), rv[i]? = some (Value.slice (some a) m d) → a.block < V.heap.size := by
  obtain ⟨hb, hf, ov, rv, hc, hown, hr, hap, hg⟩ := h
  have hbV : bo < V.heap.size := block_lt_of_cell hc
  have kb : W.heap[bo]? = V.heap[bo]? := hst.block bo hbV (by omega)
  refine ⟨⟨hst.os.trans hb.os, hst.tape.trans hb.tape, hst.output.trans hb.output, Nat.le_trans hb.size hst.size, fun k hk => (hst.block k (Nat.lt_of_lt_of_le hk hb.size) (by omega)).trans (hb.block k hk)⟩, ?_, ov, rv, (World.cell?_of_block (w := V) (a := ⟨bo, 0, none⟩) kb).trans hc, ?_, ?_, hap, hg, hr.blocks⟩
  · rw [World.frozen?_of_block (w := V) (a := ⟨bo, 0, none⟩) kb]; exact hf
  · refine own_turned hown fun g hge => hst.block g ?_ (by have := hg g hge; omega)
    rcases hown.2 with ⟨h1, _⟩ | ⟨g', cap, cur, e1, _, h3, _⟩
    · rw [h1] at hge; cases hge
    · rw [e1] at hge
      have : g' = g := by simpa [Value.ownBlock] using hge
      subst this
      exact lt_of_block h3
  · exact hr.turned hst.size fun g h6 hgV _ => hst.block g hgV (by rw [six_size] at h6; omega)
theorem OutInv.step {w0 w : World} {bo q : Nat} {xss : List (List Int)} {V W : World} (h : OutInv w0 w bo q xss V) (hq : q < w.heap.size) (hw : w0.heap.size ≤ w.heap.size) (hbo : bo < w.heap.size) (hst : LpStep w.heap.size V W) : OutInv w0 w bo q xss W := by
  obtain ⟨h1, h2, ov, rv, h3, h4, h5, h6, h7, _⟩ := h.open_ hq hw hbo hst
  exact ⟨h1, h2, ov, rv, h3, h4, h5, h6, h7⟩
theorem OutInv.start {w0 w : World} {bo q : Nat} (hb : Below w0.heap.size w0 w) (hc : w.cell? ⟨bo, 0, none⟩ = some (.slice (some ⟨q, 0, none⟩) 0 0)) (hf : w.frozen? ⟨bo, 0, none⟩ = false) (hown : w.ownsRow w0.heap.size 26 1 (.slice (some ⟨q, 0, none⟩) 0 0) 0 []) : OutInv w0 w bo q [] w :=
  ⟨hb, hf, _, [], hc, hown, RowsR.nil, ApartR.nil, fun g hg => .inl (by simpa [Value.ownBlock, eq_comm] using hg)⟩
/-- One order more in 'out': a list of the call's own, appended; the box of 'out' turned. -/
theorem OutInv.push {w0 w : World} {bo q : Nat} {xss : List (List Int)} {V V1 W : World} {ov ov' : Value} {rv : List Value} {A : Option Addr} {n : Nat} {x : List Int} (hw : w0.heap.size ≤ w.heap.size) (hbo : bo < w.heap.size) (hbo0 : w0.heap.size ≤ bo) (hq : q ≠ bo ∧ q < w.heap.size)
    (hb : Below w0.heap.size w0 V) (hf : V.frozen? ⟨bo, 0, none⟩ = false) (hc : V.cell? ⟨bo, 0, none⟩ = some ov) (hown : V.ownsRow w0.heap.size 26 1 ov xss.length rv) (hr : RowsR (six w) V rv xss) (hap : ApartR (rv ++ [.slice A n n])) (hg : ∀ g, ov.ownBlock = some g → g = q ∨ w.heap.size + 6 ≤ g)
    (hx : FreshInts (six w) V A n x) (hxl : x.length = n) (hb1 : Below V.heap.size V V1) (hlo : w.heap.size + 6 ≤ V.heap.size)
    (hown' : W.ownsRow w0.heap.size 26 1 ov' (xss.length + 1) (rv ++ [.slice A n n])) (hgr : V1.grownBy W ov.ownBlock) (hnew : ov'.ownBlock = ov.ownBlock ∨ ov'.ownBlock = some V1.heap.size) :
    OutInv w0 w bo q (xss ++ [x]) (W.setCell ⟨bo, 0, none⟩ ov') := by
  have hs1 := hb1.size
  have hgs := World.grownBy.size hgr
  have hboV : bo < V.heap.size := block_lt_of_cell hc
  have hown1 : V1.ownsRow w0.heap.size 26 1 ov xss.length rv := own_below hown hb1
  have hne : ov.ownBlock ≠ some bo := fun e => by have := hg bo e; omega
  have hWbo : W.heap[bo]? = V.heap[bo]? := (hgr.block bo (by omega) (fun e => hne e.symm)).trans (hb1.block bo hboV)
  have hbW : Below w0.heap.size w0 W := Below.own (hb.trans (hb1.mono hb.size)) hown1 (Nat.le_refl _) hgr
  have hint : ∀ g, ov.ownBlock = some g → ∀ cur, V1.heap[g]? ≠ some (.cells cur 3 (0, 0)) := own_noInt hown1
  have turn : ∀ g, V.heap.size > g → (∃ cur, V.heap[g]? = some (.cells cur 3 (0, 0))) → g ≠ bo → (W.setCell ⟨bo, 0, none⟩ ov').heap[g]? = V.heap[g]? := by
    intro g hgV ⟨cur, hcur⟩ hgb
    refine (Below.heap_setCell W _ _ g (by simpa using hgb)).trans ?_
    refine (hgr.block g (by omega) ?_).trans (hb1.block g hgV)
    intro e
    exact hint g e.symm cur ((hb1.block g hgV).trans hcur)
  refine ⟨hbW.setCell (by simpa using hbo0) _, ?_, ov', rv ++ [.slice A n n], World.cell?_setCell_same' _ _ _ ?_, ?_, ?_, hap, ?_⟩
  · rw [World.frozen?_setCell, World.frozen?_of_block (w := V) (a := ⟨bo, 0, none⟩) hWbo]; exact hf
  · rw [World.cell?_of_block (w := V) (a := ⟨bo, 0, none⟩) hWbo, hc]; rfl
  · rw [List.length_append, List.length_singleton]
    refine own_turned hown' fun g hge => Below.heap_setCell W _ _ g ?_
    intro e
    simp only at e
    subst e
    rcases hnew with h | h
    · rw [h] at hge; have := hg _ hge; omega
    · rw [h] at hge; injection hge with hge; omega
  · refine RowsR.append (hr.turned (by simp [World.setCell]; omega) fun g h6 hgV hcur => turn g hgV hcur (by rw [six_size] at h6; omega)) ?_
    exact RowsR.lit hxl (Nat.le_refl _) (hx.turned (by simp [World.setCell]; omega) fun g h6 hgV hcur => turn g hgV hcur (by rw [six_size] at h6; omega))
  · intro g hge
    rcases hnew with h | h
    · rw [h] at hge; exact hg g hge
    · rw [h] at hge; injection hge with hge; exact .inr (by omega)
/-- What such a push keeps of all else. -/
theorem push_keep {w : World} {bo q bx n0 : Nat} {V V1 W : World} {ov ov' : Value} (hbo : bo < w.heap.size) (hn0 : n0 ≤ bo ∧ n0 ≤ q) (hne : bx ≠ bo ∧ bx ≠ q ∧ bx < w.heap.size) (hq : q < w.heap.size)
    (hg : ∀ g, ov.ownBlock = some g → g = q ∨ w.heap.size + 6 ≤ g) (hn0w : n0 ≤ w.heap.size) (hb1 : Below V.heap.size V V1) (hgr : V1.grownBy W ov.ownBlock) :
    BdKeep w.heap.size bx n0 V (W.setCell ⟨bo, 0, none⟩ ov') := by
  have hs1 := hb1.size
  have hgs := World.grownBy.size hgr
  refine ⟨by simp [World.setCell]; omega, fun k hk hc => ?_⟩
  refine (Below.heap_setCell W _ _ k ?_).trans ((hgr.block k (by omega) ?_).trans (hb1.block k hk))
  · simp only; omega
  · intro e
    have := hg k e.symm
    omega
theorem push_cell {w : World} {bo q p : Nat} {V V1 W : World} {ov ov' v : Value} (hg : ∀ g, ov.ownBlock = some g → g = q ∨ w.heap.size + 6 ≤ g) (hp : p < w.heap.size) (hpq : p ≠ q) (hpb : p ≠ bo) (hb1 : Below V.heap.size V V1) (hgr : V1.grownBy W ov.ownBlock)
    (hc : V.cell? ⟨p, 0, none⟩ = some v) : (W.setCell ⟨bo, 0, none⟩ ov').cell? ⟨p, 0, none⟩ = some v := by
  have hpV : p < V.heap.size := block_lt_of_cell hc
  have hs1 := hb1.size
  refine (World.cell?_of_block (w := V) (a := ⟨p, 0, none⟩) ?_).trans hc
  refine (Below.heap_setCell W _ _ p (by simpa using hpb)).trans ((hgr.block p (by omega) ?_).trans (hb1.block p hpV))
  intro e
  have := hg p e.symm
  omega
end Go.Proofs.Ytncebpmckbcabaa
namespace Go.Proofs.Ytncebpmckbcabaa
open Go.RowKit
set_option linter.unusedVariables false

theorem permF_complete {list : List Int} : ∀ (q pre : List Int), (pre ++ q).Nodup → (∀ x ∈ q, x ∈ list) → pre ++ q ∈ permF list q.length pre := by
  intro q
  induction q with
  | nil => intro pre _ _; simp [permF]
  | cons t r ih =>
    intro pre hd hm
    simp only [List.length_cons, permF]
    rw [List.mem_flatMap]
    refine ⟨t, hm t (by simp), ?_⟩
    have hno : (pre.any fun y => y == t) = false := by
      cases h : (pre.any fun y => y == t)
      · rfl
      · exfalso
        have h1 := any_eq_iff.1 h
        rw [List.nodup_append] at hd
        exact hd.2.2 t h1 t (by simp) rfl
    rw [if_neg (by rw [hno]; simp)]
    have := ih (pre ++ [t]) (by rw [List.append_assoc]; exact hd) fun x hx => hm x (List.mem_cons_of_mem _ hx)
    rw [List.append_assoc] at this
    exact this
end Go.Proofs.Ytncebpmckbcabaa
namespace Go.Proofs.Ytncebpmckbcabaa
open Go.RowKit Go.BigFrame
set_option linter.unusedVariables false

set_option maxHeartbeats 400000 in
theorem stampOf_any (A : Option Addr) (n c : Nat) (s : List OpV) (t : Int) (w : World) (hx : ROps w A n s) :
    Calls Try.prog 119 #[.slice A n c, .int .i64 t] w fun e w' => e = .returned (.int .i64 (stampN s t : Nat)) ∧ Below w.heap.size w w' := by
  have hn := hx.2.1
  have hl := hx.1
  have HX := Lib.hid hx
  clear hx
  go_enter Try.func119, Try.ntmps119
  go_wp2_with fail
  go_loop [5] (fun i => ∃ k : Nat, k ≤ n ∧ i = .int .i64 k ∧ (∀ j, j < k → ∀ o, s[j]? = some o → (o.tx == t) = false)) (fun i => n - (intOf i).toNat)
  case atStart => exact ⟨0, Nat.zero_le _, rfl, by omega⟩
  case round =>
    obtain ⟨k, hk, rfl, hno⟩ := hrel
    by_cases hlt : k < n
    · obtain ⟨b, off, o, rfl, hbl, ho, c0, c1, c2⟩ := HX.out.at_ hlt
      have HN : Hid ((o.tx == t) = false → ∀ j, j < k + 1 → ∀ o, s[j]? = some o → (o.tx == t) = false) := fun h => no_snoc (p := fun o => o.tx == t) ho hno h
      have HT : Hid ((o.tx == t) = true → stampN s t = k) := fun h => findIdx_hit ho h hno
      clear hno ho
      obtain ⟨tx, kd, it⟩ := o
      simp only at c0 c1 c2 HN HT
      by_cases h1 : tx = t
      · have hs := Lib.hid (HT.out (by simpa using h1))
        go_wp2_with fail
        go_ret
        exact ⟨by rw [hs.out]; rfl, Below.refl _ _⟩
      · have hs := Lib.hid (HN.out (by simpa using h1))
        go_wp2_with fail
        go_round
        case rel => exact ⟨k + 1, by omega, by go_num, hs.out⟩
        case measure => simp [intOf]; omega
    · have HE : Hid (stampN s t = s.length) := findIdx_end (fun j hj => hno j (by omega))
      clear hno
      go_wp2_with fail
      go_ret
      exact ⟨by rw [HE.out, hl]; rfl, Below.refl _ _⟩
end Go.Proofs.Ytncebpmckbcabaa
namespace Go.Proofs.Ytncebpmckbcabaa
set_option linter.unusedVariables false
/-- The first place of a transaction that is there. -/
theorem firstTo_eq (s : List OpV) (t : Int) (k : Nat) (hk : k ≤ s.length) : firstTo s t k = if stampN s t < k then (stampN s t : Int) else -1 := by
  induction k with
  | zero => simp [firstTo]
  | succ k ih =>
    have ih := ih (by omega)
    have hat : isAt s k t = ((s[k]'(by omega)).tx == t) := by unfold isAt; rw [List.getElem?_eq_getElem (by omega)]
    simp only [firstTo, ih, hat]
    unfold stampN at *
    obtain ⟨f, hf⟩ : ∃ f, (s.findIdx fun o => o.tx == t) = f := ⟨_, rfl⟩
    have hget : ∀ q, s[f]? = some q → (q.tx == t) = true := by
      intro q hq
      obtain ⟨hl, he⟩ := List.getElem?_eq_some_iff.1 hq
      subst hf
      rw [← he]
      exact @List.findIdx_getElem _ (fun o : OpV => o.tx == t) s hl
    have hnot : k < f → ((s[k]'(by omega)).tx == t) = false := by
      intro hkf
      subst hf
      exact List.not_of_lt_findIdx (p := fun o : OpV => o.tx == t) hkf
    rw [hf]
    clear ih hf
    rcases Nat.lt_trichotomy f k with h | h | h
    · have e2 : f < k + 1 := by omega
      rw [if_pos h, if_pos e2, if_neg (fun h => by omega)]
    · subst h
      have e2 : f < f + 1 := by omega
      have hh := hget _ (List.getElem?_eq_getElem (by omega))
      rw [if_neg (Nat.lt_irrefl f), if_pos e2, if_pos ⟨by omega, hh⟩]
    · have e1 : ¬ f < k := by omega
      have e2 : ¬ f < k + 1 := by omega
      have hh := hnot h
      rw [if_neg e1, if_neg e2, if_neg]
      rintro ⟨_, h2⟩
      rw [hh] at h2
      cases h2
theorem firstI_eq {s : List OpV} {o : OpV} (ho : o ∈ s) : firstI s o.tx = (stampN s o.tx : Int) := by
  unfold firstI
  have : stampN s o.tx < s.length := List.findIdx_lt_length.2 ⟨o, ho, by simp⟩
  rw [firstTo_eq s _ _ (Nat.le_refl _), if_pos this]
end Go.Proofs.Ytncebpmckbcabaa
namespace Go.Proofs.Ytncebpmckbcabaa
open Go.RowKit
set_option linter.unusedVariables false

/-- Whether a schedule is run. -/
def runB (s : List OpV) : Bool := validS s && decide (s.length ≤ 12)
end Go.Proofs.Ytncebpmckbcabaa
namespace Go.Proofs.Ytncebpmckbcabaa
open Go.RowKit
set_option linter.unusedVariables false

theorem endOf_abort {s : List OpV} (h : validS s = true) {o : OpV} (ho : o ∈ s) (hk : o.kind = 3) : endOf s o.tx = 3 := by
  unfold endOf
  cases e : s.find? (fun x => x.tx == o.tx && isEnd x) with
  | none =>
    have := List.find?_eq_none.1 e o ho
    simp [isEnd, hk] at this
  | some q =>
    have hq := List.find?_some e
    simp only [Bool.and_eq_true, beq_iff_eq] at hq
    obtain ⟨i, hi⟩ := List.mem_iff_getElem?.1 ho
    obtain ⟨j, hj⟩ := List.mem_iff_getElem?.1 (List.mem_of_find?_eq_some e)
    have h1 := validS_after h hi hj (by simp [isEnd, hk]) hq.1.symm
    have h2 := validS_after h hj hi hq.2 hq.1
    have : i = j := by omega
    subst this
    rw [hi] at hj; injection hj with hj; subst hj
    simp [hk]
end Go.Proofs.Ytncebpmckbcabaa
