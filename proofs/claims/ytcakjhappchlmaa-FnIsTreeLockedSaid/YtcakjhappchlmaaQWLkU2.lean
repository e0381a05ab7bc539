/-
  IsTreeLocked of the program: an array of four rows beside the table.
-/
import Derived.Test.YtcakjhappchlmaaQWLkU1
import Derived.Test.YtcakjhappchlmaaQWLkT5
import Derived.Test.YtcakjhappchlmaaQWLkR4
import Derived.Deep.CutRange
import Derived.Deep.CutBlock
namespace Go.Proofs.Ytcakjhappchlmaa
open Go.RowKit Go.BigFrame
set_option linter.unusedVariables false

/-- What a transaction has taken. -/
def ownItems (L : List OpV) (t : Nat) : List Int := (L.filter fun q => q.tx == (t : Int) && q.kind == 1).map OpV.item
theorem ownItems_snoc (L : List OpV) (o : OpV) (t : Nat) : ownItems (L ++ [o]) t = ownItems L t ++ if (o.tx == (t : Int) && o.kind == 1) = true then [o.item] else [] := by
  unfold ownItems
  rw [List.filter_append, List.map_append]
  congr 1
  split
  · rename_i h; simp [h]
  · rename_i h; simp [h]
theorem ownItems_len (L : List OpV) (t : Nat) : (ownItems L t).length ≤ L.length := by
  unfold ownItems
  rw [List.length_map]
  exact List.length_filter_le _ _
theorem ownItems_any (L : List OpV) (t : Nat) (x : Int) : ((ownItems L t).any fun y => y == x) = hasOwnX L (t : Int) x := by
  unfold ownItems hasOwnX
  rw [List.any_map, List.any_filter]
  rfl
theorem ownItems_pos (L : List OpV) (t : Nat) : decide (0 < (ownItems L t).length) = hasOwn L (t : Int) := by
  unfold ownItems hasOwn
  rw [List.length_map, Bool.eq_iff_iff, decide_eq_true_eq, List.length_pos_iff, List.any_eq_true]
  constructor
  · intro h
    obtain ⟨q, hq⟩ := List.exists_mem_of_ne_nil _ h
    obtain ⟨h1, h2⟩ := List.mem_filter.1 hq
    exact ⟨q, h1, h2⟩
  · rintro ⟨q, hq, h⟩ e
    have : q ∈ L.filter fun q => q.tx == (t : Int) && q.kind == 1 := List.mem_filter.2 ⟨hq, h⟩
    rw [e] at this
    cases this
/-- Four rows in an array. -/
structure TkAt (b0 : Nat) (W : World) (g : Nat) (vs : Nat → Value) (R : Nat → List Int) : Prop where
  arr : RowIs W g 103 [vs 0, vs 1, vs 2, vs 3]
  rows : ∀ i, i < 4 → W.ownsRow b0 3 1 (vs i) (R i).length (intCells (R i))
  sep : ∀ i j, i < 4 → j < 4 → i ≠ j → ∀ b, (vs i).ownBlock = some b → (vs j).ownBlock ≠ some b
theorem arr_ne : (103 : TypeId) ≠ 3 ∧ (103 : TypeId) ≠ 121 ∧ (121 : TypeId) ≠ 3 := by decide
section
variable {b0 : Nat} {W W' : World} {g : Nat} {vs : Nat → Value} {R : Nat → List Int}
theorem TkAt.below (h : TkAt b0 W g vs R) (hb : Below W.heap.size W W') : TkAt b0 W' g vs R := ⟨RowIs.below h.arr hb (Nat.le_refl _), fun i hi => own_below (h.rows i hi) hb, h.sep⟩
theorem TkAt.cell (h : TkAt b0 W g vs R) {t : Nat} (ht : t < 4) : W.cell? ⟨g, t, none⟩ = some (vs t) := by
  refine RowIs.cell h.arr ?_
  rcases (by omega : t = 0 ∨ t = 1 ∨ t = 2 ∨ t = 3) with rfl | rfl | rfl | rfl <;> rfl
theorem TkAt.notArr (h : TkAt b0 W g vs R) {t : Nat} (ht : t < 4) : (vs t).ownBlock ≠ some g := own_ne (h.rows t ht) h.arr arr_ne.1
theorem TkAt.same (h : TkAt b0 W g vs R) {R' : Nat → List Int} (he : ∀ i, i < 4 → R' i = R i) : TkAt b0 W g vs R' := ⟨h.arr, fun i hi => by rw [he i hi]; exact h.rows i hi, h.sep⟩
/-- Another block turns. -/
theorem TkAt.other (h : TkAt b0 W g vs R) {q : Nat} (hg : W.grownBy W' (some q)) (hq : q ≠ g) (hr : ∀ i, i < 4 → (vs i).ownBlock ≠ some q) : TkAt b0 W' g vs R :=
  ⟨RowIs.grown h.arr hg (fun e => hq (by injection e)), fun i hi => own_grown (h.rows i hi) hg (fun b e => by injection e with e; subst e; exact hr i hi), h.sep⟩
/-- A row grows, and its place is stored. -/
theorem TkAt.push (h : TkAt b0 W g vs R) {t : Nat} (ht : t < 4) {w3 : World} {v : Value} {x : Int} (hg : W.grownBy w3 (vs t).ownBlock) (ho : w3.ownsRow b0 3 1 v ((R t).length + 1) (intCells (R t ++ [x]))) (hat : v.ownBlock = (vs t).ownBlock ∨ v.ownBlock = some W.heap.size) :
    RowIs w3 g 103 [vs 0, vs 1, vs 2, vs 3] ∧ TkAt b0 (w3.setCell ⟨g, t, none⟩ v) g (fun i => if i = t then v else vs i) (fun i => if i = t then R t ++ [x] else R i) := by
  have harr : RowIs w3 g 103 [vs 0, vs 1, vs 2, vs 3] := RowIs.grown h.arr hg (h.notArr ht)
  have hset : w3.grownBy (w3.setCell ⟨g, t, none⟩ v) (some g) := grown_set
  have hvg : v.ownBlock ≠ some g := by
    rcases hat with e | e
    · rw [e]; exact h.notArr ht
    · rw [e]; intro e'; injection e' with e'; have := h.arr.lt; omega
  have hsepv : ∀ j, j < 4 → j ≠ t → ∀ b, v.ownBlock = some b → (vs j).ownBlock ≠ some b := fun j hj hne b hb => by
    rcases hat with e | e
    · exact h.sep t j ht hj (Ne.symm hne) b (e ▸ hb)
    · rw [e] at hb; injection hb with hb; subst hb; exact own_lt (h.rows j hj) (Nat.le_refl _)
  refine ⟨harr, ?_, fun i hi => ?_, fun i j hi hj hij b hb => ?_⟩
  · have := harr.set t v
    have e : ([vs 0, vs 1, vs 2, vs 3] : List Value).set t v = [(if 0 = t then v else vs 0), (if 1 = t then v else vs 1), (if 2 = t then v else vs 2), (if 3 = t then v else vs 3)] := by
      rcases (by omega : t = 0 ∨ t = 1 ∨ t = 2 ∨ t = 3) with rfl | rfl | rfl | rfl <;> rfl
    rw [e] at this
    exact this
  · by_cases hit : i = t
    · subst hit
      simp only [if_true]
      rw [List.length_append, List.length_singleton]
      exact own_grown ho hset (fun b e => by injection e with e; subst e; exact hvg)
    · simp only [if_neg hit]
      refine own_grown (own_grown (h.rows i hi) hg ?_) hset (fun b e => by injection e with e; subst e; exact h.notArr hi)
      intro b hb e
      exact h.sep t i ht hi (Ne.symm hit) b hb e
  · by_cases hit : i = t
    · subst hit
      simp only [if_true] at hb
      simp only [if_neg (Ne.symm hij)]
      exact hsepv j hj (Ne.symm hij) b hb
    · simp only [if_neg hit] at hb
      by_cases hjt : j = t
      · subst hjt
        simp only [if_true]
        intro e
        exact hsepv i hi hit b e hb
      · simp only [if_neg hjt]
        exact h.sep i j hi hj hij b hb
end
/-- Between two rounds. -/
structure TrI (w : World) (g tg : Nat) (L : List OpV) (W : World) (vs : Nat → Value) : Prop where
  below : Below w.heap.size w W
  tbl : TblAt W tg L
  tk : TkAt w.heap.size W g vs (ownItems L)
section
variable {w W W' : World} {g tg : Nat} {L : List OpV} {vs : Nat → Value}
theorem TrI.lat (h : TrI w g tg L W vs) (hb : Below W.heap.size W W') : TrI w g tg L W' vs := ⟨h.below.trans (hb.mono h.below.size), h.tbl.below hb, h.tk.below hb⟩
theorem TrI.ne (h : TrI w g tg L W vs) : tg ≠ g := fun e => by
  have h1 : RowIs W tg 121 (intCells (tblL L)) := h.tbl
  have h2 := h.tk.arr
  rw [e] at h1
  unfold RowIs at h1 h2
  rw [h1] at h2
  injection h2 with h2
  injection h2 with _ h2
  exact arr_ne.2.1 h2.symm
theorem TrI.notTbl (h : TrI w g tg L W vs) {t : Nat} (ht : t < 4) : (vs t).ownBlock ≠ some tg := own_ne (h.tk.rows t ht) h.tbl arr_ne.2.2
/-- The table takes a step that takes no lock for itself alone. -/
theorem TrI.take (h : TrI w g tg L W vs) {o : OpV} (hg0 : w.heap.size ≤ tg) (ht : TblAt W' tg (L ++ [o])) (hg : W.grownBy W' (some tg)) (hi : ∀ i, i < 4 → ownItems (L ++ [o]) i = ownItems L i) : TrI w g tg (L ++ [o]) W' vs :=
  ⟨Below.grown h.below hg h.below.size (fun k e => by injection e with e; omega), ht, (h.tk.other hg h.ne (fun i hi => h.notTbl hi)).same hi⟩
end
/-- A row grows, its place is stored, and the table takes the step. -/
theorem tr_push {w wd w3 : World} {g tg T : Nat} {X : Int} {L : List OpV} {vs : Nat → Value} {v3 : Value} (hI : TrI w g tg L wd vs) (hg0 : w.heap.size ≤ g) (htg0 : w.heap.size ≤ tg) (hT : T < 4) (hg : (wd.alloc (.cells #[.int .i64 X] 3)).grownBy w3 (vs T).ownBlock)
    (ho : w3.ownsRow w.heap.size 3 1 v3 ((ownItems L T).length + 1) (intCells (ownItems L T ++ [X]))) (hat : v3.ownBlock = (vs T).ownBlock ∨ v3.ownBlock = some (wd.alloc (.cells #[.int .i64 X] 3)).heap.size) :
    w3.cell? ⟨g, T, none⟩ = some (vs T) ∧ w3.frozen? ⟨g, T, none⟩ = false ∧ TblAt (w3.setCell ⟨g, T, none⟩ v3) tg L ∧
      ∀ wt, TblAt wt tg (L ++ [⟨(T : Int), 1, X⟩]) → (w3.setCell ⟨g, T, none⟩ v3).grownBy wt (some tg) → ∃ vs', TrI w g tg (L ++ [⟨(T : Int), 1, X⟩]) wt vs' := by
  have hba : Below wd.heap.size wd (wd.alloc (.cells #[.int .i64 X] 3)) := (Below.refl _ _).alloc (Nat.le_refl _) _
  have hIa := hI.lat hba
  obtain ⟨h1, h2⟩ := hIa.tk.push hT hg ho hat
  have hne := hIa.ne
  have htb3 : TblAt w3 tg L := RowIs.grown hIa.tbl hg (hIa.notTbl hT)
  have hset : w3.grownBy (w3.setCell ⟨g, T, none⟩ v3) (some g) := grown_set
  have htb4 : TblAt (w3.setCell ⟨g, T, none⟩ v3) tg L := RowIs.grown htb3 hset (fun e => hne (by injection e with e; exact e.symm))
  have hb3 : Below w.heap.size w w3 := Below.grown hIa.below hg hIa.below.size (fun k e => (World.ownsRow.lt (hIa.tk.rows T hT) k e).1)
  have hb4 : Below w.heap.size w (w3.setCell ⟨g, T, none⟩ v3) := hb3.setCell (p := ⟨g, T, none⟩) hg0 _
  refine ⟨?_, RowIs.frozen h1 T, htb4, fun wt htt hgt => ⟨_, Below.grown hb4 hgt hb4.size (fun k e => by injection e with e; omega), htt, (h2.other hgt hne (fun i hi => own_ne (h2.rows i hi) htb4 arr_ne.2.2)).same fun i hi => ?_⟩⟩
  · refine RowIs.cell h1 ?_
    rcases (by omega : T = 0 ∨ T = 1 ∨ T = 2 ∨ T = 3) with rfl | rfl | rfl | rfl <;> rfl
  · rw [ownItems_snoc]
    by_cases e : i = T
    · subst e; simp
    · have : ((T : Int) == (i : Int)) = false := by simp; omega
      simp [e, this]
theorem tr_start {w w1 w3 : World} {tg : Nat} (hb1 : Below w.heap.size w w1) (hbt : Below (w1.alloc (.cells #[.slice none 0 0, .slice none 0 0, .slice none 0 0, .slice none 0 0] 103)).heap.size (w1.alloc (.cells #[.slice none 0 0, .slice none 0 0, .slice none 0 0, .slice none 0 0] 103)) w3) (hT : TblAt w3 tg []) :
    TrI w w1.heap.size tg [] w3 (fun _ => .slice none 0 0) := by
  have hba : Below w1.heap.size w1 (w1.alloc (.cells #[.slice none 0 0, .slice none 0 0, .slice none 0 0, .slice none 0 0] 103)) := (Below.refl _ _).alloc (Nat.le_refl _) _
  have hs1 := hb1.size
  have hrow : RowIs (w1.alloc (.cells #[.slice none 0 0, .slice none 0 0, .slice none 0 0, .slice none 0 0] 103)) w1.heap.size 103 [.slice none 0 0, .slice none 0 0, .slice none 0 0, .slice none 0 0] := heap_alloc_new w1 _
  refine ⟨hb1.trans ((hba.trans (hbt.mono hba.size)).mono hs1), hT, ⟨RowIs.below hrow hbt (Nat.le_refl _), fun i hi => ?_, fun i j hi hj hij b hb => by cases hb⟩⟩
  exact World.ownsRow_nil w3 w.heap.size _ 1
/-- The step's box behind the row's growth. -/
theorem box_grown {w3 : World} {base n B : Nat} {v : Value} {xs : List Value} {o : OpV} {row : World} (hb : row.heap[B]? = some (.cells #[.int .i64 o.tx, .int .i64 o.kind, .int .i64 o.item] 31 (0, 0))) (ho : row.ownsRow base 3 1 v n xs) (hg : row.grownBy w3 v.ownBlock) :
    Box3 w3 B o := by
  have hr : RowIs row B 31 [.int .i64 o.tx, .int .i64 o.kind, .int .i64 o.item] := hb
  exact (hg.block B (lt_of_block hb) (fun e => own_ne ho hr step_ne_int e.symm)).trans hb
theorem box_set {w3 : World} {B g i : Nat} {v : Value} {o : OpV} (h : Box3 w3 B o) (hne : B ≠ g) : Box3 (w3.setCell ⟨g, i, none⟩ v) B o := (Below.heap_setCell w3 ⟨g, i, none⟩ v B (by simpa using hne)).trans h
/-- All that the walk wants behind the append. -/
theorem push_all {w wd w3 : World} {g tg T B r rc : Nat} {X : Int} {L : List OpV} {vs : Nat → Value} {v3 : Value} {RA : Option Addr} (hI : TrI w g tg L wd vs) (hg0 : w.heap.size ≤ g) (htg0 : w.heap.size ≤ tg) (hT : T < 4) (hgB : g < B) (hve : vs T = .slice RA r rc) (hr : (ownItems L T).length = r)
    (hbx : (wd.alloc (.cells #[.int .i64 X] 3)).heap[B]? = some (.cells #[.int .i64 (T : Int), .int .i64 1, .int .i64 X] 31 (0, 0)))
    (ho : w3.ownsRow w.heap.size 3 1 v3 (r + 1) (intCells (ownItems L T ++ [X]))) (hg : (wd.alloc (.cells #[.int .i64 X] 3)).grownBy w3 (Value.slice RA r rc).ownBlock)
    (hat : v3.ownBlock = (Value.slice RA r rc).ownBlock ∨ v3.ownBlock = some (wd.alloc (.cells #[.int .i64 X] 3)).heap.size) :
    ∃ A3 c3, v3 = .slice A3 (r + 1) c3 ∧ w3.cell? ⟨g, T, none⟩ = some (.slice RA r rc) ∧ w3.frozen? ⟨g, T, none⟩ = false ∧ Box3 w3 B ⟨(T : Int), 1, X⟩ ∧
      TblAt (w3.setCell ⟨g, T, none⟩ v3) tg L ∧ Box3 (w3.setCell ⟨g, T, none⟩ v3) B ⟨(T : Int), 1, X⟩ ∧
      ∀ wt, TblAt wt tg (L ++ [⟨(T : Int), 1, X⟩]) → (w3.setCell ⟨g, T, none⟩ v3).grownBy wt (some tg) → ∃ vs', TrI w g tg (L ++ [⟨(T : Int), 1, X⟩]) wt vs' := by
  obtain ⟨A3, c3, hv3, _⟩ := own_form2 ho
  have hba : Below wd.heap.size wd (wd.alloc (.cells #[.int .i64 X] 3)) := (Below.refl _ _).alloc (Nat.le_refl _) _
  obtain ⟨h1, h2, h3, h4⟩ := tr_push (v3 := v3) hI hg0 htg0 hT (by rw [hve]; exact hg) (by rw [hr]; exact ho) (by rw [hve]; exact hat)
  have hb3 : Box3 w3 B ⟨(T : Int), 1, X⟩ := box_grown (o := ⟨(T : Int), 1, X⟩) hbx ((hI.lat hba).tk.rows T hT) (by rw [hve]; exact hg)
  exact ⟨A3, c3, hv3, by rw [h1, hve], h2, hb3, h3, box_set hb3 (by omega), h4⟩
/-- Behind the store, ahead of the table's step. -/
def PushPost (w : World) (g tg B T : Nat) (X : Int) (L : List OpV) (wx : World) : Prop :=
  TblAt wx tg L ∧ Box3 wx B ⟨(T : Int), 1, X⟩ ∧ ∀ wt, TblAt wt tg (L ++ [⟨(T : Int), 1, X⟩]) → wx.grownBy wt (some tg) → ∃ vs', TrI w g tg (L ++ [⟨(T : Int), 1, X⟩]) wt vs'

set_option maxRecDepth 100000 in
set_option maxHeartbeats 4000000 in
theorem IsTreeLocked_any (A B : Option Addr) (n c m d : Nat) (st : List OpV) (ps : List Int) (w : World) (hx : ROps w A n st) (hy : RInts w B m ps) :
    Calls Try.prog 42 #[.slice A n c, .slice B m d] w fun e w' => e = .returned (.bool (validL st && parB ps && treeB ps st)) ∧ Below w.heap.size w w' := by
  have hn := hx.2.1
  have hl := hx.1
  have hlm := hy.1
  have HX := Lib.hid hx
  have HY := Lib.hid hy
  have hva := ValidSteps_any A n c st w hx
  obtain ⟨bv, hbv⟩ : ∃ b, validL st = b := ⟨_, rfl⟩
  rw [hbv] at hva ⊢
  have HVA := Lib.hid hva
  have HBV := Lib.hid hbv
  have hpa : ∀ W : World, Below w.heap.size w W → Calls Try.prog 107 #[.slice B m d] W fun e w' => e = .returned (.bool (parB ps)) ∧ W = w' := fun W hW => treeOk_any B m d ps W (HY.out.below hW (Nat.le_refl _))
  obtain ⟨bp, hbp⟩ : ∃ b, parB ps = b := ⟨_, rfl⟩
  rw [hbp] at hpa ⊢
  have HPA := Lib.hid hpa
  have HBP := Lib.hid hbp
  have HL := Lib.hid hl
  have HLM := Lib.hid hlm
  clear hx hy hva hbv hpa hbp hl hlm
  cases bv
  · go_enter Try.func42, Try.ntmps42
    go_wp2_with (go_at_call 16; refine HVA.out.mono ?_; rintro e w1 ⟨rfl, hb1⟩)
    go_ret
    exact ⟨rfl, hb1⟩
  · cases bp
    · go_enter Try.func42, Try.ntmps42
      go_wp2_with (first
        | (go_at_call 16; refine HVA.out.mono ?_; rintro e w1 ⟨rfl, hb1⟩)
        | (go_at_call 107; refine (HPA.out w1 hb1).mono ?_; rintro e w2 ⟨rfl, rfl⟩))
      go_ret
      exact ⟨rfl, hb1⟩
    · have hm3 : m = 3 := by
        have := HLM.out
        rcases parB_iff.1 HBP.out with e | e <;> rw [e] at this <;> simp at this <;> omega
      subst hm3
      have HOK : Hid (∀ s ∈ st, okStep s = true) := (validL_iff.1 HBV.out).2
      have HTO : Hid (∀ W : World, Calls Try.prog 79 #[.slice none 0 0] W (TabPost W [])) := fun W => tableOf_any none 0 0 [] W ROps.nil (fun s hs => by cases hs)
      simp only [Bool.true_and]
      go_enter Try.func42, Try.ntmps42
      go_wp2_with (first
        | (go_at_call 16; refine HVA.out.mono ?_; rintro e w1 ⟨rfl, hb1⟩)
        | (go_at_call 107; go_loud (refine (HPA.out w1 hb1).mono ?_; rintro e w2 ⟨rfl, rfl⟩))
        | (go_at_call 79; go_loud (refine (HTO.out _).mono ?_; rintro e w3 ⟨tg, rfl, htg, hT, hbt⟩; have hgs := hb1.size; have hst := tr_start hb1 hbt hT; have htg0 : w.heap.size ≤ tg := (by simp at htg; omega); have HST := Lib.hid hst; clear hT hbt hst hb1 htg)))
      go_loopw [21] (fun i wr => ∃ (k : Nat) (vs : Nat → Value), k ≤ n ∧ i = .int .i64 k ∧ TrI w w1.heap.size tg (st.take k) wr vs ∧ treeTo ps st k) (fun i _ => n - (intOf i).toNat)
      case atStart => exact ⟨0, _, by omega, rfl, HST.out, fun j hj => by omega⟩
      case round =>
        clear HST
        obtain ⟨k, vs, hk, rfl, hI, htr⟩ := hrel
        have hb := hI.below
        have hgwr : w1.heap.size < wr.heap.size := RowIs.lt hI.tk.arr
        by_cases hlt : k < n
        · obtain ⟨b, off, o, rfl, hbl, ho, c0, c1, c2⟩ := (HX.out.below hb (Nat.le_refl _)).at_ hlt
          have hs := hb.size
          have hok := HOK.out o (List.mem_of_getElem? ho)
          have hkd : decide ((k : Int) < (n : Int)) = true := by simp; omega
          have hki : (k : Int) < (n : Int) := by omega
          have HTS : Hid (treeAt ps (st.take k) o = true → treeTo ps st (k + 1)) := fun h => treeTo_succ htr ho h
          have HTN : Hid (treeAt ps (st.take k) o = false → treeB ps st = false) := fun h => treeB_no ho h
          have HSN := Lib.hid (take_snoc ho)
          obtain ⟨hot, hok2, hoi⟩ := okStep_iff.1 hok
          obtain ⟨tx, kd, it⟩ := o
          simp only at c0 c1 c2 hot hok2 hoi
          obtain ⟨T, rfl⟩ := Int.eq_ofNat_of_zero_le hot.1
          obtain ⟨X, rfl⟩ := Int.eq_ofNat_of_zero_le hoi.1
          have hT3 : T < 4 := by omega
          have hX2 : X < 3 := by omega
          obtain ⟨W, hW⟩ : ∃ W : World, W = wr.alloc (.cells #[.int .i64 (T : Int), .int .i64 kd, .int .i64 (X : Int)] 31) := ⟨_, rfl⟩
          have hbW : Below wr.heap.size wr W := by rw [hW]; exact (Below.refl _ _).alloc (Nat.le_refl _) _
          have hIW := hI.lat hbW
          have HBOX : Hid (∀ u, Below W.heap.size W u → u.cell? ⟨wr.heap.size, 0, none⟩ = some (.int .i64 (T : Int)) ∧ u.cell? ⟨wr.heap.size, 1, none⟩ = some (.int .i64 kd) ∧ u.cell? ⟨wr.heap.size, 2, none⟩ = some (.int .i64 (X : Int))) := fun u hu => by
            have a0 : W.cell? ⟨wr.heap.size, 0, none⟩ = some (.int .i64 (T : Int)) := by rw [hW]; exact box_at _ _ _ _ _ rfl
            have a1 : W.cell? ⟨wr.heap.size, 1, none⟩ = some (.int .i64 kd) := by rw [hW]; exact box_at _ _ _ _ _ rfl
            have a2 : W.cell? ⟨wr.heap.size, 2, none⟩ = some (.int .i64 (X : Int)) := by rw [hW]; exact box_at _ _ _ _ _ rfl
            exact ⟨Later.cell a0 ⟨u, hu⟩, Later.cell a1 ⟨u, hu⟩, Later.cell a2 ⟨u, hu⟩⟩
          have hWb : wr.heap.size < W.heap.size := by rw [hW]; simp
          obtain ⟨L, hL⟩ : ∃ L, st.take k = L := ⟨_, rfl⟩
          have hLk : L.length ≤ n := by rw [← hL]; exact Nat.le_trans (List.length_take_le _ _) hk
          rw [hL] at hIW HTS HTN HSN
          have HI := Lib.hid hIW
          have HW := Lib.hid hW
          have hsW : w.heap.size ≤ wr.heap.size := hs
          have hok' := hok
          have HOKS := Lib.hid hok
          clear hI hIW hW htr ho hL hok hok' hbW hb hbl
          by_cases k0 : kd = 0
          · subst k0
            have HV := Lib.hid (HTN.out (by unfold treeAt; simp))
            clear HTN HTS
            have HBW := Lib.hid HI.out.below
            go_wp2_with (skip; fail)
            try rw [← HW.out]
            obtain ⟨p0, p1, p2⟩ := HBOX.out W (Below.refl _ _)
            go_wp2_with fail
            go_ret
            exact ⟨ret_bool HV.out.symm, HBW.out⟩
          · have k0d : (kd == 0) = false := by simpa using k0
            by_cases k1 : kd = 1
            · subst k1
              rw [treeAt_own ps L rfl] at HTS HTN
              simp only [Int.toNat_natCast] at HTS HTN
              have hgX := HY.out.at_ (k := X) (by omega)
              obtain ⟨bp, offp, v, hpA, hbp, hv, cv⟩ := hgX
              subst hpA
              have hvd : ps.getD X (-1) = v := by rw [List.getD_eq_getElem?_getD, hv]; rfl
              simp only [hvd] at HTS HTN
              have hvr : v < 3 ∧ -1 ≤ v := by
                have := parB_okPar HBP.out X v hv
                unfold okPar at this
                omega
              have hrow := HI.out.tk.rows T hT3
              obtain ⟨RA, rc, hve, hrc⟩ := own_form2 hrow
              have hop := ownItems_pos L T
              have hoa := ownItems_any L T (X : Int)
              obtain ⟨bx, hbx⟩ : ∃ q, hasOwnX L (T : Int) (X : Int) = q := ⟨_, rfl⟩
              rw [hbx] at HTS HTN hoa
              rw [← hop] at HTS HTN
              obtain ⟨r, hr⟩ : ∃ r, (ownItems L T).length = r := ⟨_, rfl⟩
              rw [hr] at HTS HTN hrc hve
              have hrow' := hrow
              rw [hr] at hrow'
              have HR := Lib.hid hr
              have HVE := Lib.hid hve
              have hvw : bp < w.heap.size := hbp
              have HPAR : Hid (∀ u, Below W.heap.size W u → u.cell? ⟨bp, offp + X, none⟩ = some (.int .i64 v)) := fun u hu => (hu.cell (p := ⟨bp, offp + X, none⟩) (by simp only; omega)).trans ((HI.out.below.cell (p := ⟨bp, offp + X, none⟩) hvw).trans cv)
              have HTAK : Hid (∀ u, Below W.heap.size W u → u.cell? ⟨w1.heap.size, T, none⟩ = some (.slice RA r rc)) := fun u hu => by rw [← HVE.out]; exact (HI.out.lat hu).tk.cell hT3
              have HRIN : Hid (∀ u, Below W.heap.size W u → RInts u RA r (ownItems L T)) := fun u hu => by
                have h1 := (HI.out.lat hu).tk.rows T hT3
                rw [HVE.out, HR.out] at h1
                exact RInts.of_own h1 (by have := ownItems_len L T; have := HR.out; omega)
              have HCI : Hid (∀ u : Later W, Calls Try.prog 87 #[.slice RA r rc, .int .i64 (X : Int)] u.1 fun e w' => e = .returned (.bool bx) ∧ Below u.1.heap.size u.1 w') := fun u => by
                have := ContainsS_any RA r rc (ownItems L T) (X : Int) u.1 (HRIN.out u.1 u.2)
                rw [hoa] at this
                exact this
              have HLB : Hid (Below w.heap.size w W) := HI.out.below
              clear hv hvd cv hrow hrow' hve hr hop hoa hbx
              go_upto_block 2 with fail
              go_cut [] from 25 to 74 (fun wx => PushPost w w1.heap.size tg wr.heap.size T (X : Int) L wx ∧ treeTo ps st (k + 1))
              case rest =>
                obtain ⟨hpp, hgg⟩ := hcut
                have HPP := Lib.hid hpp
                have HG := Lib.hid hgg
                try clear hcut
                clear hpp hgg
                obtain ⟨y0, y1, y2⟩ := HPP.out.2.1.cells _ (Below.refl _ _)
                have hca := take_any tg L ⟨(T : Int), 1, (X : Int)⟩ _ HPP.out.1 HOKS.out
                unfold OpV.val at hca
                simp only at hca
                have HTK := Lib.hid hca
                clear hca c0 c1 c2
                go_wp2_with (go_at_call 83; go_loud (refine HTK.out.mono ?_; rintro e wt ⟨rfl, hTt, hgt⟩; have HFN := Lib.hid (HPP.out.2.2 wt hTt hgt); clear hTt hgt))
                obtain ⟨vs', hI'⟩ := HFN.out
                go_roundw
                case rel => exact ⟨k + 1, vs', by omega, by go_num, by rw [HSN.out]; exact hI', HG.out⟩
                case measure => simp [intOf]; omega
              go_wp2_with fail
              rw [← HW.out]
              have L0 := fun u : Later W => (HBOX.out u.1 u.2).1
              have L2 := fun u : Later W => (HBOX.out u.1 u.2).2.2
              have LT := fun u : Later W => HTAK.out u.1 u.2
              clear c0 c1 c2
              refine region_later (by kernel_rfl) (by kernel_rfl) ?_
              repeat (go_big_quiet_step ((go_at_call 87; exact later_call _ (HCI.out _))))
              refine wpQuiet_nil ?_
              rintro _ ⟨u, rfl⟩
              have hu5 := u.2
              obtain ⟨w5, hw5⟩ : ∃ w5 : World, u.1 = w5 := ⟨_, rfl⟩
              rw [hw5] at hu5 ⊢
              clear L0 L2 LT hw5
              cases bx
              · simp only [Bool.not_false, Bool.true_and] at HTS HTN
                obtain ⟨p0, p1, p2⟩ := HBOX.out w5 hu5
                have pv := HPAR.out w5 hu5
                go_upto_region 15 with fail
                go_cut [63] from 43 to 63 (fun bz wx => ∃ (bb : Bool) (w6 : World), bz = .bool bb ∧ w6 = wx ∧ Below W.heap.size W w6 ∧ (bb = true → treeB ps st = false) ∧ (bb = false → treeTo ps st (k + 1)))
                case rest =>
                  obtain ⟨bb, w6, rfl, rfl, hu6, hyes, hno⟩ := hcut
                  try clear hcut
                  clear HTS HTN p0 p1 p2 pv
                  cases bb
                  · have HG := Lib.hid (hno rfl)
                    clear hyes hno
                    have hT4 : (T : Int) < 4 := by omega
                    have hT0 : (0 : Int) ≤ (T : Int) := by omega
                    have hr40 := (HRIN.out W (Below.refl _ _)).2.1
                    have hg0 : w.heap.size ≤ w1.heap.size := hgs
                    obtain ⟨n0, n1, n2⟩ := HBOX.out w6 hu6
                    have m0 := HTAK.out w6 hu6
                    go_wp2_with fail
                    obtain ⟨wd, hwd⟩ : ∃ wd : World, wd = w6.drew := ⟨_, rfl⟩
                    have hbd : Below W.heap.size W wd := by rw [hwd]; exact hu6.drew
                    have hId := HI.out.lat hbd
                    have hba : Below wd.heap.size wd (wd.alloc (.cells #[.int .i64 (X : Int)] 3)) := (Below.refl _ _).alloc (Nat.le_refl _) _
                    have hbda := hbd.trans (hba.mono hbd.size)
                    obtain ⟨p0, p1, p2⟩ := HBOX.out wd hbd
                    obtain ⟨s0, s1, s2⟩ := HBOX.out _ hbda
                    have q0 := HTAK.out wd hbd
                    have r0 := HTAK.out _ hbda
                    have hrwa := (hId.lat hba).tk.rows T hT3
                    rw [HVE.out, HR.out] at hrwa
                    have HRWB := Lib.hid hrwa
                    have HID := Lib.hid hId
                    have HWD := Lib.hid hwd
                    have hszd := hbd.size
                    have HBX3 : Hid ((wd.alloc (.cells #[.int .i64 (X : Int)] 3)).heap[wr.heap.size]? = some (.cells #[.int .i64 (T : Int), .int .i64 1, .int .i64 (X : Int)] 31 (0, 0))) := by
                      show _ = _
                      rw [hbda.block wr.heap.size hWb, HW.out]
                      exact heap_alloc_new wr _
                    clear hrwa hId hbd hba hbda hwd n0 n1 n2 m0
                    refine wp_region_any (by kernel_rfl) ?_
                    change wpAny _ _ _ _ _ _ _ (World.drew _)
                    rw [← HWD.out]
                    refine wpAny_take (i := 0) (v := ?_) rfl (by kernel_rfl) (by kernel_rfl) (by kernel_rfl) (fun _ _ _ h => h) (Or.inl ⟨by kernel_rfl, ?_⟩) ?_
                    rotate_left
                    · intro w; go_simp; try with_reducible rfl
                    refine wpAny_take (i := 2) (v := ?_) rfl (by kernel_rfl) (by kernel_rfl) (by kernel_rfl) (fun _ _ _ h => h) (Or.inl ⟨by kernel_rfl, ?_⟩) ?_
                    rotate_left
                    · intro w; go_simp; try with_reducible rfl
                    refine wpAny_take (i := 6) (v := ?_) rfl (by kernel_rfl) (by kernel_rfl) (by kernel_rfl) (fun _ _ _ h => h) (Or.inl ⟨by kernel_rfl, ?_⟩) ?_
                    rotate_left
                    · intro w; go_simp; try with_reducible rfl
                    refine wpAny_ready (rs := [1, 3, 7]) (by kernel_rfl) (by simp) ?_
                    refine AllReady.cons rfl (fun K hK => ?_) (AllReady.cons rfl (fun K hK => ?_) (AllReady.cons rfl (fun K hK => ?_) (AllReady.nil)))
                    · skip
                      go_simp
                      try (refine hK _ _ ?_; clear hK K)
                      refine wpAny_ready (rs := [3, 7]) (by kernel_rfl) (by simp) ?_
                      refine AllReady.cons rfl (fun K hK => ?_) (AllReady.cons rfl (fun K hK => ?_) (AllReady.nil))
                      · skip
                        go_simp
                        try (refine hK _ _ ?_; clear hK K)
                        refine wpAny_take (i := 4) (v := ?_) rfl (by kernel_rfl) (by kernel_rfl) (by kernel_rfl) (fun _ _ _ h => h) (Or.inl ⟨by kernel_rfl, ?_⟩) ?_
                        rotate_left
                        · intro w; go_simp; try with_reducible rfl
                        refine wpAny_ready (rs := [5, 7]) (by kernel_rfl) (by simp) ?_
                        refine AllReady.cons rfl (fun K hK => ?_) (AllReady.cons rfl (fun K hK => ?_) (AllReady.nil))
                        · skip
                          go_simp
                          try (refine hK _ _ ?_; clear hK K)
                          refine wpAny_ready (rs := [7]) (by kernel_rfl) (by simp) ?_
                          refine AllReady.cons rfl (fun K hK => ?_) AllReady.nil
                          go_simp
                          try (refine hK _ _ ?_; clear hK K)
                          refine wpAny_ready (rs := [8]) (by kernel_rfl) (by simp) ?_
                          refine AllReady.cons rfl (fun K hK => ?_) AllReady.nil
                          go_simp
                          try (refine hK _ _ ?_; clear hK K)
                          refine wpAny_ready (rs := [9]) (by kernel_rfl) (by simp) ?_
                          refine AllReady.cons rfl (fun K hK => ?_) AllReady.nil
                          refine step_ints (.tmp 69) (.tmp 72) (c := 1) HRWB.out (Nat.le_trans HID.out.below.size (by simp)) (lit1 rfl (X : Int)) ?_ ?_ ?_ ?_ ?_ ?_
                          · omega
                          · rfl
                          · rfl
                          · rfl
                          · rfl
                          intro v3 w3 hown3 hg3 hat3
                          obtain ⟨A3, c3, rfl, k0', k1', hbx3, hp1, hp2, hp3⟩ := push_all HID.out hg0 htg0 hT3 hgwr HVE.out HR.out HBX3.out hown3 hg3 hat3
                          obtain ⟨t0, t1, t2⟩ := hbx3.cells w3 (Below.refl _ _)
                          have HPU := Lib.hid (show PushPost w w1.heap.size tg wr.heap.size T (X : Int) L (w3.setCell ⟨w1.heap.size, T, none⟩ (.slice A3 (r + 1) c3)) from ⟨hp1, hp2, hp3⟩)
                          clear hp1 hp2 hp3 hbx3 hown3 hg3 hat3
                          try (refine hK _ _ ?_; clear hK K)
                          refine wpAny_take (i := 10) (v := ?_) rfl (by kernel_rfl) (by kernel_rfl) (by kernel_rfl) (fun _ _ _ h => h) (Or.inl ⟨by kernel_rfl, ?_⟩) ?_
                          rotate_left
                          · intro w; go_simp; try with_reducible rfl
                          refine wpAny_ready (rs := [11]) (by kernel_rfl) (by simp) ?_
                          refine AllReady.cons rfl (fun K hK => ?_) AllReady.nil
                          go_simp
                          try (refine hK _ _ ?_; clear hK K)
                          refine wpAny_done (by kernel_rfl) ?_ _
                          try go_simp
                          go_wp2_with fail
                          go_meet
                          exact ⟨HPU.out, HG.out⟩
                        · skip
                          go_simp
                          try (refine hK _ _ ?_; clear hK K)
                          refine wpAny_ready (rs := [5, 8]) (by kernel_rfl) (by simp) ?_
                          refine AllReady.cons rfl (fun K hK => ?_) (AllReady.cons rfl (fun K hK => ?_) (AllReady.nil))
                          · skip
                            go_simp
                            try (refine hK _ _ ?_; clear hK K)
                            refine wpAny_ready (rs := [8]) (by kernel_rfl) (by simp) ?_
                            refine AllReady.cons rfl (fun K hK => ?_) AllReady.nil
                            go_simp
                            try (refine hK _ _ ?_; clear hK K)
                            refine wpAny_ready (rs := [9]) (by kernel_rfl) (by simp) ?_
                            refine AllReady.cons rfl (fun K hK => ?_) AllReady.nil
                            refine step_ints (.tmp 69) (.tmp 72) (c := 1) HRWB.out (Nat.le_trans HID.out.below.size (by simp)) (lit1 rfl (X : Int)) ?_ ?_ ?_ ?_ ?_ ?_
                            · omega
                            · rfl
                            · rfl
                            · rfl
                            · rfl
                            intro v3 w3 hown3 hg3 hat3
                            obtain ⟨A3, c3, rfl, k0', k1', hbx3, hp1, hp2, hp3⟩ := push_all HID.out hg0 htg0 hT3 hgwr HVE.out HR.out HBX3.out hown3 hg3 hat3
                            obtain ⟨t0, t1, t2⟩ := hbx3.cells w3 (Below.refl _ _)
                            have HPU := Lib.hid (show PushPost w w1.heap.size tg wr.heap.size T (X : Int) L (w3.setCell ⟨w1.heap.size, T, none⟩ (.slice A3 (r + 1) c3)) from ⟨hp1, hp2, hp3⟩)
                            clear hp1 hp2 hp3 hbx3 hown3 hg3 hat3
                            try (refine hK _ _ ?_; clear hK K)
                            refine wpAny_take (i := 10) (v := ?_) rfl (by kernel_rfl) (by kernel_rfl) (by kernel_rfl) (fun _ _ _ h => h) (Or.inl ⟨by kernel_rfl, ?_⟩) ?_
                            rotate_left
                            · intro w; go_simp; try with_reducible rfl
                            refine wpAny_ready (rs := [11]) (by kernel_rfl) (by simp) ?_
                            refine AllReady.cons rfl (fun K hK => ?_) AllReady.nil
                            go_simp
                            try (refine hK _ _ ?_; clear hK K)
                            refine wpAny_done (by kernel_rfl) ?_ _
                            try go_simp
                            go_wp2_with fail
                            go_meet
                            exact ⟨HPU.out, HG.out⟩
                          · skip
                            go_simp
                            try (refine hK _ _ ?_; clear hK K)
                            refine wpAny_ready (rs := [5]) (by kernel_rfl) (by simp) ?_
                            refine AllReady.cons rfl (fun K hK => ?_) AllReady.nil
                            go_simp
                            try (refine hK _ _ ?_; clear hK K)
                            refine wpAny_ready (rs := [9]) (by kernel_rfl) (by simp) ?_
                            refine AllReady.cons rfl (fun K hK => ?_) AllReady.nil
                            refine step_ints (.tmp 69) (.tmp 72) (c := 1) HRWB.out (Nat.le_trans HID.out.below.size (by simp)) (lit1 rfl (X : Int)) ?_ ?_ ?_ ?_ ?_ ?_
                            · omega
                            · rfl
                            · rfl
                            · rfl
                            · rfl
                            intro v3 w3 hown3 hg3 hat3
                            obtain ⟨A3, c3, rfl, k0', k1', hbx3, hp1, hp2, hp3⟩ := push_all HID.out hg0 htg0 hT3 hgwr HVE.out HR.out HBX3.out hown3 hg3 hat3
                            obtain ⟨t0, t1, t2⟩ := hbx3.cells w3 (Below.refl _ _)
                            have HPU := Lib.hid (show PushPost w w1.heap.size tg wr.heap.size T (X : Int) L (w3.setCell ⟨w1.heap.size, T, none⟩ (.slice A3 (r + 1) c3)) from ⟨hp1, hp2, hp3⟩)
                            clear hp1 hp2 hp3 hbx3 hown3 hg3 hat3
                            try (refine hK _ _ ?_; clear hK K)
                            refine wpAny_take (i := 10) (v := ?_) rfl (by kernel_rfl) (by kernel_rfl) (by kernel_rfl) (fun _ _ _ h => h) (Or.inl ⟨by kernel_rfl, ?_⟩) ?_
                            rotate_left
                            · intro w; go_simp; try with_reducible rfl
                            refine wpAny_ready (rs := [11]) (by kernel_rfl) (by simp) ?_
                            refine AllReady.cons rfl (fun K hK => ?_) AllReady.nil
                            go_simp
                            try (refine hK _ _ ?_; clear hK K)
                            refine wpAny_done (by kernel_rfl) ?_ _
                            try go_simp
                            go_wp2_with fail
                            go_meet
                            exact ⟨HPU.out, HG.out⟩
                      · skip
                        go_simp
                        try (refine hK _ _ ?_; clear hK K)
                        refine wpAny_ready (rs := [3, 8]) (by kernel_rfl) (by simp) ?_
                        refine AllReady.cons rfl (fun K hK => ?_) (AllReady.cons rfl (fun K hK => ?_) (AllReady.nil))
                        · skip
                          go_simp
                          try (refine hK _ _ ?_; clear hK K)
                          refine wpAny_take (i := 4) (v := ?_) rfl (by kernel_rfl) (by kernel_rfl) (by kernel_rfl) (fun _ _ _ h => h) (Or.inl ⟨by kernel_rfl, ?_⟩) ?_
                          rotate_left
                          · intro w; go_simp; try with_reducible rfl
                          refine wpAny_ready (rs := [5, 8]) (by kernel_rfl) (by simp) ?_
                          refine AllReady.cons rfl (fun K hK => ?_) (AllReady.cons rfl (fun K hK => ?_) (AllReady.nil))
                          · skip
                            go_simp
                            try (refine hK _ _ ?_; clear hK K)
                            refine wpAny_ready (rs := [8]) (by kernel_rfl) (by simp) ?_
                            refine AllReady.cons rfl (fun K hK => ?_) AllReady.nil
                            go_simp
                            try (refine hK _ _ ?_; clear hK K)
                            refine wpAny_ready (rs := [9]) (by kernel_rfl) (by simp) ?_
                            refine AllReady.cons rfl (fun K hK => ?_) AllReady.nil
                            refine step_ints (.tmp 69) (.tmp 72) (c := 1) HRWB.out (Nat.le_trans HID.out.below.size (by simp)) (lit1 rfl (X : Int)) ?_ ?_ ?_ ?_ ?_ ?_
                            · omega
                            · rfl
                            · rfl
                            · rfl
                            · rfl
                            intro v3 w3 hown3 hg3 hat3
                            obtain ⟨A3, c3, rfl, k0', k1', hbx3, hp1, hp2, hp3⟩ := push_all HID.out hg0 htg0 hT3 hgwr HVE.out HR.out HBX3.out hown3 hg3 hat3
                            obtain ⟨t0, t1, t2⟩ := hbx3.cells w3 (Below.refl _ _)
                            have HPU := Lib.hid (show PushPost w w1.heap.size tg wr.heap.size T (X : Int) L (w3.setCell ⟨w1.heap.size, T, none⟩ (.slice A3 (r + 1) c3)) from ⟨hp1, hp2, hp3⟩)
                            clear hp1 hp2 hp3 hbx3 hown3 hg3 hat3
                            try (refine hK _ _ ?_; clear hK K)
                            refine wpAny_take (i := 10) (v := ?_) rfl (by kernel_rfl) (by kernel_rfl) (by kernel_rfl) (fun _ _ _ h => h) (Or.inl ⟨by kernel_rfl, ?_⟩) ?_
                            rotate_left
                            · intro w; go_simp; try with_reducible rfl
                            refine wpAny_ready (rs := [11]) (by kernel_rfl) (by simp) ?_
                            refine AllReady.cons rfl (fun K hK => ?_) AllReady.nil
                            go_simp
                            try (refine hK _ _ ?_; clear hK K)
                            refine wpAny_done (by kernel_rfl) ?_ _
                            try go_simp
                            go_wp2_with fail
                            go_meet
                            exact ⟨HPU.out, HG.out⟩
                          · skip
                            go_simp
                            try (refine hK _ _ ?_; clear hK K)
                            refine wpAny_ready (rs := [5]) (by kernel_rfl) (by simp) ?_
                            refine AllReady.cons rfl (fun K hK => ?_) AllReady.nil
                            go_simp
                            try (refine hK _ _ ?_; clear hK K)
                            refine wpAny_ready (rs := [9]) (by kernel_rfl) (by simp) ?_
                            refine AllReady.cons rfl (fun K hK => ?_) AllReady.nil
                            refine step_ints (.tmp 69) (.tmp 72) (c := 1) HRWB.out (Nat.le_trans HID.out.below.size (by simp)) (lit1 rfl (X : Int)) ?_ ?_ ?_ ?_ ?_ ?_
                            · omega
                            · rfl
                            · rfl
                            · rfl
                            · rfl
                            intro v3 w3 hown3 hg3 hat3
                            obtain ⟨A3, c3, rfl, k0', k1', hbx3, hp1, hp2, hp3⟩ := push_all HID.out hg0 htg0 hT3 hgwr HVE.out HR.out HBX3.out hown3 hg3 hat3
                            obtain ⟨t0, t1, t2⟩ := hbx3.cells w3 (Below.refl _ _)
                            have HPU := Lib.hid (show PushPost w w1.heap.size tg wr.heap.size T (X : Int) L (w3.setCell ⟨w1.heap.size, T, none⟩ (.slice A3 (r + 1) c3)) from ⟨hp1, hp2, hp3⟩)
                            clear hp1 hp2 hp3 hbx3 hown3 hg3 hat3
                            try (refine hK _ _ ?_; clear hK K)
                            refine wpAny_take (i := 10) (v := ?_) rfl (by kernel_rfl) (by kernel_rfl) (by kernel_rfl) (fun _ _ _ h => h) (Or.inl ⟨by kernel_rfl, ?_⟩) ?_
                            rotate_left
                            · intro w; go_simp; try with_reducible rfl
                            refine wpAny_ready (rs := [11]) (by kernel_rfl) (by simp) ?_
                            refine AllReady.cons rfl (fun K hK => ?_) AllReady.nil
                            go_simp
                            try (refine hK _ _ ?_; clear hK K)
                            refine wpAny_done (by kernel_rfl) ?_ _
                            try go_simp
                            go_wp2_with fail
                            go_meet
                            exact ⟨HPU.out, HG.out⟩
                        · skip
                          go_simp
                          try (refine hK _ _ ?_; clear hK K)
                          refine wpAny_ready (rs := [3]) (by kernel_rfl) (by simp) ?_
                          refine AllReady.cons rfl (fun K hK => ?_) AllReady.nil
                          go_simp
                          try (refine hK _ _ ?_; clear hK K)
                          refine wpAny_take (i := 4) (v := ?_) rfl (by kernel_rfl) (by kernel_rfl) (by kernel_rfl) (fun _ _ _ h => h) (Or.inl ⟨by kernel_rfl, ?_⟩) ?_
                          rotate_left
                          · intro w; go_simp; try with_reducible rfl
                          refine wpAny_ready (rs := [5]) (by kernel_rfl) (by simp) ?_
                          refine AllReady.cons rfl (fun K hK => ?_) AllReady.nil
                          go_simp
                          try (refine hK _ _ ?_; clear hK K)
                          refine wpAny_ready (rs := [9]) (by kernel_rfl) (by simp) ?_
                          refine AllReady.cons rfl (fun K hK => ?_) AllReady.nil
                          refine step_ints (.tmp 69) (.tmp 72) (c := 1) HRWB.out (Nat.le_trans HID.out.below.size (by simp)) (lit1 rfl (X : Int)) ?_ ?_ ?_ ?_ ?_ ?_
                          · omega
                          · rfl
                          · rfl
                          · rfl
                          · rfl
                          intro v3 w3 hown3 hg3 hat3
                          obtain ⟨A3, c3, rfl, k0', k1', hbx3, hp1, hp2, hp3⟩ := push_all HID.out hg0 htg0 hT3 hgwr HVE.out HR.out HBX3.out hown3 hg3 hat3
                          obtain ⟨t0, t1, t2⟩ := hbx3.cells w3 (Below.refl _ _)
                          have HPU := Lib.hid (show PushPost w w1.heap.size tg wr.heap.size T (X : Int) L (w3.setCell ⟨w1.heap.size, T, none⟩ (.slice A3 (r + 1) c3)) from ⟨hp1, hp2, hp3⟩)
                          clear hp1 hp2 hp3 hbx3 hown3 hg3 hat3
                          try (refine hK _ _ ?_; clear hK K)
                          refine wpAny_take (i := 10) (v := ?_) rfl (by kernel_rfl) (by kernel_rfl) (by kernel_rfl) (fun _ _ _ h => h) (Or.inl ⟨by kernel_rfl, ?_⟩) ?_
                          rotate_left
                          · intro w; go_simp; try with_reducible rfl
                          refine wpAny_ready (rs := [11]) (by kernel_rfl) (by simp) ?_
                          refine AllReady.cons rfl (fun K hK => ?_) AllReady.nil
                          go_simp
                          try (refine hK _ _ ?_; clear hK K)
                          refine wpAny_done (by kernel_rfl) ?_ _
                          try go_simp
                          go_wp2_with fail
                          go_meet
                          exact ⟨HPU.out, HG.out⟩
                    · skip
                      go_simp
                      try (refine hK _ _ ?_; clear hK K)
                      refine wpAny_take (i := 4) (v := ?_) rfl (by kernel_rfl) (by kernel_rfl) (by kernel_rfl) (fun _ _ _ h => h) (Or.inl ⟨by kernel_rfl, ?_⟩) ?_
                      rotate_left
                      · intro w; go_simp; try with_reducible rfl
                      refine wpAny_ready (rs := [1, 5, 7]) (by kernel_rfl) (by simp) ?_
                      refine AllReady.cons rfl (fun K hK => ?_) (AllReady.cons rfl (fun K hK => ?_) (AllReady.cons rfl (fun K hK => ?_) (AllReady.nil)))
                      · skip
                        go_simp
                        try (refine hK _ _ ?_; clear hK K)
                        refine wpAny_ready (rs := [5, 7]) (by kernel_rfl) (by simp) ?_
                        refine AllReady.cons rfl (fun K hK => ?_) (AllReady.cons rfl (fun K hK => ?_) (AllReady.nil))
                        · skip
                          go_simp
                          try (refine hK _ _ ?_; clear hK K)
                          refine wpAny_ready (rs := [7]) (by kernel_rfl) (by simp) ?_
                          refine AllReady.cons rfl (fun K hK => ?_) AllReady.nil
                          go_simp
                          try (refine hK _ _ ?_; clear hK K)
                          refine wpAny_ready (rs := [8]) (by kernel_rfl) (by simp) ?_
                          refine AllReady.cons rfl (fun K hK => ?_) AllReady.nil
                          go_simp
                          try (refine hK _ _ ?_; clear hK K)
                          refine wpAny_ready (rs := [9]) (by kernel_rfl) (by simp) ?_
                          refine AllReady.cons rfl (fun K hK => ?_) AllReady.nil
                          refine step_ints (.tmp 69) (.tmp 72) (c := 1) HRWB.out (Nat.le_trans HID.out.below.size (by simp)) (lit1 rfl (X : Int)) ?_ ?_ ?_ ?_ ?_ ?_
                          · omega
                          · rfl
                          · rfl
                          · rfl
                          · rfl
                          intro v3 w3 hown3 hg3 hat3
                          obtain ⟨A3, c3, rfl, k0', k1', hbx3, hp1, hp2, hp3⟩ := push_all HID.out hg0 htg0 hT3 hgwr HVE.out HR.out HBX3.out hown3 hg3 hat3
                          obtain ⟨t0, t1, t2⟩ := hbx3.cells w3 (Below.refl _ _)
                          have HPU := Lib.hid (show PushPost w w1.heap.size tg wr.heap.size T (X : Int) L (w3.setCell ⟨w1.heap.size, T, none⟩ (.slice A3 (r + 1) c3)) from ⟨hp1, hp2, hp3⟩)
                          clear hp1 hp2 hp3 hbx3 hown3 hg3 hat3
                          try (refine hK _ _ ?_; clear hK K)
                          refine wpAny_take (i := 10) (v := ?_) rfl (by kernel_rfl) (by kernel_rfl) (by kernel_rfl) (fun _ _ _ h => h) (Or.inl ⟨by kernel_rfl, ?_⟩) ?_
                          rotate_left
                          · intro w; go_simp; try with_reducible rfl
                          refine wpAny_ready (rs := [11]) (by kernel_rfl) (by simp) ?_
                          refine AllReady.cons rfl (fun K hK => ?_) AllReady.nil
                          go_simp
                          try (refine hK _ _ ?_; clear hK K)
                          refine wpAny_done (by kernel_rfl) ?_ _
                          try go_simp
                          go_wp2_with fail
                          go_meet
                          exact ⟨HPU.out, HG.out⟩
                        · skip
                          go_simp
                          try (refine hK _ _ ?_; clear hK K)
                          refine wpAny_ready (rs := [5, 8]) (by kernel_rfl) (by simp) ?_
                          refine AllReady.cons rfl (fun K hK => ?_) (AllReady.cons rfl (fun K hK => ?_) (AllReady.nil))
                          · skip
                            go_simp
                            try (refine hK _ _ ?_; clear hK K)
                            refine wpAny_ready (rs := [8]) (by kernel_rfl) (by simp) ?_
                            refine AllReady.cons rfl (fun K hK => ?_) AllReady.nil
                            go_simp
                            try (refine hK _ _ ?_; clear hK K)
                            refine wpAny_ready (rs := [9]) (by kernel_rfl) (by simp) ?_
                            refine AllReady.cons rfl (fun K hK => ?_) AllReady.nil
                            refine step_ints (.tmp 69) (.tmp 72) (c := 1) HRWB.out (Nat.le_trans HID.out.below.size (by simp)) (lit1 rfl (X : Int)) ?_ ?_ ?_ ?_ ?_ ?_
                            · omega
                            · rfl
                            · rfl
                            · rfl
                            · rfl
                            intro v3 w3 hown3 hg3 hat3
                            obtain ⟨A3, c3, rfl, k0', k1', hbx3, hp1, hp2, hp3⟩ := push_all HID.out hg0 htg0 hT3 hgwr HVE.out HR.out HBX3.out hown3 hg3 hat3
                            obtain ⟨t0, t1, t2⟩ := hbx3.cells w3 (Below.refl _ _)
                            have HPU := Lib.hid (show PushPost w w1.heap.size tg wr.heap.size T (X : Int) L (w3.setCell ⟨w1.heap.size, T, none⟩ (.slice A3 (r + 1) c3)) from ⟨hp1, hp2, hp3⟩)
                            clear hp1 hp2 hp3 hbx3 hown3 hg3 hat3
                            try (refine hK _ _ ?_; clear hK K)
                            refine wpAny_take (i := 10) (v := ?_) rfl (by kernel_rfl) (by kernel_rfl) (by kernel_rfl) (fun _ _ _ h => h) (Or.inl ⟨by kernel_rfl, ?_⟩) ?_
                            rotate_left
                            · intro w; go_simp; try with_reducible rfl
                            refine wpAny_ready (rs := [11]) (by kernel_rfl) (by simp) ?_
                            refine AllReady.cons rfl (fun K hK => ?_) AllReady.nil
                            go_simp
                            try (refine hK _ _ ?_; clear hK K)
                            refine wpAny_done (by kernel_rfl) ?_ _
                            try go_simp
                            go_wp2_with fail
                            go_meet
                            exact ⟨HPU.out, HG.out⟩
                          · skip
                            go_simp
                            try (refine hK _ _ ?_; clear hK K)
                            refine wpAny_ready (rs := [5]) (by kernel_rfl) (by simp) ?_
                            refine AllReady.cons rfl (fun K hK => ?_) AllReady.nil
                            go_simp
                            try (refine hK _ _ ?_; clear hK K)
                            refine wpAny_ready (rs := [9]) (by kernel_rfl) (by simp) ?_
                            refine AllReady.cons rfl (fun K hK => ?_) AllReady.nil
                            refine step_ints (.tmp 69) (.tmp 72) (c := 1) HRWB.out (Nat.le_trans HID.out.below.size (by simp)) (lit1 rfl (X : Int)) ?_ ?_ ?_ ?_ ?_ ?_
                            · omega
                            · rfl
                            · rfl
                            · rfl
                            · rfl
                            intro v3 w3 hown3 hg3 hat3
                            obtain ⟨A3, c3, rfl, k0', k1', hbx3, hp1, hp2, hp3⟩ := push_all HID.out hg0 htg0 hT3 hgwr HVE.out HR.out HBX3.out hown3 hg3 hat3
                            obtain ⟨t0, t1, t2⟩ := hbx3.cells w3 (Below.refl _ _)
                            have HPU := Lib.hid (show PushPost w w1.heap.size tg wr.heap.size T (X : Int) L (w3.setCell ⟨w1.heap.size, T, none⟩ (.slice A3 (r + 1) c3)) from ⟨hp1, hp2, hp3⟩)
                            clear hp1 hp2 hp3 hbx3 hown3 hg3 hat3
                            try (refine hK _ _ ?_; clear hK K)
                            refine wpAny_take (i := 10) (v := ?_) rfl (by kernel_rfl) (by kernel_rfl) (by kernel_rfl) (fun _ _ _ h => h) (Or.inl ⟨by kernel_rfl, ?_⟩) ?_
                            rotate_left
                            · intro w; go_simp; try with_reducible rfl
                            refine wpAny_ready (rs := [11]) (by kernel_rfl) (by simp) ?_
                            refine AllReady.cons rfl (fun K hK => ?_) AllReady.nil
                            go_simp
                            try (refine hK _ _ ?_; clear hK K)
                            refine wpAny_done (by kernel_rfl) ?_ _
                            try go_simp
                            go_wp2_with fail
                            go_meet
                            exact ⟨HPU.out, HG.out⟩
                      · skip
                        go_simp
                        try (refine hK _ _ ?_; clear hK K)
                        refine wpAny_ready (rs := [1, 7]) (by kernel_rfl) (by simp) ?_
                        refine AllReady.cons rfl (fun K hK => ?_) (AllReady.cons rfl (fun K hK => ?_) (AllReady.nil))
                        · skip
                          go_simp
                          try (refine hK _ _ ?_; clear hK K)
                          refine wpAny_ready (rs := [7]) (by kernel_rfl) (by simp) ?_
                          refine AllReady.cons rfl (fun K hK => ?_) AllReady.nil
                          go_simp
                          try (refine hK _ _ ?_; clear hK K)
                          refine wpAny_ready (rs := [8]) (by kernel_rfl) (by simp) ?_
                          refine AllReady.cons rfl (fun K hK => ?_) AllReady.nil
                          go_simp
                          try (refine hK _ _ ?_; clear hK K)
                          refine wpAny_ready (rs := [9]) (by kernel_rfl) (by simp) ?_
                          refine AllReady.cons rfl (fun K hK => ?_) AllReady.nil
                          refine step_ints (.tmp 69) (.tmp 72) (c := 1) HRWB.out (Nat.le_trans HID.out.below.size (by simp)) (lit1 rfl (X : Int)) ?_ ?_ ?_ ?_ ?_ ?_
                          · omega
                          · rfl
                          · rfl
                          · rfl
                          · rfl
                          intro v3 w3 hown3 hg3 hat3
                          obtain ⟨A3, c3, rfl, k0', k1', hbx3, hp1, hp2, hp3⟩ := push_all HID.out hg0 htg0 hT3 hgwr HVE.out HR.out HBX3.out hown3 hg3 hat3
                          obtain ⟨t0, t1, t2⟩ := hbx3.cells w3 (Below.refl _ _)
                          have HPU := Lib.hid (show PushPost w w1.heap.size tg wr.heap.size T (X : Int) L (w3.setCell ⟨w1.heap.size, T, none⟩ (.slice A3 (r + 1) c3)) from ⟨hp1, hp2, hp3⟩)
                          clear hp1 hp2 hp3 hbx3 hown3 hg3 hat3
                          try (refine hK _ _ ?_; clear hK K)
                          refine wpAny_take (i := 10) (v := ?_) rfl (by kernel_rfl) (by kernel_rfl) (by kernel_rfl) (fun _ _ _ h => h) (Or.inl ⟨by kernel_rfl, ?_⟩) ?_
                          rotate_left
                          · intro w; go_simp; try with_reducible rfl
                          refine wpAny_ready (rs := [11]) (by kernel_rfl) (by simp) ?_
                          refine AllReady.cons rfl (fun K hK => ?_) AllReady.nil
                          go_simp
                          try (refine hK _ _ ?_; clear hK K)
                          refine wpAny_done (by kernel_rfl) ?_ _
                          try go_simp
                          go_wp2_with fail
                          go_meet
                          exact ⟨HPU.out, HG.out⟩
                        · skip
                          go_simp
                          try (refine hK _ _ ?_; clear hK K)
                          refine wpAny_ready (rs := [1, 8]) (by kernel_rfl) (by simp) ?_
                          refine AllReady.cons rfl (fun K hK => ?_) (AllReady.cons rfl (fun K hK => ?_) (AllReady.nil))
                          · skip
                            go_simp
                            try (refine hK _ _ ?_; clear hK K)
                            refine wpAny_ready (rs := [8]) (by kernel_rfl) (by simp) ?_
                            refine AllReady.cons rfl (fun K hK => ?_) AllReady.nil
                            go_simp
                            try (refine hK _ _ ?_; clear hK K)
                            refine wpAny_ready (rs := [9]) (by kernel_rfl) (by simp) ?_
                            refine AllReady.cons rfl (fun K hK => ?_) AllReady.nil
                            refine step_ints (.tmp 69) (.tmp 72) (c := 1) HRWB.out (Nat.le_trans HID.out.below.size (by simp)) (lit1 rfl (X : Int)) ?_ ?_ ?_ ?_ ?_ ?_
                            · omega
                            · rfl
                            · rfl
                            · rfl
                            · rfl
                            intro v3 w3 hown3 hg3 hat3
                            obtain ⟨A3, c3, rfl, k0', k1', hbx3, hp1, hp2, hp3⟩ := push_all HID.out hg0 htg0 hT3 hgwr HVE.out HR.out HBX3.out hown3 hg3 hat3
                            obtain ⟨t0, t1, t2⟩ := hbx3.cells w3 (Below.refl _ _)
                            have HPU := Lib.hid (show PushPost w w1.heap.size tg wr.heap.size T (X : Int) L (w3.setCell ⟨w1.heap.size, T, none⟩ (.slice A3 (r + 1) c3)) from ⟨hp1, hp2, hp3⟩)
                            clear hp1 hp2 hp3 hbx3 hown3 hg3 hat3
                            try (refine hK _ _ ?_; clear hK K)
                            refine wpAny_take (i := 10) (v := ?_) rfl (by kernel_rfl) (by kernel_rfl) (by kernel_rfl) (fun _ _ _ h => h) (Or.inl ⟨by kernel_rfl, ?_⟩) ?_
                            rotate_left
                            · intro w; go_simp; try with_reducible rfl
                            refine wpAny_ready (rs := [11]) (by kernel_rfl) (by simp) ?_
                            refine AllReady.cons rfl (fun K hK => ?_) AllReady.nil
                            go_simp
                            try (refine hK _ _ ?_; clear hK K)
                            refine wpAny_done (by kernel_rfl) ?_ _
                            try go_simp
                            go_wp2_with fail
                            go_meet
                            exact ⟨HPU.out, HG.out⟩
                          · skip
                            go_simp
                            try (refine hK _ _ ?_; clear hK K)
                            refine wpAny_ready (rs := [1, 9]) (by kernel_rfl) (by simp) ?_
                            refine AllReady.cons rfl (fun K hK => ?_) (AllReady.cons rfl (fun K hK => ?_) (AllReady.nil))
                            · skip
                              go_simp
                              try (refine hK _ _ ?_; clear hK K)
                              refine wpAny_ready (rs := [9]) (by kernel_rfl) (by simp) ?_
                              refine AllReady.cons rfl (fun K hK => ?_) AllReady.nil
                              refine step_ints (.tmp 69) (.tmp 72) (c := 1) HRWB.out (Nat.le_trans HID.out.below.size (by simp)) (lit1 rfl (X : Int)) ?_ ?_ ?_ ?_ ?_ ?_
                              · omega
                              · rfl
                              · rfl
                              · rfl
                              · rfl
                              intro v3 w3 hown3 hg3 hat3
                              obtain ⟨A3, c3, rfl, k0', k1', hbx3, hp1, hp2, hp3⟩ := push_all HID.out hg0 htg0 hT3 hgwr HVE.out HR.out HBX3.out hown3 hg3 hat3
                              obtain ⟨t0, t1, t2⟩ := hbx3.cells w3 (Below.refl _ _)
                              have HPU := Lib.hid (show PushPost w w1.heap.size tg wr.heap.size T (X : Int) L (w3.setCell ⟨w1.heap.size, T, none⟩ (.slice A3 (r + 1) c3)) from ⟨hp1, hp2, hp3⟩)
                              clear hp1 hp2 hp3 hbx3 hown3 hg3 hat3
                              try (refine hK _ _ ?_; clear hK K)
                              refine wpAny_take (i := 10) (v := ?_) rfl (by kernel_rfl) (by kernel_rfl) (by kernel_rfl) (fun _ _ _ h => h) (Or.inl ⟨by kernel_rfl, ?_⟩) ?_
                              rotate_left
                              · intro w; go_simp; try with_reducible rfl
                              refine wpAny_ready (rs := [11]) (by kernel_rfl) (by simp) ?_
                              refine AllReady.cons rfl (fun K hK => ?_) AllReady.nil
                              go_simp
                              try (refine hK _ _ ?_; clear hK K)
                              refine wpAny_done (by kernel_rfl) ?_ _
                              try go_simp
                              go_wp2_with fail
                              go_meet
                              exact ⟨HPU.out, HG.out⟩
                            · skip
                              refine step_ints (.tmp 69) (.tmp 72) (c := 1) HRWB.out (Nat.le_trans HID.out.below.size (by simp)) (lit1 rfl (X : Int)) ?_ ?_ ?_ ?_ ?_ ?_
                              · omega
                              · rfl
                              · rfl
                              · rfl
                              · rfl
                              intro v3 w3 hown3 hg3 hat3
                              obtain ⟨A3, c3, rfl, k0', k1', hbx3, hp1, hp2, hp3⟩ := push_all HID.out hg0 htg0 hT3 hgwr HVE.out HR.out HBX3.out hown3 hg3 hat3
                              obtain ⟨t0, t1, t2⟩ := hbx3.cells w3 (Below.refl _ _)
                              have HPU := Lib.hid (show PushPost w w1.heap.size tg wr.heap.size T (X : Int) L (w3.setCell ⟨w1.heap.size, T, none⟩ (.slice A3 (r + 1) c3)) from ⟨hp1, hp2, hp3⟩)
                              clear hp1 hp2 hp3 hbx3 hown3 hg3 hat3
                              try (refine hK _ _ ?_; clear hK K)
                              refine wpAny_ready (rs := [1]) (by kernel_rfl) (by simp) ?_
                              refine AllReady.cons rfl (fun K hK => ?_) AllReady.nil
                              go_simp
                              try (refine hK _ _ ?_; clear hK K)
                              refine wpAny_take (i := 10) (v := ?_) rfl (by kernel_rfl) (by kernel_rfl) (by kernel_rfl) (fun _ _ _ h => h) (Or.inl ⟨by kernel_rfl, ?_⟩) ?_
                              rotate_left
                              · intro w; go_simp; try with_reducible rfl
                              refine wpAny_ready (rs := [11]) (by kernel_rfl) (by simp) ?_
                              refine AllReady.cons rfl (fun K hK => ?_) AllReady.nil
                              go_simp
                              try (refine hK _ _ ?_; clear hK K)
                              refine wpAny_done (by kernel_rfl) ?_ _
                              try go_simp
                              go_wp2_with fail
                              go_meet
                              exact ⟨HPU.out, HG.out⟩
                      · skip
                        go_simp
                        try (refine hK _ _ ?_; clear hK K)
                        refine wpAny_ready (rs := [1, 5, 8]) (by kernel_rfl) (by simp) ?_
                        refine AllReady.cons rfl (fun K hK => ?_) (AllReady.cons rfl (fun K hK => ?_) (AllReady.cons rfl (fun K hK => ?_) (AllReady.nil)))
                        · skip
                          go_simp
                          try (refine hK _ _ ?_; clear hK K)
                          refine wpAny_ready (rs := [5, 8]) (by kernel_rfl) (by simp) ?_
                          refine AllReady.cons rfl (fun K hK => ?_) (AllReady.cons rfl (fun K hK => ?_) (AllReady.nil))
                          · skip
                            go_simp
                            try (refine hK _ _ ?_; clear hK K)
                            refine wpAny_ready (rs := [8]) (by kernel_rfl) (by simp) ?_
                            refine AllReady.cons rfl (fun K hK => ?_) AllReady.nil
                            go_simp
                            try (refine hK _ _ ?_; clear hK K)
                            refine wpAny_ready (rs := [9]) (by kernel_rfl) (by simp) ?_
                            refine AllReady.cons rfl (fun K hK => ?_) AllReady.nil
                            refine step_ints (.tmp 69) (.tmp 72) (c := 1) HRWB.out (Nat.le_trans HID.out.below.size (by simp)) (lit1 rfl (X : Int)) ?_ ?_ ?_ ?_ ?_ ?_
                            · omega
                            · rfl
                            · rfl
                            · rfl
                            · rfl
                            intro v3 w3 hown3 hg3 hat3
                            obtain ⟨A3, c3, rfl, k0', k1', hbx3, hp1, hp2, hp3⟩ := push_all HID.out hg0 htg0 hT3 hgwr HVE.out HR.out HBX3.out hown3 hg3 hat3
                            obtain ⟨t0, t1, t2⟩ := hbx3.cells w3 (Below.refl _ _)
                            have HPU := Lib.hid (show PushPost w w1.heap.size tg wr.heap.size T (X : Int) L (w3.setCell ⟨w1.heap.size, T, none⟩ (.slice A3 (r + 1) c3)) from ⟨hp1, hp2, hp3⟩)
                            clear hp1 hp2 hp3 hbx3 hown3 hg3 hat3
                            try (refine hK _ _ ?_; clear hK K)
                            refine wpAny_take (i := 10) (v := ?_) rfl (by kernel_rfl) (by kernel_rfl) (by kernel_rfl) (fun _ _ _ h => h) (Or.inl ⟨by kernel_rfl, ?_⟩) ?_
                            rotate_left
                            · intro w; go_simp; try with_reducible rfl
                            refine wpAny_ready (rs := [11]) (by kernel_rfl) (by simp) ?_
                            refine AllReady.cons rfl (fun K hK => ?_) AllReady.nil
                            go_simp
                            try (refine hK _ _ ?_; clear hK K)
                            refine wpAny_done (by kernel_rfl) ?_ _
                            try go_simp
                            go_wp2_with fail
                            go_meet
                            exact ⟨HPU.out, HG.out⟩
                          · skip
                            go_simp
                            try (refine hK _ _ ?_; clear hK K)
                            refine wpAny_ready (rs := [5]) (by kernel_rfl) (by simp) ?_
                            refine AllReady.cons rfl (fun K hK => ?_) AllReady.nil
                            go_simp
                            try (refine hK _ _ ?_; clear hK K)
                            refine wpAny_ready (rs := [9]) (by kernel_rfl) (by simp) ?_
                            refine AllReady.cons rfl (fun K hK => ?_) AllReady.nil
                            refine step_ints (.tmp 69) (.tmp 72) (c := 1) HRWB.out (Nat.le_trans HID.out.below.size (by simp)) (lit1 rfl (X : Int)) ?_ ?_ ?_ ?_ ?_ ?_
                            · omega
                            · rfl
                            · rfl
                            · rfl
                            · rfl
                            intro v3 w3 hown3 hg3 hat3
                            obtain ⟨A3, c3, rfl, k0', k1', hbx3, hp1, hp2, hp3⟩ := push_all HID.out hg0 htg0 hT3 hgwr HVE.out HR.out HBX3.out hown3 hg3 hat3
                            obtain ⟨t0, t1, t2⟩ := hbx3.cells w3 (Below.refl _ _)
                            have HPU := Lib.hid (show PushPost w w1.heap.size tg wr.heap.size T (X : Int) L (w3.setCell ⟨w1.heap.size, T, none⟩ (.slice A3 (r + 1) c3)) from ⟨hp1, hp2, hp3⟩)
                            clear hp1 hp2 hp3 hbx3 hown3 hg3 hat3
                            try (refine hK _ _ ?_; clear hK K)
                            refine wpAny_take (i := 10) (v := ?_) rfl (by kernel_rfl) (by kernel_rfl) (by kernel_rfl) (fun _ _ _ h => h) (Or.inl ⟨by kernel_rfl, ?_⟩) ?_
                            rotate_left
                            · intro w; go_simp; try with_reducible rfl
                            refine wpAny_ready (rs := [11]) (by kernel_rfl) (by simp) ?_
                            refine AllReady.cons rfl (fun K hK => ?_) AllReady.nil
                            go_simp
                            try (refine hK _ _ ?_; clear hK K)
                            refine wpAny_done (by kernel_rfl) ?_ _
                            try go_simp
                            go_wp2_with fail
                            go_meet
                            exact ⟨HPU.out, HG.out⟩
                        · skip
                          go_simp
                          try (refine hK _ _ ?_; clear hK K)
                          refine wpAny_ready (rs := [1, 8]) (by kernel_rfl) (by simp) ?_
                          refine AllReady.cons rfl (fun K hK => ?_) (AllReady.cons rfl (fun K hK => ?_) (AllReady.nil))
                          · skip
                            go_simp
                            try (refine hK _ _ ?_; clear hK K)
                            refine wpAny_ready (rs := [8]) (by kernel_rfl) (by simp) ?_
                            refine AllReady.cons rfl (fun K hK => ?_) AllReady.nil
                            go_simp
                            try (refine hK _ _ ?_; clear hK K)
                            refine wpAny_ready (rs := [9]) (by kernel_rfl) (by simp) ?_
                            refine AllReady.cons rfl (fun K hK => ?_) AllReady.nil
                            refine step_ints (.tmp 69) (.tmp 72) (c := 1) HRWB.out (Nat.le_trans HID.out.below.size (by simp)) (lit1 rfl (X : Int)) ?_ ?_ ?_ ?_ ?_ ?_
                            · omega
                            · rfl
                            · rfl
                            · rfl
                            · rfl
                            intro v3 w3 hown3 hg3 hat3
                            obtain ⟨A3, c3, rfl, k0', k1', hbx3, hp1, hp2, hp3⟩ := push_all HID.out hg0 htg0 hT3 hgwr HVE.out HR.out HBX3.out hown3 hg3 hat3
                            obtain ⟨t0, t1, t2⟩ := hbx3.cells w3 (Below.refl _ _)
                            have HPU := Lib.hid (show PushPost w w1.heap.size tg wr.heap.size T (X : Int) L (w3.setCell ⟨w1.heap.size, T, none⟩ (.slice A3 (r + 1) c3)) from ⟨hp1, hp2, hp3⟩)
                            clear hp1 hp2 hp3 hbx3 hown3 hg3 hat3
                            try (refine hK _ _ ?_; clear hK K)
                            refine wpAny_take (i := 10) (v := ?_) rfl (by kernel_rfl) (by kernel_rfl) (by kernel_rfl) (fun _ _ _ h => h) (Or.inl ⟨by kernel_rfl, ?_⟩) ?_
                            rotate_left
                            · intro w; go_simp; try with_reducible rfl
                            refine wpAny_ready (rs := [11]) (by kernel_rfl) (by simp) ?_
                            refine AllReady.cons rfl (fun K hK => ?_) AllReady.nil
                            go_simp
                            try (refine hK _ _ ?_; clear hK K)
                            refine wpAny_done (by kernel_rfl) ?_ _
                            try go_simp
                            go_wp2_with fail
                            go_meet
                            exact ⟨HPU.out, HG.out⟩
                          · skip
                            go_simp
                            try (refine hK _ _ ?_; clear hK K)
                            refine wpAny_ready (rs := [1, 9]) (by kernel_rfl) (by simp) ?_
                            refine AllReady.cons rfl (fun K hK => ?_) (AllReady.cons rfl (fun K hK => ?_) (AllReady.nil))
                            · skip
                              go_simp
                              try (refine hK _ _ ?_; clear hK K)
                              refine wpAny_ready (rs := [9]) (by kernel_rfl) (by simp) ?_
                              refine AllReady.cons rfl (fun K hK => ?_) AllReady.nil
                              refine step_ints (.tmp 69) (.tmp 72) (c := 1) HRWB.out (Nat.le_trans HID.out.below.size (by simp)) (lit1 rfl (X : Int)) ?_ ?_ ?_ ?_ ?_ ?_
                              · omega
                              · rfl
                              · rfl
                              · rfl
                              · rfl
                              intro v3 w3 hown3 hg3 hat3
                              obtain ⟨A3, c3, rfl, k0', k1', hbx3, hp1, hp2, hp3⟩ := push_all HID.out hg0 htg0 hT3 hgwr HVE.out HR.out HBX3.out hown3 hg3 hat3
                              obtain ⟨t0, t1, t2⟩ := hbx3.cells w3 (Below.refl _ _)
                              have HPU := Lib.hid (show PushPost w w1.heap.size tg wr.heap.size T (X : Int) L (w3.setCell ⟨w1.heap.size, T, none⟩ (.slice A3 (r + 1) c3)) from ⟨hp1, hp2, hp3⟩)
                              clear hp1 hp2 hp3 hbx3 hown3 hg3 hat3
                              try (refine hK _ _ ?_; clear hK K)
                              refine wpAny_take (i := 10) (v := ?_) rfl (by kernel_rfl) (by kernel_rfl) (by kernel_rfl) (fun _ _ _ h => h) (Or.inl ⟨by kernel_rfl, ?_⟩) ?_
                              rotate_left
                              · intro w; go_simp; try with_reducible rfl
                              refine wpAny_ready (rs := [11]) (by kernel_rfl) (by simp) ?_
                              refine AllReady.cons rfl (fun K hK => ?_) AllReady.nil
                              go_simp
                              try (refine hK _ _ ?_; clear hK K)
                              refine wpAny_done (by kernel_rfl) ?_ _
                              try go_simp
                              go_wp2_with fail
                              go_meet
                              exact ⟨HPU.out, HG.out⟩
                            · skip
                              refine step_ints (.tmp 69) (.tmp 72) (c := 1) HRWB.out (Nat.le_trans HID.out.below.size (by simp)) (lit1 rfl (X : Int)) ?_ ?_ ?_ ?_ ?_ ?_
                              · omega
                              · rfl
                              · rfl
                              · rfl
                              · rfl
                              intro v3 w3 hown3 hg3 hat3
                              obtain ⟨A3, c3, rfl, k0', k1', hbx3, hp1, hp2, hp3⟩ := push_all HID.out hg0 htg0 hT3 hgwr HVE.out HR.out HBX3.out hown3 hg3 hat3
                              obtain ⟨t0, t1, t2⟩ := hbx3.cells w3 (Below.refl _ _)
                              have HPU := Lib.hid (show PushPost w w1.heap.size tg wr.heap.size T (X : Int) L (w3.setCell ⟨w1.heap.size, T, none⟩ (.slice A3 (r + 1) c3)) from ⟨hp1, hp2, hp3⟩)
                              clear hp1 hp2 hp3 hbx3 hown3 hg3 hat3
                              try (refine hK _ _ ?_; clear hK K)
                              refine wpAny_ready (rs := [1]) (by kernel_rfl) (by simp) ?_
                              refine AllReady.cons rfl (fun K hK => ?_) AllReady.nil
                              go_simp
                              try (refine hK _ _ ?_; clear hK K)
                              refine wpAny_take (i := 10) (v := ?_) rfl (by kernel_rfl) (by kernel_rfl) (by kernel_rfl) (fun _ _ _ h => h) (Or.inl ⟨by kernel_rfl, ?_⟩) ?_
                              rotate_left
                              · intro w; go_simp; try with_reducible rfl
                              refine wpAny_ready (rs := [11]) (by kernel_rfl) (by simp) ?_
                              refine AllReady.cons rfl (fun K hK => ?_) AllReady.nil
                              go_simp
                              try (refine hK _ _ ?_; clear hK K)
                              refine wpAny_done (by kernel_rfl) ?_ _
                              try go_simp
                              go_wp2_with fail
                              go_meet
                              exact ⟨HPU.out, HG.out⟩
                        · skip
                          go_simp
                          try (refine hK _ _ ?_; clear hK K)
                          refine wpAny_ready (rs := [1, 5]) (by kernel_rfl) (by simp) ?_
                          refine AllReady.cons rfl (fun K hK => ?_) (AllReady.cons rfl (fun K hK => ?_) (AllReady.nil))
                          · skip
                            go_simp
                            try (refine hK _ _ ?_; clear hK K)
                            refine wpAny_ready (rs := [5]) (by kernel_rfl) (by simp) ?_
                            refine AllReady.cons rfl (fun K hK => ?_) AllReady.nil
                            go_simp
                            try (refine hK _ _ ?_; clear hK K)
                            refine wpAny_ready (rs := [9]) (by kernel_rfl) (by simp) ?_
                            refine AllReady.cons rfl (fun K hK => ?_) AllReady.nil
                            refine step_ints (.tmp 69) (.tmp 72) (c := 1) HRWB.out (Nat.le_trans HID.out.below.size (by simp)) (lit1 rfl (X : Int)) ?_ ?_ ?_ ?_ ?_ ?_
                            · omega
                            · rfl
                            · rfl
                            · rfl
                            · rfl
                            intro v3 w3 hown3 hg3 hat3
                            obtain ⟨A3, c3, rfl, k0', k1', hbx3, hp1, hp2, hp3⟩ := push_all HID.out hg0 htg0 hT3 hgwr HVE.out HR.out HBX3.out hown3 hg3 hat3
                            obtain ⟨t0, t1, t2⟩ := hbx3.cells w3 (Below.refl _ _)
                            have HPU := Lib.hid (show PushPost w w1.heap.size tg wr.heap.size T (X : Int) L (w3.setCell ⟨w1.heap.size, T, none⟩ (.slice A3 (r + 1) c3)) from ⟨hp1, hp2, hp3⟩)
                            clear hp1 hp2 hp3 hbx3 hown3 hg3 hat3
                            try (refine hK _ _ ?_; clear hK K)
                            refine wpAny_take (i := 10) (v := ?_) rfl (by kernel_rfl) (by kernel_rfl) (by kernel_rfl) (fun _ _ _ h => h) (Or.inl ⟨by kernel_rfl, ?_⟩) ?_
                            rotate_left
                            · intro w; go_simp; try with_reducible rfl
                            refine wpAny_ready (rs := [11]) (by kernel_rfl) (by simp) ?_
                            refine AllReady.cons rfl (fun K hK => ?_) AllReady.nil
                            go_simp
                            try (refine hK _ _ ?_; clear hK K)
                            refine wpAny_done (by kernel_rfl) ?_ _
                            try go_simp
                            go_wp2_with fail
                            go_meet
                            exact ⟨HPU.out, HG.out⟩
                          · skip
                            go_simp
                            try (refine hK _ _ ?_; clear hK K)
                            refine wpAny_ready (rs := [1, 9]) (by kernel_rfl) (by simp) ?_
                            refine AllReady.cons rfl (fun K hK => ?_) (AllReady.cons rfl (fun K hK => ?_) (AllReady.nil))
                            · skip
                              go_simp
                              try (refine hK _ _ ?_; clear hK K)
                              refine wpAny_ready (rs := [9]) (by kernel_rfl) (by simp) ?_
                              refine AllReady.cons rfl (fun K hK => ?_) AllReady.nil
                              refine step_ints (.tmp 69) (.tmp 72) (c := 1) HRWB.out (Nat.le_trans HID.out.below.size (by simp)) (lit1 rfl (X : Int)) ?_ ?_ ?_ ?_ ?_ ?_
                              · omega
                              · rfl
                              · rfl
                              · rfl
                              · rfl
                              intro v3 w3 hown3 hg3 hat3
                              obtain ⟨A3, c3, rfl, k0', k1', hbx3, hp1, hp2, hp3⟩ := push_all HID.out hg0 htg0 hT3 hgwr HVE.out HR.out HBX3.out hown3 hg3 hat3
                              obtain ⟨t0, t1, t2⟩ := hbx3.cells w3 (Below.refl _ _)
                              have HPU := Lib.hid (show PushPost w w1.heap.size tg wr.heap.size T (X : Int) L (w3.setCell ⟨w1.heap.size, T, none⟩ (.slice A3 (r + 1) c3)) from ⟨hp1, hp2, hp3⟩)
                              clear hp1 hp2 hp3 hbx3 hown3 hg3 hat3
                              try (refine hK _ _ ?_; clear hK K)
                              refine wpAny_take (i := 10) (v := ?_) rfl (by kernel_rfl) (by kernel_rfl) (by kernel_rfl) (fun _ _ _ h => h) (Or.inl ⟨by kernel_rfl, ?_⟩) ?_
                              rotate_left
                              · intro w; go_simp; try with_reducible rfl
                              refine wpAny_ready (rs := [11]) (by kernel_rfl) (by simp) ?_
                              refine AllReady.cons rfl (fun K hK => ?_) AllReady.nil
                              go_simp
                              try (refine hK _ _ ?_; clear hK K)
                              refine wpAny_done (by kernel_rfl) ?_ _
                              try go_simp
                              go_wp2_with fail
                              go_meet
                              exact ⟨HPU.out, HG.out⟩
                            · skip
                              refine step_ints (.tmp 69) (.tmp 72) (c := 1) HRWB.out (Nat.le_trans HID.out.below.size (by simp)) (lit1 rfl (X : Int)) ?_ ?_ ?_ ?_ ?_ ?_
                              · omega
                              · rfl
                              · rfl
                              · rfl
                              · rfl
                              intro v3 w3 hown3 hg3 hat3
                              obtain ⟨A3, c3, rfl, k0', k1', hbx3, hp1, hp2, hp3⟩ := push_all HID.out hg0 htg0 hT3 hgwr HVE.out HR.out HBX3.out hown3 hg3 hat3
                              obtain ⟨t0, t1, t2⟩ := hbx3.cells w3 (Below.refl _ _)
                              have HPU := Lib.hid (show PushPost w w1.heap.size tg wr.heap.size T (X : Int) L (w3.setCell ⟨w1.heap.size, T, none⟩ (.slice A3 (r + 1) c3)) from ⟨hp1, hp2, hp3⟩)
                              clear hp1 hp2 hp3 hbx3 hown3 hg3 hat3
                              try (refine hK _ _ ?_; clear hK K)
                              refine wpAny_ready (rs := [1]) (by kernel_rfl) (by simp) ?_
                              refine AllReady.cons rfl (fun K hK => ?_) AllReady.nil
                              go_simp
                              try (refine hK _ _ ?_; clear hK K)
                              refine wpAny_take (i := 10) (v := ?_) rfl (by kernel_rfl) (by kernel_rfl) (by kernel_rfl) (fun _ _ _ h => h) (Or.inl ⟨by kernel_rfl, ?_⟩) ?_
                              rotate_left
                              · intro w; go_simp; try with_reducible rfl
                              refine wpAny_ready (rs := [11]) (by kernel_rfl) (by simp) ?_
                              refine AllReady.cons rfl (fun K hK => ?_) AllReady.nil
                              go_simp
                              try (refine hK _ _ ?_; clear hK K)
                              refine wpAny_done (by kernel_rfl) ?_ _
                              try go_simp
                              go_wp2_with fail
                              go_meet
                              exact ⟨HPU.out, HG.out⟩
                    · skip
                      go_simp
                      try (refine hK _ _ ?_; clear hK K)
                      refine wpAny_ready (rs := [1, 3, 8]) (by kernel_rfl) (by simp) ?_
                      refine AllReady.cons rfl (fun K hK => ?_) (AllReady.cons rfl (fun K hK => ?_) (AllReady.cons rfl (fun K hK => ?_) (AllReady.nil)))
                      · skip
                        go_simp
                        try (refine hK _ _ ?_; clear hK K)
                        refine wpAny_ready (rs := [3, 8]) (by kernel_rfl) (by simp) ?_
                        refine AllReady.cons rfl (fun K hK => ?_) (AllReady.cons rfl (fun K hK => ?_) (AllReady.nil))
                        · skip
                          go_simp
                          try (refine hK _ _ ?_; clear hK K)
                          refine wpAny_take (i := 4) (v := ?_) rfl (by kernel_rfl) (by kernel_rfl) (by kernel_rfl) (fun _ _ _ h => h) (Or.inl ⟨by kernel_rfl, ?_⟩) ?_
                          rotate_left
                          · intro w; go_simp; try with_reducible rfl
                          refine wpAny_ready (rs := [5, 8]) (by kernel_rfl) (by simp) ?_
                          refine AllReady.cons rfl (fun K hK => ?_) (AllReady.cons rfl (fun K hK => ?_) (AllReady.nil))
                          · skip
                            go_simp
                            try (refine hK _ _ ?_; clear hK K)
                            refine wpAny_ready (rs := [8]) (by kernel_rfl) (by simp) ?_
                            refine AllReady.cons rfl (fun K hK => ?_) AllReady.nil
                            go_simp
                            try (refine hK _ _ ?_; clear hK K)
                            refine wpAny_ready (rs := [9]) (by kernel_rfl) (by simp) ?_
                            refine AllReady.cons rfl (fun K hK => ?_) AllReady.nil
                            refine step_ints (.tmp 69) (.tmp 72) (c := 1) HRWB.out (Nat.le_trans HID.out.below.size (by simp)) (lit1 rfl (X : Int)) ?_ ?_ ?_ ?_ ?_ ?_
                            · omega
                            · rfl
                            · rfl
                            · rfl
                            · rfl
                            intro v3 w3 hown3 hg3 hat3
                            obtain ⟨A3, c3, rfl, k0', k1', hbx3, hp1, hp2, hp3⟩ := push_all HID.out hg0 htg0 hT3 hgwr HVE.out HR.out HBX3.out hown3 hg3 hat3
                            obtain ⟨t0, t1, t2⟩ := hbx3.cells w3 (Below.refl _ _)
                            have HPU := Lib.hid (show PushPost w w1.heap.size tg wr.heap.size T (X : Int) L (w3.setCell ⟨w1.heap.size, T, none⟩ (.slice A3 (r + 1) c3)) from ⟨hp1, hp2, hp3⟩)
                            clear hp1 hp2 hp3 hbx3 hown3 hg3 hat3
                            try (refine hK _ _ ?_; clear hK K)
                            refine wpAny_take (i := 10) (v := ?_) rfl (by kernel_rfl) (by kernel_rfl) (by kernel_rfl) (fun _ _ _ h => h) (Or.inl ⟨by kernel_rfl, ?_⟩) ?_
                            rotate_left
                            · intro w; go_simp; try with_reducible rfl
                            refine wpAny_ready (rs := [11]) (by kernel_rfl) (by simp) ?_
                            refine AllReady.cons rfl (fun K hK => ?_) AllReady.nil
                            go_simp
                            try (refine hK _ _ ?_; clear hK K)
                            refine wpAny_done (by kernel_rfl) ?_ _
                            try go_simp
                            go_wp2_with fail
                            go_meet
                            exact ⟨HPU.out, HG.out⟩
                          · skip
                            go_simp
                            try (refine hK _ _ ?_; clear hK K)
                            refine wpAny_ready (rs := [5]) (by kernel_rfl) (by simp) ?_
                            refine AllReady.cons rfl (fun K hK => ?_) AllReady.nil
                            go_simp
                            try (refine hK _ _ ?_; clear hK K)
                            refine wpAny_ready (rs := [9]) (by kernel_rfl) (by simp) ?_
                            refine AllReady.cons rfl (fun K hK => ?_) AllReady.nil
                            refine step_ints (.tmp 69) (.tmp 72) (c := 1) HRWB.out (Nat.le_trans HID.out.below.size (by simp)) (lit1 rfl (X : Int)) ?_ ?_ ?_ ?_ ?_ ?_
                            · omega
                            · rfl
                            · rfl
                            · rfl
                            · rfl
                            intro v3 w3 hown3 hg3 hat3
                            obtain ⟨A3, c3, rfl, k0', k1', hbx3, hp1, hp2, hp3⟩ := push_all HID.out hg0 htg0 hT3 hgwr HVE.out HR.out HBX3.out hown3 hg3 hat3
                            obtain ⟨t0, t1, t2⟩ := hbx3.cells w3 (Below.refl _ _)
                            have HPU := Lib.hid (show PushPost w w1.heap.size tg wr.heap.size T (X : Int) L (w3.setCell ⟨w1.heap.size, T, none⟩ (.slice A3 (r + 1) c3)) from ⟨hp1, hp2, hp3⟩)
                            clear hp1 hp2 hp3 hbx3 hown3 hg3 hat3
                            try (refine hK _ _ ?_; clear hK K)
                            refine wpAny_take (i := 10) (v := ?_) rfl (by kernel_rfl) (by kernel_rfl) (by kernel_rfl) (fun _ _ _ h => h) (Or.inl ⟨by kernel_rfl, ?_⟩) ?_
                            rotate_left
                            · intro w; go_simp; try with_reducible rfl
                            refine wpAny_ready (rs := [11]) (by kernel_rfl) (by simp) ?_
                            refine AllReady.cons rfl (fun K hK => ?_) AllReady.nil
                            go_simp
                            try (refine hK _ _ ?_; clear hK K)
                            refine wpAny_done (by kernel_rfl) ?_ _
                            try go_simp
                            go_wp2_with fail
                            go_meet
                            exact ⟨HPU.out, HG.out⟩
                        · skip
                          go_simp
                          try (refine hK _ _ ?_; clear hK K)
                          refine wpAny_ready (rs := [3]) (by kernel_rfl) (by simp) ?_
                          refine AllReady.cons rfl (fun K hK => ?_) AllReady.nil
                          go_simp
                          try (refine hK _ _ ?_; clear hK K)
                          refine wpAny_take (i := 4) (v := ?_) rfl (by kernel_rfl) (by kernel_rfl) (by kernel_rfl) (fun _ _ _ h => h) (Or.inl ⟨by kernel_rfl, ?_⟩) ?_
                          rotate_left
                          · intro w; go_simp; try with_reducible rfl
                          refine wpAny_ready (rs := [5]) (by kernel_rfl) (by simp) ?_
                          refine AllReady.cons rfl (fun K hK => ?_) AllReady.nil
                          go_simp
                          try (refine hK _ _ ?_; clear hK K)
                          refine wpAny_ready (rs := [9]) (by kernel_rfl) (by simp) ?_
                          refine AllReady.cons rfl (fun K hK => ?_) AllReady.nil
                          refine step_ints (.tmp 69) (.tmp 72) (c := 1) HRWB.out (Nat.le_trans HID.out.below.size (by simp)) (lit1 rfl (X : Int)) ?_ ?_ ?_ ?_ ?_ ?_
                          · omega
                          · rfl
                          · rfl
                          · rfl
                          · rfl
                          intro v3 w3 hown3 hg3 hat3
                          obtain ⟨A3, c3, rfl, k0', k1', hbx3, hp1, hp2, hp3⟩ := push_all HID.out hg0 htg0 hT3 hgwr HVE.out HR.out HBX3.out hown3 hg3 hat3
                          obtain ⟨t0, t1, t2⟩ := hbx3.cells w3 (Below.refl _ _)
                          have HPU := Lib.hid (show PushPost w w1.heap.size tg wr.heap.size T (X : Int) L (w3.setCell ⟨w1.heap.size, T, none⟩ (.slice A3 (r + 1) c3)) from ⟨hp1, hp2, hp3⟩)
                          clear hp1 hp2 hp3 hbx3 hown3 hg3 hat3
                          try (refine hK _ _ ?_; clear hK K)
                          refine wpAny_take (i := 10) (v := ?_) rfl (by kernel_rfl) (by kernel_rfl) (by kernel_rfl) (fun _ _ _ h => h) (Or.inl ⟨by kernel_rfl, ?_⟩) ?_
                          rotate_left
                          · intro w; go_simp; try with_reducible rfl
                          refine wpAny_ready (rs := [11]) (by kernel_rfl) (by simp) ?_
                          refine AllReady.cons rfl (fun K hK => ?_) AllReady.nil
                          go_simp
                          try (refine hK _ _ ?_; clear hK K)
                          refine wpAny_done (by kernel_rfl) ?_ _
                          try go_simp
                          go_wp2_with fail
                          go_meet
                          exact ⟨HPU.out, HG.out⟩
                      · skip
                        go_simp
                        try (refine hK _ _ ?_; clear hK K)
                        refine wpAny_take (i := 4) (v := ?_) rfl (by kernel_rfl) (by kernel_rfl) (by kernel_rfl) (fun _ _ _ h => h) (Or.inl ⟨by kernel_rfl, ?_⟩) ?_
                        rotate_left
                        · intro w; go_simp; try with_reducible rfl
                        refine wpAny_ready (rs := [1, 5, 8]) (by kernel_rfl) (by simp) ?_
                        refine AllReady.cons rfl (fun K hK => ?_) (AllReady.cons rfl (fun K hK => ?_) (AllReady.cons rfl (fun K hK => ?_) (AllReady.nil)))
                        · skip
                          go_simp
                          try (refine hK _ _ ?_; clear hK K)
                          refine wpAny_ready (rs := [5, 8]) (by kernel_rfl) (by simp) ?_
                          refine AllReady.cons rfl (fun K hK => ?_) (AllReady.cons rfl (fun K hK => ?_) (AllReady.nil))
                          · skip
                            go_simp
                            try (refine hK _ _ ?_; clear hK K)
                            refine wpAny_ready (rs := [8]) (by kernel_rfl) (by simp) ?_
                            refine AllReady.cons rfl (fun K hK => ?_) AllReady.nil
                            go_simp
                            try (refine hK _ _ ?_; clear hK K)
                            refine wpAny_ready (rs := [9]) (by kernel_rfl) (by simp) ?_
                            refine AllReady.cons rfl (fun K hK => ?_) AllReady.nil
                            refine step_ints (.tmp 69) (.tmp 72) (c := 1) HRWB.out (Nat.le_trans HID.out.below.size (by simp)) (lit1 rfl (X : Int)) ?_ ?_ ?_ ?_ ?_ ?_
                            · omega
                            · rfl
                            · rfl
                            · rfl
                            · rfl
                            intro v3 w3 hown3 hg3 hat3
                            obtain ⟨A3, c3, rfl, k0', k1', hbx3, hp1, hp2, hp3⟩ := push_all HID.out hg0 htg0 hT3 hgwr HVE.out HR.out HBX3.out hown3 hg3 hat3
                            obtain ⟨t0, t1, t2⟩ := hbx3.cells w3 (Below.refl _ _)
                            have HPU := Lib.hid (show PushPost w w1.heap.size tg wr.heap.size T (X : Int) L (w3.setCell ⟨w1.heap.size, T, none⟩ (.slice A3 (r + 1) c3)) from ⟨hp1, hp2, hp3⟩)
                            clear hp1 hp2 hp3 hbx3 hown3 hg3 hat3
                            try (refine hK _ _ ?_; clear hK K)
                            refine wpAny_take (i := 10) (v := ?_) rfl (by kernel_rfl) (by kernel_rfl) (by kernel_rfl) (fun _ _ _ h => h) (Or.inl ⟨by kernel_rfl, ?_⟩) ?_
                            rotate_left
                            · intro w; go_simp; try with_reducible rfl
                            refine wpAny_ready (rs := [11]) (by kernel_rfl) (by simp) ?_
                            refine AllReady.cons rfl (fun K hK => ?_) AllReady.nil
                            go_simp
                            try (refine hK _ _ ?_; clear hK K)
                            refine wpAny_done (by kernel_rfl) ?_ _
                            try go_simp
                            go_wp2_with fail
                            go_meet
                            exact ⟨HPU.out, HG.out⟩
                          · skip
                            go_simp
                            try (refine hK _ _ ?_; clear hK K)
                            refine wpAny_ready (rs := [5]) (by kernel_rfl) (by simp) ?_
                            refine AllReady.cons rfl (fun K hK => ?_) AllReady.nil
                            go_simp
                            try (refine hK _ _ ?_; clear hK K)
                            refine wpAny_ready (rs := [9]) (by kernel_rfl) (by simp) ?_
                            refine AllReady.cons rfl (fun K hK => ?_) AllReady.nil
                            refine step_ints (.tmp 69) (.tmp 72) (c := 1) HRWB.out (Nat.le_trans HID.out.below.size (by simp)) (lit1 rfl (X : Int)) ?_ ?_ ?_ ?_ ?_ ?_
                            · omega
                            · rfl
                            · rfl
                            · rfl
                            · rfl
                            intro v3 w3 hown3 hg3 hat3
                            obtain ⟨A3, c3, rfl, k0', k1', hbx3, hp1, hp2, hp3⟩ := push_all HID.out hg0 htg0 hT3 hgwr HVE.out HR.out HBX3.out hown3 hg3 hat3
                            obtain ⟨t0, t1, t2⟩ := hbx3.cells w3 (Below.refl _ _)
                            have HPU := Lib.hid (show PushPost w w1.heap.size tg wr.heap.size T (X : Int) L (w3.setCell ⟨w1.heap.size, T, none⟩ (.slice A3 (r + 1) c3)) from ⟨hp1, hp2, hp3⟩)
                            clear hp1 hp2 hp3 hbx3 hown3 hg3 hat3
                            try (refine hK _ _ ?_; clear hK K)
                            refine wpAny_take (i := 10) (v := ?_) rfl (by kernel_rfl) (by kernel_rfl) (by kernel_rfl) (fun _ _ _ h => h) (Or.inl ⟨by kernel_rfl, ?_⟩) ?_
                            rotate_left
                            · intro w; go_simp; try with_reducible rfl
                            refine wpAny_ready (rs := [11]) (by kernel_rfl) (by simp) ?_
                            refine AllReady.cons rfl (fun K hK => ?_) AllReady.nil
                            go_simp
                            try (refine hK _ _ ?_; clear hK K)
                            refine wpAny_done (by kernel_rfl) ?_ _
                            try go_simp
                            go_wp2_with fail
                            go_meet
                            exact ⟨HPU.out, HG.out⟩
                        · skip
                          go_simp
                          try (refine hK _ _ ?_; clear hK K)
                          refine wpAny_ready (rs := [1, 8]) (by kernel_rfl) (by simp) ?_
                          refine AllReady.cons rfl (fun K hK => ?_) (AllReady.cons rfl (fun K hK => ?_) (AllReady.nil))
                          · skip
                            go_simp
                            try (refine hK _ _ ?_; clear hK K)
                            refine wpAny_ready (rs := [8]) (by kernel_rfl) (by simp) ?_
                            refine AllReady.cons rfl (fun K hK => ?_) AllReady.nil
                            go_simp
                            try (refine hK _ _ ?_; clear hK K)
                            refine wpAny_ready (rs := [9]) (by kernel_rfl) (by simp) ?_
                            refine AllReady.cons rfl (fun K hK => ?_) AllReady.nil
                            refine step_ints (.tmp 69) (.tmp 72) (c := 1) HRWB.out (Nat.le_trans HID.out.below.size (by simp)) (lit1 rfl (X : Int)) ?_ ?_ ?_ ?_ ?_ ?_
                            · omega
                            · rfl
                            · rfl
                            · rfl
                            · rfl
                            intro v3 w3 hown3 hg3 hat3
                            obtain ⟨A3, c3, rfl, k0', k1', hbx3, hp1, hp2, hp3⟩ := push_all HID.out hg0 htg0 hT3 hgwr HVE.out HR.out HBX3.out hown3 hg3 hat3
                            obtain ⟨t0, t1, t2⟩ := hbx3.cells w3 (Below.refl _ _)
                            have HPU := Lib.hid (show PushPost w w1.heap.size tg wr.heap.size T (X : Int) L (w3.setCell ⟨w1.heap.size, T, none⟩ (.slice A3 (r + 1) c3)) from ⟨hp1, hp2, hp3⟩)
                            clear hp1 hp2 hp3 hbx3 hown3 hg3 hat3
                            try (refine hK _ _ ?_; clear hK K)
                            refine wpAny_take (i := 10) (v := ?_) rfl (by kernel_rfl) (by kernel_rfl) (by kernel_rfl) (fun _ _ _ h => h) (Or.inl ⟨by kernel_rfl, ?_⟩) ?_
                            rotate_left
                            · intro w; go_simp; try with_reducible rfl
                            refine wpAny_ready (rs := [11]) (by kernel_rfl) (by simp) ?_
                            refine AllReady.cons rfl (fun K hK => ?_) AllReady.nil
                            go_simp
                            try (refine hK _ _ ?_; clear hK K)
                            refine wpAny_done (by kernel_rfl) ?_ _
                            try go_simp
                            go_wp2_with fail
                            go_meet
                            exact ⟨HPU.out, HG.out⟩
                          · skip
                            go_simp
                            try (refine hK _ _ ?_; clear hK K)
                            refine wpAny_ready (rs := [1, 9]) (by kernel_rfl) (by simp) ?_
                            refine AllReady.cons rfl (fun K hK => ?_) (AllReady.cons rfl (fun K hK => ?_) (AllReady.nil))
                            · skip
                              go_simp
                              try (refine hK _ _ ?_; clear hK K)
                              refine wpAny_ready (rs := [9]) (by kernel_rfl) (by simp) ?_
                              refine AllReady.cons rfl (fun K hK => ?_) AllReady.nil
                              refine step_ints (.tmp 69) (.tmp 72) (c := 1) HRWB.out (Nat.le_trans HID.out.below.size (by simp)) (lit1 rfl (X : Int)) ?_ ?_ ?_ ?_ ?_ ?_
                              · omega
                              · rfl
                              · rfl
                              · rfl
                              · rfl
                              intro v3 w3 hown3 hg3 hat3
                              obtain ⟨A3, c3, rfl, k0', k1', hbx3, hp1, hp2, hp3⟩ := push_all HID.out hg0 htg0 hT3 hgwr HVE.out HR.out HBX3.out hown3 hg3 hat3
                              obtain ⟨t0, t1, t2⟩ := hbx3.cells w3 (Below.refl _ _)
                              have HPU := Lib.hid (show PushPost w w1.heap.size tg wr.heap.size T (X : Int) L (w3.setCell ⟨w1.heap.size, T, none⟩ (.slice A3 (r + 1) c3)) from ⟨hp1, hp2, hp3⟩)
                              clear hp1 hp2 hp3 hbx3 hown3 hg3 hat3
                              try (refine hK _ _ ?_; clear hK K)
                              refine wpAny_take (i := 10) (v := ?_) rfl (by kernel_rfl) (by kernel_rfl) (by kernel_rfl) (fun _ _ _ h => h) (Or.inl ⟨by kernel_rfl, ?_⟩) ?_
                              rotate_left
                              · intro w; go_simp; try with_reducible rfl
                              refine wpAny_ready (rs := [11]) (by kernel_rfl) (by simp) ?_
                              refine AllReady.cons rfl (fun K hK => ?_) AllReady.nil
                              go_simp
                              try (refine hK _ _ ?_; clear hK K)
                              refine wpAny_done (by kernel_rfl) ?_ _
                              try go_simp
                              go_wp2_with fail
                              go_meet
                              exact ⟨HPU.out, HG.out⟩
                            · skip
                              refine step_ints (.tmp 69) (.tmp 72) (c := 1) HRWB.out (Nat.le_trans HID.out.below.size (by simp)) (lit1 rfl (X : Int)) ?_ ?_ ?_ ?_ ?_ ?_
                              · omega
                              · rfl
                              · rfl
                              · rfl
                              · rfl
                              intro v3 w3 hown3 hg3 hat3
                              obtain ⟨A3, c3, rfl, k0', k1', hbx3, hp1, hp2, hp3⟩ := push_all HID.out hg0 htg0 hT3 hgwr HVE.out HR.out HBX3.out hown3 hg3 hat3
                              obtain ⟨t0, t1, t2⟩ := hbx3.cells w3 (Below.refl _ _)
                              have HPU := Lib.hid (show PushPost w w1.heap.size tg wr.heap.size T (X : Int) L (w3.setCell ⟨w1.heap.size, T, none⟩ (.slice A3 (r + 1) c3)) from ⟨hp1, hp2, hp3⟩)
                              clear hp1 hp2 hp3 hbx3 hown3 hg3 hat3
                              try (refine hK _ _ ?_; clear hK K)
                              refine wpAny_ready (rs := [1]) (by kernel_rfl) (by simp) ?_
                              refine AllReady.cons rfl (fun K hK => ?_) AllReady.nil
                              go_simp
                              try (refine hK _ _ ?_; clear hK K)
                              refine wpAny_take (i := 10) (v := ?_) rfl (by kernel_rfl) (by kernel_rfl) (by kernel_rfl) (fun _ _ _ h => h) (Or.inl ⟨by kernel_rfl, ?_⟩) ?_
                              rotate_left
                              · intro w; go_simp; try with_reducible rfl
                              refine wpAny_ready (rs := [11]) (by kernel_rfl) (by simp) ?_
                              refine AllReady.cons rfl (fun K hK => ?_) AllReady.nil
                              go_simp
                              try (refine hK _ _ ?_; clear hK K)
                              refine wpAny_done (by kernel_rfl) ?_ _
                              try go_simp
                              go_wp2_with fail
                              go_meet
                              exact ⟨HPU.out, HG.out⟩
                        · skip
                          go_simp
                          try (refine hK _ _ ?_; clear hK K)
                          refine wpAny_ready (rs := [1, 5]) (by kernel_rfl) (by simp) ?_
                          refine AllReady.cons rfl (fun K hK => ?_) (AllReady.cons rfl (fun K hK => ?_) (AllReady.nil))
                          · skip
                            go_simp
                            try (refine hK _ _ ?_; clear hK K)
                            refine wpAny_ready (rs := [5]) (by kernel_rfl) (by simp) ?_
                            refine AllReady.cons rfl (fun K hK => ?_) AllReady.nil
                            go_simp
                            try (refine hK _ _ ?_; clear hK K)
                            refine wpAny_ready (rs := [9]) (by kernel_rfl) (by simp) ?_
                            refine AllReady.cons rfl (fun K hK => ?_) AllReady.nil
                            refine step_ints (.tmp 69) (.tmp 72) (c := 1) HRWB.out (Nat.le_trans HID.out.below.size (by simp)) (lit1 rfl (X : Int)) ?_ ?_ ?_ ?_ ?_ ?_
                            · omega
                            · rfl
                            · rfl
                            · rfl
                            · rfl
                            intro v3 w3 hown3 hg3 hat3
                            obtain ⟨A3, c3, rfl, k0', k1', hbx3, hp1, hp2, hp3⟩ := push_all HID.out hg0 htg0 hT3 hgwr HVE.out HR.out HBX3.out hown3 hg3 hat3
                            obtain ⟨t0, t1, t2⟩ := hbx3.cells w3 (Below.refl _ _)
                            have HPU := Lib.hid (show PushPost w w1.heap.size tg wr.heap.size T (X : Int) L (w3.setCell ⟨w1.heap.size, T, none⟩ (.slice A3 (r + 1) c3)) from ⟨hp1, hp2, hp3⟩)
                            clear hp1 hp2 hp3 hbx3 hown3 hg3 hat3
                            try (refine hK _ _ ?_; clear hK K)
                            refine wpAny_take (i := 10) (v := ?_) rfl (by kernel_rfl) (by kernel_rfl) (by kernel_rfl) (fun _ _ _ h => h) (Or.inl ⟨by kernel_rfl, ?_⟩) ?_
                            rotate_left
                            · intro w; go_simp; try with_reducible rfl
                            refine wpAny_ready (rs := [11]) (by kernel_rfl) (by simp) ?_
                            refine AllReady.cons rfl (fun K hK => ?_) AllReady.nil
                            go_simp
                            try (refine hK _ _ ?_; clear hK K)
                            refine wpAny_done (by kernel_rfl) ?_ _
                            try go_simp
                            go_wp2_with fail
                            go_meet
                            exact ⟨HPU.out, HG.out⟩
                          · skip
                            go_simp
                            try (refine hK _ _ ?_; clear hK K)
                            refine wpAny_ready (rs := [1, 9]) (by kernel_rfl) (by simp) ?_
                            refine AllReady.cons rfl (fun K hK => ?_) (AllReady.cons rfl (fun K hK => ?_) (AllReady.nil))
                            · skip
                              go_simp
                              try (refine hK _ _ ?_; clear hK K)
                              refine wpAny_ready (rs := [9]) (by kernel_rfl) (by simp) ?_
                              refine AllReady.cons rfl (fun K hK => ?_) AllReady.nil
                              refine step_ints (.tmp 69) (.tmp 72) (c := 1) HRWB.out (Nat.le_trans HID.out.below.size (by simp)) (lit1 rfl (X : Int)) ?_ ?_ ?_ ?_ ?_ ?_
                              · omega
                              · rfl
                              · rfl
                              · rfl
                              · rfl
                              intro v3 w3 hown3 hg3 hat3
                              obtain ⟨A3, c3, rfl, k0', k1', hbx3, hp1, hp2, hp3⟩ := push_all HID.out hg0 htg0 hT3 hgwr HVE.out HR.out HBX3.out hown3 hg3 hat3
                              obtain ⟨t0, t1, t2⟩ := hbx3.cells w3 (Below.refl _ _)
                              have HPU := Lib.hid (show PushPost w w1.heap.size tg wr.heap.size T (X : Int) L (w3.setCell ⟨w1.heap.size, T, none⟩ (.slice A3 (r + 1) c3)) from ⟨hp1, hp2, hp3⟩)
                              clear hp1 hp2 hp3 hbx3 hown3 hg3 hat3
                              try (refine hK _ _ ?_; clear hK K)
                              refine wpAny_take (i := 10) (v := ?_) rfl (by kernel_rfl) (by kernel_rfl) (by kernel_rfl) (fun _ _ _ h => h) (Or.inl ⟨by kernel_rfl, ?_⟩) ?_
                              rotate_left
                              · intro w; go_simp; try with_reducible rfl
                              refine wpAny_ready (rs := [11]) (by kernel_rfl) (by simp) ?_
                              refine AllReady.cons rfl (fun K hK => ?_) AllReady.nil
                              go_simp
                              try (refine hK _ _ ?_; clear hK K)
                              refine wpAny_done (by kernel_rfl) ?_ _
                              try go_simp
                              go_wp2_with fail
                              go_meet
                              exact ⟨HPU.out, HG.out⟩
                            · skip
                              refine step_ints (.tmp 69) (.tmp 72) (c := 1) HRWB.out (Nat.le_trans HID.out.below.size (by simp)) (lit1 rfl (X : Int)) ?_ ?_ ?_ ?_ ?_ ?_
                              · omega
                              · rfl
                              · rfl
                              · rfl
                              · rfl
                              intro v3 w3 hown3 hg3 hat3
                              obtain ⟨A3, c3, rfl, k0', k1', hbx3, hp1, hp2, hp3⟩ := push_all HID.out hg0 htg0 hT3 hgwr HVE.out HR.out HBX3.out hown3 hg3 hat3
                              obtain ⟨t0, t1, t2⟩ := hbx3.cells w3 (Below.refl _ _)
                              have HPU := Lib.hid (show PushPost w w1.heap.size tg wr.heap.size T (X : Int) L (w3.setCell ⟨w1.heap.size, T, none⟩ (.slice A3 (r + 1) c3)) from ⟨hp1, hp2, hp3⟩)
                              clear hp1 hp2 hp3 hbx3 hown3 hg3 hat3
                              try (refine hK _ _ ?_; clear hK K)
                              refine wpAny_ready (rs := [1]) (by kernel_rfl) (by simp) ?_
                              refine AllReady.cons rfl (fun K hK => ?_) AllReady.nil
                              go_simp
                              try (refine hK _ _ ?_; clear hK K)
                              refine wpAny_take (i := 10) (v := ?_) rfl (by kernel_rfl) (by kernel_rfl) (by kernel_rfl) (fun _ _ _ h => h) (Or.inl ⟨by kernel_rfl, ?_⟩) ?_
                              rotate_left
                              · intro w; go_simp; try with_reducible rfl
                              refine wpAny_ready (rs := [11]) (by kernel_rfl) (by simp) ?_
                              refine AllReady.cons rfl (fun K hK => ?_) AllReady.nil
                              go_simp
                              try (refine hK _ _ ?_; clear hK K)
                              refine wpAny_done (by kernel_rfl) ?_ _
                              try go_simp
                              go_wp2_with fail
                              go_meet
                              exact ⟨HPU.out, HG.out⟩
                      · skip
                        go_simp
                        try (refine hK _ _ ?_; clear hK K)
                        refine wpAny_ready (rs := [1, 3]) (by kernel_rfl) (by simp) ?_
                        refine AllReady.cons rfl (fun K hK => ?_) (AllReady.cons rfl (fun K hK => ?_) (AllReady.nil))
                        · skip
                          go_simp
                          try (refine hK _ _ ?_; clear hK K)
                          refine wpAny_ready (rs := [3]) (by kernel_rfl) (by simp) ?_
                          refine AllReady.cons rfl (fun K hK => ?_) AllReady.nil
                          go_simp
                          try (refine hK _ _ ?_; clear hK K)
                          refine wpAny_take (i := 4) (v := ?_) rfl (by kernel_rfl) (by kernel_rfl) (by kernel_rfl) (fun _ _ _ h => h) (Or.inl ⟨by kernel_rfl, ?_⟩) ?_
                          rotate_left
                          · intro w; go_simp; try with_reducible rfl
                          refine wpAny_ready (rs := [5]) (by kernel_rfl) (by simp) ?_
                          refine AllReady.cons rfl (fun K hK => ?_) AllReady.nil
                          go_simp
                          try (refine hK _ _ ?_; clear hK K)
                          refine wpAny_ready (rs := [9]) (by kernel_rfl) (by simp) ?_
                          refine AllReady.cons rfl (fun K hK => ?_) AllReady.nil
                          refine step_ints (.tmp 69) (.tmp 72) (c := 1) HRWB.out (Nat.le_trans HID.out.below.size (by simp)) (lit1 rfl (X : Int)) ?_ ?_ ?_ ?_ ?_ ?_
                          · omega
                          · rfl
                          · rfl
                          · rfl
                          · rfl
                          intro v3 w3 hown3 hg3 hat3
                          obtain ⟨A3, c3, rfl, k0', k1', hbx3, hp1, hp2, hp3⟩ := push_all HID.out hg0 htg0 hT3 hgwr HVE.out HR.out HBX3.out hown3 hg3 hat3
                          obtain ⟨t0, t1, t2⟩ := hbx3.cells w3 (Below.refl _ _)
                          have HPU := Lib.hid (show PushPost w w1.heap.size tg wr.heap.size T (X : Int) L (w3.setCell ⟨w1.heap.size, T, none⟩ (.slice A3 (r + 1) c3)) from ⟨hp1, hp2, hp3⟩)
                          clear hp1 hp2 hp3 hbx3 hown3 hg3 hat3
                          try (refine hK _ _ ?_; clear hK K)
                          refine wpAny_take (i := 10) (v := ?_) rfl (by kernel_rfl) (by kernel_rfl) (by kernel_rfl) (fun _ _ _ h => h) (Or.inl ⟨by kernel_rfl, ?_⟩) ?_
                          rotate_left
                          · intro w; go_simp; try with_reducible rfl
                          refine wpAny_ready (rs := [11]) (by kernel_rfl) (by simp) ?_
                          refine AllReady.cons rfl (fun K hK => ?_) AllReady.nil
                          go_simp
                          try (refine hK _ _ ?_; clear hK K)
                          refine wpAny_done (by kernel_rfl) ?_ _
                          try go_simp
                          go_wp2_with fail
                          go_meet
                          exact ⟨HPU.out, HG.out⟩
                        · skip
                          go_simp
                          try (refine hK _ _ ?_; clear hK K)
                          refine wpAny_take (i := 4) (v := ?_) rfl (by kernel_rfl) (by kernel_rfl) (by kernel_rfl) (fun _ _ _ h => h) (Or.inl ⟨by kernel_rfl, ?_⟩) ?_
                          rotate_left
                          · intro w; go_simp; try with_reducible rfl
                          refine wpAny_ready (rs := [1, 5]) (by kernel_rfl) (by simp) ?_
                          refine AllReady.cons rfl (fun K hK => ?_) (AllReady.cons rfl (fun K hK => ?_) (AllReady.nil))
                          · skip
                            go_simp
                            try (refine hK _ _ ?_; clear hK K)
                            refine wpAny_ready (rs := [5]) (by kernel_rfl) (by simp) ?_
                            refine AllReady.cons rfl (fun K hK => ?_) AllReady.nil
                            go_simp
                            try (refine hK _ _ ?_; clear hK K)
                            refine wpAny_ready (rs := [9]) (by kernel_rfl) (by simp) ?_
                            refine AllReady.cons rfl (fun K hK => ?_) AllReady.nil
                            refine step_ints (.tmp 69) (.tmp 72) (c := 1) HRWB.out (Nat.le_trans HID.out.below.size (by simp)) (lit1 rfl (X : Int)) ?_ ?_ ?_ ?_ ?_ ?_
                            · omega
                            · rfl
                            · rfl
                            · rfl
                            · rfl
                            intro v3 w3 hown3 hg3 hat3
                            obtain ⟨A3, c3, rfl, k0', k1', hbx3, hp1, hp2, hp3⟩ := push_all HID.out hg0 htg0 hT3 hgwr HVE.out HR.out HBX3.out hown3 hg3 hat3
                            obtain ⟨t0, t1, t2⟩ := hbx3.cells w3 (Below.refl _ _)
                            have HPU := Lib.hid (show PushPost w w1.heap.size tg wr.heap.size T (X : Int) L (w3.setCell ⟨w1.heap.size, T, none⟩ (.slice A3 (r + 1) c3)) from ⟨hp1, hp2, hp3⟩)
                            clear hp1 hp2 hp3 hbx3 hown3 hg3 hat3
                            try (refine hK _ _ ?_; clear hK K)
                            refine wpAny_take (i := 10) (v := ?_) rfl (by kernel_rfl) (by kernel_rfl) (by kernel_rfl) (fun _ _ _ h => h) (Or.inl ⟨by kernel_rfl, ?_⟩) ?_
                            rotate_left
                            · intro w; go_simp; try with_reducible rfl
                            refine wpAny_ready (rs := [11]) (by kernel_rfl) (by simp) ?_
                            refine AllReady.cons rfl (fun K hK => ?_) AllReady.nil
                            go_simp
                            try (refine hK _ _ ?_; clear hK K)
                            refine wpAny_done (by kernel_rfl) ?_ _
                            try go_simp
                            go_wp2_with fail
                            go_meet
                            exact ⟨HPU.out, HG.out⟩
                          · skip
                            go_simp
                            try (refine hK _ _ ?_; clear hK K)
                            refine wpAny_ready (rs := [1, 9]) (by kernel_rfl) (by simp) ?_
                            refine AllReady.cons rfl (fun K hK => ?_) (AllReady.cons rfl (fun K hK => ?_) (AllReady.nil))
                            · skip
                              go_simp
                              try (refine hK _ _ ?_; clear hK K)
                              refine wpAny_ready (rs := [9]) (by kernel_rfl) (by simp) ?_
                              refine AllReady.cons rfl (fun K hK => ?_) AllReady.nil
                              refine step_ints (.tmp 69) (.tmp 72) (c := 1) HRWB.out (Nat.le_trans HID.out.below.size (by simp)) (lit1 rfl (X : Int)) ?_ ?_ ?_ ?_ ?_ ?_
                              · omega
                              · rfl
                              · rfl
                              · rfl
                              · rfl
                              intro v3 w3 hown3 hg3 hat3
                              obtain ⟨A3, c3, rfl, k0', k1', hbx3, hp1, hp2, hp3⟩ := push_all HID.out hg0 htg0 hT3 hgwr HVE.out HR.out HBX3.out hown3 hg3 hat3
                              obtain ⟨t0, t1, t2⟩ := hbx3.cells w3 (Below.refl _ _)
                              have HPU := Lib.hid (show PushPost w w1.heap.size tg wr.heap.size T (X : Int) L (w3.setCell ⟨w1.heap.size, T, none⟩ (.slice A3 (r + 1) c3)) from ⟨hp1, hp2, hp3⟩)
                              clear hp1 hp2 hp3 hbx3 hown3 hg3 hat3
                              try (refine hK _ _ ?_; clear hK K)
                              refine wpAny_take (i := 10) (v := ?_) rfl (by kernel_rfl) (by kernel_rfl) (by kernel_rfl) (fun _ _ _ h => h) (Or.inl ⟨by kernel_rfl, ?_⟩) ?_
                              rotate_left
                              · intro w; go_simp; try with_reducible rfl
                              refine wpAny_ready (rs := [11]) (by kernel_rfl) (by simp) ?_
                              refine AllReady.cons rfl (fun K hK => ?_) AllReady.nil
                              go_simp
                              try (refine hK _ _ ?_; clear hK K)
                              refine wpAny_done (by kernel_rfl) ?_ _
                              try go_simp
                              go_wp2_with fail
                              go_meet
                              exact ⟨HPU.out, HG.out⟩
                            · skip
                              refine step_ints (.tmp 69) (.tmp 72) (c := 1) HRWB.out (Nat.le_trans HID.out.below.size (by simp)) (lit1 rfl (X : Int)) ?_ ?_ ?_ ?_ ?_ ?_
                              · omega
                              · rfl
                              · rfl
                              · rfl
                              · rfl
                              intro v3 w3 hown3 hg3 hat3
                              obtain ⟨A3, c3, rfl, k0', k1', hbx3, hp1, hp2, hp3⟩ := push_all HID.out hg0 htg0 hT3 hgwr HVE.out HR.out HBX3.out hown3 hg3 hat3
                              obtain ⟨t0, t1, t2⟩ := hbx3.cells w3 (Below.refl _ _)
                              have HPU := Lib.hid (show PushPost w w1.heap.size tg wr.heap.size T (X : Int) L (w3.setCell ⟨w1.heap.size, T, none⟩ (.slice A3 (r + 1) c3)) from ⟨hp1, hp2, hp3⟩)
                              clear hp1 hp2 hp3 hbx3 hown3 hg3 hat3
                              try (refine hK _ _ ?_; clear hK K)
                              refine wpAny_ready (rs := [1]) (by kernel_rfl) (by simp) ?_
                              refine AllReady.cons rfl (fun K hK => ?_) AllReady.nil
                              go_simp
                              try (refine hK _ _ ?_; clear hK K)
                              refine wpAny_take (i := 10) (v := ?_) rfl (by kernel_rfl) (by kernel_rfl) (by kernel_rfl) (fun _ _ _ h => h) (Or.inl ⟨by kernel_rfl, ?_⟩) ?_
                              rotate_left
                              · intro w; go_simp; try with_reducible rfl
                              refine wpAny_ready (rs := [11]) (by kernel_rfl) (by simp) ?_
                              refine AllReady.cons rfl (fun K hK => ?_) AllReady.nil
                              go_simp
                              try (refine hK _ _ ?_; clear hK K)
                              refine wpAny_done (by kernel_rfl) ?_ _
                              try go_simp
                              go_wp2_with fail
                              go_meet
                              exact ⟨HPU.out, HG.out⟩
                  · have HV := Lib.hid (hyes rfl)
                    clear hyes hno
                    go_wp2_with fail
                    go_ret
                    exact ⟨ret_bool HV.out.symm, HLB.out.trans (hu6.mono HLB.out.size)⟩
                clear p0 p1 p2 pv
                have L0 := fun q : Later w5 => (HBOX.out q.1 (hu5.trans (q.2.mono hu5.size))).1
                have LT := fun q : Later w5 => HTAK.out q.1 (hu5.trans (q.2.mono hu5.size))
                by_cases hr0 : 0 < r
                · have hr0d : decide ((0 : Int) < (r : Int)) = true := by simp; omega
                  have hr0n : decide (0 < r) = true := by simp; omega
                  rw [hr0n] at HTS HTN
                  simp only [Bool.not_true, Bool.false_or] at HTS HTN
                  by_cases hv0 : v < 0
                  · have hv0d : decide (v < 0) = true := by simpa using hv0
                    have HV := Lib.hid (HTN.out (by rw [show decide (0 ≤ v) = false by simp; omega]; rfl))
                    clear HTN HTS
                    refine region_later (by kernel_rfl) (by kernel_rfl) ?_
                    repeat (go_big_quiet_step (fail))
                    refine wpQuiet_nil ?_
                    rintro _ ⟨u6, rfl⟩
                    go_wp2_with fail
                    go_meet
                    exact ⟨true, _, rfl, rfl, hu5.trans (u6.2.mono hu5.size), fun _ => HV.out, fun h => by cases h⟩
                  · have hv0d : decide (v < 0) = false := by simp; omega
                    obtain ⟨V, rfl⟩ := Int.eq_ofNat_of_zero_le (show 0 ≤ v by omega)
                    obtain ⟨h, hh⟩ : ∃ h, heldI L (T : Int) (V : Int) = h := ⟨_, rfl⟩
                    rw [hh] at HTS HTN
                    have LH : ∀ q : Later w5, q.1.cell? ⟨tg, T * 3 + V, none⟩ = some (.int .i64 h) := fun q => by rw [← hh]; exact (HI.out.lat (hu5.trans (q.2.mono hu5.size))).tbl.cell (by omega) (by omega)
                    have hV3 : (V : Int) < 3 := by omega
                    have hV0 : (0 : Int) ≤ (V : Int) := by omega
                    have hT4 : (T : Int) < 4 := by omega
                    have hT0 : (0 : Int) ≤ (T : Int) := by omega
                    clear hh
                    by_cases h1 : h = 1
                    · subst h1
                      have HG := Lib.hid (HTS.out (by simp))
                      clear HTN HTS
                      refine region_later (by kernel_rfl) (by kernel_rfl) ?_
                      repeat (go_big_quiet_step (fail))
                      refine wpQuiet_nil ?_
                      rintro _ ⟨u6, rfl⟩
                      go_wp2_with fail
                      go_meet
                      exact ⟨false, _, rfl, rfl, hu5.trans (u6.2.mono hu5.size), fun h => (by cases h), fun _ => HG.out⟩
                    · have h1d : (h != 1) = true := by simpa using h1
                      have HV := Lib.hid (HTN.out (by simp [h1]))
                      clear HTN HTS
                      refine region_later (by kernel_rfl) (by kernel_rfl) ?_
                      repeat (go_big_quiet_step (fail))
                      refine wpQuiet_nil ?_
                      rintro _ ⟨u6, rfl⟩
                      go_wp2_with fail
                      go_meet
                      exact ⟨true, _, rfl, rfl, hu5.trans (u6.2.mono hu5.size), fun _ => HV.out, fun h => by cases h⟩
                · have hr0d : decide ((0 : Int) < (r : Int)) = false := by simp; omega
                  have hr0n : decide (0 < r) = false := by simp; omega
                  rw [hr0n] at HTS HTN
                  have HG := Lib.hid (HTS.out rfl)
                  clear HTN HTS
                  refine region_later (by kernel_rfl) (by kernel_rfl) ?_
                  repeat (go_big_quiet_step (fail))
                  refine wpQuiet_nil ?_
                  rintro _ ⟨u6, rfl⟩
                  go_wp2_with fail
                  go_meet
                  exact ⟨false, _, rfl, rfl, hu5.trans (u6.2.mono hu5.size), fun h => (by cases h), fun _ => HG.out⟩
              · have HV := Lib.hid (HTN.out rfl)
                clear HTN HTS
                go_wp2_with fail
                go_ret
                exact ⟨ret_bool HV.out.symm, HLB.out.trans (hu5.mono HLB.out.size)⟩
            · have k1d : (kd == 1) = false := by simpa using k1
              have HG := Lib.hid (HTS.out (by unfold treeAt; rw [if_neg k0, if_neg k1]))
              have hca := take_any tg L ⟨(T : Int), kd, (X : Int)⟩ W HI.out.tbl HOKS.out
              unfold OpV.val at hca
              simp only at hca
              have HTK := Lib.hid hca
              have hsame : ∀ i, i < 4 → ownItems (L ++ [⟨(T : Int), kd, (X : Int)⟩]) i = ownItems L i := fun i hi => by rw [ownItems_snoc, if_neg (by simp [k1]), List.append_nil]
              have HSM := Lib.hid hsame
              clear HTS HTN hca hsame
              go_wp2_with (go_at_call 83; go_loud (rw [← HW.out]; refine HTK.out.mono ?_; rintro e wt ⟨rfl, hTt, hgt⟩; have HT9 := Lib.hid (And.intro hTt hgt); clear hTt hgt))
              go_roundw
              case rel => exact ⟨k + 1, vs, by omega, by go_num, by rw [HSN.out]; exact HI.out.take htg0 HT9.out.1 HT9.out.2 HSM.out, HG.out⟩
              case measure => simp [intOf]; omega
        · have hkd : decide ((k : Int) < (n : Int)) = false := by simp; omega
          have HV := Lib.hid (treeB_yes htr (by have := HL.out; omega))
          clear htr hI
          go_wp2_with fail
          go_ret
          exact ⟨ret_bool HV.out.symm, hb⟩

end Go.Proofs.Ytcakjhappchlmaa
