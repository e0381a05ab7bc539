/-
  PointsOf of the program: the steps from the end, and what has been gathered turned round.
-/
import Derived.Test.YtcakjhappchlmaaQWLkR3
import Derived.Test.YtcakjhappchlmaaQWLkT0
import Derived.Test.YtcakjhappchlmaaQWLkV0
import Derived.Test.YtcakjhappchlmaaPkLkB
import Derived.Test.YtcakjhappchlmaaPkLkA
import Derived.Test.YtcakjhappchlmaaPkLkB2
import Derived.Maps.AppendAt
namespace Go.Proofs.Ytcakjhappchlmaa
open Go.RowKit Go.BigFrame Go.Shelf
set_option linter.unusedVariables false

attribute [local go_sem] Oper.semAt_some

/-- One step from the end. -/
def bkF (out : List Int) (o : OpV) : List Int := if ((o.kind == 0 || o.kind == 1) && !(out.any fun y => y == o.tx)) = true then out ++ [o.tx] else out
def bkL (pre : List (Nat × OpV)) : List Int := pre.foldl (fun out x => bkF out x.2) []
theorem bkL_snoc (pre : List (Nat × OpV)) (x : Nat × OpV) : bkL (pre ++ [x]) = bkF (bkL pre) x.2 := by simp [bkL]
theorem bkF_len (out : List Int) (o : OpV) : (bkF out o).length ≤ out.length + 1 := by unfold bkF; split <;> simp
theorem bkL_len (pre : List (Nat × OpV)) : (bkL pre).length ≤ pre.length := by
  have : ∀ (l : List (Nat × OpV)) (a : List Int), (l.foldl (fun out x => bkF out x.2) a).length ≤ a.length + l.length := by
    intro l
    induction l with
    | nil => intro a; exact Nat.le_refl _
    | cons x r ih =>
      intro a
      rw [List.foldl_cons]
      have h1 := ih (bkF a x.2)
      have h2 := bkF_len a x.2
      simp only [List.length_cons]
      omega
  have := this pre []
  simpa [bkL] using this
theorem bkL_bkTo {st : List OpV} (hv : ∀ o ∈ st, okStep o = true) (k : Nat) (hk : k ≤ st.length) : bkL (bkU st k) = bkTo st k := by
  induction k with
  | zero => rfl
  | succ k ih =>
    have e : st[st.length - 1 - k]? = some (st.getD (st.length - 1 - k) OpV.zero) := by rw [List.getD_eq_getElem?_getD, List.getElem?_eq_getElem (by omega)]; rfl
    have hok := okStep_iff.1 (hv _ (List.mem_of_getElem? e))
    rw [bkU_succ, bkL_snoc, ih (by omega), bkTo_succ e]
    simp only
    generalize st.getD (st.length - 1 - k) OpV.zero = o at *
    unfold bkF
    have : (o.kind == 0 || o.kind == 1) = decide (o.kind ≤ 1) := by rw [Bool.eq_iff_iff, Bool.or_eq_true, beq_iff_eq, beq_iff_eq, decide_eq_true_eq]; omega
    rw [this]

theorem keepsO {W W' : World} (h : Below W.heap.size W W') : KeepsOthers W W' := ⟨h.size, fun k o hk _ => (h.block k (Array.getElem?_eq_some_iff.1 hk).1).trans hk⟩
/-- A box of three integers. -/
def Box3 (W : World) (B : Nat) (o : OpV) : Prop := W.heap[B]? = some (.cells #[.int .i64 o.tx, .int .i64 o.kind, .int .i64 o.item] 31 (0, 0))
theorem Box3.cells {W : World} {B : Nat} {o : OpV} (h : Box3 W B o) : ∀ u, Below W.heap.size W u → u.cell? ⟨B, 0, none⟩ = some (.int .i64 o.tx) ∧ u.cell? ⟨B, 1, none⟩ = some (.int .i64 o.kind) ∧ u.cell? ⟨B, 2, none⟩ = some (.int .i64 o.item) := fun u hu => by
  have hb : u.heap[B]? = some (.cells #[.int .i64 o.tx, .int .i64 o.kind, .int .i64 o.item] 31 (0, 0)) := (hu.block B (lt_of_block h)).trans h
  exact ⟨by rw [cell_of_row _ _ _ _ _ _ hb]; rfl, by rw [cell_of_row _ _ _ _ _ _ hb]; rfl, by rw [cell_of_row _ _ _ _ _ _ hb]; rfl⟩
theorem box3_own (B : Nat) (o : OpV) : Own (fun (_ : Unit) W => Box3 W B o) := fun s X Y row hs hg hrow => by
  refine (hg.block B (lt_of_block hs) fun e => ?_).trans hs
  obtain ⟨q, hq, hc⟩ := hrow B e.symm
  rw [show X.heap[B]? = _ from hs] at hq
  cases hq; cases hc

/-- Between two rounds. -/
def PtI (w : World) (B Bs : Nat) (A : Option Addr) (n c : Nat) (pre : List (Nat × OpV)) (W : World) : Prop :=
  ((∃ v, Go.Boxed W B 34 v ∧ W.ownsRow w.heap.size 3 1 v (bkL pre).length (intCells (bkL pre)) ∧ True) ∧ Go.Boxed W Bs 23 (.slice A n c)) ∧ Below w.heap.size w W
theorem ptI_own {w : World} {B Bs : Nat} {A : Option Addr} {n c : Nat} {B0 : Nat} (h : w.heap.size ≤ B0) : OwnFrom B0 (PtI w B Bs A n c) :=
  OwnFrom.and (OwnFrom.and (Own.from (holdsRow_own w.heap.size B 34 3 1 (fun pre => (bkL pre).length) (fun pre => intCells (bkL pre)) (fun _ _ => True)) _) (Own.from (boxed_own Bs 23 (fun _ => Value.slice A n c)) _)) (ownFrom_below (Nat.le_refl _) h)
theorem PtI.below {w W W' : World} {B Bs : Nat} {A : Option Addr} {n c : Nat} {pre pre' : List (Nat × OpV)} (h : PtI w B Bs A n c pre W) (hb : Below W.heap.size W W') (he : bkL pre' = bkL pre) : PtI w B Bs A n c pre' W' := by
  obtain ⟨⟨⟨v, h1, h2, _⟩, h3⟩, h4⟩ := h
  refine ⟨⟨⟨v, (hb.block B h1.lt).trans h1, by rw [he]; exact own_below h2 hb, trivial⟩, (hb.block Bs h3.lt).trans h3⟩, h4.trans (hb.mono h4.size)⟩
theorem PtI.keep {w W W' : World} {B Bs : Nat} {A : Option Addr} {n c : Nat} {pre : List (Nat × OpV)} (h : PtI w B Bs A n c pre W) (hb : Below W.heap.size W W') : BkKeep w.heap.size Bs W W' := ⟨hb.mono h.2.size, hb.block Bs h.1.2.lt⟩
theorem ints_step_ne : (23 : TypeId) ≠ 3 ∧ (34 : TypeId) ≠ 3 := by decide
/-- One more is gathered. -/
theorem PtI.push {w W W2 w1 : World} {B Bs : Nat} {A : Option Addr} {n c : Nat} {pre pre' : List (Nat × OpV)} {v v' : Value} {t : Int} {tmp : Obj} (h : PtI w B Bs A n c pre W) (hBs : B ≠ Bs) (hB0 : w.heap.size ≤ B) (hb : Below W.heap.size W W2) (hv : Go.Boxed W B 34 v) (hrow : W.ownsRow w.heap.size 3 1 v (bkL pre).length (intCells (bkL pre)))
    (he : bkL pre' = bkL pre ++ [t]) (hown : w1.ownsRow w.heap.size 3 1 v' ((bkL pre).length + 1) (intCells (bkL pre) ++ [.int .i64 t])) (hg : (W2.alloc tmp).grownBy w1 v.ownBlock) :
    Go.Boxed w1 B 34 v ∧ KeepsOthers W (w1.setCell ⟨B, 0, none⟩ v') ∧ BkKeep w.heap.size Bs W (w1.setCell ⟨B, 0, none⟩ v') ∧ PtI w B Bs A n c pre' (w1.setCell ⟨B, 0, none⟩ v') := by
  obtain ⟨⟨_, h3⟩, h4⟩ := h
  have hv2 : Go.Boxed W2 B 34 v := (hb.block B hv.lt).trans hv
  have hr2 := own_below hrow hb
  have h32 : Go.Boxed W2 Bs 23 (.slice A n c) := (hb.block Bs h3.lt).trans h3
  have hs2 : w.heap.size ≤ W2.heap.size := Nat.le_trans h4.size hb.size
  obtain ⟨a1, a2, a3, a4, a5⟩ := hv2.appended ints_step_ne.2 hr2 hs2 hB0 hown hg
  have h33 : Go.Boxed w1 Bs 23 (.slice A n c) := (h32.alloc tmp).kept hg (h32.not_row ints_step_ne.1 hr2)
  have h34 : Go.Boxed (w1.setCell ⟨B, 0, none⟩ v') Bs 23 (.slice A n c) := h33.other (Ne.symm hBs) v'
  have hbf : Below w.heap.size W (w1.setCell ⟨B, 0, none⟩ v') := (hb.mono h4.size).trans a5
  refine ⟨a1, (keepsO hb).trans a4, ⟨hbf, h34.trans h3.symm⟩, ⟨⟨v', a2, ?_, trivial⟩, h34⟩, h4.trans hbf⟩
  rw [he, List.length_append, List.length_singleton]
  simpa [intCells] using a3

set_option maxHeartbeats 400000 in
theorem Reverse_nil (A : Option Addr) (c : Nat) (w : World) : Calls Try.prog 88 #[.slice A 0 c] w fun e w' => e = .returned (.tuple #[]) ∧ w = w' := by
  go_enter Try.func88, Try.ntmps88
  go_wp2_with fail
  go_loop [2, 3] (fun i j => i = .int .i64 0 ∧ j = .int .i64 (-1)) (fun _ _ => 0)
  case atStart => exact ⟨rfl, rfl⟩
  case round =>
    obtain ⟨rfl, rfl⟩ := hrel
    go_wp2_with fail
    go_end0
    exact ⟨rfl, rfl⟩
/-- What an own row of integers looks like to Reverse. -/
theorem own_row {W : World} {base n c : Nat} {A : Option Addr} {xs : List Int} (h : W.ownsRow base 3 1 (.slice A n c) n (intCells xs)) : (A = none ∧ n = 0) ∨ ∃ g more, A = some ⟨g, 0, none⟩ ∧ base ≤ g ∧ RowIs W g 3 (intCells xs ++ more) := by
  rcases h.2 with ⟨e, e2⟩ | ⟨g, cap, cur, e, h2, h3, h4, h5, h6, h7⟩
  · injection e with e1 _ _
    exact .inl ⟨e1, by omega⟩
  · injection e with e1 e2 e3
    refine .inr ⟨g, cur.toList.drop (n * 1), e1, h2, ?_⟩
    unfold RowIs
    rw [h3]
    congr 2
    apply Array.ext'
    simp only
    rw [← h7, List.take_append_drop]
/-- The end of PointsOf. -/
theorem points_end {w W W' : World} {g r c D : Nat} {xs : List Int} {more : List Value} (hB : Below w.heap.size w W) (hg0 : w.heap.size ≤ g) (hr : RowIs W' g 3 (intCells xs ++ more)) (hl : xs.length = r) (hr9 : r ≤ 1099511627776) (hg : W.grownBy W' (some g)) (hD : w.heap.size ≤ D) (hK : W'.heap[D]? = some (.deferred (some []))) :
    RetInts w xs (.returned (.slice (some ⟨g, 0, none⟩) r r)) (W'.putObj D (.deferred none)) := by
  have hf : FreshInts w W' (some ⟨g, 0, none⟩) r xs := by
    refine ⟨hr.ints hl hr9, fun ad e => ?_⟩
    injection e with e
    subst e
    exact ⟨g, _, rfl, hg0, hr, by simp [intCells]; omega⟩
  have hb : Below w.heap.size w W' := hB.grown hg hB.size (fun k e => by injection e with e; omega)
  refine RetInts.mk hl (Nat.le_refl _) (hf.grownT (grownBy_putObj' W' D _) ?_) (hb.trans (belowK_b (w := w) (Nat.le_refl _) W' D _ _ hD hK rfl rfl))
  intro g' e cur hc
  injection e with e
  subst e
  rw [hK] at hc
  cases hc

theorem bkKeep_book {w : World} {n0 Bs : Nat} (h0 : n0 ≤ w.heap.size) (h1 : Bs < w.heap.size) : ∀ (W : World) (l : Nat) (o o' : Obj), w.heap.size ≤ l → W.heap[l]? = some o → o.isCells = false → o.isWalk = false → BkKeep n0 Bs W (W.putObj l o') :=
  fun W l o o' hl hW hc hw => ⟨belowK_b (w := w) h0 W l o o' hl hW hc hw, World.putObj_heap_other (by omega)⟩
/-- Where the loop begins. -/
theorem points_start {w w1 wL : World} {A : Option Addr} {n c : Nat} {cs : Array Value} (hb1 : Below w.heap.size w w1) (hcs : cs.size = 4) (h : ((w1.alloc (.cells cs 3)).alloc (.cells #[.slice (some ⟨w1.heap.size, 0, none⟩) 0 4] 34)).alloc (.cells #[.slice A n c] 23) = wL) :
    wL.heap.size = w1.heap.size + 3 ∧ PtI w (w1.heap.size + 1) (w1.heap.size + 2) A n c [] wL := by
  obtain ⟨w2, h2⟩ : ∃ w2, w1.alloc (.cells cs 3) = w2 := ⟨_, rfl⟩
  rw [h2] at h
  obtain ⟨w3, h3⟩ : ∃ w3, w2.alloc (.cells #[.slice (some ⟨w1.heap.size, 0, none⟩) 0 4] 34) = w3 := ⟨_, rfl⟩
  rw [h3] at h
  have s0 := hb1.size
  have s2 : w2.heap.size = w1.heap.size + 1 := by rw [← h2]; simp
  have s3 : w3.heap.size = w1.heap.size + 2 := by rw [← h3]; simp; omega
  have s4 : wL.heap.size = w1.heap.size + 3 := by rw [← h]; simp; omega
  have b4 : Below w3.heap.size w3 wL := by rw [← h]; exact (Below.refl _ _).alloc (Nat.le_refl _) _
  have b3 : Below w2.heap.size w2 wL := by
    refine Below.trans ?_ (b4.mono (by omega))
    rw [← h3]; exact (Below.refl _ _).alloc (Nat.le_refl _) _
  have b2 : Below w1.heap.size w1 wL := by
    refine Below.trans ?_ (b3.mono (by omega))
    rw [← h2]; exact (Below.refl _ _).alloc (Nat.le_refl _) _
  have k2 : w2.ownsRow w.heap.size 3 1 (.slice (some ⟨w1.heap.size, 0, none⟩) 0 4) 0 (intCells []) := by
    have := World.ownsRow_made (base := w.heap.size) (e := 3) (size := 1) w1 cs 4 (by omega) (by unfold maxLen; omega) (by omega)
    rw [h2] at this
    exact this
  have k3 : Go.Boxed w3 (w1.heap.size + 1) 34 (.slice (some ⟨w1.heap.size, 0, none⟩) 0 4) := by
    have := heap_alloc_new w2 (.cells #[.slice (some ⟨w1.heap.size, 0, none⟩) 0 4] 34)
    rw [h3, s2] at this; exact this
  have k4 : Go.Boxed wL (w1.heap.size + 2) 23 (.slice A n c) := by
    have := heap_alloc_new w3 (.cells #[.slice A n c] 23)
    rw [h, s3] at this; exact this
  exact ⟨s4, ⟨⟨_, (b4.block _ (by omega)).trans k3, own_below k2 b3, trivial⟩, k4⟩, hb1.trans (b2.mono s0)⟩

set_option maxRecDepth 100000 in
set_option maxHeartbeats 4000000 in
theorem PointsOf_any (A : Option Addr) (n c : Nat) (st : List OpV) (w : World) (hx : ROps w A n st) :
    Calls Try.prog 25 #[.slice A n c] w (RetInts w (orNil (validL st) (ptI st))) := by
  have hn := hx.2.1
  have hl := hx.1
  have hva := ValidSteps_any A n c st w hx
  obtain ⟨bv, hbv⟩ : ∃ b, validL st = b := ⟨_, rfl⟩
  rw [hbv] at hva ⊢
  have HVA := Lib.hid hva
  have HBV := Lib.hid hbv
  have HX := Lib.hid hx
  have HL := Lib.hid hl
  clear hx hl hva hbv
  cases bv
  · have HR : Hid (∀ w', Below w.heap.size w w' → RetInts w (orNil false (ptI st)) (.returned (.slice none 0 0)) w') := fun w' hb => RetInts.nil hb
    go_enter Try.func25, Try.ntmps25
    go_wp2_with (go_at_call 16; refine HVA.out.mono ?_; rintro e w1 ⟨rfl, hb1⟩)
    go_ret
    exact HR.out _ hb1
  · have HOK : Hid (∀ s ∈ st, okStep s = true) := (validL_iff.1 HBV.out).2
    refine (callsIn_wide (n := 9)).1 ?_
    refine callsIn_of_wp_marks Try.func25 rfl trivial ?_ rfl
    simp only [Try.ntmps25, List.size_toArray, List.length_cons, List.length_nil, Nat.reduceAdd, Nat.reduceSub, Array.replicate_succ, Array.replicate_zero, List.push_toArray, List.append_toArray, List.nil_append, List.cons_append]
    gi_wp2_with (first
      | (refine ⟨trivial, ?_⟩; gi_at_call 16; refine (callsIn_wide.2 HVA.out).mono ?_; rintro e w1 ⟨rfl, hb1⟩; obtain ⟨cs, hcs, hmk⟩ := run_mkInts 4 (by omega) w1; have hmk2 : (Instr.makeSlice 34 (.int .i64 0) (.int .i64 4)).run Try.prog w1 = .ok (.slice (some ⟨w1.heap.size, 0, none⟩) 0 4) (w1.alloc (.cells cs 3)) := hmk; clear hmk)
      | (refine ⟨trivial, ?_⟩; gi_at_call 85; refine (callsIn_wide.2 (Backward_any A n c _)).mono ?_; rintro e w' ⟨rfl, rfl⟩))
    obtain ⟨wL, hwL⟩ : ∃ wL : World, ((w1.alloc (.cells cs 3)).alloc (.cells #[.slice (some ⟨w1.heap.size, 0, none⟩) 0 4] 34)).alloc (.cells #[.slice A n c] 23) = wL := ⟨_, rfl⟩
    have hfacts := points_start hb1 hcs hwL
    try rw [hwL]
    clear hwL hmk2
    obtain ⟨hsL, hI0⟩ := hfacts
    have hs1 := hb1.size
    have hbL := hI0.2
    refine wpIn_rangeFunc_ownH (F := Fence.wide) (n := 9) rfl (by omega) (gf := 124) (lb := #[.pointer (some ⟨w1.heap.size + 2, 0, none⟩)]) rfl trivial (enters_of Try.func124 (by kernel_rfl) rfl)
      (back_stops Fence.wide (9 - 1) trivial rfl (by omega) (w1.heap.size + 2) w.heap.size n c A st wL (by omega) hI0.1.2 (HX.out.at0.below hbL)) BkKeep.trans (bkKeep_book (by omega) (by omega)) (Below.refl _ _) (fun _ => rfl)
      (PtI w (w1.heap.size + 1) (w1.heap.size + 2) A n c) (fun _ _ _ => False) (ptI_own (by omega)) (fun _ _ _ _ _ hs _ _ => hs) hI0
      (fun x a' W => ∃ Bx, w1.heap.size + 3 ≤ Bx ∧ Box3 W Bx x.2 ∧ a' = { tmps := #[.slice A n c, undef, .slice none 0 0, .pointer (some ⟨w1.heap.size + 1, 0, none⟩), undef, .pointer (some ⟨Bx, 0, none⟩), .slice A n c, .bool true, .bool false, .slice (some ⟨w1.heap.size, 0, none⟩) 0 4, .slice A n c, .func (.func 124) #[] #[.pointer (some ⟨w1.heap.size + 1 + 1, 0, none⟩)], .int .i64 (x.1 : Int), .agg #[.int .i64 x.2.tx, .int .i64 x.2.kind, .int .i64 x.2.item], undef, undef, undef, undef, undef, undef, undef, undef, undef, undef, undef, undef, undef, undef, undef, undef, undef, undef], defers := [] })
      (fun x a' _ X Y row hs hg hr => by obtain ⟨Bx, h1, h2, h3⟩ := hs; exact ⟨Bx, h1, box3_own Bx x.2 () X Y row h2 hg (fun r e => (hr r e).2), h3⟩)
      ?assign ?body ?done ?stop
    case assign =>
      rintro l pre ⟨idx, tx, kd, it⟩ W K hI hK
      have hBs := hI.1.2.lt
      gi_wp2
      refine hK _ _ ((KeepsOthers.alloc _ _).from _) ?_ ?_ ⟨W.heap.size, by omega, heap_alloc_new W _, rfl⟩
      · exact hI.keep ((Below.refl _ _).alloc (Nat.le_refl _) _)
      · exact hI.below ((Below.refl _ _).alloc (Nat.le_refl _) _) rfl
    case body =>
      rintro l pre ⟨idx, tx, kd, it⟩ a' W hl ⟨r, hr⟩ hI ⟨Bx, hBx, hX, rfl⟩ hlt
      have hI2 := hI
      obtain ⟨⟨⟨v, hv, hrow, _⟩, hS⟩, hB⟩ := hI2
      have hq := bkL_len pre
      have hbn := bkL_snoc pre (idx, ⟨tx, kd, it⟩)
      obtain ⟨bt, hbt⟩ : ∃ b, (kd == 0 || kd == 1) = b := ⟨_, rfl⟩
      obtain ⟨bc, hbc⟩ : ∃ b, ((bkL pre).any fun y => y == tx) = b := ⟨_, rfl⟩
      have hbf : bkF (bkL pre) ⟨tx, kd, it⟩ = if (bt && !bc) = true then bkL pre ++ [tx] else bkL pre := by unfold bkF; simp only [hbt, hbc]
      rw [hbf] at hbn
      obtain ⟨q, hqq⟩ : ∃ q, (bkL pre).length = q := ⟨_, rfl⟩
      have hrow2 := hrow
      rw [hqq] at hrow2 hq
      obtain ⟨RA, rc, hve, hrc⟩ := own_form2 hrow2
      subst hve
      have htk := takes_any ⟨tx, kd, it⟩ W
      unfold OpV.val at htk
      simp only [hbt] at htk
      have HTK := Lib.hid htk
      have HX3 := Lib.hid hX.cells
      have HBN := Lib.hid hbn
      have HV := Lib.hid hv
      have HRW := Lib.hid hrow
      have HRW2 := Lib.hid hrow2
      have HI := Lib.hid hI
      have HQ := Lib.hid hqq
      have hBl := hv.lt
      have HBC := Lib.hid hbc
      have hnW := hB.size
      obtain ⟨p0, p1, p2⟩ := hX.cells W (Below.refl _ _)
      clear hbf hbt hbc htk hbn hrow hrow2 hv hS hB hI hqq hX hr
      cases bt
      · gi_wp2_with (refine ⟨trivial, ?_⟩; gi_at_call 86; go_loud (refine (CallsIn.inRound l (callsIn_wide.2 HTK.out)).mono ?_; rintro e w2 ⟨rfl, hb2⟩))
        refine ⟨trivial, ?_⟩
        gi_wp2
        exact ⟨(keepsO hb2).from _, HI.out.keep hb2, HI.out.below hb2 (by rw [HBN.out]; rfl)⟩
      · have HCT : Hid (∀ w2, Below W.heap.size W w2 → Calls Try.prog 87 #[.slice RA q rc, .int .i64 tx] w2 fun e w' => e = .returned (.bool bc) ∧ Below w2.heap.size w2 w') := fun w2 hb2 => by
          have := ContainsS_any RA q rc (bkL pre) tx w2 (RInts.of_own (own_below HRW2.out hb2) (by omega))
          rw [HBC.out] at this
          exact this
        cases bc
        · obtain ⟨i0, hi, hz0, hz1, hz2⟩ := info_parts intInfo
          gi_wp2_with (first
            | (refine ⟨trivial, ?_⟩; gi_at_call 86; refine (CallsIn.inRound l (callsIn_wide.2 HTK.out)).mono ?_; rintro e w2 ⟨rfl, hb2⟩; have q0 := (hb2.cell (p := ⟨w1.heap.size + 1, 0, none⟩) hBl).trans HV.out.cell; obtain ⟨s0, s1, s2⟩ := HX3.out w2 hb2)
            | (refine ⟨trivial, ?_⟩; gi_at_call 87; refine (CallsIn.inRound l (callsIn_wide.2 (HCT.out w2 hb2))).mono ?_; rintro e w3 ⟨rfl, hb3'⟩; have hb3 := hb2.trans (hb3'.mono hb2.size); have r0 := (hb3.cell (p := ⟨w1.heap.size + 1, 0, none⟩) hBl).trans HV.out.cell; obtain ⟨t0, t1, t2⟩ := HX3.out w3 hb3; have hs3 := hb3.size)
            | (gi_at_builtin; refine wpListIn_append_own _ rfl _ _ 34 rfl w.heap.size 3 i0 (.int .i64 0) 1 8 Try.underlying34 hi hz0 hz1 hz2 rfl (by decide) _ _ _ rfl ((own_below HRW2.out hb3).alloc _) ⟨w3.heap.size, 0, none⟩ 1 1 [.int .i64 tx] rfl rfl (cell_one_new _ _ _) (by simp [Value.oneCell']) (by unfold maxLen; omega) (by omega) (by simp; omega) ?_; intro v' w4 hown' hgrow _; have hpu := PtI.push (pre' := pre ++ [(idx, ⟨tx, kd, it⟩)]) (t := tx) HI.out (by omega) (by omega) hb3 HV.out HRW.out (by rw [HBN.out]; rfl) (by rw [HQ.out]; exact hown') hgrow; obtain ⟨g', cap', rfl⟩ := ownsRow_succ hown'; have u0 := hpu.1.cell; have f0 := hpu.1.frozen; have HPU := Lib.hid hpu.2; clear hpu hown' hgrow))
          exact ⟨HPU.out.1.from _, HPU.out.2.1, HPU.out.2.2⟩
        · gi_wp2_with (first
            | (refine ⟨trivial, ?_⟩; gi_at_call 86; refine (CallsIn.inRound l (callsIn_wide.2 HTK.out)).mono ?_; rintro e w2 ⟨rfl, hb2⟩; have q0 := (hb2.cell (p := ⟨w1.heap.size + 1, 0, none⟩) hBl).trans HV.out.cell; obtain ⟨s0, s1, s2⟩ := HX3.out w2 hb2)
            | (refine ⟨trivial, ?_⟩; gi_at_call 87; refine (CallsIn.inRound l (callsIn_wide.2 (HCT.out w2 hb2))).mono ?_; rintro e w3 ⟨rfl, hb3'⟩; have hb3 := hb2.trans (hb3'.mono hb2.size)))
          exact ⟨(keepsO hb3).from _, HI.out.keep hb3, HI.out.below hb3 (by rw [HBN.out]; rfl)⟩
    case done =>
      rintro D ys W hD rfl hI hK
      obtain ⟨⟨⟨v, hv, hrow, _⟩, hS⟩, hB⟩ := hI
      have hxs : (bkL (bkU st n)).reverse = ptI st := by rw [bkL_bkTo HOK.out n (by rw [HL.out]; exact Nat.le_refl _), ← HL.out]; exact points_eq st
      have hlr := bkL_len (bkU st n)
      rw [bkU_len] at hlr
      generalize bkL (bkU st n) = xs at *
      obtain ⟨r, hrr⟩ : ∃ r, xs.length = r := ⟨_, rfl⟩
      rw [hrr] at hrow hlr
      obtain ⟨RA, rc, rfl, hrc⟩ := own_form2 hrow
      have c0 := hv.cell
      have hD0 : w.heap.size ≤ D := by omega
      have HXS := Lib.hid hxs
      have HRR := Lib.hid hrr
      have hBl := hv.lt
      rcases own_row hrow with ⟨rfl, rfl⟩ | ⟨g, more, rfl, hg0, hri⟩
      · have hx0 : xs = [] := List.eq_nil_of_length_eq_zero hrr
        have HP : Hid (RetInts w (orNil true (ptI st)) (.returned (.slice none 0 0)) (W.putObj D (.deferred none))) := by
          rw [← hxs, hx0]
          exact RetInts.nil (hB.trans (belowK_b (w := w) (Nat.le_refl _) W D _ _ hD0 hK rfl rfl))
        have HK := Lib.hid hK
        clear hxs hx0 hrr hrow hv hS hK
        gi_wp2_with (first
          | (refine ⟨trivial, ?_⟩; gi_at_call 88; refine (callsIn_wide.2 (Reverse_nil none rc W)).mono ?_; rintro e w' ⟨rfl, rfl⟩)
          | (refine ⟨trivial, ?_⟩; gi_at_call 89; refine (callsIn_wide.2 (ClipInts_any none 0 rc _ (by omega) (by omega))).mono ?_; rintro e w' ⟨rfl, rfl⟩))
        refine ⟨by simp, .inl ⟨_, _, rfl, run_takeDeferred HK.out, ?_⟩⟩
        exact ⟨_, results_tmp rfl _ _ _, by exact HP.out⟩
      · have hrv := Reverse_any g r rc xs more W hri hrr (by omega) hrc
        have hDl := lt_of_block hK
        have hDg : D ≠ g := fun e => by subst e; unfold RowIs at hri; rw [hK] at hri; cases hri
        have hBg : w1.heap.size + 1 ≠ g := fun e => by
          have h1 : W.heap[w1.heap.size + 1]? = some (.cells #[.slice (some ⟨g, 0, none⟩) r rc] 34 (0, 0)) := hv
          unfold RowIs at hri
          rw [e, hri] at h1
          injection h1 with h1
          injection h1 with _ h1
          exact ints_step_ne.2 h1.symm
        have HRV := Lib.hid hrv
        have HP : Hid (∀ w', RowIs w' g 3 (intCells xs.reverse ++ more) → W.grownBy w' (some g) → RetInts w (orNil true (ptI st)) (.returned (.slice (some ⟨g, 0, none⟩) r r)) (w'.putObj D (.deferred none)) ∧ w'.heap[D]? = some (.deferred (some [])) ∧ w'.cell? ⟨w1.heap.size + 1, 0, none⟩ = some (.slice (some ⟨g, 0, none⟩) r rc)) := fun w' h1 h2 => by
          have hk' : w'.heap[D]? = some (.deferred (some [])) := (h2.block D hDl (fun e => hDg (by injection e))).trans hK
          refine ⟨?_, hk', ?_⟩
          · rw [show orNil true (ptI st) = ptI st from rfl, ← hxs]
            exact points_end (c := rc) hB hg0 h1 (by rw [List.length_reverse]; exact hrr) (by omega) h2 hD0 hk'
          · rw [World.cell?_of_block (w := W) (a := ⟨w1.heap.size + 1, 0, none⟩) (h2.block _ hBl (fun e => hBg (by injection e)))]; exact c0
        clear hrv hri hxs hrr hrow hv hS hK
        gi_wp2_with (first
          | (refine ⟨trivial, ?_⟩; gi_at_call 88; refine (callsIn_wide.2 HRV.out).mono ?_; rintro e w' ⟨rfl, hr', hg'⟩; have hfin := HP.out w' hr' hg'; have d0 := hfin.2.2; have HF := Lib.hid hfin; clear hfin hr' hg')
          | (refine ⟨trivial, ?_⟩; gi_at_call 89; refine (callsIn_wide.2 (ClipInts_any (some ⟨g, 0, none⟩) r rc _ (by omega) hrc)).mono ?_; rintro e w'' ⟨rfl, rfl⟩))
        refine ⟨by simp, .inl ⟨_, _, rfl, run_takeDeferred HF.out.2.1, ?_⟩⟩
        exact ⟨_, results_tmp rfl _ _ _, by exact HF.out.1⟩
    case stop =>
      rintro D c' pre W _ _ h _
      exact h.elim
end Go.Proofs.Ytcakjhappchlmaa
