/-
  Texts that the proof rests on, joined: part 4.
-/
import Derived.Conc.RwLib
import Derived.KernelRfl
import Derived.Deep.MidRow
import Derived.Test.YtncebpmckbcabaaSSt1
import Derived.Test.YtncebpmckbcabaaSSt2
import Derived.Test.YtncebpmckbcabaaSSt3
namespace Go.Proofs.Ytncebpmckbcabaa
open Go.RowKit Go.BigFrame Go.Conc
set_option linter.unusedVariables false

def ChanAt (w : World) (c n : Nat) (vs : List Value) (cl : Bool) : Prop := ∃ s r, w.heap[c]? = some (.chan n vs.toArray cl s r false)
set_option maxRecDepth 100000 in
set_option maxHeartbeats 2000000 in
theorem stream_any (A : Option Addr) (n c : Nat) (s : List OpV) (w : World) (hx : ROps w A n s) (hn12 : n ≤ 12) :
    Calls Try.prog 80 #[.slice A n c] w fun e w' => e = .returned (.chan (some w.heap.size)) ∧ ChanAt w' w.heap.size n (s.map OpV.val) true ∧ Below w.heap.size w w' := by
  have hn := hx.2.1
  have hl := hx.1
  have HX := Lib.hid hx
  clear hx
  refine calls_of_nw Try.func80 rfl ?_
  simp only [Try.ntmps80, List.size_toArray, List.length_cons, List.length_nil, Nat.reduceAdd, Nat.reduceSub, Array.replicate_succ,
     Array.replicate_zero, List.push_toArray, List.append_toArray, List.nil_append, List.cons_append]
  refine NW.seq (NW.of_wp ?_)
  go_wp2_with fail
  have hmk : (Instr.makeChan 142 (.int .i64 (n : Int))).run Try.prog w = .ok (.chan (some w.heap.size)) (w.alloc (.chan n #[] false 0 0 false)) :=
by
    have hb0 : (Try.prog.info? 62).map (fun i => i.bytes) = some 24 := by kernel_rfl
    cases hi : Try.prog.info? 62 with
    | none => rw [hi] at hb0; cases hb0
    | some i =>
      rw [hi] at hb0
      have hbt : i.bytes = 24 := by injection hb0
      exact run_makeChan (dir := .both) (e := 62) (by kernel_rfl) hi .i64 n (by omega) (by rw [hbt]; omega)
  refine NW.seq (NW.of_wp ?_)
  go_wp2_with fail
  refine NW.seq ?_
  refine NW.seq (NW.of_wp ?_)
  go_wp2_with fail
  refine NW.block ?_
  obtain ⟨H, hH⟩ : ∃ H, w.heap.size = H := ⟨_, rfl⟩
  have hbH : Below H w (w.alloc (.chan n #[] false 0 0 false)) := by rw [← hH]; exact (Below.refl _ _).alloc (Nat.le_refl _) _
  have hc0 : ChanAt (w.alloc (.chan n #[] false 0 0 false)) H n ((s.take 0).map OpV.val) false := ⟨0, 0, by rw [← hH]; exact heap_alloc_new w _⟩
  have HX' : Hid (∀ W, Below H w W → ROps W A n s) := fun W hW => by rw [← hH] at hW; exact HX.out.below hW (Nat.le_refl _)
  rw [hH]
  generalize w.alloc (.chan n #[] false 0 0 false) = w1 at hbH hc0 ⊢
  refine NW.loop (fun m a W => ∃ (k : Nat) (x5 x12 x13 x14 x15 x16 x17 : Value), k ≤ n ∧ m = n - k ∧ Below H w W ∧ ChanAt W H n ((s.take k).map OpV.val) false ∧ a = ⟨#[.slice A n c, undef, .chan none, .chan (some H), undef, x5, .slice A n c, .int .i64 n, .chan (some H), .slice A n c, .int .i64 n, .int .i64 k, x12, x13, x14, x15, x16, x17, undef, undef], []⟩) n ⟨0, _, _, _, _, _, _, _, by omega, by omega, hbH, hc0, rfl⟩ ?_
  rintro m a W ⟨k, x5, x12, x13, x14, x15, x16, x17, hk, rfl, hb, ⟨sn, rn, hch⟩, rfl⟩
  by_cases hlt : k < n
  · have hki : (k : Int) < (n : Int) := by omega
    have hk0 : (0 : Int) ≤ (k : Int) := by omega
    obtain ⟨b, off, o, hA, hbl, ho, c0, c1, c2⟩ := (HX'.out W hb).at_ hlt
    subst hA
    refine NW.seq (NW.of_wp ?_)
    go_wp2_with fail
    refine NW.seq (NW.of_wp ?_)
    go_wp2_with fail
    refine NW.seq (NW.block (NW.seq (NW.of_wp ?_)))
    obtain ⟨tx, kd, it⟩ := o
    simp only at c0 c1 c2
    go_wp2_with fail
    obtain ⟨U, hU⟩ : ∃ U : World, U = W.alloc (.cells #[.int .i64 tx, .int .i64 kd, .int .i64 it] 62) := ⟨_, rfl⟩
    obtain ⟨L0, L1, L2, hbU, hUs⟩ := op_box hU
    have y0 := L0 ⟨U, Below.refl _ _⟩
    have y1 := L1 ⟨U, Below.refl _ _⟩
    have y2 := L2 ⟨U, Below.refl _ _⟩
    simp only at y0 y1 y2
    have hHW : H < W.heap.size := by
      rcases Nat.lt_or_ge H W.heap.size with h | h
      · exact h
      · rw [Array.getElem?_eq_none h] at hch; cases hch
    have hcU : U.heap[H]? = some (.chan n ((s.take k).map OpV.val).toArray false sn rn false) := by
      rw [hbU.block H hHW]; exact hch
    have hbHU := hb.trans (hbU.mono (Nat.le_of_lt hHW))
    rw [← hU]
    clear c0 c1 c2 hU L0 L1 L2
    refine OpsN.region ?_
    show OpsN _ _ [0, 1, 2] _ _ _
    refine OpsN.value (v := .chan (some H)) (w' := U) rfl rfl (by simp [go_sem, execOp, Act.eval]) ?_
    refine OpsN.value (v := .agg #[.int .i64 tx, .int .i64 kd, .int .i64 it]) (w' := U) rfl rfl (by go_simp) ?_
    show OpsN _ _ [2] _ ⟨#[.slice (some ⟨b, off, none⟩) n c, undef, .chan none, .chan (some H), undef, .pointer (some ⟨W.heap.size, 0, none⟩), .slice (some ⟨b, off, none⟩) n c, .int .i64 n, .chan (some H), .slice (some ⟨b, off, none⟩) n c, .int .i64 n, .int .i64 k, .bool true, .pointer (some ⟨b, off + k * 3, none⟩), .agg #[.int .i64 tx, .int .i64 kd, .int .i64 it], .chan (some H), .agg #[.int .i64 tx, .int .i64 kd, .int .i64 it], x17, undef, undef], []⟩ U
    have hlen : ((s.take k).map OpV.val).toArray.size < n := by
      rw [List.size_toArray, List.length_map, List.length_take]; omega
    refine OpsN.send (c := H) (v := .agg #[.int .i64 tx, .int .i64 kd, .int .i64 it]) (z := .tuple #[]) rfl rfl (by simp [execOp, scase, Act.eval]) hcU hlen ?_
    have hchN : ChanAt (U.setChan H n (((s.take k).map OpV.val).toArray.push (.agg #[.int .i64 tx, .int .i64 kd, .int .i64 it])) false (sn + 1) rn false) H n ((s.take (k + 1)).map OpV.val) false := by
      refine ⟨sn + 1, rn, ?_⟩
      rw [heap_setChan _ _ _ _ _ _ _ _ (Nat.lt_of_lt_of_le hHW hbU.size), take_snoc ho, List.map_append]
      simp [OpV.val]
    have hbN : Below H w (U.setChan H n (((s.take k).map OpV.val).toArray.push (.agg #[.int .i64 tx, .int .i64 kd, .int .i64 it])) false (sn + 1) rn false) := below_setChan hbHU (Nat.le_refl _) _ _ _ _ _ _
    generalize U.setChan H n (((s.take k).map OpV.val).toArray.push (.agg #[.int .i64 tx, .int .i64 kd, .int .i64 it])) false (sn + 1) rn false = V at hchN hbN ⊢
    refine OpsN.nil ?_
    show NW _ _ _ _ _
    refine NW.of_wp ?_
    show Code.wp _ _ _ ⟨#[.slice (some ⟨b, off, none⟩) n c, undef, .chan none, .chan (some H), undef, .pointer (some ⟨W.heap.size, 0, none⟩), .slice (some ⟨b, off, none⟩) n c, .int .i64 n, .chan (some H), .slice (some ⟨b, off, none⟩) n c, .int .i64 n, .int .i64 k, .bool true, .pointer (some ⟨b, off + k * 3, none⟩), .agg #[.int .i64 tx, .int .i64 kd, .int .i64 it], .chan (some H), .agg #[.int .i64 tx, .int .i64 kd, .int .i64 it], x17, undef, undef], []⟩ V
    clear hcU hlen hch y0 y1 y2
    go_wp2_with fail
    have e1 : (((k + 1 : Nat) : Int)) = (k : Int) + 1 := by omega
    refine ⟨n - (k + 1), by omega, k + 1, .pointer (some ⟨W.heap.size, 0, none⟩), .bool true, .pointer (some ⟨b, off + k * 3, none⟩), .agg #[.int .i64 tx, .int .i64 kd, .int .i64 it], .chan (some H), .agg #[.int .i64 tx, .int .i64 kd, .int .i64 it], .int .i64 ((k : Int) + 1), by omega, rfl, hbN, hchN, ?_⟩
    rw [e1]
  · have hkn : k = n := by omega
    subst hkn
    have hki : ¬ (k : Int) < (k : Int) := by omega
    refine NW.seq (NW.of_wp ?_)
    go_wp2_with fail
    refine NW.seq (NW.of_wp ?_)
    go_wp2_with fail
    have hcl : ∀ (ats : Array TypeId) (ty : TypeId), (Builtin.close_ ats ty #[.chan (some H)]).run Try.prog W = .ok (.tuple #[]) (W.setChan H k ((s.take k).map OpV.val).toArray true sn rn false) := fun ats ty => run_close_open ats ty hch
    have hchF : ChanAt (W.setChan H k ((s.take k).map OpV.val).toArray true sn rn false) H k (s.map OpV.val) true := by
      refine ⟨sn, rn, ?_⟩
      have hHW : H < W.heap.size := by
        rcases Nat.lt_or_ge H W.heap.size with h | h
        · exact h
        · rw [Array.getElem?_eq_none h] at hch; cases hch
      rw [heap_setChan _ _ _ _ _ _ _ _ hHW, List.take_of_length_le (by omega)]
    have hbF : Below H w (W.setChan H k ((s.take k).map OpV.val).toArray true sn rn false) := below_setChan hb (Nat.le_refl _) _ _ _ _ _ _
    generalize W.setChan H k ((s.take k).map OpV.val).toArray true sn rn false = V at hcl hchF hbF
    have HF := Lib.hid (And.intro hchF hbF)
    clear hch hchF hbF hb hc0 hbH HX HX' hmk
    refine NW.of_wp ?_
    go_wp2_with fail
    go_ret
    exact ⟨rfl, HF.out⟩
end Go.Proofs.Ytncebpmckbcabaa
namespace Go.Proofs.Ytncebpmckbcabaa
abbrev muLink : Go.Conc.Locks.MuLink := { lock := 117, unlock := 118, ilock := 151, iunlock := 152, lockSlow := 170, unlockSlow := 173, disable := 166, enable := 168, acquire := 169, relMerge := 171, cas32 := 167, add32 := 172, tMutex := 139, tIMutex := 137, tPMutex := 160, tPIMutex := 171, tPI32 := 173, tUP := 175, tNoCopy := 134, tU32 := 135 }
theorem muLib : Go.Conc.Locks.MuLib Try.prog muLink :=
  ⟨Try.func117, Try.func118, Try.func151, Try.func152, Try.func166, Try.func168, Try.func169, Try.func171, Try.func167, Try.func172, Try.underlying137, Try.runUnderlying137, Try.sizeOf137, Try.isAgg137, Try.zeroValue137, Try.underlying139, Try.runUnderlying139, Try.sizeOf139, Try.isAgg139, Try.zeroValue139, Try.underlying160, Try.runUnderlying160, Try.sizeOf160, Try.isAgg160, Try.zeroValue160, Try.underlying171, Try.runUnderlying171, Try.sizeOf171, Try.isAgg171, Try.zeroValue171, Try.underlying173, Try.runUnderlying173, Try.sizeOf173, Try.isAgg173, Try.zeroValue173, Try.underlying175, Try.runUnderlying175, Try.sizeOf175, Try.isAgg175, Try.zeroValue175, Try.underlying134, Try.runUnderlying134, Try.sizeOf134, Try.isAgg134, Try.zeroValue134, Try.underlying21, Try.runUnderlying21, Try.sizeOf21, Try.isAgg21, Try.zeroValue21, (by kernel_rfl)⟩
end Go.Proofs.Ytncebpmckbcabaa
namespace Go.Proofs.Ytncebpmckbcabaa
open Go.RowKit Go.BigFrame
set_option linter.unusedVariables false

/-- Block g holds just these values. -/
def RowIs (w : World) (g : Nat) (T : TypeId) (vs : List Value) : Prop := w.heap[g]? = some (.cells vs.toArray T (0, 0))
section
variable {w : World} {g : Nat} {T : TypeId} {vs : List Value}
theorem RowIs.lt (h : RowIs w g T vs) : g < w.heap.size := lt_of_block h
theorem RowIs.cell (h : RowIs w g T vs) {i : Nat} {v : Value} (hv : vs[i]? = some v) : w.cell? ⟨g, i, none⟩ = some v := by
  rw [cell_of_row w g i _ T (0, 0) h]; simpa using hv
theorem RowIs.frozen (h : RowIs w g T vs) (i : Nat) : w.frozen? ⟨g, i, none⟩ = false := frozen_of_row w g i _ T h
theorem RowIs.set (h : RowIs w g T vs) (i : Nat) (v : Value) : RowIs (w.setCell ⟨g, i, none⟩ v) g T (vs.set i v) := by
  unfold RowIs
  rw [heap_setCell_same w g i _ T v h]
  simp
theorem RowIs.alloc (h : RowIs w g T vs) (o : Obj) : RowIs (w.alloc o) g T vs := (Below.heap_alloc w o g h.lt).trans h
theorem RowIs.below {w' : World} {B : Nat} (h : RowIs w g T vs) (hb : Below B w w') (hg : w.heap.size ≤ B) : RowIs w' g T vs := (hb.block g (by have := h.lt; omega)).trans h
end

/-- What a row of operations reads as. -/
theorem RowIs.ops {w : World} {g n : Nat} {T : TypeId} {ys : List OpV} {rest : List Value} (h : RowIs w g T (opCells ys ++ rest)) (hn : ys.length = n) (hm : n ≤ 1099511627776) : ROps w (some ⟨g, 0, none⟩) n ys := by
  refine ⟨hn, hm, fun _ => ⟨g, 0, rfl, h.lt, fun i o ho => ?_⟩⟩
  obtain ⟨c0, c1, c2⟩ := opCells_at ys i o ho
  have hc : ∀ j u, (opCells ys)[j]? = some u → w.cell? ⟨g, 0 + j, none⟩ = some u := fun j u hu => by
    rw [Nat.zero_add]
    refine h.cell ?_
    obtain ⟨hl, _⟩ := List.getElem?_eq_some_iff.1 hu
    rw [List.getElem?_append_left hl]; exact hu
  exact ⟨hc _ _ c0, by have := hc _ _ c1; simpa [Nat.add_assoc] using this, by have := hc _ _ c2; simpa [Nat.add_assoc] using this⟩
theorem RowIs.ints {w : World} {g n : Nat} {T : TypeId} {ys : List Int} {rest : List Value} (h : RowIs w g T (intCells ys ++ rest)) (hn : ys.length = n) (hm : n ≤ 1099511627776) : RInts w (some ⟨g, 0, none⟩) n ys := by
  refine ⟨hn, hm, fun _ => ⟨g, 0, rfl, h.lt, fun i o ho => ?_⟩⟩
  rw [Nat.zero_add]
  refine h.cell ?_
  have : (intCells ys)[i]? = some (.int .i64 o) := by simp [intCells, ho]
  obtain ⟨hl, _⟩ := List.getElem?_eq_some_iff.1 this
  rw [List.getElem?_append_left hl]; exact this
/-- New memory as a row. -/
theorem FreshOps.row {w0 w : World} {A : Option Addr} {n : Nat} {xs : List OpV} (h : FreshOps w0 w A n xs) (h0 : 0 < n) : ∃ g rest, A = some ⟨g, 0, none⟩ ∧ w0.heap.size ≤ g ∧ RowIs w g 62 (opCells xs ++ rest) := by
  obtain ⟨⟨hl, hm, hr⟩, hf⟩ := h
  obtain ⟨b, off, hA, hlt, hc⟩ := hr h0
  obtain ⟨b', cur, had, hge, hh, hsz⟩ := hf _ hA
  injection had with h1 h2 h3
  subst h1; subst h2
  refine ⟨b, cur.toList.drop (n * 3), hA, hge, ?_⟩
  unfold RowIs
  rw [hh]
  congr 2
  apply Array.ext'
  simp only
  have e : opCells xs = cur.toList.take (n * 3) := by
    apply List.ext_getElem?
    intro j
    rcases Nat.lt_or_ge j (n * 3) with hj | hj
    · rw [List.getElem?_take_of_lt hj]
      obtain ⟨v, hv⟩ : ∃ v, (opCells xs)[j]? = some v := ⟨_, List.getElem?_eq_getElem (by rw [length_opCells]; omega)⟩
      rw [hv]
      obtain ⟨i, o, ho, h⟩ := opCells_find xs j v hv
      obtain ⟨c0, c1, c2⟩ := hc i o ho
      have hcell : ∀ q, w.cell? ⟨b, q, none⟩ = cur[q]? := fun q => cell_of_row w b q _ _ (0, 0) hh
      rw [hcell] at c0 c1 c2
      simp only [Nat.zero_add] at c0 c1 c2
      rcases h with ⟨rfl, rfl⟩ | ⟨rfl, rfl⟩ | ⟨rfl, rfl⟩
      · simpa using c0.symm
      · simpa using c1.symm
      · simpa using c2.symm
    · rw [List.getElem?_eq_none (by rw [length_opCells]; omega), List.getElem?_eq_none (by simp; omega)]
  rw [e, List.take_append_drop]
theorem FreshInts.row {w0 w : World} {A : Option Addr} {n : Nat} {xs : List Int} (h : FreshInts w0 w A n xs) (h0 : 0 < n) : ∃ g rest, A = some ⟨g, 0, none⟩ ∧ w0.heap.size ≤ g ∧ RowIs w g 3 (intCells xs ++ rest) := by
  obtain ⟨⟨hl, hm, hr⟩, hf⟩ := h
  obtain ⟨b, off, hA, hlt, hc⟩ := hr h0
  obtain ⟨b', cur, had, hge, hh, hsz⟩ := hf _ hA
  injection had with h1 h2 h3
  subst h1; subst h2
  refine ⟨b, cur.toList.drop n, hA, hge, ?_⟩
  unfold RowIs
  rw [hh]
  congr 2
  apply Array.ext'
  simp only
  have e : intCells xs = cur.toList.take n := by
    apply List.ext_getElem?
    intro j
    rcases Nat.lt_or_ge j n with hj | hj
    · rw [List.getElem?_take_of_lt hj]
      have hx : xs[j]? = some (xs[j]'(by omega)) := List.getElem?_eq_getElem (by omega)
      have c0 := hc j _ hx
      rw [cell_of_row w b _ _ _ (0, 0) hh] at c0
      simp only [Nat.zero_add] at c0
      simp only [intCells, List.getElem?_map, hx]
      simpa using c0.symm
    · rw [List.getElem?_eq_none (by simp [intCells]; omega), List.getElem?_eq_none (by simp; omega)]
  rw [e, List.take_append_drop]

/-- Own rows stay where another block is written. -/
theorem ROps.grown {w w' : World} {B : Option Addr} {n : Nat} {ys : List OpV} {row : Option Nat} (h : ROps w B n ys) (hg : w.grownBy w' row) (hne : ∀ b, B = some b → row ≠ some b.block) : ROps w' B n ys := by
  obtain ⟨h1, h2, h3⟩ := h
  refine ⟨h1, h2, fun hn => ?_⟩
  obtain ⟨b, off, hA, hlt, hc⟩ := h3 hn
  have hs := hg.size
  have hb := hg.block b hlt (fun e => hne _ hA e.symm)
  refine ⟨b, off, hA, by omega, fun i o ho => ?_⟩
  obtain ⟨c0, c1, c2⟩ := hc i o ho
  exact ⟨(World.cell?_of_block (w := w) (a := ⟨b, _, none⟩) hb).trans c0, (World.cell?_of_block (w := w) (a := ⟨b, _, none⟩) hb).trans c1, (World.cell?_of_block (w := w) (a := ⟨b, _, none⟩) hb).trans c2⟩
theorem RInts.grown {w w' : World} {B : Option Addr} {n : Nat} {ys : List Int} {row : Option Nat} (h : RInts w B n ys) (hg : w.grownBy w' row) (hne : ∀ b, B = some b → row ≠ some b.block) : RInts w' B n ys := by
  obtain ⟨h1, h2, h3⟩ := h
  refine ⟨h1, h2, fun hn => ?_⟩
  obtain ⟨b, off, hA, hlt, hc⟩ := h3 hn
  have hs := hg.size
  have hb := hg.block b hlt (fun e => hne _ hA e.symm)
  exact ⟨b, off, hA, by omega, fun i o ho => (World.cell?_of_block (w := w) (a := ⟨b, _, none⟩) hb).trans (hc i o ho)⟩
theorem grown_set {w : World} {g i : Nat} {v : Value} : w.grownBy (w.setCell ⟨g, i, none⟩ v) (some g) :=
  ⟨rfl, rfl, rfl, by simp [World.setCell], fun k hk hne => Below.heap_setCell w ⟨g, i, none⟩ v k (fun e => hne (by rw [e]))⟩
theorem grown_below {w w' : World} {row : Option Nat} (h : Below w.heap.size w w') : w.grownBy w' row := ⟨h.os, h.tape, h.output, h.size, fun i hi _ => h.block i hi⟩

theorem made_ints (n : Nat) : (madeCells (Value.int .i64 0).cells (n * 1)).toList = intCells (List.replicate n 0) := by
  apply List.ext_getElem?
  intro j
  simp only [intCells, List.map_replicate, List.getElem?_replicate]
  split
  · rename_i hj
    rw [List.getElem?_eq_getElem (by simpa [size_madeCells] using hj)]
    simp only [madeCells, Array.getElem_toList, Array.getElem_map, Array.getElem_range]
    congr 1
    show (#[Value.int .i64 0] : Array Value)[j % 1]! = _
    rw [Nat.mod_one]; rfl
  · rename_i hj
    rw [List.getElem?_eq_none (by simpa [size_madeCells] using hj)]
/-- A store of an integer. -/
theorem row_setInt {w : World} {g k : Nat} {T : TypeId} {ys : List Int} {more : List Value} {v : Int} (hrow : RowIs w g T (intCells ys ++ more)) (hk : k < ys.length) : RowIs (w.setCell ⟨g, k, none⟩ (.int .i64 v)) g T (intCells (ys.set k v) ++ more) := by
  have := hrow.set k (.int .i64 v)
  rw [List.set_append_left _ _ (by simpa [intCells] using hk)] at this
  have e : (intCells ys).set k (.int .i64 v) = intCells (ys.set k v) := by simp [intCells, List.map_set]
  rw [e] at this
  exact this
end Go.Proofs.Ytncebpmckbcabaa
namespace Go.Proofs.Ytncebpmckbcabaa
open Go.RowKit Go.BigFrame
set_option linter.unusedVariables false

def committed (s : List OpV) : List OpV := s.filter fun o => endOf s o.tx == 2
def hasTx (s : List OpV) (t : Int) : Bool := s.any fun o => o.tx == t
def txsOf (s : List OpV) : List Int := [0, 1, 2, 3].filter fun t => hasTx s t


set_option maxHeartbeats 400000 in
theorem txsOf1_any (o : OpV) (t : Int) (b : Nat) (w : World) (hc : w.cell? ⟨b, 0, none⟩ = some (.int .i64 t)) :
    Calls Try.prog 110 #[o.val, .pointer (some ⟨b, 0, none⟩)] w fun e w' => e = .returned (.bool (o.tx == t)) ∧ Below w.heap.size w w' := by
  obtain ⟨x, k, i⟩ := o
  unfold OpV.val
  have hbl : b < w.heap.size := block_lt_of_cell hc
  go_enter Try.func110, Try.ntmps110
  go_wp2_with fail
  go_ret
  exact ⟨rfl, (Below.refl _ _).alloc (Nat.le_refl _) _⟩


theorem runs_txsOf1 : Runs 110 := runs_of Try.func110 (by kernel_rfl) rfl
theorem runs_committedOf1 : Runs 123 := runs_of Try.func123 (by kernel_rfl) rfl

set_option maxHeartbeats 400000 in
theorem committedOf1_any (o : OpV) (A : Option Addr) (n c b : Nat) (s : List OpV) (w : World) (hc : w.cell? ⟨b, 0, none⟩ = some (.slice A n c)) (hx : ROps w A n s) :
    Calls Try.prog 123 #[o.val, .pointer (some ⟨b, 0, none⟩)] w fun e w' => e = .returned (.bool (endOf s o.tx == 2)) ∧ Below w.heap.size w w' := by
  obtain ⟨t, k, x⟩ := o
  unfold OpV.val
  have hbl : b < w.heap.size := block_lt_of_cell hc
  have HX := Lib.hid hx
  clear hx
  go_enter Try.func123, Try.ntmps123
  go_wp2_with fail
  refine (endOf_any A n c s t _ (HX.out.below ((Below.refl _ _).alloc (Nat.le_refl _) _) (Nat.le_refl _))).mono ?_
  rintro e w' ⟨rfl, hb⟩
  go_wp2_with fail
  go_ret
  exact ⟨rfl, by (repeat (first | exact Below.refl _ _ | assumption | refine B_alloc ?_ (Nat.le_refl _) _ | refine Below.drew ?_ | refine B_drewN ?_ _ | refine B_after (by assumption) ?_ | (refine B_set ?_ ?_; rotate_left; (first | exact Nat.le_refl _ | (simp; done) | (simp at *; omega)))))⟩

set_option maxHeartbeats 400000 in
theorem committedOf_any (A : Option Addr) (n c : Nat) (s : List OpV) (w : World) (hx : ROps w A n s) :
    Calls Try.prog 87 #[.slice A n c] w (RetOps w (committed s)) := by
  have hcl : ∀ W : World, W = w.alloc (.cells #[.slice A n c] 24) → ROps W A n s ∧ ClosOp W 123 #[.pointer (some ⟨w.heap.size, 0, none⟩)] s (fun o => endOf s o.tx == 2) ∧ Below w.heap.size w W := by
    intro W hW
    have hc : W.cell? ⟨w.heap.size, 0, none⟩ = some (.slice A n c) := by rw [hW]; exact box_at _ _ _ _ _ rfl
    have hb : Below w.heap.size w W := by rw [hW]; exact (Below.refl _ _).alloc (Nat.le_refl _) _
    have hx' := hx.below hb (Nat.le_refl _)
    exact ⟨hx', ⟨runs_committedOf1, fun W' o hb' ho => committedOf1_any o A n c _ s W' ((Later.cell hc ⟨W', hb'⟩)) (hx'.below hb' (Nat.le_refl _))⟩, hb⟩
  have HC := Lib.hid hcl
  clear hcl hx
  go_enter Try.func87, Try.ntmps87
  go_wp2_with fail
  obtain ⟨W, hW⟩ : ∃ W : World, W = w.alloc (.cells #[.slice A n c] 24) := ⟨_, rfl⟩
  rw [← hW]
  obtain ⟨hr, hf, hb⟩ := HC.out W hW
  refine (kept_any A n c s _ _ _ W hr hf).mono ?_
  rintro e w' ⟨A', c', rfl, hc', ⟨h1, h2⟩, hb'⟩
  clear hW
  go_wp2_with fail
  go_ret
  have hs := hb.size
  exact ⟨A', c', rfl, hc', ⟨h1, fun ad had => by obtain ⟨b, cur, h3, h4, h5⟩ := h2 ad had; exact ⟨b, cur, h3, by omega, h5⟩⟩, hb.trans (hb'.mono hs)⟩
end Go.Proofs.Ytncebpmckbcabaa
