/-
  Texts that the proof rests on, joined: part 1.
-/
import Derived.Test.YtncebpmckbcabaaRows
import Derived.WalkKit
import Derived.WalkSpells
import Derived.WalkLawsBesides
import Derived.BigQuiet
import Derived.Deep.QuietTactic
import Derived.Deep.DrawnRows
import Derived.Lib.Hide
import Derived.ProofKit
import Derived.OpenShut
import Derived.ShutString
import Derived.ChangeOld
import Derived.Below
import Derived.Deep.Slices
import Derived.ChangeSame
namespace Go.Proofs.Ytncebpmckbcabaa
open Go.RowKit
set_option linter.unusedVariables false

theorem ret_bool {a b : Bool} (h : a = b) : Ending.returned (.bool a) = .returned (.bool b) := by rw [h]
theorem ret_int {k : IntKind} {a b : Int} (h : a = b) : Ending.returned (.int k a) = .returned (.int k b) := by rw [h]

theorem bcell {W w1 : World} (hb : Below W.heap.size W w1) : (∀ b o, b < W.heap.size → w1.cell? ⟨b, o, none⟩ = W.cell? ⟨b, o, none⟩) ∧ (∀ b o, b < W.heap.size → w1.frozen? ⟨b, o, none⟩ = W.frozen? ⟨b, o, none⟩) :=
  ⟨fun b o h => hb.cell (p := ⟨b, o, none⟩) h, fun b o h => hb.frozen (p := ⟨b, o, none⟩) h⟩

theorem B_alloc {B : Nat} {w v : World} (h : Below B w v) (hB : B ≤ w.heap.size) (o : Obj) : Below B w (v.alloc o) := h.alloc (Nat.le_trans hB h.size) o
theorem B_after {w v v' : World} (h : Below v.heap.size v v') (h0 : Below w.heap.size w v) : Below w.heap.size w v' := h0.trans (h.mono h0.size)
theorem B_set {w v : World} {b o : Nat} {u : Value} (h : Below w.heap.size w v) (hb : w.heap.size ≤ b) : Below w.heap.size w (v.setCell ⟨b, o, none⟩ u) := h.setCell (by simpa using hb) u
theorem B_drewN {B : Nat} {w v : World} (h : Below B w v) (n : Nat) : Below B w (v.drewN n) := ⟨h.os, h.tape, h.output, h.size, h.block⟩

/-- An operation, or a step: three integers. -/
structure OpV where
  tx : Int
  kind : Int
  item : Int
  deriving DecidableEq

def OpV.zero : OpV := ⟨0, 0, 0⟩
def OpV.val (o : OpV) : Value := .agg #[.int .i64 o.tx, .int .i64 o.kind, .int .i64 o.item]
def OpV.cells (o : OpV) : List Value := [.int .i64 o.tx, .int .i64 o.kind, .int .i64 o.item]
def opCells : List OpV → List Value
  | [] => []
  | o :: r => .int .i64 o.tx :: .int .i64 o.kind :: .int .i64 o.item :: opCells r
def intCells (xs : List Int) : List Value := xs.map (Value.int .i64)

theorem opCells_append (a b : List OpV) : opCells (a ++ b) = opCells a ++ opCells b := by
  induction a with
  | nil => rfl
  | cons o r ih => simp [opCells, ih]
theorem length_opCells (a : List OpV) : (opCells a).length = a.length * 3 := by
  induction a with
  | nil => rfl
  | cons o r ih => simp [opCells, ih]; omega
theorem opCells_at (xs : List OpV) : ∀ (i : Nat) (o : OpV), xs[i]? = some o →
    (opCells xs)[i * 3]? = some (.int .i64 o.tx) ∧ (opCells xs)[i * 3 + 1]? = some (.int .i64 o.kind) ∧ (opCells xs)[i * 3 + 2]? = some (.int .i64 o.item) := by
  induction xs with
  | nil => intro i o h; simp at h
  | cons x r ih =>
    intro i o h
    cases i with
    | zero => simp at h; subst h; simp [opCells]
    | succ i =>
      have h' : r[i]? = some o := by simpa using h
      obtain ⟨h0, h1, h2⟩ := ih i o h'
      have e : (i + 1) * 3 = i * 3 + 3 := by omega
      refine ⟨?_, ?_, ?_⟩
      · rw [e]; simpa [opCells] using h0
      · rw [e]; simpa [opCells] using h1
      · rw [e]; simpa [opCells] using h2
theorem opCells_one (xs : List OpV) : ∀ u ∈ opCells xs, u.oneCell' = true := by
  induction xs with
  | nil => simp [opCells]
  | cons x r ih =>
    intro u hu
    simp only [opCells, List.mem_cons] at hu
    rcases hu with rfl | rfl | rfl | hu
    · rfl
    · rfl
    · rfl
    · exact ih u hu
theorem intCells_one (xs : List Int) : ∀ u ∈ intCells xs, u.oneCell' = true := by
  intro u hu
  simp only [intCells, List.mem_map] at hu
  obtain ⟨x, _, rfl⟩ := hu
  rfl

/-- The slice value with address A and length n reads as the triples xs; its cells lie in blocks that are there. -/
def ROps (w : World) (A : Option Addr) (n : Nat) (xs : List OpV) : Prop :=
  xs.length = n ∧ n ≤ 1099511627776 ∧ (0 < n → ∃ b off, A = some ⟨b, off, none⟩ ∧ b < w.heap.size ∧ ∀ i o, xs[i]? = some o →
    w.cell? ⟨b, off + i * 3, none⟩ = some (.int .i64 o.tx) ∧ w.cell? ⟨b, off + i * 3 + 1, none⟩ = some (.int .i64 o.kind) ∧ w.cell? ⟨b, off + i * 3 + 2, none⟩ = some (.int .i64 o.item))

/-- The same for integers. -/
def RInts (w : World) (A : Option Addr) (n : Nat) (xs : List Int) : Prop :=
  xs.length = n ∧ n ≤ 1099511627776 ∧ (0 < n → ∃ b off, A = some ⟨b, off, none⟩ ∧ b < w.heap.size ∧ ∀ i x, xs[i]? = some x →
    w.cell? ⟨b, off + i, none⟩ = some (.int .i64 x))

/-- The same for bytes: only their range is kept. -/
def RBytes (w : World) (A : Option Addr) (n : Nat) : Prop :=
  n ≤ 9223372036854775807 ∧ (0 < n → ∃ b off, A = some ⟨b, off, none⟩ ∧ b < w.heap.size ∧ ∀ i, i < n → ∃ x : Int, 0 ≤ x ∧ x ≤ 255 ∧ w.cell? ⟨b, off + i, none⟩ = some (.int .u8 x))

section
variable {w w' : World} {A : Option Addr} {n : Nat}
theorem ROps.nil {w : World} {A : Option Addr} : ROps w A 0 [] := ⟨rfl, by omega, fun h => absurd h (by omega)⟩
theorem RInts.nil {w : World} {A : Option Addr} : RInts w A 0 [] := ⟨rfl, by omega, fun h => absurd h (by omega)⟩
theorem ROps.below {xs : List OpV} (h : ROps w A n xs) {B : Nat} (hb : Below B w w') (hB : w.heap.size ≤ B) : ROps w' A n xs := by
  obtain ⟨h1, h2, h3⟩ := h
  refine ⟨h1, h2, fun hn => ?_⟩
  obtain ⟨b, off, hA, hlt, hc⟩ := h3 hn
  have hs := hb.size
  refine ⟨b, off, hA, by omega, fun i o ho => ?_⟩
  obtain ⟨c0, c1, c2⟩ := hc i o ho
  exact ⟨(hb.cell (p := ⟨b, _, none⟩) (by simp; omega)).trans c0, (hb.cell (p := ⟨b, _, none⟩) (by simp; omega)).trans c1, (hb.cell (p := ⟨b, _, none⟩) (by simp; omega)).trans c2⟩
theorem RInts.below {xs : List Int} (h : RInts w A n xs) {B : Nat} (hb : Below B w w') (hB : w.heap.size ≤ B) : RInts w' A n xs := by
  obtain ⟨h1, h2, h3⟩ := h
  refine ⟨h1, h2, fun hn => ?_⟩
  obtain ⟨b, off, hA, hlt, hc⟩ := h3 hn
  have hs := hb.size
  exact ⟨b, off, hA, by omega, fun i o ho => (hb.cell (p := ⟨b, _, none⟩) (by simp; omega)).trans (hc i o ho)⟩
/-- One element and its three cells. -/
theorem ROps.at_ {xs : List OpV} (h : ROps w A n xs) {k : Nat} (hk : k < n) : ∃ b off o, A = some ⟨b, off, none⟩ ∧ b < w.heap.size ∧ xs[k]? = some o ∧
    w.cell? ⟨b, off + k * 3, none⟩ = some (.int .i64 o.tx) ∧ w.cell? ⟨b, off + k * 3 + 1, none⟩ = some (.int .i64 o.kind) ∧ w.cell? ⟨b, off + k * 3 + 2, none⟩ = some (.int .i64 o.item) := by
  obtain ⟨h1, h2, h3⟩ := h
  obtain ⟨b, off, hA, hlt, hc⟩ := h3 (by omega)
  have e : xs[k]? = some (xs[k]'(by omega)) := List.getElem?_eq_getElem (by omega)
  exact ⟨b, off, _, hA, hlt, e, hc k _ e⟩
theorem RInts.at_ {xs : List Int} (h : RInts w A n xs) {k : Nat} (hk : k < n) : ∃ b off x, A = some ⟨b, off, none⟩ ∧ b < w.heap.size ∧ xs[k]? = some x ∧
    w.cell? ⟨b, off + k, none⟩ = some (.int .i64 x) := by
  obtain ⟨h1, h2, h3⟩ := h
  obtain ⟨b, off, hA, hlt, hc⟩ := h3 (by omega)
  have e : xs[k]? = some (xs[k]'(by omega)) := List.getElem?_eq_getElem (by omega)
  exact ⟨b, off, _, hA, hlt, e, hc k _ e⟩
/-- The first k of them. -/
theorem ROps.take {xs : List OpV} (h : ROps w A n xs) {k : Nat} (hk : k ≤ n) : ROps w A k (xs.take k) := by
  obtain ⟨h1, h2, h3⟩ := h
  refine ⟨by simp; omega, by omega, fun hn => ?_⟩
  obtain ⟨b, off, hA, hlt, hc⟩ := h3 (by omega)
  refine ⟨b, off, hA, hlt, fun i o ho => hc i o ?_⟩
  rw [List.getElem?_take] at ho
  split at ho
  · exact ho
  · cases ho
theorem RInts.take {xs : List Int} (h : RInts w A n xs) {k : Nat} (hk : k ≤ n) : RInts w A k (xs.take k) := by
  obtain ⟨h1, h2, h3⟩ := h
  refine ⟨by simp; omega, by omega, fun hn => ?_⟩
  obtain ⟨b, off, hA, hlt, hc⟩ := h3 (by omega)
  refine ⟨b, off, hA, hlt, fun i o ho => hc i o ?_⟩
  rw [List.getElem?_take] at ho
  split at ho
  · exact ho
  · cases ho
end

/-- What the call owns reads as its list. -/
theorem ROps.of_own {w : World} {base : Nat} {e : TypeId} {c n : Nat} {A : Option Addr} {xs : List OpV} (h : w.ownsRow base e 3 (.slice A n c) n (opCells xs)) (hn : n ≤ 1099511627776) : ROps w A n xs := by
  have hl := h.1
  rw [length_opCells] at hl
  refine ⟨by omega, hn, fun h0 => ?_⟩
  rcases h.2 with ⟨h1, h2⟩ | ⟨g, cap, cur, h1, h2, h3, h4, h5, h6, h7⟩
  · omega
  · injection h1 with hA _ _
    subst hA
    have hg : g < w.heap.size := lt_of_block h3
    refine ⟨g, 0, rfl, hg, fun i o ho => ?_⟩
    have hc : ∀ j u, (opCells xs)[j]? = some u → w.cell? ⟨g, 0 + j, none⟩ = some u := fun j u hu => by
      have := h.cells (g := g) rfl j u hu
      unfold Addr.add at this
      split at this
      · subst_vars; simpa using this
      · simpa using this
    obtain ⟨c0, c1, c2⟩ := opCells_at xs i o ho
    exact ⟨by simpa using hc _ _ c0, by simpa [Nat.add_assoc] using hc _ _ c1, by simpa [Nat.add_assoc] using hc _ _ c2⟩
theorem RInts.of_own {w : World} {base : Nat} {e : TypeId} {c n : Nat} {A : Option Addr} {xs : List Int} (h : w.ownsRow base e 1 (.slice A n c) n (intCells xs)) (hn : n ≤ 1099511627776) : RInts w A n xs := by
  have hl := h.1
  simp only [intCells, List.length_map] at hl
  refine ⟨by omega, hn, fun h0 => ?_⟩
  rcases h.2 with ⟨h1, h2⟩ | ⟨g, cap, cur, h1, h2, h3, h4, h5, h6, h7⟩
  · omega
  · injection h1 with hA _ _
    subst hA
    have hg : g < w.heap.size := lt_of_block h3
    refine ⟨g, 0, rfl, hg, fun i x hx => ?_⟩
    have := h.cells (g := g) rfl i (.int .i64 x) (by simp [intCells, hx])
    unfold Addr.add at this
    split at this
    · subst_vars; simpa using this
    · simpa using this

#print axioms ROps.of_own
end Go.Proofs.Ytncebpmckbcabaa
namespace Go.Proofs.Ytncebpmckbcabaa
open Go.RowKit Go.ChangeShapes Go.WideShapes
set_option linter.unusedVariables false

theorem spot_none {w : World} {a : Addr} {v : Value} (h : w.cell? (a.add 0) = some v) : a.spot = none := by
  obtain ⟨b, off, sp⟩ := a
  cases sp with
  | none => rfl
  | some q => simp [Addr.add, World.cell?] at h; split at h <;> simp_all
theorem add_flat (b off i : Nat) : (⟨b, off, none⟩ : Addr).add i = ⟨b, off + i, none⟩ := by
  unfold Addr.add
  split
  · subst_vars; rfl
  · rfl

/-- A slice of bytes that came in. -/
def BytesIn (w : World) (A : Option Addr) (n c : Nat) : Prop := RBytes w A n ∧ n ≤ c
theorem open_bytes {H : Type} {enc : TypeId × Value → H} {w : World} {base : Nat} {spare : Nat → Bool} {held : Bool} {t e : TypeId} {len cap : Nat} {a : Option Addr} {d : DataW H} {p : List MemPlace}
    (ht : Try.prog.underlying t = some (.slice e)) (he : Try.prog.underlying e = some (.int .u8)) (hc : Try.prog.cellsOf e = 1) (h : DataW.Trod enc Try.prog w base spare held t (.slice a len cap) d p) : BytesIn w a len cap := by
  obtain ⟨fuel, hf⟩ := h
  rcases open_ints ht he hc hf with ⟨hcs, _⟩ | ⟨x, l, c, zs, hcs, _, hl, hm, hz, _, hcell, hwz⟩
  · simp [Value.cells] at hcs
    obtain ⟨rfl, rfl, rfl⟩ := hcs
    exact ⟨⟨by omega, fun h => absurd h (by omega)⟩, Nat.le_refl _⟩
  · simp [Value.cells] at hcs
    obtain ⟨rfl, rfl, rfl⟩ := hcs
    have hlz : len ≤ zs.length := by rw [hz]; split <;> omega
    unfold maxLen at hm
    refine ⟨⟨by omega, fun h0 => ?_⟩, hl⟩
    have hsp := spot_none (hcell 0 (by omega))
    obtain ⟨b, off, sp⟩ := x
    simp only at hsp
    subst hsp
    have h1 := hcell 0 (by omega)
    rw [add_flat] at h1
    refine ⟨b, off, rfl, block_lt_of_cell h1, fun i hi => ?_⟩
    have h2 := hcell i (by omega)
    have h3 := hwz (zs.getD i 0) (by rw [List.getD_eq_getElem?_getD, List.getElem?_eq_getElem (by omega)]; exact List.getElem_mem _)
    refine ⟨zs.getD i 0, ?_, ?_, ?_⟩
    · have := h3; simp [Lit.wf, IntKind.min, IntKind.max, IntKind.signed, IntKind.bits] at this; simpa using this.1
    · have := h3; simp [Lit.wf, IntKind.min, IntKind.max, IntKind.signed, IntKind.bits] at this; simp; omega
    · rw [add_flat] at h2; exact h2
theorem and2 {a b : Bool} (ha : a = true) (hb : b = true) : (a && b) = true := by rw [ha, hb]; rfl
theorem andL {a b : Bool} (h : (a && b) = true) : a = true := by cases a <;> simp_all
theorem andR {a b : Bool} (h : (a && b) = true) : b = true := by cases b <;> simp_all
end Go.Proofs.Ytncebpmckbcabaa
namespace Go.Proofs.Ytncebpmckbcabaa
open Go.RowKit Go.BigFrame
set_option linter.unusedVariables false

/-- The worlds that a world may have become: below its size nothing has changed. -/
def Later (W : World) : Type := {u : World // Below W.heap.size W u}
instance (W : World) : Nonempty (Later W) := ⟨⟨W, Below.refl _ _⟩⟩
theorem Later.cell {W : World} {b o : Nat} {v : Value} (h : W.cell? ⟨b, o, none⟩ = some v) : ∀ u : Later W, u.1.cell? ⟨b, o, none⟩ = some v := fun u =>
  (u.2.cell (p := ⟨b, o, none⟩) (block_lt_of_cell h)).trans h
theorem Later.below_ {W : World} {B : Nat} (u : Later W) (h : B ≤ W.heap.size) : Below B W u.1 := u.2.mono h
theorem Later.size {W : World} (u : Later W) : W.heap.size ≤ u.1.heap.size := u.2.size

section
variable {P : Program}
theorem region_later {id : Nat} {Q : Exit → Act → World → Prop} {a : Act} {w : World} {l : List Oper} (hm : P.follows .mixedOrders = true) (hB : Region.lexB .any l.toArray = true)
    (h : wpQuiet P l.toArray (fun w' => ∃ u : Later w, w' = u.1) (fun a' => ∀ w', (∃ u : Later w, w' = u.1) → Q .normal a' w') l a) : (Code.region id l.toArray true).wp P Q a w :=
  wp_region_quiet (C := fun w' => ∃ u : Later w, w' = u.1) hm hB ⟨⟨w.drew, (Below.refl _ _).drew⟩, rfl⟩ (by simpa using h)

/-- A call that hands back v and makes memory. -/
theorem later_call {f : FuncId} {args : Array Value} {W : World} {v : Value} (u : Later W) (h : Calls P f args u.1 fun e w' => e = .returned v ∧ Below u.1.heap.size u.1 w') :
    Calls P f args u.1 fun e w' => e = .returned v ∧ ∃ u' : Later W, w' = u'.1 :=
  h.mono fun _ _ ⟨he, hb⟩ => ⟨he, ⟨_, u.2.trans (hb.mono u.2.size)⟩, rfl⟩
theorem later_same {f : FuncId} {args : Array Value} {W : World} {v : Value} (u : Later W) (h : Calls P f args u.1 fun e w' => e = .returned v ∧ u.1 = w') :
    Calls P f args u.1 fun e w' => e = .returned v ∧ ∃ u' : Later W, w' = u'.1 :=
  h.mono fun _ _ ⟨he, hb⟩ => ⟨he, u, hb.symm⟩
theorem ROps.later {W : World} {A : Option Addr} {n : Nat} {xs : List OpV} (h : ROps W A n xs) (u : Later W) : ROps u.1 A n xs := h.below u.2 (Nat.le_refl _)
theorem RInts.later {W : World} {A : Option Addr} {n : Nat} {xs : List Int} (h : RInts W A n xs) (u : Later W) : RInts u.1 A n xs := h.below u.2 (Nat.le_refl _)
end

theorem box_at (w : World) (cs : Array Value) (T : TypeId) (i : Nat) (v : Value) (h : cs[i]? = some v) : (w.alloc (.cells cs T)).cell? ⟨w.heap.size, i, none⟩ = some v := by
  rw [cell_of_row _ _ _ _ _ (0, 0) (heap_alloc_new w _)]; exact h
/-- A new box of an operation: its cells in whatever the world may become. -/
theorem op_box {W wr : World} {t k i : Int} {T : TypeId} (hW : W = wr.alloc (.cells #[.int .i64 t, .int .i64 k, .int .i64 i] T)) :
    (∀ u : Later W, u.1.cell? ⟨wr.heap.size, 0, none⟩ = some (.int .i64 t)) ∧ (∀ u : Later W, u.1.cell? ⟨wr.heap.size, 1, none⟩ = some (.int .i64 k)) ∧ (∀ u : Later W, u.1.cell? ⟨wr.heap.size, 2, none⟩ = some (.int .i64 i)) ∧
    Below wr.heap.size wr W ∧ wr.heap.size < W.heap.size := by
  subst hW
  exact ⟨Later.cell (box_at _ _ _ _ _ rfl), Later.cell (box_at _ _ _ _ _ rfl), Later.cell (box_at _ _ _ _ _ rfl), (Below.refl _ _).alloc (Nat.le_refl _) _, by simp⟩
theorem Later.trans {w wr W : World} (h : Below w.heap.size w wr) (h1 : Below wr.heap.size wr W) (u : Later W) : Below w.heap.size w u.1 := (h.trans (h1.mono h.size)).trans (u.2.mono (Nat.le_trans h.size h1.size))
end Go.Proofs.Ytncebpmckbcabaa
namespace Go.Proofs.Ytncebpmckbcabaa
open Go.RowKit Go.BigFrame
set_option linter.unusedVariables false

def isAcc (o : OpV) : Bool := o.kind == 0 || o.kind == 1
def isEnd (o : OpV) : Bool := o.kind == 2 || o.kind == 3
def inR (n lo hi : Int) : Bool := decide (lo ≤ n) && decide (n ≤ hi)
def validOp (o : OpV) : Bool := inR o.tx 0 3 && (isAcc o && inR o.item 0 2 || isEnd o && o.item == 0)
def endOf (s : List OpV) (t : Int) : Int := ((s.find? fun o => o.tx == t && isEnd o).map OpV.kind).getD (-1)

set_option maxHeartbeats 400000 in
theorem within_any (n low high : Int) (w : World) :
    Calls Try.prog 105 #[.int .i64 n, .int .i64 low, .int .i64 high] w fun e w' => e = .returned (.bool (inR n low high)) ∧ w = w' := by
  go_enter Try.func105, Try.ntmps105
  go_wp2
  all_goals (go_ret; exact ⟨ret_bool (by simp [inR]; omega), rfl⟩)
set_option maxHeartbeats 400000 in
theorem inRange_any (n low high : Int) (w : World) :
    Calls Try.prog 124 #[.int .i64 n, .int .i64 low, .int .i64 high] w fun e w' => e = .returned (.bool (inR n low high)) ∧ w = w' := by
  go_enter Try.func124, Try.ntmps124
  go_wp2
  all_goals (go_ret; exact ⟨ret_bool (by simp [inR]; omega), rfl⟩)

set_option maxHeartbeats 400000 in
theorem access_any (o : OpV) (w : World) :
    Calls Try.prog 111 #[o.val] w fun e w' => e = .returned (.bool (isAcc o)) ∧ Below w.heap.size w w' := by
  obtain ⟨t, k, x⟩ := o
  unfold OpV.val
  go_enter Try.func111, Try.ntmps111
  go_wp2
  all_goals (go_ret; exact ⟨ret_bool (by first | (simp [isAcc]; done) | rfl | simp [isAcc, *]), (Below.refl _ _).alloc (Nat.le_refl _) _⟩)
set_option maxHeartbeats 400000 in
theorem ends_any (o : OpV) (w : World) :
    Calls Try.prog 108 #[o.val] w fun e w' => e = .returned (.bool (isEnd o)) ∧ Below w.heap.size w w' := by
  obtain ⟨t, k, x⟩ := o
  unfold OpV.val
  go_enter Try.func108, Try.ntmps108
  go_wp2
  all_goals (go_ret; exact ⟨ret_bool (by first | (simp [isEnd]; done) | rfl | simp [isEnd, *]), (Below.refl _ _).alloc (Nat.le_refl _) _⟩)
set_option maxHeartbeats 400000 in
theorem sends_any (o : OpV) (w : World) :
    Calls Try.prog 89 #[o.val] w fun e w' => e = .returned (.bool (isEnd o)) ∧ Below w.heap.size w w' := by
  obtain ⟨t, k, x⟩ := o
  unfold OpV.val
  go_enter Try.func89, Try.ntmps89
  go_wp2
  all_goals (go_ret; exact ⟨ret_bool (by first | (simp [isEnd]; done) | rfl | simp [isEnd, *]), (Below.refl _ _).alloc (Nat.le_refl _) _⟩)

set_option maxHeartbeats 1000000 in
theorem valid_any (o : OpV) (w : World) :
    Calls Try.prog 72 #[o.val] w fun e w' => e = .returned (.bool (validOp o)) ∧ Below w.heap.size w w' := by
  obtain ⟨t, k, x⟩ := o
  unfold OpV.val
  cases h1 : inR t 0 3 <;> cases h2 : isAcc ⟨t, k, x⟩ <;> cases h3 : inR x 0 2 <;> cases h4 : isEnd ⟨t, k, x⟩ <;> cases h5 : (x == 0)
  all_goals
    go_enter Try.func72, Try.ntmps72
    go_wp2_with (first
      | (go_at_call 105; refine (within_any _ _ _ _).mono ?_; rintro e w' ⟨rfl, rfl⟩)
      | (go_at_call 111; refine (access_any ⟨t, k, x⟩ _).mono ?_; rintro e w' ⟨rfl, hb⟩; obtain ⟨bc, bf⟩ := bcell hb; have hsz : w.heap.size < w'.heap.size := by (have := hb.size; (try simp at this); omega))
      | (go_at_call 108; refine (ends_any ⟨t, k, x⟩ _).mono ?_; rintro e w' ⟨rfl, hb⟩; obtain ⟨bc, bf⟩ := bcell hb; have hsz : w.heap.size < w'.heap.size := by (have := hb.size; (try simp at this); omega)))
  all_goals
    go_ret
    exact ⟨ret_bool (by simp [validOp, *]), by (repeat (first | exact Below.refl _ _ | assumption | refine B_alloc ?_ (Nat.le_refl _) _ | refine Below.drew ?_ | refine B_drewN ?_ _ | refine B_after (by assumption) ?_ | (refine B_set ?_ ?_; rotate_left; (first | exact Nat.le_refl _ | (simp; done) | (simp at *; omega)))))⟩
end Go.Proofs.Ytncebpmckbcabaa
