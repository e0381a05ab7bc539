/-
  Words for memory that all later texts share: slices of triples, of integers and of bytes that read as lists, and what stays when the world grows.
-/
import Derived.Test.YtddkjbibjjehjaaDoorRows
import Derived.WalkKit
import Derived.WalkSpells
import Derived.WalkLawsBesides
import Derived.BigQuiet
import Derived.Deep.QuietTactic
import Derived.Deep.DrawnRows
import Derived.Lib.Hide
namespace Go.Proofs.YtddkjbibjjehjaaDoor
open Go.RowKit
set_option linter.unusedVariables false

theorem ret_bool {a b : Bool} (h : a = b) : Ending.returned (.bool a) = .returned (.bool b) := by rw [h]
theorem ret_int {k : IntKind} {a b : Int} (h : a = b) : Ending.returned (.int k a) = .returned (.int k b) := by rw [h]

theorem bcell {W w1 : World} (hb : Below W.heap.size W w1) : (∀ b o, b < W.heap.size → w1.cell? ⟨b, o, none⟩ = W.cell? ⟨b, o, none⟩) ∧ (∀ b o, b < W.heap.size → w1.frozen? ⟨b, o, none⟩ = W.frozen? ⟨b, o, none⟩) :=
  ⟨fun b o h => hb.cell (p := ⟨b, o, none⟩) h, fun b o h => hb.frozen (p := ⟨b, o, none⟩) h⟩

theorem B_alloc {B : Nat} {w v : World} (h : Below B w v) (hB : B ≤ w.heap.size) (o : Obj) : Below B w (v.alloc o) := h.alloc (Nat.le_trans hB h.size) o
theorem B_after {w v v' : World} (h : Below v.heap.size v v') (h0 : Below w.heap.size w v) : Below w.heap.size w v' := h0.trans (h.mono h0.size)
theorem B_set {w v : World} {b o : Nat} {u : Value} (h : Below w.heap.size w v) (hb : w.heap.size ≤ b) : Below w.heap.size w (v.setCell ⟨b, o, none⟩ u) := h.setCell (by simpa using hb) u
theorem B_drewN {B : Nat} {w v : World} (h : Below B w v) (n : Nat) : Below B w (v.drewN n) := ⟨h.os, h.tape, h.output, h.size, h.block⟩

/-- An operation, or a step: three integers. -/
structure OpV where
  tx : Int
  kind : Int
  item : Int
  deriving DecidableEq

def OpV.zero : OpV := ⟨0, 0, 0⟩
def OpV.val (o : OpV) : Value := .agg #[.int .i64 o.tx, .int .i64 o.kind, .int .i64 o.item]
def OpV.cells (o : OpV) : List Value := [.int .i64 o.tx, .int .i64 o.kind, .int .i64 o.item]
def opCells : List OpV → List Value
  | [] => []
  | o :: r => .int .i64 o.tx :: .int .i64 o.kind :: .int .i64 o.item :: opCells r
def intCells (xs : List Int) : List Value := xs.map (Value.int .i64)

theorem opCells_append (a b : List OpV) : opCells (a ++ b) = opCells a ++ opCells b := by
  induction a with
  | nil => rfl
  | cons o r ih => simp [opCells, ih]
theorem length_opCells (a : List OpV) : (opCells a).length = a.length * 3 := by
  induction a with
  | nil => rfl
  | cons o r ih => simp [opCells, ih]; omega
theorem opCells_at (xs : List OpV) : ∀ (i : Nat) (o : OpV), xs[i]? = some o →
    (opCells xs)[i * 3]? = some (.int .i64 o.tx) ∧ (opCells xs)[i * 3 + 1]? = some (.int .i64 o.kind) ∧ (opCells xs)[i * 3 + 2]? = some (.int .i64 o.item) := by
  induction xs with
  | nil => intro i o h; simp at h
  | cons x r ih =>
    intro i o h
    cases i with
    | zero => simp at h; subst h; simp [opCells]
    | succ i =>
      have h' : r[i]? = some o := by simpa using h
      obtain ⟨h0, h1, h2⟩ := ih i o h'
      have e : (i + 1) * 3 = i * 3 + 3 := by omega
      refine ⟨?_, ?_, ?_⟩
      · rw [e]; simpa [opCells] using h0
      · rw [e]; simpa [opCells] using h1
      · rw [e]; simpa [opCells] using h2
theorem opCells_one (xs : List OpV) : ∀ u ∈ opCells xs, u.oneCell' = true := by
  induction xs with
  | nil => simp [opCells]
  | cons x r ih =>
    intro u hu
    simp only [opCells, List.mem_cons] at hu
    rcases hu with rfl | rfl | rfl | hu
    · rfl
    · rfl
    · rfl
    · exact ih u hu
theorem intCells_one (xs : List Int) : ∀ u ∈ intCells xs, u.oneCell' = true := by
  intro u hu
  simp only [intCells, List.mem_map] at hu
  obtain ⟨x, _, rfl⟩ := hu
  rfl

/-- The slice value with address A and length n reads as the triples xs; its cells lie in blocks that are there. -/
def ROps (w : World) (A : Option Addr) (n : Nat) (xs : List OpV) : Prop :=
  xs.length = n ∧ n ≤ 1099511627776 ∧ (0 < n → ∃ b off, A = some ⟨b, off, none⟩ ∧ b < w.heap.size ∧ ∀ i o, xs[i]? = some o →
    w.cell? ⟨b, off + i * 3, none⟩ = some (.int .i64 o.tx) ∧ w.cell? ⟨b, off + i * 3 + 1, none⟩ = some (.int .i64 o.kind) ∧ w.cell? ⟨b, off + i * 3 + 2, none⟩ = some (.int .i64 o.item))

/-- The same for integers. -/
def RInts (w : World) (A : Option Addr) (n : Nat) (xs : List Int) : Prop :=
  xs.length = n ∧ n ≤ 1099511627776 ∧ (0 < n → ∃ b off, A = some ⟨b, off, none⟩ ∧ b < w.heap.size ∧ ∀ i x, xs[i]? = some x →
    w.cell? ⟨b, off + i, none⟩ = some (.int .i64 x))

/-- The same for bytes: only their range is kept. -/
def RBytes (w : World) (A : Option Addr) (n : Nat) : Prop :=
  n ≤ 9223372036854775807 ∧ (0 < n → ∃ b off, A = some ⟨b, off, none⟩ ∧ b < w.heap.size ∧ ∀ i, i < n → ∃ x : Int, 0 ≤ x ∧ x ≤ 255 ∧ w.cell? ⟨b, off + i, none⟩ = some (.int .u8 x))

section
variable {w w' : World} {A : Option Addr} {n : Nat}
theorem ROps.nil {w : World} {A : Option Addr} : ROps w A 0 [] := ⟨rfl, by omega, fun h => absurd h (by omega)⟩
theorem RInts.nil {w : World} {A : Option Addr} : RInts w A 0 [] := ⟨rfl, by omega, fun h => absurd h (by omega)⟩
theorem ROps.below {xs : List OpV} (h : ROps w A n xs) {B : Nat} (hb : Below B w w') (hB : w.heap.size ≤ B) : ROps w' A n xs := by
  obtain ⟨h1, h2, h3⟩ := h
  refine ⟨h1, h2, fun hn => ?_⟩
  obtain ⟨b, off, hA, hlt, hc⟩ := h3 hn
  have hs := hb.size
  refine ⟨b, off, hA, by omega, fun i o ho => ?_⟩
  obtain ⟨c0, c1, c2⟩ := hc i o ho
  exact ⟨(hb.cell (p := ⟨b, _, none⟩) (by simp; omega)).trans c0, (hb.cell (p := ⟨b, _, none⟩) (by simp; omega)).trans c1, (hb.cell (p := ⟨b, _, none⟩) (by simp; omega)).trans c2⟩
theorem RInts.below {xs : List Int} (h : RInts w A n xs) {B : Nat} (hb : Below B w w') (hB : w.heap.size ≤ B) : RInts w' A n xs := by
  obtain ⟨h1, h2, h3⟩ := h
  refine ⟨h1, h2, fun hn => ?_⟩
  obtain ⟨b, off, hA, hlt, hc⟩ := h3 hn
  have hs := hb.size
  exact ⟨b, off, hA, by omega, fun i o ho => (hb.cell (p := ⟨b, _, none⟩) (by simp; omega)).trans (hc i o ho)⟩
/-- One element and its three cells. -/
theorem ROps.at_ {xs : List OpV} (h : ROps w A n xs) {k : Nat} (hk : k < n) : ∃ b off o, A = some ⟨b, off, none⟩ ∧ b < w.heap.size ∧ xs[k]? = some o ∧
    w.cell? ⟨b, off + k * 3, none⟩ = some (.int .i64 o.tx) ∧ w.cell? ⟨b, off + k * 3 + 1, none⟩ = some (.int .i64 o.kind) ∧ w.cell? ⟨b, off + k * 3 + 2, none⟩ = some (.int .i64 o.item) := by
  obtain ⟨h1, h2, h3⟩ := h
  obtain ⟨b, off, hA, hlt, hc⟩ := h3 (by omega)
  have e : xs[k]? = some (xs[k]'(by omega)) := List.getElem?_eq_getElem (by omega)
  exact ⟨b, off, _, hA, hlt, e, hc k _ e⟩
theorem RInts.at_ {xs : List Int} (h : RInts w A n xs) {k : Nat} (hk : k < n) : ∃ b off x, A = some ⟨b, off, none⟩ ∧ b < w.heap.size ∧ xs[k]? = some x ∧
    w.cell? ⟨b, off + k, none⟩ = some (.int .i64 x) := by
  obtain ⟨h1, h2, h3⟩ := h
  obtain ⟨b, off, hA, hlt, hc⟩ := h3 (by omega)
  have e : xs[k]? = some (xs[k]'(by omega)) := List.getElem?_eq_getElem (by omega)
  exact ⟨b, off, _, hA, hlt, e, hc k _ e⟩
/-- The first k of them. -/
theorem ROps.take {xs : List OpV} (h : ROps w A n xs) {k : Nat} (hk : k ≤ n) : ROps w A k (xs.take k) := by
  obtain ⟨h1, h2, h3⟩ := h
  refine ⟨by simp; omega, by omega, fun hn => ?_⟩
  obtain ⟨b, off, hA, hlt, hc⟩ := h3 (by omega)
  refine ⟨b, off, hA, hlt, fun i o ho => hc i o ?_⟩
  rw [List.getElem?_take] at ho
  split at ho
  · exact ho
  · cases ho
theorem RInts.take {xs : List Int} (h : RInts w A n xs) {k : Nat} (hk : k ≤ n) : RInts w A k (xs.take k) := by
  obtain ⟨h1, h2, h3⟩ := h
  refine ⟨by simp; omega, by omega, fun hn => ?_⟩
  obtain ⟨b, off, hA, hlt, hc⟩ := h3 (by omega)
  refine ⟨b, off, hA, hlt, fun i o ho => hc i o ?_⟩
  rw [List.getElem?_take] at ho
  split at ho
  · exact ho
  · cases ho
end

/-- What the call owns reads as its list. -/
theorem ROps.of_own {w : World} {base : Nat} {e : TypeId} {c n : Nat} {A : Option Addr} {xs : List OpV} (h : w.ownsRow base e 3 (.slice A n c) n (opCells xs)) (hn : n ≤ 1099511627776) : ROps w A n xs := by
  have hl := h.1
  rw [length_opCells] at hl
  refine ⟨by omega, hn, fun h0 => ?_⟩
  rcases h.2 with ⟨h1, h2⟩ | ⟨g, cap, cur, h1, h2, h3, h4, h5, h6, h7⟩
  · omega
  · injection h1 with hA _ _
    subst hA
    have hg : g < w.heap.size := lt_of_block h3
    refine ⟨g, 0, rfl, hg, fun i o ho => ?_⟩
    have hc : ∀ j u, (opCells xs)[j]? = some u → w.cell? ⟨g, 0 + j, none⟩ = some u := fun j u hu => by
      have := h.cells (g := g) rfl j u hu
      unfold Addr.add at this
      split at this
      · subst_vars; simpa using this
      · simpa using this
    obtain ⟨c0, c1, c2⟩ := opCells_at xs i o ho
    exact ⟨by simpa using hc _ _ c0, by simpa [Nat.add_assoc] using hc _ _ c1, by simpa [Nat.add_assoc] using hc _ _ c2⟩
theorem RInts.of_own {w : World} {base : Nat} {e : TypeId} {c n : Nat} {A : Option Addr} {xs : List Int} (h : w.ownsRow base e 1 (.slice A n c) n (intCells xs)) (hn : n ≤ 1099511627776) : RInts w A n xs := by
  have hl := h.1
  simp only [intCells, List.length_map] at hl
  refine ⟨by omega, hn, fun h0 => ?_⟩
  rcases h.2 with ⟨h1, h2⟩ | ⟨g, cap, cur, h1, h2, h3, h4, h5, h6, h7⟩
  · omega
  · injection h1 with hA _ _
    subst hA
    have hg : g < w.heap.size := lt_of_block h3
    refine ⟨g, 0, rfl, hg, fun i x hx => ?_⟩
    have := h.cells (g := g) rfl i (.int .i64 x) (by simp [intCells, hx])
    unfold Addr.add at this
    split at this
    · subst_vars; simpa using this
    · simpa using this

#print axioms ROps.of_own
end Go.Proofs.YtddkjbibjjehjaaDoor
