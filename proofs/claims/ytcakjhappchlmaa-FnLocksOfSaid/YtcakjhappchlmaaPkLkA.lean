/-
  Texts that the proofs rest on, joined: PkLkA.
-/
import Derived.Test.YtcakjhappchlmaaRows
import Derived.WalkKit
import Derived.WalkSpells
import Derived.WalkLawsBesides
import Derived.BigQuiet
import Derived.Deep.QuietTactic
import Derived.Deep.DrawnRows
import Derived.Lib.Hide
import Derived.ProofKit
import Derived.OpenShut
import Derived.ShutString
import Derived.ChangeOld
import Derived.Below
import Derived.Deep.Slices
import Derived.ChangeSame
import Derived.Maps.AppendAt
import Derived.Deep.AppendLies
import Derived.Deep.LoopGhost
import Derived.Deep.MidRow
import Derived.Maps.Keyed
import Derived.Maps.Own
import Derived.Maps.OwnOps
import Derived.Maps.Range
import Derived.Maps.RangeWalk
import Derived.Maps.Views
import Derived.DeepKeys4
import Derived.Shelf.SortM.Plain
import Derived.RangeFuncNested
import Derived.RangeFuncBound
import Derived.RangeFuncCalls
import Derived.RangeFuncLeaves
import Derived.Shelf.Abstract
import Derived.Shelf.RegionOpen
import Derived.Lib.SliceRun
import Derived.OwnWalkIn
import Derived.TacticsInMore
import Derived.LoopNIn
import Derived.LoopIn
import Derived.Shelf.SortM.SortNone
import Derived.Sort.OwnSortedInts
import Derived.RangeFuncBox
import Derived.RangeFuncWrites
namespace Go.Proofs.Ytcakjhappchlmaa
open Go.RowKit
set_option linter.unusedVariables false

theorem ret_bool {a b : Bool} (h : a = b) : Ending.returned (.bool a) = .returned (.bool b) := by rw [h]
theorem ret_int {k : IntKind} {a b : Int} (h : a = b) : Ending.returned (.int k a) = .returned (.int k b) := by rw [h]

theorem bcell {W w1 : World} (hb : Below W.heap.size W w1) : (∀ b o, b < W.heap.size → w1.cell? ⟨b, o, none⟩ = W.cell? ⟨b, o, none⟩) ∧ (∀ b o, b < W.heap.size → w1.frozen? ⟨b, o, none⟩ = W.frozen? ⟨b, o, none⟩) :=
  ⟨fun b o h => hb.cell (p := ⟨b, o, none⟩) h, fun b o h => hb.frozen (p := ⟨b, o, none⟩) h⟩

theorem B_alloc {B : Nat} {w v : World} (h : Below B w v) (hB : B ≤ w.heap.size) (o : Obj) : Below B w (v.alloc o) := h.alloc (Nat.le_trans hB h.size) o
theorem B_after {w v v' : World} (h : Below v.heap.size v v') (h0 : Below w.heap.size w v) : Below w.heap.size w v' := h0.trans (h.mono h0.size)
theorem B_set {w v : World} {b o : Nat} {u : Value} (h : Below w.heap.size w v) (hb : w.heap.size ≤ b) : Below w.heap.size w (v.setCell ⟨b, o, none⟩ u) := h.setCell (by simpa using hb) u
theorem B_drewN {B : Nat} {w v : World} (h : Below B w v) (n : Nat) : Below B w (v.drewN n) := ⟨h.os, h.tape, h.output, h.size, h.block⟩

/-- An operation, or a step: three integers. -/
structure OpV where
  tx : Int
  kind : Int
  item : Int
  deriving DecidableEq

def OpV.zero : OpV := ⟨0, 0, 0⟩
def OpV.val (o : OpV) : Value := .agg #[.int .i64 o.tx, .int .i64 o.kind, .int .i64 o.item]
def OpV.cells (o : OpV) : List Value := [.int .i64 o.tx, .int .i64 o.kind, .int .i64 o.item]
def opCells : List OpV → List Value
  | [] => []
  | o :: r => .int .i64 o.tx :: .int .i64 o.kind :: .int .i64 o.item :: opCells r
def intCells (xs : List Int) : List Value := xs.map (Value.int .i64)

theorem opCells_append (a b : List OpV) : opCells (a ++ b) = opCells a ++ opCells b := by
  induction a with
  | nil => rfl
  | cons o r ih => simp [opCells, ih]
theorem length_opCells (a : List OpV) : (opCells a).length = a.length * 3 := by
  induction a with
  | nil => rfl
  | cons o r ih => simp [opCells, ih]; omega
theorem opCells_at (xs : List OpV) : ∀ (i : Nat) (o : OpV), xs[i]? = some o →
    (opCells xs)[i * 3]? = some (.int .i64 o.tx) ∧ (opCells xs)[i * 3 + 1]? = some (.int .i64 o.kind) ∧ (opCells xs)[i * 3 + 2]? = some (.int .i64 o.item) := by
  induction xs with
  | nil => intro i o h; simp at h
  | cons x r ih =>
    intro i o h
    cases i with
    | zero => simp at h; subst h; simp [opCells]
    | succ i =>
      have h' : r[i]? = some o := by simpa using h
      obtain ⟨h0, h1, h2⟩ := ih i o h'
      have e : (i + 1) * 3 = i * 3 + 3 := by omega
      refine ⟨?_, ?_, ?_⟩
      · rw [e]; simpa [opCells] using h0
      · rw [e]; simpa [opCells] using h1
      · rw [e]; simpa [opCells] using h2
theorem opCells_one (xs : List OpV) : ∀ u ∈ opCells xs, u.oneCell' = true := by
  induction xs with
  | nil => simp [opCells]
  | cons x r ih =>
    intro u hu
    simp only [opCells, List.mem_cons] at hu
    rcases hu with rfl | rfl | rfl | hu
    · rfl
    · rfl
    · rfl
    · exact ih u hu
theorem intCells_one (xs : List Int) : ∀ u ∈ intCells xs, u.oneCell' = true := by
  intro u hu
  simp only [intCells, List.mem_map] at hu
  obtain ⟨x, _, rfl⟩ := hu
  rfl

/-- The slice value with address A and length n reads as the triples xs; its cells lie in blocks that are there. -/
def ROps (w : World) (A : Option Addr) (n : Nat) (xs : List OpV) : Prop :=
  xs.length = n ∧ n ≤ 1099511627776 ∧ (0 < n → ∃ b off, A = some ⟨b, off, none⟩ ∧ b < w.heap.size ∧ ∀ i o, xs[i]? = some o →
    w.cell? ⟨b, off + i * 3, none⟩ = some (.int .i64 o.tx) ∧ w.cell? ⟨b, off + i * 3 + 1, none⟩ = some (.int .i64 o.kind) ∧ w.cell? ⟨b, off + i * 3 + 2, none⟩ = some (.int .i64 o.item))

/-- The same for integers. -/
def RInts (w : World) (A : Option Addr) (n : Nat) (xs : List Int) : Prop :=
  xs.length = n ∧ n ≤ 1099511627776 ∧ (0 < n → ∃ b off, A = some ⟨b, off, none⟩ ∧ b < w.heap.size ∧ ∀ i x, xs[i]? = some x →
    w.cell? ⟨b, off + i, none⟩ = some (.int .i64 x))

/-- The same for bytes: only their range is kept. -/
def RBytes (w : World) (A : Option Addr) (n : Nat) : Prop :=
  n ≤ 9223372036854775807 ∧ (0 < n → ∃ b off, A = some ⟨b, off, none⟩ ∧ b < w.heap.size ∧ ∀ i, i < n → ∃ x : Int, 0 ≤ x ∧ x ≤ 255 ∧ w.cell? ⟨b, off + i, none⟩ = some (.int .u8 x))

section
variable {w w' : World} {A : Option Addr} {n : Nat}
theorem ROps.nil {w : World} {A : Option Addr} : ROps w A 0 [] := ⟨rfl, by omega, fun h => absurd h (by omega)⟩
theorem RInts.nil {w : World} {A : Option Addr} : RInts w A 0 [] := ⟨rfl, by omega, fun h => absurd h (by omega)⟩
theorem ROps.below {xs : List OpV} (h : ROps w A n xs) {B : Nat} (hb : Below B w w') (hB : w.heap.size ≤ B) : ROps w' A n xs := by
  obtain ⟨h1, h2, h3⟩ := h
  refine ⟨h1, h2, fun hn => ?_⟩
  obtain ⟨b, off, hA, hlt, hc⟩ := h3 hn
  have hs := hb.size
  refine ⟨b, off, hA, by omega, fun i o ho => ?_⟩
  obtain ⟨c0, c1, c2⟩ := hc i o ho
  exact ⟨(hb.cell (p := ⟨b, _, none⟩) (by simp; omega)).trans c0, (hb.cell (p := ⟨b, _, none⟩) (by simp; omega)).trans c1, (hb.cell (p := ⟨b, _, none⟩) (by simp; omega)).trans c2⟩
theorem RInts.below {xs : List Int} (h : RInts w A n xs) {B : Nat} (hb : Below B w w') (hB : w.heap.size ≤ B) : RInts w' A n xs := by
  obtain ⟨h1, h2, h3⟩ := h
  refine ⟨h1, h2, fun hn => ?_⟩
  obtain ⟨b, off, hA, hlt, hc⟩ := h3 hn
  have hs := hb.size
  exact ⟨b, off, hA, by omega, fun i o ho => (hb.cell (p := ⟨b, _, none⟩) (by simp; omega)).trans (hc i o ho)⟩
/-- One element and its three cells. -/
theorem ROps.at_ {xs : List OpV} (h : ROps w A n xs) {k : Nat} (hk : k < n) : ∃ b off o, A = some ⟨b, off, none⟩ ∧ b < w.heap.size ∧ xs[k]? = some o ∧
    w.cell? ⟨b, off + k * 3, none⟩ = some (.int .i64 o.tx) ∧ w.cell? ⟨b, off + k * 3 + 1, none⟩ = some (.int .i64 o.kind) ∧ w.cell? ⟨b, off + k * 3 + 2, none⟩ = some (.int .i64 o.item) := by
  obtain ⟨h1, h2, h3⟩ := h
  obtain ⟨b, off, hA, hlt, hc⟩ := h3 (by omega)
  have e : xs[k]? = some (xs[k]'(by omega)) := List.getElem?_eq_getElem (by omega)
  exact ⟨b, off, _, hA, hlt, e, hc k _ e⟩
theorem RInts.at_ {xs : List Int} (h : RInts w A n xs) {k : Nat} (hk : k < n) : ∃ b off x, A = some ⟨b, off, none⟩ ∧ b < w.heap.size ∧ xs[k]? = some x ∧
    w.cell? ⟨b, off + k, none⟩ = some (.int .i64 x) := by
  obtain ⟨h1, h2, h3⟩ := h
  obtain ⟨b, off, hA, hlt, hc⟩ := h3 (by omega)
  have e : xs[k]? = some (xs[k]'(by omega)) := List.getElem?_eq_getElem (by omega)
  exact ⟨b, off, _, hA, hlt, e, hc k _ e⟩
/-- The first k of them. -/
theorem ROps.take {xs : List OpV} (h : ROps w A n xs) {k : Nat} (hk : k ≤ n) : ROps w A k (xs.take k) := by
  obtain ⟨h1, h2, h3⟩ := h
  refine ⟨by simp; omega, by omega, fun hn => ?_⟩
  obtain ⟨b, off, hA, hlt, hc⟩ := h3 (by omega)
  refine ⟨b, off, hA, hlt, fun i o ho => hc i o ?_⟩
  rw [List.getElem?_take] at ho
  split at ho
  · exact ho
  · cases ho
theorem RInts.take {xs : List Int} (h : RInts w A n xs) {k : Nat} (hk : k ≤ n) : RInts w A k (xs.take k) := by
  obtain ⟨h1, h2, h3⟩ := h
  refine ⟨by simp; omega, by omega, fun hn => ?_⟩
  obtain ⟨b, off, hA, hlt, hc⟩ := h3 (by omega)
  refine ⟨b, off, hA, hlt, fun i o ho => hc i o ?_⟩
  rw [List.getElem?_take] at ho
  split at ho
  · exact ho
  · cases ho
end

/-- What the call owns reads as its list. -/
theorem ROps.of_own {w : World} {base : Nat} {e : TypeId} {c n : Nat} {A : Option Addr} {xs : List OpV} (h : w.ownsRow base e 3 (.slice A n c) n (opCells xs)) (hn : n ≤ 1099511627776) : ROps w A n xs := by
  have hl := h.1
  rw [length_opCells] at hl
  refine ⟨by omega, hn, fun h0 => ?_⟩
  rcases h.2 with ⟨h1, h2⟩ | ⟨g, cap, cur, h1, h2, h3, h4, h5, h6, h7⟩
  · omega
  · injection h1 with hA _ _
    subst hA
    have hg : g < w.heap.size := lt_of_block h3
    refine ⟨g, 0, rfl, hg, fun i o ho => ?_⟩
    have hc : ∀ j u, (opCells xs)[j]? = some u → w.cell? ⟨g, 0 + j, none⟩ = some u := fun j u hu => by
      have := h.cells (g := g) rfl j u hu
      unfold Addr.add at this
      split at this
      · subst_vars; simpa using this
      · simpa using this
    obtain ⟨c0, c1, c2⟩ := opCells_at xs i o ho
    exact ⟨by simpa using hc _ _ c0, by simpa [Nat.add_assoc] using hc _ _ c1, by simpa [Nat.add_assoc] using hc _ _ c2⟩
theorem RInts.of_own {w : World} {base : Nat} {e : TypeId} {c n : Nat} {A : Option Addr} {xs : List Int} (h : w.ownsRow base e 1 (.slice A n c) n (intCells xs)) (hn : n ≤ 1099511627776) : RInts w A n xs := by
  have hl := h.1
  simp only [intCells, List.length_map] at hl
  refine ⟨by omega, hn, fun h0 => ?_⟩
  rcases h.2 with ⟨h1, h2⟩ | ⟨g, cap, cur, h1, h2, h3, h4, h5, h6, h7⟩
  · omega
  · injection h1 with hA _ _
    subst hA
    have hg : g < w.heap.size := lt_of_block h3
    refine ⟨g, 0, rfl, hg, fun i x hx => ?_⟩
    have := h.cells (g := g) rfl i (.int .i64 x) (by simp [intCells, hx])
    unfold Addr.add at this
    split at this
    · subst_vars; simpa using this
    · simpa using this

#print axioms ROps.of_own
end Go.Proofs.Ytcakjhappchlmaa
namespace Go.Proofs.Ytcakjhappchlmaa
open Go.RowKit Go.ChangeShapes Go.WideShapes
set_option linter.unusedVariables false

theorem spot_none {w : World} {a : Addr} {v : Value} (h : w.cell? (a.add 0) = some v) : a.spot = none := by
  obtain ⟨b, off, sp⟩ := a
  cases sp with
  | none => rfl
  | some q => simp [Addr.add, World.cell?] at h; split at h <;> simp_all
theorem add_flat (b off i : Nat) : (⟨b, off, none⟩ : Addr).add i = ⟨b, off + i, none⟩ := by
  unfold Addr.add
  split
  · subst_vars; rfl
  · rfl

theorem open_triples {H : Type} {enc : TypeId × Value → H} {P : Program} {w : World} {base : Nat} {spare : Nat → Bool} {held : Bool} {t e : TypeId} {f0 f1 f2 : Field} {fuel len cap : Nat} {a : Option Addr} {x : DataW H × List MemPlace}
    (ht : P.underlying t = some (.slice e)) (he : P.underlying e = some (.struct #[f0, f1, f2])) (ce : P.cellsOf e = 3) (o0 : f0.offset = 0) (o1 : f1.offset = 1) (o2 : f2.offset = 2)
    (c0 : P.cellsOf f0.type = 1) (c1 : P.cellsOf f1.type = 1) (c2 : P.cellsOf f2.type = 1) (t0 : P.underlying f0.type = some (.int .i64)) (t1 : P.underlying f1.type = some (.int .i64)) (t2 : P.underlying f2.type = some (.int .i64))
    (h : DataW.trod enc P w base spare held fuel t [.slice a len cap] = some x) : len ≤ cap ∧ cap ≤ maxLen ∧ (len ≤ 1099511627776 → ∃ xs, ROps w a len xs) := by
  rcases Deep.open_slice ht h with ⟨h0, _⟩ | ⟨a', len', cap', m, n, D, Pl, hcs, hb, hl, hm, hmm, _, hx⟩
  · injection h0 with h0 _
    injection h0 with h1 h2 h3
    subst h1; subst h2; subst h3
    exact ⟨Nat.le_refl _, Nat.zero_le _, fun _ => ⟨[], ROps.nil⟩⟩
  · injection hcs with hcs _
    injection hcs with h1 h2 h3
    subst h1; subst h2; subst h3
    refine ⟨hl, hm, fun hlen => ?_⟩
    have hlm : len ≤ m := by rw [hmm]; split <;> omega
    have each : ∀ i, i < len → ∃ o : OpV, w.cell? (a'.add (i * 3)) = some (.int .i64 o.tx) ∧ w.cell? (a'.add (i * 3 + 1)) = some (.int .i64 o.kind) ∧ w.cell? (a'.add (i * 3 + 2)) = some (.int .i64 o.item) := by
      intro i hi
      obtain ⟨cs', g1, g2⟩ := hx i (by omega)
      rw [ce] at g1
      obtain ⟨_, hlen', hcell⟩ := World.cells?_some g1
      obtain ⟨xs, k, hk, hxy, _, hxl, hf⟩ := DataW.trod_struct he g2
      match xs, hxl, cs', hlen' with
      | [y0, y1, y2], _, [v0, v1, v2], _ =>
        have q0 := hf 0 f0 rfl
        have q1 := hf 1 f1 rfl
        have q2 := hf 2 f2 rfl
        simp [o0, o1, o2, c0, c1, c2] at q0 q1 q2
        obtain ⟨z0, e0, _, _⟩ := DataW.trod_int t0 q0
        obtain ⟨z1, e1, _, _⟩ := DataW.trod_int t1 q1
        obtain ⟨z2, e2, _, _⟩ := DataW.trod_int t2 q2
        have k0 := hcell 0 (by omega)
        have k1 := hcell 1 (by omega)
        have k2 := hcell 2 (by omega)
        rw [Go.Deep.add_add] at k0 k1 k2
        injection e0 with e0 _
        injection e1 with e1 _
        injection e2 with e2 _
        subst e0; subst e1; subst e2
        exact ⟨⟨z0, z1, z2⟩, by simpa using k0, by simpa using k1, by simpa using k2⟩
    refine ⟨(List.range len).map fun i => if h : i < len then (each i h).choose else OpV.zero, by simp, hlen, fun hpos => ?_⟩
    obtain ⟨p0, hp0, _⟩ := each 0 hpos
    have hsp := spot_none (by simpa using hp0)
    obtain ⟨b, off, sp⟩ := a'
    simp only at hsp
    subst hsp
    rw [add_flat] at hp0
    refine ⟨b, off, rfl, block_lt_of_cell hp0, fun i o ho => ?_⟩
    rw [List.getElem?_map] at ho
    have hil : i < len := by
      rcases Nat.lt_or_ge i len with h | h
      · exact h
      · rw [List.getElem?_eq_none (by simpa using h)] at ho; cases ho
    rw [List.getElem?_range hil] at ho
    simp only [Option.map_some, hil, dif_pos, Option.some.injEq] at ho
    have := (each i hil).choose_spec
    rw [ho, add_flat, add_flat, add_flat] at this
    simpa [Nat.add_assoc] using this

/-- The operations of the statements' own type, as an argument. -/
theorem open_lops {H : Type} {enc : TypeId × Value → H} {w : World} {base : Nat} {spare : Nat → Bool} {held : Bool} {len cap : Nat} {a : Option Addr} {d : DataW H} {p : List MemPlace}
    (h : DataW.Trod enc Try.prog w base spare held 61 (.slice a len cap) d p) : len ≤ cap ∧ cap ≤ maxLen ∧ (len ≤ 1099511627776 → ∃ xs, ROps w a len xs) := by
  obtain ⟨fuel, hf⟩ := h
  exact open_triples Try.underlying61 Try.underlying111 (by kernel_rfl) rfl rfl rfl (by kernel_rfl) (by kernel_rfl) (by kernel_rfl) Try.underlying3 Try.underlying3 Try.underlying3 (by simpa [Value.cells] using hf)

/-- A slice of bytes that came in. -/
def BytesIn (w : World) (A : Option Addr) (n c : Nat) : Prop := RBytes w A n ∧ n ≤ c
/-- A slice of operations that came in, or of integers. -/
def OpsIn (w : World) (A : Option Addr) (n c : Nat) : Prop := n ≤ c ∧ c ≤ maxLen ∧ (n ≤ 1099511627776 → ∃ xs, ROps w A n xs)
def IntsIn (w : World) (A : Option Addr) (n c : Nat) : Prop := n ≤ c ∧ c ≤ maxLen ∧ (n ≤ 1099511627776 → ∃ xs, RInts w A n xs ∧ ∀ x ∈ xs, (Lit.int .i64 x).wf = true)
def IntIn (z : Int) : Prop := -9223372036854775808 ≤ z ∧ z ≤ 9223372036854775807

theorem open_bytes {H : Type} {enc : TypeId × Value → H} {w : World} {base : Nat} {spare : Nat → Bool} {held : Bool} {t e : TypeId} {len cap : Nat} {a : Option Addr} {d : DataW H} {p : List MemPlace}
    (ht : Try.prog.underlying t = some (.slice e)) (he : Try.prog.underlying e = some (.int .u8)) (hc : Try.prog.cellsOf e = 1) (h : DataW.Trod enc Try.prog w base spare held t (.slice a len cap) d p) : BytesIn w a len cap := by
  obtain ⟨fuel, hf⟩ := h
  rcases open_ints ht he hc hf with ⟨hcs, _⟩ | ⟨x, l, c, zs, hcs, _, hl, hm, hz, _, hcell, hwz⟩
  · simp [Value.cells] at hcs
    obtain ⟨rfl, rfl, rfl⟩ := hcs
    exact ⟨⟨by omega, fun h => absurd h (by omega)⟩, Nat.le_refl _⟩
  · simp [Value.cells] at hcs
    obtain ⟨rfl, rfl, rfl⟩ := hcs
    have hlz : len ≤ zs.length := by rw [hz]; split <;> omega
    unfold maxLen at hm
    refine ⟨⟨by omega, fun h0 => ?_⟩, hl⟩
    have hsp := spot_none (hcell 0 (by omega))
    obtain ⟨b, off, sp⟩ := x
    simp only at hsp
    subst hsp
    have h1 := hcell 0 (by omega)
    rw [add_flat] at h1
    refine ⟨b, off, rfl, block_lt_of_cell h1, fun i hi => ?_⟩
    have h2 := hcell i (by omega)
    have h3 := hwz (zs.getD i 0) (by rw [List.getD_eq_getElem?_getD, List.getElem?_eq_getElem (by omega)]; exact List.getElem_mem _)
    refine ⟨zs.getD i 0, ?_, ?_, ?_⟩
    · have := h3; simp [Lit.wf, IntKind.min, IntKind.max, IntKind.signed, IntKind.bits] at this; simpa using this.1
    · have := h3; simp [Lit.wf, IntKind.min, IntKind.max, IntKind.signed, IntKind.bits] at this; simp; omega
    · rw [add_flat] at h2; exact h2
theorem open_i64s {H : Type} {enc : TypeId × Value → H} {w : World} {base : Nat} {spare : Nat → Bool} {held : Bool} {t e : TypeId} {len cap : Nat} {a : Option Addr} {d : DataW H} {p : List MemPlace}
    (ht : Try.prog.underlying t = some (.slice e)) (he : Try.prog.underlying e = some (.int .i64)) (hc : Try.prog.cellsOf e = 1) (h : DataW.Trod enc Try.prog w base spare held t (.slice a len cap) d p) : IntsIn w a len cap := by
  obtain ⟨fuel, hf⟩ := h
  rcases open_ints ht he hc hf with ⟨hcs, _⟩ | ⟨x, l, c, zs, hcs, _, hl, hm, hz, _, hcell, hwz⟩
  · simp [Value.cells] at hcs
    obtain ⟨rfl, rfl, rfl⟩ := hcs
    exact ⟨Nat.le_refl _, Nat.zero_le _, fun _ => ⟨[], RInts.nil, by simp⟩⟩
  · simp [Value.cells] at hcs
    obtain ⟨rfl, rfl, rfl⟩ := hcs
    have hlz : len ≤ zs.length := by rw [hz]; split <;> omega
    refine ⟨hl, hm, fun hn => ⟨zs.take len, ⟨by simp; omega, hn, fun h0 => ?_⟩, fun x hx => hwz x (List.mem_of_mem_take hx)⟩⟩
    have hsp := spot_none (hcell 0 (by omega))
    obtain ⟨b, off, sp⟩ := x
    simp only at hsp
    subst hsp
    have h1 := hcell 0 (by omega)
    rw [add_flat] at h1
    refine ⟨b, off, rfl, block_lt_of_cell h1, fun i x hx => ?_⟩
    rw [List.getElem?_take] at hx
    split at hx
    · have h2 := hcell i (by omega)
      rw [add_flat] at h2
      rw [h2, List.getD_eq_getElem?_getD, hx]; rfl
    · cases hx
theorem wf_i64 {z : Int} (h : (Lit.int .i64 z).wf = true) : IntIn z := by
  simp [Lit.wf, IntKind.min, IntKind.max, IntKind.signed, IntKind.bits] at h
  exact ⟨by omega, by omega⟩
theorem and2 {a b : Bool} (ha : a = true) (hb : b = true) : (a && b) = true := by rw [ha, hb]; rfl
theorem andL {a b : Bool} (h : (a && b) = true) : a = true := by cases a <;> simp_all
theorem andR {a b : Bool} (h : (a && b) = true) : b = true := by cases b <;> simp_all
end Go.Proofs.Ytcakjhappchlmaa
namespace Go.Proofs.Ytcakjhappchlmaa
open Go.RowKit Go.BigFrame
set_option linter.unusedVariables false

/-- The worlds that a world may have become: below its size nothing has changed. -/
def Later (W : World) : Type := {u : World // Below W.heap.size W u}
instance (W : World) : Nonempty (Later W) := ⟨⟨W, Below.refl _ _⟩⟩
theorem Later.cell {W : World} {b o : Nat} {v : Value} (h : W.cell? ⟨b, o, none⟩ = some v) : ∀ u : Later W, u.1.cell? ⟨b, o, none⟩ = some v := fun u =>
  (u.2.cell (p := ⟨b, o, none⟩) (block_lt_of_cell h)).trans h
theorem Later.below_ {W : World} {B : Nat} (u : Later W) (h : B ≤ W.heap.size) : Below B W u.1 := u.2.mono h
theorem Later.size {W : World} (u : Later W) : W.heap.size ≤ u.1.heap.size := u.2.size

section
variable {P : Program}
theorem region_later {id : Nat} {Q : Exit → Act → World → Prop} {a : Act} {w : World} {l : List Oper} (hm : P.follows .mixedOrders = true) (hB : Region.lexB .any l.toArray = true)
    (h : wpQuiet P l.toArray (fun w' => ∃ u : Later w, w' = u.1) (fun a' => ∀ w', (∃ u : Later w, w' = u.1) → Q .normal a' w') l a) : (Code.region id l.toArray true).wp P Q a w :=
  wp_region_quiet (C := fun w' => ∃ u : Later w, w' = u.1) hm hB ⟨⟨w.drew, (Below.refl _ _).drew⟩, rfl⟩ (by simpa using h)

/-- A call that hands back v and makes memory. -/
theorem later_call {f : FuncId} {args : Array Value} {W : World} {v : Value} (u : Later W) (h : Calls P f args u.1 fun e w' => e = .returned v ∧ Below u.1.heap.size u.1 w') :
    Calls P f args u.1 fun e w' => e = .returned v ∧ ∃ u' : Later W, w' = u'.1 :=
  h.mono fun _ _ ⟨he, hb⟩ => ⟨he, ⟨_, u.2.trans (hb.mono u.2.size)⟩, rfl⟩
theorem later_same {f : FuncId} {args : Array Value} {W : World} {v : Value} (u : Later W) (h : Calls P f args u.1 fun e w' => e = .returned v ∧ u.1 = w') :
    Calls P f args u.1 fun e w' => e = .returned v ∧ ∃ u' : Later W, w' = u'.1 :=
  h.mono fun _ _ ⟨he, hb⟩ => ⟨he, u, hb.symm⟩
theorem ROps.later {W : World} {A : Option Addr} {n : Nat} {xs : List OpV} (h : ROps W A n xs) (u : Later W) : ROps u.1 A n xs := h.below u.2 (Nat.le_refl _)
theorem RInts.later {W : World} {A : Option Addr} {n : Nat} {xs : List Int} (h : RInts W A n xs) (u : Later W) : RInts u.1 A n xs := h.below u.2 (Nat.le_refl _)
end

theorem box_at (w : World) (cs : Array Value) (T : TypeId) (i : Nat) (v : Value) (h : cs[i]? = some v) : (w.alloc (.cells cs T)).cell? ⟨w.heap.size, i, none⟩ = some v := by
  rw [cell_of_row _ _ _ _ _ (0, 0) (heap_alloc_new w _)]; exact h
/-- A new box of an operation: its cells in whatever the world may become. -/
theorem op_box {W wr : World} {t k i : Int} {T : TypeId} (hW : W = wr.alloc (.cells #[.int .i64 t, .int .i64 k, .int .i64 i] T)) :
    (∀ u : Later W, u.1.cell? ⟨wr.heap.size, 0, none⟩ = some (.int .i64 t)) ∧ (∀ u : Later W, u.1.cell? ⟨wr.heap.size, 1, none⟩ = some (.int .i64 k)) ∧ (∀ u : Later W, u.1.cell? ⟨wr.heap.size, 2, none⟩ = some (.int .i64 i)) ∧
    Below wr.heap.size wr W ∧ wr.heap.size < W.heap.size := by
  subst hW
  exact ⟨Later.cell (box_at _ _ _ _ _ rfl), Later.cell (box_at _ _ _ _ _ rfl), Later.cell (box_at _ _ _ _ _ rfl), (Below.refl _ _).alloc (Nat.le_refl _) _, by simp⟩
theorem Later.trans {w wr W : World} (h : Below w.heap.size w wr) (h1 : Below wr.heap.size wr W) (u : Later W) : Below w.heap.size w u.1 := (h.trans (h1.mono h.size)).trans (u.2.mono (Nat.le_trans h.size h1.size))
end Go.Proofs.Ytcakjhappchlmaa
namespace Go.Proofs.Ytcakjhappchlmaa
open Go.RowKit Go.BigFrame
set_option linter.unusedVariables false

def isAcc (o : OpV) : Bool := o.kind == 0 || o.kind == 1
def isEnd (o : OpV) : Bool := o.kind == 2 || o.kind == 3
def inR (n lo hi : Int) : Bool := decide (lo ≤ n) && decide (n ≤ hi)
def validOp (o : OpV) : Bool := inR o.tx 0 3 && (isAcc o && inR o.item 0 2 || isEnd o && o.item == 0)
def endOf (s : List OpV) (t : Int) : Int := ((s.find? fun o => o.tx == t && isEnd o).map OpV.kind).getD (-1)

set_option maxHeartbeats 400000 in
theorem within_any (n low high : Int) (w : World) :
    Calls Try.prog 75 #[.int .i64 n, .int .i64 low, .int .i64 high] w fun e w' => e = .returned (.bool (inR n low high)) ∧ w = w' := by
  go_enter Try.func75, Try.ntmps75
  go_wp2
  all_goals (go_ret; exact ⟨ret_bool (by simp [inR]; omega), rfl⟩)
set_option maxHeartbeats 400000 in
theorem inRange_any (n low high : Int) (w : World) :
    Calls Try.prog 80 #[.int .i64 n, .int .i64 low, .int .i64 high] w fun e w' => e = .returned (.bool (inR n low high)) ∧ w = w' := by
  go_enter Try.func80, Try.ntmps80
  go_wp2
  all_goals (go_ret; exact ⟨ret_bool (by simp [inR]; omega), rfl⟩)

theorem bor_of {k a b : Int} (h : ¬ k = a) : (k == a || k == b) = (k == b) := by simp [h]

set_option maxHeartbeats 400000 in
theorem access_any (o : OpV) (w : World) :
    Calls Try.prog 128 #[o.val] w fun e w' => e = .returned (.bool (isAcc o)) ∧ Below w.heap.size w w' := by
  obtain ⟨t, k, x⟩ := o
  unfold OpV.val
  go_enter Try.func128, Try.ntmps128
  go_wp2
  all_goals (go_ret; exact ⟨ret_bool (by first | (simp [isAcc]; done) | rfl | simp [isAcc, *]), (Below.refl _ _).alloc (Nat.le_refl _) _⟩)
set_option maxHeartbeats 400000 in
theorem ends_any (o : OpV) (w : World) :
    Calls Try.prog 129 #[o.val] w fun e w' => e = .returned (.bool (isEnd o)) ∧ Below w.heap.size w w' := by
  obtain ⟨t, k, x⟩ := o
  unfold OpV.val
  go_enter Try.func129, Try.ntmps129
  go_wp2
  all_goals (go_ret; exact ⟨ret_bool (by first | (simp [isEnd]; done) | rfl | simp [isEnd, *]), (Below.refl _ _).alloc (Nat.le_refl _) _⟩)
set_option maxHeartbeats 400000 in
theorem sends_any (o : OpV) (w : World) :
    Calls Try.prog 104 #[o.val] w fun e w' => e = .returned (.bool (isEnd o)) ∧ Below w.heap.size w w' := by
  obtain ⟨t, k, x⟩ := o
  unfold OpV.val
  go_enter Try.func104, Try.ntmps104
  go_wp2
  all_goals (go_ret; exact ⟨ret_bool (by first | (simp [isEnd]; done) | rfl | simp [isEnd, *]), (Below.refl _ _).alloc (Nat.le_refl _) _⟩)

set_option maxHeartbeats 1000000 in
theorem valid_any (o : OpV) (w : World) :
    Calls Try.prog 93 #[o.val] w fun e w' => e = .returned (.bool (validOp o)) ∧ Below w.heap.size w w' := by
  obtain ⟨t, k, x⟩ := o
  unfold OpV.val
  cases h1 : inR t 0 3 <;> cases h2 : isAcc ⟨t, k, x⟩ <;> cases h3 : inR x 0 2 <;> cases h4 : isEnd ⟨t, k, x⟩ <;> cases h5 : (x == 0)
  all_goals
    go_enter Try.func93, Try.ntmps93
    go_wp2_with (first
      | (go_at_call 75; refine (within_any _ _ _ _).mono ?_; rintro e w' ⟨rfl, rfl⟩)
      | (go_at_call 128; refine (access_any ⟨t, k, x⟩ _).mono ?_; rintro e w' ⟨rfl, hb⟩; obtain ⟨bc, bf⟩ := bcell hb; have hsz : w.heap.size < w'.heap.size := by (have := hb.size; (try simp at this); omega))
      | (go_at_call 129; refine (ends_any ⟨t, k, x⟩ _).mono ?_; rintro e w' ⟨rfl, hb⟩; obtain ⟨bc, bf⟩ := bcell hb; have hsz : w.heap.size < w'.heap.size := by (have := hb.size; (try simp at this); omega)))
  all_goals
    go_ret
    exact ⟨ret_bool (by simp [validOp, *]), by (repeat (first | exact Below.refl _ _ | assumption | refine B_alloc ?_ (Nat.le_refl _) _ | refine Below.drew ?_ | refine B_drewN ?_ _ | refine B_after (by assumption) ?_ | (refine B_set ?_ ?_; rotate_left; (first | exact Nat.le_refl _ | (simp; done) | (simp at *; omega)))))⟩
end Go.Proofs.Ytcakjhappchlmaa
namespace Go.Proofs.Ytcakjhappchlmaa
open Go.RowKit Go.BigFrame
set_option linter.unusedVariables false

def noEnd (s : List OpV) (t : Int) : Bool := s.all fun o => !(o.tx == t && isEnd o)
def goodAt (s : List OpV) (i : Nat) : Bool := match s[i]? with | some o => validOp o && noEnd (s.take i) o.tx | none => true
def validS (s : List OpV) : Bool := decide (s.length ≤ 16) && (List.range s.length).all (goodAt s)

theorem isEnd_kind {o : OpV} (h : isEnd o = true) : o.kind = 2 ∨ o.kind = 3 := by simpa [isEnd] using h
theorem endOf_cases (s : List OpV) (t : Int) : (endOf s t = -1 ∧ noEnd s t = true) ∨ ((endOf s t = 2 ∨ endOf s t = 3) ∧ noEnd s t = false) := by
  unfold endOf noEnd
  cases h : s.find? (fun o => o.tx == t && isEnd o) with
  | none =>
    refine .inl ⟨rfl, ?_⟩
    rw [List.find?_eq_none] at h
    rw [List.all_eq_true]
    intro o ho
    have := h o ho
    by_cases h1 : o.tx = t <;> simp_all
  | some o =>
    have h1 := List.find?_some h
    have h2 := List.mem_of_find?_eq_some h
    refine .inr ⟨?_, ?_⟩
    · simp only [Bool.and_eq_true] at h1
      simpa using isEnd_kind h1.2
    · rw [List.all_eq_false]
      exact ⟨o, h2, by simpa using h1⟩
theorem endOf_hit (s : List OpV) (t : Int) (k : Nat) (o : OpV) (ho : s[k]? = some o) (hno : ∀ j, j < k → ∀ o, s[j]? = some o → (o.tx == t && isEnd o) = false) (h : (o.tx == t && isEnd o) = true) : endOf s t = o.kind := by
  have e : s.find? (fun o => o.tx == t && isEnd o) = some o := by
    rw [List.find?_eq_some_iff_getElem]
    obtain ⟨hk, he⟩ := List.getElem?_eq_some_iff.1 ho
    refine ⟨h, k, hk, he, fun j hj => ?_⟩
    have := hno j hj _ (List.getElem?_eq_getElem (by omega))
    rw [this]; rfl
  unfold endOf
  rw [e]; rfl
theorem endOf_none (s : List OpV) (t : Int) (hno : ∀ j, j < s.length → ∀ o, s[j]? = some o → (o.tx == t && isEnd o) = false) : endOf s t = -1 := by
  have e : s.find? (fun o => o.tx == t && isEnd o) = none := by
    rw [List.find?_eq_none]
    intro o ho
    obtain ⟨j, hj⟩ := List.mem_iff_getElem?.1 ho
    have hl : j < s.length := by
      rcases Nat.lt_or_ge j s.length with h | h
      · exact h
      · rw [List.getElem?_eq_none h] at hj; cases hj
    rw [hno j hl o hj]; simp
  unfold endOf
  rw [e]; rfl
theorem no_snoc {α : Type} {s : List α} {p : α → Bool} {k : Nat} {o : α} (ho : s[k]? = some o) (hno : ∀ j, j < k → ∀ o, s[j]? = some o → p o = false) (h : p o = false) :
    ∀ j, j < k + 1 → ∀ o, s[j]? = some o → p o = false := by
  intro j hj o' ho'
  by_cases e : j = k
  · subst e; rw [ho] at ho'; cases ho'; exact h
  · exact hno j (by omega) o' ho'

set_option maxHeartbeats 400000 in
theorem endOf_any (A : Option Addr) (n c : Nat) (s : List OpV) (t : Int) (w : World) (hx : ROps w A n s) :
    Calls Try.prog 94 #[.slice A n c, .int .i64 t] w fun e w' => e = .returned (.int .i64 (endOf s t)) ∧ Below w.heap.size w w' := by
  have hn := hx.2.1
  have hl := hx.1
  have HX := Lib.hid hx
  clear hx
  go_enter Try.func94, Try.ntmps94
  go_wp2
  go_loopw [9] (fun i wr => ∃ k : Nat, k ≤ n ∧ i = .int .i64 k ∧ Below w.heap.size w wr ∧ (∀ j, j < k → ∀ o, s[j]? = some o → (o.tx == t && isEnd o) = false)) (fun i _ => n - (intOf i).toNat)
  case atStart => exact ⟨0, Nat.zero_le _, rfl, Below.refl _ _, by omega⟩
  case round =>
    obtain ⟨k, hk, rfl, hb, hno⟩ := hrel
    by_cases hlt : k < n
    · obtain ⟨b, off, o, rfl, hbl, ho, c0, c1, c2⟩ := (HX.out.below hb (Nat.le_refl _)).at_ hlt
      have HT : Hid ((o.tx == t && isEnd o) = true → endOf s t = o.kind) := fun h => endOf_hit s t k o ho hno h
      have HN : Hid ((o.tx == t && isEnd o) = false → ∀ j, j < k + 1 → ∀ o, s[j]? = some o → (o.tx == t && isEnd o) = false) := fun h => no_snoc ho hno h
      clear hno ho
      obtain ⟨tx, kd, it⟩ := o
      by_cases h1 : tx = t
      · subst h1
        cases h2 : isEnd ⟨tx, kd, it⟩
        all_goals
          go_wp2_with (go_at_call 129; refine (ends_any ⟨tx, kd, it⟩ _).mono ?_; rintro e w' ⟨rfl, hb2⟩; obtain ⟨bc2, bf2⟩ := bcell hb2; have hsz : wr.heap.size < w'.heap.size := by (have := hb2.size; (try simp at this); omega))
        · go_roundw
          case rel => exact ⟨k + 1, by omega, by go_num, hb.trans ((by (repeat (first | exact Below.refl _ _ | assumption | refine B_alloc ?_ (Nat.le_refl _) _ | refine Below.drew ?_ | refine B_drewN ?_ _ | refine B_after (by assumption) ?_ | (refine B_set ?_ ?_; rotate_left; (first | exact Nat.le_refl _ | (simp; done) | (simp at *; omega))))) : Below wr.heap.size wr _).mono hb.size), HN.out (by simp [h2])⟩
          case measure => simp [intOf]; omega
        · go_ret
          exact ⟨ret_int (HT.out (by simp [h2])).symm, hb.trans ((by (repeat (first | exact Below.refl _ _ | assumption | refine B_alloc ?_ (Nat.le_refl _) _ | refine Below.drew ?_ | refine B_drewN ?_ _ | refine B_after (by assumption) ?_ | (refine B_set ?_ ?_; rotate_left; (first | exact Nat.le_refl _ | (simp; done) | (simp at *; omega))))) : Below wr.heap.size wr _).mono hb.size)⟩
      · go_wp2_with fail
        go_roundw
        case rel => exact ⟨k + 1, by omega, by go_num, hb.trans ((by (repeat (first | exact Below.refl _ _ | assumption | refine B_alloc ?_ (Nat.le_refl _) _ | refine Below.drew ?_ | refine B_drewN ?_ _ | refine B_after (by assumption) ?_ | (refine B_set ?_ ?_; rotate_left; (first | exact Nat.le_refl _ | (simp; done) | (simp at *; omega))))) : Below wr.heap.size wr _).mono hb.size), HN.out (by simp [h1])⟩
        case measure => simp [intOf]; omega
    · have HE := Lib.hid (endOf_none s t (fun j hj => hno j (by omega)))
      clear hno
      go_wp2_with fail
      go_ret
      exact ⟨ret_int HE.out.symm, hb⟩

theorem all_snoc {p : Nat → Bool} {k : Nat} (h : ∀ j, j < k → p j = true) (hk : p k = true) : ∀ j, j < k + 1 → p j = true := fun j hj => by
  by_cases e : j = k
  · subst e; exact hk
  · exact h j (by omega)
theorem validS_bad {s : List OpV} {k : Nat} (hk : k < s.length) (h : goodAt s k = false) : validS s = false := by
  unfold validS
  have : (List.range s.length).all (goodAt s) = false := by
    rw [List.all_eq_false]
    exact ⟨k, List.mem_range.2 hk, by simp [h]⟩
  rw [this, Bool.and_false]
theorem validS_end {s : List OpV} (h : ∀ j, j < s.length → goodAt s j = true) : validS s = decide (s.length ≤ 16) := by
  unfold validS
  have : (List.range s.length).all (goodAt s) = true := by
    rw [List.all_eq_true]
    intro j hj
    exact h j (List.mem_range.1 hj)
  rw [this, Bool.and_true]

set_option maxHeartbeats 1000000 in
theorem ValidSchedule_any (A : Option Addr) (n c : Nat) (s : List OpV) (w : World) (hx : ROps w A n s) (hnc : n ≤ c) :
    Calls Try.prog 33 #[.slice A n c] w fun e w' => e = .returned (.bool (validS s)) ∧ Below w.heap.size w w' := by
  have hn := hx.2.1
  have hl := hx.1
  have HX := Lib.hid hx
  clear hx
  go_enter Try.func33, Try.ntmps33
  go_wp2
  go_loopw [7] (fun i wr => ∃ k : Nat, k ≤ n ∧ i = .int .i64 k ∧ Below w.heap.size w wr ∧ (∀ j, j < k → goodAt s j = true)) (fun i _ => n - (intOf i).toNat)
  case atStart => exact ⟨0, Nat.zero_le _, rfl, Below.refl _ _, by omega⟩
  case round =>
    obtain ⟨k, hk, rfl, hb, hno⟩ := hrel
    by_cases hlt : k < n
    · have hxr := HX.out.below hb (Nat.le_refl _)
      obtain ⟨b, off, o, rfl, hbl, ho, c0, c1, c2⟩ := hxr.at_ hlt
      have HX2 := Lib.hid hxr
      have hg : goodAt s k = (validOp o && noEnd (s.take k) o.tx) := by unfold goodAt; rw [ho]
      have hec := endOf_cases (s.take k) o.tx
      obtain ⟨ev, he⟩ : ∃ ev, endOf (s.take k) o.tx = ev := ⟨_, rfl⟩
      rw [he] at hec
      have HE := Lib.hid he
      clear he ho hxr
      cases hv : validOp o
      · have HB := Lib.hid (validS_bad (s := s) (k := k) (by omega) (by rw [hg, hv]; rfl))
        clear hg hec
        obtain ⟨tx, kd, it⟩ := o
        have hv' : ∀ W : World, Calls Try.prog 93 #[.agg #[.int .i64 tx, .int .i64 kd, .int .i64 it]] W fun e w' => e = .returned (.bool false) ∧ Below W.heap.size W w' := fun W => by
          have := valid_any ⟨tx, kd, it⟩ W; rw [hv] at this; exact this
        have HV := Lib.hid hv'
        clear hv hv'
        go_wp2_with fail
        obtain ⟨W, hW⟩ : ∃ W : World, W = wr.alloc (.cells #[.int .i64 tx, .int .i64 kd, .int .i64 it] 92) := ⟨_, rfl⟩
        rw [← hW]
        obtain ⟨L0, L1, L2, hbW, hWs⟩ := op_box hW
        clear hW
        refine region_later (by kernel_rfl) (by kernel_rfl) ?_
        repeat (go_big_quiet_step ((go_at_call 93; exact later_call _ (HV.out _))))
        refine wpQuiet_nil ?_
        rintro _ ⟨u, rfl⟩
        go_wp2_with fail
        go_ret
        exact ⟨ret_bool HB.out.symm, Later.trans hb hbW u⟩
      · obtain ⟨tx, kd, it⟩ := o
        have hv' : ∀ W : World, Calls Try.prog 93 #[.agg #[.int .i64 tx, .int .i64 kd, .int .i64 it]] W fun e w' => e = .returned (.bool true) ∧ Below W.heap.size W w' := fun W => by
          have := valid_any ⟨tx, kd, it⟩ W; rw [hv] at this; exact this
        have HV := Lib.hid hv'
        have hE' : ∀ (W : World), ROps W (some ⟨b, off, none⟩) k (s.take k) → Calls Try.prog 94 #[.slice (some ⟨b, off, none⟩) k c, .int .i64 tx] W fun e w' => e = .returned (.int .i64 ev) ∧ Below W.heap.size W w' := fun W h => by
          have := endOf_any _ k c _ tx W h; rw [HE.out] at this; exact this
        have HE2 := Lib.hid hE'
        rw [hv, Bool.true_and] at hg
        have HG := Lib.hid hg
        have HN := Lib.hid hno
        clear hv hv' hE' hg hno
        have hkc : k ≤ c := by omega
        by_cases h0 : 0 ≤ ev
        · have hq : noEnd (s.take k) tx = false := by
            rcases hec with h | h
            · omega
            · exact h.2
          have HQ := Lib.hid hq
          clear hq
          go_wp2_with fail
          obtain ⟨W, hW⟩ : ∃ W : World, W = wr.alloc (.cells #[.int .i64 tx, .int .i64 kd, .int .i64 it] 92) := ⟨_, rfl⟩
          rw [← hW]
          obtain ⟨L0, L1, L2, hbW, hWs⟩ := op_box hW
          clear hW
          refine region_later (by kernel_rfl) (by kernel_rfl) ?_
          repeat (go_big_quiet_step ((first | (go_at_call 93; exact later_call _ (HV.out _)) | (go_at_call 94; exact later_call _ (HE2.out _ (((HX2.out.take (by omega)).below hbW (Nat.le_refl _)).later _))))))
          refine wpQuiet_nil ?_
          rintro _ ⟨u, rfl⟩
          go_wp2_with fail
          go_ret
          exact ⟨ret_bool (validS_bad (k := k) (by omega) (by rw [HG.out]; exact HQ.out)).symm, Later.trans hb hbW u⟩
        · have hq : noEnd (s.take k) tx = true := by
            rcases hec with h | h
            · exact h.2
            · omega
          have HQ := Lib.hid hq
          clear hq
          go_wp2_with fail
          obtain ⟨W, hW⟩ : ∃ W : World, W = wr.alloc (.cells #[.int .i64 tx, .int .i64 kd, .int .i64 it] 92) := ⟨_, rfl⟩
          rw [← hW]
          obtain ⟨L0, L1, L2, hbW, hWs⟩ := op_box hW
          clear hW
          refine region_later (by kernel_rfl) (by kernel_rfl) ?_
          repeat (go_big_quiet_step ((first | (go_at_call 93; exact later_call _ (HV.out _)) | (go_at_call 94; exact later_call _ (HE2.out _ (((HX2.out.take (by omega)).below hbW (Nat.le_refl _)).later _))))))
          refine wpQuiet_nil ?_
          rintro _ ⟨u, rfl⟩
          go_wp2_with fail
          go_roundw
          case rel => exact ⟨k + 1, by omega, by go_num, Later.trans hb hbW u, all_snoc HN.out (by rw [HG.out]; exact HQ.out)⟩
          case measure => simp [intOf]; omega
    · have HE := Lib.hid (validS_end (s := s) (fun j hj => hno j (by omega)))
      clear hno
      go_wp2_with fail
      go_ret
      exact ⟨ret_bool (by rw [HE.out, hl]; exact decide_eq_decide.2 ⟨fun h => by omega, fun h => by omega⟩), hb⟩
end Go.Proofs.Ytcakjhappchlmaa
namespace Go.Proofs.Ytcakjhappchlmaa
open Go.RowKit
set_option linter.unusedVariables false

theorem opInfo : (Try.prog.info? 92).map (fun i => (i.zero, i.size, i.bytes)) = some (some (.agg #[.int .i64 0, .int .i64 0, .int .i64 0]), 3, 24) := by kernel_rfl
theorem intInfo : (Try.prog.info? 3).map (fun i => (i.zero, i.size, i.bytes)) = some (some (.int .i64 0), 1, 8) := by kernel_rfl

/-- A source of cells: m elements of 'size' cells at address A. -/
def Src (w : World) (size : Nat) (A : Option Addr) (m : Nat) (news : List Value) : Prop :=
  news.length = m * size ∧ (∀ u ∈ news, u.oneCell' = true) ∧ (0 < m → ∃ ad, A = some ad ∧ ∀ j u, news[j]? = some u → w.cell? (ad.add j) = some u)

section
variable {P : Program} {w : World}

theorem run_app_nil (base : Nat) (t ty e : TypeId) (i : TypeInfo) (size : Nat) (ht : P.underlying t = some (.slice e)) (hi : P.info? e = some i)
    (v : Value) (n : Nat) (xs : List Value) (hown : w.ownsRow base e size v n xs) (c : Nat) : (Builtin.append_ #[t, t] ty #[v, .slice none 0 c]).run P w = .ok v w := by
  rcases hown.2 with ⟨rfl, rfl⟩ | ⟨g, cap, cur, rfl, _, _, hnc, _⟩
  · simp [Builtin.append_, run_underlying ht, sizeOf, typeInfo, hi, Builtin.lenOf, Builtin.firstCells]
  · simp [Builtin.append_, run_underlying ht, sizeOf, typeInfo, hi, Builtin.lenOf, Builtin.firstCells, hnc, storeCells]

theorem run_app (base : Nat) (t ty e : TypeId) (i : TypeInfo) (z : Value) (size bytes : Nat) (ht : P.underlying t = some (.slice e)) (hi : P.info? e = some i) (hz : i.zero = some z)
    (hsize : i.size = size) (hby : i.bytes = bytes) (hzs : z.cells.size = size) (hsz : 0 < size)
    (v : Value) (n : Nat) (xs : List Value) (hown : w.ownsRow base e size v n xs)
    (A : Option Addr) (m c : Nat) (news : List Value) (hr : Src w size A m news)
    (h63 : n + m ≤ maxLen) (hbytes : (n + m) * bytes ≤ 140737488355328) (hbase : base ≤ w.heap.size) :
    ∃ v' w', (Builtin.append_ #[t, t] ty #[v, .slice A m c]).run P w = .ok v' w' ∧ w'.ownsRow base e size v' (n + m) (xs ++ news) ∧ w.grownBy w' v.ownBlock ∧
      (v'.ownBlock = v.ownBlock ∨ v'.ownBlock = some w.heap.size) := by
  obtain ⟨hl, h1, hc⟩ := hr
  rcases A with _ | ad
  · have hm : m = 0 := by
      rcases Nat.eq_zero_or_pos m with h0 | h0
      · exact h0
      · obtain ⟨ad, h, _⟩ := hc h0
        cases h
    subst hm
    have hn : news = [] := List.eq_nil_of_length_eq_zero (by simpa using hl)
    subst hn
    exact ⟨v, w, run_app_nil base t ty e i size ht hi v n xs hown c, by simpa using hown, World.grownBy.refl w _, .inl rfl⟩
  · have hcells : ∀ j u, news[j]? = some u → w.cell? (ad.add j) = some u := by
      intro j u hu
      rcases Nat.eq_zero_or_pos m with h0 | h0
      · subst h0
        have hn : news = [] := List.eq_nil_of_length_eq_zero (by simpa using hl)
        subst hn
        simp at hu
      · obtain ⟨ad', h, hc'⟩ := hc h0
        injection h with h
        subst h
        exact hc' j u hu
    obtain ⟨v', w', hrun, h2, h3, _, h5⟩ := run_append_own_at (P := P) w base t ty e i z size bytes ht hi hz hsize hby hzs hsz v n xs hown ad m c news hl hcells h1 h63 hbytes hbase
    exact ⟨v', w', hrun, h2, h3, h5⟩

theorem wpList_app {ops : Array Oper} {rest : List Oper} {o : Oper} {a : Act} {Q : Exit → Act → World → Prop} (hgd : o.guard = none) (s x : Operand) (t : TypeId)
    (ho : o.op = .call { callee := .builtin .append, args := #[s, x], argTypes := #[t, t] })
    (base : Nat) (e : TypeId) (i : TypeInfo) (z : Value) (size bytes : Nat) (ht : P.underlying t = some (.slice e)) (hi : P.info? e = some i) (hz : i.zero = some z)
    (hsize : i.size = size) (hby : i.bytes = bytes) (hzs : z.cells.size = size) (hsz : 0 < size)
    (v : Value) (n : Nat) (xs : List Value) (hs : a.eval s = v) (hown : w.ownsRow base e size v n xs)
    (A : Option Addr) (m c : Nat) (news : List Value) (hx : a.eval x = .slice A m c) (hr : Src w size A m news)
    (h63 : n + m ≤ maxLen) (hbytes : (n + m) * bytes ≤ 140737488355328) (hbase : base ≤ w.heap.size)
    (h : ∀ v' w', w'.ownsRow base e size v' (n + m) (xs ++ news) → w.grownBy w' v.ownBlock → (v'.ownBlock = v.ownBlock ∨ v'.ownBlock = some w.heap.size) → wpList P ops Q rest (a.put o.dst v') w') : wpList P ops Q (o :: rest) a w := by
  refine wpList_plain hgd fun _ hK => ?_
  obtain ⟨v', w', hrun, h2, h3, h4⟩ := run_app (P := P) base t o.type e i z size bytes ht hi hz hsize hby hzs hsz v n xs hown A m c news hr h63 hbytes hbase
  unfold Oper.wp execOp
  simp only [ho, resolve, invoke, builtin, Sem.run_bind, Sem.run_pure, Result.andThen_ok, List.map_toArray, List.map_cons, List.map_nil, hs, hx, hrun]
  exact hK _ _ (h v' w' h2 h3 h4)
end

theorem opCells_find (ys : List OpV) : ∀ (j : Nat) (u : Value), (opCells ys)[j]? = some u →
    ∃ (i : Nat) (o : OpV), ys[i]? = some o ∧ ((j = i * 3 ∧ u = .int .i64 o.tx) ∨ (j = i * 3 + 1 ∧ u = .int .i64 o.kind) ∨ (j = i * 3 + 2 ∧ u = .int .i64 o.item)) := by
  induction ys with
  | nil => intro j u h; simp [opCells] at h
  | cons y r ih =>
    intro j u h
    match j, h with
    | 0, h => exact ⟨0, y, rfl, .inl ⟨rfl, by simpa [opCells, eq_comm] using h⟩⟩
    | 1, h => exact ⟨0, y, rfl, .inr (.inl ⟨rfl, by simpa [opCells, eq_comm] using h⟩)⟩
    | 2, h => exact ⟨0, y, rfl, .inr (.inr ⟨rfl, by simpa [opCells, eq_comm] using h⟩)⟩
    | j + 3, h =>
      obtain ⟨i, o, h1, h2⟩ := ih j u (by simpa [opCells] using h)
      exact ⟨i + 1, o, by simpa using h1, by rcases h2 with ⟨a, b⟩ | ⟨a, b⟩ | ⟨a, b⟩ <;> simp [b] <;> omega⟩
theorem addr_add (b off j : Nat) : (⟨b, off, none⟩ : Addr).add j = ⟨b, off + j, none⟩ := by
  unfold Addr.add
  split
  · subst_vars; rfl
  · rfl
theorem ROps.src {w : World} {A : Option Addr} {m : Nat} {ys : List OpV} (h : ROps w A m ys) : Src w 3 A m (opCells ys) := by
  obtain ⟨h1, h2, h3⟩ := h
  refine ⟨by rw [length_opCells, h1], opCells_one ys, fun hm => ?_⟩
  obtain ⟨b, off, hA, _, hc⟩ := h3 hm
  refine ⟨_, hA, fun j u hu => ?_⟩
  obtain ⟨i, o, ho, h⟩ := opCells_find ys j u hu
  obtain ⟨c0, c1, c2⟩ := hc i o ho
  rw [addr_add]
  rcases h with ⟨rfl, rfl⟩ | ⟨rfl, rfl⟩ | ⟨rfl, rfl⟩
  · exact c0
  · exact c1
  · exact c2
theorem RInts.src {w : World} {A : Option Addr} {m : Nat} {ys : List Int} (h : RInts w A m ys) : Src w 1 A m (intCells ys) := by
  obtain ⟨h1, h2, h3⟩ := h
  refine ⟨by simp [intCells, h1], intCells_one ys, fun hm => ?_⟩
  obtain ⟨b, off, hA, _, hc⟩ := h3 hm
  refine ⟨_, hA, fun j u hu => ?_⟩
  rw [addr_add]
  simp only [intCells, List.getElem?_map, Option.map_eq_some_iff] at hu
  obtain ⟨x, hx, rfl⟩ := hu
  exact hc j x hx

section
variable {w : World} {ops : Array Oper} {rest : List Oper} {o : Oper} {a : Act} {Q : Exit → Act → World → Prop}
/-- append of operations. -/
theorem app_ops (s x : Operand) {base : Nat} {v : Value} {n : Nat} {xs : List OpV} (hown : w.ownsRow base 92 3 v n (opCells xs)) (hbase : base ≤ w.heap.size)
    {A : Option Addr} {m c : Nat} {ys : List OpV} (hr : ROps w A m ys) (hn : n ≤ 1099511627776)
    (hgd : o.guard = none) (ho : o.op = .call { callee := .builtin .append, args := #[s, x], argTypes := #[38, 38] }) (hs : a.eval s = v) (hx : a.eval x = .slice A m c)
    (h : ∀ v' w', w'.ownsRow base 92 3 v' (n + m) (opCells (xs ++ ys)) → w.grownBy w' v.ownBlock → (v'.ownBlock = v.ownBlock ∨ v'.ownBlock = some w.heap.size) → wpList Try.prog ops Q rest (a.put o.dst v') w') : wpList Try.prog ops Q (o :: rest) a w := by
  obtain ⟨i0, hi, hz0, hz1, hz2⟩ := info_parts opInfo
  have hm := hr.2.1
  refine wpList_app hgd s x _ ho base _ i0 _ 3 24 Try.underlying38 hi hz0 hz1 hz2 rfl (by decide) v n _ hs hown A m c _ hx hr.src (by simp only [maxLen]; omega) (by omega) hbase ?_
  intro v' w' h1 h2 h3
  rw [← opCells_append] at h1
  exact h v' w' h1 h2 h3
/-- append of integers. -/
theorem app_ints (s x : Operand) {base : Nat} {v : Value} {n : Nat} {xs : List Int} (hown : w.ownsRow base 3 1 v n (intCells xs)) (hbase : base ≤ w.heap.size)
    {A : Option Addr} {m c : Nat} {ys : List Int} (hr : RInts w A m ys) (hn : n ≤ 1099511627776)
    (hgd : o.guard = none) (ho : o.op = .call { callee := .builtin .append, args := #[s, x], argTypes := #[34, 34] }) (hs : a.eval s = v) (hx : a.eval x = .slice A m c)
    (h : ∀ v' w', w'.ownsRow base 3 1 v' (n + m) (intCells (xs ++ ys)) → w.grownBy w' v.ownBlock → (v'.ownBlock = v.ownBlock ∨ v'.ownBlock = some w.heap.size) → wpList Try.prog ops Q rest (a.put o.dst v') w') : wpList Try.prog ops Q (o :: rest) a w := by
  obtain ⟨i0, hi, hz0, hz1, hz2⟩ := info_parts intInfo
  have hm := hr.2.1
  refine wpList_app hgd s x _ ho base _ i0 _ 1 8 Try.underlying34 hi hz0 hz1 hz2 rfl (by decide) v n _ hs hown A m c _ hx hr.src (by simp only [maxLen]; omega) (by omega) hbase ?_
  intro v' w' h1 h2 h3
  have e : intCells xs ++ intCells ys = intCells (xs ++ ys) := by simp [intCells]
  rw [e] at h1
  exact h v' w' h1 h2 h3
end

/-- A literal slice of integers, as it lies in its new block. -/
theorem RInts.lit (w : World) (xs : List Int) (t : TypeId) (h : xs.length ≤ 1099511627776) : RInts (w.alloc (.cells (intCells xs).toArray t)) (some ⟨w.heap.size, 0, none⟩) xs.length xs := by
  refine ⟨rfl, h, fun _ => ⟨w.heap.size, 0, rfl, by simp, fun i x hx => ?_⟩⟩
  have := cell_of_row (w.alloc (.cells (intCells xs).toArray t)) w.heap.size (0 + i) _ t (0, 0) (heap_alloc_new w _)
  rw [this]
  simp [intCells, hx]
theorem lit1 {w : World} {H : Nat} (hH : w.heap.size = H) (a : Int) : RInts (w.alloc (.cells #[.int .i64 a] 3)) (some ⟨H, 0, none⟩) 1 [a] := by subst hH; exact RInts.lit w [a] _ (by simp)
theorem ROps.lit1 (w : World) (o : OpV) (t : TypeId) : ROps (w.alloc (.cells #[.int .i64 o.tx, .int .i64 o.kind, .int .i64 o.item] t)) (some ⟨w.heap.size, 0, none⟩) 1 [o] := by
  refine ⟨rfl, by omega, fun _ => ⟨w.heap.size, 0, rfl, by simp, fun i x hx => ?_⟩⟩
  match i, hx with
  | 0, hx =>
    simp at hx; subst hx
    have := fun k => cell_of_row (w.alloc (.cells #[.int .i64 o.tx, .int .i64 o.kind, .int .i64 o.item] t)) w.heap.size k _ t (0, 0) (heap_alloc_new w _)
    exact ⟨this _, this _, this _⟩
#print axioms app_ops
end Go.Proofs.Ytcakjhappchlmaa
namespace Go.Proofs.Ytcakjhappchlmaa
open Go.RowKit Go.BigFrame
set_option linter.unusedVariables false

/-- Function F is entered by a call. -/
def Runs (F : FuncId) : Prop := ∀ args w, (callFunc F args).run Try.prog w = .ok (.enter F args) w
theorem runs_of {f : FuncId} {fn : Func} {c : Code} (hf : Try.prog.funcs[f]? = some fn) (hname : (fn.name == "runtime.NumGoroutine") = false) (hb : fn.body = some c) : Runs f :=
  by
  intro args w
  have h1 : fn.name ≠ "runtime.NumGoroutine" := by simpa using hname
  simp [callFunc, hf, h1, hb]

/-- A closure that answers p of each of the operations s, in whatever the world may become. -/
def ClosOp (w : World) (F : FuncId) (caps : Array Value) (s : List OpV) (p : OpV → Bool) : Prop := Runs F ∧
  ∀ (W : World) (o : OpV), Below w.heap.size w W → o ∈ s → Calls Try.prog F (#[o.val] ++ caps) W fun e w' => e = .returned (.bool (p o)) ∧ Below W.heap.size W w'
def ClosInt (w : World) (F : FuncId) (caps : Array Value) (s : List Int) (p : Int → Bool) : Prop := Runs F ∧
  ∀ (W : World) (x : Int), Below w.heap.size w W → x ∈ s → Calls Try.prog F (#[.int .i64 x] ++ caps) W fun e w' => e = .returned (.bool (p x)) ∧ Below W.heap.size W w'

theorem find_none_all {α : Type} {s : List α} {p : α → Bool} (h : ∀ j, j < s.length → ∀ o, s[j]? = some o → p o = false) : s.any p = false := by
  rw [List.any_eq_false]
  intro o ho
  obtain ⟨j, hj⟩ := List.mem_iff_getElem?.1 ho
  have hl : j < s.length := by
    rcases Nat.lt_or_ge j s.length with h | h
    · exact h
    · rw [List.getElem?_eq_none h] at hj; cases hj
  simp [h j hl o hj]

def IdxPost {α : Type} (s : List α) (p : α → Bool) (w : World) (e : Ending) (w' : World) : Prop :=
  Below w.heap.size w w' ∧ ((s.any p = false ∧ e = .returned (.int .i64 (-1))) ∨ (s.any p = true ∧ ∃ k : Nat, k < s.length ∧ (∃ o, s[k]? = some o ∧ p o = true) ∧ (∀ j, j < k → ∀ o, s[j]? = some o → p o = false) ∧ e = .returned (.int .i64 k)))


set_option maxRecDepth 100000 in
set_option maxHeartbeats 400000 in
theorem IndexFuncOp_any (A : Option Addr) (n c : Nat) (s : List OpV) (F : FuncId) (caps : Array Value) (p : OpV → Bool) (w : World) (hx : ROps w A n s) (hf : ClosOp w F caps s p) :
    Calls Try.prog 151 #[.slice A n c, .func (.func F) #[] caps] w (IdxPost s p w) := by
  have hn := hx.2.1
  have hl := hx.1
  have HX := Lib.hid hx
  have HF := Lib.hid hf
  clear hx hf
  go_enter Try.func151, Try.ntmps151
  go_wp2_with fail
  go_loopw [8] (fun i wr => ∃ k : Nat, k ≤ n ∧ i = .int .i64 k ∧ Below w.heap.size w wr ∧ (∀ j, j < k → ∀ o, s[j]? = some o → p o = false)) (fun i _ => n - (intOf i).toNat)
  case atStart => exact ⟨0, Nat.zero_le _, rfl, Below.refl _ _, by omega⟩
  case round =>
    obtain ⟨k, hk, rfl, hb, hno⟩ := hrel
    by_cases hlt : k < n
    · obtain ⟨b, off, o, rfl, hbl, ho, c0, c1, c2⟩ := (HX.out.below hb (Nat.le_refl _)).at_ hlt
      have hcl := HF.out.2 wr o hb (List.mem_of_getElem? ho)
      have hrun := HF.out.1
      unfold Runs at hrun
      unfold OpV.val at hcl
      have HN : Hid (p o = false → ∀ j, j < k + 1 → ∀ o, s[j]? = some o → p o = false) := fun h => no_snoc ho hno h
      have HT : Hid (p o = true → ∀ w', Below w.heap.size w w' → IdxPost s p w (.returned (.int .i64 k)) w') := fun h w' hb' =>
        ⟨hb', .inr ⟨List.any_eq_true.2 ⟨o, List.mem_of_getElem? ho, h⟩, k, by omega, ⟨o, ho, h⟩, hno, rfl⟩⟩
      have HC := Lib.hid hcl
      clear hno ho hcl
      cases hp : p o
      · rw [hp] at HC
        go_wp2_with fail
        refine (HC.out).mono ?_
        rintro e w1 ⟨rfl, hb1⟩
        go_wp2_with fail
        go_roundw
        case rel => exact ⟨k + 1, by omega, by go_num, hb.trans (hb1.mono hb.size), HN.out hp⟩
        case measure => simp [intOf]; omega
      · rw [hp] at HC
        go_wp2_with fail
        refine (HC.out).mono ?_
        rintro e w1 ⟨rfl, hb1⟩
        go_wp2_with fail
        go_ret
        exact HT.out hp _ (hb.trans (hb1.mono hb.size))
    · have HE := Lib.hid (find_none_all (s := s) (p := p) (fun j hj => hno j (by omega)))
      clear hno
      go_wp2_with fail
      go_ret
      exact ⟨hb, .inl ⟨HE.out, rfl⟩⟩


set_option maxHeartbeats 400000 in
theorem ContainsFuncOp_any (A : Option Addr) (n c : Nat) (s : List OpV) (F : FuncId) (caps : Array Value) (p : OpV → Bool) (w : World) (hx : ROps w A n s) (hf : ClosOp w F caps s p) :
    Calls Try.prog 126 #[.slice A n c, .func (.func F) #[] caps] w fun e w' => e = .returned (.bool (s.any p)) ∧ Below w.heap.size w w' := by
  have HI := Lib.hid (IndexFuncOp_any A n c s F caps p w hx hf)
  clear hx hf
  go_enter Try.func126, Try.ntmps126
  go_wp2_with fail
  refine (HI.out).mono ?_
  rintro e w1 ⟨hb, ⟨ha, rfl⟩ | ⟨ha, k, hk, _, _, rfl⟩⟩
  · have HA := Lib.hid ha
    clear ha
    go_wp2_with fail
    go_ret
    exact ⟨ret_bool HA.out.symm, hb⟩
  · have HA := Lib.hid ha
    clear ha
    go_wp2_with fail
    go_ret
    exact ⟨ret_bool HA.out.symm, hb⟩


end Go.Proofs.Ytcakjhappchlmaa
namespace Go.Proofs.Ytcakjhappchlmaa
open Go.RowKit Go.BigFrame
set_option linter.unusedVariables false

/-- A slice of operations that lies in memory made since w0, from its block's head on, free to be written. -/
def FreshOps (w0 w : World) (A : Option Addr) (n : Nat) (xs : List OpV) : Prop :=
  ROps w A n xs ∧ ∀ ad, A = some ad → ∃ b cur, ad = ⟨b, 0, none⟩ ∧ w0.heap.size ≤ b ∧ w.heap[b]? = some (.cells cur 92 (0, 0)) ∧ n * 3 ≤ cur.size
def FreshInts (w0 w : World) (A : Option Addr) (n : Nat) (xs : List Int) : Prop :=
  RInts w A n xs ∧ ∀ ad, A = some ad → ∃ b cur, ad = ⟨b, 0, none⟩ ∧ w0.heap.size ≤ b ∧ w.heap[b]? = some (.cells cur 3 (0, 0)) ∧ n ≤ cur.size
/-- The call hands back these operations in new memory and changes nothing. -/
def RetOps (w0 : World) (xs : List OpV) (e : Ending) (w : World) : Prop :=
  ∃ A c, e = .returned (.slice A xs.length c) ∧ xs.length ≤ c ∧ FreshOps w0 w A xs.length xs ∧ Below w0.heap.size w0 w
def RetInts (w0 : World) (xs : List Int) (e : Ending) (w : World) : Prop :=
  ∃ A c, e = .returned (.slice A xs.length c) ∧ xs.length ≤ c ∧ FreshInts w0 w A xs.length xs ∧ Below w0.heap.size w0 w

theorem FreshOps.none_ {w0 w : World} : FreshOps w0 w none 0 [] := ⟨ROps.nil, fun ad h => by cases h⟩
theorem FreshInts.none_ {w0 w : World} : FreshInts w0 w none 0 [] := ⟨RInts.nil, fun ad h => by cases h⟩
theorem RetOps.nil {w0 w : World} (h : Below w0.heap.size w0 w) : RetOps w0 [] (.returned (.slice none 0 0)) w := ⟨none, 0, rfl, Nat.le_refl _, FreshOps.none_, h⟩
theorem RetInts.nil {w0 w : World} (h : Below w0.heap.size w0 w) : RetInts w0 [] (.returned (.slice none 0 0)) w := ⟨none, 0, rfl, Nat.le_refl _, FreshInts.none_, h⟩

theorem FreshOps.of_own {w0 w : World} {base n c : Nat} {A : Option Addr} {xs : List OpV} (h : w.ownsRow base 92 3 (.slice A n c) n (opCells xs)) (hb : w0.heap.size ≤ base) (hn : n ≤ 1099511627776) : FreshOps w0 w A n xs := by
  refine ⟨ROps.of_own h hn, fun ad had => ?_⟩
  subst had
  rcases h.2 with ⟨h1, h2⟩ | ⟨g, cap, cur, h1, h2, h3, h4, h5, h6, h7⟩
  · cases h1
  · injection h1 with ha _ hc
    injection ha with ha
    subst ha
    exact ⟨g, cur, rfl, by omega, h3, by rw [h6]; omega⟩
theorem FreshInts.of_own {w0 w : World} {base n c : Nat} {A : Option Addr} {xs : List Int} (h : w.ownsRow base 3 1 (.slice A n c) n (intCells xs)) (hb : w0.heap.size ≤ base) (hn : n ≤ 1099511627776) : FreshInts w0 w A n xs := by
  refine ⟨RInts.of_own h hn, fun ad had => ?_⟩
  subst had
  rcases h.2 with ⟨h1, h2⟩ | ⟨g, cap, cur, h1, h2, h3, h4, h5, h6, h7⟩
  · cases h1
  · injection h1 with ha _ hc
    injection ha with ha
    subst ha
    exact ⟨g, cur, rfl, by omega, h3, by rw [h6]; omega⟩
theorem RetOps.mk {w0 w : World} {xs : List OpV} {A : Option Addr} {n c : Nat} (hn : xs.length = n) (hc : n ≤ c) (h : FreshOps w0 w A n xs) (hb : Below w0.heap.size w0 w) : RetOps w0 xs (.returned (.slice A n c)) w := by
  subst hn; exact ⟨A, c, rfl, hc, h, hb⟩
theorem RetInts.mk {w0 w : World} {xs : List Int} {A : Option Addr} {n c : Nat} (hn : xs.length = n) (hc : n ≤ c) (h : FreshInts w0 w A n xs) (hb : Below w0.heap.size w0 w) : RetInts w0 xs (.returned (.slice A n c)) w := by
  subst hn; exact ⟨A, c, rfl, hc, h, hb⟩
theorem own_below {w w' : World} {base : Nat} {e : TypeId} {size n : Nat} {v : Value} {xs : List Value} (h : w.ownsRow base e size v n xs) (hb : Below w.heap.size w w') : w'.ownsRow base e size v n xs :=
  World.ownsRow.kept h (row := none) ⟨hb.os, hb.tape, hb.output, hb.size, fun k hk _ => hb.block k hk⟩ (by cases v.ownBlock <;> simp)
theorem Below.own {w0 w w' : World} {base : Nat} {e : TypeId} {size n : Nat} {v : Value} {xs : List Value} (h : Below w0.heap.size w0 w) (hown : w.ownsRow base e size v n xs) (hb : w0.heap.size ≤ base) (hg : w.grownBy w' v.ownBlock) : Below w0.heap.size w0 w' :=
  h.grown hg h.size fun k hk => Nat.le_trans hb (World.ownsRow.lt hown k hk).1
theorem own_lenOps {w : World} {base n : Nat} {e : TypeId} {v : Value} {xs : List OpV} (h : w.ownsRow base e 3 v n (opCells xs)) : xs.length = n := by
  have := h.1; rw [length_opCells] at this; omega
theorem own_lenInts {w : World} {base n : Nat} {e : TypeId} {v : Value} {xs : List Int} (h : w.ownsRow base e 1 v n (intCells xs)) : xs.length = n := by
  have := h.1; simp only [intCells, List.length_map] at this; omega
theorem own_form2 {w : World} {base : Nat} {e : TypeId} {size n : Nat} {v : Value} {xs : List Value} (h : w.ownsRow base e size v n xs) : ∃ A c, v = .slice A n c ∧ n ≤ c := by
  rcases h.2 with ⟨h1, h2⟩ | ⟨g, cap, cur, h1, _, _, h4, _⟩
  · exact ⟨none, 0, by rw [h1, h2], by omega⟩
  · exact ⟨_, _, h1, h4⟩
theorem take_snoc {α : Type} {s : List α} {k : Nat} {o : α} (h : s[k]? = some o) : s.take (k + 1) = s.take k ++ [o] := by
  rw [List.take_add_one, h]; rfl

set_option maxRecDepth 100000 in
set_option maxHeartbeats 1000000 in
theorem kept_any (A : Option Addr) (n c : Nat) (s : List OpV) (F : FuncId) (caps : Array Value) (p : OpV → Bool) (w : World) (hx : ROps w A n s) (hf : ClosOp w F caps s p) :
    Calls Try.prog 130 #[.slice A n c, .func (.func F) #[] caps] w (RetOps w (s.filter p)) := by
  have hn := hx.2.1
  have hl := hx.1
  have HX := Lib.hid hx
  have HF := Lib.hid hf
  clear hx hf
  obtain ⟨i0, hi, hz0, hz1, hz2⟩ := info_parts opInfo
  go_enter Try.func130, Try.ntmps130
  go_wp2_with (at_make; refine wpList_make_own _ rfl _ _ 38 rfl w.heap.size 92 i0 _ 3 Try.underlying38 hi hz0 hz1 .i64 .i64 _ n rfl rfl rfl (by rw [hz2]; omega) (by unfold maxLen; omega) (Nat.le_refl _) ?_; intro w1 hown1 hg1)
  have hb1 : Below w.heap.size w w1 := ⟨hg1.os, hg1.tape, hg1.output, hg1.size, fun k hk => hg1.block k hk (by simp)⟩
  have HST := Lib.hid (And.intro hown1 hb1)
  clear hown1 hb1 hg1 hi hz0 hz1 hz2
  go_loopw [5, 13] (fun ov i wr => ∃ (k m : Nat), k ≤ n ∧ m ≤ k ∧ i = .int .i64 k ∧ Below w.heap.size w wr ∧ wr.ownsRow w.heap.size 92 3 ov m (opCells ((s.take k).filter p))) (fun _ i _ => n - (intOf i).toNat)
  case atStart => exact ⟨0, 0, Nat.zero_le _, Nat.le_refl _, rfl, HST.out.2, by simpa [opCells] using HST.out.1⟩
  case round =>
    clear HST
    obtain ⟨k, m, hk, hmk, rfl, hb, hown⟩ := hrel
    by_cases hlt : k < n
    · obtain ⟨b, off, o, rfl, hbl, ho, c0, c1, c2⟩ := (HX.out.below hb (Nat.le_refl _)).at_ hlt
      have hs := hb.size
      have hcl := HF.out.2 (wr.alloc (.cells #[.int .i64 o.tx, .int .i64 o.kind, .int .i64 o.item] 92)) o (hb.trans ((by (repeat (first | exact Below.refl _ _ | assumption | refine B_alloc ?_ (Nat.le_refl _) _ | refine Below.drew ?_ | refine B_drewN ?_ _ | refine B_after (by assumption) ?_ | (refine B_set ?_ ?_; rotate_left; (first | exact Nat.le_refl _ | (simp; done) | (simp at *; omega))))) : Below wr.heap.size wr _).mono hb.size)) (List.mem_of_getElem? ho)
      have hrun := HF.out.1
      unfold Runs at hrun
      have HT : Hid ((s.take (k + 1)).filter p = (s.take k).filter p ++ if p o = true then [o] else []) := by
        show _ = _
        rw [take_snoc ho, List.filter_append]; simp [List.filter_cons]
      unfold OpV.val at hcl
      have HC := Lib.hid hcl
      clear ho hcl
      obtain ⟨tx, kd, it⟩ := o
      go_wp2_with fail
      refine (HC.out).mono ?_
      rintro e w2 ⟨rfl, hb2⟩
      obtain ⟨bc2, bf2⟩ := bcell hb2
      have hsz : wr.heap.size < w2.heap.size := by (have := hb2.size; (try simp at this); omega)
      have hbw : Below w.heap.size w w2 := hb.trans (((by (repeat (first | exact Below.refl _ _ | assumption | refine B_alloc ?_ (Nat.le_refl _) _ | refine Below.drew ?_ | refine B_drewN ?_ _ | refine B_after (by assumption) ?_ | (refine B_set ?_ ?_; rotate_left; (first | exact Nat.le_refl _ | (simp; done) | (simp at *; omega))))) : Below wr.heap.size wr w2)).mono hb.size)
      have hown2 := own_below (hown.alloc _) hb2
      cases hp : p ⟨tx, kd, it⟩
      · rw [hp] at HT
        go_wp2_with fail
        go_roundw
        case rel => exact ⟨k + 1, m, by omega, by omega, by go_num, hbw, by rw [HT.out]; simpa using hown2⟩
        case measure => simp [intOf]; omega
      · rw [hp] at HT
        go_wp2_with (at_builtin; refine app_ops (.tmp 20) (.tmp 22) (hown2.alloc _) (by simp; omega) (ROps.lit1 _ ⟨_, _, _⟩ _) (by omega) rfl rfl rfl rfl ?_; intro v3 w3 hown3 hg3 hat3)
        have hb3 := Below.own hbw hown2 (Nat.le_refl _) (World.grownBy.trans (World.grownBy_alloc w2 _ _) hg3)
        go_wp2_with fail
        go_roundw
        case rel => exact ⟨k + 1, m + 1, by omega, by omega, by go_num, hb3, by rw [HT.out]; simpa using hown3⟩
        case measure => simp [intOf]; omega
    · obtain ⟨Ao, co, rfl, hmc⟩ := own_form2 hown
      have e : s.take k = s := List.take_of_length_le (by omega)
      rw [e] at hown
      have HO := Lib.hid (RetOps.mk (c := m) (own_lenOps hown) (Nat.le_refl _) (FreshOps.of_own hown (Nat.le_refl _) (by omega)) hb)
      clear hown e
      go_wp2_with fail
      go_ret
      exact HO.out
end Go.Proofs.Ytcakjhappchlmaa
namespace Go.Proofs.Ytcakjhappchlmaa
open Go.RowKit Go.BigFrame
set_option linter.unusedVariables false

def opsOf (s : List OpV) (t : Int) : List OpV := s.filter fun o => o.tx == t
def committed (s : List OpV) : List OpV := s.filter fun o => endOf s o.tx == 2
def hasTx (s : List OpV) (t : Int) : Bool := s.any fun o => o.tx == t
def txsOf (s : List OpV) : List Int := [0, 1, 2, 3].filter fun t => hasTx s t


set_option maxHeartbeats 400000 in
theorem txsOf1_any (o : OpV) (t : Int) (b : Nat) (w : World) (hc : w.cell? ⟨b, 0, none⟩ = some (.int .i64 t)) :
    Calls Try.prog 127 #[o.val, .pointer (some ⟨b, 0, none⟩)] w fun e w' => e = .returned (.bool (o.tx == t)) ∧ Below w.heap.size w w' := by
  obtain ⟨x, k, i⟩ := o
  unfold OpV.val
  have hbl : b < w.heap.size := block_lt_of_cell hc
  go_enter Try.func127, Try.ntmps127
  go_wp2_with fail
  go_ret
  exact ⟨rfl, (Below.refl _ _).alloc (Nat.le_refl _) _⟩


theorem runs_txsOf1 : Runs 127 := runs_of Try.func127 (by kernel_rfl) rfl
theorem runs_committedOf1 : Runs 131 := runs_of Try.func131 (by kernel_rfl) rfl

set_option maxHeartbeats 400000 in
theorem committedOf1_any (o : OpV) (A : Option Addr) (n c b : Nat) (s : List OpV) (w : World) (hc : w.cell? ⟨b, 0, none⟩ = some (.slice A n c)) (hx : ROps w A n s) :
    Calls Try.prog 131 #[o.val, .pointer (some ⟨b, 0, none⟩)] w fun e w' => e = .returned (.bool (endOf s o.tx == 2)) ∧ Below w.heap.size w w' := by
  obtain ⟨t, k, x⟩ := o
  unfold OpV.val
  have hbl : b < w.heap.size := block_lt_of_cell hc
  have HX := Lib.hid hx
  clear hx
  go_enter Try.func131, Try.ntmps131
  go_wp2_with fail
  refine (endOf_any A n c s t _ (HX.out.below ((Below.refl _ _).alloc (Nat.le_refl _) _) (Nat.le_refl _))).mono ?_
  rintro e w' ⟨rfl, hb⟩
  go_wp2_with fail
  go_ret
  exact ⟨rfl, by (repeat (first | exact Below.refl _ _ | assumption | refine B_alloc ?_ (Nat.le_refl _) _ | refine Below.drew ?_ | refine B_drewN ?_ _ | refine B_after (by assumption) ?_ | (refine B_set ?_ ?_; rotate_left; (first | exact Nat.le_refl _ | (simp; done) | (simp at *; omega)))))⟩

set_option maxHeartbeats 400000 in
theorem committedOf_any (A : Option Addr) (n c : Nat) (s : List OpV) (w : World) (hx : ROps w A n s) :
    Calls Try.prog 95 #[.slice A n c] w (RetOps w (committed s)) := by
  have hcl : ∀ W : World, W = w.alloc (.cells #[.slice A n c] 38) → ROps W A n s ∧ ClosOp W 131 #[.pointer (some ⟨w.heap.size, 0, none⟩)] s (fun o => endOf s o.tx == 2) ∧ Below w.heap.size w W := by
    intro W hW
    have hc : W.cell? ⟨w.heap.size, 0, none⟩ = some (.slice A n c) := by rw [hW]; exact box_at _ _ _ _ _ rfl
    have hb : Below w.heap.size w W := by rw [hW]; exact (Below.refl _ _).alloc (Nat.le_refl _) _
    have hx' := hx.below hb (Nat.le_refl _)
    exact ⟨hx', ⟨runs_committedOf1, fun W' o hb' ho => committedOf1_any o A n c _ s W' ((Later.cell hc ⟨W', hb'⟩)) (hx'.below hb' (Nat.le_refl _))⟩, hb⟩
  have HC := Lib.hid hcl
  clear hcl hx
  go_enter Try.func95, Try.ntmps95
  go_wp2_with fail
  obtain ⟨W, hW⟩ : ∃ W : World, W = w.alloc (.cells #[.slice A n c] 38) := ⟨_, rfl⟩
  rw [← hW]
  obtain ⟨hr, hf, hb⟩ := HC.out W hW
  refine (kept_any A n c s _ _ _ W hr hf).mono ?_
  rintro e w' ⟨A', c', rfl, hc', ⟨h1, h2⟩, hb'⟩
  clear hW
  go_wp2_with fail
  go_ret
  have hs := hb.size
  exact ⟨A', c', rfl, hc', ⟨h1, fun ad had => by obtain ⟨b, cur, h3, h4, h5⟩ := h2 ad had; exact ⟨b, cur, h3, by omega, h5⟩⟩, hb.trans (hb'.mono hs)⟩
end Go.Proofs.Ytcakjhappchlmaa
namespace Go.Proofs.Ytcakjhappchlmaa
open Go.RowKit Go.BigFrame
set_option linter.unusedVariables false

def txsTo (s : List OpV) (k : Nat) : List Int := ((List.range k).map fun i : Nat => (i : Int)).filter fun t => hasTx s t
theorem txsTo_succ (s : List OpV) (k : Nat) : txsTo s (k + 1) = txsTo s k ++ if hasTx s (k : Int) = true then [(k : Int)] else [] := by
  unfold txsTo
  rw [List.range_succ, List.map_append, List.filter_append]
  simp [List.filter_cons]
theorem txsTo_four (s : List OpV) : txsTo s 4 = txsOf s := rfl

set_option maxHeartbeats 1000000 in
theorem txsOf_any (A : Option Addr) (n c : Nat) (s : List OpV) (w : World) (hx : ROps w A n s) :
    Calls Try.prog 90 #[.slice A n c] w (RetInts w (txsOf s)) := by
  have HX := Lib.hid hx
  clear hx
  obtain ⟨i0, hi, hz0, hz1, hz2⟩ := info_parts intInfo
  go_enter Try.func90, Try.ntmps90
  go_wp2_with (at_make; refine wpList_make_own _ rfl _ _ 34 rfl w.heap.size 3 i0 _ 1 Try.underlying34 hi hz0 hz1 .i64 .i64 _ 4 rfl rfl rfl (by rw [hz2]; omega) (by unfold maxLen; omega) (Nat.le_refl _) ?_; intro w1 hown1 hg1)
  have hb1 : Below w.heap.size w w1 := ⟨hg1.os, hg1.tape, hg1.output, hg1.size, fun k hk => hg1.block k hk (by simp)⟩
  have HST := Lib.hid (And.intro hown1 hb1)
  clear hown1 hb1 hg1 hi hz0 hz1 hz2
  go_loopw [3, 6] (fun ov i wr => ∃ (k m : Nat), k ≤ 4 ∧ m ≤ k ∧ i = .int .i64 k ∧ Below w.heap.size w wr ∧ wr.ownsRow w.heap.size 3 1 ov m (intCells (txsTo s k))) (fun _ i _ => 4 - (intOf i).toNat)
  case atStart => exact ⟨0, 0, by omega, Nat.le_refl _, rfl, HST.out.2, HST.out.1⟩
  case round =>
    clear HST
    obtain ⟨k, m, hk, hmk, rfl, hb, hown⟩ := hrel
    by_cases hlt : k < 4
    · have hs := hb.size
      have hcl : ∀ W : World, W = wr.alloc (.cells #[.int .i64 (k : Int)] 3) → ROps W A n s ∧ ClosOp W 127 #[.pointer (some ⟨wr.heap.size, 0, none⟩)] s (fun o => o.tx == (k : Int)) ∧ Below wr.heap.size wr W ∧ W.cell? ⟨wr.heap.size, 0, none⟩ = some (.int .i64 (k : Int)) ∧ W.heap.size = wr.heap.size + 1 := by
        intro W hW
        have hc : W.cell? ⟨wr.heap.size, 0, none⟩ = some (.int .i64 (k : Int)) := by rw [hW]; exact box_at _ _ _ _ _ rfl
        have hbW : Below wr.heap.size wr W := by rw [hW]; exact (Below.refl _ _).alloc (Nat.le_refl _) _
        exact ⟨(HX.out.below hb (Nat.le_refl _)).below hbW (Nat.le_refl _), ⟨runs_txsOf1, fun W' o hb' ho => txsOf1_any o k _ W' ((Later.cell hc ⟨W', hb'⟩))⟩, hbW, hc, by rw [hW]; simp⟩
      have HC := Lib.hid hcl
      have HT := Lib.hid (txsTo_succ s k)
      clear hcl
      go_wp2_with fail
      obtain ⟨W, hW⟩ : ∃ W : World, W = wr.alloc (.cells #[.int .i64 (k : Int)] 3) := ⟨_, rfl⟩
      rw [← hW]
      obtain ⟨hr, hf, hbW, hcW, hWs⟩ := HC.out W hW
      have hownW : W.ownsRow w.heap.size 3 1 u3 m (intCells (txsTo s k)) := by rw [hW]; exact hown.alloc _
      refine (ContainsFuncOp_any A n c s _ _ _ W hr hf).mono ?_
      rintro e w2 ⟨rfl, hb2⟩
      have hown2 := own_below hownW hb2
      have hbw := hb.trans ((hbW.trans (hb2.mono (by omega))).mono hs)
      have hs2 := hb2.size
      have hc2 : w2.cell? ⟨wr.heap.size, 0, none⟩ = some (.int .i64 (k : Int)) := Later.cell hcW ⟨w2, hb2⟩
      clear hW hcW hr hf
      have hp : (s.any fun o => o.tx == (k : Int)) = hasTx s k := rfl
      rw [hp]
      clear hp
      cases hq : hasTx s (k : Int)
      · rw [hq] at HT
        go_wp2_with fail
        go_roundw
        case rel => exact ⟨k + 1, m, by omega, by omega, by go_num, hbw, by rw [HT.out]; simpa using hown2⟩
        case measure => simp [intOf]; omega
      · rw [hq] at HT
        go_wp2_with (at_builtin; refine app_ints (.tmp 12) (.tmp 14) (hown2.alloc _) (by simp; omega) (lit1 rfl _) (by omega) rfl rfl rfl rfl ?_; intro v3 w3 hown3 hg3 hat3)
        have hb3 := Below.own hbw hown2 (Nat.le_refl _) (World.grownBy.trans (World.grownBy_alloc w2 _ _) hg3)
        go_wp2_with fail
        go_roundw
        case rel => exact ⟨k + 1, m + 1, by omega, by omega, by go_num, hb3, by rw [HT.out]; simpa using hown3⟩
        case measure => simp [intOf]; omega
    · obtain ⟨Ao, co, rfl, hmc⟩ := own_form2 hown
      obtain rfl : k = 4 := by omega
      rw [txsTo_four] at hown
      have HO := Lib.hid (RetInts.mk (c := m) (own_lenInts hown) (Nat.le_refl _) (FreshInts.of_own hown (Nat.le_refl _) (by omega)) hb)
      clear hown
      go_wp2_with fail
      go_ret
      exact HO.out

def orNil {α : Type} (b : Bool) (xs : List α) : List α := if b then xs else []
def endOfV (s : List OpV) (t : Int) : Int := if validS s then endOf s t else -1
theorem RetInts.later {w W w' : World} {xs : List Int} {e : Ending} (hb : Below w.heap.size w W) (h : RetInts W xs e w') : RetInts w xs e w' := by
  obtain ⟨A', c', rfl, hc', ⟨h1, h2⟩, hb'⟩ := h
  have hs := hb.size
  exact ⟨A', c', rfl, hc', ⟨h1, fun ad had => by obtain ⟨b, cur, h3, h4, h5⟩ := h2 ad had; exact ⟨b, cur, h3, by omega, h5⟩⟩, hb.trans (hb'.mono hs)⟩
theorem RetOps.later {w W w' : World} {xs : List OpV} {e : Ending} (hb : Below w.heap.size w W) (h : RetOps W xs e w') : RetOps w xs e w' := by
  obtain ⟨A', c', rfl, hc', ⟨h1, h2⟩, hb'⟩ := h
  have hs := hb.size
  exact ⟨A', c', rfl, hc', ⟨h1, fun ad had => by obtain ⟨b, cur, h3, h4, h5⟩ := h2 ad had; exact ⟨b, cur, h3, by omega, h5⟩⟩, hb.trans (hb'.mono hs)⟩


set_option maxHeartbeats 400000 in
theorem TxsOf_any (A : Option Addr) (n c : Nat) (s : List OpV) (w : World) (hx : ROps w A n s) (hnc : n ≤ c) :
    Calls Try.prog 50 #[.slice A n c] w (RetInts w (orNil (validS s) (txsOf s))) := by
  have HX := Lib.hid hx
  clear hx
  go_enter Try.func50, Try.ntmps50
  go_wp2_with fail
  refine (ValidSchedule_any A n c s w HX.out hnc).mono ?_
  rintro e w1 ⟨rfl, hb⟩
  cases hv : validS s
  · have HV := Lib.hid hv
    clear hv
    go_wp2_with fail
    go_ret
    rw [HV.out]
    exact RetInts.nil hb
  · have HV := Lib.hid hv
    clear hv
    go_wp2_with fail
    refine (txsOf_any A n c s w1 (HX.out.below hb (Nat.le_refl _))).mono ?_
    rintro e w2 hr
    obtain ⟨A', c', rfl, hr'⟩ := hr
    have HR : Hid (RetInts w1 (txsOf s) (.returned (.slice A' ((txsOf s)).length c')) w2) := ⟨A', c', rfl, hr'⟩
    clear hr'
    go_wp2_with fail
    go_ret
    rw [HV.out]
    exact RetInts.later hb HR.out


set_option maxHeartbeats 400000 in
theorem CommittedOf_any (A : Option Addr) (n c : Nat) (s : List OpV) (w : World) (hx : ROps w A n s) (hnc : n ≤ c) :
    Calls Try.prog 34 #[.slice A n c] w (RetOps w (orNil (validS s) (committed s))) := by
  have HX := Lib.hid hx
  clear hx
  go_enter Try.func34, Try.ntmps34
  go_wp2_with fail
  refine (ValidSchedule_any A n c s w HX.out hnc).mono ?_
  rintro e w1 ⟨rfl, hb⟩
  cases hv : validS s
  · have HV := Lib.hid hv
    clear hv
    go_wp2_with fail
    go_ret
    rw [HV.out]
    exact RetOps.nil hb
  · have HV := Lib.hid hv
    clear hv
    go_wp2_with fail
    refine (committedOf_any A n c s w1 (HX.out.below hb (Nat.le_refl _))).mono ?_
    rintro e w2 hr
    obtain ⟨A', c', rfl, hr'⟩ := hr
    have HR : Hid (RetOps w1 (committed s) (.returned (.slice A' ((committed s)).length c')) w2) := ⟨A', c', rfl, hr'⟩
    clear hr'
    go_wp2_with fail
    go_ret
    rw [HV.out]
    exact RetOps.later hb HR.out


set_option maxHeartbeats 400000 in
theorem EndOf_any (A : Option Addr) (n c : Nat) (s : List OpV) (t : Int) (w : World) (hx : ROps w A n s) (hnc : n ≤ c) :
    Calls Try.prog 70 #[.slice A n c, .int .i64 t] w fun e w' => e = .returned (.int .i64 (endOfV s t)) ∧ Below w.heap.size w w' := by
  have HX := Lib.hid hx
  clear hx
  go_enter Try.func70, Try.ntmps70
  go_wp2_with fail
  refine (ValidSchedule_any A n c s w HX.out hnc).mono ?_
  rintro e w1 ⟨rfl, hb⟩
  cases hv : validS s
  · have HV := Lib.hid hv
    clear hv
    go_wp2_with fail
    go_ret
    exact ⟨ret_int (by unfold endOfV; rw [HV.out]; rfl), hb⟩
  · have HV := Lib.hid hv
    clear hv
    go_wp2_with fail
    refine (endOf_any A n c s t w1 (HX.out.below hb (Nat.le_refl _))).mono ?_
    rintro e w2 ⟨rfl, hb2⟩
    go_wp2_with fail
    go_ret
    exact ⟨ret_int (by unfold endOfV; rw [HV.out]; rfl), hb.trans (hb2.mono hb.size)⟩
end Go.Proofs.Ytcakjhappchlmaa
namespace Go.Proofs.Ytcakjhappchlmaa
open Go.RowKit Go.BigFrame
set_option linter.unusedVariables false

/-- At index i the program finds that a transaction comes again. -/
def serBad (s : List OpV) (i : Nat) : Bool := match s[i]?, s[i - 1]? with | some o, some q => (o.tx != q.tx) && hasTx (s.take i) o.tx | _, _ => false
def isSer (s : List OpV) : Bool := (List.range s.length).all fun i => i == 0 || !serBad s i
def isSerV (s : List OpV) : Bool := isSer s && validS s

theorem isSer_bad {s : List OpV} {k : Nat} (hk : k + 1 < s.length) (h : serBad s (k + 1) = true) : isSer s = false := by
  unfold isSer
  rw [List.all_eq_false]
  exact ⟨k + 1, List.mem_range.2 hk, by simp [h]⟩
theorem isSer_end {s : List OpV} {k : Nat} (hk : s.length ≤ k + 1) (h : ∀ j, j < k → serBad s (j + 1) = false) : isSer s = true := by
  unfold isSer
  rw [List.all_eq_true]
  intro j hj
  have hj := List.mem_range.1 hj
  cases j with
  | zero => rfl
  | succ j => simp [h j (by omega)]

/-- What the loop of IsSerial carries. -/
def SerInv (w : World) (A : Option Addr) (n c : Nat) (s : List OpV) (k bi : Nat) (wr : World) : Prop :=
  Below w.heap.size w wr ∧ wr.cell? ⟨w.heap.size, 0, none⟩ = some (.slice A n c) ∧ wr.cell? ⟨bi, 0, none⟩ = some (.int .i64 ((k : Int) + 1)) ∧ wr.frozen? ⟨bi, 0, none⟩ = false ∧ w.heap.size < bi ∧ (∀ j, j < k → serBad s (j + 1) = false)

theorem SerInv.next {w wr W : World} {A : Option Addr} {n c k bi : Nat} {s : List OpV} (h : SerInv w A n c s k bi wr) (hb : Below wr.heap.size wr W) (hg : serBad s (k + 1) = false) :
    SerInv w A n c s (k + 1) W.heap.size ((W.alloc (.cells #[.int .i64 ((k : Int) + 1)] 3)).setCell ⟨W.heap.size, 0, none⟩ (.int .i64 ((k : Int) + 1 + 1))) ∧
    SerInv w A n c s (k + 1) W.heap.size (W.alloc (.cells #[.int .i64 ((k : Int) + 1 + 1)] 3)) := by
  obtain ⟨h1, h2, h3, h4, h5, h6⟩ := h
  have e : (((k + 1 : Nat) : Int) + 1) = (k : Int) + 1 + 1 := by omega
  have hlt := block_lt_of_cell h2
  have hlt3 := block_lt_of_cell h3
  have hs := hb.size
  have hbw : Below w.heap.size w W := h1.trans (hb.mono h1.size)
  simp only at hlt hlt3
  have h7 : ∀ j, j < k + 1 → serBad s (j + 1) = false := fun j hj => by
    by_cases e : j = k
    · subst e; exact hg
    · exact h6 j (by omega)
  have hc0 : W.cell? ⟨w.heap.size, 0, none⟩ = some (.slice A n c) := (hb.cell (p := ⟨w.heap.size, 0, none⟩) (by simpa using hlt)).trans h2
  unfold SerInv
  rw [e]
  refine ⟨⟨B_set (B_alloc hbw (Nat.le_refl _) _) (by omega), ?_, ?_, ?_, by omega, h7⟩, ⟨B_alloc hbw (Nat.le_refl _) _, ?_, box_at _ _ _ _ _ rfl, ?_, by omega, h7⟩⟩
  · rw [World.cell?_setCell_other _ _ _ _ (by simp <;> omega), World.cell?_alloc_lt _ _ _ (by simp <;> omega)]; exact hc0
  · have : ((W.alloc (.cells #[.int .i64 ((k : Int) + 1)] 3)).setCell ⟨W.heap.size, 0, none⟩ (.int .i64 ((k : Int) + 1 + 1))).heap[W.heap.size]? = some (.cells #[.int .i64 ((k : Int) + 1 + 1)] 3 (0, 0)) := one_setCell (heap_alloc_new W _)
    exact cell_of_one this
  · have : ((W.alloc (.cells #[.int .i64 ((k : Int) + 1)] 3)).setCell ⟨W.heap.size, 0, none⟩ (.int .i64 ((k : Int) + 1 + 1))).heap[W.heap.size]? = some (.cells #[.int .i64 ((k : Int) + 1 + 1)] 3 (0, 0)) := one_setCell (heap_alloc_new W _)
    exact free_of_one this
  · rw [World.cell?_alloc_lt _ _ _ (by simp <;> omega)]; exact hc0
  · exact free_of_one (v := .int .i64 ((k : Int) + 1 + 1)) (t := 3) (heap_alloc_new W _)

end Go.Proofs.Ytcakjhappchlmaa
namespace Go.Proofs.Ytcakjhappchlmaa
open Go.RowKit Go.BigFrame
set_option linter.unusedVariables false

/-- The place of a number in a list, -1 if it is not there. -/
def idxZ (xs : List Int) (x : Int) : Int := if xs.any (fun y => y == x) then (xs.findIdx (fun y => y == x) : Int) else -1
theorem idxZ_hit {xs : List Int} {x y : Int} {k : Nat} (ho : xs[k]? = some y) (h : (y == x) = true) (hno : ∀ j, j < k → ∀ y, xs[j]? = some y → (y == x) = false) : idxZ xs x = (k : Int) := by
  obtain ⟨hk, he⟩ := List.getElem?_eq_some_iff.1 ho
  have h1 : xs.any (fun y => y == x) = true := List.any_eq_true.2 ⟨y, List.mem_of_getElem? ho, h⟩
  have h2 : xs.findIdx (fun y => y == x) = k := by
    rw [List.findIdx_eq hk]
    exact ⟨by rw [he]; exact h, fun j hj => by have := hno j hj _ (List.getElem?_eq_getElem (by omega)); exact this⟩
  unfold idxZ
  rw [h1, h2]; rfl
theorem idxZ_none {xs : List Int} {x : Int} (hno : ∀ j, j < xs.length → ∀ y, xs[j]? = some y → (y == x) = false) : idxZ xs x = -1 := by
  unfold idxZ
  have : xs.any (fun y => y == x) = false := by
    rw [List.any_eq_false]
    intro o ho
    obtain ⟨j, hj⟩ := List.mem_iff_getElem?.1 ho
    have hl : j < xs.length := (List.getElem?_eq_some_iff.1 hj).1
    simp [hno j hl o hj]
  rw [this]; rfl
theorem idxZ_any (xs : List Int) (x : Int) : if (xs.any fun y => y == x) = true then 0 ≤ idxZ xs x else idxZ xs x = -1 := by
  unfold idxZ
  split
  · omega
  · rfl


set_option maxHeartbeats 400000 in
theorem spower_any (n : Nat) (w : World) (hn : n ≤ 61) : Calls Try.prog 149 #[.int .i64 (n : Int)] w fun e w' => e = .returned (.int .i64 ((2 ^ n : Nat) : Int)) ∧ w = w' := by
  go_enter Try.func149, Try.ntmps149
  go_wp2_with fail
  go_loop [0, 3] (fun a b => ∃ k : Nat, k ≤ n ∧ a = .int .i64 ((n : Int) - k) ∧ b = .int .i64 ((2 ^ k : Nat) : Int)) (fun a _ => (intOf a).toNat)
  case atStart => exact ⟨0, Nat.zero_le _, by simp, rfl⟩
  case round =>
    obtain ⟨k, hk, rfl, rfl⟩ := hrel
    by_cases hlt : k < n
    · have h2 : 2 ^ k ≤ 2 ^ 61 := Nat.pow_le_pow_right (by omega) (by omega)
      have h3 : Hid (2 ^ (k + 1) = 2 * 2 ^ k) := by show _ = _; rw [Nat.pow_succ]; omega
      generalize hP : 2 ^ k = p at *
      have HP := Lib.hid hP
      clear hP
      have h4 : p ≤ 2305843009213693952 := by have : (2:Nat) ^ 61 = 2305843009213693952 := by decide
                                              omega
      clear h2
      go_wp2_with fail
      go_round
      case rel => exact ⟨k + 1, by omega, by first | go_num | (congr 1; omega), by rw [h3.out]; first | go_num | (congr 1; omega)⟩
      case measure => simp [intOf]; omega
    · obtain rfl : k = n := by omega
      go_wp2_with fail
      go_ret
      exact ⟨rfl, rfl⟩


set_option maxHeartbeats 400000 in
theorem sbit_any (x j : Nat) (w : World) (hx : x ≤ 4611686018427387904) (hj : j ≤ 61) : Calls Try.prog 185 #[.int .i64 (x : Int), .int .i64 (j : Int)] w fun e w' => e = .returned (.int .i64 (if x.testBit j then 1 else 0)) ∧ w = w' := by
  have HP := Lib.hid (spower_any j w hj)
  have hp : 0 < 2 ^ j := Nat.two_pow_pos _
  have hq : (2 ^ j : Nat) ≤ 2305843009213693952 := by
    have : 2 ^ j ≤ 2 ^ 61 := Nat.pow_le_pow_right (by omega) hj
    have h2 : (2:Nat) ^ 61 = 2305843009213693952 := by decide
    omega
  obtain ⟨r, hr⟩ : ∃ r : Int, (if x.testBit j then 1 else 0) = r := ⟨_, rfl⟩
  rw [hr]
  have HR : Hid (((x / 2 ^ j % 2 : Nat) : Int) = r) := by
    show _ = _
    rw [← hr]
    rw [Nat.testBit_eq_decide_div_mod_eq]
    by_cases h : x / 2 ^ j % 2 = 1
    · rw [h]; simp
    · have : x / 2 ^ j % 2 = 0 := by omega
      rw [this]; simp
  generalize hP : 2 ^ j = p at *
  have hdiv : x / p ≤ x := Nat.div_le_self _ _
  clear hP hr
  have hpi : (p : Int) ≠ 0 := by omega
  have HD : Hid ((wrap64 ((x : Int) / (p : Int))).tmod 2 = ((x / p % 2 : Nat) : Int)) := by
    show _ = _
    have e1 : ((x : Int) / (p : Int)) = ((x / p : Nat) : Int) := by simp
    rw [e1]
    have e2 : wrap64 ((x / p : Nat) : Int) = ((x / p : Nat) : Int) := by
      generalize x / p = q at *
      unfold wrap64
      omega
    rw [e2]
    rfl
  go_enter Try.func185, Try.ntmps185
  go_wp2_with fail
  refine HP.out.mono ?_
  rintro e w1 ⟨rfl, rfl⟩
  go_wp2_with fail
  go_ret
  exact ⟨ret_int (by rw [← HR.out]; exact HD.out), rfl⟩


set_option maxHeartbeats 400000 in
theorem hasInt_any (A : Option Addr) (n c : Nat) (xs : List Int) (x : Int) (w : World) (hx : RInts w A n xs) :
    Calls Try.prog 132 #[.slice A n c, .int .i64 x] w fun e w' => e = .returned (.bool (xs.any fun y => y == x)) ∧ Below w.heap.size w w' := by
  have hn := hx.2.1
  have hl := hx.1
  have HX := Lib.hid hx
  clear hx
  go_enter Try.func132, Try.ntmps132
  go_wp2_with fail
  go_loop [5] (fun i => ∃ k : Nat, k ≤ n ∧ i = .int .i64 k ∧ ((xs.take k).any fun y => y == x) = false) (fun i => n - (intOf i).toNat)
  case atStart => exact ⟨0, Nat.zero_le _, rfl, by simp⟩
  case round =>
    obtain ⟨k, hk, rfl, hno⟩ := hrel
    by_cases hlt : k < n
    · obtain ⟨b, off, y, rfl, hbl, ho, c0⟩ := HX.out.at_ hlt
      have hst : ((xs.take (k + 1)).any fun y => y == x) = ((xs.take k).any (fun y => y == x) || y == x) := by
        rw [List.take_add_one, ho, List.any_append]; simp
      rw [hno, Bool.false_or] at hst
      have HS := Lib.hid hst
      have HM := Lib.hid (List.mem_of_getElem? ho)
      clear hst ho hno
      by_cases h1 : y = x
      · have ht : Hid ((xs.any fun y => y == x) = true) := List.any_eq_true.2 ⟨y, HM.out, by simpa using h1⟩
        go_wp2_with fail
        go_ret
        exact ⟨ret_bool ht.out.symm, Below.refl _ _⟩
      · have h1' : (y == x) = false := by simpa using h1
        go_wp2_with fail
        go_round
        case rel => exact ⟨k + 1, by omega, by go_num, by rw [HS.out]; exact h1'⟩
        case measure => simp [intOf]; omega
    · rw [List.take_of_length_le (by omega)] at hno
      have HN := Lib.hid hno
      clear hno
      go_wp2_with fail
      go_ret
      exact ⟨ret_bool HN.out.symm, Below.refl _ _⟩


end Go.Proofs.Ytcakjhappchlmaa
namespace Go.Proofs.Ytcakjhappchlmaa
open Go.RowKit Go.BigFrame
set_option linter.unusedVariables false

/-- Block g holds just these values. -/
def RowIs (w : World) (g : Nat) (T : TypeId) (vs : List Value) : Prop := w.heap[g]? = some (.cells vs.toArray T (0, 0))
section
variable {w : World} {g : Nat} {T : TypeId} {vs : List Value}
theorem RowIs.lt (h : RowIs w g T vs) : g < w.heap.size := lt_of_block h
theorem RowIs.cell (h : RowIs w g T vs) {i : Nat} {v : Value} (hv : vs[i]? = some v) : w.cell? ⟨g, i, none⟩ = some v := by
  rw [cell_of_row w g i _ T (0, 0) h]; simpa using hv
theorem RowIs.frozen (h : RowIs w g T vs) (i : Nat) : w.frozen? ⟨g, i, none⟩ = false := frozen_of_row w g i _ T h
theorem RowIs.set (h : RowIs w g T vs) (i : Nat) (v : Value) : RowIs (w.setCell ⟨g, i, none⟩ v) g T (vs.set i v) := by
  unfold RowIs
  rw [heap_setCell_same w g i _ T v h]
  simp
theorem RowIs.alloc (h : RowIs w g T vs) (o : Obj) : RowIs (w.alloc o) g T vs := (Below.heap_alloc w o g h.lt).trans h
theorem RowIs.below {w' : World} {B : Nat} (h : RowIs w g T vs) (hb : Below B w w') (hg : w.heap.size ≤ B) : RowIs w' g T vs := (hb.block g (by have := h.lt; omega)).trans h
end

theorem opCells_put (ys : List OpV) : ∀ (i : Nat) (o : OpV), opCells (ys.set i o) = (((opCells ys).set (i * 3) (.int .i64 o.tx)).set (i * 3 + 1) (.int .i64 o.kind)).set (i * 3 + 2) (.int .i64 o.item) := by
  induction ys with
  | nil => intro i o; simp [opCells]
  | cons y r ih =>
    intro i o
    cases i with
    | zero => simp [opCells]
    | succ i =>
      have e : (i + 1) * 3 = i * 3 + 1 + 1 + 1 := by omega
      rw [e]
      simp only [List.set_cons_succ, opCells, ih]
theorem set_snoc {α : Type} (xs : List α) (k : Nat) (z x : α) (m : Nat) (hk : xs[k]? = some x) :
    (xs.take k ++ List.replicate (m + 1) z).set k x = xs.take (k + 1) ++ List.replicate m z := by
  obtain ⟨hl, he⟩ := List.getElem?_eq_some_iff.1 hk
  have hlen : (xs.take k).length = k := by simp; omega
  rw [List.set_append_right _ _ (by omega), hlen, Nat.sub_self, List.replicate_succ, List.set_cons_zero, take_snoc hk, List.append_assoc]; rfl
theorem opCells_zero (n : Nat) : opCells (List.replicate n OpV.zero) = List.replicate (n * 3) (.int .i64 0) := by
  induction n with
  | zero => rfl
  | succ n ih =>
    rw [List.replicate_succ]
    show Value.int .i64 0 :: .int .i64 0 :: .int .i64 0 :: opCells (List.replicate n OpV.zero) = _
    rw [ih, show (n + 1) * 3 = n * 3 + 1 + 1 + 1 by omega]
    simp [List.replicate_succ]

/-- What a row of operations reads as. -/
theorem RowIs.ops {w : World} {g n : Nat} {T : TypeId} {ys : List OpV} {rest : List Value} (h : RowIs w g T (opCells ys ++ rest)) (hn : ys.length = n) (hm : n ≤ 1099511627776) : ROps w (some ⟨g, 0, none⟩) n ys := by
  refine ⟨hn, hm, fun _ => ⟨g, 0, rfl, h.lt, fun i o ho => ?_⟩⟩
  obtain ⟨c0, c1, c2⟩ := opCells_at ys i o ho
  have hc : ∀ j u, (opCells ys)[j]? = some u → w.cell? ⟨g, 0 + j, none⟩ = some u := fun j u hu => by
    rw [Nat.zero_add]
    refine h.cell ?_
    obtain ⟨hl, _⟩ := List.getElem?_eq_some_iff.1 hu
    rw [List.getElem?_append_left hl]; exact hu
  exact ⟨hc _ _ c0, by have := hc _ _ c1; simpa [Nat.add_assoc] using this, by have := hc _ _ c2; simpa [Nat.add_assoc] using this⟩
theorem RowIs.ints {w : World} {g n : Nat} {T : TypeId} {ys : List Int} {rest : List Value} (h : RowIs w g T (intCells ys ++ rest)) (hn : ys.length = n) (hm : n ≤ 1099511627776) : RInts w (some ⟨g, 0, none⟩) n ys := by
  refine ⟨hn, hm, fun _ => ⟨g, 0, rfl, h.lt, fun i o ho => ?_⟩⟩
  rw [Nat.zero_add]
  refine h.cell ?_
  have : (intCells ys)[i]? = some (.int .i64 o) := by simp [intCells, ho]
  obtain ⟨hl, _⟩ := List.getElem?_eq_some_iff.1 this
  rw [List.getElem?_append_left hl]; exact this
/-- New memory as a row. -/
theorem FreshOps.row {w0 w : World} {A : Option Addr} {n : Nat} {xs : List OpV} (h : FreshOps w0 w A n xs) (h0 : 0 < n) : ∃ g rest, A = some ⟨g, 0, none⟩ ∧ w0.heap.size ≤ g ∧ RowIs w g 92 (opCells xs ++ rest) := by
  obtain ⟨⟨hl, hm, hr⟩, hf⟩ := h
  obtain ⟨b, off, hA, hlt, hc⟩ := hr h0
  obtain ⟨b', cur, had, hge, hh, hsz⟩ := hf _ hA
  injection had with h1 h2 h3
  subst h1; subst h2
  refine ⟨b, cur.toList.drop (n * 3), hA, hge, ?_⟩
  unfold RowIs
  rw [hh]
  congr 2
  apply Array.ext'
  simp only
  have e : opCells xs = cur.toList.take (n * 3) := by
    apply List.ext_getElem?
    intro j
    rcases Nat.lt_or_ge j (n * 3) with hj | hj
    · rw [List.getElem?_take_of_lt hj]
      obtain ⟨v, hv⟩ : ∃ v, (opCells xs)[j]? = some v := ⟨_, List.getElem?_eq_getElem (by rw [length_opCells]; omega)⟩
      rw [hv]
      obtain ⟨i, o, ho, h⟩ := opCells_find xs j v hv
      obtain ⟨c0, c1, c2⟩ := hc i o ho
      have hcell : ∀ q, w.cell? ⟨b, q, none⟩ = cur[q]? := fun q => cell_of_row w b q _ _ (0, 0) hh
      rw [hcell] at c0 c1 c2
      simp only [Nat.zero_add] at c0 c1 c2
      rcases h with ⟨rfl, rfl⟩ | ⟨rfl, rfl⟩ | ⟨rfl, rfl⟩
      · simpa using c0.symm
      · simpa using c1.symm
      · simpa using c2.symm
    · rw [List.getElem?_eq_none (by rw [length_opCells]; omega), List.getElem?_eq_none (by simp; omega)]
  rw [e, List.take_append_drop]
theorem FreshInts.row {w0 w : World} {A : Option Addr} {n : Nat} {xs : List Int} (h : FreshInts w0 w A n xs) (h0 : 0 < n) : ∃ g rest, A = some ⟨g, 0, none⟩ ∧ w0.heap.size ≤ g ∧ RowIs w g 3 (intCells xs ++ rest) := by
  obtain ⟨⟨hl, hm, hr⟩, hf⟩ := h
  obtain ⟨b, off, hA, hlt, hc⟩ := hr h0
  obtain ⟨b', cur, had, hge, hh, hsz⟩ := hf _ hA
  injection had with h1 h2 h3
  subst h1; subst h2
  refine ⟨b, cur.toList.drop n, hA, hge, ?_⟩
  unfold RowIs
  rw [hh]
  congr 2
  apply Array.ext'
  simp only
  have e : intCells xs = cur.toList.take n := by
    apply List.ext_getElem?
    intro j
    rcases Nat.lt_or_ge j n with hj | hj
    · rw [List.getElem?_take_of_lt hj]
      have hx : xs[j]? = some (xs[j]'(by omega)) := List.getElem?_eq_getElem (by omega)
      have c0 := hc j _ hx
      rw [cell_of_row w b _ _ _ (0, 0) hh] at c0
      simp only [Nat.zero_add] at c0
      simp only [intCells, List.getElem?_map, hx]
      simpa using c0.symm
    · rw [List.getElem?_eq_none (by simp [intCells]; omega), List.getElem?_eq_none (by simp; omega)]
  rw [e, List.take_append_drop]

/-- Own rows stay where another block is written. -/
theorem ROps.grown {w w' : World} {B : Option Addr} {n : Nat} {ys : List OpV} {row : Option Nat} (h : ROps w B n ys) (hg : w.grownBy w' row) (hne : ∀ b, B = some b → row ≠ some b.block) : ROps w' B n ys := by
  obtain ⟨h1, h2, h3⟩ := h
  refine ⟨h1, h2, fun hn => ?_⟩
  obtain ⟨b, off, hA, hlt, hc⟩ := h3 hn
  have hs := hg.size
  have hb := hg.block b hlt (fun e => hne _ hA e.symm)
  refine ⟨b, off, hA, by omega, fun i o ho => ?_⟩
  obtain ⟨c0, c1, c2⟩ := hc i o ho
  exact ⟨(World.cell?_of_block (w := w) (a := ⟨b, _, none⟩) hb).trans c0, (World.cell?_of_block (w := w) (a := ⟨b, _, none⟩) hb).trans c1, (World.cell?_of_block (w := w) (a := ⟨b, _, none⟩) hb).trans c2⟩
theorem RInts.grown {w w' : World} {B : Option Addr} {n : Nat} {ys : List Int} {row : Option Nat} (h : RInts w B n ys) (hg : w.grownBy w' row) (hne : ∀ b, B = some b → row ≠ some b.block) : RInts w' B n ys := by
  obtain ⟨h1, h2, h3⟩ := h
  refine ⟨h1, h2, fun hn => ?_⟩
  obtain ⟨b, off, hA, hlt, hc⟩ := h3 hn
  have hs := hg.size
  have hb := hg.block b hlt (fun e => hne _ hA e.symm)
  exact ⟨b, off, hA, by omega, fun i o ho => (World.cell?_of_block (w := w) (a := ⟨b, _, none⟩) hb).trans (hc i o ho)⟩
theorem grown_set {w : World} {g i : Nat} {v : Value} : w.grownBy (w.setCell ⟨g, i, none⟩ v) (some g) :=
  ⟨rfl, rfl, rfl, by simp [World.setCell], fun k hk hne => Below.heap_setCell w ⟨g, i, none⟩ v k (fun e => hne (by rw [e]))⟩
theorem grown_below {w w' : World} {row : Option Nat} (h : Below w.heap.size w w') : w.grownBy w' row := ⟨h.os, h.tape, h.output, h.size, fun i hi _ => h.block i hi⟩

/-- A store of an operation into place k of a row of the call's own. -/
theorem store_op {w : World} {ops : Array Oper} {rest : List Oper} {o : Oper} {a : Act} {Q : Exit → Act → World → Prop} (x y : Operand) {g : Nat} {T : TypeId} {ys : List OpV} {more : List Value} (p : OpV) {k : Nat} (hrow : RowIs w g T (opCells ys ++ more)) (hk : k < ys.length)
    (hgd : o.guard = none) (ho : o.op = .store 92 x y) (hx : a.eval x = .pointer (some ⟨g, k * 3, none⟩)) (hy : a.eval y = .agg #[.int .i64 p.tx, .int .i64 p.kind, .int .i64 p.item])
    (h : ∀ w', RowIs w' g T (opCells (ys.set k p) ++ more) → w.grownBy w' (some g) → wpList Try.prog ops Q rest (a.put o.dst undef) w') : wpList Try.prog ops Q (o :: rest) a w := by
  have hlen := length_opCells ys
  refine wpList_store_mid hgd _ x y ho g (k * 3) #[.int .i64 p.tx, .int .i64 p.kind, .int .i64 p.item] hx hy ?_ (by kernel_rfl) (by simp [Value.oneCell']) ?_
  · intro j hj
    have hj : j < 3 := hj
    have : k * 3 + j < (opCells ys ++ more).length := by rw [List.length_append]; omega
    exact ⟨by rw [hrow.cell (List.getElem?_eq_getElem this)]; rfl, hrow.frozen _⟩
  · refine h _ ?_ ?_
    · have := ((hrow.set (k * 3) (.int .i64 p.tx)).set (k * 3 + 1) (.int .i64 p.kind)).set (k * 3 + 2) (.int .i64 p.item)
      rw [List.set_append_left _ _ (by omega), List.set_append_left _ _ (by simp; omega), List.set_append_left _ _ (by simp; omega), ← opCells_put] at this
      exact this
    · exact World.grownBy.trans (World.grownBy.trans grown_set grown_set) grown_set
theorem made_ints (n : Nat) : (madeCells (Value.int .i64 0).cells (n * 1)).toList = intCells (List.replicate n 0) := by
  apply List.ext_getElem?
  intro j
  simp only [intCells, List.map_replicate, List.getElem?_replicate]
  split
  · rename_i hj
    rw [List.getElem?_eq_getElem (by simpa [size_madeCells] using hj)]
    simp only [madeCells, Array.getElem_toList, Array.getElem_map, Array.getElem_range]
    congr 1
    show (#[Value.int .i64 0] : Array Value)[j % 1]! = _
    rw [Nat.mod_one]; rfl
  · rename_i hj
    rw [List.getElem?_eq_none (by simpa [size_madeCells] using hj)]
/-- A store of an integer. -/
theorem row_setInt {w : World} {g k : Nat} {T : TypeId} {ys : List Int} {more : List Value} {v : Int} (hrow : RowIs w g T (intCells ys ++ more)) (hk : k < ys.length) : RowIs (w.setCell ⟨g, k, none⟩ (.int .i64 v)) g T (intCells (ys.set k v) ++ more) := by
  have := hrow.set k (.int .i64 v)
  rw [List.set_append_left _ _ (by simpa [intCells] using hk)] at this
  have e : (intCells ys).set k (.int .i64 v) = intCells (ys.set k v) := by simp [intCells, List.map_set]
  rw [e] at this
  exact this
end Go.Proofs.Ytcakjhappchlmaa
namespace Go.Proofs.Ytcakjhappchlmaa
open Go.RowKit Go.BigFrame
set_option linter.unusedVariables false

theorem ofInt64 (a : Nat) (ha : a < 9223372036854775808) : (BitVec.ofInt 64 (a : Int)).toNat = a := by
  rw [BitVec.ofInt_natCast, BitVec.toNat_ofNat]; exact Nat.mod_eq_of_lt (by omega)
theorem or_nat (a b : Nat) (ha : a < 9223372036854775808) (hb : b < 9223372036854775808) : bits .or .i64 (a : Int) (b : Int) = ((a ||| b : Nat) : Int) := by
  have hx : a ||| b < 2 ^ 63 := Nat.or_lt_two_pow (by omega) (by omega)
  show IntKind.i64.wrap ((BitVec.ofInt 64 (a : Int) ||| BitVec.ofInt 64 (b : Int)).toNat : Int) = _
  rw [BitVec.toNat_or, ofInt64 a ha, ofInt64 b hb, IntKind.wrap_i64]
  omega
theorem and_nat (a b : Nat) (ha : a < 9223372036854775808) (hb : b < 9223372036854775808) : bits .and .i64 (a : Int) (b : Int) = ((a &&& b : Nat) : Int) := by
  have hx : a &&& b < 2 ^ 63 := Nat.and_lt_two_pow _ (by omega)
  show IntKind.i64.wrap ((BitVec.ofInt 64 (a : Int) &&& BitVec.ofInt 64 (b : Int)).toNat : Int) = _
  rw [BitVec.toNat_and, ofInt64 a ha, ofInt64 b hb, IntKind.wrap_i64]
  omega

def rowSet (rows : List Nat) (t u : Int) : List Nat := rows.set t.toNat (rows.getD t.toNat 0 ||| (1 <<< u.toNat))
def agIn (f : Int → Bool) (t : Int) (list : List Int) (rows : List Nat) : List Nat := list.foldl (fun r u => if f u then rowSet r t u else r) rows
def agTo (g : Nat → OpV → Bool) (f : OpV → Int → Bool) (list : List Int) (s : List OpV) : Nat → List Nat
  | 0 => [0, 0, 0, 0]
  | k + 1 => match s[k]? with | some o => if g k o then agIn (f o) o.tx list (agTo g f list s k) else agTo g f list s k | none => agTo g f list s k
def rowsI (rows : List Nat) : List Int := rows.map fun n : Nat => (n : Int)
/-- Four rows of four bits. -/
def Rows4 (rows : List Nat) : Prop := rows.length = 4 ∧ ∀ r ∈ rows, r < 16

theorem rowSet_ok {rows : List Nat} (h : Rows4 rows) {t u : Int} (hu : 0 ≤ u ∧ u ≤ 3) : Rows4 (rowSet rows t u) := by
  refine ⟨by simp [rowSet, h.1], fun r hr => ?_⟩
  unfold rowSet at hr
  rcases List.mem_or_eq_of_mem_set hr with hr | rfl
  · exact h.2 r hr
  · have h1 : rows.getD t.toNat 0 < 2 ^ 4 := by
      rw [List.getD_eq_getElem?_getD]
      cases he : rows[t.toNat]? with
      | none => simp
      | some x => simpa using h.2 x (List.mem_of_getElem? he)
    have h2 : (1 <<< u.toNat) < 2 ^ 4 := by
      rcases (by omega : u.toNat = 0 ∨ u.toNat = 1 ∨ u.toNat = 2 ∨ u.toNat = 3) with e | e | e | e <;> rw [e] <;> decide
    exact Nat.or_lt_two_pow (n := 4) h1 h2
theorem agIn_ok {f : Int → Bool} {t : Int} {list : List Int} (hl : ∀ u ∈ list, 0 ≤ u ∧ u ≤ 3) : ∀ {rows : List Nat}, Rows4 rows → Rows4 (agIn f t list rows) := by
  unfold agIn
  induction list with
  | nil => intro rows h; exact h
  | cons x r ih =>
    intro rows h
    rw [List.foldl_cons]
    refine ih (fun u hu => hl u (by simp [hu])) ?_
    split
    · exact rowSet_ok h (hl x (by simp))
    · exact h
theorem agTo_ok {g : Nat → OpV → Bool} {f : OpV → Int → Bool} {list : List Int} {s : List OpV} (hl : ∀ u ∈ list, 0 ≤ u ∧ u ≤ 3) (k : Nat) : Rows4 (agTo g f list s k) := by
  induction k with
  | zero => exact ⟨rfl, by simp [agTo]⟩
  | succ k ih =>
    simp only [agTo]
    split
    · split
      · exact agIn_ok hl ih
      · exact ih
    · exact ih
theorem agTo_succ {g : Nat → OpV → Bool} {f : OpV → Int → Bool} {list : List Int} {s : List OpV} {k : Nat} {o : OpV} (h : s[k]? = some o) : agTo g f list s (k + 1) = if g k o then agIn (f o) o.tx list (agTo g f list s k) else agTo g f list s k := by
  simp only [agTo, h]
theorem agIn_snoc {f : Int → Bool} {t : Int} {list : List Int} {rows : List Nat} {j : Nat} {u : Int} (h : list[j]? = some u) : agIn f t (list.take (j + 1)) rows = if f u then rowSet (agIn f t (list.take j) rows) t u else agIn f t (list.take j) rows := by
  unfold agIn
  rw [take_snoc h, List.foldl_append]; rfl
theorem rowsI_at {rows : List Nat} (h : Rows4 rows) {T : Nat} (hT : T ≤ 3) : (intCells (rowsI rows))[T]? = some (.int .i64 ((rows.getD T 0 : Nat) : Int)) ∧ rows.getD T 0 < 16 := by
  have hl := h.1
  have e : rows[T]? = some (rows[T]'(by omega)) := List.getElem?_eq_getElem (by omega)
  rw [List.getD_eq_getElem?_getD, e]
  refine ⟨?_, ?_⟩
  · simp [intCells, rowsI, e]
  · simpa using h.2 _ (List.getElem_mem (by omega))
theorem rowsI_set {rows : List Nat} {T : Nat} {u : Int} : rowsI (rowSet rows T u) = (rowsI rows).set T (((rows.getD T 0 ||| (1 <<< u.toNat) : Nat)) : Int) := by
  simp [rowsI, rowSet, List.map_set]
theorem and_bit (m j : Nat) (hm : m < 4611686018427387904) : bits .and .i64 ((m : Int) / 2 ^ j) 1 = if m.testBit j then 1 else 0 := by
  have e : ((m : Int) / 2 ^ j) = ((m / 2 ^ j : Nat) : Int) := by simp
  have h1 : m / 2 ^ j ≤ m := Nat.div_le_self _ _
  rw [e, show (1 : Int) = ((1 : Nat) : Int) from rfl, and_nat _ _ (by omega) (by omega), Nat.and_one_is_mod]
  rw [Nat.testBit_eq_decide_div_mod_eq]
  by_cases h : m / 2 ^ j % 2 = 1
  · rw [h]; simp
  · have : m / 2 ^ j % 2 = 0 := by omega
    rw [this]; simp
theorem validS_ops {s : List OpV} (h : validS s = true) : ∀ o ∈ s, validOp o = true := by
  intro o ho
  unfold validS at h
  simp only [Bool.and_eq_true, List.all_eq_true] at h
  obtain ⟨k, hk⟩ := List.mem_iff_getElem?.1 ho
  have hl : k < s.length := by
    rcases Nat.lt_or_ge k s.length with h | h
    · exact h
    · rw [List.getElem?_eq_none h] at hk; cases hk
  have := h.2 k (List.mem_range.2 hl)
  unfold goodAt at this
  rw [hk] at this
  simp only [Bool.and_eq_true] at this
  exact this.1
theorem validS_item {s : List OpV} (h : validS s = true) {o : OpV} (ho : o ∈ s) : 0 ≤ o.item ∧ o.item ≤ 2 := by
  have := validS_ops h o ho
  simp [validOp, isAcc, isEnd, inR] at this
  omega
theorem validS_tx3 {s : List OpV} (h : validS s = true) {o : OpV} (ho : o ∈ s) : 0 ≤ o.tx ∧ o.tx ≤ 3 := by
  have := validS_ops h o ho
  simp [validOp, inR] at this
  omega
theorem rowSet_bit {rows : List Nat} (h : Rows4 rows) {T U t u : Nat} (hT : T ≤ 3) : ((rowSet rows T U).getD t 0).testBit u = ((rows.getD t 0).testBit u || (decide (t = T) && decide (u = U))) := by
  unfold rowSet
  simp only [Int.toNat_natCast]
  rw [List.getD_eq_getElem?_getD, List.getElem?_set]
  by_cases e : T = t
  · subst e
    have hl : T < rows.length := by rw [h.1]; omega
    rw [if_pos rfl, if_pos hl]
    simp only [Option.getD_some, Nat.testBit_or, Nat.one_shiftLeft, Nat.testBit_two_pow, decide_true, Bool.true_and]
    congr 1
    exact decide_eq_decide.2 ⟨fun h => h.symm, fun h => h.symm⟩
  · rw [if_neg e, List.getD_eq_getElem?_getD]
    have : ¬ t = T := fun h => e h.symm
    simp [this]
end Go.Proofs.Ytcakjhappchlmaa
namespace Go.Proofs.Ytcakjhappchlmaa
open Go.RowKit Go.BigFrame
set_option linter.unusedVariables false

def stampN (s : List OpV) (t : Int) : Nat := s.findIdx fun o => o.tx == t
def commitN (s : List OpV) (t : Int) : Nat := s.findIdx fun o => o.tx == t && o.kind == 2
def touchB (s : List OpV) (i : Nat) (t k x : Int) : Bool := (s.take i).any fun o => o.tx == t && o.kind == k && o.item == x
def meetsB (s : List OpV) (t u : Int) : Bool := [0, 1, 2].any fun x => touchB s s.length t 1 x && touchB s s.length u 1 x

theorem findIdx_hit {s : List OpV} {p : OpV → Bool} {k : Nat} {o : OpV} (ho : s[k]? = some o) (h : p o = true) (hno : ∀ j, j < k → ∀ o, s[j]? = some o → p o = false) : s.findIdx p = k := by
  obtain ⟨hk, he⟩ := List.getElem?_eq_some_iff.1 ho
  rw [List.findIdx_eq hk]
  exact ⟨by rw [he]; exact h, fun j hj => hno j hj _ (List.getElem?_eq_getElem (by omega))⟩
theorem findIdx_end {s : List OpV} {p : OpV → Bool} (hno : ∀ j, j < s.length → ∀ o, s[j]? = some o → p o = false) : s.findIdx p = s.length := by
  rw [List.findIdx_eq_length]
  intro o ho
  obtain ⟨j, hj⟩ := List.mem_iff_getElem?.1 ho
  have hl : j < s.length := by
    rcases Nat.lt_or_ge j s.length with h | h
    · exact h
    · rw [List.getElem?_eq_none h] at hj; cases hj
  simpa using hno j hl o hj


theorem noEnd_true {s : List OpV} {i : Nat} {t : Int} (h : ∀ j, j < i → ∀ o, s[j]? = some o → (o.tx == t && isEnd o) = false) : noEnd (s.take i) t = true := by
  unfold noEnd
  rw [List.all_eq_true]
  intro o ho
  obtain ⟨j, hj⟩ := List.mem_iff_getElem?.1 ho
  rw [List.getElem?_take] at hj
  split at hj
  · rw [h j (by omega) o hj]; rfl
  · cases hj
theorem noEnd_false {s : List OpV} {i k : Nat} {t : Int} {o : OpV} (hk : k < i) (ho : s[k]? = some o) (h : (o.tx == t && isEnd o) = true) : noEnd (s.take i) t = false := by
  unfold noEnd
  rw [List.all_eq_false]
  exact ⟨o, List.mem_of_getElem? (i := k) (by rw [List.getElem?_take, if_pos hk]; exact ho), by rw [h]; simp⟩
theorem validS_iff (s : List OpV) : validS s = true ↔ s.length ≤ 16 ∧ (∀ o ∈ s, validOp o = true) ∧ s.Pairwise (fun a b => isEnd a = true → a.tx ≠ b.tx) := by
  constructor
  · intro h
    refine ⟨?_, validS_ops h, ?_⟩
    · unfold validS at h
      simp only [Bool.and_eq_true, decide_eq_true_eq] at h
      exact h.1
    · rw [List.pairwise_iff_getElem]
      intro i j hi hj hij he ht
      unfold validS at h
      simp only [Bool.and_eq_true, List.all_eq_true] at h
      have := h.2 j (List.mem_range.2 hj)
      unfold goodAt at this
      rw [List.getElem?_eq_getElem hj] at this
      simp only [Bool.and_eq_true] at this
      have h2 := this.2
      rw [noEnd_false (k := i) (o := s[i]) hij (List.getElem?_eq_getElem hi) (by rw [he, ht]; simp)] at h2
      cases h2
  · rintro ⟨h1, h2, h3⟩
    unfold validS
    simp only [Bool.and_eq_true, decide_eq_true_eq, List.all_eq_true]
    refine ⟨h1, fun j hj => ?_⟩
    have hj := List.mem_range.1 hj
    unfold goodAt
    rw [List.getElem?_eq_getElem hj]
    simp only [Bool.and_eq_true]
    refine ⟨h2 _ (List.getElem_mem hj), noEnd_true (fun k hk o ho => ?_)⟩
    have hk' : k < s.length := by omega
    rw [List.getElem?_eq_getElem hk'] at ho
    injection ho with ho
    subst ho
    rw [List.pairwise_iff_getElem] at h3
    have := h3 k j hk' hj hk
    cases he : isEnd s[k]
    · simp
    · simpa [he] using this he
/-- What is left when whole operations are dropped is a schedule. -/
theorem validS_sub {s t : List OpV} (h : validS s = true) (hs : List.Sublist t s) : validS t = true := by
  rw [validS_iff] at *
  exact ⟨Nat.le_trans hs.length_le h.1, fun o ho => h.2.1 o (hs.subset ho), List.Pairwise.sublist hs h.2.2⟩
theorem validS_committed {s : List OpV} (h : validS s = true) : validS (committed s) = true := validS_sub h List.filter_sublist
theorem validS_tx {s : List OpV} (h : validS s = true) {o : OpV} (ho : o ∈ s) : 0 ≤ o.tx ∧ o.tx ≤ 3 := by
  have := validS_ops h o ho
  simp [validOp, inR] at this
  omega
theorem validS_end0 {s : List OpV} (h : validS s = true) {o : OpV} (ho : o ∈ s) (hk : o.kind = 2 ∨ o.kind = 3) : o.item = 0 := by
  have := validS_ops h o ho
  rcases hk with hk | hk <;> simp [validOp, isAcc, isEnd, hk] at this <;> exact this.2
/-- Behind the end of a transaction stands none of it. -/
theorem validS_after {s : List OpV} (h : validS s = true) {i j : Nat} {a b : OpV} (hi : s[i]? = some a) (hj : s[j]? = some b) (he : isEnd a = true) (ht : a.tx = b.tx) : j ≤ i := by
  rcases Nat.lt_or_ge i j with hij | hij
  · exfalso
    obtain ⟨hil, hia⟩ := List.getElem?_eq_some_iff.1 hi
    obtain ⟨hjl, hjb⟩ := List.getElem?_eq_some_iff.1 hj
    have := List.pairwise_iff_getElem.1 ((validS_iff s).1 h).2.2 i j hil hjl hij
    rw [hia, hjb] at this
    exact this he ht
  · exact hij
theorem isEnd_two {o : OpV} (h : o.kind = 2) : isEnd o = true := by simp [isEnd, h]

/-- A transaction with a commit ends with it. -/
theorem endOf_commit {s : List OpV} (h : validS s = true) {o : OpV} (ho : o ∈ s) (hk : o.kind = 2) : endOf s o.tx = 2 := by
  obtain ⟨k, hk'⟩ := List.mem_iff_getElem?.1 ho
  have := endOf_hit s o.tx k o hk' (fun j hj q hq => by
    cases hq2 : (q.tx == o.tx && isEnd q)
    · rfl
    · simp only [Bool.and_eq_true, beq_iff_eq] at hq2
      have := validS_after h hq hk' hq2.2 hq2.1
      omega) (by simp [isEnd, hk])
  rw [this, hk]
theorem endOf_two {s : List OpV} {t : Int} (h : endOf s t = 2) : ∃ o ∈ s, o.tx = t ∧ o.kind = 2 := by
  unfold endOf at h
  cases hf : s.find? (fun o => o.tx == t && isEnd o) with
  | none => rw [hf] at h; simp at h
  | some o =>
    rw [hf] at h
    have h1 := List.find?_some hf
    simp only [Bool.and_eq_true, beq_iff_eq] at h1
    exact ⟨o, List.mem_of_find?_eq_some hf, h1.1, by simpa using h⟩
theorem endOf_two_iff {s : List OpV} (h : validS s = true) (t : Int) : endOf s t = 2 ↔ ∃ o ∈ s, o.tx = t ∧ o.kind = 2 := by
  constructor
  · exact endOf_two
  · rintro ⟨o, ho, rfl, hk⟩
    exact endOf_commit h ho hk
theorem mem_committed {s : List OpV} {o : OpV} : o ∈ committed s ↔ o ∈ s ∧ endOf s o.tx = 2 := by
  unfold committed
  rw [List.mem_filter]
  simp
theorem hasTx_iff {s : List OpV} {t : Int} : hasTx s t = true ↔ ∃ o ∈ s, o.tx = t := by
  unfold hasTx
  rw [List.any_eq_true]
  simp
theorem mem_txsOf {s : List OpV} (h : validS s = true) {t : Int} : t ∈ txsOf s ↔ ∃ o ∈ s, o.tx = t := by
  unfold txsOf
  rw [List.mem_filter, hasTx_iff]
  constructor
  · exact fun h => h.2
  · rintro ⟨o, ho, rfl⟩
    have := validS_tx h ho
    refine ⟨?_, o, ho, rfl⟩
    have : o.tx = 0 ∨ o.tx = 1 ∨ o.tx = 2 ∨ o.tx = 3 := by omega
    rcases this with e | e | e | e <;> rw [e] <;> simp
theorem nodup_txsOf (s : List OpV) : (txsOf s).Nodup := by
  unfold txsOf
  exact List.Pairwise.filter _ (by decide)
theorem mem_txs_committed {s : List OpV} (h : validS s = true) {t : Int} : t ∈ txsOf (committed s) ↔ endOf s t = 2 := by
  rw [mem_txsOf (validS_committed h)]
  constructor
  · rintro ⟨o, ho, rfl⟩
    exact (mem_committed.1 ho).2
  · intro he
    obtain ⟨o, ho, rfl, hk⟩ := endOf_two he
    exact ⟨o, mem_committed.2 ⟨ho, he⟩, rfl⟩

theorem findIdx_congr {s : List OpV} {p q : OpV → Bool} (h : ∀ o ∈ s, p o = q o) : s.findIdx p = s.findIdx q := by
  induction s with
  | nil => rfl
  | cons x r ih =>
    rw [List.findIdx_cons, List.findIdx_cons, h x (by simp), ih (fun o ho => h o (by simp [ho]))]
theorem findIdx_at {s : List OpV} {p : OpV → Bool} {o : OpV} (ho : o ∈ s) (hp : p o = true) : ∃ q, s[s.findIdx p]? = some q ∧ p q = true := by
  have hl : s.findIdx p < s.length := List.findIdx_lt_length.2 ⟨o, ho, hp⟩
  exact ⟨_, List.getElem?_eq_getElem hl, @List.findIdx_getElem _ p s hl⟩
theorem stampN_at {s : List OpV} {o : OpV} (ho : o ∈ s) : ∃ q, s[stampN s o.tx]? = some q ∧ q.tx = o.tx := by
  obtain ⟨q, h1, h2⟩ := findIdx_at (p := fun x : OpV => x.tx == o.tx) ho (by simp)
  exact ⟨q, h1, by simpa using h2⟩
theorem commitN_at {s : List OpV} {o : OpV} (ho : o ∈ s) (hk : o.kind = 2) : ∃ q, s[commitN s o.tx]? = some q ∧ q.tx = o.tx ∧ q.kind = 2 := by
  obtain ⟨q, h1, h2⟩ := findIdx_at (p := fun x : OpV => x.tx == o.tx && x.kind == 2) ho (by simp [hk])
  exact ⟨q, h1, by simpa using h2⟩
/-! ### serial schedules -/

theorem ser_at {s : List OpV} (h : isSer s = true) {k : Nat} {o : OpV} (ho : s[k]? = some o) (hk : 0 < k) {q : OpV} (hq : s[k - 1]? = some q) (hne : q.tx ≠ o.tx) : ∀ j p, j < k → s[j]? = some p → p.tx ≠ o.tx := by
  intro j p hj hp ht
  unfold isSer at h
  rw [List.all_eq_true] at h
  have hl : k < s.length := (List.getElem?_eq_some_iff.1 ho).1
  have := h k (List.mem_range.2 hl)
  have hb : serBad s k = true := by
    unfold serBad
    rw [ho, hq]
    simp only [Bool.and_eq_true, bne_iff_ne]
    refine ⟨fun e => hne e.symm, ?_⟩
    unfold hasTx
    exact List.any_eq_true.2 ⟨p, List.mem_of_getElem? (i := j) (by rw [List.getElem?_take, if_pos hj]; exact hp), by simpa using ht⟩
  rw [hb] at this
  simp at this
  omega
/-- Between two operations of one transaction stand operations of this one alone. -/
theorem ser_between {s : List OpV} (h : isSer s = true) {i j : Nat} {a b : OpV} (hi : s[i]? = some a) (hj : s[j]? = some b) (ht : a.tx = b.tx) : ∀ k c, i ≤ k → k ≤ j → s[k]? = some c → c.tx = a.tx := by
  have key : ∀ d k c, k + d = j → i ≤ k → s[k]? = some c → c.tx = a.tx := by
    intro d
    induction d with
    | zero =>
      intro k c hk _ hc
      obtain rfl : k = j := by omega
      rw [hj] at hc; injection hc with hc; rw [← hc, ht]
    | succ d ih =>
      intro k c hk hik hc
      have hjl : j < s.length := (List.getElem?_eq_some_iff.1 hj).1
      have e : s[k + 1]? = some (s[k + 1]'(by omega)) := List.getElem?_eq_getElem (by omega)
      have h1 := ih (k + 1) _ (by omega) (by omega) e
      by_cases hne : c.tx = (s[k + 1]'(by omega)).tx
      · rw [hne, h1]
      · exfalso
        exact ser_at h e (by omega) (q := c) hc hne i a (by omega) hi h1.symm
  intro k c h1 h2 hc
  exact key (j - k) k c (by omega) h1 hc

theorem stampN_le {s : List OpV} {j : Nat} {o : OpV} (h : s[j]? = some o) : stampN s o.tx ≤ j := by
  rcases Nat.lt_or_ge j (stampN s o.tx) with hlt | hge
  · have := List.not_of_lt_findIdx (p := fun x : OpV => x.tx == o.tx) hlt
    rw [(List.getElem?_eq_some_iff.1 h).2] at this
    simp at this
  · exact hge
theorem commitN_le {s : List OpV} {j : Nat} {o : OpV} (h : s[j]? = some o) (hk : o.kind = 2) : commitN s o.tx ≤ j := by
  rcases Nat.lt_or_ge j (commitN s o.tx) with hlt | hge
  · have := List.not_of_lt_findIdx (p := fun x : OpV => x.tx == o.tx && x.kind == 2) hlt
    rw [(List.getElem?_eq_some_iff.1 h).2] at this
    simp [hk] at this
  · exact hge
theorem commitN_eq {s : List OpV} (h : validS s = true) {j : Nat} {o : OpV} (ho : s[j]? = some o) (hk : o.kind = 2) : commitN s o.tx = j := by
  have h1 := commitN_le ho hk
  obtain ⟨q, hq, ht, hqk⟩ := commitN_at (List.mem_of_getElem? ho) hk
  have := validS_after h hq ho (isEnd_two hqk) ht
  omega
/-- In a serial schedule: if t begins ahead of one operation of u, all of t stands ahead of all of u. -/
theorem ser_before {s : List OpV} (hs : isSer s = true) {t : Int} (ht : ∃ o ∈ s, o.tx = t) {j : Nat} {q : OpV} (hq : s[j]? = some q) (htu : t ≠ q.tx) (h : stampN s t < j) :
    stampN s t < stampN s q.tx ∧ ∀ i p, s[i]? = some p → p.tx = t → i < stampN s q.tx := by
  obtain ⟨o, ho, rfl⟩ := ht
  obtain ⟨o1, h1, e1⟩ := stampN_at ho
  obtain ⟨q1, h2, e2⟩ := stampN_at (List.mem_of_getElem? hq)
  have hlt : stampN s o.tx < stampN s q.tx := by
    rcases Nat.lt_trichotomy (stampN s o.tx) (stampN s q.tx) with a | a | a
    · exact a
    · exfalso
      rw [a, h2] at h1
      injection h1 with h1
      exact htu (by rw [← e1, ← e2, h1])
    · exfalso
      have := ser_between hs h2 hq e2 (stampN s o.tx) o1 (by omega) (by omega) h1
      exact htu (by rw [← e1, this, e2])
  refine ⟨hlt, fun i p hp hpt => ?_⟩
  rcases Nat.lt_or_ge i (stampN s q.tx) with a | a
  · exact a
  · exfalso
    have := ser_between hs h1 hp (by rw [e1, hpt]) (stampN s q.tx) q1 (by omega) a h2
    exact htu (by rw [← e1, ← this, e2])
/-- The stamps: each transaction at its first operation. -/
def stTo (s : List OpV) : Nat → List Int
  | 0 => []
  | k + 1 => match s[k]? with | some o => if ((stTo s k).any fun y => y == o.tx) then stTo s k else stTo s k ++ [o.tx] | none => stTo s k
theorem stTo_succ {s : List OpV} {k : Nat} {o : OpV} (h : s[k]? = some o) : stTo s (k + 1) = if ((stTo s k).any fun y => y == o.tx) then stTo s k else stTo s k ++ [o.tx] := by simp only [stTo, h]
def stI (s : List OpV) : List Int := stTo s s.length
theorem any_eq_iff {L : List Int} {x : Int} : (L.any fun y => y == x) = true ↔ x ∈ L := by
  rw [List.any_eq_true]
  constructor
  · rintro ⟨y, hy, e⟩
    have : y = x := by simpa using e
    subst this; exact hy
  · intro h; exact ⟨x, h, by simp⟩
theorem stTo_known {s : List OpV} (k : Nat) (hk : k ≤ s.length) : (∀ t, t ∈ stTo s k ↔ ∃ j o, j < k ∧ s[j]? = some o ∧ o.tx = t) ∧ (stTo s k).Pairwise (fun a b => stampN s a < stampN s b) := by
  induction k with
  | zero => exact ⟨by simp [stTo], by simp [stTo]⟩
  | succ k ih =>
    obtain ⟨i1, i2⟩ := ih (by omega)
    have e : s[k]? = some (s[k]'(by omega)) := List.getElem?_eq_getElem (by omega)
    rw [stTo_succ e]
    generalize s[k]'(by omega) = o at *
    by_cases hm : o.tx ∈ stTo s k
    · rw [if_pos (any_eq_iff.2 hm)]
      refine ⟨fun t => ?_, i2⟩
      rw [i1]
      constructor
      · rintro ⟨j, p, hj, r⟩; exact ⟨j, p, by omega, r⟩
      · rintro ⟨j, p, hj, hp, rfl⟩
        by_cases hjk : j = k
        · subst hjk
          rw [e] at hp; injection hp with hp; subst hp
          exact (i1 _).1 hm
        · exact ⟨j, p, by omega, hp, rfl⟩
    · rw [if_neg (fun h => hm (any_eq_iff.1 h))]
      refine ⟨fun t => ?_, ?_⟩
      · rw [List.mem_append, i1, List.mem_singleton]
        constructor
        · rintro (⟨j, p, hj, r⟩ | rfl)
          · exact ⟨j, p, by omega, r⟩
          · exact ⟨k, o, by omega, e, rfl⟩
        · rintro ⟨j, p, hj, hp, rfl⟩
          by_cases hjk : j = k
          · subst hjk
            rw [e] at hp; injection hp with hp; subst hp
            exact .inr rfl
          · exact .inl ⟨j, p, by omega, hp, rfl⟩
      · rw [List.pairwise_append]
        refine ⟨i2, by simp, ?_⟩
        intro a ha b hb
        rw [List.mem_singleton] at hb
        subst hb
        obtain ⟨j, p, hj, hp, rfl⟩ := (i1 a).1 ha
        have h1 := stampN_le hp
        have h2 : k ≤ stampN s o.tx := by
          rcases Nat.lt_or_ge (stampN s o.tx) k with hlt | hge
          · exfalso
            obtain ⟨q, hq, hqt⟩ := stampN_at (List.mem_of_getElem? e)
            exact hm ((i1 _).2 ⟨_, q, hlt, hq, hqt⟩)
          · exact hge
        omega
theorem mem_stI {s : List OpV} {t : Int} : t ∈ stI s ↔ ∃ o ∈ s, o.tx = t := by
  unfold stI
  rw [(stTo_known _ (Nat.le_refl _)).1]
  constructor
  · rintro ⟨j, o, _, ho, e⟩; exact ⟨o, List.mem_of_getElem? ho, e⟩
  · rintro ⟨o, ho, e⟩
    obtain ⟨j, hj⟩ := List.mem_iff_getElem?.1 ho
    exact ⟨j, o, (List.getElem?_eq_some_iff.1 hj).1, hj, e⟩
theorem stI_sorted (s : List OpV) : (stI s).Pairwise (fun a b => stampN s a < stampN s b) := (stTo_known _ (Nat.le_refl _)).2
/-- What is left of a sorted list if two of it are kept. -/
theorem filter_one {f : Int → Nat} {u : Int} : ∀ {l : List Int}, l.Pairwise (fun a b => f a < f b) → u ∈ l → l.filter (fun x => x == u) = [u] := by
  intro l
  induction l with
  | nil => intro _ h; cases h
  | cons x r ih =>
    intro hp hu
    rw [List.pairwise_cons] at hp
    by_cases hx : x = u
    · subst hx
      rw [List.filter_cons_of_pos (by simp)]
      congr 1
      rw [List.filter_eq_nil_iff]
      intro y hy e
      have : y = x := by simpa using e
      subst this
      have := hp.1 y hy
      omega
    · rw [List.filter_cons_of_neg (by simpa using hx)]
      refine ih hp.2 ?_
      rcases List.mem_cons.1 hu with h | h
      · exact absurd h.symm hx
      · exact h
theorem filter_two {f : Int → Nat} {t u : Int} (htu : f t < f u) : ∀ {l : List Int}, l.Pairwise (fun a b => f a < f b) → t ∈ l → u ∈ l → l.filter (fun x => x == t || x == u) = [t, u] := by
  intro l
  induction l with
  | nil => intro _ h; cases h
  | cons x r ih =>
    intro hp ht hu
    rw [List.pairwise_cons] at hp
    have hne : t ≠ u := fun e => by rw [e] at htu; omega
    by_cases hx : x = t
    · subst hx
      rw [List.filter_cons_of_pos (by simp)]
      congr 1
      have hur : u ∈ r := by
        rcases List.mem_cons.1 hu with h | h
        · exact absurd h.symm hne
        · exact h
      rw [← filter_one hp.2 hur]
      refine List.filter_congr fun y hy => ?_
      have h1 := hp.1 y hy
      have : (y == x) = false := by
        rw [beq_eq_false_iff_ne]
        intro e
        rw [e] at h1; omega
      rw [this, Bool.false_or]
    · have htr : t ∈ r := by
        rcases List.mem_cons.1 ht with h | h
        · exact absurd h.symm hx
        · exact h
      have hxu : x ≠ u := fun e => by
        have := hp.1 t htr
        rw [e] at this; omega
      rw [List.filter_cons_of_neg (by simp [hx, hxu])]
      refine ih hp.2 htr ?_
      rcases List.mem_cons.1 hu with h | h
      · exact absurd h.symm hxu
      · exact h
end Go.Proofs.Ytcakjhappchlmaa
namespace Go.Proofs.Ytcakjhappchlmaa
open Go.RowKit
set_option linter.unusedVariables false

def okStep (s : OpV) : Bool := inR s.tx 0 3 && inR s.kind 0 4 && inR s.item 0 2
def validL (st : List OpV) : Bool := decide (st.length ≤ 40) && st.all okStep
theorem okStep_iff {s : OpV} : okStep s = true ↔ (0 ≤ s.tx ∧ s.tx ≤ 3) ∧ (0 ≤ s.kind ∧ s.kind ≤ 4) ∧ 0 ≤ s.item ∧ s.item ≤ 2 := by
  simp only [okStep, inR, Bool.and_eq_true, decide_eq_true_eq]
  omega
theorem validL_iff {st : List OpV} : validL st = true ↔ st.length ≤ 40 ∧ ∀ s ∈ st, okStep s = true := by
  simp only [validL, Bool.and_eq_true, decide_eq_true_eq, List.all_eq_true]
theorem validL_take {st : List OpV} (h : validL st = true) (k : Nat) : validL (st.take k) = true := by
  rw [validL_iff] at h ⊢
  exact ⟨by simp; omega, fun s hs => h.2 s (List.mem_of_mem_take hs)⟩

/-- What a step does to the lock of t on x. -/
def hStep (t x h : Int) (s : OpV) : Int := if s.tx = t ∧ s.item = x then (if s.kind = 2 then -1 else if s.kind ≤ 1 then s.kind else h) else h
def heldI (st : List OpV) (t x : Int) : Int := st.foldl (hStep t x) (-1)
theorem heldI_nil (t x : Int) : heldI [] t x = -1 := rfl
theorem heldI_snoc (st : List OpV) (s : OpV) (t x : Int) : heldI (st ++ [s]) t x = hStep t x (heldI st t x) s := by simp [heldI]
theorem heldI_succ {st : List OpV} {k : Nat} {s : OpV} (h : st[k]? = some s) (t x : Int) : heldI (st.take (k + 1)) t x = hStep t x (heldI (st.take k) t x) s := by
  rw [take_snoc h, heldI_snoc]
theorem heldI_rng {st : List OpV} (h : ∀ s ∈ st, okStep s = true) (t x : Int) : heldI st t x = -1 ∨ heldI st t x = 0 ∨ heldI st t x = 1 := by
  have : ∀ (l : List OpV) (a : Int), (∀ s ∈ l, okStep s = true) → (a = -1 ∨ a = 0 ∨ a = 1) → (l.foldl (hStep t x) a = -1 ∨ l.foldl (hStep t x) a = 0 ∨ l.foldl (hStep t x) a = 1) := by
    intro l
    induction l with
    | nil => intro a _ ha; exact ha
    | cons s r ih =>
      intro a hl ha
      rw [List.foldl_cons]
      refine ih _ (fun q hq => hl q (List.mem_cons_of_mem _ hq)) ?_
      have := okStep_iff.1 (hl s (by simp))
      unfold hStep
      split
      · split
        · exact .inl rfl
        · split
          · omega
          · exact ha
      · exact ha
  exact this st (-1) h (.inl rfl)
theorem heldI_none {st : List OpV} {t x : Int} (h : ∀ s ∈ st, ¬ (s.tx = t ∧ s.item = x)) : heldI st t x = -1 := by
  have : ∀ (l : List OpV) (a : Int), (∀ s ∈ l, ¬ (s.tx = t ∧ s.item = x)) → l.foldl (hStep t x) a = a := by
    intro l
    induction l with
    | nil => intro a _; rfl
    | cons s r ih =>
      intro a hl
      rw [List.foldl_cons]
      have e : hStep t x a s = a := by unfold hStep; rw [if_neg (hl s (by simp))]
      rw [e]
      exact ih a fun q hq => hl q (List.mem_cons_of_mem _ hq)
  exact this st (-1) h
theorem heldI_out {st : List OpV} (h : ∀ s ∈ st, okStep s = true) {t x : Int} (ho : ¬ ((0 ≤ t ∧ t ≤ 3) ∧ 0 ≤ x ∧ x ≤ 2)) : heldI st t x = -1 :=
  heldI_none fun s hs e => ho (by have := okStep_iff.1 (h s hs); omega)
/-- The law of HeldAt. -/
theorem heldAt_law {st : List OpV} (h : ∀ s ∈ st, okStep s = true) {k : Nat} {o : OpV} (ho : st[k]? = some o) (t x : Int) :
    ((o.tx ≠ t ∨ o.item ≠ x ∨ 3 ≤ o.kind) → heldI (st.take (k + 1)) t x = heldI (st.take k) t x) ∧ (¬ (o.tx ≠ t ∨ o.item ≠ x ∨ 3 ≤ o.kind) → (o.kind = 2 ∧ heldI (st.take (k + 1)) t x = -1) ∨ o.kind = heldI (st.take (k + 1)) t x) := by
  have hk := okStep_iff.1 (h o (List.mem_of_getElem? ho))
  rw [heldI_succ ho]
  unfold hStep
  constructor
  · intro hc
    split
    · split
      · omega
      · split
        · omega
        · rfl
    · rfl
  · intro hc
    rw [if_pos (by omega)]
    split
    · exact .inl ⟨by assumption, rfl⟩
    · rw [if_pos (by omega)]
      exact .inr rfl

/-- Another one than t has a lock on x of at least a kind. -/
def othersB (p : List OpV) (t x least : Int) : Bool := [0, 1, 2, 3].any fun u => u != t && decide (least ≤ heldI p u x)
/-- The step o behind p is illegal. -/
def illB (p : List OpV) (o : OpV) : Bool :=
  if o.kind = 0 then decide (0 ≤ heldI p o.tx o.item) || othersB p o.tx o.item 1
  else if o.kind = 1 then heldI p o.tx o.item == 1 || othersB p o.tx o.item 0
  else if o.kind = 4 then heldI p o.tx o.item != 1
  else decide (heldI p o.tx o.item < 0)
def illAtB (st : List OpV) (i : Nat) : Bool := match st[i]? with | some o => illB (st.take i) o | none => false
/-- The first illegal step, or -1. -/
def illI (st : List OpV) : Int := match (List.range st.length).find? (illAtB st) with | some i => (i : Int) | none => -1
theorem illI_hit {st : List OpV} {k : Nat} (hk : k < st.length) (h : illAtB st k = true) (hno : ∀ j, j < k → illAtB st j = false) : illI st = (k : Int) := by
  unfold illI
  have : (List.range st.length).find? (illAtB st) = some k := by
    rw [List.find?_range_eq_some]
    exact ⟨h, by simpa using hk, fun j hj => by rw [hno j hj]; rfl⟩
  rw [this]
theorem illI_none {st : List OpV} (hno : ∀ j, j < st.length → illAtB st j = false) : illI st = -1 := by
  unfold illI
  have : (List.range st.length).find? (illAtB st) = none := by
    rw [List.find?_eq_none]
    intro j hj
    rw [hno j (List.mem_range.1 hj)]
    simp
  rw [this]
theorem illI_spec (st : List OpV) : (illI st = -1 ∧ ∀ j, j < st.length → illAtB st j = false) ∨ ∃ k : Nat, k < st.length ∧ illI st = (k : Int) ∧ illAtB st k = true ∧ ∀ j, j < k → illAtB st j = false := by
  cases h : (List.range st.length).find? (illAtB st) with
  | none =>
    refine .inl ⟨by unfold illI; rw [h], fun j hj => ?_⟩
    have := List.find?_eq_none.1 h j (List.mem_range.2 hj)
    simpa using this
  | some k =>
    rw [List.find?_range_eq_some] at h
    obtain ⟨h1, h2, h3⟩ := h
    have hk : k < st.length := by simpa using h2
    have hno : ∀ j, j < k → illAtB st j = false := fun j hj => by have := h3 j hj; simpa using this
    exact .inr ⟨k, hk, illI_hit hk h1 hno, h1, hno⟩
theorem illAtB_take {st : List OpV} {i m : Nat} (h : i < m) : illAtB (st.take m) i = illAtB st i := by
  unfold illAtB
  rw [List.getElem?_take_of_lt h, List.take_take, Nat.min_eq_left (by omega)]
/-- The law of IllegalAt. -/
theorem illegal_law {st : List OpV} {k : Nat} (h : illI st = (k : Int)) : k < st.length ∧ illI (st.take k) = -1 ∧ illI (st.take (k + 1)) = (k : Int) := by
  rcases illI_spec st with ⟨h1, _⟩ | ⟨q, hq, h1, h2, h3⟩
  · omega
  · obtain rfl : q = k := by omega
    refine ⟨hq, illI_none fun j hj => ?_, illI_hit (by simp; omega) (by rw [illAtB_take (by omega)]; exact h2) fun j hj => by rw [illAtB_take (by omega)]; exact h3 j hj⟩
    have hjq : j < q := by simp at hj; omega
    rw [illAtB_take hjq]
    exact h3 j hjq
end Go.Proofs.Ytcakjhappchlmaa
namespace Go.Proofs.Ytcakjhappchlmaa
open Go.RowKit
set_option linter.unusedVariables false


theorem gpcells : Try.prog.cellsOf 155 = 2 := by kernel_rfl
theorem gprow : (155 : TypeId) < Try.prog.types.size := of_decide_eq_true (by kernel_rfl)
theorem gpwide : (match Try.prog.underlying 155 with | some (.array _ _) | some (.struct _) => true | _ => false) = true := by rw [Try.underlying155]
theorem gplaid : laidOutB Try.prog = true := by kernel_rfl
set_option maxRecDepth 100000 in
theorem gplaw : WideMaps.KeyLaw Try.prog 155 := deep_law_laid gplaid (m := 2) (by omega) gprow (by kernel_rfl) gpwide
theorem gpkeyed : Maps.Keyed Try.prog 155 := Maps.Keyed.of_law gplaw
theorem gpkt : Try.prog.keyType 155 = true := by kernel_rfl
def gpval (t u : Int) : Value := .agg #[.int .i64 t, .int .i64 u]
theorem gpformed {a b : Value} : (Value.agg #[a, b]).formed Try.prog 155 = true := by simp [Value.formed, Try.underlying155, gpcells]
def gplit (t u : Int) : Lit := .string (keyBytes [.int .i64 t, .int .i64 u])
theorem gpkey {t u : Int} (ht : (Lit.int .i64 t).wf = true) (hu : (Lit.int .i64 u).wf = true) : keyOf Try.prog 155 (gpval t u) = some (gplit t u) := by
  obtain ⟨d, hd⟩ : ∃ d, Try.prog.types.size = d + 1 := ⟨Try.prog.types.size - 1, by have h : (155 : Nat) < Try.prog.types.size := gprow; omega⟩
  have hc : Try.prog.cellsOf 3 = 1 := by kernel_rfl
  unfold keyOf gpval gplit
  rw [Try.underlying155]
  simp only [gpkt, gpformed, Bool.and_self, if_true]
  rw [hd]
  simp [Program.keyLits, Try.underlying155, Try.underlying3, gpcells, hc, Value.cells, ht, hu]
set_option maxRecDepth 100000 in
theorem gpinv {v : Value} {kl : Lit} (h : keyOf Try.prog 155 v = some kl) : ∃ t u : Int, v = gpval t u ∧ (Lit.int .i64 t).wf = true ∧ (Lit.int .i64 u).wf = true ∧ kl = gplit t u := by
  have h0 := h
  have hf : v.formed Try.prog 155 = true := by
    unfold keyOf at h
    rw [Try.underlying155] at h
    simp only [gpkt, Bool.true_and] at h
    cases hv : v.formed Try.prog 155
    · rw [hv] at h; simp at h
    · rfl
  obtain ⟨cs, rfl⟩ : ∃ cs, v = .agg cs := by
    cases v <;> simp [Value.formed, Try.underlying155] at hf ⊢
  have hsz : cs.size = 2 := by
    simp only [Value.formed, Try.underlying155, gpcells, beq_iff_eq] at hf
    exact hf
  obtain ⟨a, b, rfl⟩ : ∃ a b, cs = #[a, b] := by
    obtain ⟨l⟩ := cs
    match l, hsz with
    | [a, b], _ => exact ⟨a, b, rfl⟩
  obtain ⟨d, hd⟩ : ∃ d, Try.prog.types.size = d + 1 := ⟨Try.prog.types.size - 1, by have h : (155 : Nat) < Try.prog.types.size := gprow; omega⟩
  have hc : Try.prog.cellsOf 3 = 1 := by kernel_rfl
  have key : ∀ x : Value, (∃ n : Int, x = .int .i64 n ∧ (Lit.int .i64 n).wf = true) ∨ Try.prog.keyLits (d + 1) 3 [x] = none := by
    intro x
    cases x
    case int q n =>
      by_cases hq : q = .i64 ∧ (Lit.int .i64 n).wf = true
      · obtain ⟨rfl, hw⟩ := hq
        exact .inl ⟨n, rfl, hw⟩
      · right
        simp only [Program.keyLits, Try.underlying3]
        rw [if_neg hq]
    all_goals (right; simp [Program.keyLits, Try.underlying3])
  unfold keyOf at h
  rw [Try.underlying155] at h
  simp only [gpkt, gpformed, Bool.and_self, if_true] at h
  rw [hd] at h
  rw [Program.keyLits.eq_def] at h
  simp only [Try.underlying155, Value.cells] at h
  rcases key a with ⟨t, rfl, ht⟩ | ha
  · rcases key b with ⟨u, rfl, hu⟩ | hb
    · refine ⟨t, u, rfl, ht, hu, ?_⟩
      have h1 := gpkey ht hu
      unfold gpval at h1
      rw [h1] at h0
      injection h0 with h0
      exact h0.symm
    · simp [gpcells, hc, hb] at h
  · simp [gpcells, hc, ha] at h


theorem gpbool_inv0 {P : Program} {e : TypeId} (he : P.underlying e = some .bool) {v : Value} {z : DataW Unit × List MemPlace} (h : plainElem (H := Unit) P e v = some z) : ∃ c : Bool, v = .bool c ∧ z = (.lit (.bool c), []) := by
  unfold plainElem at h
  rw [he] at h
  cases v <;> simp at h
  exact ⟨_, rfl, h.symm⟩
theorem gpbool_inv {v : Value} {z : DataW Unit × List MemPlace} (h : plainElem (H := Unit) Try.prog 4 v = some z) : ∃ c : Bool, v = .bool c ∧ z = (.lit (.bool c), []) := gpbool_inv0 Try.underlying4 h
section
variable {w : World} {ops : Array Oper} {rest : List Oper} {o : Oper} {a : Act} {Q : Exit → Act → World → Prop}
set_option maxRecDepth 100000 in
theorem gpbool_next (hg : o.guard = none) (it : Operand) (hop : o.op = Op.next it false) (b r n : Nat) (D : DataW Unit) (left : Lit → Bool) (cnt : Nat)
    (hit : a.eval it = .pointer (some ⟨r, 0, none⟩)) (h : w.ranges Try.prog 155 (plainElem (H := Unit) Try.prog 4) b r n D left cnt)
    (hDone : cnt = 0 → (∀ kl, left kl = false) → wpList Try.prog ops Q rest (a.put o.dst (.tuple #[.bool false])) w)
    (hMore : ∀ (t u : Int) (c : Bool) (w' : World) (cnt' : Nat), (Lit.int .i64 t).wf = true → (Lit.int .i64 u).wf = true → left (gplit t u) = true → (∀ zd, D.atKey (gplit t u) zd = .lit (.bool c)) → w'.ranges Try.prog 155 (plainElem (H := Unit) Try.prog 4) b r n D (fun z => left z && !z.sameKey (gplit t u)) cnt' → cnt' < cnt →
      w.grownBy w' (some r) → w'.heap.size = w.heap.size → (Instr.entry (.pointer (some ⟨r, 0, none⟩))).run Try.prog w' = .ok (.tuple #[.agg #[.int .i64 t, .int .i64 u], .bool c]) w' → wpList Try.prog ops Q rest (a.put o.dst (.tuple #[.bool true, .agg #[.int .i64 t, .int .i64 u], .bool c])) w') :
    wpList Try.prog ops Q (o :: rest) a w := by
  refine wpList_next_ranges w hg it hop 155 gpkeyed (plainElem (H := Unit) Try.prog 4) (fun p : Int × Int => gpval p.1 p.2) (fun c : Bool => .bool c) (fun key kl hk => ?_) (fun v y hv => ?_) b r n D left cnt hit h hDone ?_
  · obtain ⟨t, u, rfl, _⟩ := gpinv hk
    exact ⟨(t, u), rfl⟩
  · obtain ⟨c, rfl, _⟩ := gpbool_inv hv
    exact ⟨c, rfl⟩
  · rintro ⟨x1, x2⟩ c kl y w' cnt' hk hl hv hat hrg hlt hgr hsz hen
    obtain ⟨t, u, e, ht, hu, rfl⟩ := gpinv hk
    unfold gpval at e
    simp only [Value.agg.injEq, Array.mk.injEq, List.cons.injEq, Value.int.injEq, true_and, and_true] at e
    obtain ⟨rfl, rfl⟩ := e
    obtain ⟨c', e, rfl⟩ := gpbool_inv hv
    obtain rfl : c = c' := by simpa using e
    exact hMore x1 x2 c w' cnt' ht hu hl hat hrg hlt hgr hsz hen
end

end Go.Proofs.Ytcakjhappchlmaa
namespace Go.Proofs.Ytcakjhappchlmaa
open Go.RowKit Go.BigFrame
set_option linter.unusedVariables false

def confB (a b : OpV) : Bool := a.tx != b.tx && isAcc a && isAcc b && a.item == b.item && (a.kind == 1 || b.kind == 1)

set_option maxRecDepth 100000 in
set_option maxHeartbeats 2000000 in
theorem conflicts_any (a b : OpV) (w : World) :
    Calls Try.prog 164 #[a.val, b.val] w fun e w' => e = .returned (.bool (confB a b)) ∧ Below w.heap.size w w' := by
  obtain ⟨at_, ak, ai⟩ := a
  obtain ⟨bt, bk, bi⟩ := b
  obtain ⟨r1, h1⟩ : ∃ z, (at_ != bt) = z := ⟨_, rfl⟩
  obtain ⟨r2, h2⟩ : ∃ z, isAcc ⟨at_, ak, ai⟩ = z := ⟨_, rfl⟩
  obtain ⟨r3, h3⟩ : ∃ z, isAcc ⟨bt, bk, bi⟩ = z := ⟨_, rfl⟩
  obtain ⟨r4, h4⟩ : ∃ z, (ai == bi) = z := ⟨_, rfl⟩
  obtain ⟨r5, h5⟩ : ∃ z, (ak == 1) = z := ⟨_, rfl⟩
  obtain ⟨r6, h6⟩ : ∃ z, (bk == 1) = z := ⟨_, rfl⟩
  have HR : Hid (confB ⟨at_, ak, ai⟩ ⟨bt, bk, bi⟩ = (r1 && r2 && r3 && r4 && (r5 || r6))) := by
    show _ = _
    unfold confB
    simp only
    rw [h1, h2, h3, h4, h5, h6]
  have hA : ∀ W : World, Calls Try.prog 128 #[.agg #[.int .i64 at_, .int .i64 ak, .int .i64 ai]] W fun e w' => e = .returned (.bool r2) ∧ Below W.heap.size W w' := fun W => by
    have := access_any ⟨at_, ak, ai⟩ W; rw [h2] at this; exact this
  have hB : ∀ W : World, Calls Try.prog 128 #[.agg #[.int .i64 bt, .int .i64 bk, .int .i64 bi]] W fun e w' => e = .returned (.bool r3) ∧ Below W.heap.size W w' := fun W => by
    have := access_any ⟨bt, bk, bi⟩ W; rw [h3] at this; exact this
  have HA := Lib.hid hA
  have HB := Lib.hid hB
  obtain ⟨W, hW⟩ : ∃ W : World, W = (w.alloc (.cells #[.int .i64 at_, .int .i64 ak, .int .i64 ai] 92)).alloc (.cells #[.int .i64 bt, .int .i64 bk, .int .i64 bi] 92) := ⟨_, rfl⟩
  obtain ⟨W1, hW1⟩ : ∃ W : World, W = w.alloc (.cells #[.int .i64 at_, .int .i64 ak, .int .i64 ai] 92) := ⟨_, rfl⟩
  obtain ⟨L0, L1, L2, hbW1, hs1⟩ := op_box hW1
  rw [← hW1] at hW
  obtain ⟨M0, M1, M2, hbW, hs2⟩ := op_box hW
  have hsz : W1.heap.size = w.heap.size + 1 := by rw [hW1]; simp
  rw [hsz] at M0 M1 M2
  have hbb := hbW1.trans (hbW.mono hbW1.size)
  have l0 : ∀ u : Later W, u.1.cell? ⟨w.heap.size, 0, none⟩ = some (.int .i64 at_) := fun u => L0 ⟨u.1, hbW.trans (u.2.mono hbW.size)⟩
  have l1 : ∀ u : Later W, u.1.cell? ⟨w.heap.size, 1, none⟩ = some (.int .i64 ak) := fun u => L1 ⟨u.1, hbW.trans (u.2.mono hbW.size)⟩
  have l2 : ∀ u : Later W, u.1.cell? ⟨w.heap.size, 2, none⟩ = some (.int .i64 ai) := fun u => L2 ⟨u.1, hbW.trans (u.2.mono hbW.size)⟩
  have HW : Hid ((w.alloc (.cells #[.int .i64 at_, .int .i64 ak, .int .i64 ai] 92)).alloc (.cells #[.int .i64 bt, .int .i64 bk, .int .i64 bi] 92) = W) := by show _ = _; rw [hW, hW1]
  unfold OpV.val
  clear hA hB hW hW1 L0 L1 L2 h2 h3
  cases r1
  · go_enter Try.func164, Try.ntmps164
    go_wp2_with fail
    go_ret
    rw [HW.out]
    exact ⟨ret_bool (by rw [HR.out]; rfl), hbb⟩
  · go_enter Try.func164, Try.ntmps164
    go_wp2_with fail
    rw [HW.out]
    refine (HA.out W).mono ?_
    rintro e w1 ⟨rfl, hb1⟩
    have x0 := l0 ⟨w1, hb1⟩
    have x2 := l2 ⟨w1, hb1⟩
    have x1 := l1 ⟨w1, hb1⟩
    have y0 := M0 ⟨w1, hb1⟩
    have y1 := M1 ⟨w1, hb1⟩
    have y2 := M2 ⟨w1, hb1⟩
    simp only at x0 x1 x2 y0 y1 y2
    have hbw1 := hbb.trans (hb1.mono hbb.size)
    cases r2
    · go_wp2_with fail
      go_ret
      exact ⟨ret_bool (by rw [HR.out]; rfl), hbw1⟩
    · go_wp2_with fail
      refine (HB.out w1).mono ?_
      rintro e w2 ⟨rfl, hb2⟩
      have hbW2 := hb1.trans (hb2.mono hb1.size)
      have z1 := l1 ⟨w2, hbW2⟩
      have z2 := l2 ⟨w2, hbW2⟩
      have v1 := M1 ⟨w2, hbW2⟩
      have v2 := M2 ⟨w2, hbW2⟩
      simp only at z1 z2 v1 v2
      have hbw2 := hbb.trans (hbW2.mono hbb.size)
      clear x0 x1 x2 y0 y1 y2 HA HB
      cases r3
      · go_wp2_with fail
        go_ret
        exact ⟨ret_bool (by rw [HR.out]; rfl), hbw2⟩
      · cases r4
        · go_wp2_with fail
          go_ret
          exact ⟨ret_bool (by rw [HR.out]; rfl), hbw2⟩
        · cases r5
          · cases r6
            · go_wp2_with fail
              go_ret
              exact ⟨ret_bool (by rw [HR.out]; rfl), hbw2⟩
            · go_wp2_with fail
              go_ret
              exact ⟨ret_bool (by rw [HR.out]; rfl), hbw2⟩
          · go_wp2_with fail
            go_ret
            exact ⟨ret_bool (by rw [HR.out]; rfl), hbw2⟩

end Go.Proofs.Ytcakjhappchlmaa
namespace Go.Proofs.Ytcakjhappchlmaa
open Go.RowKit
set_option linter.unusedVariables false

/-- One pair more. -/
def grStep (a : OpV) (rows : List Nat) (b : OpV) : List Nat := if confB a b then rowSet rows a.tx b.tx else rows
def grRow (L : List OpV) (i : Nat) (a : OpV) (rows : List Nat) (k : Nat) : List Nat := ((L.drop (i + 1)).take k).foldl (grStep a) rows
def grTo (L : List OpV) : Nat → List Nat
  | 0 => [0, 0, 0, 0]
  | i + 1 => match L[i]? with
    | some a => grRow L i a (grTo L i) (L.length - (i + 1))
    | none => grTo L i
def grI (L : List OpV) : List Nat := grTo L L.length
theorem grRow_zero {L : List OpV} {i : Nat} {a : OpV} {rows : List Nat} : grRow L i a rows 0 = rows := rfl
theorem grRow_succ {L : List OpV} {i k : Nat} {a b : OpV} {rows : List Nat} (h : L[i + 1 + k]? = some b) : grRow L i a rows (k + 1) = grStep a (grRow L i a rows k) b := by
  unfold grRow
  have h' : (L.drop (i + 1))[k]? = some b := by rw [List.getElem?_drop]; exact h
  rw [take_snoc h', List.foldl_append]; rfl
theorem grTo_succ {L : List OpV} {i : Nat} {a : OpV} (h : L[i]? = some a) : grTo L (i + 1) = grRow L i a (grTo L i) (L.length - (i + 1)) := by
  simp only [grTo, h]
theorem zero4 : Rows4 [0, 0, 0, 0] := ⟨rfl, by decide⟩
theorem grStep_ok {a b : OpV} {rows : List Nat} (h : Rows4 rows) (hb : 0 ≤ b.tx ∧ b.tx ≤ 3) : Rows4 (grStep a rows b) := by
  unfold grStep
  split
  · exact rowSet_ok h hb
  · exact h
theorem grRow_ok {L : List OpV} (hr : ∀ o ∈ L, 0 ≤ o.tx ∧ o.tx ≤ 3) {i : Nat} {a : OpV} {rows : List Nat} (h : Rows4 rows) (k : Nat) : Rows4 (grRow L i a rows k) := by
  unfold grRow
  have : ∀ (l : List OpV) (rows : List Nat), Rows4 rows → (∀ o ∈ l, 0 ≤ o.tx ∧ o.tx ≤ 3) → Rows4 (l.foldl (grStep a) rows) := by
    intro l
    induction l with
    | nil => intro rows h _; exact h
    | cons x r ih => intro rows h hl; exact ih _ (grStep_ok h (hl x (by simp))) (fun o ho => hl o (by simp [ho]))
  exact this _ _ h (fun o ho => hr o (List.mem_of_mem_drop (List.mem_of_mem_take ho)))
theorem grTo_ok {L : List OpV} (hr : ∀ o ∈ L, 0 ≤ o.tx ∧ o.tx ≤ 3) (i : Nat) : Rows4 (grTo L i) := by
  induction i with
  | zero => exact zero4
  | succ i ih =>
    simp only [grTo]
    split
    · exact grRow_ok hr ih _
    · exact ih
theorem grI_ok {L : List OpV} (hr : ∀ o ∈ L, 0 ≤ o.tx ∧ o.tx ≤ 3) : Rows4 (grI L) := grTo_ok hr _

/-- Two graphs with the same bits are one. -/
theorem rows_ext {R S : List Nat} (hR : Rows4 R) (hS : Rows4 S) (h : ∀ t u, t < 4 → u < 4 → (R.getD t 0).testBit u = (S.getD t 0).testBit u) : R = S := by
  refine List.ext_getElem (by rw [hR.1, hS.1]) fun i h1 h2 => ?_
  have hi : i < 4 := by rw [← hR.1]; exact h1
  have e1 : R.getD i 0 = R[i] := by rw [List.getD_eq_getElem?_getD, List.getElem?_eq_getElem h1]; rfl
  have e2 : S.getD i 0 = S[i] := by rw [List.getD_eq_getElem?_getD, List.getElem?_eq_getElem h2]; rfl
  refine Nat.eq_of_testBit_eq fun u => ?_
  rw [← e1, ← e2]
  by_cases hu : u < 4
  · exact h i u hi hu
  · have b : ∀ x : Nat, x < 16 → x.testBit u = false := fun x hx => by
      refine Nat.testBit_lt_two_pow (Nat.lt_of_lt_of_le hx ?_)
      have : (2:Nat) ^ 4 ≤ 2 ^ u := Nat.pow_le_pow_right (by omega) (by omega)
      omega
    rw [b _ (by rw [e1]; exact hR.2 _ (List.getElem_mem _)), b _ (by rw [e2]; exact hS.2 _ (List.getElem_mem _))]

/-- What the map holds: just the pairs of the graph. -/
structure MapIs (D : DataW Unit) (R : List Nat) : Prop where
  isMap : Maps.IsMap D
  has : ∀ t u : Int, (Lit.int .i64 t).wf = true → (Lit.int .i64 u).wf = true → (Maps.has D (gplit t u) = true ↔ (0 ≤ t ∧ t ≤ 3 ∧ 0 ≤ u ∧ u ≤ 3 ∧ (R.getD t.toNat 0).testBit u.toNat = true))
theorem wf_small {t : Int} (h : 0 ≤ t ∧ t ≤ 3) : (Lit.int .i64 t).wf = true := by
  simp [Lit.wf, IntKind.min, IntKind.max, IntKind.signed, IntKind.bits]; omega
theorem MapIs.empty : MapIs (.map []) [0, 0, 0, 0] := by
  refine ⟨Maps.isMap_empty, fun t u _ _ => ⟨fun h => by simp [Maps.has] at h, fun h => ?_⟩⟩
  exfalso
  obtain ⟨h1, h2, h3, h4, h5⟩ := h
  have : t = 0 ∨ t = 1 ∨ t = 2 ∨ t = 3 := by omega
  rcases this with rfl | rfl | rfl | rfl <;> simp at h5
theorem gplit_inj {t u t' u' : Int} (h1 : (Lit.int .i64 t).wf = true) (h2 : (Lit.int .i64 u).wf = true) (h3 : (Lit.int .i64 t').wf = true) (h4 : (Lit.int .i64 u').wf = true) (h : gplit t u = gplit t' u') : t = t' ∧ u = u' := by
  have e1 := gpkey h1 h2
  have e2 := gpkey h3 h4
  rw [← h] at e2
  have := gpkeyed.inj e1 e2
  unfold gpval at this
  injection this with this
  simp at this
  exact this
theorem gplit_key (t u : Int) : WideAt.IsKeyLit (gplit t u) := by unfold gplit; simp [WideAt.IsKeyLit]
theorem MapIs.put {D : DataW Unit} {R : List Nat} (h : MapIs D R) (hR : Rows4 R) {t u : Int} (ht : 0 ≤ t ∧ t ≤ 3) (hu : 0 ≤ u ∧ u ≤ 3) (d : DataW Unit) : MapIs (D.put (gplit t u) d) (rowSet R t u) := by
  refine ⟨h.isMap.put _ _, fun t' u' ht' hu' => ?_⟩
  obtain ⟨T, rfl⟩ := Int.eq_ofNat_of_zero_le ht.1
  obtain ⟨U, rfl⟩ := Int.eq_ofNat_of_zero_le hu.1
  by_cases he : gplit t' u' = gplit (T : Int) (U : Int)
  · obtain ⟨e1, e2⟩ := gplit_inj ht' hu' (wf_small ht) (wf_small hu) he
    subst e1; subst e2
    rw [Maps.has_put_same h.isMap (gplit_key _ _)]
    simp only [true_iff]
    refine ⟨by omega, by omega, by omega, by omega, ?_⟩
    rw [Int.toNat_natCast, Int.toNat_natCast, rowSet_bit hR (by omega)]
    simp
  · rw [Maps.has_put_other he, h.has t' u' ht' hu']
    constructor
    · rintro ⟨h1, h2, h3, h4, h5⟩
      exact ⟨h1, h2, h3, h4, by rw [rowSet_bit hR (by omega), h5]; rfl⟩
    · rintro ⟨h1, h2, h3, h4, h5⟩
      rw [rowSet_bit hR (by omega), Bool.or_eq_true] at h5
      refine ⟨h1, h2, h3, h4, h5.elim id fun hh => ?_⟩
      exfalso
      simp only [Bool.and_eq_true, decide_eq_true_eq] at hh
      apply he
      have e1 : t' = (T : Int) := by omega
      have e2 : u' = (U : Int) := by omega
      rw [e1, e2]
end Go.Proofs.Ytcakjhappchlmaa
namespace Go.Proofs.Ytcakjhappchlmaa
open Go.RowKit
set_option linter.unusedVariables false

/-- Whether the graph tells u for t. -/
def edgeB (rows : List Nat) (t u : Int) : Bool := (rows.getD t.toNat 0).testBit u.toNat
/-- All orders of the list that begin with some, with n more to come. -/
def permF (list : List Int) : Nat → List Int → List (List Int)
  | 0, pre => [pre]
  | n + 1, pre => list.flatMap fun t => if pre.any (fun y => y == t) then [] else permF list n (pre ++ [t])
def accB (rows : List Nat) : List Int → List Int → Bool
  | _, [] => true
  | pre, t :: r => !(pre.any fun u => edgeB rows t u) && accB rows (pre ++ [t]) r
/-- The orders by a graph, as the program finds them. -/
def ordI (list : List Int) (rows : List Nat) : List (List Int) := (permF list list.length []).filter (accB rows [])
/-- As the reference builds them. -/
def topF (list : List Int) (rows : List Nat) : Nat → List Int → List (List Int)
  | 0, pre => [pre]
  | n + 1, pre => list.flatMap fun t => if !(pre.any fun y => y == t) && list.all (fun v => !edgeB rows v t || pre.any fun y => y == v) then topF list rows n (pre ++ [t]) else []

theorem any_mem_iff {L : List Int} {x : Int} : (L.any fun y => y == x) = true ↔ x ∈ L := by
  rw [List.any_eq_true]
  constructor
  · rintro ⟨y, hy, e⟩
    have : y = x := by simpa using e
    subst this; exact hy
  · intro h; exact ⟨x, h, by simp⟩
theorem accB_append (rows : List Nat) (q : List Int) : ∀ (p pre : List Int), accB rows pre (p ++ q) = (accB rows pre p && accB rows (pre ++ p) q) := by
  intro p
  induction p with
  | nil => intro pre; simp [accB]
  | cons t r ih =>
    intro pre
    simp only [List.cons_append, accB, ih]
    rw [Bool.and_assoc, List.append_assoc]
    rfl
theorem nodup_len {l1 : List Int} : ∀ {l2 : List Int}, l1.Nodup → (∀ x ∈ l1, x ∈ l2) → l1.length ≤ l2.length := by
  induction l1 with
  | nil => intro l2 _ _; exact Nat.zero_le _
  | cons x r ih =>
    intro l2 hd hs
    rw [List.nodup_cons] at hd
    have hx := hs x (by simp)
    have h1 := ih (l2 := l2.erase x) hd.2 (fun y hy => by
      have hne : y ≠ x := fun e => hd.1 (by rw [← e]; exact hy)
      exact (List.mem_erase_of_ne hne).2 (hs y (by simp [hy])))
    rw [List.length_erase_of_mem hx] at h1
    have : 0 < l2.length := List.length_pos_of_mem hx
    simp only [List.length_cons]
    omega
/-- What the orders are made of. -/
theorem permF_mem {list : List Int} (hd : list.Nodup) (n : Nat) : ∀ {pre : List Int}, pre.Nodup → (∀ x ∈ pre, x ∈ list) → pre.length + n = list.length → ∀ p ∈ permF list n pre, (∃ q, p = pre ++ q) ∧ (∀ v ∈ list, v ∈ p) := by
  induction n with
  | zero =>
    intro pre hpd hsub hl p hp
    simp only [permF, List.mem_singleton] at hp
    subst hp
    refine ⟨⟨[], by simp⟩, fun v hv => ?_⟩
    by_cases hm : v ∈ p
    · exact hm
    · exfalso
      have := nodup_len (l1 := v :: p) (l2 := list) (List.nodup_cons.2 ⟨hm, hpd⟩) (fun x hx => by
        rcases List.mem_cons.1 hx with h | h
        · rw [h]; exact hv
        · exact hsub x h)
      simp only [List.length_cons] at this
      omega
  | succ n ih =>
    intro pre hpd hsub hl p hp
    simp only [permF, List.mem_flatMap] at hp
    obtain ⟨t, ht, hp⟩ := hp
    split at hp
    · cases hp
    · rename_i hm
      have hnm : t ∉ pre := fun h => hm (any_mem_iff.2 h)
      have hpd' : (pre ++ [t]).Nodup := by
        rw [List.nodup_append]
        refine ⟨hpd, by simp, ?_⟩
        intro a ha b hb
        rw [List.mem_singleton] at hb
        subst hb
        exact fun e => hnm (e ▸ ha)
      obtain ⟨⟨q, hq⟩, hall⟩ := ih hpd' (fun x hx => by
        rcases List.mem_append.1 hx with hx | hx
        · exact hsub x hx
        · rw [List.mem_singleton] at hx; subst hx; exact ht) (by simp; omega) p hp
      exact ⟨⟨t :: q, by rw [hq, List.append_assoc]; rfl⟩, hall⟩
theorem filter_flat {α β : Type} (p : β → Bool) (f : α → List β) : ∀ l : List α, (l.flatMap f).filter p = l.flatMap fun x => (f x).filter p := by
  intro l
  induction l with
  | nil => rfl
  | cons x r ih => rw [List.flatMap_cons, List.flatMap_cons, List.filter_append, ih]
theorem flat_congr {α β : Type} {f g : α → List β} : ∀ {l : List α}, (∀ x ∈ l, f x = g x) → l.flatMap f = l.flatMap g := by
  intro l
  induction l with
  | nil => intro _; rfl
  | cons x r ih =>
    intro h
    rw [List.flatMap_cons, List.flatMap_cons, h x (by simp), ih (fun y hy => h y (by simp [hy]))]
theorem top_eq {list : List Int} {rows : List Nat} (hd : list.Nodup) (hs : ∀ t ∈ list, edgeB rows t t = false) (n : Nat) :
    ∀ {pre : List Int}, pre.Nodup → (∀ x ∈ pre, x ∈ list) → pre.length + n = list.length → accB rows [] pre = true → (∀ u ∈ pre, ∀ v ∈ list, edgeB rows v u = true → v ∈ pre) →
      (permF list n pre).filter (accB rows []) = topF list rows n pre := by
  induction n with
  | zero =>
    intro pre _ _ _ hacc _
    simp only [permF, topF]
    rw [List.filter_cons, if_pos hacc, List.filter_nil]
  | succ n ih =>
    intro pre hpd hsub hl hacc hcl
    simp only [permF, topF]
    rw [filter_flat]
    refine flat_congr fun t ht => ?_
    cases hm : (pre.any fun y => y == t)
    · have hnm : t ∉ pre := fun h => by rw [any_mem_iff.2 h] at hm; cases hm
      have hpd' : (pre ++ [t]).Nodup := by
        rw [List.nodup_append]
        refine ⟨hpd, by simp, ?_⟩
        intro a ha b hb
        rw [List.mem_singleton] at hb
        subst hb
        exact fun e => hnm (e ▸ ha)
      have hsub' : ∀ x ∈ pre ++ [t], x ∈ list := fun x hx => by
        rcases List.mem_append.1 hx with hx | hx
        · exact hsub x hx
        · rw [List.mem_singleton] at hx; subst hx; exact ht
      have hl' : (pre ++ [t]).length + n = list.length := by simp; omega
      simp only [Bool.false_eq_true, if_false, Bool.not_false, Bool.true_and]
      cases hc : (list.all fun v => !edgeB rows v t || pre.any fun y => y == v)
      · -- one that must come ahead is missing: all these orders fall
        simp only [Bool.false_eq_true, if_false]
        rw [List.filter_eq_nil_iff]
        intro p hp ha
        obtain ⟨⟨q, hq⟩, hall⟩ := permF_mem hd n hpd' hsub' hl' p hp
        rw [List.all_eq_false] at hc
        obtain ⟨v, hv, hvc⟩ := hc
        simp only [Bool.or_eq_true, Bool.not_eq_true', not_or, Bool.not_eq_true] at hvc
        obtain ⟨hve, hvp⟩ := hvc
        have hve' : edgeB rows v t = true := by
          cases h : edgeB rows v t
          · exact absurd h (by simpa using hve)
          · rfl
        have hvn : v ∉ pre := fun h => by rw [any_mem_iff.2 h] at hvp; cases hvp
        have hvt : v ≠ t := fun e => by rw [e, hs t ht] at hve'; cases hve'
        have hvm : v ∈ q := by
          have := hall v hv
          rw [hq] at this
          rcases List.mem_append.1 this with h | h
          · rcases List.mem_append.1 h with h | h
            · exact absurd h hvn
            · rw [List.mem_singleton] at h; exact absurd h hvt
          · exact h
        obtain ⟨q1, q2, hq12⟩ := List.append_of_mem hvm
        rw [hq, hq12, accB_append rows (q1 ++ v :: q2) (pre ++ [t]), accB_append rows (v :: q2) q1] at ha
        simp only [Bool.and_eq_true, accB] at ha
        have h3 := ha.2.2.1
        simp only [Bool.not_eq_true'] at h3
        rw [List.any_eq_false] at h3
        exact h3 t (by simp) hve'
      · simp only [if_true]
        rw [List.all_eq_true] at hc
        have hcond : ∀ v ∈ list, edgeB rows v t = true → v ∈ pre := fun v hv he => by
          have := hc v hv
          rw [he] at this
          simp only [Bool.not_true, Bool.false_or] at this
          exact any_mem_iff.1 this
        refine ih hpd' hsub' hl' ?_ ?_
        · rw [accB_append, hacc]
          simp only [accB, Bool.true_and, Bool.and_true, List.nil_append, Bool.not_eq_true']
          rw [List.any_eq_false]
          intro u hu he
          exact hnm (hcl u hu t ht he)
        · intro u hu v hv he
          rcases List.mem_append.1 hu with hu | hu
          · exact List.mem_append_left _ (hcl u hu v hv he)
          · rw [List.mem_singleton] at hu
            subst hu
            exact List.mem_append_left _ (hcond v hv he)
    · simp
theorem ord_eq {list : List Int} {rows : List Nat} (hd : list.Nodup) (hs : ∀ t ∈ list, edgeB rows t t = false) : ordI list rows = topF list rows list.length [] :=
  top_eq hd hs list.length (by simp) (by simp) (by simp) rfl (by simp)
end Go.Proofs.Ytcakjhappchlmaa
namespace Go.Proofs.Ytcakjhappchlmaa
open Go.RowKit Go.BigFrame
set_option linter.unusedVariables false


set_option maxHeartbeats 400000 in
theorem ClipOps_any (A : Option Addr) (n c : Nat) (w : World) (hn : n ≤ 1099511627776) (hnc : n ≤ c) :
    Calls Try.prog 91 #[.slice A n c] w fun e w' => e = .returned (.slice A n n) ∧ w = w' := by
  go_enter Try.func91, Try.ntmps91
  go_wp2_with fail
  go_ret
  exact ⟨rfl, rfl⟩
set_option maxHeartbeats 400000 in
theorem ClipInts_any (A : Option Addr) (n c : Nat) (w : World) (hn : n ≤ 1099511627776) (hnc : n ≤ c) :
    Calls Try.prog 89 #[.slice A n c] w fun e w' => e = .returned (.slice A n n) ∧ w = w' := by
  go_enter Try.func89, Try.ntmps89
  go_wp2_with fail
  go_ret
  exact ⟨rfl, rfl⟩
end Go.Proofs.Ytcakjhappchlmaa
namespace Go.Proofs.Ytcakjhappchlmaa
open Go.RowKit Go.BigFrame
set_option linter.unusedVariables false

theorem eq_take_snoc {xs ys : List Int} {k : Nat} {x y : Int} (hx : xs[k]? = some x) (hy : ys[k]? = some y) (h : xs.take k = ys.take k) (e : x = y) : xs.take (k + 1) = ys.take (k + 1) := by
  rw [take_snoc hx, take_snoc hy, h, e]
theorem ne_at {xs ys : List Int} {k : Nat} {x y : Int} (hx : xs[k]? = some x) (hy : ys[k]? = some y) (e : x ≠ y) : (xs == ys) = false := by
  rw [beq_eq_false_iff_ne]
  intro h
  rw [h, hy] at hx
  injection hx with hx
  exact e hx.symm

end Go.Proofs.Ytcakjhappchlmaa
namespace Go.Proofs.Ytcakjhappchlmaa
open Go.RowKit
set_option linter.unusedVariables false

end Go.Proofs.Ytcakjhappchlmaa
namespace Go.Proofs.Ytcakjhappchlmaa
open Go.RowKit Go.BigFrame Go.Shelf Go.Sort
set_option linter.unusedVariables false

attribute [local go_sem] Oper.semAt_some


end Go.Proofs.Ytcakjhappchlmaa
namespace Go.Proofs.Ytcakjhappchlmaa
open Go.RowKit Go.BigFrame
set_option linter.unusedVariables false


theorem FreshInts.blk {w0 w : World} {A : Option Addr} {n : Nat} {xs : List Int} (h : FreshInts w0 w A n xs) : ∀ ad, A = some ad → ad.block < w.heap.size := fun ad had => by
  obtain ⟨b, cur, e, _, h2, _⟩ := h.2 ad had
  rw [e]; exact lt_of_block h2
theorem asc_unique : ∀ {l1 l2 : List Int}, l1.Pairwise (fun a b => a < b) → l2.Pairwise (fun a b => a < b) → (∀ x, x ∈ l1 ↔ x ∈ l2) → l1 = l2 := by
  intro l1
  induction l1 with
  | nil =>
    intro l2 _ _ h
    cases l2 with
    | nil => rfl
    | cons y r => exact absurd ((h y).2 (by simp)) (by simp)
  | cons x r ih =>
    intro l2 h1 h2 h
    cases l2 with
    | nil => exact absurd ((h x).1 (by simp)) (by simp)
    | cons y q =>
      rw [List.pairwise_cons] at h1 h2
      have hxy : x = y := by
        rcases List.mem_cons.1 ((h x).1 (by simp)) with e | hx
        · exact e
        · rcases List.mem_cons.1 ((h y).2 (by simp)) with e | hy
          · exact e.symm
          · have := h2.1 x hx; have := h1.1 y hy; omega
      subst hxy
      rw [ih h1.2 h2.2 (fun z => ?_)]
      constructor
      · intro hz
        rcases List.mem_cons.1 ((h z).1 (by simp [hz])) with e | hq
        · have := h1.1 z hz; omega
        · exact hq
      · intro hz
        rcases List.mem_cons.1 ((h z).2 (by simp [hz])) with e | hq
        · have := h2.1 z hz; omega
        · exact hq
/-- The transactions of a list, ascending. -/
def ascOf (L : List Int) : List Int := [(0 : Int), 1, 2, 3].filter fun t => L.any fun y => y == t
theorem ascOf_asc (L : List Int) : (ascOf L).Pairwise (fun a b => a < b) := List.Pairwise.filter _ (by decide)
theorem ascOf_mem {L : List Int} (h : ∀ u ∈ L, 0 ≤ u ∧ u ≤ 3) (t : Int) : t ∈ ascOf L ↔ t ∈ L := by
  unfold ascOf
  rw [List.mem_filter, any_mem_iff]
  refine ⟨fun h => h.2, fun ht => ⟨?_, ht⟩⟩
  have := h t ht
  have : t = 0 ∨ t = 1 ∨ t = 2 ∨ t = 3 := by omega
  rcases this with rfl | rfl | rfl | rfl <;> simp
theorem ascOf_nodup (L : List Int) : (ascOf L).Nodup := (ascOf_asc L).imp (fun h => by omega)
theorem ascOf_rng (L : List Int) : ∀ t ∈ ascOf L, 0 ≤ t ∧ t ≤ 3 := by
  intro t ht
  have := (List.mem_filter.1 ht).1
  simp at this
  omega
theorem ascOf_len (L : List Int) : (ascOf L).length ≤ 4 := Nat.le_trans (List.length_filter_le _ _) (by simp)
theorem sort_asc {L : List Int} (hd : L.Nodup) (h : ∀ u ∈ L, 0 ≤ u ∧ u ≤ 3) : (L.mergeSort fun x y => decide (x ≤ y)) = ascOf L := by
  have hp : (L.mergeSort fun x y => decide (x ≤ y)).Perm L := List.mergeSort_perm _ _
  have hs : (L.mergeSort fun x y => decide (x ≤ y)).Pairwise (fun a b => decide (a ≤ b) = true) := List.pairwise_mergeSort (by intro a b c; simp; omega) (by intro a b; simp; omega) L
  have hn : (L.mergeSort fun x y => decide (x ≤ y)).Nodup := hp.nodup_iff.2 hd
  refine asc_unique ?_ (ascOf_asc L) (fun x => ?_)
  · refine (hs.and hn).imp ?_
    intro a b ⟨h1, h2⟩
    have : a ≤ b := by simpa using h1
    omega
  · rw [hp.mem_iff, ascOf_mem h]
end Go.Proofs.Ytcakjhappchlmaa
namespace Go.Proofs.Ytcakjhappchlmaa
open Go.RowKit Go.BigFrame
set_option linter.unusedVariables false

def serialI (s : List OpV) (ts : List Int) : List OpV := ts.flatMap (opsOf s)
theorem serialI_snoc {s : List OpV} {ts : List Int} {k : Nat} {t : Int} (h : ts[k]? = some t) : serialI s (ts.take (k + 1)) = serialI s (ts.take k) ++ opsOf s t := by
  unfold serialI
  rw [take_snoc h, List.flatMap_append]; simp
theorem opsOf_len (s : List OpV) (t : Int) : (opsOf s t).length ≤ s.length := List.length_filter_le _ _
def vordI (s : List OpV) (ts : List Int) : Bool := (ts.mergeSort fun x y => decide (x ≤ y)) == txsOf s
theorem txsOf_len (s : List OpV) : (txsOf s).length ≤ 4 := Nat.le_trans (List.length_filter_le _ _) (by simp)
theorem vordI_len {s : List OpV} {ts : List Int} (h : vordI s ts = true) : ts.length ≤ 4 := by
  unfold vordI at h
  have : (ts.mergeSort fun x y => decide (x ≤ y)) = txsOf s := by simpa using h
  rw [← List.length_mergeSort (le := fun x y : Int => decide (x ≤ y)) ts, this]
  exact txsOf_len s
theorem validS_len {s : List OpV} (h : validS s = true) : s.length ≤ 16 := by
  unfold validS at h
  simp only [Bool.and_eq_true, decide_eq_true_eq] at h
  exact h.1

end Go.Proofs.Ytcakjhappchlmaa
namespace Go.Proofs.Ytcakjhappchlmaa
open Go.RowKit Go.BigFrame
set_option linter.unusedVariables false

def vgood (L ts : List Int) (i : Nat) : Bool := match ts[i]? with | some t => (L.any fun y => y == t) && !((ts.take i).any fun y => y == t) | none => true
def vordS (s : List OpV) (ts : List Int) : Bool := (ts.length == (txsOf s).length) && (List.range ts.length).all (vgood (txsOf s) ts)
theorem all_range_false {p : Nat → Bool} {n k : Nat} (hk : k < n) (h : p k = false) : (List.range n).all p = false := by
  rw [List.all_eq_false]
  exact ⟨k, List.mem_range.2 hk, by rw [h]; simp⟩
theorem all_range_true {p : Nat → Bool} {n : Nat} (h : ∀ j, j < n → p j = true) : (List.range n).all p = true :=
  List.all_eq_true.2 fun j hj => h j (List.mem_range.1 hj)

def stSTo (s : List OpV) : Nat → List Int
  | 0 => []
  | k + 1 => match s[k]? with | some o => if stampN s o.tx = k then stSTo s k ++ [o.tx] else stSTo s k | none => stSTo s k
theorem stSTo_succ {s : List OpV} {k : Nat} {o : OpV} (h : s[k]? = some o) : stSTo s (k + 1) = if stampN s o.tx = k then stSTo s k ++ [o.tx] else stSTo s k := by simp only [stSTo, h]
theorem stamp_first {s : List OpV} {k : Nat} {o : OpV} (h : s[k]? = some o) : stampN s o.tx = k ↔ ((stTo s k).any fun y => y == o.tx) = false := by
  have hk : k < s.length := (List.getElem?_eq_some_iff.1 h).1
  have h1 := (stTo_known k (by omega : k ≤ s.length)).1 o.tx
  have hle := stampN_le h
  constructor
  · intro e
    cases hc : ((stTo s k).any fun y => y == o.tx)
    · rfl
    · exfalso
      obtain ⟨j, p, hj, hp, ht⟩ := h1.1 (any_eq_iff.1 hc)
      have := stampN_le hp
      rw [ht] at this
      omega
  · intro hc
    rcases Nat.lt_or_ge (stampN s o.tx) k with hlt | hge
    · exfalso
      obtain ⟨q, hq, hqt⟩ := stampN_at (List.mem_of_getElem? h)
      rw [any_eq_iff.2 (h1.2 ⟨_, q, hlt, hq, hqt⟩)] at hc
      cases hc
    · omega
theorem stSTo_eq (s : List OpV) (k : Nat) (hk : k ≤ s.length) : stSTo s k = stTo s k := by
  induction k with
  | zero => rfl
  | succ k ih =>
    have e : s[k]? = some (s[k]'(by omega)) := List.getElem?_eq_getElem (by omega)
    rw [stSTo_succ e, stTo_succ e, ih (by omega)]
    by_cases h : stampN s (s[k]'(by omega)).tx = k
    · rw [if_pos h, (stamp_first e).1 h, if_neg (by simp)]
    · rw [if_neg h]
      cases hc : ((stTo s k).any fun y => y == (s[k]'(by omega)).tx)
      · exact absurd ((stamp_first e).2 hc) h
      · rw [if_pos rfl]
end Go.Proofs.Ytcakjhappchlmaa
namespace Go.Proofs.Ytcakjhappchlmaa
open Go.RowKit Go.BigFrame
set_option linter.unusedVariables false


set_option maxHeartbeats 1000000 in
theorem svalidOp_any (o : OpV) (w : World) :
    Calls Try.prog 139 #[o.val] w fun e w' => e = .returned (.bool (validOp o)) ∧ Below w.heap.size w w' := by
  obtain ⟨t, k, x⟩ := o
  unfold OpV.val
  have hcase : inR t 0 3 = false ∨ (inR t 0 3 = true ∧ (k = 0 ∨ k = 1 ∨ (k = 2 ∧ x = 0) ∨ (k = 2 ∧ (x == 0) = false) ∨ (k = 3 ∧ x = 0) ∨ (k = 3 ∧ (x == 0) = false) ∨ ((k == 0) = false ∧ (k == 1) = false ∧ (k == 2) = false ∧ (k == 3) = false))) := by
    cases h1 : inR t 0 3
    · exact .inl rfl
    · refine .inr ⟨rfl, ?_⟩
      simp only [beq_eq_false_iff_ne]
      omega
  rcases hcase with h1 | ⟨h1, rfl | rfl | ⟨rfl, rfl⟩ | ⟨rfl, h5⟩ | ⟨rfl, rfl⟩ | ⟨rfl, h5⟩ | ⟨h2, h3, h4, h5⟩⟩
  all_goals
    go_enter Try.func139, Try.ntmps139
    go_wp2_with (go_at_call 80; refine (inRange_any _ _ _ _).mono ?_; rintro e w' ⟨rfl, rfl⟩)
    go_ret
    exact ⟨ret_bool (by simp [validOp, isAcc, isEnd, *]), by (repeat (first | exact Below.refl _ _ | assumption | refine B_alloc ?_ (Nat.le_refl _) _ | refine Below.drew ?_ | refine B_drewN ?_ _ | refine B_after (by assumption) ?_ | (refine B_set ?_ ?_; rotate_left; (first | exact Nat.le_refl _ | (simp; done) | (simp at *; omega)))))⟩


set_option maxRecDepth 100000 in
set_option maxHeartbeats 1000000 in
theorem svalid_any (A : Option Addr) (n c : Nat) (s : List OpV) (w : World) (hx : ROps w A n s) :
    Calls Try.prog 103 #[.slice A n c] w fun e w' => e = .returned (.bool (validS s)) ∧ Below w.heap.size w w' := by
  have hn := hx.2.1
  have hl := hx.1
  have HX := Lib.hid hx
  clear hx
  by_cases h16 : 16 < n
  · have HV : Hid (validS s = false) := by
      show _ = _
      unfold validS
      have : decide (s.length ≤ 16) = false := by simp; omega
      rw [this]; rfl
    go_enter Try.func103, Try.ntmps103
    go_wp2_with fail
    go_ret
    exact ⟨ret_bool HV.out.symm, Below.refl _ _⟩
  · go_enter Try.func103, Try.ntmps103
    go_wp2_with fail
    go_loopw [3] (fun i wr => ∃ k : Nat, k ≤ n ∧ i = .int .i64 k ∧ Below w.heap.size w wr ∧ (∀ j, j < k → goodAt s j = true)) (fun i _ => n - (intOf i).toNat)
    case atStart => exact ⟨0, Nat.zero_le _, rfl, Below.refl _ _, by omega⟩
    case round =>
      obtain ⟨wo, rfl⟩ : ∃ wo : World, wo = wr := ⟨_, rfl⟩
      obtain ⟨i, hi, rfl, hb, hno⟩ := hrel
      by_cases hlt : i < n
      · have hxr := HX.out.below hb (Nat.le_refl _)
        obtain ⟨b, off, o, rfl, hbl, ho, c0, c1, c2⟩ := hxr.at_ hlt
        have HX2 := Lib.hid hxr
        have hg : goodAt s i = (validOp o && noEnd (s.take i) o.tx) := by unfold goodAt; rw [ho]
        clear hxr ho
        cases hv : validOp o
        · have HB := Lib.hid (validS_bad (s := s) (k := i) (by omega) (by rw [hg, hv]; rfl))
          clear hg hno
          obtain ⟨tx, kd, it⟩ := o
          have hv' : ∀ W : World, Calls Try.prog 139 #[.agg #[.int .i64 tx, .int .i64 kd, .int .i64 it]] W fun e w' => e = .returned (.bool false) ∧ Below W.heap.size W w' := fun W => by
            have := svalidOp_any ⟨tx, kd, it⟩ W; rw [hv] at this; exact this
          have HV := Lib.hid hv'
          clear hv hv'
          go_wp2_with (go_at_call 139; refine (HV.out _).mono ?_; rintro e w1 ⟨rfl, hb1⟩)
          go_ret
          exact ⟨ret_bool HB.out.symm, hb.trans (hb1.mono hb.size)⟩
        · rw [hv, Bool.true_and] at hg
          have HG := Lib.hid hg
          have HN := Lib.hid hno
          obtain ⟨tx, kd, it⟩ := o
          have hv' : ∀ W : World, Calls Try.prog 139 #[.agg #[.int .i64 tx, .int .i64 kd, .int .i64 it]] W fun e w' => e = .returned (.bool true) ∧ Below W.heap.size W w' := fun W => by
            have := svalidOp_any ⟨tx, kd, it⟩ W; rw [hv] at this; exact this
          have HV := Lib.hid hv'
          clear hv hv' hg hno
          go_wp2_with (go_at_call 139; refine (HV.out _).mono ?_; rintro e w1 ⟨rfl, hb1⟩)
          go_loopw [4] (fun i' wr => ∃ k : Nat, k ≤ i ∧ i' = .int .i64 k ∧ Below wo.heap.size wo wr ∧ (∀ j, j < k → ∀ o, s[j]? = some o → (o.tx == tx && isEnd o) = false)) (fun i' _ => i - (intOf i').toNat)
          case atStart => exact ⟨0, Nat.zero_le _, rfl, hb1, by omega⟩
          case round =>
            clear hb1 w1
            obtain ⟨k, hk, rfl, hb1, hno⟩ := hrel
            by_cases hlt2 : k < i
            · have hxr := HX2.out.below hb1 (Nat.le_refl _)
              obtain ⟨b', off', q, hA, _, hq, d0, d1, d2⟩ := hxr.at_ (k := k) (by omega)
              injection hA with hA
              injection hA with e1 e2
              subst e1; subst e2
              have hc0 := (hb1.cell (p := ⟨b, off + i * 3, none⟩) (by simpa using hbl)).trans c0
              have L0 := Later.cell hc0
              have M0 := Later.cell d0
              have M1 := Later.cell d1
              have M2 := Later.cell d2
              have HN2 : Hid ((q.tx == tx && isEnd q) = false → ∀ j, j < k + 1 → ∀ o, s[j]? = some o → (o.tx == tx && isEnd o) = false) := fun h => no_snoc (p := fun o => o.tx == tx && isEnd o) hq hno h
              have HT : Hid ((q.tx == tx && isEnd q) = true → validS s = false) := fun h => validS_bad (k := i) (by omega) (by rw [HG.out]; exact noEnd_false hlt2 hq h)
              clear hno hq d0 d1 d2 hc0 hxr
              have hki : (k : Int) < (n : Int) := by omega
              have hii : (i : Int) < (n : Int) := by omega
              obtain ⟨qx, qk, qi⟩ := q
              simp only at M0 M1 M2 HN2 HT
              cases h1 : (qx == tx)
              · have hs := Lib.hid (HN2.out (by simp [h1]))
                go_wp2_with fail
                refine region_later (by kernel_rfl) (by kernel_rfl) ?_
                repeat (go_big_quiet_step (fail))
                refine wpQuiet_nil ?_
                rintro _ ⟨u, rfl⟩
                have hbu := hb1.trans (u.2.mono hb1.size)
                go_wp2_with fail
                go_roundw
                case rel => exact ⟨k + 1, by omega, by go_num, hbu, hs.out⟩
                case measure => simp [intOf]; omega
              · obtain ⟨be, hbe⟩ : ∃ be, isEnd ⟨qx, qk, qi⟩ = be := ⟨_, rfl⟩
                have he' : ∀ u : Later wr, Calls Try.prog 104 #[.agg #[.int .i64 qx, .int .i64 qk, .int .i64 qi]] u.1 fun e w' => e = .returned (.bool be) ∧ Below u.1.heap.size u.1 w' := fun u => by
                  have := sends_any ⟨qx, qk, qi⟩ u.1; rw [hbe] at this; exact this
                have HE := Lib.hid he'
                have HBE := Lib.hid hbe
                have H1 := Lib.hid h1
                clear he' hbe
                cases be
                · have hs := Lib.hid (HN2.out (by rw [HBE.out]; simp))
                  go_wp2_with fail
                  refine region_later (by kernel_rfl) (by kernel_rfl) ?_
                  repeat (go_big_quiet_step ((go_at_call 104; exact later_call _ (HE.out _))))
                  refine wpQuiet_nil ?_
                  rintro _ ⟨u, rfl⟩
                  have hbu := hb1.trans (u.2.mono hb1.size)
                  go_wp2_with fail
                  go_roundw
                  case rel => exact ⟨k + 1, by omega, by go_num, hbu, hs.out⟩
                  case measure => simp [intOf]; omega
                · have hs := Lib.hid (HT.out (by rw [HBE.out, H1.out]; rfl))
                  go_wp2_with fail
                  refine region_later (by kernel_rfl) (by kernel_rfl) ?_
                  repeat (go_big_quiet_step ((go_at_call 104; exact later_call _ (HE.out _))))
                  refine wpQuiet_nil ?_
                  rintro _ ⟨u, rfl⟩
                  have hbu := hb.trans ((hb1.trans (u.2.mono hb1.size)).mono hb.size)
                  go_wp2_with fail
                  go_ret
                  exact ⟨ret_bool hs.out.symm, hbu⟩
            · have hq := Lib.hid (all_snoc HN.out (by rw [HG.out]; exact noEnd_true (fun j hj => hno j (by omega))))
              clear hno
              go_wp2_with fail
              go_roundw
              case rel => exact ⟨i + 1, by omega, by go_num, hb.trans (hb1.mono hb.size), hq.out⟩
              case measure => simp [intOf]; omega
      · have HE := Lib.hid (validS_end (s := s) (fun j hj => hno j (by omega)))
        clear hno
        go_wp2_with fail
        go_ret
        exact ⟨ret_bool (by rw [HE.out, hl]; simp; omega), hb⟩

theorem svalid'_any (A : Option Addr) (n c : Nat) (s : List OpV) (w : World) (hx : ROps w A n s) (hnc : n ≤ c) :
    Calls Try.prog 103 #[.slice A n c] w fun e w' => e = .returned (.bool (validS s)) ∧ Below w.heap.size w w' := svalid_any A n c s w hx
end Go.Proofs.Ytcakjhappchlmaa
namespace Go.Proofs.Ytcakjhappchlmaa
open Go.RowKit Go.BigFrame
set_option linter.unusedVariables false

/-- The reference finds at i and k that a transaction comes again. -/
def sserBad (s : List OpV) (i k : Nat) : Bool := match s[i]?, s[k]?, s[i + 1]? with | some a, some b, some c => (a.tx == b.tx) && (a.tx != c.tx) | _, _, _ => false
def isSerS (s : List OpV) : Bool := (List.range s.length).all fun i => (List.range s.length).all fun k => !(decide (i + 2 ≤ k)) || !sserBad s i k

theorem isSerS_false {s : List OpV} {i k : Nat} (hk : k < s.length) (hik : i + 2 ≤ k) (h : sserBad s i k = true) : isSerS s = false := by
  unfold isSerS
  rw [List.all_eq_false]
  refine ⟨i, List.mem_range.2 (by omega), ?_⟩
  have : ((List.range s.length).all fun k => !(decide (i + 2 ≤ k)) || !sserBad s i k) = false := by
    rw [List.all_eq_false]
    exact ⟨k, List.mem_range.2 hk, by rw [h]; simp; omega⟩
  rw [this]; simp
theorem isSerS_true {s : List OpV} (h : ∀ i k, k < s.length → i + 2 ≤ k → sserBad s i k = false) : isSerS s = true := by
  unfold isSerS
  rw [List.all_eq_true]
  intro i hi
  rw [List.all_eq_true]
  intro k hk
  by_cases hik : i + 2 ≤ k
  · rw [h i k (List.mem_range.1 hk) hik]; simp
  · simp [hik]
theorem isSerS_at {s : List OpV} (h : isSerS s = true) {i k : Nat} (hk : k < s.length) (hik : i + 2 ≤ k) : sserBad s i k = false := by
  cases hb : sserBad s i k
  · rfl
  · rw [isSerS_false hk hik hb] at h; cases h
/-- The two say the same. -/
theorem isSerS_eq (s : List OpV) : isSerS s = isSer s := by
  cases h : isSer s
  · unfold isSer at h
    rw [List.all_eq_false] at h
    obtain ⟨i, hi, hb⟩ := h
    have hi := List.mem_range.1 hi
    simp only [Bool.or_eq_true, beq_iff_eq, Bool.not_eq_true', not_or, Bool.not_eq_false] at hb
    obtain ⟨h0, hb⟩ := hb
    have e : s[i]? = some s[i] := List.getElem?_eq_getElem hi
    have e1 : s[i - 1]? = some (s[i - 1]'(by omega)) := List.getElem?_eq_getElem (by omega)
    unfold serBad at hb
    rw [e, e1] at hb
    simp only [Bool.and_eq_true, bne_iff_ne] at hb
    obtain ⟨hne, hh⟩ := hb
    unfold hasTx at hh
    rw [List.any_eq_true] at hh
    obtain ⟨p, hp, hpt⟩ := hh
    obtain ⟨j, hj⟩ := List.mem_iff_getElem?.1 hp
    rw [List.getElem?_take] at hj
    split at hj
    · rename_i hji
      have hpt : p.tx = s[i].tx := by simpa using hpt
      -- going back from i, the last place of this transaction
      cases hS : isSerS s
      · rfl
      · exfalso
        have key : ∀ d j q, j + 1 + d = i → s[j]? = some q → q.tx ≠ s[i].tx := by
          intro d
          induction d with
          | zero =>
            intro j q hjd hq
            obtain rfl : j = i - 1 := by omega
            rw [e1] at hq; injection hq with hq
            rw [← hq]; exact fun e => hne e.symm
          | succ d ih =>
            intro j q hjd hq ht
            have e2 : s[j + 1]? = some (s[j + 1]'(by omega)) := List.getElem?_eq_getElem (by omega)
            have h2 := ih (j + 1) _ (by omega) e2
            have h3 := isSerS_at hS (i := j) (k := i) hi (by omega)
            unfold sserBad at h3
            rw [hq, e, e2] at h3
            simp only [Bool.and_eq_false_iff, beq_eq_false_iff_ne, bne_eq_false_iff_eq] at h3
            rcases h3 with h3 | h3
            · exact h3 ht
            · exact h2 (by rw [← h3, ht])
        exact key (i - 1 - j) j p (by omega) hj hpt
    · cases hj
  · refine isSerS_true fun i k hk hik => ?_
    cases hb : sserBad s i k
    · rfl
    · exfalso
      have e : s[i]? = some (s[i]'(by omega)) := List.getElem?_eq_getElem (by omega)
      have e1 : s[k]? = some s[k] := List.getElem?_eq_getElem hk
      have e2 : s[i + 1]? = some (s[i + 1]'(by omega)) := List.getElem?_eq_getElem (by omega)
      unfold sserBad at hb
      rw [e, e1, e2] at hb
      simp only [Bool.and_eq_true, beq_iff_eq, bne_iff_ne] at hb
      exact hb.2 (ser_between h e e1 hb.1 (i + 1) _ (by omega) (by omega) e2).symm

theorem serS_row {s : List OpV} {i : Nat} (h : ∀ k, i + 2 ≤ k → k < s.length → sserBad s i k = false) : ∀ k, k < s.length → i + 2 ≤ k → sserBad s i k = false := fun k h1 h2 => h k h2 h1

end Go.Proofs.Ytcakjhappchlmaa
namespace Go.Proofs.Ytcakjhappchlmaa
open Go.RowKit Go.BigFrame
set_option linter.unusedVariables false

theorem txsOf_asc (s : List OpV) : (txsOf s).Pairwise (fun a b => a < b) := List.Pairwise.filter _ (by decide)
theorem vordI_perm {s : List OpV} {ts : List Int} (h : vordI s ts = true) : ts.Perm (txsOf s) := by
  unfold vordI at h
  have h : (ts.mergeSort fun x y => decide (x ≤ y)) = txsOf s := by simpa using h
  rw [← h]
  exact (List.mergeSort_perm ts _).symm
theorem vordI_of {s : List OpV} {ts : List Int} (hd : ts.Nodup) (hm : ∀ t, t ∈ ts ↔ t ∈ txsOf s) : vordI s ts = true := by
  have hp : (ts.mergeSort fun x y => decide (x ≤ y)).Perm ts := List.mergeSort_perm _ _
  have hs : (ts.mergeSort fun x y => decide (x ≤ y)).Pairwise (fun a b => decide (a ≤ b) = true) := List.pairwise_mergeSort (by intro a b c; simp; omega) (by intro a b; simp; omega) ts
  have hn : (ts.mergeSort fun x y => decide (x ≤ y)).Nodup := hp.nodup_iff.2 hd
  unfold vordI
  rw [beq_iff_eq]
  refine asc_unique ?_ (txsOf_asc s) (fun x => by rw [hp.mem_iff, hm])
  refine (hs.and hn).imp ?_
  intro a b ⟨h1, h2⟩
  have : a ≤ b := by simpa using h1
  omega
theorem vordS_known {s : List OpV} {ts : List Int} (h : vordS s ts = true) : ts.Nodup ∧ ∀ t, t ∈ ts ↔ t ∈ txsOf s := by
  unfold vordS at h
  simp only [Bool.and_eq_true, beq_iff_eq] at h
  obtain ⟨hl, ha⟩ := h
  rw [List.all_eq_true] at ha
  have hat : ∀ i (hi : i < ts.length), ts[i] ∈ txsOf s ∧ ts[i] ∉ ts.take i := fun i hi => by
    have := ha i (List.mem_range.2 hi)
    unfold vgood at this
    rw [List.getElem?_eq_getElem hi] at this
    simp only [Bool.and_eq_true, Bool.not_eq_true'] at this
    refine ⟨any_eq_iff.1 this.1, fun hm => ?_⟩
    rw [any_eq_iff.2 hm] at this
    cases this.2
  have hd : ts.Nodup := by
    unfold List.Nodup
    rw [List.pairwise_iff_getElem]
    intro i j hi hj hij e
    refine (hat j hj).2 ?_
    rw [← e]
    exact List.mem_of_getElem? (i := i) (by rw [List.getElem?_take, if_pos hij]; exact List.getElem?_eq_getElem hi)
  have hsub : ∀ t ∈ ts, t ∈ txsOf s := fun t ht => by
    obtain ⟨i, hi, e⟩ := List.getElem_of_mem ht
    rw [← e]; exact (hat i hi).1
  refine ⟨hd, fun t => ⟨hsub t, fun ht => ?_⟩⟩
  by_cases hc : t ∈ ts
  · exact hc
  · exfalso
    have := nodup_len (l1 := t :: ts) (l2 := txsOf s) (List.nodup_cons.2 ⟨hc, hd⟩) (by
      intro x hx
      rcases List.mem_cons.1 hx with e | hx
      · rw [e]; exact ht
      · exact hsub x hx)
    simp at this
    omega
/-- The two ask the same of an order. -/
theorem vord_eq (s : List OpV) (ts : List Int) : vordS s ts = vordI s ts := by
  cases h : vordI s ts
  · cases h2 : vordS s ts
    · rfl
    · obtain ⟨h3, h4⟩ := vordS_known h2
      rw [vordI_of h3 h4] at h; cases h
  · have hp := vordI_perm h
    have hd : ts.Nodup := hp.nodup_iff.2 (nodup_txsOf s)
    unfold vordS
    rw [hp.length_eq, beq_self_eq_true, Bool.true_and, List.all_eq_true]
    intro i hi
    have hi : i < ts.length := by rw [hp.length_eq]; exact List.mem_range.1 hi
    unfold vgood
    rw [List.getElem?_eq_getElem hi]
    simp only [Bool.and_eq_true, Bool.not_eq_true']
    refine ⟨any_eq_iff.2 (hp.mem_iff.1 (List.getElem_mem hi)), ?_⟩
    cases hc : ((ts.take i).any fun y => y == ts[i])
    · rfl
    · exfalso
      obtain ⟨j, hj⟩ := List.mem_iff_getElem?.1 (any_eq_iff.1 hc)
      rw [List.getElem?_take] at hj
      split at hj
      · rename_i hji
        unfold List.Nodup at hd
        rw [List.pairwise_iff_getElem] at hd
        obtain ⟨hjl, he⟩ := List.getElem?_eq_some_iff.1 hj
        exact hd j i hjl hi hji he
      · cases hj
theorem serialBy_eq (s : List OpV) (ts : List Int) : orNil (validS s && vordS s ts) (serialI s ts) = orNil (validS s && vordI s ts) (serialI s ts) := by rw [vord_eq]

theorem mem_opsOf {s : List OpV} {t : Int} {o : OpV} : o ∈ opsOf s t ↔ o ∈ s ∧ o.tx = t := by
  unfold opsOf
  rw [List.mem_filter]; simp
theorem opsOf_twice (s : List OpV) (t u : Int) : opsOf (opsOf s t) u = if t = u then opsOf s t else [] := by
  by_cases h : t = u
  · subst h
    rw [if_pos rfl]
    unfold opsOf
    rw [List.filter_filter]
    simp
  · rw [if_neg h]
    unfold opsOf
    rw [List.filter_filter, List.filter_eq_nil_iff]
    intro o _ e
    simp only [Bool.and_eq_true, beq_iff_eq] at e
    exact h (by rw [← e.1, ← e.2])
theorem opsOf_append (a b : List OpV) (t : Int) : opsOf (a ++ b) t = opsOf a t ++ opsOf b t := by unfold opsOf; rw [List.filter_append]
theorem opsOf_serialI {s : List OpV} {t : Int} : ∀ {ts : List Int}, ts.Nodup → opsOf (serialI s ts) t = if t ∈ ts then opsOf s t else [] := by
  intro ts
  induction ts with
  | nil => intro _; simp [serialI, opsOf]
  | cons x r ih =>
    intro hd
    rw [List.nodup_cons] at hd
    have e : serialI s (x :: r) = opsOf s x ++ serialI s r := by unfold serialI; rw [List.flatMap_cons]
    rw [e, opsOf_append, ih hd.2, opsOf_twice]
    by_cases h : x = t
    · subst h
      rw [if_pos rfl, if_neg hd.1, if_pos (by simp), List.append_nil]
    · rw [if_neg h, List.nil_append]
      have : (t ∈ x :: r) ↔ t ∈ r := by simp [List.mem_cons, Ne.symm h]
      simp only [this]
theorem opsOf_serial {s : List OpV} (hv : validS s = true) {ts : List Int} (hd : ts.Nodup) (hm : ∀ t, t ∈ ts ↔ t ∈ txsOf s) (t : Int) : opsOf (serialI s ts) t = opsOf s t := by
  rw [opsOf_serialI hd]
  by_cases h : t ∈ ts
  · rw [if_pos h]
  · rw [if_neg h]
    symm
    rw [List.eq_nil_iff_forall_not_mem]
    intro o ho
    obtain ⟨h1, h2⟩ := mem_opsOf.1 ho
    exact h ((hm t).2 ((mem_txsOf hv).2 ⟨o, h1, h2⟩))
theorem mem_serialI {s : List OpV} {ts : List Int} {o : OpV} : o ∈ serialI s ts ↔ o ∈ s ∧ o.tx ∈ ts := by
  unfold serialI
  rw [List.mem_flatMap]
  constructor
  · rintro ⟨t, ht, ho⟩
    obtain ⟨h1, h2⟩ := mem_opsOf.1 ho
    exact ⟨h1, by rw [h2]; exact ht⟩
  · rintro ⟨h1, h2⟩
    exact ⟨o.tx, h2, mem_opsOf.2 ⟨h1, rfl⟩⟩
theorem serialI_cons_out {o : OpV} {s : List OpV} : ∀ {ts : List Int}, o.tx ∉ ts → serialI (o :: s) ts = serialI s ts := by
  intro ts
  induction ts with
  | nil => intro _; rfl
  | cons x r ih =>
    intro h
    rw [List.mem_cons, not_or] at h
    have e : ∀ l : List OpV, serialI l (x :: r) = opsOf l x ++ serialI l r := fun l => by unfold serialI; rw [List.flatMap_cons]
    rw [e, e, ih h.2]
    congr 1
    unfold opsOf
    rw [List.filter_cons_of_neg (by simpa using h.1)]
theorem serialI_cons_len {o : OpV} {s : List OpV} : ∀ {ts : List Int}, ts.Nodup → (serialI (o :: s) ts).length ≤ 1 + (serialI s ts).length := by
  intro ts
  induction ts with
  | nil => intro _; simp [serialI]
  | cons x r ih =>
    intro hd
    rw [List.nodup_cons] at hd
    have e : ∀ l : List OpV, serialI l (x :: r) = opsOf l x ++ serialI l r := fun l => by unfold serialI; rw [List.flatMap_cons]
    rw [e, e, List.length_append, List.length_append]
    by_cases hx : o.tx = x
    · subst hx
      rw [serialI_cons_out hd.1]
      unfold opsOf
      rw [List.filter_cons_of_pos (by simp)]
      simp; omega
    · have := ih hd.2
      unfold opsOf
      rw [List.filter_cons_of_neg (by simpa using hx)]
      omega
theorem serialI_len {ts : List Int} (hd : ts.Nodup) : ∀ s : List OpV, (serialI s ts).length ≤ s.length := by
  intro s
  induction s with
  | nil =>
    have : serialI [] ts = [] := by unfold serialI; rw [List.flatMap_eq_nil_iff]; intro x _; rfl
    rw [this]; exact Nat.le_refl _
  | cons o r ih =>
    have := serialI_cons_len (o := o) (s := r) hd
    simp; omega

theorem pairwise_serialI {s : List OpV} {ts : List Int} {R : OpV → OpV → Prop} (h1 : ∀ t ∈ ts, (opsOf s t).Pairwise R) (h2 : ts.Pairwise fun t u => ∀ a ∈ opsOf s t, ∀ b ∈ opsOf s u, R a b) : (serialI s ts).Pairwise R := by
  unfold serialI
  rw [List.pairwise_flatMap]
  exact ⟨h1, h2⟩
/-- What is serial by an order is a schedule. -/
theorem validS_serial {s : List OpV} (hv : validS s = true) {ts : List Int} (hd : ts.Nodup) : validS (serialI s ts) = true := by
  rw [validS_iff] at *
  refine ⟨Nat.le_trans (serialI_len hd s) hv.1, fun o ho => hv.2.1 o (mem_serialI.1 ho).1, pairwise_serialI (fun t _ => List.Pairwise.sublist List.filter_sublist hv.2.2) ?_⟩
  refine hd.imp ?_
  intro t u htu a ha b hb _ e
  have h1 := (mem_opsOf.1 ha).2
  have h2 := (mem_opsOf.1 hb).2
  exact htu (by rw [← h1, ← h2, e])
theorem serialI_sorted {s : List OpV} {ts : List Int} {f : Int → Nat} (h : ts.Pairwise (fun a b => f a < f b)) : (serialI s ts).Pairwise (fun a b => f a.tx ≤ f b.tx) := by
  refine pairwise_serialI (fun t _ => ?_) (h.imp ?_)
  · refine List.Pairwise.imp_of_mem (R := fun _ _ => True) ?_ (List.pairwise_of_forall (fun _ _ => trivial))
    intro a b ha hb _
    rw [(mem_opsOf.1 ha).2, (mem_opsOf.1 hb).2]
    exact Nat.le_refl _
  · intro t u htu a ha b hb
    rw [(mem_opsOf.1 ha).2, (mem_opsOf.1 hb).2]
    omega
theorem sorted_inj {f : Int → Nat} : ∀ {ts : List Int}, ts.Pairwise (fun a b => f a < f b) → ∀ a ∈ ts, ∀ b ∈ ts, f a = f b → a = b := by
  intro ts h a ha b hb e
  obtain ⟨i, hi, rfl⟩ := List.getElem_of_mem ha
  obtain ⟨j, hj, rfl⟩ := List.getElem_of_mem hb
  rw [List.pairwise_iff_getElem] at h
  rcases Nat.lt_trichotomy i j with hij | hij | hij
  · have := h i j hi hj hij; omega
  · subst hij; rfl
  · have := h j i hj hi hij; omega
theorem isSer_sorted {l : List OpV} {f : Int → Nat} (h : l.Pairwise (fun a b => f a.tx ≤ f b.tx)) (inj : ∀ a ∈ l, ∀ b ∈ l, f a.tx = f b.tx → a.tx = b.tx) : isSer l = true := by
  rw [← isSerS_eq]
  refine isSerS_true fun i k hk hik => ?_
  have e : l[i]? = some (l[i]'(by omega)) := List.getElem?_eq_getElem (by omega)
  have e1 : l[k]? = some l[k] := List.getElem?_eq_getElem hk
  have e2 : l[i + 1]? = some (l[i + 1]'(by omega)) := List.getElem?_eq_getElem (by omega)
  unfold sserBad
  rw [e, e1, e2]
  cases hb : ((l[i]'(by omega)).tx == l[k].tx) && ((l[i]'(by omega)).tx != (l[i + 1]'(by omega)).tx)
  · exact hb
  · exfalso
    simp only [Bool.and_eq_true, beq_iff_eq, bne_iff_ne] at hb
    rw [List.pairwise_iff_getElem] at h
    have h1 := h i (i + 1) (by omega) (by omega) (by omega)
    have h2 := h (i + 1) k (by omega) hk (by omega)
    rw [← hb.1] at h2
    exact hb.2 (inj _ (List.getElem_mem _) _ (List.getElem_mem _) (by omega))
/-- The place of a transaction in an order. -/
def posN (ts : List Int) (t : Int) : Nat := ts.findIdx fun y => y == t
theorem pos_sorted {ts : List Int} (hd : ts.Nodup) : ts.Pairwise (fun a b => posN ts a < posN ts b) := by
  have hat : ∀ i (hi : i < ts.length), posN ts ts[i] = i := fun i hi => by
    unfold posN
    rw [List.findIdx_eq hi]
    refine ⟨by simp, fun j hj => ?_⟩
    rw [beq_eq_false_iff_ne]
    unfold List.Nodup at hd
    rw [List.pairwise_iff_getElem] at hd
    exact hd j i (by omega) hi hj
  rw [List.pairwise_iff_getElem]
  intro i j hi hj hij
  rw [hat i hi, hat j hj]
  exact hij
theorem isSer_serialI {s : List OpV} {ts : List Int} (hd : ts.Nodup) : isSer (serialI s ts) = true :=
  isSer_sorted (serialI_sorted (pos_sorted hd)) (fun a ha b hb e => sorted_inj (pos_sorted hd) _ (mem_serialI.1 ha).2 _ (mem_serialI.1 hb).2 e)

theorem srt_unique {f : Int → Nat} : ∀ {l1 l2 : List Int}, l1.Pairwise (fun a b => f a < f b) → l2.Pairwise (fun a b => f a < f b) → (∀ x, x ∈ l1 ↔ x ∈ l2) → l1 = l2 := by
  intro l1
  induction l1 with
  | nil =>
    intro l2 _ _ h
    cases l2 with
    | nil => rfl
    | cons y r => exact absurd ((h y).2 (by simp)) (by simp)
  | cons x r ih =>
    intro l2 h1 h2 h
    cases l2 with
    | nil => exact absurd ((h x).1 (by simp)) (by simp)
    | cons y q =>
      rw [List.pairwise_cons] at h1 h2
      have hxy : x = y := by
        rcases List.mem_cons.1 ((h x).1 (by simp)) with e | hx
        · exact e
        · rcases List.mem_cons.1 ((h y).2 (by simp)) with e | hy
          · exact e.symm
          · have := h2.1 x hx; have := h1.1 y hy; omega
      subst hxy
      rw [ih h1.2 h2.2 (fun z => ?_)]
      constructor
      · intro hz
        rcases List.mem_cons.1 ((h z).1 (by simp [hz])) with e | hq
        · have := h1.1 z hz; rw [e] at this; omega
        · exact hq
      · intro hz
        rcases List.mem_cons.1 ((h z).2 (by simp [hz])) with e | hq
        · have := h2.1 z hz; rw [e] at this; omega
        · exact hq
/-- The stamps of what is serial by an order are the order. -/
theorem stI_serial {s : List OpV} (hv : validS s = true) {ts : List Int} (hd : ts.Nodup) (hm : ∀ t, t ∈ ts ↔ t ∈ txsOf s) : stI (serialI s ts) = ts := by
  have hmem : ∀ t, t ∈ stI (serialI s ts) ↔ t ∈ ts := fun t => by
    rw [mem_stI]
    constructor
    · rintro ⟨o, ho, rfl⟩; exact (mem_serialI.1 ho).2
    · intro ht
      obtain ⟨o, ho, e⟩ := (mem_txsOf hv).1 ((hm t).1 ht)
      exact ⟨o, mem_serialI.2 ⟨ho, by rw [e]; exact ht⟩, e⟩
  refine srt_unique (f := stampN (serialI s ts)) (stI_sorted _) ?_ hmem
  have hsrt := serialI_sorted (s := s) (pos_sorted hd)
  refine List.Pairwise.imp_of_mem ?_ (pos_sorted hd)
  intro a b ha hb hab
  obtain ⟨oa, hoa, ea⟩ := mem_stI.1 ((hmem a).2 ha)
  obtain ⟨ob, hob, eb⟩ := mem_stI.1 ((hmem b).2 hb)
  obtain ⟨qa, h1, e1⟩ := stampN_at hoa
  obtain ⟨qb, h2, e2⟩ := stampN_at hob
  rw [ea] at h1 e1
  rw [eb] at h2 e2
  rcases Nat.lt_or_ge (stampN (serialI s ts) a) (stampN (serialI s ts) b) with hlt | hge
  · exact hlt
  · exfalso
    obtain ⟨l1, g1⟩ := List.getElem?_eq_some_iff.1 h1
    obtain ⟨l2, g2⟩ := List.getElem?_eq_some_iff.1 h2
    rcases Nat.eq_or_lt_of_le hge with heq | hlt
    · have : qa = qb := by
        rw [← g1, ← g2]; simp only [heq]
      rw [← e1, ← e2, this] at hab
      omega
    · rw [List.pairwise_iff_getElem] at hsrt
      have := hsrt _ _ l2 l1 hlt
      rw [g1, g2, e1, e2] at this
      omega
/-- A serial schedule is sorted by the stamps. -/
theorem ser_sorted {s : List OpV} (h : isSer s = true) : s.Pairwise (fun a b => stampN s a.tx ≤ stampN s b.tx) := by
  rw [List.pairwise_iff_getElem]
  intro i j hi hj hij
  have ei : s[i]? = some s[i] := List.getElem?_eq_getElem hi
  have ej : s[j]? = some s[j] := List.getElem?_eq_getElem hj
  rcases Nat.lt_or_ge (stampN s s[j].tx) (stampN s s[i].tx) with hlt | hge
  · exfalso
    obtain ⟨q, hq, e⟩ := stampN_at (List.mem_of_getElem? ej)
    have hle := stampN_le ei
    have := ser_between h hq ej e i s[i] (by omega) (by omega) ei
    rw [this, e] at hlt
    omega
  · exact hge
theorem ops_unique {f : Int → Nat} : ∀ {l1 l2 : List OpV}, l1.Pairwise (fun a b => f a.tx ≤ f b.tx) → l2.Pairwise (fun a b => f a.tx ≤ f b.tx) → (∀ a ∈ l1, ∀ b ∈ l1, f a.tx = f b.tx → a.tx = b.tx) → (∀ t, opsOf l1 t = opsOf l2 t) → l1 = l2 := by
  intro l1
  induction l1 with
  | nil =>
    intro l2 _ _ _ h
    cases l2 with
    | nil => rfl
    | cons y r =>
      exfalso
      have := h y.tx
      unfold opsOf at this
      rw [List.filter_cons_of_pos (by simp)] at this
      simp at this
  | cons x r ih =>
    intro l2 h1 h2 inj h
    have mem : ∀ o, o ∈ x :: r ↔ o ∈ l2 := fun o => by
      have : o ∈ opsOf (x :: r) o.tx ↔ o ∈ opsOf l2 o.tx := by rw [h o.tx]
      rw [mem_opsOf, mem_opsOf] at this
      simpa using this
    cases l2 with
    | nil => exact absurd ((mem x).1 (by simp)) (by simp)
    | cons y q =>
      have hy := (mem y).2 (by simp)
      have hx := (mem x).1 (by simp)
      rw [List.pairwise_cons] at h1 h2
      have hxy : x.tx = y.tx := by
        refine inj x (by simp) y hy ?_
        rcases List.mem_cons.1 hy with e | hy
        · rw [e]
        · rcases List.mem_cons.1 hx with e | hx
          · rw [e]
          · have := h1.1 y hy; have := h2.1 x hx; omega
      have h3 := h x.tx
      have e3 : opsOf (x :: r) x.tx = x :: opsOf r x.tx := by unfold opsOf; rw [List.filter_cons_of_pos (by simp)]
      have e4 : opsOf (y :: q) x.tx = y :: opsOf q x.tx := by unfold opsOf; rw [List.filter_cons_of_pos (by simp [hxy])]
      rw [e3, e4] at h3
      injection h3 with h4 h5
      subst h4
      rw [ih h1.2 h2.2 (fun a ha b hb => inj a (by simp [ha]) b (by simp [hb])) (fun t => ?_)]
      by_cases ht : x.tx = t
      · subst ht; exact h5
      · have := h t
        unfold opsOf at this
        rw [List.filter_cons_of_neg (by simpa using ht), List.filter_cons_of_neg (by simpa using ht)] at this
        exact this
theorem stI_nodup (s : List OpV) : (stI s).Nodup := (stI_sorted s).imp (fun h e => by rw [e] at h; omega)
theorem mem_stI_txs {s : List OpV} (hv : validS s = true) (t : Int) : t ∈ stI s ↔ t ∈ txsOf s := by rw [mem_stI, mem_txsOf hv]
theorem vordI_stI {s : List OpV} (hv : validS s = true) : vordI s (stI s) = true := vordI_of (stI_nodup s) (mem_stI_txs hv)
theorem stI_len {s : List OpV} (hv : validS s = true) : (stI s).length = (txsOf s).length := (vordI_perm (vordI_stI hv)).length_eq
/-- A schedule is serial exactly if it is serial by its stamps. -/
theorem serial_stamps {s : List OpV} (hv : validS s = true) : (serialI s (stI s) == s) = isSer s := by
  cases h : isSer s
  · rw [beq_eq_false_iff_ne]
    intro e
    rw [← e, isSer_serialI (stI_nodup s)] at h
    cases h
  · rw [beq_iff_eq]
    refine ops_unique (f := stampN s) (serialI_sorted (stI_sorted s)) (ser_sorted h) (fun a ha b hb e => ?_) (fun t => opsOf_serial hv (stI_nodup s) (mem_stI_txs hv) t)
    exact sorted_inj (stI_sorted s) _ (mem_serialI.1 ha).2 _ (mem_serialI.1 hb).2 e
end Go.Proofs.Ytcakjhappchlmaa
namespace Go.Proofs.Ytcakjhappchlmaa
open Go.RowKit
set_option linter.unusedVariables false

/-- t stands ahead of u by a conflict. -/
def Cf (L : List OpV) (t u : Int) : Prop := ∃ (i k : Nat) (a b : OpV), i < k ∧ L[i]? = some a ∧ L[k]? = some b ∧ confB a b = true ∧ a.tx = t ∧ b.tx = u
def Tx4 (L : List OpV) : Prop := ∀ o ∈ L, 0 ≤ o.tx ∧ o.tx ≤ 3
theorem grRow_bit {L : List OpV} (hr : Tx4 L) {i : Nat} {a : OpV} (ha : 0 ≤ a.tx ∧ a.tx ≤ 3) {rows : List Nat} (h4 : Rows4 rows) (q : Nat) {t u : Nat} (hq : i + 1 + q ≤ L.length) :
    ((grRow L i a rows q).getD t 0).testBit u = true ↔ (rows.getD t 0).testBit u = true ∨ ∃ (d : Nat) (b : OpV), d < q ∧ L[i + 1 + d]? = some b ∧ confB a b = true ∧ a.tx = t ∧ b.tx = u := by
  induction q with
  | zero =>
    rw [grRow_zero]
    constructor
    · exact .inl
    · rintro (h | ⟨d, b, hd, _⟩)
      · exact h
      · omega
  | succ q ih =>
    have ih := ih (by omega)
    have e : L[i + 1 + q]? = some (L[i + 1 + q]'(by omega)) := List.getElem?_eq_getElem (by omega)
    generalize L[i + 1 + q]'(by omega) = b at e
    have hb := hr b (List.mem_of_getElem? e)
    rw [grRow_succ e]
    unfold grStep
    have h4' := grRow_ok hr (i := i) (a := a) h4 q
    obtain ⟨T, hT⟩ := Int.eq_ofNat_of_zero_le ha.1
    obtain ⟨U, hU⟩ := Int.eq_ofNat_of_zero_le hb.1
    constructor
    · intro h
      split at h
      · rename_i hc
        rw [hT, hU, rowSet_bit h4' (by omega), Bool.or_eq_true, ih] at h
        rcases h with (h | ⟨d, b', hd, r⟩) | h
        · exact .inl h
        · exact .inr ⟨d, b', by omega, r⟩
        · simp only [Bool.and_eq_true, decide_eq_true_eq] at h
          exact .inr ⟨q, b, by omega, e, hc, by omega, by omega⟩
      · rcases ih.1 h with h | ⟨d, b', hd, r⟩
        · exact .inl h
        · exact .inr ⟨d, b', by omega, r⟩
    · intro h
      have old : (rows.getD t 0).testBit u = true ∨ (∃ (d : Nat) (b : OpV), d < q ∧ L[i + 1 + d]? = some b ∧ confB a b = true ∧ a.tx = t ∧ b.tx = u) ∨ (confB a b = true ∧ a.tx = t ∧ b.tx = u) := by
        rcases h with h | ⟨d, b', hd, h1, r⟩
        · exact .inl h
        · by_cases hdq : d = q
          · subst hdq
            rw [e] at h1
            injection h1 with h1
            subst h1
            exact .inr (.inr r)
          · exact .inr (.inl ⟨d, b', by omega, h1, r⟩)
      split
      · rw [hT, hU, rowSet_bit h4' (by omega), Bool.or_eq_true, ih]
        rcases old with h | h | ⟨_, h1, h2⟩
        · exact .inl (.inl h)
        · exact .inl (.inr h)
        · right
          simp only [Bool.and_eq_true, decide_eq_true_eq]
          omega
      · rename_i hc
        rw [ih]
        rcases old with h | h | ⟨h1, _⟩
        · exact .inl h
        · exact .inr h
        · exact absurd h1 hc
theorem grTo_bit {L : List OpV} (hr : Tx4 L) (m : Nat) (hm : m ≤ L.length) {t u : Nat} :
    ((grTo L m).getD t 0).testBit u = true ↔ ∃ (i k : Nat) (a b : OpV), i < m ∧ i < k ∧ L[i]? = some a ∧ L[k]? = some b ∧ confB a b = true ∧ a.tx = t ∧ b.tx = u := by
  induction m with
  | zero =>
    constructor
    · intro h
      exfalso
      have : ∀ t : Nat, ([0, 0, 0, 0] : List Nat).getD t 0 = 0 := by
        intro t
        rcases (by omega : t = 0 ∨ t = 1 ∨ t = 2 ∨ t = 3 ∨ 4 ≤ t) with rfl | rfl | rfl | rfl | h
        · rfl
        · rfl
        · rfl
        · rfl
        · rw [List.getD_eq_getElem?_getD, List.getElem?_eq_none (by simpa using h)]; rfl
      simp only [grTo] at h
      rw [this] at h
      simp at h
    · rintro ⟨i, k, a, b, h, _⟩
      omega
  | succ m ih =>
    have ih := ih (by omega)
    have e : L[m]? = some (L[m]'(by omega)) := List.getElem?_eq_getElem (by omega)
    generalize L[m]'(by omega) = a at e
    rw [grTo_succ e, grRow_bit hr (hr a (List.mem_of_getElem? e)) (grTo_ok hr m) _ (by omega), ih]
    constructor
    · rintro (⟨i, k, a', b, h1, r⟩ | ⟨d, b, hd, hb, r⟩)
      · exact ⟨i, k, a', b, by omega, r⟩
      · exact ⟨m, m + 1 + d, a, b, by omega, by omega, e, hb, r⟩
    · rintro ⟨i, k, a', b, h1, h2, h3, h4, r⟩
      by_cases hi : i = m
      · subst hi
        rw [e] at h3
        injection h3 with h3
        subst h3
        have hk := (List.getElem?_eq_some_iff.1 h4).1
        exact .inr ⟨k - (i + 1), b, by omega, by rw [show i + 1 + (k - (i + 1)) = k by omega]; exact h4, r⟩
      · exact .inl ⟨i, k, a', b, by omega, h2, h3, h4, r⟩
theorem grI_bit {L : List OpV} (hr : Tx4 L) {t u : Nat} : ((grI L).getD t 0).testBit u = true ↔ Cf L t u := by
  unfold grI
  rw [grTo_bit hr _ (Nat.le_refl _)]
  constructor
  · rintro ⟨i, k, a, b, _, r⟩
    exact ⟨i, k, a, b, r⟩
  · rintro ⟨i, k, a, b, h, h2, r⟩
    exact ⟨i, k, a, b, (List.getElem?_eq_some_iff.1 h2).1, h, h2, r⟩
theorem Cf.ne {L : List OpV} {t u : Int} (h : Cf L t u) : t ≠ u := by
  obtain ⟨i, k, a, b, _, _, _, hc, rfl, rfl⟩ := h
  unfold confB at hc
  simp only [Bool.and_eq_true, bne_iff_ne] at hc
  exact hc.1.1.1.1
theorem Cf.mem {L : List OpV} {t u : Int} (h : Cf L t u) : (∃ o ∈ L, o.tx = t) ∧ ∃ o ∈ L, o.tx = u := by
  obtain ⟨i, k, a, b, _, h1, h2, hc, rfl, rfl⟩ := h
  exact ⟨⟨a, List.mem_of_getElem? h1, rfl⟩, b, List.mem_of_getElem? h2, rfl⟩
theorem gr_edge {L : List OpV} (hr : Tx4 L) {t u : Int} (ht : 0 ≤ t) (hu : 0 ≤ u) : edgeB (grI L) t u = true ↔ Cf L t u := by
  obtain ⟨T, rfl⟩ := Int.eq_ofNat_of_zero_le ht
  obtain ⟨U, rfl⟩ := Int.eq_ofNat_of_zero_le hu
  unfold edgeB
  rw [Int.toNat_natCast, Int.toNat_natCast]
  exact grI_bit hr
theorem gr_diag {L : List OpV} (hr : Tx4 L) {t : Int} (ht : 0 ≤ t) : edgeB (grI L) t t = false := by
  cases h : edgeB (grI L) t t
  · rfl
  · exact absurd rfl ((gr_edge hr ht ht).1 h).ne

/-- Each set has one that none of it is ahead of. -/
def Srcs (list : List Int) (rows : List Nat) : Prop := ∀ S : List Int, S ≠ [] → (∀ x ∈ S, x ∈ list) → ∃ t ∈ S, ∀ v ∈ S, edgeB rows v t = false
theorem accB_pair {rows : List Nat} {p : List Int} : ∀ {pre : List Int}, accB rows pre p = true → p.Pairwise (fun a b => edgeB rows b a = false) ∧ ∀ a ∈ pre, ∀ b ∈ p, edgeB rows b a = false := by
  induction p with
  | nil => intro pre _; exact ⟨List.Pairwise.nil, by simp⟩
  | cons t r ih =>
    intro pre h
    simp only [accB, Bool.and_eq_true, Bool.not_eq_true'] at h
    obtain ⟨h1, h2⟩ := h
    obtain ⟨h3, h4⟩ := ih h2
    rw [List.any_eq_false] at h1
    refine ⟨List.pairwise_cons.2 ⟨fun b hb => h4 t (by simp) b hb, h3⟩, fun a ha b hb => ?_⟩
    rcases List.mem_cons.1 hb with rfl | hb
    · simpa using h1 a ha
    · exact h4 a (by simp [ha]) b hb
theorem accB_of {rows : List Nat} {p : List Int} : ∀ {pre : List Int}, p.Pairwise (fun a b => edgeB rows b a = false) → (∀ a ∈ pre, ∀ b ∈ p, edgeB rows b a = false) → accB rows pre p = true := by
  induction p with
  | nil => intro pre _ _; rfl
  | cons t r ih =>
    intro pre h1 h2
    obtain ⟨h3, h4⟩ := List.pairwise_cons.1 h1
    simp only [accB, Bool.and_eq_true, Bool.not_eq_true']
    refine ⟨?_, ih h4 fun a ha b hb => ?_⟩
    · rw [List.any_eq_false]
      intro a ha
      rw [h2 a ha t (by simp)]; simp
    · rcases List.mem_append.1 ha with ha | ha
      · exact h2 a ha b (by simp [hb])
      · rw [List.mem_singleton] at ha
        subst ha
        exact h3 b hb
theorem accB_iff {rows : List Nat} {p : List Int} : accB rows [] p = true ↔ p.Pairwise (fun a b => edgeB rows b a = false) :=
  ⟨fun h => (accB_pair h).1, fun h => accB_of h (by simp)⟩
theorem topF_ne' {list : List Int} {rows : List Nat} (hd : list.Nodup) (src : Srcs list rows) (m : Nat) :
    ∀ pre : List Int, pre.length + m = list.length → topF list rows m pre ≠ [] := by
  induction m with
  | zero => intro pre _; simp [topF]
  | succ m ih =>
    intro pre hl
    have hne : list.filter (fun x => !(pre.any fun y => y == x)) ≠ [] := by
      intro he
      rw [List.filter_eq_nil_iff] at he
      have : list.length ≤ pre.length := nodup_len hd fun x hx => by
        have := he x hx
        simp only [Bool.not_eq_true', Bool.not_eq_false] at this
        exact any_mem_iff.1 this
      omega
    obtain ⟨t, ht, hs⟩ := src _ hne (fun x hx => (List.mem_filter.1 hx).1)
    obtain ⟨htl, htp⟩ := List.mem_filter.1 ht
    have hcond : (!(pre.any fun y => y == t) && list.all (fun v => !edgeB rows v t || pre.any fun y => y == v)) = true := by
      rw [Bool.and_eq_true]
      refine ⟨htp, List.all_eq_true.2 fun v hv => ?_⟩
      cases hp : (pre.any fun y => y == v)
      · rw [hs v (List.mem_filter.2 ⟨hv, by rw [hp]; rfl⟩)]; rfl
      · simp
    simp only [topF]
    intro he
    rw [List.flatMap_eq_nil_iff] at he
    have := he t htl
    rw [if_pos hcond] at this
    exact ih (pre ++ [t]) (by simp; omega) this
/-- An order is there just where there are sources. -/
theorem ord_src {list : List Int} {rows : List Nat} (hd : list.Nodup) (hs : ∀ t ∈ list, edgeB rows t t = false) : ordI list rows ≠ [] ↔ Srcs list rows := by
  constructor
  · intro h S hne hsub
    obtain ⟨p, hp⟩ := List.exists_mem_of_ne_nil _ h
    unfold ordI at hp
    obtain ⟨hp1, hp2⟩ := List.mem_filter.1 hp
    obtain ⟨_, hall⟩ := permF_mem hd list.length (pre := []) (by simp) (by simp) (by simp) p hp1
    have hpw := accB_iff.1 hp2
    -- the first of the order that is of S
    cases hf : p.find? (fun t => S.any fun y => y == t) with
    | none =>
      exfalso
      obtain ⟨x, hx⟩ := List.exists_mem_of_ne_nil _ hne
      have := List.find?_eq_none.1 hf x (hall x (hsub x hx))
      exact this (any_mem_iff.2 hx)
    | some t =>
      obtain ⟨htS, pa, pb, hpe, has⟩ := List.find?_eq_some_iff_append.1 hf
      have htS : t ∈ S := any_mem_iff.1 htS
      refine ⟨t, htS, fun v hv => ?_⟩
      have hvp := hall v (hsub v hv)
      rw [hpe] at hvp hpw
      rcases List.mem_append.1 hvp with hva | hvb
      · have := has v hva
        rw [any_mem_iff.2 hv] at this
        cases this
      · rcases List.mem_cons.1 hvb with rfl | hvb
        · exact hs v (hsub v hv)
        · have h2 := (List.pairwise_append.1 hpw).2.1
          exact (List.pairwise_cons.1 h2).1 v hvb
  · intro h
    rw [ord_eq hd hs]
    exact topF_ne' hd h list.length [] (by simp)

/-! ### the orders of a schedule -/
def ordO (s : List OpV) : List (List Int) := ordI (txsOf (committed s)) (grI (committed s))
def ordOS (s : List OpV) : List (List Int) := topF (txsOf (committed s)) (grI (committed s)) (txsOf (committed s)).length []
theorem comm_sub {s : List OpV} {o : OpV} (h : o ∈ committed s) : o ∈ s := (List.mem_filter.1 h).1
theorem comm_tx4 {s : List OpV} (h : validS s = true) : Tx4 (committed s) := fun o ho => validS_tx3 h (comm_sub ho)
theorem txsOf_rng0 (s : List OpV) : ∀ t ∈ txsOf s, 0 ≤ t ∧ t ≤ 3 := fun t ht => by
  unfold txsOf at ht
  have := (List.mem_filter.1 ht).1
  simp at this
  omega
theorem ordO_diag {s : List OpV} (h : validS s = true) : ∀ t ∈ txsOf (committed s), edgeB (grI (committed s)) t t = false := fun t ht => gr_diag (comm_tx4 h) (txsOf_rng0 _ t ht).1
theorem ordO_eq {s : List OpV} (h : validS s = true) : ordO s = ordOS s := ord_eq (nodup_txsOf _) (ordO_diag h)
theorem ordO_src {s : List OpV} (h : validS s = true) : ordO s ≠ [] ↔ Srcs (txsOf (committed s)) (grI (committed s)) := ord_src (nodup_txsOf _) (ordO_diag h)
end Go.Proofs.Ytcakjhappchlmaa
namespace Go.Proofs.Ytcakjhappchlmaa
open Go.RowKit
set_option linter.unusedVariables false

/-- The program's search from t, behind a path. -/
def cirF (R : List Nat) : Nat → List Int → List Int → Int → List Int
  | 0, _, best, _ => best
  | m + 1, path, best, t =>
    [0, 1, 2, 3].foldl (fun b u => if edgeB R t u && decide ((path ++ [t]).headD 0 < u) && !((path ++ [t]).any fun y => y == u) then cirF R m (path ++ [t]) b u else b)
      (if edgeB R t ((path ++ [t]).headD 0) && (best.isEmpty || decide ((path ++ [t]).length < best.length)) then path ++ [t] else best)
def cirT (R : List Nat) : List Int := [0, 1, 2, 3].foldl (fun b t => cirF R 4 [] b t) []
/-- The first that is not empty. -/
def firstNE : List (List Int) → List Int
  | [] => []
  | x :: r => if x.isEmpty then firstNE r else x
/-- The reference's search: m more to come. -/
def cyF (R : List Nat) : Nat → List Int → List Int
  | 0, head => if edgeB R (head.getLastD 0) (head.headD 0) then head else []
  | m + 1, head => firstNE ([0, 1, 2, 3].map fun t => if decide (head.headD 0 < t) && !(head.any fun y => y == t) && edgeB R (head.getLastD 0) t then cyF R m (head ++ [t]) else [])
def cycT (R : List Nat) : List Int := firstNE ([1, 2, 3].flatMap fun m => [0, 1, 2, 3].map fun t => cyF R m [t])
/-- Whether a list goes round, the least one first, none twice. -/
def roundB (R : List Nat) (c : List Int) : Bool := decide (2 ≤ c.length) && (List.range c.length).all fun i =>
  edgeB R (c.getD i 0) (c.getD ((i + 1) % c.length) 0) && decide (c.headD 0 ≤ c.getD i 0) && !((c.take i).any fun y => y == c.getD i 0) && decide (0 ≤ c.getD i 0) && decide (c.getD i 0 ≤ 3)
/-- Each set of the four has one that none of it is ahead of. -/
def srcB (R : List Nat) : Bool := (List.range 15).all fun m => (List.range 4).any fun t => (m + 1).testBit t && (List.range 4).all fun v => !((m + 1).testBit v) || !edgeB R (v : Int) (t : Int)
def cycOk (R : List Nat) : Bool := (cirT R == cycT R) && (if (cycT R).isEmpty then srcB R else roundB R (cycT R)) && decide ((cycT R).length ≤ 4)
def allB (a : Nat) : Bool := (List.range 16).all fun b => b.testBit 1 || (List.range 16).all fun c => c.testBit 2 || (List.range 16).all fun d => d.testBit 3 || cycOk [a, b, c, d]
set_option maxRecDepth 100000 in
theorem cyc0 : allB 0 = true := by decide +kernel
set_option maxRecDepth 100000 in
theorem cyc2 : allB 2 = true := by decide +kernel
set_option maxRecDepth 100000 in
theorem cyc4 : allB 4 = true := by decide +kernel
set_option maxRecDepth 100000 in
theorem cyc6 : allB 6 = true := by decide +kernel
set_option maxRecDepth 100000 in
theorem cyc8 : allB 8 = true := by decide +kernel
set_option maxRecDepth 100000 in
theorem cyc10 : allB 10 = true := by decide +kernel
set_option maxRecDepth 100000 in
theorem cyc12 : allB 12 = true := by decide +kernel
set_option maxRecDepth 100000 in
theorem cyc14 : allB 14 = true := by decide +kernel

theorem all16 {f : Nat → Bool} (h : (List.range 16).all f = true) {a : Nat} (ha : a < 16) : f a = true := List.all_eq_true.1 h a (List.mem_range.2 ha)
theorem cyc_ok {R : List Nat} (h4 : Rows4 R) (hd : ∀ t : Nat, t < 4 → (R.getD t 0).testBit t = false) : cycOk R = true := by
  obtain ⟨hl, hr⟩ := h4
  match R, hl with
  | [a, b, c, d], _ =>
    have ha := hr a (by simp)
    have hb := hr b (by simp)
    have hc := hr c (by simp)
    have hdd := hr d (by simp)
    have da := hd 0 (by omega)
    have db := hd 1 (by omega)
    have dc := hd 2 (by omega)
    have de := hd 3 (by omega)
    simp only [List.getD_cons_zero, List.getD_cons_succ] at da db dc de
    have hA : allB a = true := by
      have ha2 : a % 2 = 0 := by
        rw [Nat.testBit_zero] at da
        simp at da
        omega
      rcases (by omega : a = 0 ∨ a = 2 ∨ a = 4 ∨ a = 6 ∨ a = 8 ∨ a = 10 ∨ a = 12 ∨ a = 14) with rfl | rfl | rfl | rfl | rfl | rfl | rfl | rfl
      · exact cyc0
      · exact cyc2
      · exact cyc4
      · exact cyc6
      · exact cyc8
      · exact cyc10
      · exact cyc12
      · exact cyc14
    unfold allB at hA
    have h1 := all16 hA hb
    rw [db, Bool.false_or] at h1
    have h2 := all16 h1 hc
    rw [dc, Bool.false_or] at h2
    have h3 := all16 h2 hdd
    rw [de, Bool.false_or] at h3
    exact h3
theorem diag_bit {R : List Nat} (hd : ∀ t : Int, 0 ≤ t → edgeB R t t = false) : ∀ t : Nat, t < 4 → (R.getD t 0).testBit t = false := fun t _ => by
  have := hd (t : Int) (by omega)
  unfold edgeB at this
  rw [Int.toNat_natCast] at this
  exact this
theorem cir_eq {R : List Nat} (h4 : Rows4 R) (hd : ∀ t : Int, 0 ≤ t → edgeB R t t = false) : cirT R = cycT R := by
  have := cyc_ok h4 (diag_bit hd)
  unfold cycOk at this
  simp only [Bool.and_eq_true, beq_iff_eq] at this
  exact this.1.1
theorem cyc_len {R : List Nat} (h4 : Rows4 R) (hd : ∀ t : Int, 0 ≤ t → edgeB R t t = false) : (cycT R).length ≤ 4 := by
  have := cyc_ok h4 (diag_bit hd)
  unfold cycOk at this
  simp only [Bool.and_eq_true, decide_eq_true_eq] at this
  exact this.2
theorem cyc_round {R : List Nat} (h4 : Rows4 R) (hd : ∀ t : Int, 0 ≤ t → edgeB R t t = false) (h : cycT R ≠ []) : roundB R (cycT R) = true := by
  have := cyc_ok h4 (diag_bit hd)
  unfold cycOk at this
  simp only [Bool.and_eq_true] at this
  have := this.1.2
  rw [if_neg (by simpa using h)] at this
  exact this
theorem mask_of {S : List Int} (hne : S ≠ []) (hr : ∀ x ∈ S, 0 ≤ x ∧ x ≤ 3) : ∃ m, m < 15 ∧ ∀ t : Nat, t < 4 → ((m + 1).testBit t = true ↔ (t : Int) ∈ S) := by
  obtain ⟨x, hx⟩ := List.exists_mem_of_ne_nil _ hne
  have hxr := hr x hx
  have key : ∀ b0 b1 b2 b3 : Bool, (b0 || b1 || b2 || b3) = true → ∃ m, m < 15 ∧ (m + 1).testBit 0 = b0 ∧ (m + 1).testBit 1 = b1 ∧ (m + 1).testBit 2 = b2 ∧ (m + 1).testBit 3 = b3 := by
    intro b0 b1 b2 b3 h
    refine ⟨(if b0 then 1 else 0) + (if b1 then 2 else 0) + (if b2 then 4 else 0) + (if b3 then 8 else 0) - 1, ?_⟩
    revert h
    revert b0 b1 b2 b3
    decide
  obtain ⟨m, hm, h0, h1, h2, h3⟩ := key (decide ((0 : Int) ∈ S)) (decide ((1 : Int) ∈ S)) (decide ((2 : Int) ∈ S)) (decide ((3 : Int) ∈ S)) (by
    rcases (by omega : x = 0 ∨ x = 1 ∨ x = 2 ∨ x = 3) with rfl | rfl | rfl | rfl <;> simp [hx])
  refine ⟨m, hm, fun t ht => ?_⟩
  rcases (by omega : t = 0 ∨ t = 1 ∨ t = 2 ∨ t = 3) with rfl | rfl | rfl | rfl
  · rw [h0]; simp
  · rw [h1]; simp
  · rw [h2]; simp
  · rw [h3]; simp
/-- Where there is no circle each set has its first. -/
theorem cyc_none {R : List Nat} (h4 : Rows4 R) (hd : ∀ t : Int, 0 ≤ t → edgeB R t t = false) (h : cycT R = []) {list : List Int} (hr : ∀ t ∈ list, 0 ≤ t ∧ t ≤ 3) : Srcs list R := by
  have := cyc_ok h4 (diag_bit hd)
  unfold cycOk at this
  simp only [Bool.and_eq_true] at this
  have := this.1.2
  rw [if_pos (by simpa using h)] at this
  intro S hne hsub
  have hSr : ∀ x ∈ S, 0 ≤ x ∧ x ≤ 3 := fun x hx => hr x (hsub x hx)
  obtain ⟨m, hm, hbit⟩ := mask_of hne hSr
  unfold srcB at this
  have h1 := List.all_eq_true.1 this m (List.mem_range.2 hm)
  obtain ⟨t, ht, h2⟩ := List.any_eq_true.1 h1
  rw [Bool.and_eq_true] at h2
  refine ⟨(t : Int), (hbit t (List.mem_range.1 ht)).1 h2.1, fun v hv => ?_⟩
  have hvr := hSr v hv
  obtain ⟨V, rfl⟩ := Int.eq_ofNat_of_zero_le hvr.1
  have h3 := List.all_eq_true.1 h2.2 V (List.mem_range.2 (by omega))
  rw [(hbit V (by omega)).2 hv] at h3
  simpa using h3
/-- A circle's members: each has one ahead of it. -/
theorem cyc_bad {R : List Nat} (h4 : Rows4 R) (hd : ∀ t : Int, 0 ≤ t → edgeB R t t = false) (h : cycT R ≠ []) {list : List Int} (hm : ∀ t ∈ cycT R, t ∈ list) : ¬ Srcs list R := by
  intro hs
  have hb := cyc_round h4 hd h
  generalize cycT R = c at *
  obtain ⟨t, ht, h2⟩ := hs c h hm
  unfold roundB at hb
  rw [Bool.and_eq_true, decide_eq_true_eq, List.all_eq_true] at hb
  obtain ⟨i, hi⟩ := List.mem_iff_getElem?.1 ht
  obtain ⟨hil, hie⟩ := List.getElem?_eq_some_iff.1 hi
  -- the one ahead
  obtain ⟨j, hj, hji⟩ : ∃ j, j < c.length ∧ (j + 1) % c.length = i := by
    by_cases h0 : i = 0
    · exact ⟨c.length - 1, by omega, by rw [Nat.sub_add_cancel (by omega), Nat.mod_self, h0]⟩
    · exact ⟨i - 1, by omega, by rw [Nat.sub_add_cancel (by omega), Nat.mod_eq_of_lt hil]⟩
  have h3 := hb.2 j (List.mem_range.2 hj)
  simp only [Bool.and_eq_true] at h3
  have h5 := h3.1.1.1.1
  rw [hji, List.getD_eq_getElem?_getD, List.getD_eq_getElem?_getD, hi, List.getElem?_eq_getElem hj] at h5
  have := h2 _ (List.getElem_mem hj)
  simp only [Option.getD_some] at h5
  rw [h5] at this
  cases this
theorem cyc_at {R : List Nat} (h4 : Rows4 R) (hd : ∀ t : Int, 0 ≤ t → edgeB R t t = false) (h : cycT R ≠ []) {i : Nat} (hi : i < (cycT R).length) :
    2 ≤ (cycT R).length ∧ edgeB R ((cycT R).getD i 0) ((cycT R).getD ((i + 1) % (cycT R).length) 0) = true ∧ (cycT R).headD 0 ≤ (cycT R).getD i 0 ∧ (((cycT R).take i).any fun y => y == (cycT R).getD i 0) = false ∧ 0 ≤ (cycT R).getD i 0 ∧ (cycT R).getD i 0 ≤ 3 := by
  have hb := cyc_round h4 hd h
  generalize cycT R = c at *
  unfold roundB at hb
  rw [Bool.and_eq_true, decide_eq_true_eq, List.all_eq_true] at hb
  have h3 := hb.2 i (List.mem_range.2 hi)
  simp only [Bool.and_eq_true, decide_eq_true_eq, Bool.not_eq_true'] at h3
  exact ⟨hb.1, h3.1.1.1.1, h3.1.1.1.2, h3.1.1.2, h3.1.2, h3.2⟩
end Go.Proofs.Ytcakjhappchlmaa
namespace Go.Proofs.Ytcakjhappchlmaa
open Go.RowKit
set_option linter.unusedVariables false

/-- Those in the way: the others with a lock that is in the way. -/
def inWayI (L : List OpV) (t x kind : Int) : List Int := [0, 1, 2, 3].filter fun u => u != t && (decide (0 ≤ heldI L u x) && (heldI L u x == 1 || kind == 1))
/-- t gives back its locks on the first k items. -/
def dropTo (L : List OpV) (t : Int) : Nat → List OpV
  | 0 => L
  | k + 1 => if 0 ≤ heldI (dropTo L t k) t (k : Int) then dropTo L t k ++ [⟨t, 2, (k : Int)⟩] else dropTo L t k
theorem dropTo_succ (L : List OpV) (t : Int) (k : Nat) : dropTo L t (k + 1) = if 0 ≤ heldI (dropTo L t k) t (k : Int) then dropTo L t k ++ [⟨t, 2, (k : Int)⟩] else dropTo L t k := rfl
def dropL (L : List OpV) (t : Int) : List OpV := dropTo L t 3

structure Dsk where
  done : List OpV
  wait : List OpV
  locks : List OpV
  dead : List Int
def Dsk.zero : Dsk := ⟨[], [], [], []⟩

def killD (d : Dsk) (t : Int) : Dsk := ⟨d.done ++ [⟨t, 3, 0⟩], d.wait.filter fun o => o.tx != t, dropL d.locks t, d.dead ++ [t]⟩
def grantL (L : List OpV) (o : OpV) : List OpV := if isEnd o then dropL L o.tx else if heldI L o.tx o.item < o.kind then L ++ [⟨o.tx, o.kind, o.item⟩] else L
def grantD (d : Dsk) (o : OpV) : Dsk := ⟨d.done ++ [o], d.wait, grantL d.locks o, d.dead⟩
inductive Rul where
  | wait
  | die
  | wound
  deriving DecidableEq
/-- Those in the way of an operation. -/
def wayO (L : List OpV) (o : OpV) : List Int := if isEnd o then [] else inWayI L o.tx o.item o.kind
def waitD (d : Dsk) (o : OpV) : Dsk := ⟨d.done, d.wait ++ [o], d.locks, d.dead⟩
def killsD (d : Dsk) (ts : List Int) : Dsk := ts.foldl killD d
def askD (r : Rul) (d : Dsk) (o : OpV) : Dsk :=
  match r with
  | .wait => if (wayO d.locks o).isEmpty then grantD d o else waitD d o
  | .die => if (wayO d.locks o).isEmpty then grantD d o else if (wayO d.locks o).headD 0 < o.tx then killD d o.tx else waitD d o
  | .wound => if ((wayO d.locks o).filter fun u => !decide (o.tx < u)).isEmpty then grantD (killsD d ((wayO d.locks o).filter fun u => decide (o.tx < u))) o else waitD (killsD d ((wayO d.locks o).filter fun u => decide (o.tx < u))) o
/-- The operation at i is the first of its transaction. -/
def frstB (W : List OpV) (i : Nat) : Bool := match W[i]? with | some o => (W.take i).all fun p => p.tx != o.tx | none => false
def freeB (d : Dsk) (i : Nat) : Bool := match d.wait[i]? with | some o => frstB d.wait i && (wayO d.locks o).isEmpty | none => false
def dieB (d : Dsk) (i : Nat) : Bool := match d.wait[i]? with | some o => frstB d.wait i && decide ((wayO d.locks o).headD 0 < o.tx) | none => false
def woundB (d : Dsk) (i : Nat) : Bool := match d.wait[i]? with | some o => frstB d.wait i && decide (o.tx < (wayO d.locks o).getLastD 0) | none => false
/-- For each transaction those its first waiting operation waits for, as bits. -/
def bitsOf (us : List Int) : Nat := us.foldl (fun a u => a ||| 2 ^ u.toNat) 0
def waitRow (d : Dsk) (t : Int) : Nat := match (opsOf d.wait t).head? with | some o => if isEnd o then 0 else bitsOf (inWayI d.locks t o.item o.kind) | none => 0
def waitsR (d : Dsk) : List Nat := [0, 1, 2, 3].map (waitRow d)
def maxL (c : List Int) : Int := c.foldl max (c.headD 0)
/-- What is done next, if anything. -/
def nextD (r : Rul) (d : Dsk) : Option Dsk :=
  match (List.range d.wait.length).find? (freeB d) with
  | some i => some (grantD ⟨d.done, d.wait.take i ++ d.wait.drop (i + 1), d.locks, d.dead⟩ (d.wait.getD i OpV.zero))
  | none => match r with
    | .die => match (List.range d.wait.length).find? (dieB d) with
      | some i => some (killD d (d.wait.getD i OpV.zero).tx)
      | none => none
    | .wound => match (List.range d.wait.length).find? (woundB d) with
      | some i => some (killD d ((wayO d.locks (d.wait.getD i OpV.zero)).getLastD 0))
      | none => none
    | .wait => if (cycT (waitsR d)).isEmpty then none else some (killD d (maxL (cycT (waitsR d))))
def resumeD (r : Rul) : Nat → Dsk → Dsk
  | 0, d => d
  | f + 1, d => match nextD r d with | some e => resumeD r f e | none => d

/-! the measure -/
def holdB (L : List OpV) (u : Int) : Bool := [0, 1, 2].any fun x => decide (0 ≤ heldI L u x)
def hold (L : List OpV) : List Int := [0, 1, 2, 3].filter (holdB L)
def msr (d : Dsk) : Nat := 2 * d.wait.length + (hold d.locks).length

theorem heldI_free (L : List OpV) (t : Int) (k : Int) (u x : Int) : heldI (L ++ [⟨t, 2, k⟩]) u x = if u = t ∧ x = k then -1 else heldI L u x := by
  rw [heldI_snoc]
  unfold hStep
  by_cases h : t = u ∧ k = x
  · rw [if_pos h, if_pos rfl, if_pos ⟨h.1.symm, h.2.symm⟩]
  · rw [if_neg h, if_neg (fun h' => h ⟨h'.1.symm, h'.2.symm⟩)]
theorem dropTo_held (L : List OpV) (t : Int) (k : Nat) : ∀ u x : Int, ((u ≠ t ∨ x < 0 ∨ (k : Int) ≤ x) → heldI (dropTo L t k) u x = heldI L u x) ∧ (u = t → 0 ≤ x → x < (k : Int) → heldI (dropTo L t k) u x < 0) := by
  induction k with
  | zero => exact fun u x => ⟨fun _ => rfl, fun _ _ _ => by omega⟩
  | succ k ih =>
    intro u x
    obtain ⟨h1, h2⟩ := ih u x
    rw [dropTo_succ]
    by_cases hh : 0 ≤ heldI (dropTo L t k) t (k : Int)
    · rw [if_pos hh, heldI_free]
      constructor
      · intro h
        rw [if_neg (by omega)]
        exact h1 (by omega)
      · intro hu hx hk
        by_cases hxk : x = (k : Int)
        · rw [if_pos ⟨hu, hxk⟩]; omega
        · rw [if_neg (by omega)]
          exact h2 hu hx (by omega)
    · rw [if_neg hh]
      constructor
      · intro h; exact h1 (by omega)
      · intro hu hx hk
        by_cases hxk : x = (k : Int)
        · subst hu; subst hxk; omega
        · exact h2 hu hx (by omega)
theorem dropL_held (L : List OpV) (t u x : Int) : ((u ≠ t ∨ x < 0 ∨ 3 ≤ x) → heldI (dropL L t) u x = heldI L u x) ∧ (u = t → 0 ≤ x → x < 3 → heldI (dropL L t) u x < 0) := dropTo_held L t 3 u x
theorem dropTo_len (L : List OpV) (t : Int) (k : Nat) : L.length ≤ (dropTo L t k).length ∧ (dropTo L t k).length ≤ L.length + k := by
  induction k with
  | zero => exact ⟨Nat.le_refl _, by show L.length ≤ _; omega⟩
  | succ k ih =>
    rw [dropTo_succ]
    split
    · rw [List.length_append, List.length_singleton]; omega
    · omega
theorem dropL_len (L : List OpV) (t : Int) : (dropL L t).length ≤ L.length + 3 := (dropTo_len L t 3).2

theorem holdB_iff {L : List OpV} {u : Int} : holdB L u = true ↔ ∃ x : Int, (x = 0 ∨ x = 1 ∨ x = 2) ∧ 0 ≤ heldI L u x := by
  simp only [holdB, List.any_cons, List.any_nil, Bool.or_eq_true, decide_eq_true_eq]
  constructor
  · rintro (h | h | h | h)
    · exact ⟨0, by omega, h⟩
    · exact ⟨1, by omega, h⟩
    · exact ⟨2, by omega, h⟩
    · cases h
  · rintro ⟨x, rfl | rfl | rfl, h⟩
    · exact .inl h
    · exact .inr (.inl h)
    · exact .inr (.inr (.inl h))
theorem filter_le {l : List Int} {p q : Int → Bool} (h : ∀ u ∈ l, p u = true → q u = true) : (l.filter p).length ≤ (l.filter q).length := by
  rw [← List.countP_eq_length_filter, ← List.countP_eq_length_filter]
  exact List.countP_mono_left h
theorem filter_lt {l : List Int} {p q : Int → Bool} (h : ∀ u ∈ l, p u = true → q u = true) {v : Int} (hv : v ∈ l) (h1 : p v = false) (h2 : q v = true) : (l.filter p).length < (l.filter q).length := by
  induction l with
  | nil => cases hv
  | cons x r ih =>
    have hle := filter_le (l := r) (p := p) (q := q) fun u hu => h u (List.mem_cons_of_mem _ hu)
    rw [List.filter_cons, List.filter_cons]
    rcases List.mem_cons.1 hv with rfl | hv
    · rw [if_neg (by simp [h1]), if_pos h2, List.length_cons]; omega
    · have := ih (fun u hu => h u (List.mem_cons_of_mem _ hu)) hv
      have hx := h x (by simp)
      by_cases hp : p x = true
      · rw [if_pos hp, if_pos (hx hp), List.length_cons, List.length_cons]; omega
      · rw [if_neg hp]
        split
        · rw [List.length_cons]; omega
        · exact this
theorem hold_drop (L : List OpV) (t : Int) : (hold (dropL L t)).length ≤ (hold L).length := by
  refine filter_le fun u _ h => ?_
  rw [holdB_iff] at h ⊢
  obtain ⟨x, hx, h⟩ := h
  refine ⟨x, hx, ?_⟩
  by_cases hu : u = t
  · have := (dropL_held L t u x).2 hu (by omega) (by omega); omega
  · rw [(dropL_held L t u x).1 (.inl hu)] at h; exact h
theorem hold_drop_lt {L : List OpV} {t x : Int} (ht : 0 ≤ t ∧ t ≤ 3) (hx : 0 ≤ x ∧ x ≤ 2) (h : 0 ≤ heldI L t x) : (hold (dropL L t)).length < (hold L).length := by
  refine filter_lt (v := t) (fun u _ h => ?_) ?_ ?_ ?_
  · rw [holdB_iff] at h ⊢
    obtain ⟨x, hx, h⟩ := h
    refine ⟨x, hx, ?_⟩
    by_cases hu : u = t
    · have := (dropL_held L t u x).2 hu (by omega) (by omega); omega
    · rw [(dropL_held L t u x).1 (.inl hu)] at h; exact h
  · rcases (by omega : t = 0 ∨ t = 1 ∨ t = 2 ∨ t = 3) with rfl | rfl | rfl | rfl <;> simp
  · cases hb : holdB (dropL L t) t
    · rfl
    · obtain ⟨y, hy, h2⟩ := holdB_iff.1 hb
      have := (dropL_held L t t y).2 rfl (by omega) (by omega); omega
  · rw [holdB_iff]
    exact ⟨x, by omega, h⟩
theorem hold_snoc (L : List OpV) (s : OpV) : (hold (L ++ [s])).length ≤ (hold L).length + 1 := by
  have key : ∀ l : List Int, l.Nodup → (l.filter (holdB (L ++ [s]))).length ≤ (l.filter (holdB L)).length + 1 ∧ (s.tx ∉ l → (l.filter (holdB (L ++ [s]))).length ≤ (l.filter (holdB L)).length) := by
    intro l
    induction l with
    | nil => exact fun _ => ⟨by simp, fun _ => by simp⟩
    | cons u r ih =>
      intro hd
      rw [List.nodup_cons] at hd
      obtain ⟨h1, h2⟩ := ih hd.2
      have same : u ≠ s.tx → holdB (L ++ [s]) u = holdB L u := fun hu => by
        unfold holdB
        simp only [heldI_snoc]
        have : ∀ x, hStep u x (heldI L u x) s = heldI L u x := fun x => by unfold hStep; rw [if_neg (fun h => hu h.1.symm)]
        simp only [this]
      rw [List.filter_cons, List.filter_cons]
      by_cases hu : u = s.tx
      · have h3 := h2 (by rw [← hu]; exact hd.1)
        refine ⟨?_, fun hm => absurd (by rw [hu]; simp) hm⟩
        split <;> split <;> (try simp only [List.length_cons]) <;> omega
      · rw [same hu]
        refine ⟨?_, fun hm => ?_⟩
        · split <;> (try simp only [List.length_cons]) <;> omega
        · have h3 := h2 (fun h => hm (List.mem_cons_of_mem _ h))
          split <;> (try simp only [List.length_cons]) <;> omega
  exact (key [0, 1, 2, 3] (by decide)).1
theorem hold_grant (L : List OpV) (o : OpV) : (hold (grantL L o)).length ≤ (hold L).length + 1 := by
  unfold grantL
  split
  · have := hold_drop L o.tx; omega
  · split
    · exact hold_snoc L _
    · omega
theorem grantL_len (L : List OpV) (o : OpV) : (grantL L o).length ≤ L.length + 3 := by
  unfold grantL
  split
  · exact dropL_len L o.tx
  · split
    · simp
    · omega

theorem mem_inWay {L : List OpV} {t x k u : Int} : u ∈ inWayI L t x k ↔ (0 ≤ u ∧ u ≤ 3) ∧ u ≠ t ∧ 0 ≤ heldI L u x ∧ (heldI L u x = 1 ∨ k = 1) := by
  unfold inWayI
  rw [List.mem_filter]
  simp only [Bool.and_eq_true, bne_iff_ne, decide_eq_true_eq, Bool.or_eq_true, beq_iff_eq, List.mem_cons, List.not_mem_nil, or_false]
  constructor
  · rintro ⟨h1, h2, h3⟩; exact ⟨by omega, h2, h3⟩
  · rintro ⟨h1, h2, h3⟩; exact ⟨by omega, h2, h3⟩
theorem mem_way {L : List OpV} {o : OpV} {u : Int} : u ∈ wayO L o ↔ isEnd o = false ∧ (0 ≤ u ∧ u ≤ 3) ∧ u ≠ o.tx ∧ 0 ≤ heldI L u o.item ∧ (heldI L u o.item = 1 ∨ o.kind = 1) := by
  unfold wayO
  split
  · rename_i h; simp [h]
  · rename_i h; rw [mem_inWay]; simp [h]
theorem way_asc (L : List OpV) (o : OpV) : (wayO L o).Pairwise (fun a b => a < b) := by
  unfold wayO
  split
  · exact List.Pairwise.nil
  · exact List.Pairwise.filter _ (by decide)
theorem way_len (L : List OpV) (o : OpV) : (wayO L o).length ≤ 4 := by
  unfold wayO
  split
  · simp
  · exact List.length_filter_le _ _

/-! the rows of waiting -/
theorem bitsOf_bit {us : List Int} (h : ∀ u ∈ us, 0 ≤ u ∧ u ≤ 3) (a : Nat) (u : Nat) : ((us.foldl (fun a u => a ||| 2 ^ u.toNat) a).testBit u = true ↔ a.testBit u = true ∨ (u : Int) ∈ us) := by
  induction us generalizing a with
  | nil => simp
  | cons v r ih =>
    rw [List.foldl_cons, ih (fun u hu => h u (List.mem_cons_of_mem _ hu)), Nat.testBit_or, Bool.or_eq_true, Nat.testBit_two_pow]
    have := h v (by simp)
    rw [List.mem_cons, decide_eq_true_eq]
    constructor
    · rintro ((h1 | h1) | h1)
      · exact .inl h1
      · exact .inr (.inl (by omega))
      · exact .inr (.inr h1)
    · rintro (h1 | h1 | h1)
      · exact .inl (.inl h1)
      · exact .inl (.inr (by omega))
      · exact .inr h1
theorem bitsOf_lt {us : List Int} (h : ∀ u ∈ us, 0 ≤ u ∧ u ≤ 3) : ∀ a : Nat, a < 16 → us.foldl (fun a u => a ||| 2 ^ u.toNat) a < 16 := by
  induction us with
  | nil => exact fun a ha => ha
  | cons v r ih =>
    intro a ha
    rw [List.foldl_cons]
    refine ih (fun u hu => h u (List.mem_cons_of_mem _ hu)) _ ?_
    have hv := h v (by simp)
    exact Nat.or_lt_two_pow (n := 4) ha (by rcases (by omega : v = 0 ∨ v = 1 ∨ v = 2 ∨ v = 3) with rfl | rfl | rfl | rfl <;> decide)
theorem inWay_rng {L : List OpV} {t x k : Int} : ∀ u ∈ inWayI L t x k, 0 ≤ u ∧ u ≤ 3 := fun u hu => (mem_inWay.1 hu).1
theorem waitRow_lt (d : Dsk) (t : Int) : waitRow d t < 16 := by
  unfold waitRow
  split
  · split
    · omega
    · exact bitsOf_lt inWay_rng 0 (by omega)
  · omega
theorem waitsR_ok (d : Dsk) : Rows4 (waitsR d) := ⟨rfl, fun r hr => by
  unfold waitsR at hr
  obtain ⟨t, _, rfl⟩ := List.mem_map.1 hr
  exact waitRow_lt d t⟩
theorem waitsR_at (d : Dsk) {t : Nat} (ht : t < 4) : (waitsR d).getD t 0 = waitRow d (t : Int) := by
  rcases (by omega : t = 0 ∨ t = 1 ∨ t = 2 ∨ t = 3) with rfl | rfl | rfl | rfl <;> rfl
theorem waitRow_bit {d : Dsk} {t : Int} {u : Nat} : (waitRow d t).testBit u = true ↔ ∃ o, (opsOf d.wait t).head? = some o ∧ isEnd o = false ∧ (u : Int) ∈ inWayI d.locks t o.item o.kind := by
  unfold waitRow
  split
  · rename_i o ho
    split
    · rename_i he
      rw [ho]
      simp [he]
    · rename_i he
      unfold bitsOf
      rw [bitsOf_bit inWay_rng, ho]
      simp [he]
  · rename_i ho
    rw [ho]
    simp
theorem waits_diag (d : Dsk) : ∀ t : Int, 0 ≤ t → edgeB (waitsR d) t t = false := by
  intro t ht
  obtain ⟨T, rfl⟩ := Int.eq_ofNat_of_zero_le ht
  cases h : edgeB (waitsR d) (T : Int) (T : Int)
  · rfl
  · exfalso
    unfold edgeB at h
    rw [Int.toNat_natCast] at h
    by_cases h4 : T < 4
    · rw [waitsR_at d h4, waitRow_bit] at h
      obtain ⟨o, _, _, h⟩ := h
      exact (mem_inWay.1 h).2.1 rfl
    · have : (waitsR d).getD T 0 = 0 := by
        rw [List.getD_eq_getElem?_getD, List.getElem?_eq_none (by rw [(waitsR_ok d).1]; omega)]; rfl
      rw [this] at h
      simp at h
theorem maxL_mem {c : List Int} (h : c ≠ []) : maxL c ∈ c := by
  have : ∀ (l : List Int) (a : Int), l.foldl max a = a ∨ l.foldl max a ∈ l := by
    intro l
    induction l with
    | nil => exact fun a => .inl rfl
    | cons x r ih =>
      intro a
      rw [List.foldl_cons]
      rcases ih (max a x) with h | h
      · rw [h]
        rcases (by omega : max a x = a ∨ max a x = x) with e | e
        · exact .inl e
        · exact .inr (by rw [e]; simp)
      · exact .inr (List.mem_cons_of_mem _ h)
  unfold maxL
  rcases this c (c.headD 0) with e | e
  · rw [e]
    cases c with
    | nil => exact absurd rfl h
    | cons x r => simp
  · exact e
/-- Each of a circle waits. -/
theorem cyc_waits {d : Dsk} (h : cycT (waitsR d) ≠ []) {t : Int} (ht : t ∈ cycT (waitsR d)) : (0 ≤ t ∧ t ≤ 3) ∧ ∃ o ∈ d.wait, o.tx = t := by
  obtain ⟨i, hi⟩ := List.mem_iff_getElem?.1 ht
  have hil := (List.getElem?_eq_some_iff.1 hi).1
  obtain ⟨_, h1, _, _, h2, h3⟩ := cyc_at (waitsR_ok d) (waits_diag d) h hil
  have e : (cycT (waitsR d)).getD i 0 = t := by rw [List.getD_eq_getElem?_getD, hi]; rfl
  rw [e] at h1 h2 h3
  refine ⟨⟨h2, h3⟩, ?_⟩
  unfold edgeB at h1
  obtain ⟨T, rfl⟩ := Int.eq_ofNat_of_zero_le h2
  rw [Int.toNat_natCast, waitsR_at d (by omega), waitRow_bit] at h1
  obtain ⟨o, ho, _⟩ := h1
  have := List.mem_of_head? ho
  unfold opsOf at this
  rw [List.mem_filter] at this
  exact ⟨o, this.1, by simpa using this.2⟩
theorem filter_ne_lt {W : List OpV} {t : Int} (h : ∃ o ∈ W, o.tx = t) : (W.filter fun o => o.tx != t).length < W.length := by
  obtain ⟨o, ho, rfl⟩ := h
  rcases Nat.lt_or_ge (W.filter fun p => p.tx != o.tx).length W.length with h | h
  · exact h
  · exfalso
    have h1 := List.length_filter_le (fun p : OpV => p.tx != o.tx) W
    have h2 := List.length_filter_eq_length_iff.1 (Nat.le_antisymm h1 h) o ho
    simp at h2
theorem msr_kill_wait {d : Dsk} {t : Int} (h : ∃ o ∈ d.wait, o.tx = t) : msr (killD d t) < msr d := by
  have h1 := filter_ne_lt h
  have h2 := hold_drop d.locks t
  unfold msr killD
  simp only
  omega
theorem msr_kill_held {d : Dsk} {t x : Int} (ht : 0 ≤ t ∧ t ≤ 3) (hx : 0 ≤ x ∧ x ≤ 2) (h : 0 ≤ heldI d.locks t x) : msr (killD d t) < msr d := by
  have h1 := List.length_filter_le (fun p : OpV => p.tx != t) d.wait
  have h2 := hold_drop_lt ht hx h
  unfold msr killD
  simp only
  omega
theorem msr_kill (d : Dsk) (t : Int) : msr (killD d t) ≤ msr d := by
  have h1 := List.length_filter_le (fun p : OpV => p.tx != t) d.wait
  have h2 := hold_drop d.locks t
  unfold msr killD
  simp only
  omega
theorem getD_at {W : List OpV} {i : Nat} {o : OpV} (h : W[i]? = some o) : W.getD i OpV.zero = o := by rw [List.getD_eq_getElem?_getD, h]; rfl
theorem cut_len {W : List OpV} {i : Nat} (h : i < W.length) : (W.take i ++ W.drop (i + 1)).length + 1 = W.length := by
  rw [List.length_append, List.length_take, List.length_drop]; omega
/-- What may come next. -/
theorem nextD_cases {r : Rul} {d e : Dsk} (h : nextD r d = some e) :
    (∃ (i : Nat) (o : OpV), d.wait[i]? = some o ∧ freeB d i = true ∧ (∀ j, j < i → freeB d j = false) ∧ e = grantD ⟨d.done, d.wait.take i ++ d.wait.drop (i + 1), d.locks, d.dead⟩ o) ∨
    ((∀ j, j < d.wait.length → freeB d j = false) ∧ ∃ t : Int, e = killD d t ∧
      ((r = .die ∧ ∃ (i : Nat) (o : OpV), d.wait[i]? = some o ∧ dieB d i = true ∧ (∀ j, j < i → dieB d j = false) ∧ t = o.tx) ∨
       (r = .wound ∧ ∃ (i : Nat) (o : OpV), d.wait[i]? = some o ∧ woundB d i = true ∧ (∀ j, j < i → woundB d j = false) ∧ t = (wayO d.locks o).getLastD 0) ∨
       (r = .wait ∧ cycT (waitsR d) ≠ [] ∧ t = maxL (cycT (waitsR d))))) := by
  have pick : ∀ (p : Nat → Bool) (i : Nat), (List.range d.wait.length).find? p = some i → i < d.wait.length ∧ p i = true ∧ ∀ j, j < i → p j = false := by
    intro p i hf
    rw [List.find?_range_eq_some] at hf
    obtain ⟨h1, h2, h3⟩ := hf
    exact ⟨by simpa using h2, h1, fun j hj => by have := h3 j hj; simpa using this⟩
  cases hf : (List.range d.wait.length).find? (freeB d) with
  | some i =>
    obtain ⟨h1, h2, h3⟩ := pick _ _ hf
    have e1 : d.wait[i]? = some (d.wait[i]'h1) := List.getElem?_eq_getElem h1
    simp only [nextD, hf] at h
    rw [getD_at e1] at h
    injection h with h
    exact .inl ⟨i, _, e1, h2, h3, h.symm⟩
  | none =>
    have hno : ∀ j, j < d.wait.length → freeB d j = false := fun j hj => by
      have := List.find?_eq_none.1 hf j (List.mem_range.2 hj); simpa using this
    refine .inr ⟨hno, ?_⟩
    cases r with
    | die =>
      cases hg : (List.range d.wait.length).find? (dieB d) with
      | none => simp only [nextD, hf, hg] at h; cases h
      | some i =>
        obtain ⟨h1, h2, h3⟩ := pick _ _ hg
        have e1 : d.wait[i]? = some (d.wait[i]'h1) := List.getElem?_eq_getElem h1
        simp only [nextD, hf, hg] at h
        rw [getD_at e1] at h
        injection h with h
        exact ⟨_, h.symm, .inl ⟨rfl, i, _, e1, h2, h3, rfl⟩⟩
    | wound =>
      cases hg : (List.range d.wait.length).find? (woundB d) with
      | none => simp only [nextD, hf, hg] at h; cases h
      | some i =>
        obtain ⟨h1, h2, h3⟩ := pick _ _ hg
        have e1 : d.wait[i]? = some (d.wait[i]'h1) := List.getElem?_eq_getElem h1
        simp only [nextD, hf, hg] at h
        rw [getD_at e1] at h
        injection h with h
        exact ⟨_, h.symm, .inr (.inl ⟨rfl, i, _, e1, h2, h3, rfl⟩)⟩
    | wait =>
      simp only [nextD, hf] at h
      by_cases hc : (cycT (waitsR d)).isEmpty = true
      · rw [if_pos hc] at h; cases h
      · rw [if_neg hc] at h
        injection h with h
        exact ⟨_, h.symm, .inr (.inr ⟨rfl, fun e => hc (by rw [e]; rfl), rfl⟩)⟩
/-- The items of accesses that wait are items. -/
def ItemsOk (W : List OpV) : Prop := ∀ o ∈ W, isEnd o = true ∨ (0 ≤ o.item ∧ o.item ≤ 2)
theorem last_mem {l : List Int} (h : l ≠ []) : l.getLastD 0 ∈ l := by
  cases l with
  | nil => exact absurd rfl h
  | cons x r => rw [List.getLastD_cons]; exact List.getLastD_mem_cons
theorem way_ne {d : Dsk} {i : Nat} {o : OpV} (hi : d.wait[i]? = some o) (hf : frstB d.wait i = true) (hn : freeB d i = false) : wayO d.locks o ≠ [] := by
  intro e
  unfold freeB at hn
  rw [hi] at hn
  simp only at hn
  rw [hf, e] at hn
  cases hn
theorem next_less {r : Rul} {d e : Dsk} (hx : r = .wound → ItemsOk d.wait) (h : nextD r d = some e) : msr e < msr d := by
  rcases nextD_cases h with ⟨i, o, hi, _, _, rfl⟩ | ⟨hno, t, rfl, hh⟩
  · have h1 := cut_len (List.getElem?_eq_some_iff.1 hi).1
    have h2 := hold_grant d.locks o
    unfold msr grantD
    simp only
    omega
  · rcases hh with ⟨rfl, i, o, hi, h1, h2, rfl⟩ | ⟨rfl, i, o, hi, h1, h2, rfl⟩ | ⟨rfl, hc, rfl⟩
    · exact msr_kill_wait ⟨o, List.mem_of_getElem? hi, rfl⟩
    · have hil := (List.getElem?_eq_some_iff.1 hi).1
      unfold woundB at h1
      rw [hi] at h1
      simp only [Bool.and_eq_true, decide_eq_true_eq] at h1
      have hw := way_ne hi h1.1 (hno i hil)
      have hm := mem_way.1 (last_mem hw)
      have hit := hx rfl o (List.mem_of_getElem? hi)
      rw [hm.1] at hit
      exact msr_kill_held hm.2.1 (hit.resolve_left (by simp)) hm.2.2.2.1
    · exact msr_kill_wait (cyc_waits hc (maxL_mem hc)).2
theorem next_items {r : Rul} {d e : Dsk} (h : nextD r d = some e) (hx : ItemsOk d.wait) : ItemsOk e.wait := by
  rcases nextD_cases h with ⟨i, o, hi, _, _, rfl⟩ | ⟨hno, t, rfl, hh⟩
  · intro p hp
    rcases List.mem_append.1 hp with hp | hp
    · exact hx p (List.mem_of_mem_take hp)
    · exact hx p (List.mem_of_mem_drop hp)
  · intro p hp
    exact hx p (List.mem_filter.1 hp).1

/-! how long the lists grow -/
structure Bnd (d : Dsk) (N : Nat) : Prop where
  done : d.done.length + msr d ≤ N
  locks : d.locks.length ≤ 3 * d.done.length
  dead : d.dead.length ≤ d.done.length
theorem Bnd.wait {d : Dsk} {N : Nat} (h : Bnd d N) : 2 * d.wait.length ≤ N := by have := h.done; unfold msr at this; omega
theorem Bnd.mono {d : Dsk} {N M : Nat} (h : Bnd d N) (hm : N ≤ M) : Bnd d M := ⟨Nat.le_trans h.done hm, h.locks, h.dead⟩
theorem Bnd.kill {d : Dsk} {N : Nat} (h : Bnd d N) (t : Int) : Bnd (killD d t) (N + 1) := by
  have h1 := msr_kill d t
  have h2 := dropL_len d.locks t
  obtain ⟨a, b, c⟩ := h
  refine ⟨?_, ?_, ?_⟩ <;> simp only [killD, List.length_append, List.length_singleton] at * <;> omega
theorem Bnd.kills {d : Dsk} (ts : List Int) : ∀ {N : Nat} {d : Dsk}, Bnd d N → Bnd (killsD d ts) (N + ts.length) := by
  induction ts with
  | nil => exact fun h => h
  | cons t r ih =>
    intro N d h
    have := ih (h.kill t)
    refine Bnd.mono this ?_
    rw [List.length_cons]; omega
theorem Bnd.grant {d : Dsk} {N : Nat} (h : Bnd d N) (o : OpV) : Bnd (grantD d o) (N + 2) := by
  have h1 := hold_grant d.locks o
  have h2 := grantL_len d.locks o
  obtain ⟨a, b, c⟩ := h
  refine ⟨?_, ?_, ?_⟩ <;> simp only [grantD, msr, List.length_append, List.length_singleton] at * <;> omega
theorem Bnd.waits {d : Dsk} {N : Nat} (h : Bnd d N) (o : OpV) : Bnd (waitD d o) (N + 2) := by
  obtain ⟨a, b, c⟩ := h
  refine ⟨?_, ?_, ?_⟩ <;> simp only [waitD, msr, List.length_append, List.length_singleton] at * <;> omega
theorem Bnd.ask {d : Dsk} {N : Nat} (h : Bnd d N) (r : Rul) (o : OpV) : Bnd (askD r d o) (N + 6) := by
  unfold askD
  split
  · split
    · exact (h.grant o).mono (by omega)
    · exact (h.waits o).mono (by omega)
  · split
    · exact (h.grant o).mono (by omega)
    · split
      · exact (h.kill _).mono (by omega)
      · exact (h.waits o).mono (by omega)
  · have hl : ((wayO d.locks o).filter fun u => decide (o.tx < u)).length ≤ 4 := Nat.le_trans (List.length_filter_le _ _) (way_len d.locks o)
    have hk := Bnd.kills (d := d) ((wayO d.locks o).filter fun u => decide (o.tx < u)) h
    split
    · exact (hk.grant o).mono (by omega)
    · exact (hk.waits o).mono (by omega)
theorem Bnd.next {r : Rul} {d e : Dsk} {N : Nat} (hx : r = .wound → ItemsOk d.wait) (h : Bnd d N) (hn : nextD r d = some e) : Bnd e N := by
  have hlt := next_less hx hn
  obtain ⟨a, b, c⟩ := h
  rcases nextD_cases hn with ⟨i, o, hi, _, _, rfl⟩ | ⟨_, t, rfl, _⟩
  · have h2 := grantL_len d.locks o
    refine ⟨?_, ?_, ?_⟩ <;> simp only [grantD, List.length_append, List.length_singleton] at * <;> omega
  · have h2 := dropL_len d.locks t
    refine ⟨?_, ?_, ?_⟩ <;> simp only [killD, List.length_append, List.length_singleton] at * <;> omega
theorem resume_none {r : Rul} {f : Nat} {d : Dsk} (h : nextD r d = none) : resumeD r f d = d := by
  cases f with
  | zero => rfl
  | succ f => simp only [resumeD, h]
theorem resume_some {r : Rul} {f : Nat} {d e : Dsk} (h : nextD r d = some e) : resumeD r (f + 1) d = resumeD r f e := by simp only [resumeD, h]
/-- Fuel beyond the measure is not used. -/
theorem resume_fuel {r : Rul} : ∀ (f : Nat) (d : Dsk), (r = .wound → ItemsOk d.wait) → msr d ≤ f → resumeD r f d = resumeD r (msr d) d ∧ nextD r (resumeD r f d) = none ∧ (ItemsOk d.wait → ItemsOk (resumeD r f d).wait) ∧ (∀ N, Bnd d N → Bnd (resumeD r f d) N) := by
  intro f
  induction f with
  | zero =>
    intro d hx hm
    have h0 : msr d = 0 := by omega
    refine ⟨by rw [h0], ?_, fun h => h, fun N h => h⟩
    cases hn : nextD r d with
    | none => exact hn
    | some e => have := next_less hx hn; omega
  | succ f ih =>
    intro d hx hm
    cases hn : nextD r d with
    | none => rw [resume_none hn, resume_none hn]; exact ⟨rfl, hn, fun h => h, fun N h => h⟩
    | some e =>
      have hlt := next_less hx hn
      have hx2 : r = .wound → ItemsOk e.wait := fun h => next_items hn (hx h)
      obtain ⟨h1, h2, h3, h4⟩ := ih e hx2 (by omega)
      rw [resume_some hn]
      refine ⟨?_, h2, fun h => h3 (next_items hn h), fun N h => h4 N (h.next hx hn)⟩
      obtain ⟨m, hmm⟩ : ∃ m, msr d = m + 1 := ⟨msr d - 1, by omega⟩
      rw [hmm, resume_some hn, h1]
      by_cases hmf : m = f
      · subst hmf; exact h1.symm
      · -- the same with less fuel
        have : ∀ (a b : Nat) (d : Dsk), (r = .wound → ItemsOk d.wait) → msr d ≤ a → a ≤ b → resumeD r b d = resumeD r a d := by
          intro a
          induction a with
          | zero =>
            intro b d hx hm _
            have hd : nextD r d = none := by
              cases hn : nextD r d with
              | none => rfl
              | some e => have := next_less hx hn; omega
            rw [resume_none hd, resume_none hd]
          | succ a iha =>
            intro b d hx hm hab
            obtain ⟨b, rfl⟩ : ∃ c, b = c + 1 := ⟨b - 1, by omega⟩
            cases hn : nextD r d with
            | none => rw [resume_none hn, resume_none hn]
            | some e =>
              have := next_less hx hn
              rw [resume_some hn, resume_some hn]
              exact iha b e (fun h => next_items hn (hx h)) (by omega) (by omega)
        exact (this (msr e) m e hx2 (Nat.le_refl _) (by omega)).symm
def settleD (r : Rul) (d : Dsk) : Dsk := resumeD r (msr d) d
theorem settle_none {r : Rul} {d : Dsk} (h : nextD r d = none) : settleD r d = d := resume_none h
theorem settle_some {r : Rul} {d e : Dsk} (hx : r = .wound → ItemsOk d.wait) (h : nextD r d = some e) : settleD r d = settleD r e := by
  have hlt := next_less hx h
  unfold settleD
  obtain ⟨m, hmm⟩ : ∃ m, msr d = m + 1 := ⟨msr d - 1, by omega⟩
  rw [hmm, resume_some h]
  exact (resume_fuel m e (fun h' => next_items h (hx h')) (by omega)).1
/-- The whole run. -/
def runStep (r : Rul) (d : Dsk) (o : OpV) : Dsk :=
  if d.dead.any fun y => y == o.tx then d else if (opsOf d.wait o.tx).isEmpty then settleD r (askD r d o) else waitD d o
def runD (r : Rul) (s : List OpV) : Dsk := s.foldl (runStep r) Dsk.zero
theorem runD_succ {r : Rul} {s : List OpV} {k : Nat} {o : OpV} (h : s[k]? = some o) : runD r (s.take (k + 1)) = runStep r (runD r (s.take k)) o := by
  unfold runD
  rw [take_snoc h, List.foldl_append, List.foldl_cons, List.foldl_nil]
theorem items_ask {r : Rul} {d : Dsk} {o : OpV} (h : ItemsOk d.wait) (ho : isEnd o = true ∨ (0 ≤ o.item ∧ o.item ≤ 2)) : ItemsOk (askD r d o).wait := by
  have hk : ∀ (ts : List Int) (d : Dsk), ItemsOk d.wait → ItemsOk (killsD d ts).wait := by
    intro ts
    induction ts with
    | nil => exact fun d h => h
    | cons t r ih => exact fun d h => ih _ fun p hp => h p (List.mem_filter.1 hp).1
  have hw : ∀ d : Dsk, ItemsOk d.wait → ItemsOk (waitD d o).wait := fun d h p hp => by
    rcases List.mem_append.1 hp with hp | hp
    · exact h p hp
    · rw [List.mem_singleton] at hp; subst hp; exact ho
  unfold askD
  split
  · split
    · exact h
    · exact hw d h
  · split
    · exact h
    · split
      · exact fun p hp => h p (List.mem_filter.1 hp).1
      · exact hw d h
  · split
    · exact hk _ d h
    · exact hw _ (hk _ d h)
theorem runStep_facts {r : Rul} {d : Dsk} {o : OpV} {N : Nat} (hb : Bnd d N) (hi : r = .wound → ItemsOk d.wait) (ho : r = .wound → isEnd o = true ∨ (0 ≤ o.item ∧ o.item ≤ 2)) : Bnd (runStep r d o) (N + 6) ∧ (r = .wound → ItemsOk (runStep r d o).wait) := by
  unfold runStep
  split
  · exact ⟨hb.mono (by omega), hi⟩
  · split
    · have h1 : r = .wound → ItemsOk (askD r d o).wait := fun h => items_ask (hi h) (ho h)
      obtain ⟨_, _, h3, h4⟩ := resume_fuel (r := r) _ (askD r d o) h1 (Nat.le_refl _)
      exact ⟨h4 _ (hb.ask r o), fun h => h3 (h1 h)⟩
    · refine ⟨(hb.waits o).mono (by omega), fun h p hp => ?_⟩
      rcases List.mem_append.1 hp with hp | hp
      · exact hi h p hp
      · rw [List.mem_singleton] at hp; subst hp; exact ho h
theorem runD_facts {r : Rul} {s : List OpV} (hs : r = .wound → ItemsOk s) (k : Nat) : Bnd (runD r (s.take k)) (6 * k) ∧ (r = .wound → ItemsOk (runD r (s.take k)).wait) := by
  induction k with
  | zero =>
    have e : runD r (s.take 0) = Dsk.zero := rfl
    rw [e]
    exact ⟨⟨by decide, by decide, by decide⟩, fun _ o ho => by cases ho⟩
  | succ k ih =>
    cases e : s[k]? with
    | none =>
      have hl : s.length ≤ k := by
        rcases Nat.lt_or_ge k s.length with h | h
        · rw [List.getElem?_eq_getElem h] at e; cases e
        · exact h
      rw [List.take_of_length_le (by omega)]
      rw [List.take_of_length_le (by omega)] at ih
      exact ⟨ih.1.mono (by omega), ih.2⟩
    | some o =>
      rw [runD_succ e]
      have := runStep_facts (r := r) ih.1 ih.2 (fun h => hs h o (List.mem_of_getElem? e))
      exact ⟨this.1.mono (by omega), this.2⟩
end Go.Proofs.Ytcakjhappchlmaa
namespace Go.Proofs.Ytcakjhappchlmaa
open Go.RowKit
set_option linter.unusedVariables false

theorem find_first {p : Nat → Bool} {n i : Nat} (hi : i < n) (h : p i = true) (hno : ∀ j, j < i → p j = false) : (List.range n).find? p = some i := by
  rw [List.find?_range_eq_some]
  exact ⟨h, by simpa using hi, fun j hj => by rw [hno j hj]; rfl⟩
theorem find_no {p : Nat → Bool} {n : Nat} (hno : ∀ j, j < n → p j = false) : (List.range n).find? p = none := by
  rw [List.find?_eq_none]
  intro j hj
  rw [hno j (List.mem_range.1 hj)]
  simp
section
variable {d : Dsk} {i : Nat} {o : OpV}
theorem next_free (r : Rul) (hi : d.wait[i]? = some o) (h : freeB d i = true) (hno : ∀ j, j < i → freeB d j = false) : nextD r d = some (grantD ⟨d.done, d.wait.take i ++ d.wait.drop (i + 1), d.locks, d.dead⟩ o) := by
  simp only [nextD, find_first (List.getElem?_eq_some_iff.1 hi).1 h hno, getD_at hi]
theorem next_die (hf : ∀ j, j < d.wait.length → freeB d j = false) (hi : d.wait[i]? = some o) (h : dieB d i = true) (hno : ∀ j, j < i → dieB d j = false) : nextD .die d = some (killD d o.tx) := by
  simp only [nextD, find_no hf, find_first (List.getElem?_eq_some_iff.1 hi).1 h hno, getD_at hi]
theorem next_die_no (hf : ∀ j, j < d.wait.length → freeB d j = false) (hno : ∀ j, j < d.wait.length → dieB d j = false) : nextD .die d = none := by
  simp only [nextD, find_no hf, find_no hno]
theorem next_wound (hf : ∀ j, j < d.wait.length → freeB d j = false) (hi : d.wait[i]? = some o) (h : woundB d i = true) (hno : ∀ j, j < i → woundB d j = false) : nextD .wound d = some (killD d ((wayO d.locks o).getLastD 0)) := by
  simp only [nextD, find_no hf, find_first (List.getElem?_eq_some_iff.1 hi).1 h hno, getD_at hi]
theorem next_wound_no (hf : ∀ j, j < d.wait.length → freeB d j = false) (hno : ∀ j, j < d.wait.length → woundB d j = false) : nextD .wound d = none := by
  simp only [nextD, find_no hf, find_no hno]
theorem next_wait (hf : ∀ j, j < d.wait.length → freeB d j = false) (hc : cycT (waitsR d) ≠ []) : nextD .wait d = some (killD d (maxL (cycT (waitsR d)))) := by
  simp only [nextD, find_no hf]
  rw [if_neg (by simpa using hc)]
theorem next_wait_no (hf : ∀ j, j < d.wait.length → freeB d j = false) (hc : cycT (waitsR d) = []) : nextD .wait d = none := by
  simp only [nextD, find_no hf]
  rw [if_pos (by rw [hc]; rfl)]
theorem free_eq (hi : d.wait[i]? = some o) : freeB d i = (frstB d.wait i && (wayO d.locks o).isEmpty) := by unfold freeB; rw [hi]
theorem die_eq (hi : d.wait[i]? = some o) : dieB d i = (frstB d.wait i && decide ((wayO d.locks o).headD 0 < o.tx)) := by unfold dieB; rw [hi]
theorem wound_eq (hi : d.wait[i]? = some o) : woundB d i = (frstB d.wait i && decide (o.tx < (wayO d.locks o).getLastD 0)) := by unfold woundB; rw [hi]
theorem way_acc (h : isEnd o = false) (L : List OpV) : wayO L o = inWayI L o.tx o.item o.kind := by unfold wayO; rw [if_neg (by rw [h]; simp)]
theorem way_end (h : isEnd o = true) (L : List OpV) : wayO L o = [] := by unfold wayO; rw [if_pos h]
/-- The first of its transaction that is not free: an access, and some are in its way. -/
theorem blocked (hi : d.wait[i]? = some o) (hf : frstB d.wait i = true) (hn : freeB d i = false) : isEnd o = false ∧ wayO d.locks o = inWayI d.locks o.tx o.item o.kind ∧ wayO d.locks o ≠ [] := by
  have h := way_ne hi hf hn
  cases he : isEnd o
  · exact ⟨rfl, way_acc he _, h⟩
  · exact absurd (way_end he _) h
theorem snoc_no {p : Nat → Bool} {k : Nat} (h : ∀ j, j < k → p j = false) (hk : p k = false) : ∀ j, j < k + 1 → p j = false := fun j hj => by
  by_cases e : j = k
  · subst e; exact hk
  · exact h j (by omega)
end
end Go.Proofs.Ytcakjhappchlmaa
namespace Go.Proofs.Ytcakjhappchlmaa
open Go.RowKit Go.BigFrame
set_option linter.unusedVariables false

set_option maxHeartbeats 400000 in
theorem isIn_any (A : Option Addr) (n c : Nat) (xs : List Int) (x : Int) (w : World) (hx : RInts w A n xs) :
    Calls Try.prog 28 #[.slice A n c, .int .i64 x] w fun e w' => e = .returned (.bool (xs.any fun y => y == x)) ∧ Below w.heap.size w w' := by
  have hn := hx.2.1
  have hl := hx.1
  have HX := Lib.hid hx
  clear hx
  go_enter Try.func28, Try.ntmps28
  go_wp2_with fail
  go_loop [5] (fun i => ∃ k : Nat, k ≤ n ∧ i = .int .i64 k ∧ ((xs.take k).any fun y => y == x) = false) (fun i => n - (intOf i).toNat)
  case atStart => exact ⟨0, Nat.zero_le _, rfl, by simp⟩
  case round =>
    obtain ⟨k, hk, rfl, hno⟩ := hrel
    by_cases hlt : k < n
    · obtain ⟨b, off, y, rfl, hbl, ho, c0⟩ := HX.out.at_ hlt
      have hst : ((xs.take (k + 1)).any fun y => y == x) = ((xs.take k).any (fun y => y == x) || y == x) := by
        rw [List.take_add_one, ho, List.any_append]; simp
      rw [hno, Bool.false_or] at hst
      have HS := Lib.hid hst
      have HM := Lib.hid (List.mem_of_getElem? ho)
      clear hst ho hno
      by_cases h1 : y = x
      · have ht : Hid ((xs.any fun y => y == x) = true) := List.any_eq_true.2 ⟨y, HM.out, by simpa using h1⟩
        go_wp2_with fail
        go_ret
        exact ⟨ret_bool ht.out.symm, Below.refl _ _⟩
      · have h1' : (y == x) = false := by simpa using h1
        go_wp2_with fail
        go_round
        case rel => exact ⟨k + 1, by omega, by go_num, by rw [HS.out]; exact h1'⟩
        case measure => simp [intOf]; omega
    · rw [List.take_of_length_le (by omega)] at hno
      have HN := Lib.hid hno
      clear hno
      go_wp2_with fail
      go_ret
      exact ⟨ret_bool HN.out.symm, Below.refl _ _⟩

theorem eq_of_get {α : Type} {xs ys : List α} (hl : xs.length = ys.length) (h : ∀ j, j < xs.length → xs[j]? = ys[j]?) : xs = ys := by
  apply List.ext_getElem? 
  intro i
  rcases Nat.lt_or_ge i xs.length with h1 | h1
  · exact h i h1
  · rw [List.getElem?_eq_none h1, List.getElem?_eq_none (by omega)]

set_option maxHeartbeats 400000 in
theorem equalInts_any (A B : Option Addr) (n m c d : Nat) (xs ys : List Int) (w : World) (hx : RInts w A n xs) (hy : RInts w B m ys) :
    Calls Try.prog 26 #[.slice A n c, .slice B m d] w fun e w' => e = .returned (.bool (xs == ys)) ∧ Below w.heap.size w w' := by
  have hn := hx.2.1
  have hl := hx.1
  have hm := hy.2.1
  have hly := hy.1
  have HX := Lib.hid hx
  have HY := Lib.hid hy
  clear hx hy
  by_cases hnm : n = m
  · subst hnm
    go_enter Try.func26, Try.ntmps26
    go_wp2_with fail
    go_loopw [5] (fun i wr => ∃ k : Nat, k ≤ n ∧ i = .int .i64 k ∧ Below w.heap.size w wr ∧ ∀ j, j < k → xs[j]? = ys[j]?) (fun i _ => n - (intOf i).toNat)
    case atStart => exact ⟨0, Nat.zero_le _, rfl, Below.refl _ _, by omega⟩
    case round =>
      obtain ⟨k, hk, rfl, hb, hno⟩ := hrel
      by_cases hlt : k < n
      · obtain ⟨b, off, x, rfl, hbl, hox, c0⟩ := (HX.out.below hb (Nat.le_refl _)).at_ hlt
        obtain ⟨b', off', y, rfl, hbl', hoy, d0⟩ := (HY.out.below hb (Nat.le_refl _)).at_ hlt
        have HN : Hid (x = y → ∀ j, j < k + 1 → xs[j]? = ys[j]?) := fun h j hj => by
          by_cases e : j = k
          · subst e; rw [hox, hoy, h]
          · exact hno j (by omega)
        have HT : Hid (¬ x = y → (xs == ys) = false) := fun h => by
          rw [beq_eq_false_iff_ne]
          intro e
          rw [e, hoy] at hox
          injection hox with hox
          exact h hox.symm
        have L0 := Later.cell c0
        have M0 := Later.cell d0
        have hki : (k : Int) < (n : Int) := by omega
        clear hno hox hoy c0 d0
        by_cases h1 : x = y
        · have hs := Lib.hid (HN.out h1)
          subst h1
          go_wp2_with fail
          refine region_later (by kernel_rfl) (by kernel_rfl) ?_
          repeat (go_big_quiet_step (fail))
          refine wpQuiet_nil ?_
          rintro _ ⟨u, rfl⟩
          have hbu := hb.trans (u.2.mono hb.size)
          go_wp2_with fail
          go_roundw
          case rel => exact ⟨k + 1, by omega, by go_num, hbu, hs.out⟩
          case measure => simp [intOf]; omega
        · have hs := Lib.hid (HT.out h1)
          have h1' : (x != y) = true := by simpa using h1
          go_wp2_with fail
          refine region_later (by kernel_rfl) (by kernel_rfl) ?_
          repeat (go_big_quiet_step (fail))
          refine wpQuiet_nil ?_
          rintro _ ⟨u, rfl⟩
          have hbu := hb.trans (u.2.mono hb.size)
          go_wp2_with fail
          go_ret
          exact ⟨ret_bool hs.out.symm, hbu⟩
      · have hs : Hid ((xs == ys) = true) := by
          show _ = _
          rw [beq_iff_eq]
          exact eq_of_get (by omega) (fun j hj => hno j (by omega))
        clear hno
        go_wp2_with fail
        go_ret
        exact ⟨ret_bool hs.out.symm, hb⟩
  · have hs : Hid ((xs == ys) = false) := by
      show _ = _
      rw [beq_eq_false_iff_ne]
      intro e
      rw [e] at hl
      omega
    go_enter Try.func26, Try.ntmps26
    go_wp2_with fail
    go_ret
    exact ⟨ret_bool hs.out.symm, Below.refl _ _⟩

end Go.Proofs.Ytcakjhappchlmaa
namespace Go.Proofs.Ytcakjhappchlmaa
open Go.RowKit
set_option linter.unusedVariables false

theorem op_struct : Try.prog.underlying 92 = some (.struct (Try.prog.fieldsOf 92)) := by kernel_rfl
theorem op_held : Try.prog.stoodInHeld 92 = false := by kernel_rfl
theorem op_guard : Try.prog.eqGuardType Try.prog.depth 92 = false := by kernel_rfl

theorem eql_op (w : World) (a b c a' b' c' : Int) :
    (binOp .eql 92 (.agg #[.int .i64 a, .int .i64 b, .int .i64 c]) (.agg #[.int .i64 a', .int .i64 b', .int .i64 c'])).run Try.prog w = .ok (.bool (a == a' && b == b' && c == c')) w := by
  rw [run_eql_struct, show (10000 : Nat) = 9999 + 1 from rfl, run_equalIn_agg w 9999 92 _ _ op_struct op_held]
  cases h1 : (a == a') <;> cases h2 : (b == b') <;> cases h3 : (c == c') <;> simp [go_sem, Try.underlying92, h1, h2, h3]
end Go.Proofs.Ytcakjhappchlmaa
namespace Go.Proofs.Ytcakjhappchlmaa
open Go.RowKit Go.BigFrame
set_option linter.unusedVariables false

def isAt (s : List OpV) (k : Nat) (t : Int) : Bool := match s[k]? with | some o => o.tx == t | none => false
def firstTo (s : List OpV) (t : Int) : Nat → Int
  | 0 => -1
  | k + 1 => if firstTo s t k < 0 ∧ isAt s k t = true then (k : Int) else firstTo s t k
def lastTo (s : List OpV) (t : Int) : Nat → Int
  | 0 => -1
  | k + 1 => if isAt s k t = true then (k : Int) else lastTo s t k
def firstI (s : List OpV) (t : Int) : Int := firstTo s t s.length
def lastI (s : List OpV) (t : Int) : Int := lastTo s t s.length
theorem firstTo_ge (s : List OpV) (t : Int) (k : Nat) : -1 ≤ firstTo s t k ∧ firstTo s t k ≤ k := by
  induction k with
  | zero => simp [firstTo]
  | succ k ih => simp only [firstTo]; split <;> omega

/-- The place of an operation in a list, -1 if it is not there. -/
def idxTo (s : List OpV) (q : OpV) (k : Nat) : Prop := ∀ j, j < k → ∀ o, s[j]? = some o → (o == q) = false
def idxI (s : List OpV) (q : OpV) : Int := if s.any (fun o => o == q) then (s.findIdx (fun o => o == q) : Int) else -1
theorem idxI_hit {s : List OpV} {q o : OpV} {k : Nat} (ho : s[k]? = some o) (h : (o == q) = true) (hno : ∀ j, j < k → ∀ o, s[j]? = some o → (o == q) = false) : idxI s q = (k : Int) := by
  obtain ⟨hk, he⟩ := List.getElem?_eq_some_iff.1 ho
  have h1 : s.any (fun o => o == q) = true := List.any_eq_true.2 ⟨o, List.mem_of_getElem? ho, h⟩
  have h2 : s.findIdx (fun o => o == q) = k := by
    rw [List.findIdx_eq hk]
    exact ⟨by rw [he]; exact h, fun j hj => by have := hno j hj _ (List.getElem?_eq_getElem (by omega)); exact this⟩
  unfold idxI
  rw [h1, h2]; rfl
theorem idxI_none {s : List OpV} {q : OpV} (hno : ∀ j, j < s.length → ∀ o, s[j]? = some o → (o == q) = false) : idxI s q = -1 := by
  unfold idxI
  rw [find_none_all hno]; rfl

theorem beq_op (a b c a' b' c' : Int) : (a == a' && b == b' && c == c') = ((⟨a', b', c'⟩ : OpV) == ⟨a, b, c⟩) := by
  rw [Bool.eq_iff_iff]
  simp only [Bool.and_eq_true, beq_iff_eq, OpV.mk.injEq]
  constructor
  · rintro ⟨⟨rfl, rfl⟩, rfl⟩; exact ⟨rfl, rfl, rfl⟩
  · rintro ⟨rfl, rfl, rfl⟩; exact ⟨⟨rfl, rfl⟩, rfl⟩

end Go.Proofs.Ytcakjhappchlmaa
namespace Go.Proofs.Ytcakjhappchlmaa
open Go.RowKit Go.BigFrame
set_option linter.unusedVariables false

theorem neq_op (w : World) (a b c a' b' c' : Int) :
    (binOp .neq 92 (.agg #[.int .i64 a, .int .i64 b, .int .i64 c]) (.agg #[.int .i64 a', .int .i64 b', .int .i64 c'])).run Try.prog w = .ok (.bool (!(a == a' && b == b' && c == c'))) w := by
  rw [run_neq_struct, show (10000 : Nat) = 9999 + 1 from rfl, run_equalIn_agg w 9999 92 _ _ op_struct op_held]
  cases h1 : (a == a') <;> cases h2 : (b == b') <;> cases h3 : (c == c') <;> simp [go_sem, Try.underlying92, h1, h2, h3]
set_option maxRecDepth 100000 in
set_option maxHeartbeats 1000000 in
theorem equalOps_any (A B : Option Addr) (n m c d : Nat) (xs ys : List OpV) (w : World) (hx : ROps w A n xs) (hy : ROps w B m ys) :
    Calls Try.prog 32 #[.slice A n c, .slice B m d] w fun e w' => e = .returned (.bool (xs == ys)) ∧ Below w.heap.size w w' := by
  have hn := hx.2.1
  have hl := hx.1
  have hm := hy.2.1
  have hly := hy.1
  have HX := Lib.hid hx
  have HY := Lib.hid hy
  clear hx hy
  by_cases hnm : n = m
  · subst hnm
    go_enter Try.func32, Try.ntmps32
    go_wp2_with fail
    go_loopw [5] (fun i wr => ∃ k : Nat, k ≤ n ∧ i = .int .i64 k ∧ Below w.heap.size w wr ∧ ∀ j, j < k → xs[j]? = ys[j]?) (fun i _ => n - (intOf i).toNat)
    case atStart => exact ⟨0, Nat.zero_le _, rfl, Below.refl _ _, by omega⟩
    case round =>
      obtain ⟨k, hk, rfl, hb, hno⟩ := hrel
      by_cases hlt : k < n
      · obtain ⟨b, off, x, rfl, hbl, hox, c0, c1, c2⟩ := (HX.out.below hb (Nat.le_refl _)).at_ hlt
        obtain ⟨b', off', y, rfl, hbl', hoy, d0, d1, d2⟩ := (HY.out.below hb (Nat.le_refl _)).at_ hlt
        have HN : Hid (x = y → ∀ j, j < k + 1 → xs[j]? = ys[j]?) := fun h j hj => by
          by_cases e : j = k
          · subst e; rw [hox, hoy, h]
          · exact hno j (by omega)
        have HT : Hid (¬ x = y → (xs == ys) = false) := fun h => by
          rw [beq_eq_false_iff_ne]
          intro e
          rw [e, hoy] at hox
          injection hox with hox
          exact h hox.symm
        have L0 := Later.cell c0
        have L1 := Later.cell c1
        have L2 := Later.cell c2
        have M0 := Later.cell d0
        have M1 := Later.cell d1
        have M2 := Later.cell d2
        have hki : (k : Int) < (n : Int) := by omega
        obtain ⟨bb, hbb⟩ : ∃ bb, (y == x) = bb := ⟨_, rfl⟩
        have HB := Lib.hid hbb
        obtain ⟨x0, x1, x2⟩ := x
        obtain ⟨y0, y1, y2⟩ := y
        simp only at L0 L1 L2 M0 M1 M2
        have hbq := beq_op x0 x1 x2 y0 y1 y2
        rw [hbb] at hbq
        have hne : ∀ w : World, (binOp .neq 92 (.agg #[.int .i64 x0, .int .i64 x1, .int .i64 x2]) (.agg #[.int .i64 y0, .int .i64 y1, .int .i64 y2])).run Try.prog w = .ok (.bool (!bb)) w := fun w => by
          rw [neq_op, hbq]
        have hgd := op_guard
        clear hno hox hoy c0 c1 c2 d0 d1 d2 hbb hbq
        cases bb
        · simp only [Bool.not_false] at hne
          have hs := Lib.hid (HT.out (fun e => by have := HB.out; rw [beq_eq_false_iff_ne] at this; exact this e.symm))
          go_wp2_with fail
          refine region_later (by kernel_rfl) (by kernel_rfl) ?_
          repeat (go_big_quiet_step (fail))
          refine wpQuiet_nil ?_
          rintro _ ⟨u, rfl⟩
          have hbu := hb.trans (u.2.mono hb.size)
          go_wp2_with fail
          go_ret
          exact ⟨ret_bool hs.out.symm, hbu⟩
        · simp only [Bool.not_true] at hne
          have hs := Lib.hid (HN.out (by have := HB.out; rw [beq_iff_eq] at this; exact this.symm))
          go_wp2_with fail
          refine region_later (by kernel_rfl) (by kernel_rfl) ?_
          repeat (go_big_quiet_step (fail))
          refine wpQuiet_nil ?_
          rintro _ ⟨u, rfl⟩
          have hbu := hb.trans (u.2.mono hb.size)
          go_wp2_with fail
          go_roundw
          case rel => exact ⟨k + 1, by omega, by go_num, hbu, hs.out⟩
          case measure => simp [intOf]; omega
      · have hs : Hid ((xs == ys) = true) := by
          show _ = _
          rw [beq_iff_eq]
          exact eq_of_get (by omega) (fun j hj => hno j (by omega))
        clear hno
        go_wp2_with fail
        go_ret
        exact ⟨ret_bool hs.out.symm, hb⟩
  · have hs : Hid ((xs == ys) = false) := by
      show _ = _
      rw [beq_eq_false_iff_ne]
      intro e
      rw [e] at hl
      omega
    go_enter Try.func32, Try.ntmps32
    go_wp2_with fail
    go_ret
    exact ⟨ret_bool hs.out.symm, Below.refl _ _⟩

end Go.Proofs.Ytcakjhappchlmaa
