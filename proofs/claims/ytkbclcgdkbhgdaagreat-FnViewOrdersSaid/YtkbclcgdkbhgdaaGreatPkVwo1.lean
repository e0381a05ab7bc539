/-
  The texts that the proof rests on, joined: part 1.
-/
import Derived.Test.YtkbclcgdkbhgdaaGreatRows
import Derived.WalkKit
import Derived.WalkSpells
import Derived.WalkLawsBesides
import Derived.BigQuiet
import Derived.Deep.QuietTactic
import Derived.Deep.DrawnRows
import Derived.Lib.Hide
import Derived.ProofKit
import Derived.OpenShut
import Derived.ShutString
import Derived.ChangeOld
import Derived.Below
import Derived.Deep.Slices
import Derived.ChangeSame
import Derived.Maps.AppendAt
import Derived.Deep.AppendLies
import Derived.Deep.MidRow
import Derived.Lib.SliceRun
import Derived.Deep.LoopGhost
import Derived.RangeFuncNested
import Derived.RangeFuncBound
import Derived.RangeFuncCalls
import Derived.RangeFuncLeaves
import Derived.Shelf.Abstract
import Derived.Shelf.RegionOpen
import Derived.OwnWalkIn
import Derived.TacticsInMore
import Derived.LoopNIn
import Derived.LoopIn
import Derived.Stop.RegionWithIn
import Derived.Laws.EntriesVeiled
namespace Go.Proofs.YtkbclcgdkbhgdaaGreat
open Go.RowKit
set_option linter.unusedVariables false

theorem ret_bool {a b : Bool} (h : a = b) : Ending.returned (.bool a) = .returned (.bool b) := by rw [h]
theorem ret_int {k : IntKind} {a b : Int} (h : a = b) : Ending.returned (.int k a) = .returned (.int k b) := by rw [h]

theorem bcell {W w1 : World} (hb : Below W.heap.size W w1) : (∀ b o, b < W.heap.size → w1.cell? ⟨b, o, none⟩ = W.cell? ⟨b, o, none⟩) ∧ (∀ b o, b < W.heap.size → w1.frozen? ⟨b, o, none⟩ = W.frozen? ⟨b, o, none⟩) :=
  ⟨fun b o h => hb.cell (p := ⟨b, o, none⟩) h, fun b o h => hb.frozen (p := ⟨b, o, none⟩) h⟩

theorem B_alloc {B : Nat} {w v : World} (h : Below B w v) (hB : B ≤ w.heap.size) (o : Obj) : Below B w (v.alloc o) := h.alloc (Nat.le_trans hB h.size) o
theorem B_after {w v v' : World} (h : Below v.heap.size v v') (h0 : Below w.heap.size w v) : Below w.heap.size w v' := h0.trans (h.mono h0.size)
theorem B_set {w v : World} {b o : Nat} {u : Value} (h : Below w.heap.size w v) (hb : w.heap.size ≤ b) : Below w.heap.size w (v.setCell ⟨b, o, none⟩ u) := h.setCell (by simpa using hb) u
theorem B_drewN {B : Nat} {w v : World} (h : Below B w v) (n : Nat) : Below B w (v.drewN n) := ⟨h.os, h.tape, h.output, h.size, h.block⟩

/-- An operation, or a step: three integers. -/
structure OpV where
  tx : Int
  kind : Int
  item : Int
  deriving DecidableEq

def OpV.zero : OpV := ⟨0, 0, 0⟩
def OpV.val (o : OpV) : Value := .agg #[.int .i64 o.tx, .int .i64 o.kind, .int .i64 o.item]
def OpV.cells (o : OpV) : List Value := [.int .i64 o.tx, .int .i64 o.kind, .int .i64 o.item]
def opCells : List OpV → List Value
  | [] => []
  | o :: r => .int .i64 o.tx :: .int .i64 o.kind :: .int .i64 o.item :: opCells r
def intCells (xs : List Int) : List Value := xs.map (Value.int .i64)

theorem opCells_append (a b : List OpV) : opCells (a ++ b) = opCells a ++ opCells b := by
  induction a with
  | nil => rfl
  | cons o r ih => simp [opCells, ih]
theorem length_opCells (a : List OpV) : (opCells a).length = a.length * 3 := by
  induction a with
  | nil => rfl
  | cons o r ih => simp [opCells, ih]; omega
theorem opCells_at (xs : List OpV) : ∀ (i : Nat) (o : OpV), xs[i]? = some o →
    (opCells xs)[i * 3]? = some (.int .i64 o.tx) ∧ (opCells xs)[i * 3 + 1]? = some (.int .i64 o.kind) ∧ (opCells xs)[i * 3 + 2]? = some (.int .i64 o.item) := by
  induction xs with
  | nil => intro i o h; simp at h
  | cons x r ih =>
    intro i o h
    cases i with
    | zero => simp at h; subst h; simp [opCells]
    | succ i =>
      have h' : r[i]? = some o := by simpa using h
      obtain ⟨h0, h1, h2⟩ := ih i o h'
      have e : (i + 1) * 3 = i * 3 + 3 := by omega
      refine ⟨?_, ?_, ?_⟩
      · rw [e]; simpa [opCells] using h0
      · rw [e]; simpa [opCells] using h1
      · rw [e]; simpa [opCells] using h2
theorem opCells_one (xs : List OpV) : ∀ u ∈ opCells xs, u.oneCell' = true := by
  induction xs with
  | nil => simp [opCells]
  | cons x r ih =>
    intro u hu
    simp only [opCells, List.mem_cons] at hu
    rcases hu with rfl | rfl | rfl | hu
    · rfl
    · rfl
    · rfl
    · exact ih u hu
theorem intCells_one (xs : List Int) : ∀ u ∈ intCells xs, u.oneCell' = true := by
  intro u hu
  simp only [intCells, List.mem_map] at hu
  obtain ⟨x, _, rfl⟩ := hu
  rfl

/-- The slice value with address A and length n reads as the triples xs; its cells lie in blocks that are there. -/
def ROps (w : World) (A : Option Addr) (n : Nat) (xs : List OpV) : Prop :=
  xs.length = n ∧ n ≤ 1099511627776 ∧ (0 < n → ∃ b off, A = some ⟨b, off, none⟩ ∧ b < w.heap.size ∧ ∀ i o, xs[i]? = some o →
    w.cell? ⟨b, off + i * 3, none⟩ = some (.int .i64 o.tx) ∧ w.cell? ⟨b, off + i * 3 + 1, none⟩ = some (.int .i64 o.kind) ∧ w.cell? ⟨b, off + i * 3 + 2, none⟩ = some (.int .i64 o.item))

/-- The same for integers. -/
def RInts (w : World) (A : Option Addr) (n : Nat) (xs : List Int) : Prop :=
  xs.length = n ∧ n ≤ 1099511627776 ∧ (0 < n → ∃ b off, A = some ⟨b, off, none⟩ ∧ b < w.heap.size ∧ ∀ i x, xs[i]? = some x →
    w.cell? ⟨b, off + i, none⟩ = some (.int .i64 x))

/-- The same for bytes: only their range is kept. -/
def RBytes (w : World) (A : Option Addr) (n : Nat) : Prop :=
  n ≤ 9223372036854775807 ∧ (0 < n → ∃ b off, A = some ⟨b, off, none⟩ ∧ b < w.heap.size ∧ ∀ i, i < n → ∃ x : Int, 0 ≤ x ∧ x ≤ 255 ∧ w.cell? ⟨b, off + i, none⟩ = some (.int .u8 x))

section
variable {w w' : World} {A : Option Addr} {n : Nat}
theorem ROps.nil {w : World} {A : Option Addr} : ROps w A 0 [] := ⟨rfl, by omega, fun h => absurd h (by omega)⟩
theorem RInts.nil {w : World} {A : Option Addr} : RInts w A 0 [] := ⟨rfl, by omega, fun h => absurd h (by omega)⟩
theorem ROps.below {xs : List OpV} (h : ROps w A n xs) {B : Nat} (hb : Below B w w') (hB : w.heap.size ≤ B) : ROps w' A n xs := by
  obtain ⟨h1, h2, h3⟩ := h
  refine ⟨h1, h2, fun hn => ?_⟩
  obtain ⟨b, off, hA, hlt, hc⟩ := h3 hn
  have hs := hb.size
  refine ⟨b, off, hA, by omega, fun i o ho => ?_⟩
  obtain ⟨c0, c1, c2⟩ := hc i o ho
  exact ⟨(hb.cell (p := ⟨b, _, none⟩) (by simp; omega)).trans c0, (hb.cell (p := ⟨b, _, none⟩) (by simp; omega)).trans c1, (hb.cell (p := ⟨b, _, none⟩) (by simp; omega)).trans c2⟩
theorem RInts.below {xs : List Int} (h : RInts w A n xs) {B : Nat} (hb : Below B w w') (hB : w.heap.size ≤ B) : RInts w' A n xs := by
  obtain ⟨h1, h2, h3⟩ := h
  refine ⟨h1, h2, fun hn => ?_⟩
  obtain ⟨b, off, hA, hlt, hc⟩ := h3 hn
  have hs := hb.size
  exact ⟨b, off, hA, by omega, fun i o ho => (hb.cell (p := ⟨b, _, none⟩) (by simp; omega)).trans (hc i o ho)⟩
/-- One element and its three cells. -/
theorem ROps.at_ {xs : List OpV} (h : ROps w A n xs) {k : Nat} (hk : k < n) : ∃ b off o, A = some ⟨b, off, none⟩ ∧ b < w.heap.size ∧ xs[k]? = some o ∧
    w.cell? ⟨b, off + k * 3, none⟩ = some (.int .i64 o.tx) ∧ w.cell? ⟨b, off + k * 3 + 1, none⟩ = some (.int .i64 o.kind) ∧ w.cell? ⟨b, off + k * 3 + 2, none⟩ = some (.int .i64 o.item) := by
  obtain ⟨h1, h2, h3⟩ := h
  obtain ⟨b, off, hA, hlt, hc⟩ := h3 (by omega)
  have e : xs[k]? = some (xs[k]'(by omega)) := List.getElem?_eq_getElem (by omega)
  exact ⟨b, off, _, hA, hlt, e, hc k _ e⟩
theorem RInts.at_ {xs : List Int} (h : RInts w A n xs) {k : Nat} (hk : k < n) : ∃ b off x, A = some ⟨b, off, none⟩ ∧ b < w.heap.size ∧ xs[k]? = some x ∧
    w.cell? ⟨b, off + k, none⟩ = some (.int .i64 x) := by
  obtain ⟨h1, h2, h3⟩ := h
  obtain ⟨b, off, hA, hlt, hc⟩ := h3 (by omega)
  have e : xs[k]? = some (xs[k]'(by omega)) := List.getElem?_eq_getElem (by omega)
  exact ⟨b, off, _, hA, hlt, e, hc k _ e⟩
/-- The first k of them. -/
theorem ROps.take {xs : List OpV} (h : ROps w A n xs) {k : Nat} (hk : k ≤ n) : ROps w A k (xs.take k) := by
  obtain ⟨h1, h2, h3⟩ := h
  refine ⟨by simp; omega, by omega, fun hn => ?_⟩
  obtain ⟨b, off, hA, hlt, hc⟩ := h3 (by omega)
  refine ⟨b, off, hA, hlt, fun i o ho => hc i o ?_⟩
  rw [List.getElem?_take] at ho
  split at ho
  · exact ho
  · cases ho
theorem RInts.take {xs : List Int} (h : RInts w A n xs) {k : Nat} (hk : k ≤ n) : RInts w A k (xs.take k) := by
  obtain ⟨h1, h2, h3⟩ := h
  refine ⟨by simp; omega, by omega, fun hn => ?_⟩
  obtain ⟨b, off, hA, hlt, hc⟩ := h3 (by omega)
  refine ⟨b, off, hA, hlt, fun i o ho => hc i o ?_⟩
  rw [List.getElem?_take] at ho
  split at ho
  · exact ho
  · cases ho
end

/-- What the call owns reads as its list. -/
theorem ROps.of_own {w : World} {base : Nat} {e : TypeId} {c n : Nat} {A : Option Addr} {xs : List OpV} (h : w.ownsRow base e 3 (.slice A n c) n (opCells xs)) (hn : n ≤ 1099511627776) : ROps w A n xs := by
  have hl := h.1
  rw [length_opCells] at hl
  refine ⟨by omega, hn, fun h0 => ?_⟩
  rcases h.2 with ⟨h1, h2⟩ | ⟨g, cap, cur, h1, h2, h3, h4, h5, h6, h7⟩
  · omega
  · injection h1 with hA _ _
    subst hA
    have hg : g < w.heap.size := lt_of_block h3
    refine ⟨g, 0, rfl, hg, fun i o ho => ?_⟩
    have hc : ∀ j u, (opCells xs)[j]? = some u → w.cell? ⟨g, 0 + j, none⟩ = some u := fun j u hu => by
      have := h.cells (g := g) rfl j u hu
      unfold Addr.add at this
      split at this
      · subst_vars; simpa using this
      · simpa using this
    obtain ⟨c0, c1, c2⟩ := opCells_at xs i o ho
    exact ⟨by simpa using hc _ _ c0, by simpa [Nat.add_assoc] using hc _ _ c1, by simpa [Nat.add_assoc] using hc _ _ c2⟩
theorem RInts.of_own {w : World} {base : Nat} {e : TypeId} {c n : Nat} {A : Option Addr} {xs : List Int} (h : w.ownsRow base e 1 (.slice A n c) n (intCells xs)) (hn : n ≤ 1099511627776) : RInts w A n xs := by
  have hl := h.1
  simp only [intCells, List.length_map] at hl
  refine ⟨by omega, hn, fun h0 => ?_⟩
  rcases h.2 with ⟨h1, h2⟩ | ⟨g, cap, cur, h1, h2, h3, h4, h5, h6, h7⟩
  · omega
  · injection h1 with hA _ _
    subst hA
    have hg : g < w.heap.size := lt_of_block h3
    refine ⟨g, 0, rfl, hg, fun i x hx => ?_⟩
    have := h.cells (g := g) rfl i (.int .i64 x) (by simp [intCells, hx])
    unfold Addr.add at this
    split at this
    · subst_vars; simpa using this
    · simpa using this

#print axioms ROps.of_own
end Go.Proofs.YtkbclcgdkbhgdaaGreat
namespace Go.Proofs.YtkbclcgdkbhgdaaGreat
open Go.RowKit Go.ChangeShapes Go.WideShapes
set_option linter.unusedVariables false

theorem spot_none {w : World} {a : Addr} {v : Value} (h : w.cell? (a.add 0) = some v) : a.spot = none := by
  obtain ⟨b, off, sp⟩ := a
  cases sp with
  | none => rfl
  | some q => simp [Addr.add, World.cell?] at h; split at h <;> simp_all
theorem add_flat (b off i : Nat) : (⟨b, off, none⟩ : Addr).add i = ⟨b, off + i, none⟩ := by
  unfold Addr.add
  split
  · subst_vars; rfl
  · rfl

theorem open_triples {H : Type} {enc : TypeId × Value → H} {P : Program} {w : World} {base : Nat} {spare : Nat → Bool} {held : Bool} {t e : TypeId} {f0 f1 f2 : Field} {fuel len cap : Nat} {a : Option Addr} {x : DataW H × List MemPlace}
    (ht : P.underlying t = some (.slice e)) (he : P.underlying e = some (.struct #[f0, f1, f2])) (ce : P.cellsOf e = 3) (o0 : f0.offset = 0) (o1 : f1.offset = 1) (o2 : f2.offset = 2)
    (c0 : P.cellsOf f0.type = 1) (c1 : P.cellsOf f1.type = 1) (c2 : P.cellsOf f2.type = 1) (t0 : P.underlying f0.type = some (.int .i64)) (t1 : P.underlying f1.type = some (.int .i64)) (t2 : P.underlying f2.type = some (.int .i64))
    (h : DataW.trod enc P w base spare held fuel t [.slice a len cap] = some x) : len ≤ cap ∧ cap ≤ maxLen ∧ (len ≤ 1099511627776 → ∃ xs, ROps w a len xs) := by
  rcases Deep.open_slice ht h with ⟨h0, _⟩ | ⟨a', len', cap', m, n, D, Pl, hcs, hb, hl, hm, hmm, _, hx⟩
  · injection h0 with h0 _
    injection h0 with h1 h2 h3
    subst h1; subst h2; subst h3
    exact ⟨Nat.le_refl _, Nat.zero_le _, fun _ => ⟨[], ROps.nil⟩⟩
  · injection hcs with hcs _
    injection hcs with h1 h2 h3
    subst h1; subst h2; subst h3
    refine ⟨hl, hm, fun hlen => ?_⟩
    have hlm : len ≤ m := by rw [hmm]; split <;> omega
    have each : ∀ i, i < len → ∃ o : OpV, w.cell? (a'.add (i * 3)) = some (.int .i64 o.tx) ∧ w.cell? (a'.add (i * 3 + 1)) = some (.int .i64 o.kind) ∧ w.cell? (a'.add (i * 3 + 2)) = some (.int .i64 o.item) := by
      intro i hi
      obtain ⟨cs', g1, g2⟩ := hx i (by omega)
      rw [ce] at g1
      obtain ⟨_, hlen', hcell⟩ := World.cells?_some g1
      obtain ⟨xs, k, hk, hxy, _, hxl, hf⟩ := DataW.trod_struct he g2
      match xs, hxl, cs', hlen' with
      | [y0, y1, y2], _, [v0, v1, v2], _ =>
        have q0 := hf 0 f0 rfl
        have q1 := hf 1 f1 rfl
        have q2 := hf 2 f2 rfl
        simp [o0, o1, o2, c0, c1, c2] at q0 q1 q2
        obtain ⟨z0, e0, _, _⟩ := DataW.trod_int t0 q0
        obtain ⟨z1, e1, _, _⟩ := DataW.trod_int t1 q1
        obtain ⟨z2, e2, _, _⟩ := DataW.trod_int t2 q2
        have k0 := hcell 0 (by omega)
        have k1 := hcell 1 (by omega)
        have k2 := hcell 2 (by omega)
        rw [Go.Deep.add_add] at k0 k1 k2
        injection e0 with e0 _
        injection e1 with e1 _
        injection e2 with e2 _
        subst e0; subst e1; subst e2
        exact ⟨⟨z0, z1, z2⟩, by simpa using k0, by simpa using k1, by simpa using k2⟩
    refine ⟨(List.range len).map fun i => if h : i < len then (each i h).choose else OpV.zero, by simp, hlen, fun hpos => ?_⟩
    obtain ⟨p0, hp0, _⟩ := each 0 hpos
    have hsp := spot_none (by simpa using hp0)
    obtain ⟨b, off, sp⟩ := a'
    simp only at hsp
    subst hsp
    rw [add_flat] at hp0
    refine ⟨b, off, rfl, block_lt_of_cell hp0, fun i o ho => ?_⟩
    rw [List.getElem?_map] at ho
    have hil : i < len := by
      rcases Nat.lt_or_ge i len with h | h
      · exact h
      · rw [List.getElem?_eq_none (by simpa using h)] at ho; cases ho
    rw [List.getElem?_range hil] at ho
    simp only [Option.map_some, hil, dif_pos, Option.some.injEq] at ho
    have := (each i hil).choose_spec
    rw [ho, add_flat, add_flat, add_flat] at this
    simpa [Nat.add_assoc] using this

/-- A slice of bytes that came in. -/
def BytesIn (w : World) (A : Option Addr) (n c : Nat) : Prop := RBytes w A n ∧ n ≤ c
/-- A slice of operations that came in, or of integers. -/
def OpsIn (w : World) (A : Option Addr) (n c : Nat) : Prop := n ≤ c ∧ c ≤ maxLen ∧ (n ≤ 1099511627776 → ∃ xs, ROps w A n xs)
def IntsIn (w : World) (A : Option Addr) (n c : Nat) : Prop := n ≤ c ∧ c ≤ maxLen ∧ (n ≤ 1099511627776 → ∃ xs, RInts w A n xs ∧ ∀ x ∈ xs, (Lit.int .i64 x).wf = true)
def IntIn (z : Int) : Prop := -9223372036854775808 ≤ z ∧ z ≤ 9223372036854775807

theorem open_bytes {H : Type} {enc : TypeId × Value → H} {w : World} {base : Nat} {spare : Nat → Bool} {held : Bool} {t e : TypeId} {len cap : Nat} {a : Option Addr} {d : DataW H} {p : List MemPlace}
    (ht : Tryz.prog.underlying t = some (.slice e)) (he : Tryz.prog.underlying e = some (.int .u8)) (hc : Tryz.prog.cellsOf e = 1) (h : DataW.Trod enc Tryz.prog w base spare held t (.slice a len cap) d p) : BytesIn w a len cap := by
  obtain ⟨fuel, hf⟩ := h
  rcases open_ints ht he hc hf with ⟨hcs, _⟩ | ⟨x, l, c, zs, hcs, _, hl, hm, hz, _, hcell, hwz⟩
  · simp [Value.cells] at hcs
    obtain ⟨rfl, rfl, rfl⟩ := hcs
    exact ⟨⟨by omega, fun h => absurd h (by omega)⟩, Nat.le_refl _⟩
  · simp [Value.cells] at hcs
    obtain ⟨rfl, rfl, rfl⟩ := hcs
    have hlz : len ≤ zs.length := by rw [hz]; split <;> omega
    unfold maxLen at hm
    refine ⟨⟨by omega, fun h0 => ?_⟩, hl⟩
    have hsp := spot_none (hcell 0 (by omega))
    obtain ⟨b, off, sp⟩ := x
    simp only at hsp
    subst hsp
    have h1 := hcell 0 (by omega)
    rw [add_flat] at h1
    refine ⟨b, off, rfl, block_lt_of_cell h1, fun i hi => ?_⟩
    have h2 := hcell i (by omega)
    have h3 := hwz (zs.getD i 0) (by rw [List.getD_eq_getElem?_getD, List.getElem?_eq_getElem (by omega)]; exact List.getElem_mem _)
    refine ⟨zs.getD i 0, ?_, ?_, ?_⟩
    · have := h3; simp [Lit.wf, IntKind.min, IntKind.max, IntKind.signed, IntKind.bits] at this; simpa using this.1
    · have := h3; simp [Lit.wf, IntKind.min, IntKind.max, IntKind.signed, IntKind.bits] at this; simp; omega
    · rw [add_flat] at h2; exact h2
theorem open_i64s {H : Type} {enc : TypeId × Value → H} {w : World} {base : Nat} {spare : Nat → Bool} {held : Bool} {t e : TypeId} {len cap : Nat} {a : Option Addr} {d : DataW H} {p : List MemPlace}
    (ht : Tryz.prog.underlying t = some (.slice e)) (he : Tryz.prog.underlying e = some (.int .i64)) (hc : Tryz.prog.cellsOf e = 1) (h : DataW.Trod enc Tryz.prog w base spare held t (.slice a len cap) d p) : IntsIn w a len cap := by
  obtain ⟨fuel, hf⟩ := h
  rcases open_ints ht he hc hf with ⟨hcs, _⟩ | ⟨x, l, c, zs, hcs, _, hl, hm, hz, _, hcell, hwz⟩
  · simp [Value.cells] at hcs
    obtain ⟨rfl, rfl, rfl⟩ := hcs
    exact ⟨Nat.le_refl _, Nat.zero_le _, fun _ => ⟨[], RInts.nil, by simp⟩⟩
  · simp [Value.cells] at hcs
    obtain ⟨rfl, rfl, rfl⟩ := hcs
    have hlz : len ≤ zs.length := by rw [hz]; split <;> omega
    refine ⟨hl, hm, fun hn => ⟨zs.take len, ⟨by simp; omega, hn, fun h0 => ?_⟩, fun x hx => hwz x (List.mem_of_mem_take hx)⟩⟩
    have hsp := spot_none (hcell 0 (by omega))
    obtain ⟨b, off, sp⟩ := x
    simp only at hsp
    subst hsp
    have h1 := hcell 0 (by omega)
    rw [add_flat] at h1
    refine ⟨b, off, rfl, block_lt_of_cell h1, fun i x hx => ?_⟩
    rw [List.getElem?_take] at hx
    split at hx
    · have h2 := hcell i (by omega)
      rw [add_flat] at h2
      rw [h2, List.getD_eq_getElem?_getD, hx]; rfl
    · cases hx
theorem wf_i64 {z : Int} (h : (Lit.int .i64 z).wf = true) : IntIn z := by
  simp [Lit.wf, IntKind.min, IntKind.max, IntKind.signed, IntKind.bits] at h
  exact ⟨by omega, by omega⟩
theorem and2 {a b : Bool} (ha : a = true) (hb : b = true) : (a && b) = true := by rw [ha, hb]; rfl
theorem andL {a b : Bool} (h : (a && b) = true) : a = true := by cases a <;> simp_all
theorem andR {a b : Bool} (h : (a && b) = true) : b = true := by cases b <;> simp_all
end Go.Proofs.YtkbclcgdkbhgdaaGreat
namespace Go.Proofs.YtkbclcgdkbhgdaaGreat
open Go.RowKit Go.BigFrame
set_option linter.unusedVariables false

/-- The worlds that a world may have become: below its size nothing has changed. -/
def Later (W : World) : Type := {u : World // Below W.heap.size W u}
instance (W : World) : Nonempty (Later W) := ⟨⟨W, Below.refl _ _⟩⟩
theorem Later.cell {W : World} {b o : Nat} {v : Value} (h : W.cell? ⟨b, o, none⟩ = some v) : ∀ u : Later W, u.1.cell? ⟨b, o, none⟩ = some v := fun u =>
  (u.2.cell (p := ⟨b, o, none⟩) (block_lt_of_cell h)).trans h
theorem Later.below_ {W : World} {B : Nat} (u : Later W) (h : B ≤ W.heap.size) : Below B W u.1 := u.2.mono h
theorem Later.size {W : World} (u : Later W) : W.heap.size ≤ u.1.heap.size := u.2.size

section
variable {P : Program}
theorem region_later {id : Nat} {Q : Exit → Act → World → Prop} {a : Act} {w : World} {l : List Oper} (hm : P.follows .mixedOrders = true) (hB : Region.lexB .any l.toArray = true)
    (h : wpQuiet P l.toArray (fun w' => ∃ u : Later w, w' = u.1) (fun a' => ∀ w', (∃ u : Later w, w' = u.1) → Q .normal a' w') l a) : (Code.region id l.toArray true).wp P Q a w :=
  wp_region_quiet (C := fun w' => ∃ u : Later w, w' = u.1) hm hB ⟨⟨w.drew, (Below.refl _ _).drew⟩, rfl⟩ (by simpa using h)

/-- A call that hands back v and makes memory. -/
theorem later_call {f : FuncId} {args : Array Value} {W : World} {v : Value} (u : Later W) (h : Calls P f args u.1 fun e w' => e = .returned v ∧ Below u.1.heap.size u.1 w') :
    Calls P f args u.1 fun e w' => e = .returned v ∧ ∃ u' : Later W, w' = u'.1 :=
  h.mono fun _ _ ⟨he, hb⟩ => ⟨he, ⟨_, u.2.trans (hb.mono u.2.size)⟩, rfl⟩
theorem later_same {f : FuncId} {args : Array Value} {W : World} {v : Value} (u : Later W) (h : Calls P f args u.1 fun e w' => e = .returned v ∧ u.1 = w') :
    Calls P f args u.1 fun e w' => e = .returned v ∧ ∃ u' : Later W, w' = u'.1 :=
  h.mono fun _ _ ⟨he, hb⟩ => ⟨he, u, hb.symm⟩
theorem ROps.later {W : World} {A : Option Addr} {n : Nat} {xs : List OpV} (h : ROps W A n xs) (u : Later W) : ROps u.1 A n xs := h.below u.2 (Nat.le_refl _)
theorem RInts.later {W : World} {A : Option Addr} {n : Nat} {xs : List Int} (h : RInts W A n xs) (u : Later W) : RInts u.1 A n xs := h.below u.2 (Nat.le_refl _)
end

theorem box_at (w : World) (cs : Array Value) (T : TypeId) (i : Nat) (v : Value) (h : cs[i]? = some v) : (w.alloc (.cells cs T)).cell? ⟨w.heap.size, i, none⟩ = some v := by
  rw [cell_of_row _ _ _ _ _ (0, 0) (heap_alloc_new w _)]; exact h
/-- A new box of an operation: its cells in whatever the world may become. -/
theorem op_box {W wr : World} {t k i : Int} {T : TypeId} (hW : W = wr.alloc (.cells #[.int .i64 t, .int .i64 k, .int .i64 i] T)) :
    (∀ u : Later W, u.1.cell? ⟨wr.heap.size, 0, none⟩ = some (.int .i64 t)) ∧ (∀ u : Later W, u.1.cell? ⟨wr.heap.size, 1, none⟩ = some (.int .i64 k)) ∧ (∀ u : Later W, u.1.cell? ⟨wr.heap.size, 2, none⟩ = some (.int .i64 i)) ∧
    Below wr.heap.size wr W ∧ wr.heap.size < W.heap.size := by
  subst hW
  exact ⟨Later.cell (box_at _ _ _ _ _ rfl), Later.cell (box_at _ _ _ _ _ rfl), Later.cell (box_at _ _ _ _ _ rfl), (Below.refl _ _).alloc (Nat.le_refl _) _, by simp⟩
theorem Later.trans {w wr W : World} (h : Below w.heap.size w wr) (h1 : Below wr.heap.size wr W) (u : Later W) : Below w.heap.size w u.1 := (h.trans (h1.mono h.size)).trans (u.2.mono (Nat.le_trans h.size h1.size))
end Go.Proofs.YtkbclcgdkbhgdaaGreat
namespace Go.Proofs.YtkbclcgdkbhgdaaGreat
open Go.RowKit Go.BigFrame
set_option linter.unusedVariables false

def isAcc (o : OpV) : Bool := o.kind == 0 || o.kind == 1
def isEnd (o : OpV) : Bool := o.kind == 2 || o.kind == 3
def inR (n lo hi : Int) : Bool := decide (lo ≤ n) && decide (n ≤ hi)
def validOp (o : OpV) : Bool := inR o.tx 0 3 && (isAcc o && inR o.item 0 2 || isEnd o && o.item == 0)
def endOf (s : List OpV) (t : Int) : Int := ((s.find? fun o => o.tx == t && isEnd o).map OpV.kind).getD (-1)

set_option maxHeartbeats 400000 in
theorem within_any (n low high : Int) (w : World) :
    Calls Tryz.prog 63 #[.int .i64 n, .int .i64 low, .int .i64 high] w fun e w' => e = .returned (.bool (inR n low high)) ∧ w = w' := by
  go_enter Tryz.func63, Tryz.ntmps63
  go_wp2
  all_goals (go_ret; exact ⟨ret_bool (by simp [inR]; omega), rfl⟩)
set_option maxHeartbeats 400000 in
theorem inRange_any (n low high : Int) (w : World) :
    Calls Tryz.prog 81 #[.int .i64 n, .int .i64 low, .int .i64 high] w fun e w' => e = .returned (.bool (inR n low high)) ∧ w = w' := by
  go_enter Tryz.func81, Tryz.ntmps81
  go_wp2
  all_goals (go_ret; exact ⟨ret_bool (by simp [inR]; omega), rfl⟩)

theorem bor_of {k a b : Int} (h : ¬ k = a) : (k == a || k == b) = (k == b) := by simp [h]

set_option maxHeartbeats 400000 in
theorem access_any (o : OpV) (w : World) :
    Calls Tryz.prog 64 #[o.val] w fun e w' => e = .returned (.bool (isAcc o)) ∧ Below w.heap.size w w' := by
  obtain ⟨t, k, x⟩ := o
  unfold OpV.val
  go_enter Tryz.func64, Tryz.ntmps64
  go_wp2
  all_goals (go_ret; exact ⟨ret_bool (by first | (simp [isAcc]; done) | rfl | simp [isAcc, *]), (Below.refl _ _).alloc (Nat.le_refl _) _⟩)
set_option maxHeartbeats 400000 in
theorem ends_any (o : OpV) (w : World) :
    Calls Tryz.prog 65 #[o.val] w fun e w' => e = .returned (.bool (isEnd o)) ∧ Below w.heap.size w w' := by
  obtain ⟨t, k, x⟩ := o
  unfold OpV.val
  go_enter Tryz.func65, Tryz.ntmps65
  go_wp2
  all_goals (go_ret; exact ⟨ret_bool (by first | (simp [isEnd]; done) | rfl | simp [isEnd, *]), (Below.refl _ _).alloc (Nat.le_refl _) _⟩)
set_option maxHeartbeats 400000 in
theorem sends_any (o : OpV) (w : World) :
    Calls Tryz.prog 53 #[o.val] w fun e w' => e = .returned (.bool (isEnd o)) ∧ Below w.heap.size w w' := by
  obtain ⟨t, k, x⟩ := o
  unfold OpV.val
  go_enter Tryz.func53, Tryz.ntmps53
  go_wp2
  all_goals (go_ret; exact ⟨ret_bool (by first | (simp [isEnd]; done) | rfl | simp [isEnd, *]), (Below.refl _ _).alloc (Nat.le_refl _) _⟩)

set_option maxHeartbeats 1000000 in
theorem valid_any (o : OpV) (w : World) :
    Calls Tryz.prog 30 #[o.val] w fun e w' => e = .returned (.bool (validOp o)) ∧ Below w.heap.size w w' := by
  obtain ⟨t, k, x⟩ := o
  unfold OpV.val
  cases h1 : inR t 0 3 <;> cases h2 : isAcc ⟨t, k, x⟩ <;> cases h3 : inR x 0 2 <;> cases h4 : isEnd ⟨t, k, x⟩ <;> cases h5 : (x == 0)
  all_goals
    go_enter Tryz.func30, Tryz.ntmps30
    go_wp2_with (first
      | (go_at_call 63; refine (within_any _ _ _ _).mono ?_; rintro e w' ⟨rfl, rfl⟩)
      | (go_at_call 64; refine (access_any ⟨t, k, x⟩ _).mono ?_; rintro e w' ⟨rfl, hb⟩; obtain ⟨bc, bf⟩ := bcell hb; have hsz : w.heap.size < w'.heap.size := by (have := hb.size; (try simp at this); omega))
      | (go_at_call 65; refine (ends_any ⟨t, k, x⟩ _).mono ?_; rintro e w' ⟨rfl, hb⟩; obtain ⟨bc, bf⟩ := bcell hb; have hsz : w.heap.size < w'.heap.size := by (have := hb.size; (try simp at this); omega)))
  all_goals
    go_ret
    exact ⟨ret_bool (by simp [validOp, *]), by (repeat (first | exact Below.refl _ _ | assumption | refine B_alloc ?_ (Nat.le_refl _) _ | refine Below.drew ?_ | refine B_drewN ?_ _ | refine B_after (by assumption) ?_ | (refine B_set ?_ ?_; rotate_left; (first | exact Nat.le_refl _ | (simp; done) | (simp at *; omega)))))⟩
end Go.Proofs.YtkbclcgdkbhgdaaGreat
namespace Go.Proofs.YtkbclcgdkbhgdaaGreat
open Go.RowKit Go.BigFrame
set_option linter.unusedVariables false

def noEnd (s : List OpV) (t : Int) : Bool := s.all fun o => !(o.tx == t && isEnd o)
def goodAt (s : List OpV) (i : Nat) : Bool := match s[i]? with | some o => validOp o && noEnd (s.take i) o.tx | none => true
def validS (s : List OpV) : Bool := decide (s.length ≤ 16) && (List.range s.length).all (goodAt s)

theorem isEnd_kind {o : OpV} (h : isEnd o = true) : o.kind = 2 ∨ o.kind = 3 := by simpa [isEnd] using h
theorem endOf_cases (s : List OpV) (t : Int) : (endOf s t = -1 ∧ noEnd s t = true) ∨ ((endOf s t = 2 ∨ endOf s t = 3) ∧ noEnd s t = false) := by
  unfold endOf noEnd
  cases h : s.find? (fun o => o.tx == t && isEnd o) with
  | none =>
    refine .inl ⟨rfl, ?_⟩
    rw [List.find?_eq_none] at h
    rw [List.all_eq_true]
    intro o ho
    have := h o ho
    by_cases h1 : o.tx = t <;> simp_all
  | some o =>
    have h1 := List.find?_some h
    have h2 := List.mem_of_find?_eq_some h
    refine .inr ⟨?_, ?_⟩
    · simp only [Bool.and_eq_true] at h1
      simpa using isEnd_kind h1.2
    · rw [List.all_eq_false]
      exact ⟨o, h2, by simpa using h1⟩
theorem endOf_hit (s : List OpV) (t : Int) (k : Nat) (o : OpV) (ho : s[k]? = some o) (hno : ∀ j, j < k → ∀ o, s[j]? = some o → (o.tx == t && isEnd o) = false) (h : (o.tx == t && isEnd o) = true) : endOf s t = o.kind := by
  have e : s.find? (fun o => o.tx == t && isEnd o) = some o := by
    rw [List.find?_eq_some_iff_getElem]
    obtain ⟨hk, he⟩ := List.getElem?_eq_some_iff.1 ho
    refine ⟨h, k, hk, he, fun j hj => ?_⟩
    have := hno j hj _ (List.getElem?_eq_getElem (by omega))
    rw [this]; rfl
  unfold endOf
  rw [e]; rfl
theorem endOf_none (s : List OpV) (t : Int) (hno : ∀ j, j < s.length → ∀ o, s[j]? = some o → (o.tx == t && isEnd o) = false) : endOf s t = -1 := by
  have e : s.find? (fun o => o.tx == t && isEnd o) = none := by
    rw [List.find?_eq_none]
    intro o ho
    obtain ⟨j, hj⟩ := List.mem_iff_getElem?.1 ho
    have hl : j < s.length := by
      rcases Nat.lt_or_ge j s.length with h | h
      · exact h
      · rw [List.getElem?_eq_none h] at hj; cases hj
    rw [hno j hl o hj]; simp
  unfold endOf
  rw [e]; rfl
theorem no_snoc {α : Type} {s : List α} {p : α → Bool} {k : Nat} {o : α} (ho : s[k]? = some o) (hno : ∀ j, j < k → ∀ o, s[j]? = some o → p o = false) (h : p o = false) :
    ∀ j, j < k + 1 → ∀ o, s[j]? = some o → p o = false := by
  intro j hj o' ho'
  by_cases e : j = k
  · subst e; rw [ho] at ho'; cases ho'; exact h
  · exact hno j (by omega) o' ho'

set_option maxHeartbeats 400000 in
theorem endOf_any (A : Option Addr) (n c : Nat) (s : List OpV) (t : Int) (w : World) (hx : ROps w A n s) :
    Calls Tryz.prog 31 #[.slice A n c, .int .i64 t] w fun e w' => e = .returned (.int .i64 (endOf s t)) ∧ Below w.heap.size w w' := by
  have hn := hx.2.1
  have hl := hx.1
  have HX := Lib.hid hx
  clear hx
  go_enter Tryz.func31, Tryz.ntmps31
  go_wp2
  go_loopw [9] (fun i wr => ∃ k : Nat, k ≤ n ∧ i = .int .i64 k ∧ Below w.heap.size w wr ∧ (∀ j, j < k → ∀ o, s[j]? = some o → (o.tx == t && isEnd o) = false)) (fun i _ => n - (intOf i).toNat)
  case atStart => exact ⟨0, Nat.zero_le _, rfl, Below.refl _ _, by omega⟩
  case round =>
    obtain ⟨k, hk, rfl, hb, hno⟩ := hrel
    by_cases hlt : k < n
    · obtain ⟨b, off, o, rfl, hbl, ho, c0, c1, c2⟩ := (HX.out.below hb (Nat.le_refl _)).at_ hlt
      have HT : Hid ((o.tx == t && isEnd o) = true → endOf s t = o.kind) := fun h => endOf_hit s t k o ho hno h
      have HN : Hid ((o.tx == t && isEnd o) = false → ∀ j, j < k + 1 → ∀ o, s[j]? = some o → (o.tx == t && isEnd o) = false) := fun h => no_snoc ho hno h
      clear hno ho
      obtain ⟨tx, kd, it⟩ := o
      by_cases h1 : tx = t
      · subst h1
        cases h2 : isEnd ⟨tx, kd, it⟩
        all_goals
          go_wp2_with (go_at_call 65; refine (ends_any ⟨tx, kd, it⟩ _).mono ?_; rintro e w' ⟨rfl, hb2⟩; obtain ⟨bc2, bf2⟩ := bcell hb2; have hsz : wr.heap.size < w'.heap.size := by (have := hb2.size; (try simp at this); omega))
        · go_roundw
          case rel => exact ⟨k + 1, by omega, by go_num, hb.trans ((by (repeat (first | exact Below.refl _ _ | assumption | refine B_alloc ?_ (Nat.le_refl _) _ | refine Below.drew ?_ | refine B_drewN ?_ _ | refine B_after (by assumption) ?_ | (refine B_set ?_ ?_; rotate_left; (first | exact Nat.le_refl _ | (simp; done) | (simp at *; omega))))) : Below wr.heap.size wr _).mono hb.size), HN.out (by simp [h2])⟩
          case measure => simp [intOf]; omega
        · go_ret
          exact ⟨ret_int (HT.out (by simp [h2])).symm, hb.trans ((by (repeat (first | exact Below.refl _ _ | assumption | refine B_alloc ?_ (Nat.le_refl _) _ | refine Below.drew ?_ | refine B_drewN ?_ _ | refine B_after (by assumption) ?_ | (refine B_set ?_ ?_; rotate_left; (first | exact Nat.le_refl _ | (simp; done) | (simp at *; omega))))) : Below wr.heap.size wr _).mono hb.size)⟩
      · go_wp2_with fail
        go_roundw
        case rel => exact ⟨k + 1, by omega, by go_num, hb.trans ((by (repeat (first | exact Below.refl _ _ | assumption | refine B_alloc ?_ (Nat.le_refl _) _ | refine Below.drew ?_ | refine B_drewN ?_ _ | refine B_after (by assumption) ?_ | (refine B_set ?_ ?_; rotate_left; (first | exact Nat.le_refl _ | (simp; done) | (simp at *; omega))))) : Below wr.heap.size wr _).mono hb.size), HN.out (by simp [h1])⟩
        case measure => simp [intOf]; omega
    · have HE := Lib.hid (endOf_none s t (fun j hj => hno j (by omega)))
      clear hno
      go_wp2_with fail
      go_ret
      exact ⟨ret_int HE.out.symm, hb⟩

theorem all_snoc {p : Nat → Bool} {k : Nat} (h : ∀ j, j < k → p j = true) (hk : p k = true) : ∀ j, j < k + 1 → p j = true := fun j hj => by
  by_cases e : j = k
  · subst e; exact hk
  · exact h j (by omega)
theorem validS_bad {s : List OpV} {k : Nat} (hk : k < s.length) (h : goodAt s k = false) : validS s = false := by
  unfold validS
  have : (List.range s.length).all (goodAt s) = false := by
    rw [List.all_eq_false]
    exact ⟨k, List.mem_range.2 hk, by simp [h]⟩
  rw [this, Bool.and_false]
theorem validS_end {s : List OpV} (h : ∀ j, j < s.length → goodAt s j = true) : validS s = decide (s.length ≤ 16) := by
  unfold validS
  have : (List.range s.length).all (goodAt s) = true := by
    rw [List.all_eq_true]
    intro j hj
    exact h j (List.mem_range.1 hj)
  rw [this, Bool.and_true]

set_option maxHeartbeats 1000000 in
theorem ValidSchedule_any (A : Option Addr) (n c : Nat) (s : List OpV) (w : World) (hx : ROps w A n s) (hnc : n ≤ c) :
    Calls Tryz.prog 8 #[.slice A n c] w fun e w' => e = .returned (.bool (validS s)) ∧ Below w.heap.size w w' := by
  have hn := hx.2.1
  have hl := hx.1
  have HX := Lib.hid hx
  clear hx
  go_enter Tryz.func8, Tryz.ntmps8
  go_wp2
  go_loopw [7] (fun i wr => ∃ k : Nat, k ≤ n ∧ i = .int .i64 k ∧ Below w.heap.size w wr ∧ (∀ j, j < k → goodAt s j = true)) (fun i _ => n - (intOf i).toNat)
  case atStart => exact ⟨0, Nat.zero_le _, rfl, Below.refl _ _, by omega⟩
  case round =>
    obtain ⟨k, hk, rfl, hb, hno⟩ := hrel
    by_cases hlt : k < n
    · have hxr := HX.out.below hb (Nat.le_refl _)
      obtain ⟨b, off, o, rfl, hbl, ho, c0, c1, c2⟩ := hxr.at_ hlt
      have HX2 := Lib.hid hxr
      have hg : goodAt s k = (validOp o && noEnd (s.take k) o.tx) := by unfold goodAt; rw [ho]
      have hec := endOf_cases (s.take k) o.tx
      obtain ⟨ev, he⟩ : ∃ ev, endOf (s.take k) o.tx = ev := ⟨_, rfl⟩
      rw [he] at hec
      have HE := Lib.hid he
      clear he ho hxr
      cases hv : validOp o
      · have HB := Lib.hid (validS_bad (s := s) (k := k) (by omega) (by rw [hg, hv]; rfl))
        clear hg hec
        obtain ⟨tx, kd, it⟩ := o
        have hv' : ∀ W : World, Calls Tryz.prog 30 #[.agg #[.int .i64 tx, .int .i64 kd, .int .i64 it]] W fun e w' => e = .returned (.bool false) ∧ Below W.heap.size W w' := fun W => by
          have := valid_any ⟨tx, kd, it⟩ W; rw [hv] at this; exact this
        have HV := Lib.hid hv'
        clear hv hv'
        go_wp2_with fail
        obtain ⟨W, hW⟩ : ∃ W : World, W = wr.alloc (.cells #[.int .i64 tx, .int .i64 kd, .int .i64 it] 46) := ⟨_, rfl⟩
        rw [← hW]
        obtain ⟨L0, L1, L2, hbW, hWs⟩ := op_box hW
        clear hW
        refine region_later (by kernel_rfl) (by kernel_rfl) ?_
        repeat (go_big_quiet_step ((go_at_call 30; exact later_call _ (HV.out _))))
        refine wpQuiet_nil ?_
        rintro _ ⟨u, rfl⟩
        go_wp2_with fail
        go_ret
        exact ⟨ret_bool HB.out.symm, Later.trans hb hbW u⟩
      · obtain ⟨tx, kd, it⟩ := o
        have hv' : ∀ W : World, Calls Tryz.prog 30 #[.agg #[.int .i64 tx, .int .i64 kd, .int .i64 it]] W fun e w' => e = .returned (.bool true) ∧ Below W.heap.size W w' := fun W => by
          have := valid_any ⟨tx, kd, it⟩ W; rw [hv] at this; exact this
        have HV := Lib.hid hv'
        have hE' : ∀ (W : World), ROps W (some ⟨b, off, none⟩) k (s.take k) → Calls Tryz.prog 31 #[.slice (some ⟨b, off, none⟩) k c, .int .i64 tx] W fun e w' => e = .returned (.int .i64 ev) ∧ Below W.heap.size W w' := fun W h => by
          have := endOf_any _ k c _ tx W h; rw [HE.out] at this; exact this
        have HE2 := Lib.hid hE'
        rw [hv, Bool.true_and] at hg
        have HG := Lib.hid hg
        have HN := Lib.hid hno
        clear hv hv' hE' hg hno
        have hkc : k ≤ c := by omega
        by_cases h0 : 0 ≤ ev
        · have hq : noEnd (s.take k) tx = false := by
            rcases hec with h | h
            · omega
            · exact h.2
          have HQ := Lib.hid hq
          clear hq
          go_wp2_with fail
          obtain ⟨W, hW⟩ : ∃ W : World, W = wr.alloc (.cells #[.int .i64 tx, .int .i64 kd, .int .i64 it] 46) := ⟨_, rfl⟩
          rw [← hW]
          obtain ⟨L0, L1, L2, hbW, hWs⟩ := op_box hW
          clear hW
          refine region_later (by kernel_rfl) (by kernel_rfl) ?_
          repeat (go_big_quiet_step ((first | (go_at_call 30; exact later_call _ (HV.out _)) | (go_at_call 31; exact later_call _ (HE2.out _ (((HX2.out.take (by omega)).below hbW (Nat.le_refl _)).later _))))))
          refine wpQuiet_nil ?_
          rintro _ ⟨u, rfl⟩
          go_wp2_with fail
          go_ret
          exact ⟨ret_bool (validS_bad (k := k) (by omega) (by rw [HG.out]; exact HQ.out)).symm, Later.trans hb hbW u⟩
        · have hq : noEnd (s.take k) tx = true := by
            rcases hec with h | h
            · exact h.2
            · omega
          have HQ := Lib.hid hq
          clear hq
          go_wp2_with fail
          obtain ⟨W, hW⟩ : ∃ W : World, W = wr.alloc (.cells #[.int .i64 tx, .int .i64 kd, .int .i64 it] 46) := ⟨_, rfl⟩
          rw [← hW]
          obtain ⟨L0, L1, L2, hbW, hWs⟩ := op_box hW
          clear hW
          refine region_later (by kernel_rfl) (by kernel_rfl) ?_
          repeat (go_big_quiet_step ((first | (go_at_call 30; exact later_call _ (HV.out _)) | (go_at_call 31; exact later_call _ (HE2.out _ (((HX2.out.take (by omega)).below hbW (Nat.le_refl _)).later _))))))
          refine wpQuiet_nil ?_
          rintro _ ⟨u, rfl⟩
          go_wp2_with fail
          go_roundw
          case rel => exact ⟨k + 1, by omega, by go_num, Later.trans hb hbW u, all_snoc HN.out (by rw [HG.out]; exact HQ.out)⟩
          case measure => simp [intOf]; omega
    · have HE := Lib.hid (validS_end (s := s) (fun j hj => hno j (by omega)))
      clear hno
      go_wp2_with fail
      go_ret
      exact ⟨ret_bool (by rw [HE.out, hl]; exact decide_eq_decide.2 ⟨fun h => by omega, fun h => by omega⟩), hb⟩
end Go.Proofs.YtkbclcgdkbhgdaaGreat
namespace Go.Proofs.YtkbclcgdkbhgdaaGreat
open Go.RowKit
set_option linter.unusedVariables false

theorem opInfo : (Tryz.prog.info? 46).map (fun i => (i.zero, i.size, i.bytes)) = some (some (.agg #[.int .i64 0, .int .i64 0, .int .i64 0]), 3, 24) := by kernel_rfl
theorem intInfo : (Tryz.prog.info? 3).map (fun i => (i.zero, i.size, i.bytes)) = some (some (.int .i64 0), 1, 8) := by kernel_rfl

/-- A source of cells: m elements of 'size' cells at address A. -/
def Src (w : World) (size : Nat) (A : Option Addr) (m : Nat) (news : List Value) : Prop :=
  news.length = m * size ∧ (∀ u ∈ news, u.oneCell' = true) ∧ (0 < m → ∃ ad, A = some ad ∧ ∀ j u, news[j]? = some u → w.cell? (ad.add j) = some u)

section
variable {P : Program} {w : World}

theorem run_app_nil (base : Nat) (t ty e : TypeId) (i : TypeInfo) (size : Nat) (ht : P.underlying t = some (.slice e)) (hi : P.info? e = some i)
    (v : Value) (n : Nat) (xs : List Value) (hown : w.ownsRow base e size v n xs) (c : Nat) : (Builtin.append_ #[t, t] ty #[v, .slice none 0 c]).run P w = .ok v w := by
  rcases hown.2 with ⟨rfl, rfl⟩ | ⟨g, cap, cur, rfl, _, _, hnc, _⟩
  · simp [Builtin.append_, run_underlying ht, sizeOf, typeInfo, hi, Builtin.lenOf, Builtin.firstCells]
  · simp [Builtin.append_, run_underlying ht, sizeOf, typeInfo, hi, Builtin.lenOf, Builtin.firstCells, hnc, storeCells]

theorem run_app (base : Nat) (t ty e : TypeId) (i : TypeInfo) (z : Value) (size bytes : Nat) (ht : P.underlying t = some (.slice e)) (hi : P.info? e = some i) (hz : i.zero = some z)
    (hsize : i.size = size) (hby : i.bytes = bytes) (hzs : z.cells.size = size) (hsz : 0 < size)
    (v : Value) (n : Nat) (xs : List Value) (hown : w.ownsRow base e size v n xs)
    (A : Option Addr) (m c : Nat) (news : List Value) (hr : Src w size A m news)
    (h63 : n + m ≤ maxLen) (hbytes : (n + m) * bytes ≤ 140737488355328) (hbase : base ≤ w.heap.size) :
    ∃ v' w', (Builtin.append_ #[t, t] ty #[v, .slice A m c]).run P w = .ok v' w' ∧ w'.ownsRow base e size v' (n + m) (xs ++ news) ∧ w.grownBy w' v.ownBlock ∧
      (v'.ownBlock = v.ownBlock ∨ v'.ownBlock = some w.heap.size) := by
  obtain ⟨hl, h1, hc⟩ := hr
  rcases A with _ | ad
  · have hm : m = 0 := by
      rcases Nat.eq_zero_or_pos m with h0 | h0
      · exact h0
      · obtain ⟨ad, h, _⟩ := hc h0
        cases h
    subst hm
    have hn : news = [] := List.eq_nil_of_length_eq_zero (by simpa using hl)
    subst hn
    exact ⟨v, w, run_app_nil base t ty e i size ht hi v n xs hown c, by simpa using hown, World.grownBy.refl w _, .inl rfl⟩
  · have hcells : ∀ j u, news[j]? = some u → w.cell? (ad.add j) = some u := by
      intro j u hu
      rcases Nat.eq_zero_or_pos m with h0 | h0
      · subst h0
        have hn : news = [] := List.eq_nil_of_length_eq_zero (by simpa using hl)
        subst hn
        simp at hu
      · obtain ⟨ad', h, hc'⟩ := hc h0
        injection h with h
        subst h
        exact hc' j u hu
    obtain ⟨v', w', hrun, h2, h3, _, h5⟩ := run_append_own_at (P := P) w base t ty e i z size bytes ht hi hz hsize hby hzs hsz v n xs hown ad m c news hl hcells h1 h63 hbytes hbase
    exact ⟨v', w', hrun, h2, h3, h5⟩

theorem wpList_app {ops : Array Oper} {rest : List Oper} {o : Oper} {a : Act} {Q : Exit → Act → World → Prop} (hgd : o.guard = none) (s x : Operand) (t : TypeId)
    (ho : o.op = .call { callee := .builtin .append, args := #[s, x], argTypes := #[t, t] })
    (base : Nat) (e : TypeId) (i : TypeInfo) (z : Value) (size bytes : Nat) (ht : P.underlying t = some (.slice e)) (hi : P.info? e = some i) (hz : i.zero = some z)
    (hsize : i.size = size) (hby : i.bytes = bytes) (hzs : z.cells.size = size) (hsz : 0 < size)
    (v : Value) (n : Nat) (xs : List Value) (hs : a.eval s = v) (hown : w.ownsRow base e size v n xs)
    (A : Option Addr) (m c : Nat) (news : List Value) (hx : a.eval x = .slice A m c) (hr : Src w size A m news)
    (h63 : n + m ≤ maxLen) (hbytes : (n + m) * bytes ≤ 140737488355328) (hbase : base ≤ w.heap.size)
    (h : ∀ v' w', w'.ownsRow base e size v' (n + m) (xs ++ news) → w.grownBy w' v.ownBlock → (v'.ownBlock = v.ownBlock ∨ v'.ownBlock = some w.heap.size) → wpList P ops Q rest (a.put o.dst v') w') : wpList P ops Q (o :: rest) a w := by
  refine wpList_plain hgd fun _ hK => ?_
  obtain ⟨v', w', hrun, h2, h3, h4⟩ := run_app (P := P) base t o.type e i z size bytes ht hi hz hsize hby hzs hsz v n xs hown A m c news hr h63 hbytes hbase
  unfold Oper.wp execOp
  simp only [ho, resolve, invoke, builtin, Sem.run_bind, Sem.run_pure, Result.andThen_ok, List.map_toArray, List.map_cons, List.map_nil, hs, hx, hrun]
  exact hK _ _ (h v' w' h2 h3 h4)
end

theorem opCells_find (ys : List OpV) : ∀ (j : Nat) (u : Value), (opCells ys)[j]? = some u →
    ∃ (i : Nat) (o : OpV), ys[i]? = some o ∧ ((j = i * 3 ∧ u = .int .i64 o.tx) ∨ (j = i * 3 + 1 ∧ u = .int .i64 o.kind) ∨ (j = i * 3 + 2 ∧ u = .int .i64 o.item)) := by
  induction ys with
  | nil => intro j u h; simp [opCells] at h
  | cons y r ih =>
    intro j u h
    match j, h with
    | 0, h => exact ⟨0, y, rfl, .inl ⟨rfl, by simpa [opCells, eq_comm] using h⟩⟩
    | 1, h => exact ⟨0, y, rfl, .inr (.inl ⟨rfl, by simpa [opCells, eq_comm] using h⟩)⟩
    | 2, h => exact ⟨0, y, rfl, .inr (.inr ⟨rfl, by simpa [opCells, eq_comm] using h⟩)⟩
    | j + 3, h =>
      obtain ⟨i, o, h1, h2⟩ := ih j u (by simpa [opCells] using h)
      exact ⟨i + 1, o, by simpa using h1, by rcases h2 with ⟨a, b⟩ | ⟨a, b⟩ | ⟨a, b⟩ <;> simp [b] <;> omega⟩
theorem addr_add (b off j : Nat) : (⟨b, off, none⟩ : Addr).add j = ⟨b, off + j, none⟩ := by
  unfold Addr.add
  split
  · subst_vars; rfl
  · rfl
theorem ROps.src {w : World} {A : Option Addr} {m : Nat} {ys : List OpV} (h : ROps w A m ys) : Src w 3 A m (opCells ys) := by
  obtain ⟨h1, h2, h3⟩ := h
  refine ⟨by rw [length_opCells, h1], opCells_one ys, fun hm => ?_⟩
  obtain ⟨b, off, hA, _, hc⟩ := h3 hm
  refine ⟨_, hA, fun j u hu => ?_⟩
  obtain ⟨i, o, ho, h⟩ := opCells_find ys j u hu
  obtain ⟨c0, c1, c2⟩ := hc i o ho
  rw [addr_add]
  rcases h with ⟨rfl, rfl⟩ | ⟨rfl, rfl⟩ | ⟨rfl, rfl⟩
  · exact c0
  · exact c1
  · exact c2
theorem RInts.src {w : World} {A : Option Addr} {m : Nat} {ys : List Int} (h : RInts w A m ys) : Src w 1 A m (intCells ys) := by
  obtain ⟨h1, h2, h3⟩ := h
  refine ⟨by simp [intCells, h1], intCells_one ys, fun hm => ?_⟩
  obtain ⟨b, off, hA, _, hc⟩ := h3 hm
  refine ⟨_, hA, fun j u hu => ?_⟩
  rw [addr_add]
  simp only [intCells, List.getElem?_map, Option.map_eq_some_iff] at hu
  obtain ⟨x, hx, rfl⟩ := hu
  exact hc j x hx

section
variable {w : World} {ops : Array Oper} {rest : List Oper} {o : Oper} {a : Act} {Q : Exit → Act → World → Prop}
/-- append of operations. -/
theorem app_ops (s x : Operand) {base : Nat} {v : Value} {n : Nat} {xs : List OpV} (hown : w.ownsRow base 46 3 v n (opCells xs)) (hbase : base ≤ w.heap.size)
    {A : Option Addr} {m c : Nat} {ys : List OpV} (hr : ROps w A m ys) (hn : n ≤ 1099511627776)
    (hgd : o.guard = none) (ho : o.op = .call { callee := .builtin .append, args := #[s, x], argTypes := #[23, 23] }) (hs : a.eval s = v) (hx : a.eval x = .slice A m c)
    (h : ∀ v' w', w'.ownsRow base 46 3 v' (n + m) (opCells (xs ++ ys)) → w.grownBy w' v.ownBlock → (v'.ownBlock = v.ownBlock ∨ v'.ownBlock = some w.heap.size) → wpList Tryz.prog ops Q rest (a.put o.dst v') w') : wpList Tryz.prog ops Q (o :: rest) a w := by
  obtain ⟨i0, hi, hz0, hz1, hz2⟩ := info_parts opInfo
  have hm := hr.2.1
  refine wpList_app hgd s x _ ho base _ i0 _ 3 24 Tryz.underlying23 hi hz0 hz1 hz2 rfl (by decide) v n _ hs hown A m c _ hx hr.src (by simp only [maxLen]; omega) (by omega) hbase ?_
  intro v' w' h1 h2 h3
  rw [← opCells_append] at h1
  exact h v' w' h1 h2 h3
/-- append of integers. -/
theorem app_ints (s x : Operand) {base : Nat} {v : Value} {n : Nat} {xs : List Int} (hown : w.ownsRow base 3 1 v n (intCells xs)) (hbase : base ≤ w.heap.size)
    {A : Option Addr} {m c : Nat} {ys : List Int} (hr : RInts w A m ys) (hn : n ≤ 1099511627776)
    (hgd : o.guard = none) (ho : o.op = .call { callee := .builtin .append, args := #[s, x], argTypes := #[32, 32] }) (hs : a.eval s = v) (hx : a.eval x = .slice A m c)
    (h : ∀ v' w', w'.ownsRow base 3 1 v' (n + m) (intCells (xs ++ ys)) → w.grownBy w' v.ownBlock → (v'.ownBlock = v.ownBlock ∨ v'.ownBlock = some w.heap.size) → wpList Tryz.prog ops Q rest (a.put o.dst v') w') : wpList Tryz.prog ops Q (o :: rest) a w := by
  obtain ⟨i0, hi, hz0, hz1, hz2⟩ := info_parts intInfo
  have hm := hr.2.1
  refine wpList_app hgd s x _ ho base _ i0 _ 1 8 Tryz.underlying32 hi hz0 hz1 hz2 rfl (by decide) v n _ hs hown A m c _ hx hr.src (by simp only [maxLen]; omega) (by omega) hbase ?_
  intro v' w' h1 h2 h3
  have e : intCells xs ++ intCells ys = intCells (xs ++ ys) := by simp [intCells]
  rw [e] at h1
  exact h v' w' h1 h2 h3
end

/-- A literal slice of integers, as it lies in its new block. -/
theorem RInts.lit (w : World) (xs : List Int) (t : TypeId) (h : xs.length ≤ 1099511627776) : RInts (w.alloc (.cells (intCells xs).toArray t)) (some ⟨w.heap.size, 0, none⟩) xs.length xs := by
  refine ⟨rfl, h, fun _ => ⟨w.heap.size, 0, rfl, by simp, fun i x hx => ?_⟩⟩
  have := cell_of_row (w.alloc (.cells (intCells xs).toArray t)) w.heap.size (0 + i) _ t (0, 0) (heap_alloc_new w _)
  rw [this]
  simp [intCells, hx]
theorem lit1 {w : World} {H : Nat} (hH : w.heap.size = H) (a : Int) : RInts (w.alloc (.cells #[.int .i64 a] 3)) (some ⟨H, 0, none⟩) 1 [a] := by subst hH; exact RInts.lit w [a] _ (by simp)
theorem ROps.lit1 (w : World) (o : OpV) (t : TypeId) : ROps (w.alloc (.cells #[.int .i64 o.tx, .int .i64 o.kind, .int .i64 o.item] t)) (some ⟨w.heap.size, 0, none⟩) 1 [o] := by
  refine ⟨rfl, by omega, fun _ => ⟨w.heap.size, 0, rfl, by simp, fun i x hx => ?_⟩⟩
  match i, hx with
  | 0, hx =>
    simp at hx; subst hx
    have := fun k => cell_of_row (w.alloc (.cells #[.int .i64 o.tx, .int .i64 o.kind, .int .i64 o.item] t)) w.heap.size k _ t (0, 0) (heap_alloc_new w _)
    exact ⟨this _, this _, this _⟩
#print axioms app_ops
end Go.Proofs.YtkbclcgdkbhgdaaGreat
namespace Go.Proofs.YtkbclcgdkbhgdaaGreat
open Go.RowKit Go.BigFrame
set_option linter.unusedVariables false

/-- Function F is entered by a call. -/
def Runs (F : FuncId) : Prop := ∀ args w, (callFunc F args).run Tryz.prog w = .ok (.enter F args) w
theorem runs_of {f : FuncId} {fn : Func} {c : Code} (hf : Tryz.prog.funcs[f]? = some fn) (hname : (fn.name == "runtime.NumGoroutine") = false) (hb : fn.body = some c) : Runs f :=
  by
  intro args w
  have h1 : fn.name ≠ "runtime.NumGoroutine" := by simpa using hname
  simp [callFunc, hf, h1, hb]

/-- A closure that answers p of each of the operations s, in whatever the world may become. -/
def ClosOp (w : World) (F : FuncId) (caps : Array Value) (s : List OpV) (p : OpV → Bool) : Prop := Runs F ∧
  ∀ (W : World) (o : OpV), Below w.heap.size w W → o ∈ s → Calls Tryz.prog F (#[o.val] ++ caps) W fun e w' => e = .returned (.bool (p o)) ∧ Below W.heap.size W w'
def ClosInt (w : World) (F : FuncId) (caps : Array Value) (s : List Int) (p : Int → Bool) : Prop := Runs F ∧
  ∀ (W : World) (x : Int), Below w.heap.size w W → x ∈ s → Calls Tryz.prog F (#[.int .i64 x] ++ caps) W fun e w' => e = .returned (.bool (p x)) ∧ Below W.heap.size W w'

theorem find_none_all {α : Type} {s : List α} {p : α → Bool} (h : ∀ j, j < s.length → ∀ o, s[j]? = some o → p o = false) : s.any p = false := by
  rw [List.any_eq_false]
  intro o ho
  obtain ⟨j, hj⟩ := List.mem_iff_getElem?.1 ho
  have hl : j < s.length := by
    rcases Nat.lt_or_ge j s.length with h | h
    · exact h
    · rw [List.getElem?_eq_none h] at hj; cases hj
  simp [h j hl o hj]

def IdxPost {α : Type} (s : List α) (p : α → Bool) (w : World) (e : Ending) (w' : World) : Prop :=
  Below w.heap.size w w' ∧ ((s.any p = false ∧ e = .returned (.int .i64 (-1))) ∨ (s.any p = true ∧ ∃ k : Nat, k < s.length ∧ (∃ o, s[k]? = some o ∧ p o = true) ∧ (∀ j, j < k → ∀ o, s[j]? = some o → p o = false) ∧ e = .returned (.int .i64 k)))


set_option maxRecDepth 100000 in
set_option maxHeartbeats 400000 in
theorem IndexFuncOp_any (A : Option Addr) (n c : Nat) (s : List OpV) (F : FuncId) (caps : Array Value) (p : OpV → Bool) (w : World) (hx : ROps w A n s) (hf : ClosOp w F caps s p) :
    Calls Tryz.prog 75 #[.slice A n c, .func (.func F) #[] caps] w (IdxPost s p w) := by
  have hn := hx.2.1
  have hl := hx.1
  have HX := Lib.hid hx
  have HF := Lib.hid hf
  clear hx hf
  go_enter Tryz.func75, Tryz.ntmps75
  go_wp2_with fail
  go_loopw [8] (fun i wr => ∃ k : Nat, k ≤ n ∧ i = .int .i64 k ∧ Below w.heap.size w wr ∧ (∀ j, j < k → ∀ o, s[j]? = some o → p o = false)) (fun i _ => n - (intOf i).toNat)
  case atStart => exact ⟨0, Nat.zero_le _, rfl, Below.refl _ _, by omega⟩
  case round =>
    obtain ⟨k, hk, rfl, hb, hno⟩ := hrel
    by_cases hlt : k < n
    · obtain ⟨b, off, o, rfl, hbl, ho, c0, c1, c2⟩ := (HX.out.below hb (Nat.le_refl _)).at_ hlt
      have hcl := HF.out.2 wr o hb (List.mem_of_getElem? ho)
      have hrun := HF.out.1
      unfold Runs at hrun
      unfold OpV.val at hcl
      have HN : Hid (p o = false → ∀ j, j < k + 1 → ∀ o, s[j]? = some o → p o = false) := fun h => no_snoc ho hno h
      have HT : Hid (p o = true → ∀ w', Below w.heap.size w w' → IdxPost s p w (.returned (.int .i64 k)) w') := fun h w' hb' =>
        ⟨hb', .inr ⟨List.any_eq_true.2 ⟨o, List.mem_of_getElem? ho, h⟩, k, by omega, ⟨o, ho, h⟩, hno, rfl⟩⟩
      have HC := Lib.hid hcl
      clear hno ho hcl
      cases hp : p o
      · rw [hp] at HC
        go_wp2_with fail
        refine (HC.out).mono ?_
        rintro e w1 ⟨rfl, hb1⟩
        go_wp2_with fail
        go_roundw
        case rel => exact ⟨k + 1, by omega, by go_num, hb.trans (hb1.mono hb.size), HN.out hp⟩
        case measure => simp [intOf]; omega
      · rw [hp] at HC
        go_wp2_with fail
        refine (HC.out).mono ?_
        rintro e w1 ⟨rfl, hb1⟩
        go_wp2_with fail
        go_ret
        exact HT.out hp _ (hb.trans (hb1.mono hb.size))
    · have HE := Lib.hid (find_none_all (s := s) (p := p) (fun j hj => hno j (by omega)))
      clear hno
      go_wp2_with fail
      go_ret
      exact ⟨hb, .inl ⟨HE.out, rfl⟩⟩


set_option maxHeartbeats 400000 in
theorem ContainsFuncOp_any (A : Option Addr) (n c : Nat) (s : List OpV) (F : FuncId) (caps : Array Value) (p : OpV → Bool) (w : World) (hx : ROps w A n s) (hf : ClosOp w F caps s p) :
    Calls Tryz.prog 45 #[.slice A n c, .func (.func F) #[] caps] w fun e w' => e = .returned (.bool (s.any p)) ∧ Below w.heap.size w w' := by
  have HI := Lib.hid (IndexFuncOp_any A n c s F caps p w hx hf)
  clear hx hf
  go_enter Tryz.func45, Tryz.ntmps45
  go_wp2_with fail
  refine (HI.out).mono ?_
  rintro e w1 ⟨hb, ⟨ha, rfl⟩ | ⟨ha, k, hk, _, _, rfl⟩⟩
  · have HA := Lib.hid ha
    clear ha
    go_wp2_with fail
    go_ret
    exact ⟨ret_bool HA.out.symm, hb⟩
  · have HA := Lib.hid ha
    clear ha
    go_wp2_with fail
    go_ret
    exact ⟨ret_bool HA.out.symm, hb⟩


end Go.Proofs.YtkbclcgdkbhgdaaGreat
namespace Go.Proofs.YtkbclcgdkbhgdaaGreat
open Go.RowKit Go.BigFrame
set_option linter.unusedVariables false

/-- A slice of operations that lies in memory made since w0, from its block's head on, free to be written. -/
def FreshOps (w0 w : World) (A : Option Addr) (n : Nat) (xs : List OpV) : Prop :=
  ROps w A n xs ∧ ∀ ad, A = some ad → ∃ b cur, ad = ⟨b, 0, none⟩ ∧ w0.heap.size ≤ b ∧ w.heap[b]? = some (.cells cur 46 (0, 0)) ∧ n * 3 ≤ cur.size
def FreshInts (w0 w : World) (A : Option Addr) (n : Nat) (xs : List Int) : Prop :=
  RInts w A n xs ∧ ∀ ad, A = some ad → ∃ b cur, ad = ⟨b, 0, none⟩ ∧ w0.heap.size ≤ b ∧ w.heap[b]? = some (.cells cur 3 (0, 0)) ∧ n ≤ cur.size
/-- The call hands back these operations in new memory and changes nothing. -/
def RetOps (w0 : World) (xs : List OpV) (e : Ending) (w : World) : Prop :=
  ∃ A c, e = .returned (.slice A xs.length c) ∧ xs.length ≤ c ∧ FreshOps w0 w A xs.length xs ∧ Below w0.heap.size w0 w
def RetInts (w0 : World) (xs : List Int) (e : Ending) (w : World) : Prop :=
  ∃ A c, e = .returned (.slice A xs.length c) ∧ xs.length ≤ c ∧ FreshInts w0 w A xs.length xs ∧ Below w0.heap.size w0 w

theorem FreshOps.none_ {w0 w : World} : FreshOps w0 w none 0 [] := ⟨ROps.nil, fun ad h => by cases h⟩
theorem FreshInts.none_ {w0 w : World} : FreshInts w0 w none 0 [] := ⟨RInts.nil, fun ad h => by cases h⟩
theorem RetOps.nil {w0 w : World} (h : Below w0.heap.size w0 w) : RetOps w0 [] (.returned (.slice none 0 0)) w := ⟨none, 0, rfl, Nat.le_refl _, FreshOps.none_, h⟩
theorem RetInts.nil {w0 w : World} (h : Below w0.heap.size w0 w) : RetInts w0 [] (.returned (.slice none 0 0)) w := ⟨none, 0, rfl, Nat.le_refl _, FreshInts.none_, h⟩

theorem FreshOps.of_own {w0 w : World} {base n c : Nat} {A : Option Addr} {xs : List OpV} (h : w.ownsRow base 46 3 (.slice A n c) n (opCells xs)) (hb : w0.heap.size ≤ base) (hn : n ≤ 1099511627776) : FreshOps w0 w A n xs := by
  refine ⟨ROps.of_own h hn, fun ad had => ?_⟩
  subst had
  rcases h.2 with ⟨h1, h2⟩ | ⟨g, cap, cur, h1, h2, h3, h4, h5, h6, h7⟩
  · cases h1
  · injection h1 with ha _ hc
    injection ha with ha
    subst ha
    exact ⟨g, cur, rfl, by omega, h3, by rw [h6]; omega⟩
theorem FreshInts.of_own {w0 w : World} {base n c : Nat} {A : Option Addr} {xs : List Int} (h : w.ownsRow base 3 1 (.slice A n c) n (intCells xs)) (hb : w0.heap.size ≤ base) (hn : n ≤ 1099511627776) : FreshInts w0 w A n xs := by
  refine ⟨RInts.of_own h hn, fun ad had => ?_⟩
  subst had
  rcases h.2 with ⟨h1, h2⟩ | ⟨g, cap, cur, h1, h2, h3, h4, h5, h6, h7⟩
  · cases h1
  · injection h1 with ha _ hc
    injection ha with ha
    subst ha
    exact ⟨g, cur, rfl, by omega, h3, by rw [h6]; omega⟩
theorem RetOps.mk {w0 w : World} {xs : List OpV} {A : Option Addr} {n c : Nat} (hn : xs.length = n) (hc : n ≤ c) (h : FreshOps w0 w A n xs) (hb : Below w0.heap.size w0 w) : RetOps w0 xs (.returned (.slice A n c)) w := by
  subst hn; exact ⟨A, c, rfl, hc, h, hb⟩
theorem RetInts.mk {w0 w : World} {xs : List Int} {A : Option Addr} {n c : Nat} (hn : xs.length = n) (hc : n ≤ c) (h : FreshInts w0 w A n xs) (hb : Below w0.heap.size w0 w) : RetInts w0 xs (.returned (.slice A n c)) w := by
  subst hn; exact ⟨A, c, rfl, hc, h, hb⟩
theorem own_below {w w' : World} {base : Nat} {e : TypeId} {size n : Nat} {v : Value} {xs : List Value} (h : w.ownsRow base e size v n xs) (hb : Below w.heap.size w w') : w'.ownsRow base e size v n xs :=
  World.ownsRow.kept h (row := none) ⟨hb.os, hb.tape, hb.output, hb.size, fun k hk _ => hb.block k hk⟩ (by cases v.ownBlock <;> simp)
theorem Below.own {w0 w w' : World} {base : Nat} {e : TypeId} {size n : Nat} {v : Value} {xs : List Value} (h : Below w0.heap.size w0 w) (hown : w.ownsRow base e size v n xs) (hb : w0.heap.size ≤ base) (hg : w.grownBy w' v.ownBlock) : Below w0.heap.size w0 w' :=
  h.grown hg h.size fun k hk => Nat.le_trans hb (World.ownsRow.lt hown k hk).1
theorem own_lenOps {w : World} {base n : Nat} {e : TypeId} {v : Value} {xs : List OpV} (h : w.ownsRow base e 3 v n (opCells xs)) : xs.length = n := by
  have := h.1; rw [length_opCells] at this; omega
theorem own_lenInts {w : World} {base n : Nat} {e : TypeId} {v : Value} {xs : List Int} (h : w.ownsRow base e 1 v n (intCells xs)) : xs.length = n := by
  have := h.1; simp only [intCells, List.length_map] at this; omega
theorem own_form2 {w : World} {base : Nat} {e : TypeId} {size n : Nat} {v : Value} {xs : List Value} (h : w.ownsRow base e size v n xs) : ∃ A c, v = .slice A n c ∧ n ≤ c := by
  rcases h.2 with ⟨h1, h2⟩ | ⟨g, cap, cur, h1, _, _, h4, _⟩
  · exact ⟨none, 0, by rw [h1, h2], by omega⟩
  · exact ⟨_, _, h1, h4⟩
theorem take_snoc {α : Type} {s : List α} {k : Nat} {o : α} (h : s[k]? = some o) : s.take (k + 1) = s.take k ++ [o] := by
  rw [List.take_add_one, h]; rfl

set_option maxRecDepth 100000 in
set_option maxHeartbeats 1000000 in
theorem kept_any (A : Option Addr) (n c : Nat) (s : List OpV) (F : FuncId) (caps : Array Value) (p : OpV → Bool) (w : World) (hx : ROps w A n s) (hf : ClosOp w F caps s p) :
    Calls Tryz.prog 39 #[.slice A n c, .func (.func F) #[] caps] w (RetOps w (s.filter p)) := by
  have hn := hx.2.1
  have hl := hx.1
  have HX := Lib.hid hx
  have HF := Lib.hid hf
  clear hx hf
  obtain ⟨i0, hi, hz0, hz1, hz2⟩ := info_parts opInfo
  go_enter Tryz.func39, Tryz.ntmps39
  go_wp2_with (at_make; refine wpList_make_own _ rfl _ _ 23 rfl w.heap.size 46 i0 _ 3 Tryz.underlying23 hi hz0 hz1 .i64 .i64 _ n rfl rfl rfl (by rw [hz2]; omega) (by unfold maxLen; omega) (Nat.le_refl _) ?_; intro w1 hown1 hg1)
  have hb1 : Below w.heap.size w w1 := ⟨hg1.os, hg1.tape, hg1.output, hg1.size, fun k hk => hg1.block k hk (by simp)⟩
  have HST := Lib.hid (And.intro hown1 hb1)
  clear hown1 hb1 hg1 hi hz0 hz1 hz2
  go_loopw [5, 13] (fun ov i wr => ∃ (k m : Nat), k ≤ n ∧ m ≤ k ∧ i = .int .i64 k ∧ Below w.heap.size w wr ∧ wr.ownsRow w.heap.size 46 3 ov m (opCells ((s.take k).filter p))) (fun _ i _ => n - (intOf i).toNat)
  case atStart => exact ⟨0, 0, Nat.zero_le _, Nat.le_refl _, rfl, HST.out.2, by simpa [opCells] using HST.out.1⟩
  case round =>
    clear HST
    obtain ⟨k, m, hk, hmk, rfl, hb, hown⟩ := hrel
    by_cases hlt : k < n
    · obtain ⟨b, off, o, rfl, hbl, ho, c0, c1, c2⟩ := (HX.out.below hb (Nat.le_refl _)).at_ hlt
      have hs := hb.size
      have hcl := HF.out.2 (wr.alloc (.cells #[.int .i64 o.tx, .int .i64 o.kind, .int .i64 o.item] 46)) o (hb.trans ((by (repeat (first | exact Below.refl _ _ | assumption | refine B_alloc ?_ (Nat.le_refl _) _ | refine Below.drew ?_ | refine B_drewN ?_ _ | refine B_after (by assumption) ?_ | (refine B_set ?_ ?_; rotate_left; (first | exact Nat.le_refl _ | (simp; done) | (simp at *; omega))))) : Below wr.heap.size wr _).mono hb.size)) (List.mem_of_getElem? ho)
      have hrun := HF.out.1
      unfold Runs at hrun
      have HT : Hid ((s.take (k + 1)).filter p = (s.take k).filter p ++ if p o = true then [o] else []) := by
        show _ = _
        rw [take_snoc ho, List.filter_append]; simp [List.filter_cons]
      unfold OpV.val at hcl
      have HC := Lib.hid hcl
      clear ho hcl
      obtain ⟨tx, kd, it⟩ := o
      go_wp2_with fail
      refine (HC.out).mono ?_
      rintro e w2 ⟨rfl, hb2⟩
      obtain ⟨bc2, bf2⟩ := bcell hb2
      have hsz : wr.heap.size < w2.heap.size := by (have := hb2.size; (try simp at this); omega)
      have hbw : Below w.heap.size w w2 := hb.trans (((by (repeat (first | exact Below.refl _ _ | assumption | refine B_alloc ?_ (Nat.le_refl _) _ | refine Below.drew ?_ | refine B_drewN ?_ _ | refine B_after (by assumption) ?_ | (refine B_set ?_ ?_; rotate_left; (first | exact Nat.le_refl _ | (simp; done) | (simp at *; omega))))) : Below wr.heap.size wr w2)).mono hb.size)
      have hown2 := own_below (hown.alloc _) hb2
      cases hp : p ⟨tx, kd, it⟩
      · rw [hp] at HT
        go_wp2_with fail
        go_roundw
        case rel => exact ⟨k + 1, m, by omega, by omega, by go_num, hbw, by rw [HT.out]; simpa using hown2⟩
        case measure => simp [intOf]; omega
      · rw [hp] at HT
        go_wp2_with (at_builtin; refine app_ops (.tmp 20) (.tmp 22) (hown2.alloc _) (by simp; omega) (ROps.lit1 _ ⟨_, _, _⟩ _) (by omega) rfl rfl rfl rfl ?_; intro v3 w3 hown3 hg3 hat3)
        have hb3 := Below.own hbw hown2 (Nat.le_refl _) (World.grownBy.trans (World.grownBy_alloc w2 _ _) hg3)
        go_wp2_with fail
        go_roundw
        case rel => exact ⟨k + 1, m + 1, by omega, by omega, by go_num, hb3, by rw [HT.out]; simpa using hown3⟩
        case measure => simp [intOf]; omega
    · obtain ⟨Ao, co, rfl, hmc⟩ := own_form2 hown
      have e : s.take k = s := List.take_of_length_le (by omega)
      rw [e] at hown
      have HO := Lib.hid (RetOps.mk (c := m) (own_lenOps hown) (Nat.le_refl _) (FreshOps.of_own hown (Nat.le_refl _) (by omega)) hb)
      clear hown e
      go_wp2_with fail
      go_ret
      exact HO.out
end Go.Proofs.YtkbclcgdkbhgdaaGreat
namespace Go.Proofs.YtkbclcgdkbhgdaaGreat
open Go.RowKit Go.BigFrame
set_option linter.unusedVariables false

def opsOf (s : List OpV) (t : Int) : List OpV := s.filter fun o => o.tx == t
def committed (s : List OpV) : List OpV := s.filter fun o => endOf s o.tx == 2
def hasTx (s : List OpV) (t : Int) : Bool := s.any fun o => o.tx == t
def txsOf (s : List OpV) : List Int := [0, 1, 2, 3].filter fun t => hasTx s t


set_option maxHeartbeats 400000 in
theorem opsOf1_any (o : OpV) (t : Int) (b : Nat) (w : World) (hc : w.cell? ⟨b, 0, none⟩ = some (.int .i64 t)) :
    Calls Tryz.prog 80 #[o.val, .pointer (some ⟨b, 0, none⟩)] w fun e w' => e = .returned (.bool (o.tx == t)) ∧ Below w.heap.size w w' := by
  obtain ⟨x, k, i⟩ := o
  unfold OpV.val
  have hbl : b < w.heap.size := block_lt_of_cell hc
  go_enter Tryz.func80, Tryz.ntmps80
  go_wp2_with fail
  go_ret
  exact ⟨rfl, (Below.refl _ _).alloc (Nat.le_refl _) _⟩


set_option maxHeartbeats 400000 in
theorem txsOf1_any (o : OpV) (t : Int) (b : Nat) (w : World) (hc : w.cell? ⟨b, 0, none⟩ = some (.int .i64 t)) :
    Calls Tryz.prog 46 #[o.val, .pointer (some ⟨b, 0, none⟩)] w fun e w' => e = .returned (.bool (o.tx == t)) ∧ Below w.heap.size w w' := by
  obtain ⟨x, k, i⟩ := o
  unfold OpV.val
  have hbl : b < w.heap.size := block_lt_of_cell hc
  go_enter Tryz.func46, Tryz.ntmps46
  go_wp2_with fail
  go_ret
  exact ⟨rfl, (Below.refl _ _).alloc (Nat.le_refl _) _⟩


theorem runs_opsOf1 : Runs 80 := runs_of Tryz.func80 (by kernel_rfl) rfl
theorem runs_txsOf1 : Runs 46 := runs_of Tryz.func46 (by kernel_rfl) rfl
theorem runs_committedOf1 : Runs 40 := runs_of Tryz.func40 (by kernel_rfl) rfl

set_option maxHeartbeats 400000 in
theorem opsOf_any (A : Option Addr) (n c : Nat) (s : List OpV) (t : Int) (w : World) (hx : ROps w A n s) :
    Calls Tryz.prog 50 #[.slice A n c, .int .i64 t] w (RetOps w (opsOf s t)) := by
  have hcl : ∀ W : World, W = w.alloc (.cells #[.int .i64 t] 3) → ROps W A n s ∧ ClosOp W 80 #[.pointer (some ⟨w.heap.size, 0, none⟩)] s (fun o => o.tx == t) ∧ Below w.heap.size w W := by
    intro W hW
    have hc : W.cell? ⟨w.heap.size, 0, none⟩ = some (.int .i64 t) := by rw [hW]; exact box_at _ _ _ _ _ rfl
    have hb : Below w.heap.size w W := by rw [hW]; exact (Below.refl _ _).alloc (Nat.le_refl _) _
    exact ⟨hx.below hb (Nat.le_refl _), ⟨runs_opsOf1, fun W' o hb' ho => opsOf1_any o t _ W' ((Later.cell hc ⟨W', hb'⟩))⟩, hb⟩
  have HC := Lib.hid hcl
  clear hcl hx
  go_enter Tryz.func50, Tryz.ntmps50
  go_wp2_with fail
  obtain ⟨W, hW⟩ : ∃ W : World, W = w.alloc (.cells #[.int .i64 t] 3) := ⟨_, rfl⟩
  rw [← hW]
  obtain ⟨hr, hf, hb⟩ := HC.out W hW
  refine (kept_any A n c s _ _ _ W hr hf).mono ?_
  rintro e w' ⟨A', c', rfl, hc', ⟨h1, h2⟩, hb'⟩
  clear hW
  go_wp2_with fail
  go_ret
  have hs := hb.size
  exact ⟨A', c', rfl, hc', ⟨h1, fun ad had => by obtain ⟨b, cur, h3, h4, h5⟩ := h2 ad had; exact ⟨b, cur, h3, by omega, h5⟩⟩, hb.trans (hb'.mono hs)⟩

set_option maxHeartbeats 400000 in
theorem committedOf1_any (o : OpV) (A : Option Addr) (n c b : Nat) (s : List OpV) (w : World) (hc : w.cell? ⟨b, 0, none⟩ = some (.slice A n c)) (hx : ROps w A n s) :
    Calls Tryz.prog 40 #[o.val, .pointer (some ⟨b, 0, none⟩)] w fun e w' => e = .returned (.bool (endOf s o.tx == 2)) ∧ Below w.heap.size w w' := by
  obtain ⟨t, k, x⟩ := o
  unfold OpV.val
  have hbl : b < w.heap.size := block_lt_of_cell hc
  have HX := Lib.hid hx
  clear hx
  go_enter Tryz.func40, Tryz.ntmps40
  go_wp2_with fail
  refine (endOf_any A n c s t _ (HX.out.below ((Below.refl _ _).alloc (Nat.le_refl _) _) (Nat.le_refl _))).mono ?_
  rintro e w' ⟨rfl, hb⟩
  go_wp2_with fail
  go_ret
  exact ⟨rfl, by (repeat (first | exact Below.refl _ _ | assumption | refine B_alloc ?_ (Nat.le_refl _) _ | refine Below.drew ?_ | refine B_drewN ?_ _ | refine B_after (by assumption) ?_ | (refine B_set ?_ ?_; rotate_left; (first | exact Nat.le_refl _ | (simp; done) | (simp at *; omega)))))⟩

set_option maxHeartbeats 400000 in
theorem committedOf_any (A : Option Addr) (n c : Nat) (s : List OpV) (w : World) (hx : ROps w A n s) :
    Calls Tryz.prog 16 #[.slice A n c] w (RetOps w (committed s)) := by
  have hcl : ∀ W : World, W = w.alloc (.cells #[.slice A n c] 23) → ROps W A n s ∧ ClosOp W 40 #[.pointer (some ⟨w.heap.size, 0, none⟩)] s (fun o => endOf s o.tx == 2) ∧ Below w.heap.size w W := by
    intro W hW
    have hc : W.cell? ⟨w.heap.size, 0, none⟩ = some (.slice A n c) := by rw [hW]; exact box_at _ _ _ _ _ rfl
    have hb : Below w.heap.size w W := by rw [hW]; exact (Below.refl _ _).alloc (Nat.le_refl _) _
    have hx' := hx.below hb (Nat.le_refl _)
    exact ⟨hx', ⟨runs_committedOf1, fun W' o hb' ho => committedOf1_any o A n c _ s W' ((Later.cell hc ⟨W', hb'⟩)) (hx'.below hb' (Nat.le_refl _))⟩, hb⟩
  have HC := Lib.hid hcl
  clear hcl hx
  go_enter Tryz.func16, Tryz.ntmps16
  go_wp2_with fail
  obtain ⟨W, hW⟩ : ∃ W : World, W = w.alloc (.cells #[.slice A n c] 23) := ⟨_, rfl⟩
  rw [← hW]
  obtain ⟨hr, hf, hb⟩ := HC.out W hW
  refine (kept_any A n c s _ _ _ W hr hf).mono ?_
  rintro e w' ⟨A', c', rfl, hc', ⟨h1, h2⟩, hb'⟩
  clear hW
  go_wp2_with fail
  go_ret
  have hs := hb.size
  exact ⟨A', c', rfl, hc', ⟨h1, fun ad had => by obtain ⟨b, cur, h3, h4, h5⟩ := h2 ad had; exact ⟨b, cur, h3, by omega, h5⟩⟩, hb.trans (hb'.mono hs)⟩
end Go.Proofs.YtkbclcgdkbhgdaaGreat
namespace Go.Proofs.YtkbclcgdkbhgdaaGreat
open Go.RowKit Go.BigFrame
set_option linter.unusedVariables false

def txsTo (s : List OpV) (k : Nat) : List Int := ((List.range k).map fun i : Nat => (i : Int)).filter fun t => hasTx s t
theorem txsTo_succ (s : List OpV) (k : Nat) : txsTo s (k + 1) = txsTo s k ++ if hasTx s (k : Int) = true then [(k : Int)] else [] := by
  unfold txsTo
  rw [List.range_succ, List.map_append, List.filter_append]
  simp [List.filter_cons]
theorem txsTo_four (s : List OpV) : txsTo s 4 = txsOf s := rfl

set_option maxHeartbeats 1000000 in
theorem txsOf_any (A : Option Addr) (n c : Nat) (s : List OpV) (w : World) (hx : ROps w A n s) :
    Calls Tryz.prog 18 #[.slice A n c] w (RetInts w (txsOf s)) := by
  have HX := Lib.hid hx
  clear hx
  obtain ⟨i0, hi, hz0, hz1, hz2⟩ := info_parts intInfo
  go_enter Tryz.func18, Tryz.ntmps18
  go_wp2_with (at_make; refine wpList_make_own _ rfl _ _ 32 rfl w.heap.size 3 i0 _ 1 Tryz.underlying32 hi hz0 hz1 .i64 .i64 _ 4 rfl rfl rfl (by rw [hz2]; omega) (by unfold maxLen; omega) (Nat.le_refl _) ?_; intro w1 hown1 hg1)
  have hb1 : Below w.heap.size w w1 := ⟨hg1.os, hg1.tape, hg1.output, hg1.size, fun k hk => hg1.block k hk (by simp)⟩
  have HST := Lib.hid (And.intro hown1 hb1)
  clear hown1 hb1 hg1 hi hz0 hz1 hz2
  go_loopw [3, 6] (fun ov i wr => ∃ (k m : Nat), k ≤ 4 ∧ m ≤ k ∧ i = .int .i64 k ∧ Below w.heap.size w wr ∧ wr.ownsRow w.heap.size 3 1 ov m (intCells (txsTo s k))) (fun _ i _ => 4 - (intOf i).toNat)
  case atStart => exact ⟨0, 0, by omega, Nat.le_refl _, rfl, HST.out.2, HST.out.1⟩
  case round =>
    clear HST
    obtain ⟨k, m, hk, hmk, rfl, hb, hown⟩ := hrel
    by_cases hlt : k < 4
    · have hs := hb.size
      have hcl : ∀ W : World, W = wr.alloc (.cells #[.int .i64 (k : Int)] 3) → ROps W A n s ∧ ClosOp W 46 #[.pointer (some ⟨wr.heap.size, 0, none⟩)] s (fun o => o.tx == (k : Int)) ∧ Below wr.heap.size wr W ∧ W.cell? ⟨wr.heap.size, 0, none⟩ = some (.int .i64 (k : Int)) ∧ W.heap.size = wr.heap.size + 1 := by
        intro W hW
        have hc : W.cell? ⟨wr.heap.size, 0, none⟩ = some (.int .i64 (k : Int)) := by rw [hW]; exact box_at _ _ _ _ _ rfl
        have hbW : Below wr.heap.size wr W := by rw [hW]; exact (Below.refl _ _).alloc (Nat.le_refl _) _
        exact ⟨(HX.out.below hb (Nat.le_refl _)).below hbW (Nat.le_refl _), ⟨runs_txsOf1, fun W' o hb' ho => txsOf1_any o k _ W' ((Later.cell hc ⟨W', hb'⟩))⟩, hbW, hc, by rw [hW]; simp⟩
      have HC := Lib.hid hcl
      have HT := Lib.hid (txsTo_succ s k)
      clear hcl
      go_wp2_with fail
      obtain ⟨W, hW⟩ : ∃ W : World, W = wr.alloc (.cells #[.int .i64 (k : Int)] 3) := ⟨_, rfl⟩
      rw [← hW]
      obtain ⟨hr, hf, hbW, hcW, hWs⟩ := HC.out W hW
      have hownW : W.ownsRow w.heap.size 3 1 u3 m (intCells (txsTo s k)) := by rw [hW]; exact hown.alloc _
      refine (ContainsFuncOp_any A n c s _ _ _ W hr hf).mono ?_
      rintro e w2 ⟨rfl, hb2⟩
      have hown2 := own_below hownW hb2
      have hbw := hb.trans ((hbW.trans (hb2.mono (by omega))).mono hs)
      have hs2 := hb2.size
      have hc2 : w2.cell? ⟨wr.heap.size, 0, none⟩ = some (.int .i64 (k : Int)) := Later.cell hcW ⟨w2, hb2⟩
      clear hW hcW hr hf
      have hp : (s.any fun o => o.tx == (k : Int)) = hasTx s k := rfl
      rw [hp]
      clear hp
      cases hq : hasTx s (k : Int)
      · rw [hq] at HT
        go_wp2_with fail
        go_roundw
        case rel => exact ⟨k + 1, m, by omega, by omega, by go_num, hbw, by rw [HT.out]; simpa using hown2⟩
        case measure => simp [intOf]; omega
      · rw [hq] at HT
        go_wp2_with (at_builtin; refine app_ints (.tmp 12) (.tmp 14) (hown2.alloc _) (by simp; omega) (lit1 rfl _) (by omega) rfl rfl rfl rfl ?_; intro v3 w3 hown3 hg3 hat3)
        have hb3 := Below.own hbw hown2 (Nat.le_refl _) (World.grownBy.trans (World.grownBy_alloc w2 _ _) hg3)
        go_wp2_with fail
        go_roundw
        case rel => exact ⟨k + 1, m + 1, by omega, by omega, by go_num, hb3, by rw [HT.out]; simpa using hown3⟩
        case measure => simp [intOf]; omega
    · obtain ⟨Ao, co, rfl, hmc⟩ := own_form2 hown
      obtain rfl : k = 4 := by omega
      rw [txsTo_four] at hown
      have HO := Lib.hid (RetInts.mk (c := m) (own_lenInts hown) (Nat.le_refl _) (FreshInts.of_own hown (Nat.le_refl _) (by omega)) hb)
      clear hown
      go_wp2_with fail
      go_ret
      exact HO.out

def orNil {α : Type} (b : Bool) (xs : List α) : List α := if b then xs else []
def endOfV (s : List OpV) (t : Int) : Int := if validS s then endOf s t else -1
theorem RetInts.later {w W w' : World} {xs : List Int} {e : Ending} (hb : Below w.heap.size w W) (h : RetInts W xs e w') : RetInts w xs e w' := by
  obtain ⟨A', c', rfl, hc', ⟨h1, h2⟩, hb'⟩ := h
  have hs := hb.size
  exact ⟨A', c', rfl, hc', ⟨h1, fun ad had => by obtain ⟨b, cur, h3, h4, h5⟩ := h2 ad had; exact ⟨b, cur, h3, by omega, h5⟩⟩, hb.trans (hb'.mono hs)⟩
theorem RetOps.later {w W w' : World} {xs : List OpV} {e : Ending} (hb : Below w.heap.size w W) (h : RetOps W xs e w') : RetOps w xs e w' := by
  obtain ⟨A', c', rfl, hc', ⟨h1, h2⟩, hb'⟩ := h
  have hs := hb.size
  exact ⟨A', c', rfl, hc', ⟨h1, fun ad had => by obtain ⟨b, cur, h3, h4, h5⟩ := h2 ad had; exact ⟨b, cur, h3, by omega, h5⟩⟩, hb.trans (hb'.mono hs)⟩


set_option maxHeartbeats 400000 in
theorem CommittedOf_any (A : Option Addr) (n c : Nat) (s : List OpV) (w : World) (hx : ROps w A n s) (hnc : n ≤ c) :
    Calls Tryz.prog 9 #[.slice A n c] w (RetOps w (orNil (validS s) (committed s))) := by
  have HX := Lib.hid hx
  clear hx
  go_enter Tryz.func9, Tryz.ntmps9
  go_wp2_with fail
  refine (ValidSchedule_any A n c s w HX.out hnc).mono ?_
  rintro e w1 ⟨rfl, hb⟩
  cases hv : validS s
  · have HV := Lib.hid hv
    clear hv
    go_wp2_with fail
    go_ret
    rw [HV.out]
    exact RetOps.nil hb
  · have HV := Lib.hid hv
    clear hv
    go_wp2_with fail
    refine (committedOf_any A n c s w1 (HX.out.below hb (Nat.le_refl _))).mono ?_
    rintro e w2 hr
    obtain ⟨A', c', rfl, hr'⟩ := hr
    have HR : Hid (RetOps w1 (committed s) (.returned (.slice A' ((committed s)).length c')) w2) := ⟨A', c', rfl, hr'⟩
    clear hr'
    go_wp2_with fail
    go_ret
    rw [HV.out]
    exact RetOps.later hb HR.out


end Go.Proofs.YtkbclcgdkbhgdaaGreat
namespace Go.Proofs.YtkbclcgdkbhgdaaGreat
open Go.RowKit Go.BigFrame
set_option linter.unusedVariables false

/-- Block g holds just these values. -/
def RowIs (w : World) (g : Nat) (T : TypeId) (vs : List Value) : Prop := w.heap[g]? = some (.cells vs.toArray T (0, 0))
section
variable {w : World} {g : Nat} {T : TypeId} {vs : List Value}
theorem RowIs.lt (h : RowIs w g T vs) : g < w.heap.size := lt_of_block h
theorem RowIs.cell (h : RowIs w g T vs) {i : Nat} {v : Value} (hv : vs[i]? = some v) : w.cell? ⟨g, i, none⟩ = some v := by
  rw [cell_of_row w g i _ T (0, 0) h]; simpa using hv
theorem RowIs.frozen (h : RowIs w g T vs) (i : Nat) : w.frozen? ⟨g, i, none⟩ = false := frozen_of_row w g i _ T h
theorem RowIs.set (h : RowIs w g T vs) (i : Nat) (v : Value) : RowIs (w.setCell ⟨g, i, none⟩ v) g T (vs.set i v) := by
  unfold RowIs
  rw [heap_setCell_same w g i _ T v h]
  simp
theorem RowIs.alloc (h : RowIs w g T vs) (o : Obj) : RowIs (w.alloc o) g T vs := (Below.heap_alloc w o g h.lt).trans h
theorem RowIs.below {w' : World} {B : Nat} (h : RowIs w g T vs) (hb : Below B w w') (hg : w.heap.size ≤ B) : RowIs w' g T vs := (hb.block g (by have := h.lt; omega)).trans h
end

theorem opCells_put (ys : List OpV) : ∀ (i : Nat) (o : OpV), opCells (ys.set i o) = (((opCells ys).set (i * 3) (.int .i64 o.tx)).set (i * 3 + 1) (.int .i64 o.kind)).set (i * 3 + 2) (.int .i64 o.item) := by
  induction ys with
  | nil => intro i o; simp [opCells]
  | cons y r ih =>
    intro i o
    cases i with
    | zero => simp [opCells]
    | succ i =>
      have e : (i + 1) * 3 = i * 3 + 1 + 1 + 1 := by omega
      rw [e]
      simp only [List.set_cons_succ, opCells, ih]
theorem set_snoc {α : Type} (xs : List α) (k : Nat) (z x : α) (m : Nat) (hk : xs[k]? = some x) :
    (xs.take k ++ List.replicate (m + 1) z).set k x = xs.take (k + 1) ++ List.replicate m z := by
  obtain ⟨hl, he⟩ := List.getElem?_eq_some_iff.1 hk
  have hlen : (xs.take k).length = k := by simp; omega
  rw [List.set_append_right _ _ (by omega), hlen, Nat.sub_self, List.replicate_succ, List.set_cons_zero, take_snoc hk, List.append_assoc]; rfl
theorem opCells_zero (n : Nat) : opCells (List.replicate n OpV.zero) = List.replicate (n * 3) (.int .i64 0) := by
  induction n with
  | zero => rfl
  | succ n ih =>
    rw [List.replicate_succ]
    show Value.int .i64 0 :: .int .i64 0 :: .int .i64 0 :: opCells (List.replicate n OpV.zero) = _
    rw [ih, show (n + 1) * 3 = n * 3 + 1 + 1 + 1 by omega]
    simp [List.replicate_succ]

/-- What a row of operations reads as. -/
theorem RowIs.ops {w : World} {g n : Nat} {T : TypeId} {ys : List OpV} {rest : List Value} (h : RowIs w g T (opCells ys ++ rest)) (hn : ys.length = n) (hm : n ≤ 1099511627776) : ROps w (some ⟨g, 0, none⟩) n ys := by
  refine ⟨hn, hm, fun _ => ⟨g, 0, rfl, h.lt, fun i o ho => ?_⟩⟩
  obtain ⟨c0, c1, c2⟩ := opCells_at ys i o ho
  have hc : ∀ j u, (opCells ys)[j]? = some u → w.cell? ⟨g, 0 + j, none⟩ = some u := fun j u hu => by
    rw [Nat.zero_add]
    refine h.cell ?_
    obtain ⟨hl, _⟩ := List.getElem?_eq_some_iff.1 hu
    rw [List.getElem?_append_left hl]; exact hu
  exact ⟨hc _ _ c0, by have := hc _ _ c1; simpa [Nat.add_assoc] using this, by have := hc _ _ c2; simpa [Nat.add_assoc] using this⟩
theorem RowIs.ints {w : World} {g n : Nat} {T : TypeId} {ys : List Int} {rest : List Value} (h : RowIs w g T (intCells ys ++ rest)) (hn : ys.length = n) (hm : n ≤ 1099511627776) : RInts w (some ⟨g, 0, none⟩) n ys := by
  refine ⟨hn, hm, fun _ => ⟨g, 0, rfl, h.lt, fun i o ho => ?_⟩⟩
  rw [Nat.zero_add]
  refine h.cell ?_
  have : (intCells ys)[i]? = some (.int .i64 o) := by simp [intCells, ho]
  obtain ⟨hl, _⟩ := List.getElem?_eq_some_iff.1 this
  rw [List.getElem?_append_left hl]; exact this
/-- New memory as a row. -/
theorem FreshOps.row {w0 w : World} {A : Option Addr} {n : Nat} {xs : List OpV} (h : FreshOps w0 w A n xs) (h0 : 0 < n) : ∃ g rest, A = some ⟨g, 0, none⟩ ∧ w0.heap.size ≤ g ∧ RowIs w g 46 (opCells xs ++ rest) := by
  obtain ⟨⟨hl, hm, hr⟩, hf⟩ := h
  obtain ⟨b, off, hA, hlt, hc⟩ := hr h0
  obtain ⟨b', cur, had, hge, hh, hsz⟩ := hf _ hA
  injection had with h1 h2 h3
  subst h1; subst h2
  refine ⟨b, cur.toList.drop (n * 3), hA, hge, ?_⟩
  unfold RowIs
  rw [hh]
  congr 2
  apply Array.ext'
  simp only
  have e : opCells xs = cur.toList.take (n * 3) := by
    apply List.ext_getElem?
    intro j
    rcases Nat.lt_or_ge j (n * 3) with hj | hj
    · rw [List.getElem?_take_of_lt hj]
      obtain ⟨v, hv⟩ : ∃ v, (opCells xs)[j]? = some v := ⟨_, List.getElem?_eq_getElem (by rw [length_opCells]; omega)⟩
      rw [hv]
      obtain ⟨i, o, ho, h⟩ := opCells_find xs j v hv
      obtain ⟨c0, c1, c2⟩ := hc i o ho
      have hcell : ∀ q, w.cell? ⟨b, q, none⟩ = cur[q]? := fun q => cell_of_row w b q _ _ (0, 0) hh
      rw [hcell] at c0 c1 c2
      simp only [Nat.zero_add] at c0 c1 c2
      rcases h with ⟨rfl, rfl⟩ | ⟨rfl, rfl⟩ | ⟨rfl, rfl⟩
      · simpa using c0.symm
      · simpa using c1.symm
      · simpa using c2.symm
    · rw [List.getElem?_eq_none (by rw [length_opCells]; omega), List.getElem?_eq_none (by simp; omega)]
  rw [e, List.take_append_drop]
theorem FreshInts.row {w0 w : World} {A : Option Addr} {n : Nat} {xs : List Int} (h : FreshInts w0 w A n xs) (h0 : 0 < n) : ∃ g rest, A = some ⟨g, 0, none⟩ ∧ w0.heap.size ≤ g ∧ RowIs w g 3 (intCells xs ++ rest) := by
  obtain ⟨⟨hl, hm, hr⟩, hf⟩ := h
  obtain ⟨b, off, hA, hlt, hc⟩ := hr h0
  obtain ⟨b', cur, had, hge, hh, hsz⟩ := hf _ hA
  injection had with h1 h2 h3
  subst h1; subst h2
  refine ⟨b, cur.toList.drop n, hA, hge, ?_⟩
  unfold RowIs
  rw [hh]
  congr 2
  apply Array.ext'
  simp only
  have e : intCells xs = cur.toList.take n := by
    apply List.ext_getElem?
    intro j
    rcases Nat.lt_or_ge j n with hj | hj
    · rw [List.getElem?_take_of_lt hj]
      have hx : xs[j]? = some (xs[j]'(by omega)) := List.getElem?_eq_getElem (by omega)
      have c0 := hc j _ hx
      rw [cell_of_row w b _ _ _ (0, 0) hh] at c0
      simp only [Nat.zero_add] at c0
      simp only [intCells, List.getElem?_map, hx]
      simpa using c0.symm
    · rw [List.getElem?_eq_none (by simp [intCells]; omega), List.getElem?_eq_none (by simp; omega)]
  rw [e, List.take_append_drop]

/-- Own rows stay where another block is written. -/
theorem ROps.grown {w w' : World} {B : Option Addr} {n : Nat} {ys : List OpV} {row : Option Nat} (h : ROps w B n ys) (hg : w.grownBy w' row) (hne : ∀ b, B = some b → row ≠ some b.block) : ROps w' B n ys := by
  obtain ⟨h1, h2, h3⟩ := h
  refine ⟨h1, h2, fun hn => ?_⟩
  obtain ⟨b, off, hA, hlt, hc⟩ := h3 hn
  have hs := hg.size
  have hb := hg.block b hlt (fun e => hne _ hA e.symm)
  refine ⟨b, off, hA, by omega, fun i o ho => ?_⟩
  obtain ⟨c0, c1, c2⟩ := hc i o ho
  exact ⟨(World.cell?_of_block (w := w) (a := ⟨b, _, none⟩) hb).trans c0, (World.cell?_of_block (w := w) (a := ⟨b, _, none⟩) hb).trans c1, (World.cell?_of_block (w := w) (a := ⟨b, _, none⟩) hb).trans c2⟩
theorem RInts.grown {w w' : World} {B : Option Addr} {n : Nat} {ys : List Int} {row : Option Nat} (h : RInts w B n ys) (hg : w.grownBy w' row) (hne : ∀ b, B = some b → row ≠ some b.block) : RInts w' B n ys := by
  obtain ⟨h1, h2, h3⟩ := h
  refine ⟨h1, h2, fun hn => ?_⟩
  obtain ⟨b, off, hA, hlt, hc⟩ := h3 hn
  have hs := hg.size
  have hb := hg.block b hlt (fun e => hne _ hA e.symm)
  exact ⟨b, off, hA, by omega, fun i o ho => (World.cell?_of_block (w := w) (a := ⟨b, _, none⟩) hb).trans (hc i o ho)⟩
theorem grown_set {w : World} {g i : Nat} {v : Value} : w.grownBy (w.setCell ⟨g, i, none⟩ v) (some g) :=
  ⟨rfl, rfl, rfl, by simp [World.setCell], fun k hk hne => Below.heap_setCell w ⟨g, i, none⟩ v k (fun e => hne (by rw [e]))⟩
theorem grown_below {w w' : World} {row : Option Nat} (h : Below w.heap.size w w') : w.grownBy w' row := ⟨h.os, h.tape, h.output, h.size, fun i hi _ => h.block i hi⟩

/-- A store of an operation into place k of a row of the call's own. -/
theorem store_op {w : World} {ops : Array Oper} {rest : List Oper} {o : Oper} {a : Act} {Q : Exit → Act → World → Prop} (x y : Operand) {g : Nat} {T : TypeId} {ys : List OpV} {more : List Value} (p : OpV) {k : Nat} (hrow : RowIs w g T (opCells ys ++ more)) (hk : k < ys.length)
    (hgd : o.guard = none) (ho : o.op = .store 46 x y) (hx : a.eval x = .pointer (some ⟨g, k * 3, none⟩)) (hy : a.eval y = .agg #[.int .i64 p.tx, .int .i64 p.kind, .int .i64 p.item])
    (h : ∀ w', RowIs w' g T (opCells (ys.set k p) ++ more) → w.grownBy w' (some g) → wpList Tryz.prog ops Q rest (a.put o.dst undef) w') : wpList Tryz.prog ops Q (o :: rest) a w := by
  have hlen := length_opCells ys
  refine wpList_store_mid hgd _ x y ho g (k * 3) #[.int .i64 p.tx, .int .i64 p.kind, .int .i64 p.item] hx hy ?_ (by kernel_rfl) (by simp [Value.oneCell']) ?_
  · intro j hj
    have hj : j < 3 := hj
    have : k * 3 + j < (opCells ys ++ more).length := by rw [List.length_append]; omega
    exact ⟨by rw [hrow.cell (List.getElem?_eq_getElem this)]; rfl, hrow.frozen _⟩
  · refine h _ ?_ ?_
    · have := ((hrow.set (k * 3) (.int .i64 p.tx)).set (k * 3 + 1) (.int .i64 p.kind)).set (k * 3 + 2) (.int .i64 p.item)
      rw [List.set_append_left _ _ (by omega), List.set_append_left _ _ (by simp; omega), List.set_append_left _ _ (by simp; omega), ← opCells_put] at this
      exact this
    · exact World.grownBy.trans (World.grownBy.trans grown_set grown_set) grown_set
theorem made_ints (n : Nat) : (madeCells (Value.int .i64 0).cells (n * 1)).toList = intCells (List.replicate n 0) := by
  apply List.ext_getElem?
  intro j
  simp only [intCells, List.map_replicate, List.getElem?_replicate]
  split
  · rename_i hj
    rw [List.getElem?_eq_getElem (by simpa [size_madeCells] using hj)]
    simp only [madeCells, Array.getElem_toList, Array.getElem_map, Array.getElem_range]
    congr 1
    show (#[Value.int .i64 0] : Array Value)[j % 1]! = _
    rw [Nat.mod_one]; rfl
  · rename_i hj
    rw [List.getElem?_eq_none (by simpa [size_madeCells] using hj)]
/-- A store of an integer. -/
theorem row_setInt {w : World} {g k : Nat} {T : TypeId} {ys : List Int} {more : List Value} {v : Int} (hrow : RowIs w g T (intCells ys ++ more)) (hk : k < ys.length) : RowIs (w.setCell ⟨g, k, none⟩ (.int .i64 v)) g T (intCells (ys.set k v) ++ more) := by
  have := hrow.set k (.int .i64 v)
  rw [List.set_append_left _ _ (by simpa [intCells] using hk)] at this
  have e : (intCells ys).set k (.int .i64 v) = intCells (ys.set k v) := by simp [intCells, List.map_set]
  rw [e] at this
  exact this
end Go.Proofs.YtkbclcgdkbhgdaaGreat
namespace Go.Proofs.YtkbclcgdkbhgdaaGreat
open Go.RowKit Go.BigFrame
set_option linter.unusedVariables false

theorem RInts.drop1 {w : World} {A : Option Addr} {n : Nat} {xs : List Int} (h : RInts w A n xs) {k c : Nat} (hk : k ≤ n) (hc : n ≤ c) :
    RInts w (if c = k then A else A.map (·.add k)) (n - k) (xs.drop k) := by
  obtain ⟨h1, h2, h3⟩ := h
  refine ⟨by simp; omega, by omega, fun hn => ?_⟩
  obtain ⟨b, off, rfl, hlt, hcell⟩ := h3 (by omega)
  rw [if_neg (by omega)]
  refine ⟨b, off + k, by simp [addr_add], hlt, fun i o ho => ?_⟩
  rw [List.getElem?_drop] at ho
  have := hcell _ o ho
  have e1 : off + (k + i) = off + k + i := by omega
  rw [e1] at this
  exact this

set_option maxRecDepth 100000 in
set_option maxHeartbeats 1000000 in
theorem CloneI_any (b off n c : Nat) (xs : List Int) (w : World) (hx : RInts w (some ⟨b, off, none⟩) n xs) :
    Calls Tryz.prog 43 #[.slice (some ⟨b, off, none⟩) n c] w (RetInts w xs) := by
  have hl := hx.1
  have hn := hx.2.1
  have HX1 : Hid (RInts (w.alloc (.cells #[] 3)) (some ⟨b, off, none⟩) n xs) := hx.below ((Below.refl _ w).alloc (Nat.le_refl _) _) (Nat.le_refl _)
  have HST : Hid ((w.alloc (.cells #[] 3)).ownsRow w.heap.size 3 1 (.slice (some ⟨w.heap.size, 0, none⟩) 0 0) 0 (intCells [])) :=
    World.ownsRow_made w #[] 0 (Nat.le_refl _) (by decide) rfl
  have hz : ∀ w1 : World, (binOp .eql 32 (.slice (some ⟨b, off, none⟩) n c) (.slice none 0 0)).run Tryz.prog w1 = .ok (.bool false) w1 := fun w1 => Go.Lib.run_eql_slice_nil w1 32 3 (some ⟨b, off, none⟩) n c 0 0 Tryz.underlying32
  clear hx
  go_enter Tryz.func43, Tryz.ntmps43
  go_wp2_with (at_builtin; refine app_ints (.tmp 5) (.tmp 6) HST.out (by simp) HX1.out (by omega) rfl rfl rfl rfl ?_; intro v1 w1 hown1 hg1 hat1)
  have hb1 : Below w.heap.size w w1 := Below.own ((Below.refl _ w).alloc (Nat.le_refl _) _) HST.out (Nat.le_refl _) hg1
  rw [List.nil_append, Nat.zero_add] at hown1
  obtain ⟨A1, c1, rfl, hc1⟩ := own_form2 hown1
  have HO := Lib.hid (RetInts.mk hl hc1 (FreshInts.of_own (w0 := w) hown1 (Nat.le_refl _) (by omega)) hb1)
  clear hown1 hg1 hat1 HST HX1 hb1
  go_wp2_with fail
  go_ret
  exact HO.out

end Go.Proofs.YtkbclcgdkbhgdaaGreat
namespace Go.Proofs.YtkbclcgdkbhgdaaGreat
open Go.RowKit Go.BigFrame
set_option linter.unusedVariables false

theorem eq_of_get {α : Type} {xs ys : List α} (hl : xs.length = ys.length) (h : ∀ j, j < xs.length → xs[j]? = ys[j]?) : xs = ys := by
  apply List.ext_getElem? 
  intro i
  rcases Nat.lt_or_ge i xs.length with h1 | h1
  · exact h i h1
  · rw [List.getElem?_eq_none h1, List.getElem?_eq_none (by omega)]

set_option maxHeartbeats 400000 in
theorem equalInts_any (A B : Option Addr) (n m c d : Nat) (xs ys : List Int) (w : World) (hx : RInts w A n xs) (hy : RInts w B m ys) :
    Calls Tryz.prog 23 #[.slice A n c, .slice B m d] w fun e w' => e = .returned (.bool (xs == ys)) ∧ Below w.heap.size w w' := by
  have hn := hx.2.1
  have hl := hx.1
  have hm := hy.2.1
  have hly := hy.1
  have HX := Lib.hid hx
  have HY := Lib.hid hy
  clear hx hy
  by_cases hnm : n = m
  · subst hnm
    go_enter Tryz.func23, Tryz.ntmps23
    go_wp2_with fail
    go_loopw [5] (fun i wr => ∃ k : Nat, k ≤ n ∧ i = .int .i64 k ∧ Below w.heap.size w wr ∧ ∀ j, j < k → xs[j]? = ys[j]?) (fun i _ => n - (intOf i).toNat)
    case atStart => exact ⟨0, Nat.zero_le _, rfl, Below.refl _ _, by omega⟩
    case round =>
      obtain ⟨k, hk, rfl, hb, hno⟩ := hrel
      by_cases hlt : k < n
      · obtain ⟨b, off, x, rfl, hbl, hox, c0⟩ := (HX.out.below hb (Nat.le_refl _)).at_ hlt
        obtain ⟨b', off', y, rfl, hbl', hoy, d0⟩ := (HY.out.below hb (Nat.le_refl _)).at_ hlt
        have HN : Hid (x = y → ∀ j, j < k + 1 → xs[j]? = ys[j]?) := fun h j hj => by
          by_cases e : j = k
          · subst e; rw [hox, hoy, h]
          · exact hno j (by omega)
        have HT : Hid (¬ x = y → (xs == ys) = false) := fun h => by
          rw [beq_eq_false_iff_ne]
          intro e
          rw [e, hoy] at hox
          injection hox with hox
          exact h hox.symm
        have L0 := Later.cell c0
        have M0 := Later.cell d0
        have hki : (k : Int) < (n : Int) := by omega
        clear hno hox hoy c0 d0
        by_cases h1 : x = y
        · have hs := Lib.hid (HN.out h1)
          subst h1
          go_wp2_with fail
          refine region_later (by kernel_rfl) (by kernel_rfl) ?_
          repeat (go_big_quiet_step (fail))
          refine wpQuiet_nil ?_
          rintro _ ⟨u, rfl⟩
          have hbu := hb.trans (u.2.mono hb.size)
          go_wp2_with fail
          go_roundw
          case rel => exact ⟨k + 1, by omega, by go_num, hbu, hs.out⟩
          case measure => simp [intOf]; omega
        · have hs := Lib.hid (HT.out h1)
          have h1' : (x != y) = true := by simpa using h1
          go_wp2_with fail
          refine region_later (by kernel_rfl) (by kernel_rfl) ?_
          repeat (go_big_quiet_step (fail))
          refine wpQuiet_nil ?_
          rintro _ ⟨u, rfl⟩
          have hbu := hb.trans (u.2.mono hb.size)
          go_wp2_with fail
          go_ret
          exact ⟨ret_bool hs.out.symm, hbu⟩
      · have hs : Hid ((xs == ys) = true) := by
          show _ = _
          rw [beq_iff_eq]
          exact eq_of_get (by omega) (fun j hj => hno j (by omega))
        clear hno
        go_wp2_with fail
        go_ret
        exact ⟨ret_bool hs.out.symm, hb⟩
  · have hs : Hid ((xs == ys) = false) := by
      show _ = _
      rw [beq_eq_false_iff_ne]
      intro e
      rw [e] at hl
      omega
    go_enter Tryz.func23, Tryz.ntmps23
    go_wp2_with fail
    go_ret
    exact ⟨ret_bool hs.out.symm, Below.refl _ _⟩

end Go.Proofs.YtkbclcgdkbhgdaaGreat
namespace Go.Proofs.YtkbclcgdkbhgdaaGreat
open Go.RowKit Go.BigFrame
set_option linter.unusedVariables false

/-- The slice value reads as a list of lists. -/
def RLists (w : World) (A : Option Addr) (n : Nat) (xss : List (List Int)) : Prop :=
  xss.length = n ∧ n ≤ 1099511627776 ∧ (0 < n → ∃ b off, A = some ⟨b, off, none⟩ ∧ b < w.heap.size ∧ ∀ i xs, xss[i]? = some xs →
    ∃ B m c, w.cell? ⟨b, off + i, none⟩ = some (.slice B m c) ∧ m ≤ c ∧ RInts w B m xs)
theorem RLists.nil {w : World} {A : Option Addr} : RLists w A 0 [] := ⟨rfl, by omega, fun h => absurd h (by omega)⟩
theorem RLists.below {w w' : World} {A : Option Addr} {n : Nat} {xss : List (List Int)} (h : RLists w A n xss) {B : Nat} (hb : Below B w w') (hB : w.heap.size ≤ B) : RLists w' A n xss := by
  obtain ⟨h1, h2, h3⟩ := h
  refine ⟨h1, h2, fun hn => ?_⟩
  obtain ⟨b, off, hA, hlt, hc⟩ := h3 hn
  have hs := hb.size
  refine ⟨b, off, hA, by omega, fun i xs hi => ?_⟩
  obtain ⟨C, m, c, e, hmc, hr⟩ := hc i xs hi
  exact ⟨C, m, c, (hb.cell (p := ⟨b, _, none⟩) (by simp; omega)).trans e, hmc, hr.below hb hB⟩
theorem RLists.at_ {w : World} {A : Option Addr} {n : Nat} {xss : List (List Int)} (h : RLists w A n xss) {k : Nat} (hk : k < n) : ∃ b off xs B m c, A = some ⟨b, off, none⟩ ∧ b < w.heap.size ∧ xss[k]? = some xs ∧
    w.cell? ⟨b, off + k, none⟩ = some (.slice B m c) ∧ m ≤ c ∧ RInts w B m xs := by
  obtain ⟨h1, h2, h3⟩ := h
  obtain ⟨b, off, hA, hlt, hc⟩ := h3 (by omega)
  have e : xss[k]? = some (xss[k]'(by omega)) := List.getElem?_eq_getElem (by omega)
  obtain ⟨B, m, c, r⟩ := hc k _ e
  exact ⟨b, off, _, B, m, c, hA, hlt, e, r⟩
theorem RLists.lit1 {w : World} {H : Nat} (hH : w.heap.size = H) {T : TypeId} {B : Option Addr} {m c : Nat} {xs : List Int} (hmc : m ≤ c) (hr : RInts w B m xs) : RLists (w.alloc (.cells #[.slice B m c] T)) (some ⟨H, 0, none⟩) 1 [xs] := by
  subst hH
  refine ⟨rfl, by omega, fun _ => ⟨w.heap.size, 0, rfl, by simp, fun i xs' hi => ?_⟩⟩
  match i, hi with
  | 0, hi =>
    simp only [List.getElem?_cons_zero, Option.some.injEq] at hi
    subst hi
    exact ⟨B, m, c, box_at _ _ _ _ _ (by simp), hmc, hr.below ((Below.refl _ w).alloc (Nat.le_refl _) _) (Nat.le_refl _)⟩
  | i + 1, hi => simp at hi

set_option maxRecDepth 100000 in
set_option maxHeartbeats 1000000 in
theorem holdsList_any (A B : Option Addr) (n m c d : Nat) (xss : List (List Int)) (ys : List Int) (w : World) (hx : RLists w A n xss) (hy : RInts w B m ys) :
    Calls Tryz.prog 35 #[.slice A n c, .slice B m d] w fun e w' => e = .returned (.bool (xss.any fun xs => xs == ys)) ∧ Below w.heap.size w w' := by
  have hn := hx.2.1
  have hl := hx.1
  have HX := Lib.hid hx
  have HY := Lib.hid hy
  clear hx hy
  go_enter Tryz.func35, Tryz.ntmps35
  go_wp2_with fail
  go_loopw [5] (fun i wr => ∃ k : Nat, k ≤ n ∧ i = .int .i64 k ∧ Below w.heap.size w wr ∧ ((xss.take k).any fun xs => xs == ys) = false) (fun i _ => n - (intOf i).toNat)
  case atStart => exact ⟨0, Nat.zero_le _, rfl, Below.refl _ _, by simp⟩
  case round =>
    obtain ⟨k, hk, rfl, hb, hno⟩ := hrel
    by_cases hlt : k < n
    · obtain ⟨b, off, xs, C, q, cq, rfl, hbl, ho, c0, hqc, hr⟩ := (HX.out.below hb (Nat.le_refl _)).at_ hlt
      have hst : ((xss.take (k + 1)).any fun xs => xs == ys) = (xs == ys) := by
        rw [List.take_add_one, ho, List.any_append, hno]; simp
      have hmem := List.mem_of_getElem? ho
      obtain ⟨bb, hbb⟩ : ∃ b, (xs == ys) = b := ⟨_, rfl⟩
      have hcl : Calls Tryz.prog 23 #[.slice C q cq, .slice B m d] wr fun e w' => e = .returned (.bool bb) ∧ Below wr.heap.size wr w' := by
        have := equalInts_any C B q m cq d xs ys wr hr (HY.out.below hb (Nat.le_refl _)); rw [hbb] at this; exact this
      have HT : Hid (bb = true → (xss.any fun xs => xs == ys) = true) := fun h => List.any_eq_true.2 ⟨xs, hmem, by rw [hbb]; exact h⟩
      rw [hbb] at hst
      have HS := Lib.hid hst
      have HC := Lib.hid hcl
      clear hst ho hno hcl hbb hmem hr
      go_wp2_with fail
      refine HC.out.mono ?_
      rintro e w1 ⟨rfl, hb1⟩
      have hb2 := hb.trans (hb1.mono hb.size)
      cases bb
      · go_wp2_with fail
        go_roundw
        case rel => exact ⟨k + 1, by omega, by go_num, hb2, HS.out⟩
        case measure => simp [intOf]; omega
      · go_wp2_with fail
        go_ret
        exact ⟨ret_bool (HT.out (by first | rfl | trivial)).symm, hb2⟩
    · rw [List.take_of_length_le (by omega)] at hno
      have HN := Lib.hid hno
      clear hno
      go_wp2_with fail
      go_ret
      exact ⟨ret_bool HN.out.symm, hb⟩
end Go.Proofs.YtkbclcgdkbhgdaaGreat
namespace Go.Proofs.YtkbclcgdkbhgdaaGreat
open Go.RowKit Go.BigFrame
set_option linter.unusedVariables false

/-- The place of a number in a list, -1 if it is not there. -/
def idxZ (xs : List Int) (x : Int) : Int := if xs.any (fun y => y == x) then (xs.findIdx (fun y => y == x) : Int) else -1
theorem idxZ_hit {xs : List Int} {x y : Int} {k : Nat} (ho : xs[k]? = some y) (h : (y == x) = true) (hno : ∀ j, j < k → ∀ y, xs[j]? = some y → (y == x) = false) : idxZ xs x = (k : Int) := by
  obtain ⟨hk, he⟩ := List.getElem?_eq_some_iff.1 ho
  have h1 : xs.any (fun y => y == x) = true := List.any_eq_true.2 ⟨y, List.mem_of_getElem? ho, h⟩
  have h2 : xs.findIdx (fun y => y == x) = k := by
    rw [List.findIdx_eq hk]
    exact ⟨by rw [he]; exact h, fun j hj => by have := hno j hj _ (List.getElem?_eq_getElem (by omega)); exact this⟩
  unfold idxZ
  rw [h1, h2]; rfl
theorem idxZ_none {xs : List Int} {x : Int} (hno : ∀ j, j < xs.length → ∀ y, xs[j]? = some y → (y == x) = false) : idxZ xs x = -1 := by
  unfold idxZ
  have : xs.any (fun y => y == x) = false := by
    rw [List.any_eq_false]
    intro o ho
    obtain ⟨j, hj⟩ := List.mem_iff_getElem?.1 ho
    have hl : j < xs.length := (List.getElem?_eq_some_iff.1 hj).1
    simp [hno j hl o hj]
  rw [this]; rfl
theorem idxZ_any (xs : List Int) (x : Int) : if (xs.any fun y => y == x) = true then 0 ≤ idxZ xs x else idxZ xs x = -1 := by
  unfold idxZ
  split
  · omega
  · rfl


set_option maxHeartbeats 400000 in
theorem spower_any (n : Nat) (w : World) (hn : n ≤ 61) : Calls Tryz.prog 82 #[.int .i64 (n : Int)] w fun e w' => e = .returned (.int .i64 ((2 ^ n : Nat) : Int)) ∧ w = w' := by
  go_enter Tryz.func82, Tryz.ntmps82
  go_wp2_with fail
  go_loop [0, 3] (fun a b => ∃ k : Nat, k ≤ n ∧ a = .int .i64 ((n : Int) - k) ∧ b = .int .i64 ((2 ^ k : Nat) : Int)) (fun a _ => (intOf a).toNat)
  case atStart => exact ⟨0, Nat.zero_le _, by simp, rfl⟩
  case round =>
    obtain ⟨k, hk, rfl, rfl⟩ := hrel
    by_cases hlt : k < n
    · have h2 : 2 ^ k ≤ 2 ^ 61 := Nat.pow_le_pow_right (by omega) (by omega)
      have h3 : Hid (2 ^ (k + 1) = 2 * 2 ^ k) := by show _ = _; rw [Nat.pow_succ]; omega
      generalize hP : 2 ^ k = p at *
      have HP := Lib.hid hP
      clear hP
      have h4 : p ≤ 2305843009213693952 := by have : (2:Nat) ^ 61 = 2305843009213693952 := by decide
                                              omega
      clear h2
      go_wp2_with fail
      go_round
      case rel => exact ⟨k + 1, by omega, by first | go_num | (congr 1; omega), by rw [h3.out]; first | go_num | (congr 1; omega)⟩
      case measure => simp [intOf]; omega
    · obtain rfl : k = n := by omega
      go_wp2_with fail
      go_ret
      exact ⟨rfl, rfl⟩


set_option maxHeartbeats 400000 in
theorem sbit_any (x j : Nat) (w : World) (hx : x ≤ 4611686018427387904) (hj : j ≤ 61) : Calls Tryz.prog 56 #[.int .i64 (x : Int), .int .i64 (j : Int)] w fun e w' => e = .returned (.int .i64 (if x.testBit j then 1 else 0)) ∧ w = w' := by
  have HP := Lib.hid (spower_any j w hj)
  have hp : 0 < 2 ^ j := Nat.two_pow_pos _
  have hq : (2 ^ j : Nat) ≤ 2305843009213693952 := by
    have : 2 ^ j ≤ 2 ^ 61 := Nat.pow_le_pow_right (by omega) hj
    have h2 : (2:Nat) ^ 61 = 2305843009213693952 := by decide
    omega
  obtain ⟨r, hr⟩ : ∃ r : Int, (if x.testBit j then 1 else 0) = r := ⟨_, rfl⟩
  rw [hr]
  have HR : Hid (((x / 2 ^ j % 2 : Nat) : Int) = r) := by
    show _ = _
    rw [← hr]
    rw [Nat.testBit_eq_decide_div_mod_eq]
    by_cases h : x / 2 ^ j % 2 = 1
    · rw [h]; simp
    · have : x / 2 ^ j % 2 = 0 := by omega
      rw [this]; simp
  generalize hP : 2 ^ j = p at *
  have hdiv : x / p ≤ x := Nat.div_le_self _ _
  clear hP hr
  have hpi : (p : Int) ≠ 0 := by omega
  have HD : Hid ((wrap64 ((x : Int) / (p : Int))).tmod 2 = ((x / p % 2 : Nat) : Int)) := by
    show _ = _
    have e1 : ((x : Int) / (p : Int)) = ((x / p : Nat) : Int) := by simp
    rw [e1]
    have e2 : wrap64 ((x / p : Nat) : Int) = ((x / p : Nat) : Int) := by
      generalize x / p = q at *
      unfold wrap64
      omega
    rw [e2]
    rfl
  go_enter Tryz.func56, Tryz.ntmps56
  go_wp2_with fail
  refine HP.out.mono ?_
  rintro e w1 ⟨rfl, rfl⟩
  go_wp2_with fail
  go_ret
  exact ⟨ret_int (by rw [← HR.out]; exact HD.out), rfl⟩


set_option maxHeartbeats 400000 in
theorem hasInt_any (A : Option Addr) (n c : Nat) (xs : List Int) (x : Int) (w : World) (hx : RInts w A n xs) :
    Calls Tryz.prog 55 #[.slice A n c, .int .i64 x] w fun e w' => e = .returned (.bool (xs.any fun y => y == x)) ∧ Below w.heap.size w w' := by
  have hn := hx.2.1
  have hl := hx.1
  have HX := Lib.hid hx
  clear hx
  go_enter Tryz.func55, Tryz.ntmps55
  go_wp2_with fail
  go_loop [5] (fun i => ∃ k : Nat, k ≤ n ∧ i = .int .i64 k ∧ ((xs.take k).any fun y => y == x) = false) (fun i => n - (intOf i).toNat)
  case atStart => exact ⟨0, Nat.zero_le _, rfl, by simp⟩
  case round =>
    obtain ⟨k, hk, rfl, hno⟩ := hrel
    by_cases hlt : k < n
    · obtain ⟨b, off, y, rfl, hbl, ho, c0⟩ := HX.out.at_ hlt
      have hst : ((xs.take (k + 1)).any fun y => y == x) = ((xs.take k).any (fun y => y == x) || y == x) := by
        rw [List.take_add_one, ho, List.any_append]; simp
      rw [hno, Bool.false_or] at hst
      have HS := Lib.hid hst
      have HM := Lib.hid (List.mem_of_getElem? ho)
      clear hst ho hno
      by_cases h1 : y = x
      · have ht : Hid ((xs.any fun y => y == x) = true) := List.any_eq_true.2 ⟨y, HM.out, by simpa using h1⟩
        go_wp2_with fail
        go_ret
        exact ⟨ret_bool ht.out.symm, Below.refl _ _⟩
      · have h1' : (y == x) = false := by simpa using h1
        go_wp2_with fail
        go_round
        case rel => exact ⟨k + 1, by omega, by go_num, by rw [HS.out]; exact h1'⟩
        case measure => simp [intOf]; omega
    · rw [List.take_of_length_le (by omega)] at hno
      have HN := Lib.hid hno
      clear hno
      go_wp2_with fail
      go_ret
      exact ⟨ret_bool HN.out.symm, Below.refl _ _⟩


end Go.Proofs.YtkbclcgdkbhgdaaGreat
namespace Go.Proofs.YtkbclcgdkbhgdaaGreat
open Go.RowKit Go.BigFrame
set_option linter.unusedVariables false

theorem ofInt64 (a : Nat) (ha : a < 9223372036854775808) : (BitVec.ofInt 64 (a : Int)).toNat = a := by
  rw [BitVec.ofInt_natCast, BitVec.toNat_ofNat]; exact Nat.mod_eq_of_lt (by omega)
theorem or_nat (a b : Nat) (ha : a < 9223372036854775808) (hb : b < 9223372036854775808) : bits .or .i64 (a : Int) (b : Int) = ((a ||| b : Nat) : Int) := by
  have hx : a ||| b < 2 ^ 63 := Nat.or_lt_two_pow (by omega) (by omega)
  show IntKind.i64.wrap ((BitVec.ofInt 64 (a : Int) ||| BitVec.ofInt 64 (b : Int)).toNat : Int) = _
  rw [BitVec.toNat_or, ofInt64 a ha, ofInt64 b hb, IntKind.wrap_i64]
  omega
theorem and_nat (a b : Nat) (ha : a < 9223372036854775808) (hb : b < 9223372036854775808) : bits .and .i64 (a : Int) (b : Int) = ((a &&& b : Nat) : Int) := by
  have hx : a &&& b < 2 ^ 63 := Nat.and_lt_two_pow _ (by omega)
  show IntKind.i64.wrap ((BitVec.ofInt 64 (a : Int) &&& BitVec.ofInt 64 (b : Int)).toNat : Int) = _
  rw [BitVec.toNat_and, ofInt64 a ha, ofInt64 b hb, IntKind.wrap_i64]
  omega

def rowSet (rows : List Nat) (t u : Int) : List Nat := rows.set t.toNat (rows.getD t.toNat 0 ||| (1 <<< u.toNat))
def agIn (f : Int → Bool) (t : Int) (list : List Int) (rows : List Nat) : List Nat := list.foldl (fun r u => if f u then rowSet r t u else r) rows
def agTo (g : Nat → OpV → Bool) (f : OpV → Int → Bool) (list : List Int) (s : List OpV) : Nat → List Nat
  | 0 => [0, 0, 0, 0]
  | k + 1 => match s[k]? with | some o => if g k o then agIn (f o) o.tx list (agTo g f list s k) else agTo g f list s k | none => agTo g f list s k
def rowsI (rows : List Nat) : List Int := rows.map fun n : Nat => (n : Int)
/-- Four rows of four bits. -/
def Rows4 (rows : List Nat) : Prop := rows.length = 4 ∧ ∀ r ∈ rows, r < 16

theorem rowSet_ok {rows : List Nat} (h : Rows4 rows) {t u : Int} (hu : 0 ≤ u ∧ u ≤ 3) : Rows4 (rowSet rows t u) := by
  refine ⟨by simp [rowSet, h.1], fun r hr => ?_⟩
  unfold rowSet at hr
  rcases List.mem_or_eq_of_mem_set hr with hr | rfl
  · exact h.2 r hr
  · have h1 : rows.getD t.toNat 0 < 2 ^ 4 := by
      rw [List.getD_eq_getElem?_getD]
      cases he : rows[t.toNat]? with
      | none => simp
      | some x => simpa using h.2 x (List.mem_of_getElem? he)
    have h2 : (1 <<< u.toNat) < 2 ^ 4 := by
      rcases (by omega : u.toNat = 0 ∨ u.toNat = 1 ∨ u.toNat = 2 ∨ u.toNat = 3) with e | e | e | e <;> rw [e] <;> decide
    exact Nat.or_lt_two_pow (n := 4) h1 h2
theorem agIn_ok {f : Int → Bool} {t : Int} {list : List Int} (hl : ∀ u ∈ list, 0 ≤ u ∧ u ≤ 3) : ∀ {rows : List Nat}, Rows4 rows → Rows4 (agIn f t list rows) := by
  unfold agIn
  induction list with
  | nil => intro rows h; exact h
  | cons x r ih =>
    intro rows h
    rw [List.foldl_cons]
    refine ih (fun u hu => hl u (by simp [hu])) ?_
    split
    · exact rowSet_ok h (hl x (by simp))
    · exact h
theorem agTo_ok {g : Nat → OpV → Bool} {f : OpV → Int → Bool} {list : List Int} {s : List OpV} (hl : ∀ u ∈ list, 0 ≤ u ∧ u ≤ 3) (k : Nat) : Rows4 (agTo g f list s k) := by
  induction k with
  | zero => exact ⟨rfl, by simp [agTo]⟩
  | succ k ih =>
    simp only [agTo]
    split
    · split
      · exact agIn_ok hl ih
      · exact ih
    · exact ih
theorem agTo_succ {g : Nat → OpV → Bool} {f : OpV → Int → Bool} {list : List Int} {s : List OpV} {k : Nat} {o : OpV} (h : s[k]? = some o) : agTo g f list s (k + 1) = if g k o then agIn (f o) o.tx list (agTo g f list s k) else agTo g f list s k := by
  simp only [agTo, h]
theorem agIn_snoc {f : Int → Bool} {t : Int} {list : List Int} {rows : List Nat} {j : Nat} {u : Int} (h : list[j]? = some u) : agIn f t (list.take (j + 1)) rows = if f u then rowSet (agIn f t (list.take j) rows) t u else agIn f t (list.take j) rows := by
  unfold agIn
  rw [take_snoc h, List.foldl_append]; rfl
theorem rowsI_at {rows : List Nat} (h : Rows4 rows) {T : Nat} (hT : T ≤ 3) : (intCells (rowsI rows))[T]? = some (.int .i64 ((rows.getD T 0 : Nat) : Int)) ∧ rows.getD T 0 < 16 := by
  have hl := h.1
  have e : rows[T]? = some (rows[T]'(by omega)) := List.getElem?_eq_getElem (by omega)
  rw [List.getD_eq_getElem?_getD, e]
  refine ⟨?_, ?_⟩
  · simp [intCells, rowsI, e]
  · simpa using h.2 _ (List.getElem_mem (by omega))
theorem rowsI_set {rows : List Nat} {T : Nat} {u : Int} : rowsI (rowSet rows T u) = (rowsI rows).set T (((rows.getD T 0 ||| (1 <<< u.toNat) : Nat)) : Int) := by
  simp [rowsI, rowSet, List.map_set]
theorem and_bit (m j : Nat) (hm : m < 4611686018427387904) : bits .and .i64 ((m : Int) / 2 ^ j) 1 = if m.testBit j then 1 else 0 := by
  have e : ((m : Int) / 2 ^ j) = ((m / 2 ^ j : Nat) : Int) := by simp
  have h1 : m / 2 ^ j ≤ m := Nat.div_le_self _ _
  rw [e, show (1 : Int) = ((1 : Nat) : Int) from rfl, and_nat _ _ (by omega) (by omega), Nat.and_one_is_mod]
  rw [Nat.testBit_eq_decide_div_mod_eq]
  by_cases h : m / 2 ^ j % 2 = 1
  · rw [h]; simp
  · have : m / 2 ^ j % 2 = 0 := by omega
    rw [this]; simp
theorem validS_ops {s : List OpV} (h : validS s = true) : ∀ o ∈ s, validOp o = true := by
  intro o ho
  unfold validS at h
  simp only [Bool.and_eq_true, List.all_eq_true] at h
  obtain ⟨k, hk⟩ := List.mem_iff_getElem?.1 ho
  have hl : k < s.length := by
    rcases Nat.lt_or_ge k s.length with h | h
    · exact h
    · rw [List.getElem?_eq_none h] at hk; cases hk
  have := h.2 k (List.mem_range.2 hl)
  unfold goodAt at this
  rw [hk] at this
  simp only [Bool.and_eq_true] at this
  exact this.1
theorem validS_item {s : List OpV} (h : validS s = true) {o : OpV} (ho : o ∈ s) : 0 ≤ o.item ∧ o.item ≤ 2 := by
  have := validS_ops h o ho
  simp [validOp, isAcc, isEnd, inR] at this
  omega
theorem validS_tx3 {s : List OpV} (h : validS s = true) {o : OpV} (ho : o ∈ s) : 0 ≤ o.tx ∧ o.tx ≤ 3 := by
  have := validS_ops h o ho
  simp [validOp, inR] at this
  omega
theorem rowSet_bit {rows : List Nat} (h : Rows4 rows) {T U t u : Nat} (hT : T ≤ 3) : ((rowSet rows T U).getD t 0).testBit u = ((rows.getD t 0).testBit u || (decide (t = T) && decide (u = U))) := by
  unfold rowSet
  simp only [Int.toNat_natCast]
  rw [List.getD_eq_getElem?_getD, List.getElem?_set]
  by_cases e : T = t
  · subst e
    have hl : T < rows.length := by rw [h.1]; omega
    rw [if_pos rfl, if_pos hl]
    simp only [Option.getD_some, Nat.testBit_or, Nat.one_shiftLeft, Nat.testBit_two_pow, decide_true, Bool.true_and]
    congr 1
    exact decide_eq_decide.2 ⟨fun h => h.symm, fun h => h.symm⟩
  · rw [if_neg e, List.getD_eq_getElem?_getD]
    have : ¬ t = T := fun h => e h.symm
    simp [this]
end Go.Proofs.YtkbclcgdkbhgdaaGreat
namespace Go.Proofs.YtkbclcgdkbhgdaaGreat
open Go.RowKit
set_option linter.unusedVariables false

/-- Whether the graph tells u for t. -/
def edgeB (rows : List Nat) (t u : Int) : Bool := (rows.getD t.toNat 0).testBit u.toNat
/-- All orders of the list that begin with some, with n more to come. -/
def permF (list : List Int) : Nat → List Int → List (List Int)
  | 0, pre => [pre]
  | n + 1, pre => list.flatMap fun t => if pre.any (fun y => y == t) then [] else permF list n (pre ++ [t])
def accB (rows : List Nat) : List Int → List Int → Bool
  | _, [] => true
  | pre, t :: r => !(pre.any fun u => edgeB rows t u) && accB rows (pre ++ [t]) r
/-- The orders by a graph, as the program finds them. -/
def ordI (list : List Int) (rows : List Nat) : List (List Int) := (permF list list.length []).filter (accB rows [])
/-- As the reference builds them. -/
def topF (list : List Int) (rows : List Nat) : Nat → List Int → List (List Int)
  | 0, pre => [pre]
  | n + 1, pre => list.flatMap fun t => if !(pre.any fun y => y == t) && list.all (fun v => !edgeB rows v t || pre.any fun y => y == v) then topF list rows n (pre ++ [t]) else []

theorem any_mem_iff {L : List Int} {x : Int} : (L.any fun y => y == x) = true ↔ x ∈ L := by
  rw [List.any_eq_true]
  constructor
  · rintro ⟨y, hy, e⟩
    have : y = x := by simpa using e
    subst this; exact hy
  · intro h; exact ⟨x, h, by simp⟩
theorem accB_append (rows : List Nat) (q : List Int) : ∀ (p pre : List Int), accB rows pre (p ++ q) = (accB rows pre p && accB rows (pre ++ p) q) := by
  intro p
  induction p with
  | nil => intro pre; simp [accB]
  | cons t r ih =>
    intro pre
    simp only [List.cons_append, accB, ih]
    rw [Bool.and_assoc, List.append_assoc]
    rfl
theorem nodup_len {l1 : List Int} : ∀ {l2 : List Int}, l1.Nodup → (∀ x ∈ l1, x ∈ l2) → l1.length ≤ l2.length := by
  induction l1 with
  | nil => intro l2 _ _; exact Nat.zero_le _
  | cons x r ih =>
    intro l2 hd hs
    rw [List.nodup_cons] at hd
    have hx := hs x (by simp)
    have h1 := ih (l2 := l2.erase x) hd.2 (fun y hy => by
      have hne : y ≠ x := fun e => hd.1 (by rw [← e]; exact hy)
      exact (List.mem_erase_of_ne hne).2 (hs y (by simp [hy])))
    rw [List.length_erase_of_mem hx] at h1
    have : 0 < l2.length := List.length_pos_of_mem hx
    simp only [List.length_cons]
    omega
/-- What the orders are made of. -/
theorem permF_mem {list : List Int} (hd : list.Nodup) (n : Nat) : ∀ {pre : List Int}, pre.Nodup → (∀ x ∈ pre, x ∈ list) → pre.length + n = list.length → ∀ p ∈ permF list n pre, (∃ q, p = pre ++ q) ∧ (∀ v ∈ list, v ∈ p) := by
  induction n with
  | zero =>
    intro pre hpd hsub hl p hp
    simp only [permF, List.mem_singleton] at hp
    subst hp
    refine ⟨⟨[], by simp⟩, fun v hv => ?_⟩
    by_cases hm : v ∈ p
    · exact hm
    · exfalso
      have := nodup_len (l1 := v :: p) (l2 := list) (List.nodup_cons.2 ⟨hm, hpd⟩) (fun x hx => by
        rcases List.mem_cons.1 hx with h | h
        · rw [h]; exact hv
        · exact hsub x h)
      simp only [List.length_cons] at this
      omega
  | succ n ih =>
    intro pre hpd hsub hl p hp
    simp only [permF, List.mem_flatMap] at hp
    obtain ⟨t, ht, hp⟩ := hp
    split at hp
    · cases hp
    · rename_i hm
      have hnm : t ∉ pre := fun h => hm (any_mem_iff.2 h)
      have hpd' : (pre ++ [t]).Nodup := by
        rw [List.nodup_append]
        refine ⟨hpd, by simp, ?_⟩
        intro a ha b hb
        rw [List.mem_singleton] at hb
        subst hb
        exact fun e => hnm (e ▸ ha)
      obtain ⟨⟨q, hq⟩, hall⟩ := ih hpd' (fun x hx => by
        rcases List.mem_append.1 hx with hx | hx
        · exact hsub x hx
        · rw [List.mem_singleton] at hx; subst hx; exact ht) (by simp; omega) p hp
      exact ⟨⟨t :: q, by rw [hq, List.append_assoc]; rfl⟩, hall⟩
theorem filter_flat {α β : Type} (p : β → Bool) (f : α → List β) : ∀ l : List α, (l.flatMap f).filter p = l.flatMap fun x => (f x).filter p := by
  intro l
  induction l with
  | nil => rfl
  | cons x r ih => rw [List.flatMap_cons, List.flatMap_cons, List.filter_append, ih]
theorem flat_congr {α β : Type} {f g : α → List β} : ∀ {l : List α}, (∀ x ∈ l, f x = g x) → l.flatMap f = l.flatMap g := by
  intro l
  induction l with
  | nil => intro _; rfl
  | cons x r ih =>
    intro h
    rw [List.flatMap_cons, List.flatMap_cons, h x (by simp), ih (fun y hy => h y (by simp [hy]))]
theorem top_eq {list : List Int} {rows : List Nat} (hd : list.Nodup) (hs : ∀ t ∈ list, edgeB rows t t = false) (n : Nat) :
    ∀ {pre : List Int}, pre.Nodup → (∀ x ∈ pre, x ∈ list) → pre.length + n = list.length → accB rows [] pre = true → (∀ u ∈ pre, ∀ v ∈ list, edgeB rows v u = true → v ∈ pre) →
      (permF list n pre).filter (accB rows []) = topF list rows n pre := by
  induction n with
  | zero =>
    intro pre _ _ _ hacc _
    simp only [permF, topF]
    rw [List.filter_cons, if_pos hacc, List.filter_nil]
  | succ n ih =>
    intro pre hpd hsub hl hacc hcl
    simp only [permF, topF]
    rw [filter_flat]
    refine flat_congr fun t ht => ?_
    cases hm : (pre.any fun y => y == t)
    · have hnm : t ∉ pre := fun h => by rw [any_mem_iff.2 h] at hm; cases hm
      have hpd' : (pre ++ [t]).Nodup := by
        rw [List.nodup_append]
        refine ⟨hpd, by simp, ?_⟩
        intro a ha b hb
        rw [List.mem_singleton] at hb
        subst hb
        exact fun e => hnm (e ▸ ha)
      have hsub' : ∀ x ∈ pre ++ [t], x ∈ list := fun x hx => by
        rcases List.mem_append.1 hx with hx | hx
        · exact hsub x hx
        · rw [List.mem_singleton] at hx; subst hx; exact ht
      have hl' : (pre ++ [t]).length + n = list.length := by simp; omega
      simp only [Bool.false_eq_true, if_false, Bool.not_false, Bool.true_and]
      cases hc : (list.all fun v => !edgeB rows v t || pre.any fun y => y == v)
      · -- one that must come ahead is missing: all these orders fall
        simp only [Bool.false_eq_true, if_false]
        rw [List.filter_eq_nil_iff]
        intro p hp ha
        obtain ⟨⟨q, hq⟩, hall⟩ := permF_mem hd n hpd' hsub' hl' p hp
        rw [List.all_eq_false] at hc
        obtain ⟨v, hv, hvc⟩ := hc
        simp only [Bool.or_eq_true, Bool.not_eq_true', not_or, Bool.not_eq_true] at hvc
        obtain ⟨hve, hvp⟩ := hvc
        have hve' : edgeB rows v t = true := by
          cases h : edgeB rows v t
          · exact absurd h (by simpa using hve)
          · rfl
        have hvn : v ∉ pre := fun h => by rw [any_mem_iff.2 h] at hvp; cases hvp
        have hvt : v ≠ t := fun e => by rw [e, hs t ht] at hve'; cases hve'
        have hvm : v ∈ q := by
          have := hall v hv
          rw [hq] at this
          rcases List.mem_append.1 this with h | h
          · rcases List.mem_append.1 h with h | h
            · exact absurd h hvn
            · rw [List.mem_singleton] at h; exact absurd h hvt
          · exact h
        obtain ⟨q1, q2, hq12⟩ := List.append_of_mem hvm
        rw [hq, hq12, accB_append rows (q1 ++ v :: q2) (pre ++ [t]), accB_append rows (v :: q2) q1] at ha
        simp only [Bool.and_eq_true, accB] at ha
        have h3 := ha.2.2.1
        simp only [Bool.not_eq_true'] at h3
        rw [List.any_eq_false] at h3
        exact h3 t (by simp) hve'
      · simp only [if_true]
        rw [List.all_eq_true] at hc
        have hcond : ∀ v ∈ list, edgeB rows v t = true → v ∈ pre := fun v hv he => by
          have := hc v hv
          rw [he] at this
          simp only [Bool.not_true, Bool.false_or] at this
          exact any_mem_iff.1 this
        refine ih hpd' hsub' hl' ?_ ?_
        · rw [accB_append, hacc]
          simp only [accB, Bool.true_and, Bool.and_true, List.nil_append, Bool.not_eq_true']
          rw [List.any_eq_false]
          intro u hu he
          exact hnm (hcl u hu t ht he)
        · intro u hu v hv he
          rcases List.mem_append.1 hu with hu | hu
          · exact List.mem_append_left _ (hcl u hu v hv he)
          · rw [List.mem_singleton] at hu
            subst hu
            exact List.mem_append_left _ (hcond v hv he)
    · simp
theorem ord_eq {list : List Int} {rows : List Nat} (hd : list.Nodup) (hs : ∀ t ∈ list, edgeB rows t t = false) : ordI list rows = topF list rows list.length [] :=
  top_eq hd hs list.length (by simp) (by simp) (by simp) rfl (by simp)
end Go.Proofs.YtkbclcgdkbhgdaaGreat
namespace Go.Proofs.YtkbclcgdkbhgdaaGreat
open Go.RowKit Go.BigFrame
set_option linter.unusedVariables false

/-- Block rb is a reader at position p, whose bytes lie in an older block. -/
def Rd (w : World) (rb : Nat) (p : Nat) : Prop :=
  ∃ (A : Option Addr) (m c : Nat), w.heap[rb]? = some (.cells #[.slice A m c, .int .i64 (p : Int)] 57 (0, 0)) ∧ m ≤ 2000 ∧
    (0 < m → ∃ (b off : Nat) (f : Nat → Int), A = some ⟨b, off, none⟩ ∧ b < rb ∧ ∀ i, i < m → 0 ≤ f i ∧ f i ≤ 255 ∧ w.cell? ⟨b, off + i, none⟩ = some (.int .u8 (f i)))

/-- Only block rb, and what is new, has turned. -/
def Only (rb : Nat) (w w' : World) : Prop := w.grownBy w' (some rb)

theorem Only.refl (rb : Nat) (w : World) : Only rb w w := ⟨rfl, rfl, rfl, Nat.le_refl _, fun _ _ _ => rfl⟩
theorem Only.trans {rb : Nat} {a b c : World} (h : Only rb a b) (k : Only rb b c) : Only rb a c := World.grownBy.trans h k
theorem Only.size {rb : Nat} {a b : World} (h : Only rb a b) : a.heap.size ≤ b.heap.size := World.grownBy.size h
theorem Only.of_below {rb : Nat} {a b : World} (h : Below a.heap.size a b) : Only rb a b := ⟨h.os, h.tape, h.output, h.size, fun i hi _ => h.block i hi⟩
theorem Only.cell {rb : Nat} {a w : World} (h : Only rb a w) {b o : Nat} (hb : b < a.heap.size) (hne : b ≠ rb) : w.cell? ⟨b, o, none⟩ = a.cell? ⟨b, o, none⟩ :=
  World.cell?_of_block (w := a) (a := ⟨b, o, none⟩) (h.block b hb (fun e => hne (by injection e)))
theorem Only.heap {rb : Nat} {a w : World} (h : Only rb a w) {b : Nat} (hb : b < a.heap.size) (hne : b ≠ rb) : w.heap[b]? = a.heap[b]? :=
  h.block b hb (fun e => hne (by injection e))
theorem Only.drewN {rb : Nat} {a w : World} (h : Only rb a w) (n : Nat) : Only rb a (w.drewN n) := ⟨h.os, h.tape, h.output, h.size, h.block⟩
theorem Only.alloc {rb : Nat} {a w : World} (h : Only rb a w) (o : Obj) : Only rb a (w.alloc o) :=
  ⟨h.os, h.tape, h.output, Nat.le_trans h.size (by simp), fun i hi hne => (Below.heap_alloc w o i (Nat.lt_of_lt_of_le hi h.size)).trans (h.block i hi hne)⟩
theorem Only.setCell {a w : World} {g : Nat} (h : Only g a w) {p : Addr} (hp : p.block = g ∨ a.heap.size ≤ p.block) (u : Value) : Only g a (w.setCell p u) :=
  ⟨h.os, h.tape, h.output, by simpa [World.setCell] using h.size, fun i hi hne => (Below.heap_setCell w p u i (by
    rintro rfl
    rcases hp with hp | hp
    · exact hne (by rw [hp])
    · omega)).trans (h.block i hi hne)⟩

theorem Rd.lt {w : World} {rb p : Nat} (h : Rd w rb p) : rb < w.heap.size := by
  obtain ⟨A, m, c, hh, _⟩ := h
  exact lt_of_block hh
theorem Rd.drewN {w : World} {rb p : Nat} (h : Rd w rb p) (n : Nat) : Rd (w.drewN n) rb p := h
/-- A reader is kept by whatever does not touch it. -/
theorem Rd.below {w w' : World} {rb p : Nat} (h : Rd w rb p) (hb : Below w.heap.size w w') : Rd w' rb p := by
  have hlt := h.lt
  obtain ⟨A, m, c, hh, hm, hc⟩ := h
  refine ⟨A, m, c, (hb.block rb hlt).trans hh, hm, fun h0 => ?_⟩
  obtain ⟨b, off, f, hA, hbl, hf⟩ := hc h0
  exact ⟨b, off, f, hA, hbl, fun i hi => ⟨(hf i hi).1, (hf i hi).2.1, (hb.cell (p := ⟨b, _, none⟩) (by simp; omega)).trans (hf i hi).2.2⟩⟩

theorem ofInt_i64 (a : Nat) (ha : a < 9223372036854775808) : (BitVec.ofInt 64 (a : Int)).toNat = a := by
  rw [BitVec.ofInt_natCast, BitVec.toNat_ofNat]; exact Nat.mod_eq_of_lt (by omega)
theorem xor_nat (a b : Nat) (ha : a < 9223372036854775808) (hb : b < 9223372036854775808) : bits .xor .i64 (a : Int) (b : Int) = ((a ^^^ b : Nat) : Int) := by
  have hx : a ^^^ b < 2 ^ 63 := Nat.xor_lt_two_pow (by omega) (by omega)
  show IntKind.i64.wrap ((BitVec.ofInt 64 (a : Int) ^^^ BitVec.ofInt 64 (b : Int)).toNat : Int) = _
  rw [BitVec.toNat_xor, ofInt_i64 a ha, ofInt_i64 b hb, IntKind.wrap_i64]
  omega
/-- The mixture is not below 0, so its remainder is in range. -/
theorem mix_rng (x n : Int) (h0 : 0 ≤ x) (h1 : x < 9223372036854775808) (hn : 1 ≤ n) : 0 ≤ (bits .xor .i64 x (x / 64)).tmod n ∧ (bits .xor .i64 x (x / 64)).tmod n < n := by
  obtain ⟨a, rfl⟩ := Int.eq_ofNat_of_zero_le h0
  have e : ((a : Int) / 64) = ((a / 64 : Nat) : Int) := by omega
  rw [e, xor_nat a (a / 64) (by omega) (by omega)]
  exact ⟨Int.tmod_nonneg _ (by omega), Int.tmod_lt_of_pos _ (by omega)⟩

def Picked (rb p : Nat) (n : Int) (w : World) (e : Ending) (w' : World) : Prop :=
  ∃ v : Int, e = .returned (.int .i64 v) ∧ Rd w' rb (p + 1) ∧ (n < 1 → v = 0) ∧ (1 ≤ n → 0 ≤ v ∧ v < n) ∧ Only rb w w'

set_option maxHeartbeats 400000 in
theorem pick_any (rb p : Nat) (n : Int) (w : World) (h : Rd w rb p) (hp : p ≤ 100000) (hn : n ≤ 1099511627776) :
    Calls Tryz.prog 71 #[.pointer (some ⟨rb, 0, none⟩), .int .i64 n] w (Picked rb p n w) := by
  have hlt := h.lt
  obtain ⟨A, m, c, hh, hm, hc⟩ := h
  have c0 : w.cell? ⟨rb, 0, none⟩ = some (.slice A m c) := by simp [World.cell?, hh]
  have c1 : w.cell? ⟨rb, 1, none⟩ = some (.int .i64 (p : Int)) := by simp [World.cell?, hh]
  have f1 : w.frozen? ⟨rb, 1, none⟩ = false := by simp [World.frozen?, hh]
  have HO : Hid (Only rb w (w.setCell ⟨rb, 1, none⟩ (.int .i64 ((p : Int) + 1)))) := (Only.refl rb w).setCell (.inl rfl) _
  have HR : Hid (Rd (w.setCell ⟨rb, 1, none⟩ (.int .i64 ((p : Int) + 1))) rb (p + 1)) := by
    refine ⟨A, m, c, by simp [World.setCell, Array.getElem?_modify, hh], hm, fun h0 => ?_⟩
    obtain ⟨b, off, f, hA, hbl, hf⟩ := hc h0
    refine ⟨b, off, f, hA, hbl, fun i hi => ⟨(hf i hi).1, (hf i hi).2.1, ?_⟩⟩
    rw [World.cell?_setCell_other _ _ _ _ (by simp; try omega)]
    exact (hf i hi).2.2
  clear hh
  by_cases hn1 : n < 1
  · clear hc
    go_enter Tryz.func71, Tryz.ntmps71
    go_wp2
    go_ret
    exact ⟨0, rfl, HR.out, fun _ => rfl, fun h => absurd h (by omega), HO.out⟩
  · by_cases hm0 : m = 0
    · subst hm0
      clear hc
      go_enter Tryz.func71, Tryz.ntmps71
      go_wp2
      go_ret
      exact ⟨0, rfl, HR.out, fun _ => rfl, fun h => ⟨by omega, by omega⟩, HO.out⟩
    · obtain ⟨b, off, f, rfl, hbl, hf⟩ := hc (by omega)
      have hbr : b ≠ rb := by omega
      by_cases hk : p < m
      · obtain ⟨g0, g1, g2⟩ := hf p hk
        clear hf
        go_enter Tryz.func71, Tryz.ntmps71
        go_wp2
        go_ret
        exact ⟨f p % n, rfl, HR.out, fun h => absurd h (by omega), fun _ => ⟨Int.emod_nonneg _ (by omega), Int.emod_lt_of_pos _ (by omega)⟩, HO.out⟩
      · have hmp : 0 < m := by omega
        have hq1 : p % m < m := Nat.mod_lt _ hmp
        have hq2 : (p * 7 + 3) % m < m := Nat.mod_lt _ hmp
        have hq3 : (p / m) ≤ p := Nat.div_le_self _ _
        obtain ⟨g0, g1, g2⟩ := hf (p % m) hq1
        obtain ⟨k0, k1, k2⟩ := hf ((p * 7 + 3) % m) hq2
        clear hf
        have e1 : 0 ≤ ((p : Int) % (m : Int)) := Int.emod_nonneg _ (by omega)
        have e2 : ((p : Int) % (m : Int)) < m := Int.emod_lt_of_pos _ (by omega)
        have e5 : 0 ≤ ((p : Int) / (m : Int)) := Int.ediv_nonneg (by omega) (by omega)
        have e6 : ((p : Int) / (m : Int)) ≤ 100000 := Int.le_trans (Int.ediv_le_self _ (by omega)) (by omega)
        have e3 : 0 ≤ (((p : Int) * 7 + 3) % (m : Int)) := Int.emod_nonneg _ (by omega)
        have e4 : (((p : Int) * 7 + 3) % (m : Int)) < m := Int.emod_lt_of_pos _ (by omega)
        go_enter Tryz.func71, Tryz.ntmps71
        go_wp2
        refine wp_region_quiet_lit (by kernel_rfl) (by kernel_rfl) ?_
        iterate 46 (go_big_quiet_want; go_big_quiet_op; go_big_quiet_on)
        refine wpQuiet_nil ?_
        intro _ hw'
        obtain ⟨nq, hw''⟩ := hw'
        subst hw''
        go_wp2
        go_ret
        exact ⟨_, rfl, HR.out.drewN nq, fun h => absurd h (by omega), fun _ => mix_rng _ _ (by omega) (by omega) (by omega), HO.out.drewN nq⟩

def OneOf (rb p : Nat) (xs : List Int) (w : World) (e : Ending) (w' : World) : Prop :=
  ∃ v : Int, e = .returned (.int .i64 v) ∧ v ∈ xs ∧ Rd w' rb (p + 1) ∧ Only rb w w'

set_option maxHeartbeats 400000 in
theorem one_any (rb p : Nat) (A : Option Addr) (k c : Nat) (xs : List Int) (w : World) (h : Rd w rb p) (hp : p ≤ 100000) (hx : RInts w A k xs) (hk : 0 < k)
    (hne : ∀ ad, A = some ad → ad.block ≠ rb) :
    Calls Tryz.prog 72 #[.pointer (some ⟨rb, 0, none⟩), .slice A k c] w (OneOf rb p xs w) := by
  have hkb := hx.2.1
  have hat : ∀ (v : Int) (w1 : World), Only rb w w1 → 0 ≤ v → v < k → ∃ b off x, A = some ⟨b, off, none⟩ ∧ x ∈ xs ∧ w1.cell? ⟨b, off + v.toNat, none⟩ = some (.int .i64 x) := by
    intro v w1 ho h0 h1
    obtain ⟨b, off, x, hA, hlt, hxx, hc⟩ := hx.at_ (k := v.toNat) (by omega)
    exact ⟨b, off, x, hA, List.mem_of_getElem? hxx, (ho.cell hlt (hne _ hA)).trans hc⟩
  have HA := Lib.hid hat
  clear hat hx hne
  go_enter Tryz.func72, Tryz.ntmps72
  go_wp2_with fail
  refine (pick_any rb p _ w h hp (by omega)).mono ?_
  rintro e w1 ⟨v, rfl, hr, _, hv, ho⟩
  obtain ⟨hv0, hv1⟩ := hv (by omega)
  obtain ⟨b, off, x, hA, hxm, hc⟩ := HA.out v w1 ho hv0 hv1
  subst hA
  go_wp2_with fail
  go_ret
  exact ⟨x, rfl, hxm, hr, ho⟩

def Made (w : World) (e : Ending) (w' : World) : Prop :=
  ∃ rb, e = .returned (.pointer (some ⟨rb, 0, none⟩)) ∧ w.heap.size ≤ rb ∧ Rd w' rb 0 ∧ Below w.heap.size w w'

set_option maxHeartbeats 400000 in
theorem newReader_any (A : Option Addr) (n c : Nat) (w : World) (hx : RBytes w A n) (hc : n ≤ c) :
    Calls Tryz.prog 15 #[.slice A n c] w (Made w) := by
  obtain ⟨hn, hx⟩ := hx
  have hin : ∀ m c', m ≤ n → m ≤ 2000 → Rd (w.alloc (.cells #[.slice A m c', .int .i64 0] 57)) w.heap.size 0 := by
    intro m c' hm h2
    refine ⟨A, m, c', heap_alloc_new w _, h2, fun h0 => ?_⟩
    obtain ⟨b, off, hA, hlt, hf⟩ := hx (by omega)
    have hch := fun i => if h : i < n then (hf i h).choose else (0 : Int)
    refine ⟨b, off, fun i => if h : i < n then (hf i h).choose else 0, hA, hlt, fun i hi => ?_⟩
    have hin : i < n := by omega
    simp only [hin, dif_pos]
    have hs := (hf i hin).choose_spec
    exact ⟨hs.1, hs.2.1, (World.cell?_alloc_lt w _ ⟨b, off + i, none⟩ (by simpa using hlt)).trans hs.2.2⟩
  have HI := Lib.hid hin
  clear hin hx
  by_cases h2 : 2000 < n
  · go_enter Tryz.func15, Tryz.ntmps15
    go_wp2
    go_ret
    exact ⟨_, rfl, Nat.le_refl _, HI.out 2000 _ (by omega) (by omega), (Below.refl _ _).alloc (Nat.le_refl _) _⟩
  · go_enter Tryz.func15, Tryz.ntmps15
    go_wp2
    go_ret
    exact ⟨_, rfl, Nat.le_refl _, HI.out n _ (by omega) (by omega), (Below.refl _ _).alloc (Nat.le_refl _) _⟩

end Go.Proofs.YtkbclcgdkbhgdaaGreat
namespace Go.Proofs.YtkbclcgdkbhgdaaGreat
open Go.RowKit Go.BigFrame
set_option linter.unusedVariables false

theorem rowInfo : (Tryz.prog.info? 23).map (fun i => (i.zero, i.size, i.bytes)) = some (some (.slice none 0 0), 1, 24) := by kernel_rfl

/-- A value that is a row of at most five operations, its block between lo and hi. -/
def RowV (w : World) (lo hi : Nat) (v : Value) : Prop :=
  ∃ (A : Option Addr) (n c : Nat) (xs : List OpV), v = .slice A n c ∧ n ≤ c ∧ n ≤ 5 ∧ ROps w A n xs ∧
    ∀ ad, A = some ad → lo ≤ ad.block ∧ ad.block < hi ∧ ∃ cs fr, w.heap[ad.block]? = some (.cells cs 46 fr)
def RowsV (w : World) (lo hi : Nat) (vs : List Value) : Prop := ∀ v ∈ vs, RowV w lo hi v

theorem RowV.keep {w w' : World} {lo hi : Nat} {v : Value} (h : RowV w lo hi v) (hk : ∀ b, lo ≤ b → b < hi → (∃ cs fr, w.heap[b]? = some (.cells cs 46 fr)) → w'.heap[b]? = w.heap[b]?)
    (hs : w.heap.size ≤ w'.heap.size) : RowV w' lo hi v := by
  obtain ⟨A, n, c, xs, hv, hnc, hn, ⟨h1, h2, h3⟩, hA⟩ := h
  refine ⟨A, n, c, xs, hv, hnc, hn, ⟨h1, h2, fun h0 => ?_⟩, fun ad had => ?_⟩
  · obtain ⟨b, off, rfl, hb, hc⟩ := h3 h0
    obtain ⟨a1, a2, a3⟩ := hA _ rfl
    have hh := hk b a1 a2 a3
    refine ⟨b, off, rfl, by omega, fun i o ho => ?_⟩
    obtain ⟨c0, c1, c2⟩ := hc i o ho
    exact ⟨(World.cell?_of_block (w := w) (a := ⟨b, _, none⟩) hh).trans c0, (World.cell?_of_block (w := w) (a := ⟨b, _, none⟩) hh).trans c1, (World.cell?_of_block (w := w) (a := ⟨b, _, none⟩) hh).trans c2⟩
  · obtain ⟨a1, a2, cs, fr, a3⟩ := hA _ had
    exact ⟨a1, a2, cs, fr, (hk _ a1 a2 ⟨cs, fr, a3⟩).trans a3⟩
theorem RowV.wider {w : World} {lo hi hi' : Nat} {v : Value} (h : RowV w lo hi v) (hh : hi ≤ hi') : RowV w lo hi' v := by
  obtain ⟨A, n, c, xs, hv, hnc, hn, hr, hA⟩ := h
  exact ⟨A, n, c, xs, hv, hnc, hn, hr, fun ad had => ⟨(hA ad had).1, by have := (hA ad had).2.1; omega, (hA ad had).2.2⟩⟩
theorem RowsV.keep {w w' : World} {lo hi : Nat} {vs : List Value} (h : RowsV w lo hi vs) (hk : ∀ b, lo ≤ b → b < hi → (∃ cs fr, w.heap[b]? = some (.cells cs 46 fr)) → w'.heap[b]? = w.heap[b]?)
    (hs : w.heap.size ≤ w'.heap.size) : RowsV w' lo hi vs := fun v hv => (h v hv).keep hk hs
/-- An own row of operations, as a row value. -/
theorem RowV.of_own {w : World} {lo base c n : Nat} {A : Option Addr} {xs : List OpV} (h : w.ownsRow base 46 3 (.slice A n c) n (opCells xs)) (hlo : lo ≤ base) (hn : n ≤ 5) : RowV w lo w.heap.size (.slice A n c) := by
  refine ⟨A, n, c, xs, rfl, ?_, hn, ROps.of_own h (by omega), fun ad had => ?_⟩
  · rcases h.2 with ⟨h1, h2⟩ | ⟨g, cap, cur, h1, h2, h3, h4, h5, h6, h7⟩
    · omega
    · injection h1 with _ _ hc
      subst hc
      exact h4
  · subst had
    rcases h.2 with ⟨h1, h2⟩ | ⟨g, cap, cur, h1, h2, h3, h4, h5, h6, h7⟩
    · cases h1
    · injection h1 with ha _ _
      injection ha with ha
      subst ha
      exact ⟨by simp; omega, lt_of_block h3, cur, _, h3⟩
theorem own_form {w : World} {base : Nat} {e : TypeId} {size n : Nat} {v : Value} {xs : List Value} (h : w.ownsRow base e size v n xs) : ∃ A c, v = .slice A n c := by
  rcases h.2 with ⟨h1, h2⟩ | ⟨g, cap, cur, h1, _⟩
  · exact ⟨none, 0, by rw [h1, h2]⟩
  · exact ⟨_, _, h1⟩

theorem own_only {w w' : World} {rb L : Nat} {e : TypeId} {size n : Nat} {v : Value} {xs : List Value} (h : w.ownsRow L e size v n xs) (ho : Only rb w w') (hrb : rb < L) : w'.ownsRow L e size v n xs := by
  refine World.ownsRow.kept h ho ?_
  cases hv : v.ownBlock with
  | none => exact .inl rfl
  | some g =>
    refine .inr (fun e => ?_)
    injection e with e
    have := (World.ownsRow.lt h g hv).1
    omega
theorem Only.grown {rb : Nat} {a w w' : World} {row : Option Nat} (h : Only rb a w) (hg : w.grownBy w' row) (hr : ∀ k, row = some k → a.heap.size ≤ k) : Only rb a w' :=
  ⟨hg.os.trans h.os, hg.tape.trans h.tape, hg.output.trans h.output, Nat.le_trans h.size hg.size, fun i hi hne =>
    (hg.block i (Nat.lt_of_lt_of_le hi h.size) (fun e => by have := hr i e.symm; omega)).trans (h.block i hi hne)⟩
theorem Only.own {rb : Nat} {a w w' : World} {L : Nat} {e : TypeId} {size n : Nat} {v : Value} {xs : List Value} (h : Only rb a w) (hown : w.ownsRow L e size v n xs) (hL : a.heap.size ≤ L) (hg : w.grownBy w' v.ownBlock) : Only rb a w' :=
  h.grown hg fun k hk => Nat.le_trans hL (World.ownsRow.lt hown k hk).1
theorem RowsV.only {w w' : World} {rb lo hi : Nat} {vs : List Value} (h : RowsV w lo hi vs) (ho : Only rb w w') (hhi : hi ≤ w.heap.size) (hrb : rb < lo) : RowsV w' lo hi vs :=
  h.keep (fun b h1 h2 _ => ho.heap (by omega) (by omega)) ho.size
theorem RowsV.grown {w w' : World} {lo hi L : Nat} {vs : List Value} {size n : Nat} {v : Value} {xs : List Value} (h : RowsV w lo hi vs) (hown : w.ownsRow L 23 size v n xs) (hg : w.grownBy w' v.ownBlock) (hhi : hi ≤ w.heap.size) : RowsV w' lo hi vs := by
  refine h.keep (fun b h1 h2 h3 => hg.block b (by omega) (fun e => ?_)) hg.size
  obtain ⟨cs, fr, h3⟩ := h3
  rcases hown.2 with ⟨h4, h5⟩ | ⟨g, cap, cur, h4, _, h6, _⟩
  · rw [h4] at e; simp [Value.ownBlock] at e
  · rw [h4] at e
    simp [Value.ownBlock] at e
    subst e
    rw [h3] at h6
    injection h6 with h6
    injection h6 with _ h6 _
    exact absurd h6 (by decide)

def lenOf : Value → Nat | .slice _ n _ => n | _ => 0
/-- What the inner loop of 'programs' carries. -/
def Inner (ws : World) (rb p0 : Nat) (v : Value) (k left : Int) (w : World) : Prop :=
  ∃ (n : Nat) (xs : List OpV) (p : Nat), w.ownsRow ws.heap.size 46 3 v n (opCells xs) ∧ 0 ≤ k ∧ n + k.toNat ≤ 4 ∧ 0 ≤ left ∧ left ≤ 16 ∧ Rd w rb p ∧ p ≤ p0 + 2 * n ∧ Only rb ws w
/-- What the outer loop of 'programs' carries. -/
def Outer (w0 : World) (rb p0 : Nat) (v : Value) (left : Int) (vs : List Value) (w : World) : Prop :=
  ∃ p : Nat, w.ownsRow w0.heap.size 23 1 v vs.length vs ∧ vs.length ≤ 4 ∧ RowsV w w0.heap.size w.heap.size vs ∧ 0 ≤ left ∧ left ≤ 16 ∧ Rd w rb p ∧ p ≤ p0 + 20 * vs.length ∧ Only rb w0 w
def Programs (w0 : World) (rb p0 : Nat) (e : Ending) (w : World) : Prop :=
  ∃ (v : Value) (vs : List Value) (left : Int), e = .returned v ∧ Outer w0 rb p0 v left vs w

theorem Rd.lt_size {w : World} {rb p : Nat} (h : Rd w rb p) : rb < w.heap.size := h.lt
theorem Rd.alloc {w : World} {rb p : Nat} (h : Rd w rb p) (o : Obj) : Rd (w.alloc o) rb p := h.below ((Below.refl _ _).alloc (Nat.le_refl _) _)
theorem lit3 {w : World} {H : Nat} (hH : w.heap.size = H) (a b c : Int) : RInts (w.alloc (.cells #[.int .i64 a, .int .i64 b, .int .i64 c] 3)) (some ⟨H, 0, none⟩) 3 [a, b, c] := by subst hH; exact RInts.lit w [a, b, c] _ (by simp)
theorem lit4 {w : World} {H : Nat} (hH : w.heap.size = H) (a b c d : Int) : RInts (w.alloc (.cells #[.int .i64 a, .int .i64 b, .int .i64 c, .int .i64 d] 3)) (some ⟨H, 0, none⟩) 4 [a, b, c, d] := by subst hH; exact RInts.lit w [a, b, c, d] _ (by simp)
theorem lit5 {w : World} {H : Nat} (hH : w.heap.size = H) (a b c d e : Int) : RInts (w.alloc (.cells #[.int .i64 a, .int .i64 b, .int .i64 c, .int .i64 d, .int .i64 e] 3)) (some ⟨H, 0, none⟩) 5 [a, b, c, d, e] := by subst hH; exact RInts.lit w [a, b, c, d, e] _ (by simp)
theorem lit6 {w : World} {H : Nat} (hH : w.heap.size = H) (a b c d e f : Int) : RInts (w.alloc (.cells #[.int .i64 a, .int .i64 b, .int .i64 c, .int .i64 d, .int .i64 e, .int .i64 f] 3)) (some ⟨H, 0, none⟩) 6 [a, b, c, d, e, f] := by subst hH; exact RInts.lit w [a, b, c, d, e, f] _ (by simp)
theorem far_lit {rb H : Nat} (h : rb < H) : ∀ ad : Addr, some (⟨H, 0, none⟩ : Addr) = some ad → ad.block ≠ rb := by
  intro ad e
  injection e with e
  subst e
  simp; omega

theorem own_one {w : World} {base : Nat} {e : TypeId} {size n : Nat} {v : Value} {xs : List Value} (h : w.ownsRow base e size v n xs) : v.oneCell' = true := by
  obtain ⟨A, c, rfl⟩ := own_form h
  rfl
theorem Rd.grown {w w' : World} {rb p : Nat} {row : Option Nat} (h : Rd w rb p) (hg : w.grownBy w' row) (hr : ∀ k, row = some k → rb < k) : Rd w' rb p := by
  have hlt := h.lt
  obtain ⟨A, m, c, hh, hm, hc⟩ := h
  have hk : ∀ b, b ≤ rb → w'.heap[b]? = w.heap[b]? := fun b hb => hg.block b (by omega) (fun e => by have := hr b e.symm; omega)
  refine ⟨A, m, c, (hk rb (Nat.le_refl _)).trans hh, hm, fun h0 => ?_⟩
  obtain ⟨b, off, f, hA, hbl, hf⟩ := hc h0
  exact ⟨b, off, f, hA, hbl, fun i hi => ⟨(hf i hi).1, (hf i hi).2.1, (World.cell?_of_block (w := w) (a := ⟨b, _, none⟩) (hk b (by omega))).trans (hf i hi).2.2⟩⟩

section
variable {w : World} {ops : Array Oper} {rest : List Oper} {o : Oper} {a : Act} {Q : Exit → Act → World → Prop}
/-- append of one row. -/
theorem app_row (s x : Operand) {base : Nat} {v : Value} {n : Nat} {vs : List Value} (hown : w.ownsRow base 23 1 v n vs) (hbase : base ≤ w.heap.size)
    {u : Value} (hu : u.oneCell' = true) {H : Nat} {T : TypeId} (hH : w.heap[H]? = some (.cells #[u] T (0, 0))) (hn : n ≤ 1099511627776) {c : Nat}
    (hgd : o.guard = none) (ho : o.op = .call { callee := .builtin .append, args := #[s, x], argTypes := #[76, 76] }) (hs : a.eval s = v) (hx : a.eval x = .slice (some ⟨H, 0, none⟩) 1 c)
    (h : ∀ v' w', w'.ownsRow base 23 1 v' (n + 1) (vs ++ [u]) → w.grownBy w' v.ownBlock → wpList Tryz.prog ops Q rest (a.put o.dst v') w') : wpList Tryz.prog ops Q (o :: rest) a w := by
  obtain ⟨i0, hi, hz0, hz1, hz2⟩ := info_parts rowInfo
  refine wpList_app hgd s x _ ho base _ i0 _ 1 24 Tryz.underlying76 hi hz0 hz1 hz2 rfl (by decide) v n _ hs hown _ 1 c [u] hx ⟨rfl, by simpa using hu, fun _ => ⟨_, rfl, fun j u' hu' => ?_⟩⟩ (by simp only [maxLen]; omega) (by omega) hbase ?_
  · match j, hu' with
    | 0, hu' =>
      simp at hu'; subst hu'
      rw [addr_add, cell_of_row w H (0 + 0) _ T (0, 0) hH]; rfl
  · intro v' w' h1 h2 h3
    exact h v' w' h1 h2
end

/-- What a round of the outer loop comes to. -/
theorem outer_step {w0 wr w w1 w' : World} {rb p0 p' n : Nat} {v lv v' : Value} {vs : List Value} {xs : List OpV} {left : Int} (hown : wr.ownsRow w0.heap.size 23 1 v vs.length vs)
    (hrows : RowsV wr w0.heap.size wr.heap.size vs) (hO : Only rb w0 wr) (hrb : rb < w0.heap.size) (hO3 : Only rb wr w) (hl : w.ownsRow wr.heap.size 46 3 lv n (opCells xs)) (hn : n ≤ 5)
    (ob : Obj) (hw1 : w1 = w.alloc ob) (hown' : w'.ownsRow w0.heap.size 23 1 v' (vs.length + 1) (vs ++ [lv])) (hg : w1.grownBy w' v.ownBlock) (hr : Rd w rb p') (hv : vs.length < 4)
    (h0 : 0 ≤ left) (h1 : left ≤ 16) (hp : p' ≤ p0 + 20 * (vs.length + 1)) : Outer w0 rb p0 v' left (vs ++ [lv]) w' := by
  have hsz := hO.size
  have hsz3 := hO3.size
  have hownw : w1.ownsRow w0.heap.size 23 1 v vs.length vs := by rw [hw1]; exact World.ownsRow.alloc (own_only hown hO3 hrb) _
  have hsz1 : w1.heap.size = w.heap.size + 1 := by rw [hw1]; simp
  obtain ⟨A, c, rfl⟩ := own_form hl
  have hlv : RowV w w0.heap.size w.heap.size (.slice A n c) := RowV.of_own hl (by omega) hn
  have hlv1 : RowsV w1 w0.heap.size w.heap.size [.slice A n c] := by
    intro u hu
    simp at hu
    subst hu
    rw [hw1]
    exact hlv.keep (fun b h1 h2 _ => Below.heap_alloc _ _ _ h2) (by simp)
  have hlv2 := hlv1.grown hownw hg (by omega)
  have hvs1 : RowsV w1 w0.heap.size wr.heap.size vs := by
    rw [hw1]
    exact (hrows.only hO3 (Nat.le_refl _) hrb).keep (fun b h1 h2 _ => Below.heap_alloc _ _ _ (by omega)) (by simp)
  have hvs2 := hvs1.grown hownw hg (by omega)
  have hgs := hg.size
  refine ⟨p', by simpa using hown', by simp; omega, ?_, h0, h1, ?_, by simp; omega, ?_⟩
  · intro u hu
    simp only [List.mem_append, List.mem_singleton] at hu
    rcases hu with hu | hu
    · exact (hvs2 u hu).wider (by omega)
    · exact (hlv2 u (by simp [hu])).wider (by omega)
  · exact Rd.grown (w := w1) (by rw [hw1]; exact hr.alloc _) hg fun k hk => by have := (World.ownsRow.lt hownw k hk).1; omega
  · have : Only rb w0 w1 := by rw [hw1]; exact (hO.trans hO3).alloc _
    exact this.own hownw (Nat.le_refl _) hg

set_option maxHeartbeats 2000000 in
theorem programs_any (rb p most : Nat) (w0 : World) (h : Rd w0 rb p) (hp : p ≤ 50000) (hm : most ≤ 16) :
    Calls Tryz.prog 73 #[.pointer (some ⟨rb, 0, none⟩), .int .i64 (most : Int)] w0 (Programs w0 rb (p + 2)) := by
  have hlt := h.lt
  go_enter Tryz.func73, Tryz.ntmps73
  go_wp2_with fail
  refine (one_any rb p _ _ _ _ _ ((h.alloc _).alloc _) (by omega) (lit3 (by simp) 2 3 1) (by omega) (far_lit (by omega))).mono ?_
  rintro e w1 ⟨items, rfl, hi, hr1, ho1⟩
  go_wp2_with fail
  have hlt1 := hr1.lt
  refine (one_any rb _ _ _ _ _ _ (hr1.alloc _) (by omega) (lit5 rfl 3 2 4 3 1) (by omega) (far_lit hlt1)).mono ?_
  rintro e w2 ⟨n, rfl, hn, hr2, ho2⟩
  have hown : w2.ownsRow w0.heap.size 23 1 (.slice (some ⟨w0.heap.size, 0, none⟩) 0 0) 0 [] :=
    own_only (World.ownsRow.alloc (own_only (World.ownsRow.alloc (World.ownsRow_made w0 #[] 0 (Nat.le_refl _) (by decide) rfl) _) ho1 hlt) _) ho2 hlt
  have hO : Only rb w0 w2 := (((Only.refl rb w0).alloc _).alloc _).trans ho1 |>.trans (((Only.refl rb w1).alloc _).trans ho2)
  have hn4 : 1 ≤ n ∧ n ≤ 4 := by simp at hn; omega
  have hi4 : 1 ≤ items ∧ items ≤ 3 := by simp at hi; omega
  have HST : Hid (Outer w0 rb (p + 2) (.slice (some ⟨w0.heap.size, 0, none⟩) 0 0) (most : Int) [] w2) :=
    ⟨p + 1 + 1, hown, by simp, by intro v hv; simp at hv, by omega, by omega, hr2, by simp, hO⟩
  clear hown hO hr2 hr1 ho1 ho2 hn hi
  go_wp2_with fail
  go_loopw [5, 6] (fun v l w => ∃ (left : Int) (vs : List Value), l = .int .i64 left ∧ (vs.length : Int) ≤ n ∧ Outer w0 rb (p + 2) v left vs w) (fun v _ _ => 4 - lenOf v)
  case atStart => exact ⟨(most : Int), [], rfl, by simp; try omega, HST.out⟩
  case round =>
    obtain ⟨wo, rfl⟩ : ∃ wo : World, wo = wr := ⟨_, rfl⟩
    obtain ⟨left, vs, rfl, hvn, q, hown, hv4, hrows, hl0, hl1, hr, hq, hO⟩ := hrel
    obtain ⟨A, c, rfl⟩ := own_form hown
    have hlr := hr.lt
    by_cases hlen : (vs.length : Int) < n
    · go_wp2_with fail
      refine (one_any rb q _ _ _ _ _ ((hr.alloc _).alloc _) (by omega) (lit4 (by simp) 2 3 1 4) (by omega) (far_lit (by omega))).mono ?_
      rintro e w3 ⟨k, rfl, hk, hr3, ho3⟩
      have hk4 : 1 ≤ k ∧ k ≤ 4 := by simp at hk; omega
      have HIN : Hid (Inner wo rb (q + 1) (.slice (some ⟨wo.heap.size, 0, none⟩) 0 0) k left w3) :=
        ⟨0, [], q + 1, own_only (World.ownsRow.alloc (World.ownsRow_made wo #[] 0 (Nat.le_refl _) (by decide) rfl) _) ho3 hlr, by omega, by omega, hl0, hl1, hr3, by omega,
          (((Only.refl rb wo).alloc _).alloc _).trans ho3⟩
      have HOUT := Lib.hid (And.intro hown (And.intro hrows (And.intro hO hr)))
      clear hown hrows hO hr hr3 ho3 hk
      go_wp2_with fail
      go_loopw [6, 10, 11] (fun l v k w => ∃ (left k' : Int), l = .int .i64 left ∧ k = .int .i64 k' ∧ Inner wo rb (q + 1) v k' left w) (fun _ _ k _ => (intOf k).toNat)
      case atStart => exact ⟨left, k, rfl, rfl, HIN.out⟩
      case round =>
        clear HIN
        obtain ⟨left, k, rfl, rfl, nx, xs, q3, hown, hk0, hk1, hl0, hl1, hr, hq3, hO⟩ := hrel
        by_cases hkk : 0 < k
        · by_cases hll : 1 < left
          · go_wp2_with fail
            have hlrr := hr.lt
            refine (one_any rb _ _ _ _ _ _ (hr.alloc _) (by omega) (lit4 rfl 0 1 0 1) (by omega) (far_lit hlrr)).mono ?_
            rintro e w4 ⟨kd, rfl, hkd, hr4, ho4⟩
            go_wp2_with fail
            refine (pick_any rb _ items _ hr4 (by omega) (by omega)).mono ?_
            rintro e w5 ⟨it, rfl, hr5, _, hit, ho5⟩
            have hO5 := ((hO.alloc _).trans ho4).trans ho5
            have hown5 := own_only (own_only (hown.alloc _) ho4 hlr) ho5 hlr
            have hs5 := hO5.size
            go_wp2_with (at_builtin; refine app_ops (.tmp 38) (.tmp 47) (hown5.alloc _) (by simp; omega) (ROps.lit1 _ ⟨_, _, _⟩ _) (by omega) rfl rfl rfl rfl ?_; intro v6 w6 hown6 hg6 hat6)
            have hg6' := World.grownBy.trans (World.grownBy_alloc w5 _ _) hg6
            have hO6 := hO5.own hown5 (Nat.le_refl _) hg6'
            have hr6 := hr5.grown hg6' fun k hk => by have := (World.ownsRow.lt hown5 k hk).1; omega
            go_wp2_with fail
            go_roundw
            case rel => exact ⟨left - 1, k - 1, rfl, rfl, nx + 1, _, _, hown6, by omega, by omega, by omega, by omega, hr6, by omega, hO6⟩
            case measure => simp [intOf]; omega
          · skip
            obtain ⟨Al, cl, rfl⟩ := own_form hown
            by_cases hlp : 0 < left
            · go_wp2_with fail
              refine (pick_any rb _ 10 _ hr (by omega) (by omega)).mono ?_
              rintro e w4 ⟨pv, rfl, hr4, _, _, ho4⟩
              have hown4 := own_only hown ho4 hlr
              have hO4 := hO.trans ho4
              have hlr4 := hr4.lt
              have hgo4 : w4.ownsRow w0.heap.size 23 1 (.slice A vs.length c) vs.length vs := own_only HOUT.out.1 hO4 hlt
              have hs4 := hO4.size
              have hs0 := HOUT.out.2.2.1.size
              by_cases hpv : 0 < pv
              · go_wp2_with fail
                refine (one_any rb _ _ _ _ _ _ (hr4.alloc _) (by omega) (lit6 rfl 2 2 2 2 2 3) (by omega) (far_lit hlr4)).mono ?_
                rintro e w5 ⟨kd, rfl, hkd, hr5, ho5⟩
                have hown5 := own_only (hown4.alloc _) ho5 hlr
                have hO5 := (hO4.alloc _).trans ho5
                have hgo5 := own_only (hgo4.alloc _) ho5 hlt
                have hs5 := hO5.size
                go_wp2_with (first | (at_builtin; refine app_ops (.tmp 58) (.tmp 64) (hown5.alloc _) (by simp; omega) (ROps.lit1 _ ⟨_, _, _⟩ _) (by omega) rfl rfl rfl rfl ?_; intro v6 w6 hown6 hg6 hat6; obtain ⟨A6, c6, rfl⟩ := own_form hown6; have hg6' := World.grownBy.trans (World.grownBy_alloc w5 _ _) hg6; have hO6 := hO5.own hown5 (Nat.le_refl _) hg6'; have hr6 := hr5.grown hg6' (fun k hk => by have := (World.ownsRow.lt hown5 k hk).1; omega); have hgo6 := own_only HOUT.out.1 hO6 hlt; have hs6 := hO6.size) | (at_builtin; refine app_row (.tmp 68) (.tmp 70) (hgo6.alloc _) (by simp; omega) (own_one hown6) (heap_alloc_new _ _) (by omega) rfl rfl rfl rfl ?_; intro v7 w7 hown7 hg7))
                have hout := outer_step (left := left - 1) (p0 := p + 2) HOUT.out.1 HOUT.out.2.1 HOUT.out.2.2.1 hlt hO6 hown6 (by omega) _ rfl hown7 hg7 hr6 (by omega) (by omega) (by omega) (by omega)
                go_wp2_with fail
                go_roundw
                case rel => exact ⟨left - 1, vs ++ [_], rfl, by simp; omega, hout⟩
                case measure => obtain ⟨q7, h7, _⟩ := hout; obtain ⟨A7, c7, rfl⟩ := own_form h7; simp [lenOf]; omega
              · go_wp2_with (at_builtin; refine app_row (.tmp 68) (.tmp 70) (hgo4.alloc _) (by simp; omega) (own_one hown4) (heap_alloc_new _ _) (by omega) rfl rfl rfl rfl ?_; intro v7 w7 hown7 hg7)
                have hout := outer_step (left := left) (p0 := p + 2) HOUT.out.1 HOUT.out.2.1 HOUT.out.2.2.1 hlt hO4 hown4 (by omega) _ rfl hown7 hg7 hr4 (by omega) (by omega) (by omega) (by omega)
                go_wp2_with fail
                go_roundw
                case rel => exact ⟨left, vs ++ [_], rfl, by simp; omega, hout⟩
                case measure => obtain ⟨q7, h7, _⟩ := hout; obtain ⟨A7, c7, rfl⟩ := own_form h7; simp [lenOf]; omega
            · have hgo4 : wr.ownsRow w0.heap.size 23 1 (.slice A vs.length c) vs.length vs := own_only HOUT.out.1 hO hlt
              have hs4 := hO.size
              have hs0 := HOUT.out.2.2.1.size
              go_wp2_with (at_builtin; refine app_row (.tmp 68) (.tmp 70) (hgo4.alloc _) (by simp; omega) (own_one hown) (heap_alloc_new _ _) (by omega) rfl rfl rfl rfl ?_; intro v7 w7 hown7 hg7)
              have hout := outer_step (left := left) (p0 := p + 2) HOUT.out.1 HOUT.out.2.1 HOUT.out.2.2.1 hlt hO hown (by omega) _ rfl hown7 hg7 hr (by omega) (by omega) (by omega) (by omega)
              go_wp2_with fail
              go_roundw
              case rel => exact ⟨left, vs ++ [_], rfl, by simp; omega, hout⟩
              case measure => obtain ⟨q7, h7, _⟩ := hout; obtain ⟨A7, c7, rfl⟩ := own_form h7; simp [lenOf]; omega

        · skip
          obtain ⟨Al, cl, rfl⟩ := own_form hown
          by_cases hlp : 0 < left
          · go_wp2_with fail
            refine (pick_any rb _ 10 _ hr (by omega) (by omega)).mono ?_
            rintro e w4 ⟨pv, rfl, hr4, _, _, ho4⟩
            have hown4 := own_only hown ho4 hlr
            have hO4 := hO.trans ho4
            have hlr4 := hr4.lt
            have hgo4 : w4.ownsRow w0.heap.size 23 1 (.slice A vs.length c) vs.length vs := own_only HOUT.out.1 hO4 hlt
            have hs4 := hO4.size
            have hs0 := HOUT.out.2.2.1.size
            by_cases hpv : 0 < pv
            · go_wp2_with fail
              refine (one_any rb _ _ _ _ _ _ (hr4.alloc _) (by omega) (lit6 rfl 2 2 2 2 2 3) (by omega) (far_lit hlr4)).mono ?_
              rintro e w5 ⟨kd, rfl, hkd, hr5, ho5⟩
              have hown5 := own_only (hown4.alloc _) ho5 hlr
              have hO5 := (hO4.alloc _).trans ho5
              have hgo5 := own_only (hgo4.alloc _) ho5 hlt
              have hs5 := hO5.size
              go_wp2_with (first | (at_builtin; refine app_ops (.tmp 58) (.tmp 64) (hown5.alloc _) (by simp; omega) (ROps.lit1 _ ⟨_, _, _⟩ _) (by omega) rfl rfl rfl rfl ?_; intro v6 w6 hown6 hg6 hat6; obtain ⟨A6, c6, rfl⟩ := own_form hown6; have hg6' := World.grownBy.trans (World.grownBy_alloc w5 _ _) hg6; have hO6 := hO5.own hown5 (Nat.le_refl _) hg6'; have hr6 := hr5.grown hg6' (fun k hk => by have := (World.ownsRow.lt hown5 k hk).1; omega); have hgo6 := own_only HOUT.out.1 hO6 hlt; have hs6 := hO6.size) | (at_builtin; refine app_row (.tmp 68) (.tmp 70) (hgo6.alloc _) (by simp; omega) (own_one hown6) (heap_alloc_new _ _) (by omega) rfl rfl rfl rfl ?_; intro v7 w7 hown7 hg7))
              have hout := outer_step (left := left - 1) (p0 := p + 2) HOUT.out.1 HOUT.out.2.1 HOUT.out.2.2.1 hlt hO6 hown6 (by omega) _ rfl hown7 hg7 hr6 (by omega) (by omega) (by omega) (by omega)
              go_wp2_with fail
              go_roundw
              case rel => exact ⟨left - 1, vs ++ [_], rfl, by simp; omega, hout⟩
              case measure => obtain ⟨q7, h7, _⟩ := hout; obtain ⟨A7, c7, rfl⟩ := own_form h7; simp [lenOf]; omega
            · go_wp2_with (at_builtin; refine app_row (.tmp 68) (.tmp 70) (hgo4.alloc _) (by simp; omega) (own_one hown4) (heap_alloc_new _ _) (by omega) rfl rfl rfl rfl ?_; intro v7 w7 hown7 hg7)
              have hout := outer_step (left := left) (p0 := p + 2) HOUT.out.1 HOUT.out.2.1 HOUT.out.2.2.1 hlt hO4 hown4 (by omega) _ rfl hown7 hg7 hr4 (by omega) (by omega) (by omega) (by omega)
              go_wp2_with fail
              go_roundw
              case rel => exact ⟨left, vs ++ [_], rfl, by simp; omega, hout⟩
              case measure => obtain ⟨q7, h7, _⟩ := hout; obtain ⟨A7, c7, rfl⟩ := own_form h7; simp [lenOf]; omega
          · have hgo4 : wr.ownsRow w0.heap.size 23 1 (.slice A vs.length c) vs.length vs := own_only HOUT.out.1 hO hlt
            have hs4 := hO.size
            have hs0 := HOUT.out.2.2.1.size
            go_wp2_with (at_builtin; refine app_row (.tmp 68) (.tmp 70) (hgo4.alloc _) (by simp; omega) (own_one hown) (heap_alloc_new _ _) (by omega) rfl rfl rfl rfl ?_; intro v7 w7 hown7 hg7)
            have hout := outer_step (left := left) (p0 := p + 2) HOUT.out.1 HOUT.out.2.1 HOUT.out.2.2.1 hlt hO hown (by omega) _ rfl hown7 hg7 hr (by omega) (by omega) (by omega) (by omega)
            go_wp2_with fail
            go_roundw
            case rel => exact ⟨left, vs ++ [_], rfl, by simp; omega, hout⟩
            case measure => obtain ⟨q7, h7, _⟩ := hout; obtain ⟨A7, c7, rfl⟩ := own_form h7; simp [lenOf]; omega

    · go_wp2_with fail
      go_ret
      exact ⟨_, vs, left, rfl, q, hown, hv4, hrows, hl0, hl1, hr, hq, hO⟩
end Go.Proofs.YtkbclcgdkbhgdaaGreat
namespace Go.Proofs.YtkbclcgdkbhgdaaGreat
open Go.RowKit Go.BigFrame
set_option linter.unusedVariables false

theorem ROps.drop {w : World} {A : Option Addr} {n : Nat} {xs : List OpV} (h : ROps w A n xs) {k c : Nat} (hk : k ≤ n) (hc : n ≤ c) :
    ROps w (if c = k then A else A.map (·.add (k * 3))) (n - k) (xs.drop k) := by
  obtain ⟨h1, h2, h3⟩ := h
  refine ⟨by simp; omega, by omega, fun hn => ?_⟩
  obtain ⟨b, off, rfl, hlt, hcell⟩ := h3 (by omega)
  rw [if_neg (by omega)]
  refine ⟨b, off + k * 3, by simp [addr_add], hlt, fun i o ho => ?_⟩
  rw [List.getElem?_drop] at ho
  have := hcell _ o ho
  have e1 : off + (k + i) * 3 = off + k * 3 + i * 3 := by omega
  rw [e1] at this
  exact this

def tot (vs : List Value) : Nat := (vs.map lenOf).sum
theorem tot_set (vs : List Value) (t : Nat) (u x : Value) (h : vs[t]? = some x) : tot (vs.set t u) + lenOf x = tot vs + lenOf u := by
  induction vs generalizing t with
  | nil => simp at h
  | cons y r ih =>
    cases t with
    | zero => simp at h; subst h; simp [tot]; omega
    | succ t =>
      have := ih t (by simpa using h)
      simp [tot] at *
      omega
theorem tot_le (vs : List Value) (k : Nat) (h : ∀ v ∈ vs, lenOf v ≤ k) : tot vs ≤ vs.length * k := by
  induction vs with
  | nil => simp [tot]
  | cons y r ih =>
    have h1 := ih (fun v hv => h v (by simp [hv]))
    have h2 := h y (by simp)
    simp [tot] at *
    rw [Nat.add_mul]; omega

/-- The cut of a row. -/
theorem RowV.cut {w : World} {lo hi n c k : Nat} {A : Option Addr} (h : RowV w lo hi (.slice A n c)) (hk : k ≤ n) : RowV w lo hi (.slice (if c = k then A else A.map (·.add (k * 3))) (n - k) (c - k)) := by
  obtain ⟨A', n', c', xs, hv, hnc, hn, hr, hA⟩ := h
  injection hv with h1 h2 h3
  subst h1; subst h2; subst h3
  refine ⟨_, _, _, _, rfl, by omega, by omega, hr.drop hk hnc, fun ad had => ?_⟩
  split at had
  · exact hA _ had
  · cases A with
    | none => cases had
    | some a =>
      simp at had
      subst had
      have : (a.add (k * 3)).block = a.block := by unfold Addr.add; split <;> rfl
      rw [this]
      exact hA _ rfl

/-- What the great loop of goodSchedule carries. -/
def Good (w0 : World) (rb L P K : Nat) (lv ov : Value) (w : World) : Prop := K ≤ 4 ∧
  ∃ (n : Nat) (xs : List OpV) (vs : List Value) (p : Nat), w.ownsRow w0.heap.size 23 1 lv K vs ∧ RowsV w w0.heap.size L vs ∧ w.ownsRow L 46 3 ov n (opCells xs) ∧
    n + tot vs ≤ 20 ∧ Rd w rb p ∧ p ≤ P + 4 * n ∧ Only rb w0 w ∧ L ≤ w.heap.size
/-- What the loop over the rows carries: only rows that are not empty are listed. -/
def Some_ (ws : World) (rb p k : Nat) (vs : List Value) (sv : Value) (w : World) : Prop :=
  ∃ (ts : List Int), ts.length ≤ k ∧ w.ownsRow ws.heap.size 3 1 sv ts.length (intCells ts) ∧ (∀ x ∈ ts, 0 ≤ x ∧ ∃ A n c, vs[x.toNat]? = some (.slice A n c) ∧ 0 < n) ∧ Rd w rb p ∧ Only rb ws w
def GoodPost (w0 : World) (rb : Nat) (e : Ending) (w : World) : Prop :=
  ∃ (v : Value) (n : Nat) (xs : List OpV) (p : Nat), e = .returned v ∧ w.ownsRow w0.heap.size 46 3 v n (opCells xs) ∧ n ≤ 20 ∧ Rd w rb p ∧ p ≤ 60000 ∧ Only rb w0 w


theorem mem_snoc {P : Int → Prop} {ts : List Int} {x : Int} (h : ∀ y ∈ ts, P y) (hx : P x) : ∀ y ∈ ts ++ [x], P y := by
  intro y hy
  simp only [List.mem_append, List.mem_singleton] at hy
  rcases hy with hy | rfl
  · exact h y hy
  · exact hx
theorem own_len {w : World} {base : Nat} {e : TypeId} {size n : Nat} {v : Value} {xs : List Value} (h : w.ownsRow base e size v n xs) : lenOf v = n := by
  obtain ⟨A, c, rfl⟩ := own_form h
  rfl
theorem row_len {w : World} {lo hi n c : Nat} {A : Option Addr} (h : RowV w lo hi (.slice A n c)) : n ≤ 5 := by
  obtain ⟨A', n', c', xs, hv, hnc, hn, _⟩ := h
  injection hv with h1 h2 h3
  omega
theorem own_block {w : World} {base : Nat} {e : TypeId} {size n : Nat} {v : Value} {xs : List Value} (h : w.ownsRow base e size v n xs) (hn : 0 < n) : ∃ g c, v = .slice (some ⟨g, 0, none⟩) n c ∧ base ≤ g ∧ g < w.heap.size := by
  rcases h.2 with ⟨h1, h2⟩ | ⟨g, cap, cur, h1, h2, h3, _⟩
  · omega
  · exact ⟨g, cap, h1, h2, lt_of_block h3⟩

theorem own_base {w : World} {base base' : Nat} {e : TypeId} {size n : Nat} {v : Value} {xs : List Value} (h : w.ownsRow base e size v n xs) (hb : base' ≤ base) : w.ownsRow base' e size v n xs := by
  refine ⟨h.1, ?_⟩
  rcases h.2 with h2 | ⟨g, cap, cur, h1, h2, r⟩
  · exact .inl h2
  · exact .inr ⟨g, cap, cur, h1, by omega, r⟩
theorem own_apart {w w' : World} {b1 b2 : Nat} {e1 e2 : TypeId} {s1 s2 n1 n2 : Nat} {v1 v2 : Value} {x1 x2 : List Value} (h1 : w.ownsRow b1 e1 s1 v1 n1 x1) (h2 : w.ownsRow b2 e2 s2 v2 n2 x2) (hne : e1 ≠ e2)
    (hg : w.grownBy w' v2.ownBlock) : w'.ownsRow b1 e1 s1 v1 n1 x1 := by
  refine World.ownsRow.kept h1 hg ?_
  rcases h1.2 with ⟨rfl, _⟩ | ⟨g, cap, cur, rfl, _, hh, _⟩
  · exact .inl rfl
  · refine .inr (fun e => ?_)
    rcases h2.2 with ⟨rfl, _⟩ | ⟨g', cap', cur', rfl, _, hh', _⟩
    · simp [Value.ownBlock] at e
    · simp [Value.ownBlock] at e
      subst e
      rw [hh] at hh'
      injection hh' with hh'
      injection hh' with _ hh' _
      exact hne hh'

/-- What a round of the great loop comes to: the row t is cut by k operations, which went to 'out'. -/
theorem good_step {w0 w w6 : World} {rb L P K n nt ct k p t g cl : Nat} {ov v' : Value} {vs : List Value} {xs ys : List OpV} {A : Option Addr} (hrb : rb < w0.heap.size) (hK : K ≤ 4)
    (hlv : w.ownsRow w0.heap.size 23 1 (.slice (some ⟨g, 0, none⟩) K cl) K vs) (hrows : RowsV w w0.heap.size L vs) (hL : L ≤ w.heap.size) (hov : w.ownsRow L 46 3 ov n (opCells xs)) (hL0 : w0.heap.size ≤ L)
    (hsum : n + tot vs ≤ 20) (hr : Rd w rb p) (hO : Only rb w0 w) (ht : vs[t]? = some (.slice A nt ct)) (hk1 : 1 ≤ k) (hk2 : k ≤ nt)
    (hown6 : w6.ownsRow L 46 3 v' (n + k) (opCells (xs ++ ys))) (hg6 : w.grownBy w6 ov.ownBlock) (hp : p ≤ P + 4 * (n + k)) :
    Good w0 rb L P K (.slice (some ⟨g, 0, none⟩) K cl) v' (w6.setCell ⟨g, t, none⟩ (.slice (if ct = k then A else A.map (·.add (k * 3))) (nt - k) (ct - k))) ∧ w6.cell? ⟨g, t, none⟩ = some (.slice A nt ct) ∧ w6.frozen? ⟨g, t, none⟩ = false := by
  have htl : t < vs.length := by
    rcases Nat.lt_or_ge t vs.length with h | h
    · exact h
    · rw [List.getElem?_eq_none h] at ht; cases ht
  have hvl : vs.length = K := by simpa using hlv.1
  have hg0 := World.ownsRow.lt hlv g rfl
  have hO6 := hO.own hov (by omega) hg6
  have hr6 := hr.grown hg6 fun j hj => by have := (World.ownsRow.lt hov j hj).1; omega
  have hlv6 := own_apart hlv hov (by decide) hg6
  have hs6 := hg6.size
  have hrows6 : RowsV w6 w0.heap.size L vs := by
    refine hrows.keep (fun b h1 h2 _ => hg6.block b (by omega) (fun e => ?_)) hs6
    have := (World.ownsRow.lt hov b e.symm).1
    omega
  have hst := hlv6.stored t (.slice (if ct = k then A else A.map (·.add (k * 3))) (nt - k) (ct - k))
  refine ⟨⟨hK, n + k, xs ++ ys, vs.set t (.slice (if ct = k then A else A.map (·.add (k * 3))) (nt - k) (ct - k)), p, hst.1, ?_, ?_, ?_, ?_, hp, ?_, by simp [World.setCell]; omega⟩, ?_, hlv6.frozenAt t⟩
  · have hkeep : ∀ b, w0.heap.size ≤ b → b < L → (∃ cs fr, w6.heap[b]? = some (.cells cs 46 fr)) → (w6.setCell ⟨g, t, none⟩ (.slice (if ct = k then A else A.map (·.add (k * 3))) (nt - k) (ct - k))).heap[b]? = w6.heap[b]? := by
      intro b _ _ ⟨cs, fr, hb⟩
      refine Below.heap_setCell _ _ _ _ (fun e => ?_)
      simp at e
      subst e
      rcases hlv6.2 with ⟨h1, _⟩ | ⟨g', cap', cur', h1, _, hh', _⟩
      · cases h1
      · injection h1 with h1 _ _
        injection h1 with h1
        injection h1 with h1
        subst h1
        rw [hb] at hh'
        injection hh' with hh'
        injection hh' with _ hh' _
        exact absurd hh' (by decide)
    intro u hu
    rcases List.mem_or_eq_of_mem_set hu with hu | rfl
    · exact (hrows6 u hu).keep hkeep (by simp [World.setCell])
    · exact ((hrows6 _ (List.mem_of_getElem? ht)).cut (by omega)).keep hkeep (by simp [World.setCell])
  · exact own_apart (e2 := 23) hown6 hlv6 (by decide) (by simpa [Value.ownBlock] using hst.2)
  · have := tot_set vs t (.slice (if ct = k then A else A.map (·.add (k * 3))) (nt - k) (ct - k)) _ ht
    simp [lenOf] at this
    omega
  · exact hr6.grown hst.2 fun j hj => by injection hj with hj; omega
  · exact hO6.grown hst.2 fun j hj => by injection hj with hj; omega
  · have := hlv6.cellAt t (by omega)
    rw [this]; exact ht

set_option maxRecDepth 100000 in
set_option maxHeartbeats 2000000 in
theorem goodSchedule_any (rb p most : Nat) (w0 : World) (h : Rd w0 rb p) (hp : p ≤ 50000) (hm : most ≤ 16) :
    Calls Tryz.prog 38 #[.pointer (some ⟨rb, 0, none⟩), .int .i64 (most : Int)] w0 (GoodPost w0 rb) := by
  have hlt := h.lt
  go_enter Tryz.func38, Tryz.ntmps38
  go_wp2_with fail
  refine (programs_any rb p most w0 h hp hm).mono ?_
  rintro e w1 ⟨lv, vs, left, rfl, q, hlv, hv4, hrows, _, _, hr1, hq1, hO1⟩
  have hlt1 := hr1.lt
  go_wp2_with fail
  refine (pick_any rb q 4 _ (hr1.alloc _) (by omega) (by omega)).mono ?_
  rintro e w2 ⟨sw, rfl, hr2, _, _, ho2⟩
  have hs2 := ho2.size
  have hs1 := hO1.size
  have ht5 : ∀ v ∈ vs, lenOf v ≤ 5 := by
    intro v hv
    obtain ⟨A, n, c, xs, rfl, _, hn, _⟩ := hrows v hv
    exact hn
  have htot := tot_le vs 5 ht5
  have HST : Hid (Good w0 rb w1.heap.size 50100 vs.length lv (.slice (some ⟨w1.heap.size, 0, none⟩) 0 0) w2) :=
    ⟨hv4, 0, [], vs, q + 1, own_only (hlv.alloc _) ho2 hlt, (hrows.keep (fun b h1 h2 _ => Below.heap_alloc _ _ _ h2) (by simp)).only ho2 (by simp) hlt,
      own_only (World.ownsRow_made w1 #[] 0 (Nat.le_refl _) (by decide) rfl) ho2 hlt1, by omega, hr2, by omega, (hO1.alloc _).trans ho2, by simp at hs2; omega⟩
  obtain ⟨Al, cl, rfl⟩ := own_form hlv
  generalize hk : vs.length = K at *
  have HK := Lib.hid hk
  clear hk hlv hrows hr1 hq1 hO1 hr2 ho2 ht5 htot
  go_wp2_with fail
  go_loopw [6] (fun ov w => Good w0 rb w1.heap.size 50100 K (.slice Al K cl) ov w) (fun ov _ => 21 - lenOf ov)
  case atStart => exact HST.out
  case round =>
    clear HST HK vs
    obtain ⟨wo, rfl⟩ : ∃ wo : World, wo = wr := ⟨_, rfl⟩
    obtain ⟨hK4, n, xs, vs, p3, hlv, hrows, hov, hsum, hr, hp3, hO, hLw⟩ := hrel
    have hlr := hr.lt
    have hvl : vs.length = K := by simpa using hlv.1
    have HIN : Hid (Some_ wo rb p3 0 vs (.slice (some ⟨wo.heap.size, 0, none⟩) 0 0) (wo.alloc (.cells #[] 3))) :=
      ⟨[], by simp, World.ownsRow_made wo #[] 0 (Nat.le_refl _) (by decide) rfl, by simp, hr.alloc _, (Only.refl _ _).alloc _⟩
    have HO := Lib.hid (And.intro hlv (And.intro hrows (And.intro hov (And.intro hr (And.intro hO hvl)))))
    clear hlv hrows hov hr hO hvl
    go_wp2_with fail
    go_loopw [8, 9] (fun sv t w => ∃ k : Nat, k ≤ K ∧ t = .int .i64 k ∧ Some_ wo rb p3 k vs sv w) (fun _ t _ => K - (intOf t).toNat)
    case atStart => exact ⟨0, by omega, rfl, HIN.out⟩
    case round =>
      clear HIN
      obtain ⟨k, hk, rfl, ts, htk, hts, hin, hr, hOi⟩ := hrel
      by_cases hkK : k < K
      · have hlw := own_only HO.out.1 hOi hlt
        obtain ⟨g, cl', hve, hg1, hg2⟩ := own_block hlw (by omega)
        injection hve with hA _ hc
        subst hA; subst hc
        have hcell : wr.cell? ⟨g, k, none⟩ = vs[k]? := by simpa using hlw.cellAt k (by omega)
        obtain ⟨u, hu⟩ : ∃ u, vs[k]? = some u := ⟨vs[k]'(by have := HO.out.2.2.2.2.2; omega), List.getElem?_eq_getElem _⟩
        obtain ⟨A, nt, ct, ys, rfl, hnc, hn5, hro, hAA⟩ := HO.out.2.1 u (List.mem_of_getElem? hu)
        rw [hu] at hcell
        have HU := Lib.hid hu
        clear hu hro hAA hlw
        have hsz := hOi.size
        by_cases hnt : 0 < nt
        · go_wp2_with (at_builtin; refine app_ints (.tmp 32) (.tmp 34) (hts.alloc _) (by simp; omega) (lit1 rfl (k : Int)) (by omega) rfl rfl rfl rfl ?_; intro v6 w6 hown6 hg6 hat6)
          have hg6' := World.grownBy.trans (World.grownBy_alloc wr _ _) hg6
          have hO6 := hOi.own hts (Nat.le_refl _) hg6'
          have hr6 := hr.grown hg6' fun j hj => by have := (World.ownsRow.lt hts j hj).1; omega
          go_wp2_with fail
          go_roundw
          case rel => exact ⟨k + 1, by omega, by go_num, ts ++ [(k : Int)], by simp; omega, by simpa using hown6, mem_snoc hin ⟨by omega, _, _, _, by simpa using HU.out, hnt⟩, hr6, hO6⟩
          case measure => simp [intOf]; omega
        · go_wp2_with fail
          go_roundw
          case rel => exact ⟨k + 1, by omega, by go_num, ts, by omega, hts, hin, hr, hOi⟩
          case measure => simp [intOf]; omega
      · obtain ⟨As, cs, rfl⟩ := own_form hts
        have hsz := hOi.size
        by_cases hts0 : ts.length = 0
        · have hovr := own_only HO.out.2.2.1 hOi hlt1
          have hO' := HO.out.2.2.2.2.1.trans hOi
          go_wp2_with fail
          go_ret
          exact ⟨_, n, xs, p3, rfl, own_base hovr (by omega), by omega, hr, by omega, hO'⟩
        · go_wp2_with fail
          refine (pick_any rb p3 _ _ hr (by omega) (by omega)).mono ?_
          rintro e w4 ⟨pv, rfl, hr4, _, hpv, ho4⟩
          obtain ⟨hpv0, hpv1⟩ := hpv (by omega)
          have hso := HO.out.2.2.2.2.1.size
          have hs4 := ho4.size
          obtain ⟨b, off, x, hAs, _, hx, hc4⟩ := (RInts.of_own (own_only hts ho4 (by omega)) (by omega)).at_ (k := pv.toNat) (by omega)
          subst hAs
          obtain ⟨hx0, A, nt, ct, hvx, hnt⟩ := hin x (List.mem_of_getElem? hx)
          obtain ⟨X, rfl⟩ := Int.eq_ofNat_of_zero_le hx0
          rw [Int.toNat_natCast] at hvx
          have hxK : X < K := by
            have h1 := HO.out.2.2.2.2.2
            rcases Nat.lt_or_ge X vs.length with h | h
            · omega
            · rw [List.getElem?_eq_none h] at hvx; cases hvx
          have hlw4 := own_only (own_only HO.out.1 hOi hlt) ho4 hlt
          obtain ⟨g, cl', hve, hg1, hg2⟩ := own_block hlw4 (by omega)
          injection hve with hA _ hc
          subst hA; subst hc
          have hcell4 : w4.cell? ⟨g, X, none⟩ = some (.slice A nt ct) := by rw [hlw4.cellAt X (by omega)]; exact hvx
          have HU := Lib.hid hvx
          have hnt5 := row_len (HO.out.2.1 _ (List.mem_of_getElem? hvx))
          clear hvx hx hin hlw4 hts
          by_cases hsw : sw = 0
          · go_wp2_with fail
            refine (pick_any rb _ _ _ hr4 (by omega) (by omega)).mono ?_
            rintro e w5 ⟨pk, rfl, hr5, _, hpk, ho5⟩
            obtain ⟨hpk0, hpk1⟩ := hpk (by omega)
            obtain ⟨k, rfl⟩ := Int.eq_ofNat_of_zero_le hpk0
            have hs5 := ho5.size
            have ho45 := ho4.trans ho5
            have hlwf := own_only (own_only HO.out.1 hOi hlt) ho45 hlt
            have hcell5 : w5.cell? ⟨g, X, none⟩ = some (.slice A nt ct) := by rw [hlwf.cellAt X (by omega)]; exact HU.out
            have hov5 := own_only (own_only HO.out.2.2.1 hOi hlt1) ho45 hlt1
            have hrows5 := (HO.out.2.1.only hOi (by omega) hlt).only ho45 (by omega) hlt
            obtain ⟨A', n', c', ys, hv', hnc, hn5, hro, _⟩ := hrows5 _ (List.mem_of_getElem? HU.out)
            injection hv' with e1 e2 e3
            subst e1; subst e2; subst e3
            have hro' := hro.take (k := 1 + k) (by omega)
            have HR := Lib.hid (And.intro hlwf (And.intro hrows5 (And.intro hov5 hro')))
            clear hlwf hrows5 hro hro'
            go_wp2_with (at_builtin; refine app_ops (.tmp 56) (.tmp 62) hov5 (by omega) HR.out.2.2.2 (by omega) rfl rfl rfl rfl ?_; intro v6 w6 hown6 hg6 hat6; obtain ⟨hgood, hcell6, hfr6⟩ := good_step (k := 1 + k) (P := 50100) hlt hK4 HR.out.1 HR.out.2.1 (by omega) hov5 (by omega) hsum hr5 ((HO.out.2.2.2.2.1.trans hOi).trans ho45) HU.out (by omega) (by omega) hown6 hg6 (by omega))
            all_goals
              go_roundw
              case rel =>
                first
                  | (have e : ct = 1 + k := by assumption
                     rw [if_pos e, show ct - (1 + k) = 0 from by omega] at hgood
                     exact hgood)
                  | (rw [if_neg (by omega)] at hgood
                     exact hgood)
              case measure =>
                have e6 := own_len hown6
                have e5 := own_len hov5
                omega
          · have hlwf := own_only (own_only HO.out.1 hOi hlt) ho4 hlt
            have hcell5 : w4.cell? ⟨g, X, none⟩ = some (.slice A nt ct) := by rw [hlwf.cellAt X (by omega)]; exact HU.out
            have hov5 := own_only (own_only HO.out.2.2.1 hOi hlt1) ho4 hlt1
            have hrows5 := (HO.out.2.1.only hOi (by omega) hlt).only ho4 (by omega) hlt
            obtain ⟨A', n', c', ys, hv', hnc, hn5, hro, _⟩ := hrows5 _ (List.mem_of_getElem? HU.out)
            injection hv' with e1 e2 e3
            subst e1; subst e2; subst e3
            have hro' := hro.take (k := 1) (by omega)
            have HR := Lib.hid (And.intro hlwf (And.intro hrows5 (And.intro hov5 hro')))
            clear hlwf hrows5 hro hro'
            go_wp2_with (at_builtin; refine app_ops (.tmp 56) (.tmp 62) hov5 (by omega) HR.out.2.2.2 (by omega) rfl rfl rfl rfl ?_; intro v6 w6 hown6 hg6 hat6; obtain ⟨hgood, hcell6, hfr6⟩ := good_step (k := 1) (P := 50100) hlt hK4 HR.out.1 HR.out.2.1 (by omega) hov5 (by omega) hsum hr4 ((HO.out.2.2.2.2.1.trans hOi).trans ho4) HU.out (by omega) (by omega) hown6 hg6 (by omega))
            all_goals
              go_roundw
              case rel =>
                first
                  | (have e : ct = 1 := by assumption
                     rw [if_pos e, show ct - (1) = 0 from by omega] at hgood
                     exact hgood)
                  | (rw [if_neg (by omega)] at hgood
                     exact hgood)
              case measure =>
                have e6 := own_len hown6
                have e5 := own_len hov5
                omega
end Go.Proofs.YtkbclcgdkbhgdaaGreat
namespace Go.Proofs.YtkbclcgdkbhgdaaGreat
open Go.RowKit Go.BigFrame
set_option linter.unusedVariables false

theorem RowIs.grown {w w' : World} {g : Nat} {T : TypeId} {vs : List Value} {row : Option Nat} (h : RowIs w g T vs) (hg : w.grownBy w' row) (hne : row ≠ some g) : RowIs w' g T vs :=
  (hg.block g h.lt hne.symm).trans h
theorem own_ne {w : World} {base : Nat} {e : TypeId} {size n : Nat} {v : Value} {xs : List Value} (h : w.ownsRow base e size v n xs) {g : Nat} {T : TypeId} {vs : List Value} (hr : RowIs w g T vs) (hT : T ≠ e) : v.ownBlock ≠ some g := by
  rcases h.2 with ⟨rfl, _⟩ | ⟨g', cap, cur, rfl, _, hh, _⟩
  · simp [Value.ownBlock]
  · intro e'
    simp [Value.ownBlock] at e'
    subst e'
    unfold RowIs at hr
    rw [hr] at hh
    injection hh with hh
    injection hh with _ hh _
    exact hT hh
theorem nb_app {v v' : Value} {b K : Nat} (h : v.ownBlock ≠ some b) (hat : v'.ownBlock = v.ownBlock ∨ v'.ownBlock = some K) (hb : b < K) : v'.ownBlock ≠ some b := by
  rcases hat with e | e
  · rw [e]; exact h
  · rw [e]; intro e'; injection e' with e'; omega
theorem own_lt {w : World} {base : Nat} {e : TypeId} {size n : Nat} {v : Value} {xs : List Value} (h : w.ownsRow base e size v n xs) {b : Nat} (hb : w.heap.size ≤ b) : v.ownBlock ≠ some b := by
  intro e'
  have := (World.ownsRow.lt h b e').2
  omega
theorem own_grown {w w' : World} {base : Nat} {e : TypeId} {size n : Nat} {v : Value} {xs : List Value} (h : w.ownsRow base e size v n xs) {row : Option Nat} (hg : w.grownBy w' row) (hne : ∀ b, row = some b → v.ownBlock ≠ some b) : w'.ownsRow base e size v n xs := by
  refine World.ownsRow.kept h hg ?_
  cases hv : v.ownBlock with
  | none => exact .inl rfl
  | some b =>
    refine .inr (fun e => ?_)
    exact hne b e.symm hv
theorem op_ne_int : (46 : TypeId) ≠ 3 := by decide
theorem ints_ne_op : (32 : TypeId) ≠ 46 := by decide
theorem ints_ne_int : (32 : TypeId) ≠ 3 := by decide

theorem ROps.litH {w : World} {H : Nat} (hH : w.heap.size = H) (o : OpV) (t : TypeId) : ROps (w.alloc (.cells #[.int .i64 o.tx, .int .i64 o.kind, .int .i64 o.item] t)) (some ⟨H, 0, none⟩) 1 [o] := by subst hH; exact ROps.lit1 w o t

/-- A call hands back operations and integers, in new memory. -/
def RetOI (w0 : World) (xs : List OpV) (ys : List Int) (e : Ending) (w : World) : Prop :=
  ∃ A c B d, e = .returned (.tuple #[.slice A xs.length c, .slice B ys.length d]) ∧ xs.length ≤ c ∧ ys.length ≤ d ∧ FreshOps w0 w A xs.length xs ∧ FreshInts w0 w B ys.length ys ∧ Below w0.heap.size w0 w
theorem RetOI.nil {w0 w : World} (h : Below w0.heap.size w0 w) : RetOI w0 [] [] (.returned (.tuple #[.slice none 0 0, .slice none 0 0])) w :=
  ⟨none, 0, none, 0, rfl, Nat.le_refl _, Nat.le_refl _, FreshOps.none_, FreshInts.none_, h⟩
theorem RetOI.mk {w0 w : World} {xs : List OpV} {ys : List Int} {A B : Option Addr} {n m c d : Nat} (hn : xs.length = n) (hm : ys.length = m) (hc : n ≤ c) (hd : m ≤ d) (h1 : FreshOps w0 w A n xs) (h2 : FreshInts w0 w B m ys) (hb : Below w0.heap.size w0 w) :
    RetOI w0 xs ys (.returned (.tuple #[.slice A n c, .slice B m d])) w := by
  subst hn; subst hm
  exact ⟨A, c, B, d, rfl, hc, hd, h1, h2, hb⟩
theorem RetOI.later {w0 w1 : World} {xs : List OpV} {ys : List Int} {e : Ending} {w : World} (hb : Below w0.heap.size w0 w1) (h : RetOI w1 xs ys e w) : RetOI w0 xs ys e w := by
  obtain ⟨A, c, B, d, rfl, hc, hd, ⟨a1, a2⟩, ⟨b1, b2⟩, hb'⟩ := h
  have hs := hb.size
  exact ⟨A, c, B, d, rfl, hc, hd, ⟨a1, fun ad had => by obtain ⟨b, cur, h3, h4, h5⟩ := a2 ad had; exact ⟨b, cur, h3, by omega, h5⟩⟩,
    ⟨b1, fun ad had => by obtain ⟨b, cur, h3, h4, h5⟩ := b2 ad had; exact ⟨b, cur, h3, by omega, h5⟩⟩, hb.trans (hb'.mono hs)⟩
end Go.Proofs.YtkbclcgdkbhgdaaGreat
namespace Go.Proofs.YtkbclcgdkbhgdaaGreat
open Go.RowKit Go.BigFrame
set_option linter.unusedVariables false

theorem intsInfo : (Tryz.prog.info? 32).map (fun i => (i.zero, i.size, i.bytes)) = some (some (.slice none 0 0), 1, 24) := by kernel_rfl


section
variable {w : World} {ops : Array Oper} {o : Oper} {a : Act} {K : Act → World → Prop} {Q : Exit → Act → World → Prop} {E : Prop}
/-- append, at a step of a region that draws its order. -/
theorem step_app {P : Program} (hgd : o.guard = none) (s x : Operand) (t : TypeId)
    (ho : o.op = .call { callee := .builtin .append, args := #[s, x], argTypes := #[t, t] })
    (base : Nat) (e : TypeId) (i : TypeInfo) (z : Value) (size bytes : Nat) (ht : P.underlying t = some (.slice e)) (hi : P.info? e = some i) (hz : i.zero = some z)
    (hsize : i.size = size) (hby : i.bytes = bytes) (hzs : z.cells.size = size) (hsz : 0 < size)
    (v : Value) (n : Nat) (xs : List Value) (hs : a.eval s = v) (hown : w.ownsRow base e size v n xs)
    (A : Option Addr) (m c : Nat) (news : List Value) (hx : a.eval x = .slice A m c) (hr : Src w size A m news)
    (h63 : n + m ≤ maxLen) (hbytes : (n + m) * bytes ≤ 140737488355328) (hbase : base ≤ w.heap.size)
    (h : ∀ v' w', w'.ownsRow base e size v' (n + m) (xs ++ news) → w.grownBy w' v.ownBlock → (v'.ownBlock = v.ownBlock ∨ v'.ownBlock = some w.heap.size) → K (a.put o.dst v') w') :
    if Region.wanted o (yielded ops a.tmps) = true then Oper.wp P o a w K Q else E := by
  have hw : Region.wanted o (yielded ops a.tmps) = true := by simp [Region.wanted, hgd]
  rw [if_pos hw]
  obtain ⟨v', w', hrun, h2, h3, h4⟩ := run_app (P := P) base t o.type e i z size bytes ht hi hz hsize hby hzs hsz v n xs hown A m c news hr h63 hbytes hbase
  unfold Oper.wp execOp
  simp only [ho, resolve, invoke, builtin, Sem.run_bind, Sem.run_pure, Result.andThen_ok, List.map_toArray, List.map_cons, List.map_nil, hs, hx, hrun]
  exact h v' w' h2 h3 h4
theorem step_ints (s x : Operand) {base : Nat} {v : Value} {n : Nat} {xs : List Int} (hown : w.ownsRow base 3 1 v n (intCells xs)) (hbase : base ≤ w.heap.size)
    {A : Option Addr} {m c : Nat} {ys : List Int} (hr : RInts w A m ys) (hn : n ≤ 1099511627776)
    (hgd : o.guard = none) (ho : o.op = .call { callee := .builtin .append, args := #[s, x], argTypes := #[32, 32] }) (hs : a.eval s = v) (hx : a.eval x = .slice A m c)
    (h : ∀ v' w', w'.ownsRow base 3 1 v' (n + m) (intCells (xs ++ ys)) → w.grownBy w' v.ownBlock → (v'.ownBlock = v.ownBlock ∨ v'.ownBlock = some w.heap.size) → K (a.put o.dst v') w') :
    if Region.wanted o (yielded ops a.tmps) = true then Oper.wp Tryz.prog o a w K Q else E := by
  obtain ⟨i0, hi, hz0, hz1, hz2⟩ := info_parts intInfo
  have hm := hr.2.1
  refine step_app hgd s x _ ho base _ i0 _ 1 8 Tryz.underlying32 hi hz0 hz1 hz2 rfl (by decide) v n _ hs hown A m c _ hx hr.src (by simp only [maxLen]; omega) (by omega) hbase ?_
  intro v' w' h1 h2 h3
  have e : intCells xs ++ intCells ys = intCells (xs ++ ys) := by simp [intCells]
  rw [e] at h1
  exact h v' w' h1 h2 h3
theorem step_rows (s x : Operand) {base : Nat} {v : Value} {n : Nat} {rv : List Value} (hown : w.ownsRow base 32 1 v n rv) (hbase : base ≤ w.heap.size)
    {A : Option Addr} {m c : Nat} {rs : List Value} (hr : Src w 1 A m rs) (hn : n + m ≤ 1099511627776)
    (hgd : o.guard = none) (ho : o.op = .call { callee := .builtin .append, args := #[s, x], argTypes := #[25, 25] }) (hs : a.eval s = v) (hx : a.eval x = .slice A m c)
    (h : ∀ v' w', w'.ownsRow base 32 1 v' (n + m) (rv ++ rs) → w.grownBy w' v.ownBlock → (v'.ownBlock = v.ownBlock ∨ v'.ownBlock = some w.heap.size) → K (a.put o.dst v') w') :
    if Region.wanted o (yielded ops a.tmps) = true then Oper.wp Tryz.prog o a w K Q else E := by
  obtain ⟨i0, hi, hz0, hz1, hz2⟩ := info_parts intsInfo
  exact step_app hgd s x _ ho base _ i0 _ 1 24 Tryz.underlying25 hi hz0 hz1 hz2 rfl (by decide) v n _ hs hown A m c _ hx hr (by simp only [maxLen]; omega) (by omega) hbase h
end

theorem rowsI_at3 {R : List Nat} (h : Rows4 R) {w : World} {A : Option Addr} (hr : RInts w A 4 (rowsI R)) {t : Nat} (ht : t < 4) : ∃ b off, A = some ⟨b, off, none⟩ ∧ b < w.heap.size ∧ w.cell? ⟨b, off + t, none⟩ = some (.int .i64 ((R.getD t 0 : Nat) : Int)) ∧ R.getD t 0 < 16 := by
  obtain ⟨b, off, x, hA, hlt, hx, hc⟩ := hr.at_ ht
  obtain ⟨h1, h2⟩ := rowsI_at h (T := t) (by omega)
  refine ⟨b, off, hA, hlt, ?_, h2⟩
  rw [hc]
  simp only [intCells, List.getElem?_map, hx, Option.map_some] at h1
  exact h1
theorem FreshInts.lat {w0 w w' : World} {A : Option Addr} {n : Nat} {xs : List Int} (h : FreshInts w0 w A n xs) (hb : Below w.heap.size w w') : FreshInts w0 w' A n xs :=
  ⟨h.1.below hb (Nat.le_refl _), fun ad had => by obtain ⟨b, cur, e, h1, h2, h3⟩ := h.2 ad had; exact ⟨b, cur, e, h1, (hb.block b (lt_of_block h2)).trans h2, h3⟩⟩
theorem FreshInts.since {w0 w1 w : World} {A : Option Addr} {n : Nat} {xs : List Int} (h : FreshInts w1 w A n xs) (hs : w0.heap.size ≤ w1.heap.size) : FreshInts w0 w A n xs :=
  ⟨h.1, fun ad had => by obtain ⟨b, cur, e, h1, h2, h3⟩ := h.2 ad had; exact ⟨b, cur, e, by omega, h2, h3⟩⟩
/-- A row of integers is as it was when another block has turned. -/
theorem FreshInts.grownT {w0 w w' : World} {A : Option Addr} {n : Nat} {xs : List Int} {row : Option Nat} (h : FreshInts w0 w A n xs) (hg : w.grownBy w' row) (hne : ∀ g, row = some g → ∀ cur, w.heap[g]? ≠ some (.cells cur 3 (0, 0))) : FreshInts w0 w' A n xs := by
  have hblk : ∀ ad, A = some ad → ∃ b cur, ad = ⟨b, 0, none⟩ ∧ w0.heap.size ≤ b ∧ w.heap[b]? = some (.cells cur 3 (0, 0)) ∧ n ≤ cur.size ∧ w'.heap[b]? = w.heap[b]? := fun ad had => by
    obtain ⟨b, cur, e, h1, h2, h3⟩ := h.2 ad had
    exact ⟨b, cur, e, h1, h2, h3, hg.block b (lt_of_block h2) (fun e => hne b e.symm cur h2)⟩
  refine ⟨⟨h.1.1, h.1.2.1, fun hn => ?_⟩, fun ad had => ?_⟩
  · obtain ⟨b, off, hA, hlt, hc⟩ := h.1.2.2 hn
    obtain ⟨b', cur, e, _, _, _, hk⟩ := hblk _ hA
    injection e with e1 e2 _
    subst e1
    have hs := World.grownBy.size hg
    exact ⟨b, off, hA, by omega, fun i x hx => (World.cell?_of_block (w := w) (a := ⟨b, off + i, none⟩) hk).trans (hc i x hx)⟩
  · obtain ⟨b, cur, e, h1, h2, h3, hk⟩ := hblk ad had
    exact ⟨b, cur, e, h1, hk.trans h2, h3⟩

/-- These slice values are these lists, each in memory made since w0. -/
def RowsR (w0 w : World) (rv : List Value) (xss : List (List Int)) : Prop :=
  rv.length = xss.length ∧ ∀ (i : Nat) (xs : List Int), xss[i]? = some xs → ∃ B c, rv[i]? = some (.slice B xs.length c) ∧ xs.length ≤ c ∧ FreshInts w0 w B xs.length xs
theorem RowsR.nil {w0 w : World} : RowsR w0 w [] [] := ⟨rfl, fun i xs h => by simp at h⟩
theorem RowsR.below {w0 w w' : World} {rv : List Value} {xss : List (List Int)} (h : RowsR w0 w rv xss) (hb : Below w.heap.size w w') : RowsR w0 w' rv xss :=
  ⟨h.1, fun i xs hi => by obtain ⟨C, c, e, hmc, hr⟩ := h.2 i xs hi; exact ⟨C, c, e, hmc, hr.lat hb⟩⟩
theorem RowsR.since {w0 w1 w : World} {rv : List Value} {xss : List (List Int)} (h : RowsR w1 w rv xss) (hs : w0.heap.size ≤ w1.heap.size) : RowsR w0 w rv xss :=
  ⟨h.1, fun i xs hi => by obtain ⟨C, c, e, hmc, hr⟩ := h.2 i xs hi; exact ⟨C, c, e, hmc, hr.since hs⟩⟩
theorem RowsR.grown {w0 w w' : World} {rv : List Value} {xss : List (List Int)} {row : Option Nat} (h : RowsR w0 w rv xss) (hg : w.grownBy w' row) (hne : ∀ g, row = some g → ∀ cur, w.heap[g]? ≠ some (.cells cur 3 (0, 0))) : RowsR w0 w' rv xss :=
  ⟨h.1, fun i xs hi => by obtain ⟨C, c, e, hmc, hr⟩ := h.2 i xs hi; exact ⟨C, c, e, hmc, hr.grownT hg hne⟩⟩
theorem RowsR.append {w0 w : World} {rv rs : List Value} {xss yss : List (List Int)} (h : RowsR w0 w rv xss) (k : RowsR w0 w rs yss) : RowsR w0 w (rv ++ rs) (xss ++ yss) := by
  refine ⟨by simp [h.1, k.1], fun i xs hi => ?_⟩
  rcases Nat.lt_or_ge i xss.length with hlt | hge
  · rw [List.getElem?_append_left hlt] at hi
    obtain ⟨C, c, e, r⟩ := h.2 i xs hi
    exact ⟨C, c, by rw [List.getElem?_append_left (by rw [h.1]; exact hlt)]; exact e, r⟩
  · rw [List.getElem?_append_right hge] at hi
    obtain ⟨C, c, e, r⟩ := k.2 _ xs hi
    exact ⟨C, c, by rw [List.getElem?_append_right (by rw [h.1]; exact hge), h.1]; exact e, r⟩
theorem RowsR.one {w0 w : World} {rv : List Value} {xss : List (List Int)} (h : RowsR w0 w rv xss) : ∀ u ∈ rv, u.oneCell' = true := by
  intro u hu
  obtain ⟨i, hi⟩ := List.mem_iff_getElem?.1 hu
  have hl := (List.getElem?_eq_some_iff.1 hi).1
  obtain ⟨C, c, e, _⟩ := h.2 i _ (List.getElem?_eq_getElem (by rw [← h.1]; exact hl))
  rw [e] at hi
  injection hi with hi
  rw [← hi]; rfl
theorem RowsR.lit {w0 w : World} {B : Option Addr} {n c : Nat} {xs : List Int} (hn : xs.length = n) (hc : n ≤ c) (h : FreshInts w0 w B n xs) : RowsR w0 w [.slice B n c] [xs] := by
  subst hn
  refine ⟨rfl, fun i ys hi => ?_⟩
  match i, hi with
  | 0, hi =>
    simp only [List.getElem?_cons_zero, Option.some.injEq] at hi
    subst hi
    exact ⟨B, c, rfl, hc, h⟩
  | i + 1, hi => simp at hi
/-- The block of an owned row of slices is none of integers. -/
theorem own_noInt {w : World} {base n : Nat} {v : Value} {rv : List Value} (h : w.ownsRow base 32 1 v n rv) : ∀ g, v.ownBlock = some g → ∀ cur, w.heap[g]? ≠ some (.cells cur 3 (0, 0)) := by
  intro g hg cur hc
  rcases h.2 with ⟨h1, h2⟩ | ⟨g', cap, cur', h1, h2, h3, h4, h5, h6, h7⟩
  · rw [h1] at hg; cases hg
  · rw [h1] at hg
    have : g' = g := by simpa [Value.ownBlock] using hg
    subst this
    rw [h3] at hc
    injection hc with hc
    injection hc with _ ht _
    exact absurd ht (by decide)

/-- The row of rows, in a block made since w0. -/
def OuterR (w0 w : World) (A : Option Addr) (n : Nat) (rv : List Value) : Prop :=
  Src w 1 A n rv ∧ ∀ ad, A = some ad → ∃ b cur, ad = ⟨b, 0, none⟩ ∧ w0.heap.size ≤ b ∧ w.heap[b]? = some (.cells cur 32 (0, 0))
theorem OuterR.of_own {w0 w : World} {base n c : Nat} {A : Option Addr} {rv : List Value} (h : w.ownsRow base 32 1 (.slice A n c) n rv) (hb : w0.heap.size ≤ base) (h1 : ∀ u ∈ rv, u.oneCell' = true) : OuterR w0 w A n rv := by
  have hl : rv.length = n := by have := h.1; omega
  rcases h.2 with ⟨e1, e2⟩ | ⟨g, cap, cur, e1, e2, e3, e4, e5, e6, e7⟩
  · injection e1 with ha hb' hc
    subst ha
    subst e2
    exact ⟨⟨by omega, h1, fun h0 => absurd h0 (by omega)⟩, fun ad had => by cases had⟩
  · injection e1 with ha _ hc
    subst ha
    refine ⟨⟨by omega, h1, fun h0 => ⟨_, rfl, fun j u hu => h.cells (g := g) (by simp [Value.ownBlock]) j u hu⟩⟩, fun ad had => ?_⟩
    injection had with had
    subst had
    exact ⟨g, cur, rfl, by omega, e3⟩

/-- The call hands back these lists in new memory and changes nothing. -/
def RetLists (w0 : World) (xss : List (List Int)) (e : Ending) (w : World) : Prop :=
  ∃ A c rv, e = .returned (.slice A xss.length c) ∧ xss.length ≤ c ∧ OuterR w0 w A xss.length rv ∧ RowsR w0 w rv xss ∧ Below w0.heap.size w0 w
theorem RetLists.form {w0 w : World} {xss : List (List Int)} {e : Ending} (h : RetLists w0 xss e w) : ∃ A c n rv, e = .returned (.slice A n c) ∧ Hid (xss.length = n) ∧ n ≤ c ∧ OuterR w0 w A n rv ∧ RowsR w0 w rv xss ∧ Below w0.heap.size w0 w := by
  obtain ⟨A, c, rv, h⟩ := h
  exact ⟨A, c, _, rv, h.1, rfl, h.2⟩
theorem RetLists.nil {w0 w : World} (h : Below w0.heap.size w0 w) : RetLists w0 [] (.returned (.slice none 0 0)) w :=
  ⟨none, 0, [], rfl, Nat.le_refl _, ⟨⟨rfl, by simp, fun h => absurd h (by simp)⟩, fun ad h => by cases h⟩, RowsR.nil, h⟩
theorem RetLists.of_own {w0 w : World} {xss : List (List Int)} {A : Option Addr} {n c base : Nat} {rv : List Value} (hn : xss.length = n) (hc : n ≤ c) (h : w.ownsRow base 32 1 (.slice A n c) n rv) (hbase : w0.heap.size ≤ base) (hr : RowsR w0 w rv xss) (hb : Below w0.heap.size w0 w) : RetLists w0 xss (.returned (.slice A n c)) w := by
  subst hn; exact ⟨A, c, rv, rfl, hc, OuterR.of_own h hbase hr.one, hr, hb⟩
theorem RetLists.lit1 {w0 w1 : World} {xs : List Int} {A : Option Addr} {n c : Nat} (hn : xs.length = n) (hc : n ≤ c) (hf : FreshInts w0 w1 A n xs) (hb : Below w0.heap.size w0 w1) :
    RetLists w0 [xs] (.returned (.slice (some ⟨w1.heap.size, 0, none⟩) 1 1)) (w1.alloc (.cells #[.slice A n c] 32)) := by
  have hs := hb.size
  refine ⟨_, _, [.slice A n c], rfl, Nat.le_refl _, ⟨⟨rfl, by simp [Value.oneCell'], fun _ => ⟨_, rfl, fun j u hu => ?_⟩⟩, fun ad had => ?_⟩, RowsR.lit hn hc (hf.lat ((Below.refl _ _).alloc (Nat.le_refl _) _)), hb.alloc hs _⟩
  · match j, hu with
    | 0, hu =>
      simp only [List.getElem?_cons_zero, Option.some.injEq] at hu
      subst hu
      rw [addr_add]
      exact box_at _ _ _ _ _ (by simp)
    | j + 1, hu => simp at hu
  · injection had with had
    subst had
    exact ⟨_, _, rfl, hs, heap_alloc_new w1 _⟩
/-- What has been gathered. -/
def RowsInv (w wr : World) (ov : Value) (xss : List (List Int)) : Prop := ∃ (N : Nat) (rv : List Value), N ≤ 1024 ∧ xss.length = N ∧ Below w.heap.size w wr ∧ wr.ownsRow w.heap.size 32 1 ov N rv ∧ RowsR w wr rv xss
theorem RowsInv.later {w wr W : World} {ov : Value} {xss : List (List Int)} (h : RowsInv w wr ov xss) (hb : Below wr.heap.size wr W) : RowsInv w W ov xss := by
  obtain ⟨N, rv, hN, hl, h1, h2, h3⟩ := h
  exact ⟨N, rv, hN, hl, h1.trans (hb.mono h1.size), own_below h2 hb, h3.below hb⟩
end Go.Proofs.YtkbclcgdkbhgdaaGreat
namespace Go.Proofs.YtkbclcgdkbhgdaaGreat
open Go.RowKit Go.BigFrame
set_option linter.unusedVariables false


set_option maxHeartbeats 400000 in
theorem IndexS_any (A : Option Addr) (n c : Nat) (xs : List Int) (x : Int) (w : World) (hx : RInts w A n xs) :
    Calls Tryz.prog 74 #[.slice A n c, .int .i64 x] w fun e w' => e = .returned (.int .i64 (idxZ xs x)) ∧ Below w.heap.size w w' := by
  have hn := hx.2.1
  have hl := hx.1
  have HX := Lib.hid hx
  clear hx
  go_enter Tryz.func74, Tryz.ntmps74
  go_wp2_with fail
  go_loopw [8] (fun i wr => ∃ k : Nat, k ≤ n ∧ i = .int .i64 k ∧ Below w.heap.size w wr ∧ (∀ j, j < k → ∀ y, xs[j]? = some y → (y == x) = false)) (fun i _ => n - (intOf i).toNat)
  case atStart => exact ⟨0, Nat.zero_le _, rfl, Below.refl _ _, by omega⟩
  case round =>
    obtain ⟨k, hk, rfl, hb, hno⟩ := hrel
    by_cases hlt : k < n
    · obtain ⟨b, off, y, rfl, hbl, ho, c0⟩ := (HX.out.below hb (Nat.le_refl _)).at_ hlt
      have HN : Hid ((y == x) = false → ∀ j, j < k + 1 → ∀ y, xs[j]? = some y → (y == x) = false) := fun h => no_snoc ho hno h
      have HT : Hid ((y == x) = true → idxZ xs x = (k : Int)) := fun h => idxZ_hit ho h hno
      have L0 := Later.cell c0
      clear hno ho
      by_cases h1 : y = x
      · have hs := Lib.hid (HT.out (by simpa using h1))
        have h1' : (x == y) = true := by simpa using h1.symm
        go_wp2_with fail
        try (refine region_later (by kernel_rfl) (by kernel_rfl) ?_; repeat (go_big_quiet_step (fail)); refine wpQuiet_nil ?_; rintro _ ⟨u, rfl⟩; go_wp2_with fail)
        go_ret
        exact ⟨ret_int hs.out.symm, by first | exact hb | exact hb.trans (u.2.mono hb.size)⟩
      · have hs := Lib.hid (HN.out (by simpa using h1))
        have h1' : (x == y) = false := by simpa using fun h => h1 h.symm
        go_wp2_with fail
        try (refine region_later (by kernel_rfl) (by kernel_rfl) ?_; repeat (go_big_quiet_step (fail)); refine wpQuiet_nil ?_; rintro _ ⟨u, rfl⟩; go_wp2_with fail)
        go_roundw
        case rel => exact ⟨k + 1, by omega, by go_num, by first | exact hb | exact hb.trans (u.2.mono hb.size), hs.out⟩
        case measure => simp [intOf]; omega
    · have HE := Lib.hid (idxZ_none (xs := xs) (x := x) (fun j hj => hno j (by omega)))
      clear hno
      go_wp2_with fail
      go_ret
      exact ⟨ret_int HE.out.symm, hb⟩


set_option maxHeartbeats 400000 in
theorem ContainsS_any (A : Option Addr) (n c : Nat) (xs : List Int) (x : Int) (w : World) (hx : RInts w A n xs) :
    Calls Tryz.prog 44 #[.slice A n c, .int .i64 x] w fun e w' => e = .returned (.bool (xs.any fun y => y == x)) ∧ Below w.heap.size w w' := by
  have HI := Lib.hid (IndexS_any A n c xs x w hx)
  have hz := idxZ_any xs x
  clear hx
  go_enter Tryz.func44, Tryz.ntmps44
  go_wp2_with fail
  refine HI.out.mono ?_
  rintro e w1 ⟨rfl, hb⟩
  generalize idxZ xs x = z at *
  cases ha : (xs.any fun y => y == x)
  · rw [ha] at hz
    have hz2 : z = -1 := by simpa using hz
    subst hz2
    have HA := Lib.hid ha
    clear ha hz
    go_wp2_with fail
    go_ret
    exact ⟨ret_bool HA.out.symm, hb⟩
  · rw [ha] at hz
    have hz2 : 0 ≤ z := by simpa using hz
    have HA := Lib.hid ha
    clear ha hz
    go_wp2_with fail
    go_ret
    exact ⟨ret_bool HA.out.symm, hb⟩

end Go.Proofs.YtkbclcgdkbhgdaaGreat
namespace Go.Proofs.YtkbclcgdkbhgdaaGreat
open Go.RowKit Go.BigFrame Go.Shelf
set_option linter.unusedVariables false

attribute [local go_sem] Oper.semAt_some

/-- A step of the iterator, as the loop's body sees it: new blocks, and its own four. -/
structure ItStep (a : Nat) (V W : World) : Prop where
  os : W.os = V.os
  tape : W.tape = V.tape
  output : W.output = V.output
  size : V.heap.size ≤ W.heap.size
  block : ∀ k, k < V.heap.size → ¬ (a ≤ k ∧ k < a + 4) → W.heap[k]? = V.heap[k]?
theorem ItStep.refl (a : Nat) (V : World) : ItStep a V V := ⟨rfl, rfl, rfl, Nat.le_refl _, fun _ _ _ => rfl⟩
theorem ItStep.trans {a : Nat} {U V W : World} (h : ItStep a U V) (k : ItStep a V W) : ItStep a U W :=
  ⟨k.os.trans h.os, k.tape.trans h.tape, k.output.trans h.output, Nat.le_trans h.size k.size, fun i hi hn => (k.block i (Nat.lt_of_lt_of_le hi h.size) hn).trans (h.block i hi hn)⟩
theorem ItStep.of_below {a : Nat} {V W : World} (h : Below V.heap.size V W) : ItStep a V W := ⟨h.os, h.tape, h.output, h.size, fun k hk _ => h.block k hk⟩
theorem ItStep.of_grown {a : Nat} {V W : World} {row : Option Nat} (h : V.grownBy W row) (hr : ∀ g, row = some g → a ≤ g ∧ g < a + 4) : ItStep a V W :=
  ⟨h.os, h.tape, h.output, h.size, fun k hk hn => h.block k hk (fun e => hn (hr k e.symm))⟩
theorem ItStep.set {a : Nat} (V : World) {p : Addr} (u : Value) (hp : a ≤ p.block ∧ p.block < a + 4) : ItStep a V (V.setCell p u) :=
  ⟨rfl, rfl, rfl, by simp [World.setCell], fun k hk hn => Below.heap_setCell V p u k (by rintro rfl; exact hn hp)⟩
/-- What a round keeps for the iterator. -/
structure RdKeep (a bx n0 : Nat) (V W : World) : Prop where
  size : V.heap.size ≤ W.heap.size
  block : ∀ k, k < V.heap.size → (k < n0 ∨ k = bx ∨ (a ≤ k ∧ k < a + 4)) → W.heap[k]? = V.heap[k]?
theorem RInts.kept {V W : World} {A : Option Addr} {n : Nat} {xs : List Int} (h : RInts V A n xs) (hs : V.heap.size ≤ W.heap.size) (hA : ∀ ad, A = some ad → W.heap[ad.block]? = V.heap[ad.block]?) : RInts W A n xs := by
  refine ⟨h.1, h.2.1, fun hn => ?_⟩
  obtain ⟨b, off, hA', hl, hc⟩ := h.2.2 hn
  have hk := hA _ hA'
  exact ⟨b, off, hA', by omega, fun i x hx => (World.cell?_of_block (w := V) (a := ⟨b, off + i, none⟩) hk).trans (hc i x hx)⟩

/-- The iterator's blocks, and the list that it goes over. -/
structure Iter (a bx l n c : Nat) (A : Option Addr) (list pre : List Int) (V : World) : Prop where
  yb : V.heap[a]? = some (.cells #[.func (.yield l) #[] #[]] 60 (0, 0))
  row : V.ownsRow a 3 1 (.slice (some ⟨a + 1, 0, none⟩) pre.length n) pre.length (intCells pre)
  ob : V.heap[a + 2]? = some (.cells #[.slice (some ⟨a + 1, 0, none⟩) pre.length n] 32 (0, 0))
  fb : V.heap[a + 3]? = some (.cells #[.func (.func 42) #[] #[.pointer (some ⟨a + 2, 0, none⟩), .pointer (some ⟨bx, 0, none⟩), .pointer (some ⟨a, 0, none⟩), .pointer (some ⟨a + 3, 0, none⟩)]] 47 (0, 0))
  lb : V.cell? ⟨bx, 0, none⟩ = some (.slice A n c)
  list : RInts V A n list
theorem Iter.below {a bx l n c : Nat} {A : Option Addr} {list pre : List Int} {V W : World} (h : Iter a bx l n c A list pre V) (hb : Below V.heap.size V W) : Iter a bx l n c A list pre W :=
  ⟨(hb.block _ (lt_of_block h.yb)).trans h.yb, own_below h.row hb, (hb.block _ (lt_of_block h.ob)).trans h.ob, (hb.block _ (lt_of_block h.fb)).trans h.fb,
   (hb.cell (p := ⟨bx, 0, none⟩) (block_lt_of_cell h.lb)).trans h.lb, h.list.below hb (Nat.le_refl _)⟩
theorem ownsRow_block {V W : World} {base n m : Nat} {T : TypeId} {sz g c : Nat} {xs : List Value} (h : V.ownsRow base T sz (.slice (some ⟨g, 0, none⟩) n c) m xs) (hs : V.heap.size ≤ W.heap.size) (hk : W.heap[g]? = V.heap[g]?) : W.ownsRow base T sz (.slice (some ⟨g, 0, none⟩) n c) m xs := by
  refine ⟨h.1, ?_⟩
  rcases h.2 with ⟨e, _⟩ | ⟨g', cap, cur, e, h2, h3, h4⟩
  · cases e
  · have eg : g' = g := by
      injection e with e1
      injection e1 with e1
      injection e1 with e1
      exact e1.symm
    subst eg
    exact .inr ⟨g', cap, cur, e, h2, hk.trans h3, h4⟩
theorem Iter.kept {a bx l n c n0 : Nat} {A : Option Addr} {list pre : List Int} {V W : World} (h : Iter a bx l n c A list pre V) (hA : ∀ ad, A = some ad → ad.block < n0) (hk : RdKeep a bx n0 V W) : Iter a bx l n c A list pre W := by
  have hob := hk.block (a + 2) (lt_of_block h.ob) (.inr (.inr (by omega)))
  have hyb := hk.block a (lt_of_block h.yb) (.inr (.inr (by omega)))
  have hfb := hk.block (a + 3) (lt_of_block h.fb) (.inr (.inr (by omega)))
  have hrb := hk.block (a + 1) (by have := lt_of_block h.ob; omega) (.inr (.inr (by omega)))
  have hbx : bx < V.heap.size := block_lt_of_cell h.lb
  have hlb := hk.block bx hbx (.inr (.inl rfl))
  refine ⟨hyb.trans h.yb, ownsRow_block h.row hk.size hrb, hob.trans h.ob, hfb.trans h.fb, (World.cell?_of_block (w := V) (a := ⟨bx, 0, none⟩) hlb).trans h.lb, ?_⟩
  refine ⟨h.list.1, h.list.2.1, fun h0 => ?_⟩
  obtain ⟨b, off, hA', hl, hc⟩ := h.list.2.2 h0
  have hkb := hk.block b hl (.inl (hA _ hA'))
  have hs := hk.size
  exact ⟨b, off, hA', by omega, fun i x hx => (World.cell?_of_block (w := V) (a := ⟨b, off + i, none⟩) hkb).trans (hc i x hx)⟩
theorem Iter.cells {a bx l n c : Nat} {A : Option Addr} {list pre : List Int} {V : World} (h : Iter a bx l n c A list pre V) :
    V.cell? ⟨a, 0, none⟩ = some (.func (.yield l) #[] #[]) ∧ V.cell? ⟨a + 2, 0, none⟩ = some (.slice (some ⟨a + 1, 0, none⟩) pre.length n) ∧ V.frozen? ⟨a + 2, 0, none⟩ = false ∧
    V.cell? ⟨a + 3, 0, none⟩ = some (.func (.func 42) #[] #[.pointer (some ⟨a + 2, 0, none⟩), .pointer (some ⟨bx, 0, none⟩), .pointer (some ⟨a, 0, none⟩), .pointer (some ⟨a + 3, 0, none⟩)]) := by
  refine ⟨?_, ?_, ?_, ?_⟩
  · rw [cell_of_row _ _ _ _ _ _ h.yb]; rfl
  · rw [cell_of_row _ _ _ _ _ _ h.ob]; rfl
  · simp [World.frozen?, h.ob]
  · rw [cell_of_row _ _ _ _ _ _ h.fb]; rfl
/-- The order with another length, as its box tells. -/
theorem Iter.put {a bx l n c : Nat} {A : Option Addr} {list pre pre' : List Int} {V W : World} (h : Iter a bx l n c A list pre V) (hg : V.grownBy W (some (a + 1))) (hbx : bx < a) (hA : ∀ ad, A = some ad → ad.block < a)
    (hrow : W.ownsRow a 3 1 (.slice (some ⟨a + 1, 0, none⟩) pre'.length n) pre'.length (intCells pre')) :
    Iter a bx l n c A list pre' (W.setCell ⟨a + 2, 0, none⟩ (.slice (some ⟨a + 1, 0, none⟩) pre'.length n)) := by
  have blk : ∀ k, k < V.heap.size → k ≠ a + 1 → k ≠ a + 2 → (W.setCell ⟨a + 2, 0, none⟩ (.slice (some ⟨a + 1, 0, none⟩) pre'.length n)).heap[k]? = V.heap[k]? := fun k hk h1 h2 =>
    (Below.heap_setCell W _ _ k (by simpa using h2)).trans (hg.block k hk (fun e => h1 (by injection e)))
  have hs := World.grownBy.size hg
  have hob : W.heap[a + 2]? = some (.cells #[.slice (some ⟨a + 1, 0, none⟩) pre.length n] 32 (0, 0)) := (hg.block (a + 2) (lt_of_block h.ob) (by simp)).trans h.ob
  refine ⟨(blk a (lt_of_block h.yb) (by omega) (by omega)).trans h.yb, ?_, ?_, (blk (a + 3) (lt_of_block h.fb) (by omega) (by omega)).trans h.fb, ?_, ?_⟩
  · refine ownsRow_block hrow (by simp [World.setCell]) (Below.heap_setCell W _ _ (a + 1) (by simp))
  · simp [World.setCell, Array.getElem?_modify, hob]
  · exact (World.cell?_of_block (w := V) (a := ⟨bx, 0, none⟩) (blk bx (block_lt_of_cell h.lb) (by omega) (by omega))).trans h.lb
  · refine ⟨h.list.1, h.list.2.1, fun h0 => ?_⟩
    obtain ⟨b, off, hA', hl, hc⟩ := h.list.2.2 h0
    have hba := hA _ hA'
    simp only at hba
    refine ⟨b, off, hA', by simp [World.setCell]; omega, fun i x hx => (World.cell?_of_block (w := V) (a := ⟨b, off + i, none⟩) (blk b hl (by omega) (by omega))).trans (hc i x hx)⟩
theorem own_less {w : World} {base g k c : Nat} {xs : List Int} {t : Int} (h : w.ownsRow base 3 1 (.slice (some ⟨g, 0, none⟩) (k + 1) c) (k + 1) (intCells (xs ++ [t]))) (hk : xs.length = k) : w.ownsRow base 3 1 (.slice (some ⟨g, 0, none⟩) k c) k (intCells xs) := by
  refine ⟨by simp [intCells, hk], ?_⟩
  rcases h.2 with ⟨e, _⟩ | ⟨g', cap, cur, e, h2, h3, h4, h5, h6, h7⟩
  · cases e
  · injection e with e1 e2 e3
    injection e1 with e1
    injection e1 with e1
    subst e1; subst e3
    refine .inr ⟨_, _, cur, rfl, h2, h3, by omega, h5, h6, ?_⟩
    have : (cur.toList.take ((k + 1) * 1)).take (k * 1) = cur.toList.take (k * 1) := by rw [List.take_take]; congr 1; omega
    rw [← this, h7]
    simp [intCells, hk]
end Go.Proofs.YtkbclcgdkbhgdaaGreat
namespace Go.Proofs.YtkbclcgdkbhgdaaGreat
open Go.RowKit Go.BigFrame Go.Shelf
set_option linter.unusedVariables false

attribute [local go_sem] Oper.semAt_some

/-- What the loop's body asks of the iterator, and what it does in a round. -/
structure PermCtx (a bx n0 l n : Nat) (list : List Int) (J : List (List Int) → World → Prop) : Prop where
  abide : ∀ s V W, J s V → ItStep a V W → J s W
  round : ∀ acc x V W1 A' c' m, J acc V → ItStep a V W1 → a + 4 ≤ V.heap.size → FreshInts V W1 A' n x → n ≤ c' → (acc ++ [x]) <+: permF list n [] →
    YieldAt Fence.wide m Tryz.prog l #[.slice A' n c'] W1 fun e W' => e = .returned (.bool true) ∧ J (acc ++ [x]) W' ∧ RdKeep a bx n0 W1 W'

/-- What the orders that begin with 'pre' and then go on with t are. -/
def permN (list : List Int) (m : Nat) (pre : List Int) (t : Int) : List (List Int) := if pre.any (fun y => y == t) then [] else permF list m (pre ++ [t])
theorem permF_succ {list : List Int} {m : Nat} {pre : List Int} : permF list (m + 1) pre = list.flatMap (permN list m pre) := rfl
theorem prefix_of_snoc {α : Type} {acc a b c L : List α} (h : (acc ++ (a ++ (b ++ c))) <+: L) : (acc ++ (a ++ b)) <+: L := by
  refine List.IsPrefix.trans ?_ h
  exact ⟨c, by simp⟩
theorem Iter.sz {a bx l n c : Nat} {A : Option Addr} {list pre : List Int} {V : World} (h : Iter a bx l n c A list pre V) : a + 4 ≤ V.heap.size := by have := lt_of_block h.fb; omega

set_option maxRecDepth 100000 in
set_option maxHeartbeats 1000000 in
theorem from_zero (a bx n0 l n c : Nat) (A : Option Addr) (list : List Int) (J : List (List Int) → World → Prop) (hP : PermCtx a bx n0 l n list J) (hA : ∀ ad, A = some ad → ad.block < n0)
    (pre : List Int) (acc : List (List Int)) (V : World) (hI : Iter a bx l n c A list pre V) (hJ : J acc V) (hlen : pre.length = n) (hpre : (acc ++ [pre]) <+: permF list n []) :
      Calls Tryz.prog 42 #[.pointer (some ⟨a + 2, 0, none⟩), .pointer (some ⟨bx, 0, none⟩), .pointer (some ⟨a, 0, none⟩), .pointer (some ⟨a + 3, 0, none⟩)] V fun e V' =>
        e = .returned (.bool true) ∧ Iter a bx l n c A list pre V' ∧ J (acc ++ [pre]) V' := by
  subst hlen
  obtain ⟨c0, c2, f2, c3⟩ := hI.cells
  have clb := hI.lb
  have hln := hI.list.2.1
  have hcl : Calls Tryz.prog 43 #[.slice (some ⟨a + 1, 0, none⟩) pre.length pre.length] V.drew (RetInts V.drew pre) := CloneI_any (a + 1) 0 pre.length pre.length pre V.drew (RInts.of_own hI.row hln)
  have HC := Lib.hid hcl
  have HR : Hid (∀ (A1 : Option Addr) (c1 m : Nat) (w1 : World), FreshInts V.drew w1 A1 pre.length pre → pre.length ≤ c1 → Below V.drew.heap.size V.drew w1 →
      YieldAt Fence.wide m Tryz.prog l #[.slice A1 pre.length c1] w1 fun e W' => e = .returned (.bool true) ∧ J (acc ++ [pre]) W' ∧ Iter a bx l pre.length c A list pre W') := by
    intro A1 c1 m w1 hf hc1 hb
    refine (hP.round acc pre V w1 A1 c1 m hJ ⟨hb.os, hb.tape, hb.output, hb.size, fun k hk _ => hb.block k hk⟩ hI.sz hf hc1 hpre).mono ?_
    rintro e W' ⟨he, hj, hk⟩
    exact ⟨he, hj, (hI.below (W := w1) ⟨hb.os, hb.tape, hb.output, hb.size, hb.block⟩).kept hA hk⟩
  clear hI hJ hpre hP hcl
  refine (callsIn_wide (n := 5)).1 ?_
  refine callsIn_of_wp Tryz.func42 rfl trivial ?_ rfl
  simp only [Tryz.ntmps42, List.size_toArray, List.length_cons, List.length_nil, Nat.reduceAdd, Nat.reduceSub, Array.replicate_succ, Array.replicate_zero, List.push_toArray, List.append_toArray, List.nil_append, List.cons_append]
  gi_wp2
  gi_region_with (first
    | (refine ⟨trivial, ?_⟩; gi_at_call 43; refine (callsIn_wide.2 HC.out).mono ?_; rintro e w1 ⟨A1, c1, rfl, hc1, hf, hb⟩; have c0' := (hb.cell (p := ⟨a, 0, none⟩) (block_lt_of_cell c0)).trans c0; obtain ⟨fn, tmps, assign, body, hy, hR⟩ := HR.out A1 c1 4 w1 hf hc1 hb)
    | (refine hR.mono ?_; rintro e w2 ⟨rfl, hJ2, hI2⟩))
  all_goals
    gi_wp2
    go_ret
    exact ⟨rfl, hI2, hJ2⟩
end Go.Proofs.YtkbclcgdkbhgdaaGreat
namespace Go.Proofs.YtkbclcgdkbhgdaaGreat
open Go.RowKit Go.BigFrame Go.Shelf
set_option linter.unusedVariables false

/-- A loop of the recursion: what lies and what has come. -/
structure FromInv (a bx l n c : Nat) (A : Option Addr) (list pre : List Int) (J : List (List Int) → World → Prop) (acc : List (List Int)) (V : World) : Prop where
  it : Iter a bx l n c A list pre V
  j : J acc V

theorem cell_grown {V W : World} {row : Option Nat} (hg : V.grownBy W row) {p : Addr} (hp : p.block < V.heap.size) (hne : some p.block ≠ row) : W.cell? p = V.cell? p := World.cell?_of_block (w := V) (hg.block _ hp hne)
theorem frozen_grown {V W : World} {row : Option Nat} (hg : V.grownBy W row) {p : Addr} (hp : p.block < V.heap.size) (hne : some p.block ≠ row) : W.frozen? p = V.frozen? p := by
  unfold World.frozen?
  rw [hg.block _ hp hne]
/-- One order more: what lies then. -/
theorem put_len {a bx l n c d : Nat} {A : Option Addr} {list pre : List Int} {t : Int} {V W : World} (hd : pre.length = d) (h : Iter a bx l n c A list pre V) (hg : V.grownBy W (some (a + 1))) (hbx : bx < a) (hA : ∀ ad, A = some ad → ad.block < a)
    (hrow : W.ownsRow a 3 1 (.slice (some ⟨a + 1, 0, none⟩) (d + 1) n) (d + 1) (intCells pre ++ [.int .i64 t])) :
    W.cell? ⟨a + 2, 0, none⟩ = some (.slice (some ⟨a + 1, 0, none⟩) d n) ∧ W.frozen? ⟨a + 2, 0, none⟩ = false ∧ Iter a bx l n c A list (pre ++ [t]) (W.setCell ⟨a + 2, 0, none⟩ (.slice (some ⟨a + 1, 0, none⟩) (d + 1) n)) ∧
      (W.setCell ⟨a + 2, 0, none⟩ (.slice (some ⟨a + 1, 0, none⟩) (d + 1) n)).cell? ⟨a + 3, 0, none⟩ = some (.func (.func 42) #[] #[.pointer (some ⟨a + 2, 0, none⟩), .pointer (some ⟨bx, 0, none⟩), .pointer (some ⟨a, 0, none⟩), .pointer (some ⟨a + 3, 0, none⟩)]) := by
  subst hd
  obtain ⟨c0, c2, f2, c3⟩ := h.cells
  have hs := h.sz
  have hl : (pre ++ [t]).length = pre.length + 1 := by simp
  have hI : Iter a bx l n c A list (pre ++ [t]) (W.setCell ⟨a + 2, 0, none⟩ (.slice (some ⟨a + 1, 0, none⟩) (pre ++ [t]).length n)) := h.put hg hbx hA (by rw [hl]; simpa [intCells] using hrow)
  rw [hl] at hI
  exact ⟨(cell_grown hg (p := ⟨a + 2, 0, none⟩) (by simp; omega) (by simp)).trans c2, (frozen_grown hg (p := ⟨a + 2, 0, none⟩) (by simp; omega) (by simp)).trans f2, hI, hI.cells.2.2.2⟩
theorem put_step {a : Nat} {V W : World} {u : Value} (hg : V.grownBy W (some (a + 1))) : ItStep a V (W.setCell ⟨a + 2, 0, none⟩ u) :=
  (ItStep.of_grown hg (fun g e => by injection e with e; omega)).trans (ItStep.set W u (p := ⟨a + 2, 0, none⟩) (by simp))

set_option maxRecDepth 100000 in
set_option maxHeartbeats 2000000 in
theorem from_any (a bx n0 l n c : Nat) (A : Option Addr) (list : List Int) (J : List (List Int) → World → Prop) (hP : PermCtx a bx n0 l n list J) (hbx : bx < a) (hA : ∀ ad, A = some ad → ad.block < n0) (hn0 : n0 ≤ a) (m : Nat) :
    ∀ (pre : List Int) (acc : List (List Int)) (V : World), Iter a bx l n c A list pre V → J acc V → pre.length + m = n → (acc ++ permF list m pre) <+: permF list n [] →
      Calls Tryz.prog 42 #[.pointer (some ⟨a + 2, 0, none⟩), .pointer (some ⟨bx, 0, none⟩), .pointer (some ⟨a, 0, none⟩), .pointer (some ⟨a + 3, 0, none⟩)] V fun e V' =>
        e = .returned (.bool true) ∧ Iter a bx l n c A list pre V' ∧ J (acc ++ permF list m pre) V' := by
  induction m with
  | zero =>
    intro pre acc V hI hJ hlen hpre
    exact from_zero a bx n0 l n c A list J hP hA pre acc V hI hJ (by omega) hpre
  | succ m ih =>
    intro pre acc V hI hJ hlen hpre
    obtain ⟨d, hh⟩ : ∃ d, pre.length = d := ⟨_, rfl⟩
    have HLEN := Lib.hid hh
    have hhn : d < n := by omega
    have hdm : d + m + 1 = n := by omega
    have hdn : ((d : Int) == (n : Int)) = false := by simp; omega
    obtain ⟨c0, c2, f2, c3⟩ := hI.cells
    rw [hh] at c2
    have clb := hI.lb
    have hln := hI.list.2.1
    have hlist := hI.list.1
    have HP := Lib.hid hP
    have HIH := Lib.hid ih
    have HPRE := Lib.hid hpre
    have HFI : Hid (FromInv a bx l n c A list pre J acc V) := ⟨hI, hJ⟩
    have HA := Lib.hid hA
    have HL := Lib.hid hlist
    clear hI hJ hP ih hpre hA hlist hlen hh
    go_enter Tryz.func42, Tryz.ntmps42
    go_wp2_with fail
    go_loopw [18] (fun i wr => ∃ k : Nat, k ≤ n ∧ i = .int .i64 k ∧ FromInv a bx l n c A list pre J (acc ++ (list.take k).flatMap (permN list m pre)) wr) (fun i _ => n - (intOf i).toNat)
    case atStart => exact ⟨0, Nat.zero_le _, rfl, by simpa using HFI.out⟩
    case round =>
      clear HFI c0 c2 f2 c3 clb
      obtain ⟨k, hk, rfl, hinv⟩ := hrel
      have HINV := Lib.hid hinv
      clear hinv
      by_cases hlt : k < n
      · obtain ⟨c0, c2, f2, c3⟩ := HINV.out.it.cells
        rw [HLEN.out] at c2
        obtain ⟨b, off, t, hAe, hbl, ho, ct⟩ := HINV.out.it.list.at_ hlt
        have hbA : b < a := by have := HA.out _ hAe; simp only at this; omega
        subst hAe
        have hst : (list.take (k + 1)).flatMap (permN list m pre) = (list.take k).flatMap (permN list m pre) ++ permN list m pre t := by
          rw [take_snoc ho, List.flatMap_append]; simp
        have hpx : permF list (m + 1) pre = ((list.take k).flatMap (permN list m pre) ++ permN list m pre t) ++ (list.drop (k + 1)).flatMap (permN list m pre) := by
          rw [permF_succ, ← hst, ← List.flatMap_append, List.take_append_drop]
        have HPX : Hid ((acc ++ (list.take k).flatMap (permN list m pre) ++ permN list m pre t) <+: permF list n []) := by
          have := HPRE.out
          rw [hpx] at this
          refine List.IsPrefix.trans ⟨(list.drop (k + 1)).flatMap (permN list m pre), ?_⟩ this
          simp [List.append_assoc]
        have HST : Hid (acc ++ (list.take (k + 1)).flatMap (permN list m pre) = acc ++ (list.take k).flatMap (permN list m pre) ++ permN list m pre t) := by show _ = _; rw [hst, List.append_assoc]
        have HN : Hid (permN list m pre t = if pre.any (fun y => y == t) then [] else permF list m (pre ++ [t])) := rfl
        clear hst hpx ho
        generalize acc ++ (list.take k).flatMap (permN list m pre) = acc1 at *
        generalize permN list m pre t = nx at *
        have hrow := HINV.out.it.row
        rw [HLEN.out] at hrow
        have hcI : Calls Tryz.prog 44 #[.slice (some ⟨a + 1, 0, none⟩) d n, .int .i64 t] wr fun e w' => e = .returned (.bool (pre.any fun y => y == t)) ∧ Below wr.heap.size wr w' := ContainsS_any (some ⟨a + 1, 0, none⟩) d n pre t wr (RInts.of_own hrow (by omega))
        obtain ⟨bc, hbc⟩ : ∃ bc, (pre.any fun y => y == t) = bc := ⟨_, rfl⟩
        have HBC := Lib.hid hbc
        rw [hbc] at hcI
        have HC := Lib.hid hcI
        have HROW := Lib.hid hrow
        have clb := HINV.out.it.lb
        have hsz := HINV.out.it.sz
        clear hcI hbc hrow
        cases bc
        · go_wp2_with fail
          refine (HC.out).mono ?_
          rintro e w1 ⟨rfl, hb1⟩
          have c2' := (hb1.cell (p := ⟨a + 2, 0, none⟩) (by simp; omega)).trans c2
          have f2' := (hb1.frozen (p := ⟨a + 2, 0, none⟩) (by simp; omega)).trans f2
          have hrow1 := (own_below HROW.out hb1).alloc (.cells #[.int .i64 t] 3)
          have hbw1 := hb1.size
          have HI1 : Hid (Iter a bx l n c (some ⟨b, off, none⟩) list pre (w1.alloc (.cells #[.int .i64 t] 3))) := HINV.out.it.below ((hb1.trans ((Below.refl wr.heap.size w1).alloc hbw1 _)))
          have HJ1 : Hid (∀ W, ItStep a (w1.alloc (.cells #[.int .i64 t] 3)) W → J acc1 W) := fun W hW => HP.out.abide _ _ _ HINV.out.j ((ItStep.of_below (hb1.trans ((Below.refl wr.heap.size w1).alloc hbw1 _))).trans hW)
          have HAB : Hid (∀ ad, some (⟨b, off, none⟩ : Addr) = some ad → ad.block < a) := fun ad h => by injection h with h; subst h; exact hbA
          go_wp2_with (at_builtin; refine wpList_append_fits _ rfl (.tmp 25) (.tmp 27) 32 rfl a 3 (info_parts intInfo).choose 1 Tryz.underlying32 (info_parts intInfo).choose_spec.1 (info_parts intInfo).choose_spec.2.2.1 (a + 1) d n (intCells pre) rfl hrow1 ⟨w1.heap.size, 0, none⟩ 1 1 [.int .i64 t] rfl rfl (cell_one_new _ _ _) (by simp [Value.oneCell']) (by omega) ?_; intro w3 hown3 hg3; have hpl := put_len HLEN.out HI1.out hg3 hbx HAB.out hown3; have c2w := hpl.1; have f2w := hpl.2.1; have c3w := hpl.2.2.2; have HI4 := Lib.hid hpl.2.2.1; have HJ4 := Lib.hid (HJ1.out _ (put_step (u := .slice (some ⟨a + 1, 0, none⟩) (d + 1) n) hg3)); clear hpl hown3 hg3)
          have hlen4 : (pre ++ [t]).length + m = n := by simp [HLEN.out]; omega
          refine (HIH.out (pre ++ [t]) acc1 _ HI4.out HJ4.out hlen4 (by have := HPX.out; rw [HN.out, HBC.out] at this; simpa using this)).mono ?_
          rintro e w5 ⟨rfl, hI5, hJ5⟩
          obtain ⟨_, c25, f25, _⟩ := hI5.cells
          have hl5 : (pre ++ [t]).length = d + 1 := by simp [HLEN.out]
          rw [hl5] at c25
          have s1 : IntKind.i64.wrap (((d + 1 : Nat) : Int) - 1) = (d : Int) := by rw [IntWalk.i64_in _ (by omega)]; omega
          have HI5 := Lib.hid hI5
          have HJ5 := Lib.hid hJ5
          clear hI5 hJ5 c2w f2w c3w
          go_wp2_with fail
          go_roundw
          case rel => exact ⟨k + 1, by omega, by go_num, by
            rw [HST.out, HN.out, HBC.out, if_neg (by simp)]
            refine ⟨?_, HP.out.abide _ _ _ HJ5.out (ItStep.set _ _ (by simp))⟩
            have hr := HI5.out.row
            rw [hl5] at hr
            have h6 := HI5.out.put (pre' := pre) (World.grownBy.refl _ _) hbx HAB.out (by rw [HLEN.out]; exact own_less (xs := pre) hr HLEN.out)
            rw [HLEN.out] at h6
            exact h6⟩
          case measure => simp [intOf]; omega
        · go_wp2_with fail
          refine (HC.out).mono ?_
          rintro e w1 ⟨rfl, hb1⟩
          go_wp2_with fail
          go_roundw
          case rel => exact ⟨k + 1, by omega, by go_num, by
            rw [HST.out, HN.out, HBC.out, if_pos rfl, List.append_nil]
            exact ⟨HINV.out.it.below hb1, HP.out.abide _ _ _ HINV.out.j (ItStep.of_below hb1)⟩⟩
          case measure => simp [intOf]; omega
      · obtain rfl : k = n := by omega
        go_wp2_with fail
        go_ret
        have e : list.take k = list := List.take_of_length_le (by have := HL.out; omega)
        have hi := HINV.out
        rw [e] at hi
        exact ⟨rfl, hi.it, hi.j⟩
end Go.Proofs.YtkbclcgdkbhgdaaGreat
namespace Go.Proofs.YtkbclcgdkbhgdaaGreat
open Go.RowKit Go.BigFrame Go.Shelf
set_option linter.unusedVariables false

attribute [local go_sem] Oper.semAt_some

theorem run_mkInts (n : Nat) (hn : n ≤ 1000000) (w : World) : ∃ cs : Array Value, cs.size = n ∧
    (Instr.makeSlice 32 (.int .i64 0) (.int .i64 (n : Int))).run Tryz.prog w = .ok (.slice (some ⟨w.heap.size, 0, none⟩) 0 n) (w.alloc (.cells cs 3)) := by
  obtain ⟨i0, hi, hz0, hz1, hz2⟩ := info_parts intInfo
  have := run_makeSlice (P := Tryz.prog) (w := w) 32 3 i0 _ Tryz.underlying32 hi hz0 .i64 .i64 0 (n : Int) (Int.le_refl _) (by omega) (by rw [hz1]; omega) (by rw [hz2]; omega) (by omega)
  simp only [Int.toNat_zero, Int.toNat_natCast, hz1] at this
  exact ⟨_, by rw [size_madeCells]; omega, this⟩

set_option maxHeartbeats 1000000 in
/-- 'permutations(list)': a closure over the list's box. -/
theorem permutations_any (A : Option Addr) (n c : Nat) (w : World) :
    Calls Tryz.prog 17 #[.slice A n c] w fun e w' => e = .returned (.func (.func 41) #[] #[.pointer (some ⟨w.heap.size, 0, none⟩)]) ∧ w' = w.alloc (.cells #[.slice A n c] 32) := by
  go_enter Tryz.func17, Tryz.ntmps17
  go_wp2_with fail
  go_ret
  exact ⟨rfl, rfl⟩

/-- What lies where the recursion begins. -/
theorem iter_start {bx l n c : Nat} {A : Option Addr} {list : List Int} {W : World} {cs : Array Value} (hcs : cs.size = n) (hb : W.cell? ⟨bx, 0, none⟩ = some (.slice A n c)) (hl : RInts W A n list) (hn : n ≤ 4) :
    Iter W.heap.size bx l n c A list [] ((((W.alloc (.cells #[.func (.yield l) #[] #[]] 60)).alloc (.cells cs 3)).alloc (.cells #[.slice (some ⟨W.heap.size + 1, 0, none⟩) 0 n] 32)).alloc (.cells #[.func (.func 42) #[] #[.pointer (some ⟨W.heap.size + 2, 0, none⟩), .pointer (some ⟨bx, 0, none⟩), .pointer (some ⟨W.heap.size, 0, none⟩), .pointer (some ⟨W.heap.size + 3, 0, none⟩)]] 47)) := by
  obtain ⟨W1, h1⟩ : ∃ W1, W.alloc (.cells #[.func (.yield l) #[] #[]] 60) = W1 := ⟨_, rfl⟩
  obtain ⟨W2, h2⟩ : ∃ W2, W1.alloc (.cells cs 3) = W2 := ⟨_, rfl⟩
  obtain ⟨W3, h3⟩ : ∃ W3, W2.alloc (.cells #[.slice (some ⟨W.heap.size + 1, 0, none⟩) 0 n] 32) = W3 := ⟨_, rfl⟩
  obtain ⟨W4, h4⟩ : ∃ W4, W3.alloc (.cells #[.func (.func 42) #[] #[.pointer (some ⟨W.heap.size + 2, 0, none⟩), .pointer (some ⟨bx, 0, none⟩), .pointer (some ⟨W.heap.size, 0, none⟩), .pointer (some ⟨W.heap.size + 3, 0, none⟩)]] 47) = W4 := ⟨_, rfl⟩
  rw [h1, h2, h3, h4]
  have s1 : W1.heap.size = W.heap.size + 1 := by rw [← h1]; simp
  have s2 : W2.heap.size = W.heap.size + 2 := by rw [← h2]; simp; omega
  have s3 : W3.heap.size = W.heap.size + 3 := by rw [← h3]; simp; omega
  have b4 : Below W3.heap.size W3 W4 := by rw [← h4]; exact (Below.refl _ _).alloc (Nat.le_refl _) _
  have b3 : Below W2.heap.size W2 W4 := by
    refine Below.trans ?_ (b4.mono (by omega))
    rw [← h3]; exact (Below.refl _ _).alloc (Nat.le_refl _) _
  have b2 : Below W1.heap.size W1 W4 := by
    refine Below.trans ?_ (b3.mono (by omega))
    rw [← h2]; exact (Below.refl _ _).alloc (Nat.le_refl _) _
  have b1 : Below W.heap.size W W4 := by
    refine Below.trans ?_ (b2.mono (by omega))
    rw [← h1]; exact (Below.refl _ _).alloc (Nat.le_refl _) _
  have k1 : W1.heap[W.heap.size]? = some (.cells #[.func (.yield l) #[] #[]] 60 (0, 0)) := by rw [← h1]; exact heap_alloc_new W _
  have k2 : W2.ownsRow W.heap.size 3 1 (.slice (some ⟨W.heap.size + 1, 0, none⟩) 0 n) 0 (intCells []) := by
    have := World.ownsRow_made (base := W.heap.size) (e := 3) (size := 1) W1 cs n (by omega) (by unfold maxLen; omega) (by omega)
    rw [s1, h2] at this
    exact this
  have k3 : W3.heap[W.heap.size + 2]? = some (.cells #[.slice (some ⟨W.heap.size + 1, 0, none⟩) 0 n] 32 (0, 0)) := by
    have := heap_alloc_new W2 (.cells #[.slice (some ⟨W.heap.size + 1, 0, none⟩) 0 n] 32)
    rw [h3, s2] at this; exact this
  have k4 := heap_alloc_new W3 (.cells #[.func (.func 42) #[] #[.pointer (some ⟨W.heap.size + 2, 0, none⟩), .pointer (some ⟨bx, 0, none⟩), .pointer (some ⟨W.heap.size, 0, none⟩), .pointer (some ⟨W.heap.size + 3, 0, none⟩)]] 47)
  rw [h4, s3] at k4
  exact ⟨(b2.block _ (by omega)).trans k1, own_below k2 b3, (b4.block _ (by omega)).trans k3, k4, (b1.cell (p := ⟨bx, 0, none⟩) (block_lt_of_cell hb)).trans hb, hl.below b1 (Nat.le_refl _)⟩

set_option maxRecDepth 100000 in
set_option maxHeartbeats 2000000 in
/-- The closure, called with what takes the orders: all of them come, in order. -/
theorem perms_any (bx n0 l n c : Nat) (A : Option Addr) (list : List Int) (J : List (List Int) → World → Prop) (W : World) (hP : PermCtx W.heap.size bx n0 l n list J)
    (hb : W.cell? ⟨bx, 0, none⟩ = some (.slice A n c)) (hl : RInts W A n list) (hA : ∀ ad, A = some ad → ad.block < n0) (hn0 : n0 ≤ W.heap.size) (hn4 : n ≤ 4) (h0 : J [] W) :
    Calls Tryz.prog 41 #[.func (.yield l) #[] #[], .pointer (some ⟨bx, 0, none⟩)] W fun e W' => (∃ v, e = .returned v) ∧ J (permF list n []) W' := by
  obtain ⟨cs, hcs, hmk⟩ := run_mkInts n (by omega) (W.alloc (.cells #[.func (.yield l) #[] #[]] 60))
  have hbx : bx < W.heap.size := by have := block_lt_of_cell hb; simpa using this
  have HX := Lib.hid (And.intro hl (And.intro h0 hP))
  have HA := Lib.hid hA
  have HCS := Lib.hid hcs
  clear hl h0 hP hA hcs
  go_enter Tryz.func41, Tryz.ntmps41
  go_wp2_with fail
  refine (from_any W.heap.size bx n0 l n c A list J HX.out.2.2 hbx HA.out hn0 n [] [] _ (iter_start HCS.out hb HX.out.1 hn4) (HX.out.2.2.abide _ _ _ HX.out.2.1 ?hst) (by simp) (by simp)).mono ?_
  case hst => exact ItStep.of_below ((((Below.refl _ W).alloc (Nat.le_refl _) _).alloc (by simp) _).alloc (by simp; omega) _ |>.alloc (by simp; omega) _)
  rintro e w5 ⟨rfl, _, hJ5⟩
  have HJ5 := Lib.hid hJ5
  clear hJ5
  go_wp2_with fail
  go_end0
  exact ⟨⟨_, rfl⟩, by have := HJ5.out; simpa using this⟩
end Go.Proofs.YtkbclcgdkbhgdaaGreat
namespace Go.Proofs.YtkbclcgdkbhgdaaGreat
open Go.RowKit Go.BigFrame Go.Shelf
set_option linter.unusedVariables false

/-- Six blocks more: what is made behind them is made since. -/
def six (w : World) : World := (((((w.alloc (.cells #[] 3)).alloc (.cells #[] 3)).alloc (.cells #[] 3)).alloc (.cells #[] 3)).alloc (.cells #[] 3)).alloc (.cells #[] 3)
theorem six_size (w : World) : (six w).heap.size = w.heap.size + 6 := by simp [six]

/-- A step of the loop's statement and of the iterator, as the body's own things see it. -/
structure LpStep (b : Nat) (V W : World) : Prop where
  os : W.os = V.os
  tape : W.tape = V.tape
  output : W.output = V.output
  size : V.heap.size ≤ W.heap.size
  block : ∀ k, k < V.heap.size → ¬ (b ≤ k ∧ k < b + 6) → W.heap[k]? = V.heap[k]?
theorem LpStep.refl (b : Nat) (V : World) : LpStep b V V := ⟨rfl, rfl, rfl, Nat.le_refl _, fun _ _ _ => rfl⟩
theorem LpStep.trans {b : Nat} {U V W : World} (h : LpStep b U V) (k : LpStep b V W) : LpStep b U W :=
  ⟨k.os.trans h.os, k.tape.trans h.tape, k.output.trans h.output, Nat.le_trans h.size k.size, fun i hi hn => (k.block i (Nat.lt_of_lt_of_le hi h.size) hn).trans (h.block i hi hn)⟩
theorem LpStep.of_below {b : Nat} {V W : World} (h : Below V.heap.size V W) : LpStep b V W := ⟨h.os, h.tape, h.output, h.size, fun k hk _ => h.block k hk⟩
theorem LpStep.of_it {b : Nat} {V W : World} (h : ItStep (b + 2) V W) : LpStep b V W := ⟨h.os, h.tape, h.output, h.size, fun k hk hn => h.block k hk (fun e => hn (by omega))⟩
theorem LpStep.put {b : Nat} (V : World) {l : Nat} (o : Obj) (hl : b ≤ l ∧ l < b + 6) : LpStep b V (V.putObj l o) :=
  ⟨rfl, rfl, rfl, by simp, fun k hk hn => World.putObj_heap_other (by rintro rfl; exact hn hl)⟩
/-- What a round's body keeps. -/
structure BdKeep (b bx n0 : Nat) (V W : World) : Prop where
  size : V.heap.size ≤ W.heap.size
  block : ∀ k, k < V.heap.size → (k < n0 ∨ k = bx ∨ (b ≤ k ∧ k < b + 6)) → W.heap[k]? = V.heap[k]?
theorem BdKeep.trans {b bx n0 : Nat} {U V W : World} (h : BdKeep b bx n0 U V) (k : BdKeep b bx n0 V W) : BdKeep b bx n0 U W :=
  ⟨Nat.le_trans h.size k.size, fun i hi hn => (k.block i (Nat.lt_of_lt_of_le hi h.size) hn).trans (h.block i hi hn)⟩
theorem BdKeep.of_below {b bx n0 : Nat} {V W : World} (h : Below V.heap.size V W) : BdKeep b bx n0 V W := ⟨h.size, fun k hk _ => h.block k hk⟩

def permPost (b bx n0 : Nat) (I : List (List Int) → World → Prop) (xs : List (List Int)) (W : World) : Exit → Act → World → Prop
  | .normal, _, W' => BdKeep b bx n0 W W' ∧ I xs W'
  | _, _, _ => False

theorem wpIn_rangePerm {g : Operand} {ps : Array Tmp} {assign body : Code} {Q : Exit → Act → World → Prop} {a : Act} {w : World} {N : Nat} (bx n0 n c : Nat) (A : Option Addr) (list : List Int)
    (hg : a.eval g = .func (.func 41) #[] #[.pointer (some ⟨bx, 0, none⟩)]) (hps : ps.size = 1)
    (hb : w.cell? ⟨bx, 0, none⟩ = some (.slice A n c)) (hl : RInts w A n list) (hA : ∀ ad, A = some ad → ad.block < n0) (hn0 : n0 ≤ w.heap.size) (hn4 : n ≤ 4)
    (I : List (List Int) → World → Prop) (hI : ∀ s V W, I s V → LpStep w.heap.size V W → I s W) (h0 : I [] w) (a₁ : Value → Act)
    (hassign : ∀ (l m : Nat) (v : Value) (W : World) (K : Act → World → Prop), K (a₁ v) W →
      assign.wpIn (Fence.wide.inRound l) m Tryz.prog (Exit.then K (fun _ _ _ => False)) { tmps := (ps.zip #[v]).foldl (fun t (p, v) => t.setIfInBounds p v) a.tmps, defers := [] } W)
    (hbody : ∀ (l m : Nat) (pre : List (List Int)) (x : List Int) (V W : World) (A' : Option Addr) (c' : Nat), I pre V → LpStep w.heap.size V W → w.heap.size + 6 ≤ V.heap.size → FreshInts V W A' n x → n ≤ c' → (pre ++ [x]) <+: permF list n [] →
      body.wpIn (Fence.wide.inRound l) m Tryz.prog (permPost w.heap.size bx n0 I (pre ++ [x]) W) (a₁ (.slice A' n c')) W)
    (hdone : ∀ W : World, I (permF list n []) W → w.heap.size < W.heap.size → W.heap[w.heap.size]? = some (.deferred (some [])) → Q .normal { a with defers := { target := .collected w.heap.size, args := #[] } :: a.defers } W) :
    (Code.rangeFunc g ps assign body).wpIn Fence.wide N Tryz.prog Q a w := by
  refine wpIn_rangeFunc ?_
  intro fn hfn
  rw [Fence.wide_round]
  obtain ⟨rec, hrec⟩ : ∃ rec : LoopState → Loop, rec = fun st => { state := st, pending := none, fn, tmps := a.tmps, params := ps, assign, body, defers := w.heap.size } := ⟨_, rfl⟩
  obtain ⟨W1, hW1⟩ : ∃ W1, (w.alloc (.deferred (some []))).alloc (.loop (rec .ready)) = W1 := ⟨_, rfl⟩
  have hL1 : W1.heap[w.heap.size + 1]? = some (.loop (rec .ready)) := by
    rw [← hW1]; have := World.alloc_heap_new (w.alloc (.deferred (some []))) (.loop (rec .ready)); rwa [World.size_alloc] at this
  have hK1 : W1.heap[w.heap.size]? = some (.deferred (some [])) := by
    rw [← hW1]; exact (Below.heap_alloc _ _ _ (by simp)).trans (World.alloc_heap_new w _)
  have hb1 : Below w.heap.size w W1 := by
    rw [← hW1]; exact (((Below.refl _ w).alloc (Nat.le_refl _) _).alloc (by simp) _)
  have hs1 : W1.heap.size = w.heap.size + 2 := by rw [← hW1]; simp
  have hI1 : I [] W1 := hI _ _ _ h0 (LpStep.of_below hb1)
  have hbx : bx < w.heap.size := block_lt_of_cell hb
  refine ⟨w.heap.size + 1, [{ target := .collected w.heap.size, args := #[] }], W1, { target := .fn (.func 41) #[.pointer (some ⟨bx, 0, none⟩)], args := #[.func (.yield (w.heap.size + 1)) #[] #[]] }, W1, 41,
    #[.func (.yield (w.heap.size + 1)) #[] #[], .pointer (some ⟨bx, 0, none⟩)], W1, ?_, ?_, fun f' hf' => trivial, ?_, fun h => by simp [Fence.wide] at h, ?_⟩
  · rw [← hW1, hrec]; exact run_enterLoop_outer _ _ _ _ _
  · simp only [resolve, hg]
    simp [go_sem]
  · have eg : ∀ args w, (callFunc 41 args).run Tryz.prog w = .ok (.enter 41 args) w := enters_of Tryz.func41 (by kernel_rfl) rfl
    simp [invoke, go_sem, eg]
  · refine callsIn_wide.2 ((perms_any bx n0 (w.heap.size + 1) n c A list
      (fun pre V => I pre V ∧ V.heap[w.heap.size + 1]? = some (.loop (rec .ready)) ∧ V.heap[w.heap.size]? = some (.deferred (some []))) W1 ?_
      ((hb1.cell (p := ⟨bx, 0, none⟩) hbx).trans hb) (hl.below hb1 (Nat.le_refl _)) hA (by omega) hn4 ⟨hI1, hL1, hK1⟩).mono ?_)
    · rw [hs1]
      refine ⟨fun s V W hs hst => ?_, fun acc x V W A' c' m hj hst hsz hf hc' hpre => ?_⟩
      · obtain ⟨hi, hlp, hdf⟩ := hs
        exact ⟨hI _ _ _ hi (LpStep.of_it hst), (hst.block _ (Array.getElem?_eq_some_iff.1 hlp).1 (by omega)).trans hlp, (hst.block _ (Array.getElem?_eq_some_iff.1 hdf).1 (by omega)).trans hdf⟩
      · obtain ⟨hi0, hl0, hk0⟩ := hj
        have hi : I acc W := hI _ _ _ hi0 (LpStep.of_it hst)
        have hlp : W.heap[w.heap.size + 1]? = some (.loop (rec .ready)) := (hst.block _ (Array.getElem?_eq_some_iff.1 hl0).1 (by omega)).trans hl0
        have hk : W.heap[w.heap.size]? = some (.deferred (some [])) := (hst.block _ (Array.getElem?_eq_some_iff.1 hk0).1 (by omega)).trans hk0
        have hlt : w.heap.size + 1 < W.heap.size := (Array.getElem?_eq_some_iff.1 hlp).1
        have hy := run_yield (P := Tryz.prog) (args := #[.slice A' n c']) hlp (by rw [hrec]; simp [hps])
        rw [hrec] at hy
        refine ⟨fn, _, assign, body, hy, roundIn_of_wpIn hfn (hassign _ m (.slice A' n c') W _ ⟨_, run_beginRound hlp (by rw [hrec]), ?_⟩)⟩
        have hl2 : (W.putObj (w.heap.size + 1) (.loop { rec .ready with state := .busy })).heap[w.heap.size + 1]? = some (.loop { rec .ready with state := .busy }) := World.putObj_heap_same hlt
        have hk2 : (W.putObj (w.heap.size + 1) (.loop { rec .ready with state := .busy })).heap[w.heap.size]? = some (.deferred (some [])) := (World.putObj_heap_other (by omega)).trans hk
        have hf2 : FreshInts V (W.putObj (w.heap.size + 1) (.loop { rec .ready with state := .busy })) A' n x := by
          refine (hf.grownT (grownBy_putObj' W (w.heap.size + 1) _) ?_)
          intro g hg' cur hcur
          injection hg' with hg'
          subst hg'
          rw [hlp] at hcur
          cases hcur
        refine wpIn_mono (hbody _ m acc x V _ A' c' hi0 ((LpStep.of_it hst).trans (LpStep.put _ _ (by omega))) (by omega) hf2 hc' hpre) ?_
        rintro e a3 W3 hp
        cases e with
        | normal =>
          obtain ⟨hk3, hi3⟩ := hp
          have hl3 : W3.heap[w.heap.size + 1]? = some (.loop { rec .ready with state := .busy }) := (hk3.block _ (by simp; omega) (.inr (.inr (by omega)))).trans hl2
          have hd3 : W3.heap[w.heap.size]? = some (.deferred (some [])) := (hk3.block _ (by simp; omega) (.inr (.inr (by omega)))).trans hk2
          have hr := run_endRound (P := Tryz.prog) none hl3
          rw [hrec] at hr
          refine ⟨_, _, hr, rfl, ⟨hI _ _ _ hi3 (LpStep.put _ _ (by omega)), ?_, (World.putObj_heap_other (by omega)).trans hd3⟩, ?_, ?_⟩
          · rw [hrec]; exact World.putObj_heap_same (Array.getElem?_eq_some_iff.1 hl3).1
          · have := hk3.size; simp at this ⊢; exact this
          · intro k hkk hc
            have hne : k ≠ w.heap.size + 1 := by omega
            refine (World.putObj_heap_other hne).trans ((hk3.block k (by simpa using hkk) ?_).trans (World.putObj_heap_other hne))
            rcases hc with h | h | h
            · exact .inl h
            · exact .inr (.inl h)
            · exact .inr (.inr (by omega))
        | ret => exact hp.elim
        | exit id => exact hp.elim
        | goto t => exact hp.elim
        | panic ch => exact hp.elim
        | outgrown => exact hp.elim
    · rintro e W2 ⟨⟨v, rfl⟩, hi, hlp, hdf⟩
      have := run_endLoop (P := Tryz.prog) hlp (by rw [hrec]; simp)
      rw [hrec] at this
      exact ⟨none, _, this, hdone _ (hI _ _ _ hi (LpStep.put _ _ (by omega))) (by simpa using (Array.getElem?_eq_some_iff.1 hdf).1) ((World.putObj_heap_other (by omega)).trans hdf)⟩
#print axioms wpIn_rangePerm
end Go.Proofs.YtkbclcgdkbhgdaaGreat
