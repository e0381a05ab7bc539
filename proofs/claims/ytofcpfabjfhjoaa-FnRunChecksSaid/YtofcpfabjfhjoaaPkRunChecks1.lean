/-
  The texts that the proof rests on, joined: part 1.
-/
import Derived.Test.YtofcpfabjfhjoaaRows
import Derived.WalkKit
import Derived.WalkSpells
import Derived.WalkLawsBesides
import Derived.BigQuiet
import Derived.Deep.QuietTactic
import Derived.Deep.DrawnRows
import Derived.Lib.Hide
import Derived.ProofKit
import Derived.OpenShut
import Derived.ShutString
import Derived.ChangeOld
import Derived.Below
import Derived.Deep.Slices
import Derived.ChangeSame
import Derived.Maps.AppendAt
import Derived.Deep.AppendLies
import Derived.Deep.LoopGhost
import Derived.Deep.MidRow
import Derived.Deep.RegionHeld
import Derived.Outline
namespace Go.Proofs.Ytofcpfabjfhjoaa
open Go.RowKit
set_option linter.unusedVariables false

theorem ret_bool {a b : Bool} (h : a = b) : Ending.returned (.bool a) = .returned (.bool b) := by rw [h]
theorem ret_int {k : IntKind} {a b : Int} (h : a = b) : Ending.returned (.int k a) = .returned (.int k b) := by rw [h]

theorem bcell {W w1 : World} (hb : Below W.heap.size W w1) : (∀ b o, b < W.heap.size → w1.cell? ⟨b, o, none⟩ = W.cell? ⟨b, o, none⟩) ∧ (∀ b o, b < W.heap.size → w1.frozen? ⟨b, o, none⟩ = W.frozen? ⟨b, o, none⟩) :=
  ⟨fun b o h => hb.cell (p := ⟨b, o, none⟩) h, fun b o h => hb.frozen (p := ⟨b, o, none⟩) h⟩

theorem B_alloc {B : Nat} {w v : World} (h : Below B w v) (hB : B ≤ w.heap.size) (o : Obj) : Below B w (v.alloc o) := h.alloc (Nat.le_trans hB h.size) o
theorem B_after {w v v' : World} (h : Below v.heap.size v v') (h0 : Below w.heap.size w v) : Below w.heap.size w v' := h0.trans (h.mono h0.size)
theorem B_set {w v : World} {b o : Nat} {u : Value} (h : Below w.heap.size w v) (hb : w.heap.size ≤ b) : Below w.heap.size w (v.setCell ⟨b, o, none⟩ u) := h.setCell (by simpa using hb) u
theorem B_drewN {B : Nat} {w v : World} (h : Below B w v) (n : Nat) : Below B w (v.drewN n) := ⟨h.os, h.tape, h.output, h.size, h.block⟩

/-- An operation, or a step: three integers. -/
structure OpV where
  tx : Int
  kind : Int
  item : Int
  deriving DecidableEq

def OpV.zero : OpV := ⟨0, 0, 0⟩
def OpV.val (o : OpV) : Value := .agg #[.int .i64 o.tx, .int .i64 o.kind, .int .i64 o.item]
def OpV.cells (o : OpV) : List Value := [.int .i64 o.tx, .int .i64 o.kind, .int .i64 o.item]
def opCells : List OpV → List Value
  | [] => []
  | o :: r => .int .i64 o.tx :: .int .i64 o.kind :: .int .i64 o.item :: opCells r
def intCells (xs : List Int) : List Value := xs.map (Value.int .i64)

theorem opCells_append (a b : List OpV) : opCells (a ++ b) = opCells a ++ opCells b := by
  induction a with
  | nil => rfl
  | cons o r ih => simp [opCells, ih]
theorem length_opCells (a : List OpV) : (opCells a).length = a.length * 3 := by
  induction a with
  | nil => rfl
  | cons o r ih => simp [opCells, ih]; omega
theorem opCells_at (xs : List OpV) : ∀ (i : Nat) (o : OpV), xs[i]? = some o →
    (opCells xs)[i * 3]? = some (.int .i64 o.tx) ∧ (opCells xs)[i * 3 + 1]? = some (.int .i64 o.kind) ∧ (opCells xs)[i * 3 + 2]? = some (.int .i64 o.item) := by
  induction xs with
  | nil => intro i o h; simp at h
  | cons x r ih =>
    intro i o h
    cases i with
    | zero => simp at h; subst h; simp [opCells]
    | succ i =>
      have h' : r[i]? = some o := by simpa using h
      obtain ⟨h0, h1, h2⟩ := ih i o h'
      have e : (i + 1) * 3 = i * 3 + 3 := by omega
      refine ⟨?_, ?_, ?_⟩
      · rw [e]; simpa [opCells] using h0
      · rw [e]; simpa [opCells] using h1
      · rw [e]; simpa [opCells] using h2
theorem opCells_one (xs : List OpV) : ∀ u ∈ opCells xs, u.oneCell' = true := by
  induction xs with
  | nil => simp [opCells]
  | cons x r ih =>
    intro u hu
    simp only [opCells, List.mem_cons] at hu
    rcases hu with rfl | rfl | rfl | hu
    · rfl
    · rfl
    · rfl
    · exact ih u hu
theorem intCells_one (xs : List Int) : ∀ u ∈ intCells xs, u.oneCell' = true := by
  intro u hu
  simp only [intCells, List.mem_map] at hu
  obtain ⟨x, _, rfl⟩ := hu
  rfl

/-- The slice value with address A and length n reads as the triples xs; its cells lie in blocks that are there. -/
def ROps (w : World) (A : Option Addr) (n : Nat) (xs : List OpV) : Prop :=
  xs.length = n ∧ n ≤ 1099511627776 ∧ (0 < n → ∃ b off, A = some ⟨b, off, none⟩ ∧ b < w.heap.size ∧ ∀ i o, xs[i]? = some o →
    w.cell? ⟨b, off + i * 3, none⟩ = some (.int .i64 o.tx) ∧ w.cell? ⟨b, off + i * 3 + 1, none⟩ = some (.int .i64 o.kind) ∧ w.cell? ⟨b, off + i * 3 + 2, none⟩ = some (.int .i64 o.item))

/-- The same for integers. -/
def RInts (w : World) (A : Option Addr) (n : Nat) (xs : List Int) : Prop :=
  xs.length = n ∧ n ≤ 1099511627776 ∧ (0 < n → ∃ b off, A = some ⟨b, off, none⟩ ∧ b < w.heap.size ∧ ∀ i x, xs[i]? = some x →
    w.cell? ⟨b, off + i, none⟩ = some (.int .i64 x))

/-- The same for bytes: only their range is kept. -/
def RBytes (w : World) (A : Option Addr) (n : Nat) : Prop :=
  n ≤ 9223372036854775807 ∧ (0 < n → ∃ b off, A = some ⟨b, off, none⟩ ∧ b < w.heap.size ∧ ∀ i, i < n → ∃ x : Int, 0 ≤ x ∧ x ≤ 255 ∧ w.cell? ⟨b, off + i, none⟩ = some (.int .u8 x))

section
variable {w w' : World} {A : Option Addr} {n : Nat}
theorem ROps.nil {w : World} {A : Option Addr} : ROps w A 0 [] := ⟨rfl, by omega, fun h => absurd h (by omega)⟩
theorem RInts.nil {w : World} {A : Option Addr} : RInts w A 0 [] := ⟨rfl, by omega, fun h => absurd h (by omega)⟩
theorem ROps.below {xs : List OpV} (h : ROps w A n xs) {B : Nat} (hb : Below B w w') (hB : w.heap.size ≤ B) : ROps w' A n xs := by
  obtain ⟨h1, h2, h3⟩ := h
  refine ⟨h1, h2, fun hn => ?_⟩
  obtain ⟨b, off, hA, hlt, hc⟩ := h3 hn
  have hs := hb.size
  refine ⟨b, off, hA, by omega, fun i o ho => ?_⟩
  obtain ⟨c0, c1, c2⟩ := hc i o ho
  exact ⟨(hb.cell (p := ⟨b, _, none⟩) (by simp; omega)).trans c0, (hb.cell (p := ⟨b, _, none⟩) (by simp; omega)).trans c1, (hb.cell (p := ⟨b, _, none⟩) (by simp; omega)).trans c2⟩
theorem RInts.below {xs : List Int} (h : RInts w A n xs) {B : Nat} (hb : Below B w w') (hB : w.heap.size ≤ B) : RInts w' A n xs := by
  obtain ⟨h1, h2, h3⟩ := h
  refine ⟨h1, h2, fun hn => ?_⟩
  obtain ⟨b, off, hA, hlt, hc⟩ := h3 hn
  have hs := hb.size
  exact ⟨b, off, hA, by omega, fun i o ho => (hb.cell (p := ⟨b, _, none⟩) (by simp; omega)).trans (hc i o ho)⟩
/-- One element and its three cells. -/
theorem ROps.at_ {xs : List OpV} (h : ROps w A n xs) {k : Nat} (hk : k < n) : ∃ b off o, A = some ⟨b, off, none⟩ ∧ b < w.heap.size ∧ xs[k]? = some o ∧
    w.cell? ⟨b, off + k * 3, none⟩ = some (.int .i64 o.tx) ∧ w.cell? ⟨b, off + k * 3 + 1, none⟩ = some (.int .i64 o.kind) ∧ w.cell? ⟨b, off + k * 3 + 2, none⟩ = some (.int .i64 o.item) := by
  obtain ⟨h1, h2, h3⟩ := h
  obtain ⟨b, off, hA, hlt, hc⟩ := h3 (by omega)
  have e : xs[k]? = some (xs[k]'(by omega)) := List.getElem?_eq_getElem (by omega)
  exact ⟨b, off, _, hA, hlt, e, hc k _ e⟩
theorem RInts.at_ {xs : List Int} (h : RInts w A n xs) {k : Nat} (hk : k < n) : ∃ b off x, A = some ⟨b, off, none⟩ ∧ b < w.heap.size ∧ xs[k]? = some x ∧
    w.cell? ⟨b, off + k, none⟩ = some (.int .i64 x) := by
  obtain ⟨h1, h2, h3⟩ := h
  obtain ⟨b, off, hA, hlt, hc⟩ := h3 (by omega)
  have e : xs[k]? = some (xs[k]'(by omega)) := List.getElem?_eq_getElem (by omega)
  exact ⟨b, off, _, hA, hlt, e, hc k _ e⟩
/-- The first k of them. -/
theorem ROps.take {xs : List OpV} (h : ROps w A n xs) {k : Nat} (hk : k ≤ n) : ROps w A k (xs.take k) := by
  obtain ⟨h1, h2, h3⟩ := h
  refine ⟨by simp; omega, by omega, fun hn => ?_⟩
  obtain ⟨b, off, hA, hlt, hc⟩ := h3 (by omega)
  refine ⟨b, off, hA, hlt, fun i o ho => hc i o ?_⟩
  rw [List.getElem?_take] at ho
  split at ho
  · exact ho
  · cases ho
theorem RInts.take {xs : List Int} (h : RInts w A n xs) {k : Nat} (hk : k ≤ n) : RInts w A k (xs.take k) := by
  obtain ⟨h1, h2, h3⟩ := h
  refine ⟨by simp; omega, by omega, fun hn => ?_⟩
  obtain ⟨b, off, hA, hlt, hc⟩ := h3 (by omega)
  refine ⟨b, off, hA, hlt, fun i o ho => hc i o ?_⟩
  rw [List.getElem?_take] at ho
  split at ho
  · exact ho
  · cases ho
end

/-- What the call owns reads as its list. -/
theorem ROps.of_own {w : World} {base : Nat} {e : TypeId} {c n : Nat} {A : Option Addr} {xs : List OpV} (h : w.ownsRow base e 3 (.slice A n c) n (opCells xs)) (hn : n ≤ 1099511627776) : ROps w A n xs := by
  have hl := h.1
  rw [length_opCells] at hl
  refine ⟨by omega, hn, fun h0 => ?_⟩
  rcases h.2 with ⟨h1, h2⟩ | ⟨g, cap, cur, h1, h2, h3, h4, h5, h6, h7⟩
  · omega
  · injection h1 with hA _ _
    subst hA
    have hg : g < w.heap.size := lt_of_block h3
    refine ⟨g, 0, rfl, hg, fun i o ho => ?_⟩
    have hc : ∀ j u, (opCells xs)[j]? = some u → w.cell? ⟨g, 0 + j, none⟩ = some u := fun j u hu => by
      have := h.cells (g := g) rfl j u hu
      unfold Addr.add at this
      split at this
      · subst_vars; simpa using this
      · simpa using this
    obtain ⟨c0, c1, c2⟩ := opCells_at xs i o ho
    exact ⟨by simpa using hc _ _ c0, by simpa [Nat.add_assoc] using hc _ _ c1, by simpa [Nat.add_assoc] using hc _ _ c2⟩
theorem RInts.of_own {w : World} {base : Nat} {e : TypeId} {c n : Nat} {A : Option Addr} {xs : List Int} (h : w.ownsRow base e 1 (.slice A n c) n (intCells xs)) (hn : n ≤ 1099511627776) : RInts w A n xs := by
  have hl := h.1
  simp only [intCells, List.length_map] at hl
  refine ⟨by omega, hn, fun h0 => ?_⟩
  rcases h.2 with ⟨h1, h2⟩ | ⟨g, cap, cur, h1, h2, h3, h4, h5, h6, h7⟩
  · omega
  · injection h1 with hA _ _
    subst hA
    have hg : g < w.heap.size := lt_of_block h3
    refine ⟨g, 0, rfl, hg, fun i x hx => ?_⟩
    have := h.cells (g := g) rfl i (.int .i64 x) (by simp [intCells, hx])
    unfold Addr.add at this
    split at this
    · subst_vars; simpa using this
    · simpa using this

#print axioms ROps.of_own
end Go.Proofs.Ytofcpfabjfhjoaa
namespace Go.Proofs.Ytofcpfabjfhjoaa
open Go.RowKit Go.ChangeShapes Go.WideShapes
set_option linter.unusedVariables false

theorem spot_none {w : World} {a : Addr} {v : Value} (h : w.cell? (a.add 0) = some v) : a.spot = none := by
  obtain ⟨b, off, sp⟩ := a
  cases sp with
  | none => rfl
  | some q => simp [Addr.add, World.cell?] at h; split at h <;> simp_all
theorem add_flat (b off i : Nat) : (⟨b, off, none⟩ : Addr).add i = ⟨b, off + i, none⟩ := by
  unfold Addr.add
  split
  · subst_vars; rfl
  · rfl

theorem open_triples {H : Type} {enc : TypeId × Value → H} {P : Program} {w : World} {base : Nat} {spare : Nat → Bool} {held : Bool} {t e : TypeId} {f0 f1 f2 : Field} {fuel len cap : Nat} {a : Option Addr} {x : DataW H × List MemPlace}
    (ht : P.underlying t = some (.slice e)) (he : P.underlying e = some (.struct #[f0, f1, f2])) (ce : P.cellsOf e = 3) (o0 : f0.offset = 0) (o1 : f1.offset = 1) (o2 : f2.offset = 2)
    (c0 : P.cellsOf f0.type = 1) (c1 : P.cellsOf f1.type = 1) (c2 : P.cellsOf f2.type = 1) (t0 : P.underlying f0.type = some (.int .i64)) (t1 : P.underlying f1.type = some (.int .i64)) (t2 : P.underlying f2.type = some (.int .i64))
    (h : DataW.trod enc P w base spare held fuel t [.slice a len cap] = some x) : len ≤ cap ∧ cap ≤ maxLen ∧ (len ≤ 1099511627776 → ∃ xs, ROps w a len xs) := by
  rcases Deep.open_slice ht h with ⟨h0, _⟩ | ⟨a', len', cap', m, n, D, Pl, hcs, hb, hl, hm, hmm, _, hx⟩
  · injection h0 with h0 _
    injection h0 with h1 h2 h3
    subst h1; subst h2; subst h3
    exact ⟨Nat.le_refl _, Nat.zero_le _, fun _ => ⟨[], ROps.nil⟩⟩
  · injection hcs with hcs _
    injection hcs with h1 h2 h3
    subst h1; subst h2; subst h3
    refine ⟨hl, hm, fun hlen => ?_⟩
    have hlm : len ≤ m := by rw [hmm]; split <;> omega
    have each : ∀ i, i < len → ∃ o : OpV, w.cell? (a'.add (i * 3)) = some (.int .i64 o.tx) ∧ w.cell? (a'.add (i * 3 + 1)) = some (.int .i64 o.kind) ∧ w.cell? (a'.add (i * 3 + 2)) = some (.int .i64 o.item) := by
      intro i hi
      obtain ⟨cs', g1, g2⟩ := hx i (by omega)
      rw [ce] at g1
      obtain ⟨_, hlen', hcell⟩ := World.cells?_some g1
      obtain ⟨xs, k, hk, hxy, _, hxl, hf⟩ := DataW.trod_struct he g2
      match xs, hxl, cs', hlen' with
      | [y0, y1, y2], _, [v0, v1, v2], _ =>
        have q0 := hf 0 f0 rfl
        have q1 := hf 1 f1 rfl
        have q2 := hf 2 f2 rfl
        simp [o0, o1, o2, c0, c1, c2] at q0 q1 q2
        obtain ⟨z0, e0, _, _⟩ := DataW.trod_int t0 q0
        obtain ⟨z1, e1, _, _⟩ := DataW.trod_int t1 q1
        obtain ⟨z2, e2, _, _⟩ := DataW.trod_int t2 q2
        have k0 := hcell 0 (by omega)
        have k1 := hcell 1 (by omega)
        have k2 := hcell 2 (by omega)
        rw [Go.Deep.add_add] at k0 k1 k2
        injection e0 with e0 _
        injection e1 with e1 _
        injection e2 with e2 _
        subst e0; subst e1; subst e2
        exact ⟨⟨z0, z1, z2⟩, by simpa using k0, by simpa using k1, by simpa using k2⟩
    refine ⟨(List.range len).map fun i => if h : i < len then (each i h).choose else OpV.zero, by simp, hlen, fun hpos => ?_⟩
    obtain ⟨p0, hp0, _⟩ := each 0 hpos
    have hsp := spot_none (by simpa using hp0)
    obtain ⟨b, off, sp⟩ := a'
    simp only at hsp
    subst hsp
    rw [add_flat] at hp0
    refine ⟨b, off, rfl, block_lt_of_cell hp0, fun i o ho => ?_⟩
    rw [List.getElem?_map] at ho
    have hil : i < len := by
      rcases Nat.lt_or_ge i len with h | h
      · exact h
      · rw [List.getElem?_eq_none (by simpa using h)] at ho; cases ho
    rw [List.getElem?_range hil] at ho
    simp only [Option.map_some, hil, dif_pos, Option.some.injEq] at ho
    have := (each i hil).choose_spec
    rw [ho, add_flat, add_flat, add_flat] at this
    simpa [Nat.add_assoc] using this

/-- The operations of the statements' own type, as an argument. -/
theorem open_lops {H : Type} {enc : TypeId × Value → H} {w : World} {base : Nat} {spare : Nat → Bool} {held : Bool} {len cap : Nat} {a : Option Addr} {d : DataW H} {p : List MemPlace}
    (h : DataW.Trod enc Try.prog w base spare held 33 (.slice a len cap) d p) : len ≤ cap ∧ cap ≤ maxLen ∧ (len ≤ 1099511627776 → ∃ xs, ROps w a len xs) := by
  obtain ⟨fuel, hf⟩ := h
  exact open_triples Try.underlying33 Try.underlying67 (by kernel_rfl) rfl rfl rfl (by kernel_rfl) (by kernel_rfl) (by kernel_rfl) Try.underlying3 Try.underlying3 Try.underlying3 (by simpa [Value.cells] using hf)

/-- A slice of bytes that came in. -/
def BytesIn (w : World) (A : Option Addr) (n c : Nat) : Prop := RBytes w A n ∧ n ≤ c
/-- A slice of operations that came in, or of integers. -/
def OpsIn (w : World) (A : Option Addr) (n c : Nat) : Prop := n ≤ c ∧ c ≤ maxLen ∧ (n ≤ 1099511627776 → ∃ xs, ROps w A n xs)
def IntsIn (w : World) (A : Option Addr) (n c : Nat) : Prop := n ≤ c ∧ c ≤ maxLen ∧ (n ≤ 1099511627776 → ∃ xs, RInts w A n xs ∧ ∀ x ∈ xs, (Lit.int .i64 x).wf = true)
def IntIn (z : Int) : Prop := -9223372036854775808 ≤ z ∧ z ≤ 9223372036854775807

theorem open_bytes {H : Type} {enc : TypeId × Value → H} {w : World} {base : Nat} {spare : Nat → Bool} {held : Bool} {t e : TypeId} {len cap : Nat} {a : Option Addr} {d : DataW H} {p : List MemPlace}
    (ht : Try.prog.underlying t = some (.slice e)) (he : Try.prog.underlying e = some (.int .u8)) (hc : Try.prog.cellsOf e = 1) (h : DataW.Trod enc Try.prog w base spare held t (.slice a len cap) d p) : BytesIn w a len cap := by
  obtain ⟨fuel, hf⟩ := h
  rcases open_ints ht he hc hf with ⟨hcs, _⟩ | ⟨x, l, c, zs, hcs, _, hl, hm, hz, _, hcell, hwz⟩
  · simp [Value.cells] at hcs
    obtain ⟨rfl, rfl, rfl⟩ := hcs
    exact ⟨⟨by omega, fun h => absurd h (by omega)⟩, Nat.le_refl _⟩
  · simp [Value.cells] at hcs
    obtain ⟨rfl, rfl, rfl⟩ := hcs
    have hlz : len ≤ zs.length := by rw [hz]; split <;> omega
    unfold maxLen at hm
    refine ⟨⟨by omega, fun h0 => ?_⟩, hl⟩
    have hsp := spot_none (hcell 0 (by omega))
    obtain ⟨b, off, sp⟩ := x
    simp only at hsp
    subst hsp
    have h1 := hcell 0 (by omega)
    rw [add_flat] at h1
    refine ⟨b, off, rfl, block_lt_of_cell h1, fun i hi => ?_⟩
    have h2 := hcell i (by omega)
    have h3 := hwz (zs.getD i 0) (by rw [List.getD_eq_getElem?_getD, List.getElem?_eq_getElem (by omega)]; exact List.getElem_mem _)
    refine ⟨zs.getD i 0, ?_, ?_, ?_⟩
    · have := h3; simp [Lit.wf, IntKind.min, IntKind.max, IntKind.signed, IntKind.bits] at this; simpa using this.1
    · have := h3; simp [Lit.wf, IntKind.min, IntKind.max, IntKind.signed, IntKind.bits] at this; simp; omega
    · rw [add_flat] at h2; exact h2
theorem open_i64s {H : Type} {enc : TypeId × Value → H} {w : World} {base : Nat} {spare : Nat → Bool} {held : Bool} {t e : TypeId} {len cap : Nat} {a : Option Addr} {d : DataW H} {p : List MemPlace}
    (ht : Try.prog.underlying t = some (.slice e)) (he : Try.prog.underlying e = some (.int .i64)) (hc : Try.prog.cellsOf e = 1) (h : DataW.Trod enc Try.prog w base spare held t (.slice a len cap) d p) : IntsIn w a len cap := by
  obtain ⟨fuel, hf⟩ := h
  rcases open_ints ht he hc hf with ⟨hcs, _⟩ | ⟨x, l, c, zs, hcs, _, hl, hm, hz, _, hcell, hwz⟩
  · simp [Value.cells] at hcs
    obtain ⟨rfl, rfl, rfl⟩ := hcs
    exact ⟨Nat.le_refl _, Nat.zero_le _, fun _ => ⟨[], RInts.nil, by simp⟩⟩
  · simp [Value.cells] at hcs
    obtain ⟨rfl, rfl, rfl⟩ := hcs
    have hlz : len ≤ zs.length := by rw [hz]; split <;> omega
    refine ⟨hl, hm, fun hn => ⟨zs.take len, ⟨by simp; omega, hn, fun h0 => ?_⟩, fun x hx => hwz x (List.mem_of_mem_take hx)⟩⟩
    have hsp := spot_none (hcell 0 (by omega))
    obtain ⟨b, off, sp⟩ := x
    simp only at hsp
    subst hsp
    have h1 := hcell 0 (by omega)
    rw [add_flat] at h1
    refine ⟨b, off, rfl, block_lt_of_cell h1, fun i x hx => ?_⟩
    rw [List.getElem?_take] at hx
    split at hx
    · have h2 := hcell i (by omega)
      rw [add_flat] at h2
      rw [h2, List.getD_eq_getElem?_getD, hx]; rfl
    · cases hx
theorem wf_i64 {z : Int} (h : (Lit.int .i64 z).wf = true) : IntIn z := by
  simp [Lit.wf, IntKind.min, IntKind.max, IntKind.signed, IntKind.bits] at h
  exact ⟨by omega, by omega⟩
theorem and2 {a b : Bool} (ha : a = true) (hb : b = true) : (a && b) = true := by rw [ha, hb]; rfl
theorem andL {a b : Bool} (h : (a && b) = true) : a = true := by cases a <;> simp_all
theorem andR {a b : Bool} (h : (a && b) = true) : b = true := by cases b <;> simp_all
end Go.Proofs.Ytofcpfabjfhjoaa
namespace Go.Proofs.Ytofcpfabjfhjoaa
open Go.RowKit Go.BigFrame
set_option linter.unusedVariables false

/-- The worlds that a world may have become: below its size nothing has changed. -/
def Later (W : World) : Type := {u : World // Below W.heap.size W u}
instance (W : World) : Nonempty (Later W) := ⟨⟨W, Below.refl _ _⟩⟩
theorem Later.cell {W : World} {b o : Nat} {v : Value} (h : W.cell? ⟨b, o, none⟩ = some v) : ∀ u : Later W, u.1.cell? ⟨b, o, none⟩ = some v := fun u =>
  (u.2.cell (p := ⟨b, o, none⟩) (block_lt_of_cell h)).trans h
theorem Later.below_ {W : World} {B : Nat} (u : Later W) (h : B ≤ W.heap.size) : Below B W u.1 := u.2.mono h
theorem Later.size {W : World} (u : Later W) : W.heap.size ≤ u.1.heap.size := u.2.size

section
variable {P : Program}
theorem region_later {id : Nat} {Q : Exit → Act → World → Prop} {a : Act} {w : World} {l : List Oper} (hm : P.follows .mixedOrders = true) (hB : Region.lexB .any l.toArray = true)
    (h : wpQuiet P l.toArray (fun w' => ∃ u : Later w, w' = u.1) (fun a' => ∀ w', (∃ u : Later w, w' = u.1) → Q .normal a' w') l a) : (Code.region id l.toArray true).wp P Q a w :=
  wp_region_quiet (C := fun w' => ∃ u : Later w, w' = u.1) hm hB ⟨⟨w.drew, (Below.refl _ _).drew⟩, rfl⟩ (by simpa using h)

/-- A call that hands back v and makes memory. -/
theorem later_call {f : FuncId} {args : Array Value} {W : World} {v : Value} (u : Later W) (h : Calls P f args u.1 fun e w' => e = .returned v ∧ Below u.1.heap.size u.1 w') :
    Calls P f args u.1 fun e w' => e = .returned v ∧ ∃ u' : Later W, w' = u'.1 :=
  h.mono fun _ _ ⟨he, hb⟩ => ⟨he, ⟨_, u.2.trans (hb.mono u.2.size)⟩, rfl⟩
theorem later_same {f : FuncId} {args : Array Value} {W : World} {v : Value} (u : Later W) (h : Calls P f args u.1 fun e w' => e = .returned v ∧ u.1 = w') :
    Calls P f args u.1 fun e w' => e = .returned v ∧ ∃ u' : Later W, w' = u'.1 :=
  h.mono fun _ _ ⟨he, hb⟩ => ⟨he, u, hb.symm⟩
theorem ROps.later {W : World} {A : Option Addr} {n : Nat} {xs : List OpV} (h : ROps W A n xs) (u : Later W) : ROps u.1 A n xs := h.below u.2 (Nat.le_refl _)
theorem RInts.later {W : World} {A : Option Addr} {n : Nat} {xs : List Int} (h : RInts W A n xs) (u : Later W) : RInts u.1 A n xs := h.below u.2 (Nat.le_refl _)
end

theorem box_at (w : World) (cs : Array Value) (T : TypeId) (i : Nat) (v : Value) (h : cs[i]? = some v) : (w.alloc (.cells cs T)).cell? ⟨w.heap.size, i, none⟩ = some v := by
  rw [cell_of_row _ _ _ _ _ (0, 0) (heap_alloc_new w _)]; exact h
/-- A new box of an operation: its cells in whatever the world may become. -/
theorem op_box {W wr : World} {t k i : Int} {T : TypeId} (hW : W = wr.alloc (.cells #[.int .i64 t, .int .i64 k, .int .i64 i] T)) :
    (∀ u : Later W, u.1.cell? ⟨wr.heap.size, 0, none⟩ = some (.int .i64 t)) ∧ (∀ u : Later W, u.1.cell? ⟨wr.heap.size, 1, none⟩ = some (.int .i64 k)) ∧ (∀ u : Later W, u.1.cell? ⟨wr.heap.size, 2, none⟩ = some (.int .i64 i)) ∧
    Below wr.heap.size wr W ∧ wr.heap.size < W.heap.size := by
  subst hW
  exact ⟨Later.cell (box_at _ _ _ _ _ rfl), Later.cell (box_at _ _ _ _ _ rfl), Later.cell (box_at _ _ _ _ _ rfl), (Below.refl _ _).alloc (Nat.le_refl _) _, by simp⟩
theorem Later.trans {w wr W : World} (h : Below w.heap.size w wr) (h1 : Below wr.heap.size wr W) (u : Later W) : Below w.heap.size w u.1 := (h.trans (h1.mono h.size)).trans (u.2.mono (Nat.le_trans h.size h1.size))
end Go.Proofs.Ytofcpfabjfhjoaa
namespace Go.Proofs.Ytofcpfabjfhjoaa
open Go.RowKit Go.BigFrame
set_option linter.unusedVariables false

def isAcc (o : OpV) : Bool := o.kind == 0 || o.kind == 1
def isEnd (o : OpV) : Bool := o.kind == 2 || o.kind == 3
def inR (n lo hi : Int) : Bool := decide (lo ≤ n) && decide (n ≤ hi)
def validOp (o : OpV) : Bool := inR o.tx 0 3 && (isAcc o && inR o.item 0 2 || isEnd o && o.item == 0)
def endOf (s : List OpV) (t : Int) : Int := ((s.find? fun o => o.tx == t && isEnd o).map OpV.kind).getD (-1)

set_option maxHeartbeats 400000 in
theorem within_any (n low high : Int) (w : World) :
    Calls Try.prog 125 #[.int .i64 n, .int .i64 low, .int .i64 high] w fun e w' => e = .returned (.bool (inR n low high)) ∧ w = w' := by
  go_enter Try.func125, Try.ntmps125
  go_wp2
  all_goals (go_ret; exact ⟨ret_bool (by simp [inR]; omega), rfl⟩)
set_option maxHeartbeats 400000 in
theorem inRange_any (n low high : Int) (w : World) :
    Calls Try.prog 153 #[.int .i64 n, .int .i64 low, .int .i64 high] w fun e w' => e = .returned (.bool (inR n low high)) ∧ w = w' := by
  go_enter Try.func153, Try.ntmps153
  go_wp2
  all_goals (go_ret; exact ⟨ret_bool (by simp [inR]; omega), rfl⟩)

theorem bor_of {k a b : Int} (h : ¬ k = a) : (k == a || k == b) = (k == b) := by simp [h]

set_option maxHeartbeats 400000 in
theorem access_any (o : OpV) (w : World) :
    Calls Try.prog 126 #[o.val] w fun e w' => e = .returned (.bool (isAcc o)) ∧ Below w.heap.size w w' := by
  obtain ⟨t, k, x⟩ := o
  unfold OpV.val
  go_enter Try.func126, Try.ntmps126
  go_wp2
  all_goals (go_ret; exact ⟨ret_bool (by first | (simp [isAcc]; done) | rfl | simp [isAcc, *]), (Below.refl _ _).alloc (Nat.le_refl _) _⟩)
set_option maxHeartbeats 400000 in
theorem ends_any (o : OpV) (w : World) :
    Calls Try.prog 127 #[o.val] w fun e w' => e = .returned (.bool (isEnd o)) ∧ Below w.heap.size w w' := by
  obtain ⟨t, k, x⟩ := o
  unfold OpV.val
  go_enter Try.func127, Try.ntmps127
  go_wp2
  all_goals (go_ret; exact ⟨ret_bool (by first | (simp [isEnd]; done) | rfl | simp [isEnd, *]), (Below.refl _ _).alloc (Nat.le_refl _) _⟩)
set_option maxHeartbeats 400000 in
theorem sends_any (o : OpV) (w : World) :
    Calls Try.prog 121 #[o.val] w fun e w' => e = .returned (.bool (isEnd o)) ∧ Below w.heap.size w w' := by
  obtain ⟨t, k, x⟩ := o
  unfold OpV.val
  go_enter Try.func121, Try.ntmps121
  go_wp2
  all_goals (go_ret; exact ⟨ret_bool (by first | (simp [isEnd]; done) | rfl | simp [isEnd, *]), (Below.refl _ _).alloc (Nat.le_refl _) _⟩)

set_option maxHeartbeats 1000000 in
theorem valid_any (o : OpV) (w : World) :
    Calls Try.prog 72 #[o.val] w fun e w' => e = .returned (.bool (validOp o)) ∧ Below w.heap.size w w' := by
  obtain ⟨t, k, x⟩ := o
  unfold OpV.val
  cases h1 : inR t 0 3 <;> cases h2 : isAcc ⟨t, k, x⟩ <;> cases h3 : inR x 0 2 <;> cases h4 : isEnd ⟨t, k, x⟩ <;> cases h5 : (x == 0)
  all_goals
    go_enter Try.func72, Try.ntmps72
    go_wp2_with (first
      | (go_at_call 125; refine (within_any _ _ _ _).mono ?_; rintro e w' ⟨rfl, rfl⟩)
      | (go_at_call 126; refine (access_any ⟨t, k, x⟩ _).mono ?_; rintro e w' ⟨rfl, hb⟩; obtain ⟨bc, bf⟩ := bcell hb; have hsz : w.heap.size < w'.heap.size := by (have := hb.size; (try simp at this); omega))
      | (go_at_call 127; refine (ends_any ⟨t, k, x⟩ _).mono ?_; rintro e w' ⟨rfl, hb⟩; obtain ⟨bc, bf⟩ := bcell hb; have hsz : w.heap.size < w'.heap.size := by (have := hb.size; (try simp at this); omega)))
  all_goals
    go_ret
    exact ⟨ret_bool (by simp [validOp, *]), by (repeat (first | exact Below.refl _ _ | assumption | refine B_alloc ?_ (Nat.le_refl _) _ | refine Below.drew ?_ | refine B_drewN ?_ _ | refine B_after (by assumption) ?_ | (refine B_set ?_ ?_; rotate_left; (first | exact Nat.le_refl _ | (simp; done) | (simp at *; omega)))))⟩
end Go.Proofs.Ytofcpfabjfhjoaa
namespace Go.Proofs.Ytofcpfabjfhjoaa
open Go.RowKit Go.BigFrame
set_option linter.unusedVariables false

def noEnd (s : List OpV) (t : Int) : Bool := s.all fun o => !(o.tx == t && isEnd o)
def goodAt (s : List OpV) (i : Nat) : Bool := match s[i]? with | some o => validOp o && noEnd (s.take i) o.tx | none => true
def validS (s : List OpV) : Bool := decide (s.length ≤ 16) && (List.range s.length).all (goodAt s)

theorem isEnd_kind {o : OpV} (h : isEnd o = true) : o.kind = 2 ∨ o.kind = 3 := by simpa [isEnd] using h
theorem endOf_cases (s : List OpV) (t : Int) : (endOf s t = -1 ∧ noEnd s t = true) ∨ ((endOf s t = 2 ∨ endOf s t = 3) ∧ noEnd s t = false) := by
  unfold endOf noEnd
  cases h : s.find? (fun o => o.tx == t && isEnd o) with
  | none =>
    refine .inl ⟨rfl, ?_⟩
    rw [List.find?_eq_none] at h
    rw [List.all_eq_true]
    intro o ho
    have := h o ho
    by_cases h1 : o.tx = t <;> simp_all
  | some o =>
    have h1 := List.find?_some h
    have h2 := List.mem_of_find?_eq_some h
    refine .inr ⟨?_, ?_⟩
    · simp only [Bool.and_eq_true] at h1
      simpa using isEnd_kind h1.2
    · rw [List.all_eq_false]
      exact ⟨o, h2, by simpa using h1⟩
theorem endOf_hit (s : List OpV) (t : Int) (k : Nat) (o : OpV) (ho : s[k]? = some o) (hno : ∀ j, j < k → ∀ o, s[j]? = some o → (o.tx == t && isEnd o) = false) (h : (o.tx == t && isEnd o) = true) : endOf s t = o.kind := by
  have e : s.find? (fun o => o.tx == t && isEnd o) = some o := by
    rw [List.find?_eq_some_iff_getElem]
    obtain ⟨hk, he⟩ := List.getElem?_eq_some_iff.1 ho
    refine ⟨h, k, hk, he, fun j hj => ?_⟩
    have := hno j hj _ (List.getElem?_eq_getElem (by omega))
    rw [this]; rfl
  unfold endOf
  rw [e]; rfl
theorem endOf_none (s : List OpV) (t : Int) (hno : ∀ j, j < s.length → ∀ o, s[j]? = some o → (o.tx == t && isEnd o) = false) : endOf s t = -1 := by
  have e : s.find? (fun o => o.tx == t && isEnd o) = none := by
    rw [List.find?_eq_none]
    intro o ho
    obtain ⟨j, hj⟩ := List.mem_iff_getElem?.1 ho
    have hl : j < s.length := by
      rcases Nat.lt_or_ge j s.length with h | h
      · exact h
      · rw [List.getElem?_eq_none h] at hj; cases hj
    rw [hno j hl o hj]; simp
  unfold endOf
  rw [e]; rfl
theorem no_snoc {α : Type} {s : List α} {p : α → Bool} {k : Nat} {o : α} (ho : s[k]? = some o) (hno : ∀ j, j < k → ∀ o, s[j]? = some o → p o = false) (h : p o = false) :
    ∀ j, j < k + 1 → ∀ o, s[j]? = some o → p o = false := by
  intro j hj o' ho'
  by_cases e : j = k
  · subst e; rw [ho] at ho'; cases ho'; exact h
  · exact hno j (by omega) o' ho'

set_option maxHeartbeats 400000 in
theorem endOf_any (A : Option Addr) (n c : Nat) (s : List OpV) (t : Int) (w : World) (hx : ROps w A n s) :
    Calls Try.prog 73 #[.slice A n c, .int .i64 t] w fun e w' => e = .returned (.int .i64 (endOf s t)) ∧ Below w.heap.size w w' := by
  have hn := hx.2.1
  have hl := hx.1
  have HX := Lib.hid hx
  clear hx
  go_enter Try.func73, Try.ntmps73
  go_wp2
  go_loopw [9] (fun i wr => ∃ k : Nat, k ≤ n ∧ i = .int .i64 k ∧ Below w.heap.size w wr ∧ (∀ j, j < k → ∀ o, s[j]? = some o → (o.tx == t && isEnd o) = false)) (fun i _ => n - (intOf i).toNat)
  case atStart => exact ⟨0, Nat.zero_le _, rfl, Below.refl _ _, by omega⟩
  case round =>
    obtain ⟨k, hk, rfl, hb, hno⟩ := hrel
    by_cases hlt : k < n
    · obtain ⟨b, off, o, rfl, hbl, ho, c0, c1, c2⟩ := (HX.out.below hb (Nat.le_refl _)).at_ hlt
      have HT : Hid ((o.tx == t && isEnd o) = true → endOf s t = o.kind) := fun h => endOf_hit s t k o ho hno h
      have HN : Hid ((o.tx == t && isEnd o) = false → ∀ j, j < k + 1 → ∀ o, s[j]? = some o → (o.tx == t && isEnd o) = false) := fun h => no_snoc ho hno h
      clear hno ho
      obtain ⟨tx, kd, it⟩ := o
      by_cases h1 : tx = t
      · subst h1
        cases h2 : isEnd ⟨tx, kd, it⟩
        all_goals
          go_wp2_with (go_at_call 127; refine (ends_any ⟨tx, kd, it⟩ _).mono ?_; rintro e w' ⟨rfl, hb2⟩; obtain ⟨bc2, bf2⟩ := bcell hb2; have hsz : wr.heap.size < w'.heap.size := by (have := hb2.size; (try simp at this); omega))
        · go_roundw
          case rel => exact ⟨k + 1, by omega, by go_num, hb.trans ((by (repeat (first | exact Below.refl _ _ | assumption | refine B_alloc ?_ (Nat.le_refl _) _ | refine Below.drew ?_ | refine B_drewN ?_ _ | refine B_after (by assumption) ?_ | (refine B_set ?_ ?_; rotate_left; (first | exact Nat.le_refl _ | (simp; done) | (simp at *; omega))))) : Below wr.heap.size wr _).mono hb.size), HN.out (by simp [h2])⟩
          case measure => simp [intOf]; omega
        · go_ret
          exact ⟨ret_int (HT.out (by simp [h2])).symm, hb.trans ((by (repeat (first | exact Below.refl _ _ | assumption | refine B_alloc ?_ (Nat.le_refl _) _ | refine Below.drew ?_ | refine B_drewN ?_ _ | refine B_after (by assumption) ?_ | (refine B_set ?_ ?_; rotate_left; (first | exact Nat.le_refl _ | (simp; done) | (simp at *; omega))))) : Below wr.heap.size wr _).mono hb.size)⟩
      · go_wp2_with fail
        go_roundw
        case rel => exact ⟨k + 1, by omega, by go_num, hb.trans ((by (repeat (first | exact Below.refl _ _ | assumption | refine B_alloc ?_ (Nat.le_refl _) _ | refine Below.drew ?_ | refine B_drewN ?_ _ | refine B_after (by assumption) ?_ | (refine B_set ?_ ?_; rotate_left; (first | exact Nat.le_refl _ | (simp; done) | (simp at *; omega))))) : Below wr.heap.size wr _).mono hb.size), HN.out (by simp [h1])⟩
        case measure => simp [intOf]; omega
    · have HE := Lib.hid (endOf_none s t (fun j hj => hno j (by omega)))
      clear hno
      go_wp2_with fail
      go_ret
      exact ⟨ret_int HE.out.symm, hb⟩

theorem all_snoc {p : Nat → Bool} {k : Nat} (h : ∀ j, j < k → p j = true) (hk : p k = true) : ∀ j, j < k + 1 → p j = true := fun j hj => by
  by_cases e : j = k
  · subst e; exact hk
  · exact h j (by omega)
theorem validS_bad {s : List OpV} {k : Nat} (hk : k < s.length) (h : goodAt s k = false) : validS s = false := by
  unfold validS
  have : (List.range s.length).all (goodAt s) = false := by
    rw [List.all_eq_false]
    exact ⟨k, List.mem_range.2 hk, by simp [h]⟩
  rw [this, Bool.and_false]
theorem validS_end {s : List OpV} (h : ∀ j, j < s.length → goodAt s j = true) : validS s = decide (s.length ≤ 16) := by
  unfold validS
  have : (List.range s.length).all (goodAt s) = true := by
    rw [List.all_eq_true]
    intro j hj
    exact h j (List.mem_range.1 hj)
  rw [this, Bool.and_true]

set_option maxHeartbeats 1000000 in
theorem ValidSchedule_any (A : Option Addr) (n c : Nat) (s : List OpV) (w : World) (hx : ROps w A n s) (hnc : n ≤ c) :
    Calls Try.prog 19 #[.slice A n c] w fun e w' => e = .returned (.bool (validS s)) ∧ Below w.heap.size w w' := by
  have hn := hx.2.1
  have hl := hx.1
  have HX := Lib.hid hx
  clear hx
  go_enter Try.func19, Try.ntmps19
  go_wp2
  go_loopw [7] (fun i wr => ∃ k : Nat, k ≤ n ∧ i = .int .i64 k ∧ Below w.heap.size w wr ∧ (∀ j, j < k → goodAt s j = true)) (fun i _ => n - (intOf i).toNat)
  case atStart => exact ⟨0, Nat.zero_le _, rfl, Below.refl _ _, by omega⟩
  case round =>
    obtain ⟨k, hk, rfl, hb, hno⟩ := hrel
    by_cases hlt : k < n
    · have hxr := HX.out.below hb (Nat.le_refl _)
      obtain ⟨b, off, o, rfl, hbl, ho, c0, c1, c2⟩ := hxr.at_ hlt
      have HX2 := Lib.hid hxr
      have hg : goodAt s k = (validOp o && noEnd (s.take k) o.tx) := by unfold goodAt; rw [ho]
      have hec := endOf_cases (s.take k) o.tx
      obtain ⟨ev, he⟩ : ∃ ev, endOf (s.take k) o.tx = ev := ⟨_, rfl⟩
      rw [he] at hec
      have HE := Lib.hid he
      clear he ho hxr
      cases hv : validOp o
      · have HB := Lib.hid (validS_bad (s := s) (k := k) (by omega) (by rw [hg, hv]; rfl))
        clear hg hec
        obtain ⟨tx, kd, it⟩ := o
        have hv' : ∀ W : World, Calls Try.prog 72 #[.agg #[.int .i64 tx, .int .i64 kd, .int .i64 it]] W fun e w' => e = .returned (.bool false) ∧ Below W.heap.size W w' := fun W => by
          have := valid_any ⟨tx, kd, it⟩ W; rw [hv] at this; exact this
        have HV := Lib.hid hv'
        clear hv hv'
        go_wp2_with fail
        obtain ⟨W, hW⟩ : ∃ W : World, W = wr.alloc (.cells #[.int .i64 tx, .int .i64 kd, .int .i64 it] 46) := ⟨_, rfl⟩
        rw [← hW]
        obtain ⟨L0, L1, L2, hbW, hWs⟩ := op_box hW
        clear hW
        refine region_later (by kernel_rfl) (by kernel_rfl) ?_
        repeat (go_big_quiet_step ((go_at_call 72; exact later_call _ (HV.out _))))
        refine wpQuiet_nil ?_
        rintro _ ⟨u, rfl⟩
        go_wp2_with fail
        go_ret
        exact ⟨ret_bool HB.out.symm, Later.trans hb hbW u⟩
      · obtain ⟨tx, kd, it⟩ := o
        have hv' : ∀ W : World, Calls Try.prog 72 #[.agg #[.int .i64 tx, .int .i64 kd, .int .i64 it]] W fun e w' => e = .returned (.bool true) ∧ Below W.heap.size W w' := fun W => by
          have := valid_any ⟨tx, kd, it⟩ W; rw [hv] at this; exact this
        have HV := Lib.hid hv'
        have hE' : ∀ (W : World), ROps W (some ⟨b, off, none⟩) k (s.take k) → Calls Try.prog 73 #[.slice (some ⟨b, off, none⟩) k c, .int .i64 tx] W fun e w' => e = .returned (.int .i64 ev) ∧ Below W.heap.size W w' := fun W h => by
          have := endOf_any _ k c _ tx W h; rw [HE.out] at this; exact this
        have HE2 := Lib.hid hE'
        rw [hv, Bool.true_and] at hg
        have HG := Lib.hid hg
        have HN := Lib.hid hno
        clear hv hv' hE' hg hno
        have hkc : k ≤ c := by omega
        by_cases h0 : 0 ≤ ev
        · have hq : noEnd (s.take k) tx = false := by
            rcases hec with h | h
            · omega
            · exact h.2
          have HQ := Lib.hid hq
          clear hq
          go_wp2_with fail
          obtain ⟨W, hW⟩ : ∃ W : World, W = wr.alloc (.cells #[.int .i64 tx, .int .i64 kd, .int .i64 it] 46) := ⟨_, rfl⟩
          rw [← hW]
          obtain ⟨L0, L1, L2, hbW, hWs⟩ := op_box hW
          clear hW
          refine region_later (by kernel_rfl) (by kernel_rfl) ?_
          repeat (go_big_quiet_step ((first | (go_at_call 72; exact later_call _ (HV.out _)) | (go_at_call 73; exact later_call _ (HE2.out _ (((HX2.out.take (by omega)).below hbW (Nat.le_refl _)).later _))))))
          refine wpQuiet_nil ?_
          rintro _ ⟨u, rfl⟩
          go_wp2_with fail
          go_ret
          exact ⟨ret_bool (validS_bad (k := k) (by omega) (by rw [HG.out]; exact HQ.out)).symm, Later.trans hb hbW u⟩
        · have hq : noEnd (s.take k) tx = true := by
            rcases hec with h | h
            · exact h.2
            · omega
          have HQ := Lib.hid hq
          clear hq
          go_wp2_with fail
          obtain ⟨W, hW⟩ : ∃ W : World, W = wr.alloc (.cells #[.int .i64 tx, .int .i64 kd, .int .i64 it] 46) := ⟨_, rfl⟩
          rw [← hW]
          obtain ⟨L0, L1, L2, hbW, hWs⟩ := op_box hW
          clear hW
          refine region_later (by kernel_rfl) (by kernel_rfl) ?_
          repeat (go_big_quiet_step ((first | (go_at_call 72; exact later_call _ (HV.out _)) | (go_at_call 73; exact later_call _ (HE2.out _ (((HX2.out.take (by omega)).below hbW (Nat.le_refl _)).later _))))))
          refine wpQuiet_nil ?_
          rintro _ ⟨u, rfl⟩
          go_wp2_with fail
          go_roundw
          case rel => exact ⟨k + 1, by omega, by go_num, Later.trans hb hbW u, all_snoc HN.out (by rw [HG.out]; exact HQ.out)⟩
          case measure => simp [intOf]; omega
    · have HE := Lib.hid (validS_end (s := s) (fun j hj => hno j (by omega)))
      clear hno
      go_wp2_with fail
      go_ret
      exact ⟨ret_bool (by rw [HE.out, hl]; exact decide_eq_decide.2 ⟨fun h => by omega, fun h => by omega⟩), hb⟩
end Go.Proofs.Ytofcpfabjfhjoaa
namespace Go.Proofs.Ytofcpfabjfhjoaa
open Go.RowKit
set_option linter.unusedVariables false

theorem opInfo : (Try.prog.info? 46).map (fun i => (i.zero, i.size, i.bytes)) = some (some (.agg #[.int .i64 0, .int .i64 0, .int .i64 0]), 3, 24) := by kernel_rfl
theorem intInfo : (Try.prog.info? 3).map (fun i => (i.zero, i.size, i.bytes)) = some (some (.int .i64 0), 1, 8) := by kernel_rfl

/-- A source of cells: m elements of 'size' cells at address A. -/
def Src (w : World) (size : Nat) (A : Option Addr) (m : Nat) (news : List Value) : Prop :=
  news.length = m * size ∧ (∀ u ∈ news, u.oneCell' = true) ∧ (0 < m → ∃ ad, A = some ad ∧ ∀ j u, news[j]? = some u → w.cell? (ad.add j) = some u)

section
variable {P : Program} {w : World}

theorem run_app_nil (base : Nat) (t ty e : TypeId) (i : TypeInfo) (size : Nat) (ht : P.underlying t = some (.slice e)) (hi : P.info? e = some i)
    (v : Value) (n : Nat) (xs : List Value) (hown : w.ownsRow base e size v n xs) (c : Nat) : (Builtin.append_ #[t, t] ty #[v, .slice none 0 c]).run P w = .ok v w := by
  rcases hown.2 with ⟨rfl, rfl⟩ | ⟨g, cap, cur, rfl, _, _, hnc, _⟩
  · simp [Builtin.append_, run_underlying ht, sizeOf, typeInfo, hi, Builtin.lenOf, Builtin.firstCells]
  · simp [Builtin.append_, run_underlying ht, sizeOf, typeInfo, hi, Builtin.lenOf, Builtin.firstCells, hnc, storeCells]

theorem run_app (base : Nat) (t ty e : TypeId) (i : TypeInfo) (z : Value) (size bytes : Nat) (ht : P.underlying t = some (.slice e)) (hi : P.info? e = some i) (hz : i.zero = some z)
    (hsize : i.size = size) (hby : i.bytes = bytes) (hzs : z.cells.size = size) (hsz : 0 < size)
    (v : Value) (n : Nat) (xs : List Value) (hown : w.ownsRow base e size v n xs)
    (A : Option Addr) (m c : Nat) (news : List Value) (hr : Src w size A m news)
    (h63 : n + m ≤ maxLen) (hbytes : (n + m) * bytes ≤ 140737488355328) (hbase : base ≤ w.heap.size) :
    ∃ v' w', (Builtin.append_ #[t, t] ty #[v, .slice A m c]).run P w = .ok v' w' ∧ w'.ownsRow base e size v' (n + m) (xs ++ news) ∧ w.grownBy w' v.ownBlock ∧
      (v'.ownBlock = v.ownBlock ∨ v'.ownBlock = some w.heap.size) := by
  obtain ⟨hl, h1, hc⟩ := hr
  rcases A with _ | ad
  · have hm : m = 0 := by
      rcases Nat.eq_zero_or_pos m with h0 | h0
      · exact h0
      · obtain ⟨ad, h, _⟩ := hc h0
        cases h
    subst hm
    have hn : news = [] := List.eq_nil_of_length_eq_zero (by simpa using hl)
    subst hn
    exact ⟨v, w, run_app_nil base t ty e i size ht hi v n xs hown c, by simpa using hown, World.grownBy.refl w _, .inl rfl⟩
  · have hcells : ∀ j u, news[j]? = some u → w.cell? (ad.add j) = some u := by
      intro j u hu
      rcases Nat.eq_zero_or_pos m with h0 | h0
      · subst h0
        have hn : news = [] := List.eq_nil_of_length_eq_zero (by simpa using hl)
        subst hn
        simp at hu
      · obtain ⟨ad', h, hc'⟩ := hc h0
        injection h with h
        subst h
        exact hc' j u hu
    obtain ⟨v', w', hrun, h2, h3, _, h5⟩ := run_append_own_at (P := P) w base t ty e i z size bytes ht hi hz hsize hby hzs hsz v n xs hown ad m c news hl hcells h1 h63 hbytes hbase
    exact ⟨v', w', hrun, h2, h3, h5⟩

theorem wpList_app {ops : Array Oper} {rest : List Oper} {o : Oper} {a : Act} {Q : Exit → Act → World → Prop} (hgd : o.guard = none) (s x : Operand) (t : TypeId)
    (ho : o.op = .call { callee := .builtin .append, args := #[s, x], argTypes := #[t, t] })
    (base : Nat) (e : TypeId) (i : TypeInfo) (z : Value) (size bytes : Nat) (ht : P.underlying t = some (.slice e)) (hi : P.info? e = some i) (hz : i.zero = some z)
    (hsize : i.size = size) (hby : i.bytes = bytes) (hzs : z.cells.size = size) (hsz : 0 < size)
    (v : Value) (n : Nat) (xs : List Value) (hs : a.eval s = v) (hown : w.ownsRow base e size v n xs)
    (A : Option Addr) (m c : Nat) (news : List Value) (hx : a.eval x = .slice A m c) (hr : Src w size A m news)
    (h63 : n + m ≤ maxLen) (hbytes : (n + m) * bytes ≤ 140737488355328) (hbase : base ≤ w.heap.size)
    (h : ∀ v' w', w'.ownsRow base e size v' (n + m) (xs ++ news) → w.grownBy w' v.ownBlock → (v'.ownBlock = v.ownBlock ∨ v'.ownBlock = some w.heap.size) → wpList P ops Q rest (a.put o.dst v') w') : wpList P ops Q (o :: rest) a w := by
  refine wpList_plain hgd fun _ hK => ?_
  obtain ⟨v', w', hrun, h2, h3, h4⟩ := run_app (P := P) base t o.type e i z size bytes ht hi hz hsize hby hzs hsz v n xs hown A m c news hr h63 hbytes hbase
  unfold Oper.wp execOp
  simp only [ho, resolve, invoke, builtin, Sem.run_bind, Sem.run_pure, Result.andThen_ok, List.map_toArray, List.map_cons, List.map_nil, hs, hx, hrun]
  exact hK _ _ (h v' w' h2 h3 h4)
end

theorem opCells_find (ys : List OpV) : ∀ (j : Nat) (u : Value), (opCells ys)[j]? = some u →
    ∃ (i : Nat) (o : OpV), ys[i]? = some o ∧ ((j = i * 3 ∧ u = .int .i64 o.tx) ∨ (j = i * 3 + 1 ∧ u = .int .i64 o.kind) ∨ (j = i * 3 + 2 ∧ u = .int .i64 o.item)) := by
  induction ys with
  | nil => intro j u h; simp [opCells] at h
  | cons y r ih =>
    intro j u h
    match j, h with
    | 0, h => exact ⟨0, y, rfl, .inl ⟨rfl, by simpa [opCells, eq_comm] using h⟩⟩
    | 1, h => exact ⟨0, y, rfl, .inr (.inl ⟨rfl, by simpa [opCells, eq_comm] using h⟩)⟩
    | 2, h => exact ⟨0, y, rfl, .inr (.inr ⟨rfl, by simpa [opCells, eq_comm] using h⟩)⟩
    | j + 3, h =>
      obtain ⟨i, o, h1, h2⟩ := ih j u (by simpa [opCells] using h)
      exact ⟨i + 1, o, by simpa using h1, by rcases h2 with ⟨a, b⟩ | ⟨a, b⟩ | ⟨a, b⟩ <;> simp [b] <;> omega⟩
theorem addr_add (b off j : Nat) : (⟨b, off, none⟩ : Addr).add j = ⟨b, off + j, none⟩ := by
  unfold Addr.add
  split
  · subst_vars; rfl
  · rfl
theorem ROps.src {w : World} {A : Option Addr} {m : Nat} {ys : List OpV} (h : ROps w A m ys) : Src w 3 A m (opCells ys) := by
  obtain ⟨h1, h2, h3⟩ := h
  refine ⟨by rw [length_opCells, h1], opCells_one ys, fun hm => ?_⟩
  obtain ⟨b, off, hA, _, hc⟩ := h3 hm
  refine ⟨_, hA, fun j u hu => ?_⟩
  obtain ⟨i, o, ho, h⟩ := opCells_find ys j u hu
  obtain ⟨c0, c1, c2⟩ := hc i o ho
  rw [addr_add]
  rcases h with ⟨rfl, rfl⟩ | ⟨rfl, rfl⟩ | ⟨rfl, rfl⟩
  · exact c0
  · exact c1
  · exact c2
theorem RInts.src {w : World} {A : Option Addr} {m : Nat} {ys : List Int} (h : RInts w A m ys) : Src w 1 A m (intCells ys) := by
  obtain ⟨h1, h2, h3⟩ := h
  refine ⟨by simp [intCells, h1], intCells_one ys, fun hm => ?_⟩
  obtain ⟨b, off, hA, _, hc⟩ := h3 hm
  refine ⟨_, hA, fun j u hu => ?_⟩
  rw [addr_add]
  simp only [intCells, List.getElem?_map, Option.map_eq_some_iff] at hu
  obtain ⟨x, hx, rfl⟩ := hu
  exact hc j x hx

section
variable {w : World} {ops : Array Oper} {rest : List Oper} {o : Oper} {a : Act} {Q : Exit → Act → World → Prop}
/-- append of operations. -/
theorem app_ops (s x : Operand) {base : Nat} {v : Value} {n : Nat} {xs : List OpV} (hown : w.ownsRow base 46 3 v n (opCells xs)) (hbase : base ≤ w.heap.size)
    {A : Option Addr} {m c : Nat} {ys : List OpV} (hr : ROps w A m ys) (hn : n ≤ 1099511627776)
    (hgd : o.guard = none) (ho : o.op = .call { callee := .builtin .append, args := #[s, x], argTypes := #[23, 23] }) (hs : a.eval s = v) (hx : a.eval x = .slice A m c)
    (h : ∀ v' w', w'.ownsRow base 46 3 v' (n + m) (opCells (xs ++ ys)) → w.grownBy w' v.ownBlock → (v'.ownBlock = v.ownBlock ∨ v'.ownBlock = some w.heap.size) → wpList Try.prog ops Q rest (a.put o.dst v') w') : wpList Try.prog ops Q (o :: rest) a w := by
  obtain ⟨i0, hi, hz0, hz1, hz2⟩ := info_parts opInfo
  have hm := hr.2.1
  refine wpList_app hgd s x _ ho base _ i0 _ 3 24 Try.underlying23 hi hz0 hz1 hz2 rfl (by decide) v n _ hs hown A m c _ hx hr.src (by simp only [maxLen]; omega) (by omega) hbase ?_
  intro v' w' h1 h2 h3
  rw [← opCells_append] at h1
  exact h v' w' h1 h2 h3
/-- append of integers. -/
theorem app_ints (s x : Operand) {base : Nat} {v : Value} {n : Nat} {xs : List Int} (hown : w.ownsRow base 3 1 v n (intCells xs)) (hbase : base ≤ w.heap.size)
    {A : Option Addr} {m c : Nat} {ys : List Int} (hr : RInts w A m ys) (hn : n ≤ 1099511627776)
    (hgd : o.guard = none) (ho : o.op = .call { callee := .builtin .append, args := #[s, x], argTypes := #[25, 25] }) (hs : a.eval s = v) (hx : a.eval x = .slice A m c)
    (h : ∀ v' w', w'.ownsRow base 3 1 v' (n + m) (intCells (xs ++ ys)) → w.grownBy w' v.ownBlock → (v'.ownBlock = v.ownBlock ∨ v'.ownBlock = some w.heap.size) → wpList Try.prog ops Q rest (a.put o.dst v') w') : wpList Try.prog ops Q (o :: rest) a w := by
  obtain ⟨i0, hi, hz0, hz1, hz2⟩ := info_parts intInfo
  have hm := hr.2.1
  refine wpList_app hgd s x _ ho base _ i0 _ 1 8 Try.underlying25 hi hz0 hz1 hz2 rfl (by decide) v n _ hs hown A m c _ hx hr.src (by simp only [maxLen]; omega) (by omega) hbase ?_
  intro v' w' h1 h2 h3
  have e : intCells xs ++ intCells ys = intCells (xs ++ ys) := by simp [intCells]
  rw [e] at h1
  exact h v' w' h1 h2 h3
end

/-- A literal slice of integers, as it lies in its new block. -/
theorem RInts.lit (w : World) (xs : List Int) (t : TypeId) (h : xs.length ≤ 1099511627776) : RInts (w.alloc (.cells (intCells xs).toArray t)) (some ⟨w.heap.size, 0, none⟩) xs.length xs := by
  refine ⟨rfl, h, fun _ => ⟨w.heap.size, 0, rfl, by simp, fun i x hx => ?_⟩⟩
  have := cell_of_row (w.alloc (.cells (intCells xs).toArray t)) w.heap.size (0 + i) _ t (0, 0) (heap_alloc_new w _)
  rw [this]
  simp [intCells, hx]
theorem lit1 {w : World} {H : Nat} (hH : w.heap.size = H) (a : Int) : RInts (w.alloc (.cells #[.int .i64 a] 3)) (some ⟨H, 0, none⟩) 1 [a] := by subst hH; exact RInts.lit w [a] _ (by simp)
theorem ROps.lit1 (w : World) (o : OpV) (t : TypeId) : ROps (w.alloc (.cells #[.int .i64 o.tx, .int .i64 o.kind, .int .i64 o.item] t)) (some ⟨w.heap.size, 0, none⟩) 1 [o] := by
  refine ⟨rfl, by omega, fun _ => ⟨w.heap.size, 0, rfl, by simp, fun i x hx => ?_⟩⟩
  match i, hx with
  | 0, hx =>
    simp at hx; subst hx
    have := fun k => cell_of_row (w.alloc (.cells #[.int .i64 o.tx, .int .i64 o.kind, .int .i64 o.item] t)) w.heap.size k _ t (0, 0) (heap_alloc_new w _)
    exact ⟨this _, this _, this _⟩
#print axioms app_ops
end Go.Proofs.Ytofcpfabjfhjoaa
namespace Go.Proofs.Ytofcpfabjfhjoaa
open Go.RowKit Go.BigFrame
set_option linter.unusedVariables false

/-- Function F is entered by a call. -/
def Runs (F : FuncId) : Prop := ∀ args w, (callFunc F args).run Try.prog w = .ok (.enter F args) w
theorem runs_of {f : FuncId} {fn : Func} {c : Code} (hf : Try.prog.funcs[f]? = some fn) (hname : (fn.name == "runtime.NumGoroutine") = false) (hb : fn.body = some c) : Runs f :=
  by
  intro args w
  have h1 : fn.name ≠ "runtime.NumGoroutine" := by simpa using hname
  simp [callFunc, hf, h1, hb]

/-- A closure that answers p of each of the operations s, in whatever the world may become. -/
def ClosOp (w : World) (F : FuncId) (caps : Array Value) (s : List OpV) (p : OpV → Bool) : Prop := Runs F ∧
  ∀ (W : World) (o : OpV), Below w.heap.size w W → o ∈ s → Calls Try.prog F (#[o.val] ++ caps) W fun e w' => e = .returned (.bool (p o)) ∧ Below W.heap.size W w'
def ClosInt (w : World) (F : FuncId) (caps : Array Value) (s : List Int) (p : Int → Bool) : Prop := Runs F ∧
  ∀ (W : World) (x : Int), Below w.heap.size w W → x ∈ s → Calls Try.prog F (#[.int .i64 x] ++ caps) W fun e w' => e = .returned (.bool (p x)) ∧ Below W.heap.size W w'

theorem find_none_all {α : Type} {s : List α} {p : α → Bool} (h : ∀ j, j < s.length → ∀ o, s[j]? = some o → p o = false) : s.any p = false := by
  rw [List.any_eq_false]
  intro o ho
  obtain ⟨j, hj⟩ := List.mem_iff_getElem?.1 ho
  have hl : j < s.length := by
    rcases Nat.lt_or_ge j s.length with h | h
    · exact h
    · rw [List.getElem?_eq_none h] at hj; cases hj
  simp [h j hl o hj]

def IdxPost {α : Type} (s : List α) (p : α → Bool) (w : World) (e : Ending) (w' : World) : Prop :=
  Below w.heap.size w w' ∧ ((s.any p = false ∧ e = .returned (.int .i64 (-1))) ∨ (s.any p = true ∧ ∃ k : Nat, k < s.length ∧ (∃ o, s[k]? = some o ∧ p o = true) ∧ (∀ j, j < k → ∀ o, s[j]? = some o → p o = false) ∧ e = .returned (.int .i64 k)))


set_option maxRecDepth 100000 in
set_option maxHeartbeats 400000 in
theorem IndexFuncOp_any (A : Option Addr) (n c : Nat) (s : List OpV) (F : FuncId) (caps : Array Value) (p : OpV → Bool) (w : World) (hx : ROps w A n s) (hf : ClosOp w F caps s p) :
    Calls Try.prog 128 #[.slice A n c, .func (.func F) #[] caps] w (IdxPost s p w) := by
  have hn := hx.2.1
  have hl := hx.1
  have HX := Lib.hid hx
  have HF := Lib.hid hf
  clear hx hf
  go_enter Try.func128, Try.ntmps128
  go_wp2_with fail
  go_loopw [8] (fun i wr => ∃ k : Nat, k ≤ n ∧ i = .int .i64 k ∧ Below w.heap.size w wr ∧ (∀ j, j < k → ∀ o, s[j]? = some o → p o = false)) (fun i _ => n - (intOf i).toNat)
  case atStart => exact ⟨0, Nat.zero_le _, rfl, Below.refl _ _, by omega⟩
  case round =>
    obtain ⟨k, hk, rfl, hb, hno⟩ := hrel
    by_cases hlt : k < n
    · obtain ⟨b, off, o, rfl, hbl, ho, c0, c1, c2⟩ := (HX.out.below hb (Nat.le_refl _)).at_ hlt
      have hcl := HF.out.2 wr o hb (List.mem_of_getElem? ho)
      have hrun := HF.out.1
      unfold Runs at hrun
      unfold OpV.val at hcl
      have HN : Hid (p o = false → ∀ j, j < k + 1 → ∀ o, s[j]? = some o → p o = false) := fun h => no_snoc ho hno h
      have HT : Hid (p o = true → ∀ w', Below w.heap.size w w' → IdxPost s p w (.returned (.int .i64 k)) w') := fun h w' hb' =>
        ⟨hb', .inr ⟨List.any_eq_true.2 ⟨o, List.mem_of_getElem? ho, h⟩, k, by omega, ⟨o, ho, h⟩, hno, rfl⟩⟩
      have HC := Lib.hid hcl
      clear hno ho hcl
      cases hp : p o
      · rw [hp] at HC
        go_wp2_with fail
        refine (HC.out).mono ?_
        rintro e w1 ⟨rfl, hb1⟩
        go_wp2_with fail
        go_roundw
        case rel => exact ⟨k + 1, by omega, by go_num, hb.trans (hb1.mono hb.size), HN.out hp⟩
        case measure => simp [intOf]; omega
      · rw [hp] at HC
        go_wp2_with fail
        refine (HC.out).mono ?_
        rintro e w1 ⟨rfl, hb1⟩
        go_wp2_with fail
        go_ret
        exact HT.out hp _ (hb.trans (hb1.mono hb.size))
    · have HE := Lib.hid (find_none_all (s := s) (p := p) (fun j hj => hno j (by omega)))
      clear hno
      go_wp2_with fail
      go_ret
      exact ⟨hb, .inl ⟨HE.out, rfl⟩⟩


set_option maxRecDepth 100000 in
set_option maxHeartbeats 400000 in
theorem IndexFuncL_any (A : Option Addr) (n c : Nat) (s : List Int) (F : FuncId) (caps : Array Value) (p : Int → Bool) (w : World) (hx : RInts w A n s) (hf : ClosInt w F caps s p) :
    Calls Try.prog 152 #[.slice A n c, .func (.func F) #[] caps] w (IdxPost s p w) := by
  have hn := hx.2.1
  have hl := hx.1
  have HX := Lib.hid hx
  have HF := Lib.hid hf
  clear hx hf
  go_enter Try.func152, Try.ntmps152
  go_wp2_with fail
  go_loopw [8] (fun i wr => ∃ k : Nat, k ≤ n ∧ i = .int .i64 k ∧ Below w.heap.size w wr ∧ (∀ j, j < k → ∀ o, s[j]? = some o → p o = false)) (fun i _ => n - (intOf i).toNat)
  case atStart => exact ⟨0, Nat.zero_le _, rfl, Below.refl _ _, by omega⟩
  case round =>
    obtain ⟨k, hk, rfl, hb, hno⟩ := hrel
    by_cases hlt : k < n
    · obtain ⟨b, off, o, rfl, hbl, ho, c0⟩ := (HX.out.below hb (Nat.le_refl _)).at_ hlt
      have hcl := HF.out.2 wr o hb (List.mem_of_getElem? ho)
      have hrun := HF.out.1
      unfold Runs at hrun
      skip
      have HN : Hid (p o = false → ∀ j, j < k + 1 → ∀ o, s[j]? = some o → p o = false) := fun h => no_snoc ho hno h
      have HT : Hid (p o = true → ∀ w', Below w.heap.size w w' → IdxPost s p w (.returned (.int .i64 k)) w') := fun h w' hb' =>
        ⟨hb', .inr ⟨List.any_eq_true.2 ⟨o, List.mem_of_getElem? ho, h⟩, k, by omega, ⟨o, ho, h⟩, hno, rfl⟩⟩
      have HC := Lib.hid hcl
      clear hno ho hcl
      cases hp : p o
      · rw [hp] at HC
        go_wp2_with fail
        refine (HC.out).mono ?_
        rintro e w1 ⟨rfl, hb1⟩
        go_wp2_with fail
        go_roundw
        case rel => exact ⟨k + 1, by omega, by go_num, hb.trans (hb1.mono hb.size), HN.out hp⟩
        case measure => simp [intOf]; omega
      · rw [hp] at HC
        go_wp2_with fail
        refine (HC.out).mono ?_
        rintro e w1 ⟨rfl, hb1⟩
        go_wp2_with fail
        go_ret
        exact HT.out hp _ (hb.trans (hb1.mono hb.size))
    · have HE := Lib.hid (find_none_all (s := s) (p := p) (fun j hj => hno j (by omega)))
      clear hno
      go_wp2_with fail
      go_ret
      exact ⟨hb, .inl ⟨HE.out, rfl⟩⟩



set_option maxHeartbeats 400000 in
theorem ContainsFuncOp_any (A : Option Addr) (n c : Nat) (s : List OpV) (F : FuncId) (caps : Array Value) (p : OpV → Bool) (w : World) (hx : ROps w A n s) (hf : ClosOp w F caps s p) :
    Calls Try.prog 74 #[.slice A n c, .func (.func F) #[] caps] w fun e w' => e = .returned (.bool (s.any p)) ∧ Below w.heap.size w w' := by
  have HI := Lib.hid (IndexFuncOp_any A n c s F caps p w hx hf)
  clear hx hf
  go_enter Try.func74, Try.ntmps74
  go_wp2_with fail
  refine (HI.out).mono ?_
  rintro e w1 ⟨hb, ⟨ha, rfl⟩ | ⟨ha, k, hk, _, _, rfl⟩⟩
  · have HA := Lib.hid ha
    clear ha
    go_wp2_with fail
    go_ret
    exact ⟨ret_bool HA.out.symm, hb⟩
  · have HA := Lib.hid ha
    clear ha
    go_wp2_with fail
    go_ret
    exact ⟨ret_bool HA.out.symm, hb⟩


set_option maxHeartbeats 400000 in
theorem ContainsFuncL_any (A : Option Addr) (n c : Nat) (s : List Int) (F : FuncId) (caps : Array Value) (p : Int → Bool) (w : World) (hx : RInts w A n s) (hf : ClosInt w F caps s p) :
    Calls Try.prog 119 #[.slice A n c, .func (.func F) #[] caps] w fun e w' => e = .returned (.bool (s.any p)) ∧ Below w.heap.size w w' := by
  have HI := Lib.hid (IndexFuncL_any A n c s F caps p w hx hf)
  clear hx hf
  go_enter Try.func119, Try.ntmps119
  go_wp2_with fail
  refine (HI.out).mono ?_
  rintro e w1 ⟨hb, ⟨ha, rfl⟩ | ⟨ha, k, hk, _, _, rfl⟩⟩
  · have HA := Lib.hid ha
    clear ha
    go_wp2_with fail
    go_ret
    exact ⟨ret_bool HA.out.symm, hb⟩
  · have HA := Lib.hid ha
    clear ha
    go_wp2_with fail
    go_ret
    exact ⟨ret_bool HA.out.symm, hb⟩

end Go.Proofs.Ytofcpfabjfhjoaa
namespace Go.Proofs.Ytofcpfabjfhjoaa
open Go.RowKit Go.BigFrame
set_option linter.unusedVariables false

/-- A slice of operations that lies in memory made since w0, from its block's head on, free to be written. -/
def FreshOps (w0 w : World) (A : Option Addr) (n : Nat) (xs : List OpV) : Prop :=
  ROps w A n xs ∧ ∀ ad, A = some ad → ∃ b cur, ad = ⟨b, 0, none⟩ ∧ w0.heap.size ≤ b ∧ w.heap[b]? = some (.cells cur 46 (0, 0)) ∧ n * 3 ≤ cur.size
def FreshInts (w0 w : World) (A : Option Addr) (n : Nat) (xs : List Int) : Prop :=
  RInts w A n xs ∧ ∀ ad, A = some ad → ∃ b cur, ad = ⟨b, 0, none⟩ ∧ w0.heap.size ≤ b ∧ w.heap[b]? = some (.cells cur 3 (0, 0)) ∧ n ≤ cur.size
/-- The call hands back these operations in new memory and changes nothing. -/
def RetOps (w0 : World) (xs : List OpV) (e : Ending) (w : World) : Prop :=
  ∃ A c, e = .returned (.slice A xs.length c) ∧ xs.length ≤ c ∧ FreshOps w0 w A xs.length xs ∧ Below w0.heap.size w0 w
def RetInts (w0 : World) (xs : List Int) (e : Ending) (w : World) : Prop :=
  ∃ A c, e = .returned (.slice A xs.length c) ∧ xs.length ≤ c ∧ FreshInts w0 w A xs.length xs ∧ Below w0.heap.size w0 w

theorem FreshOps.none_ {w0 w : World} : FreshOps w0 w none 0 [] := ⟨ROps.nil, fun ad h => by cases h⟩
theorem FreshInts.none_ {w0 w : World} : FreshInts w0 w none 0 [] := ⟨RInts.nil, fun ad h => by cases h⟩
theorem RetOps.nil {w0 w : World} (h : Below w0.heap.size w0 w) : RetOps w0 [] (.returned (.slice none 0 0)) w := ⟨none, 0, rfl, Nat.le_refl _, FreshOps.none_, h⟩
theorem RetInts.nil {w0 w : World} (h : Below w0.heap.size w0 w) : RetInts w0 [] (.returned (.slice none 0 0)) w := ⟨none, 0, rfl, Nat.le_refl _, FreshInts.none_, h⟩

theorem FreshOps.of_own {w0 w : World} {base n c : Nat} {A : Option Addr} {xs : List OpV} (h : w.ownsRow base 46 3 (.slice A n c) n (opCells xs)) (hb : w0.heap.size ≤ base) (hn : n ≤ 1099511627776) : FreshOps w0 w A n xs := by
  refine ⟨ROps.of_own h hn, fun ad had => ?_⟩
  subst had
  rcases h.2 with ⟨h1, h2⟩ | ⟨g, cap, cur, h1, h2, h3, h4, h5, h6, h7⟩
  · cases h1
  · injection h1 with ha _ hc
    injection ha with ha
    subst ha
    exact ⟨g, cur, rfl, by omega, h3, by rw [h6]; omega⟩
theorem FreshInts.of_own {w0 w : World} {base n c : Nat} {A : Option Addr} {xs : List Int} (h : w.ownsRow base 3 1 (.slice A n c) n (intCells xs)) (hb : w0.heap.size ≤ base) (hn : n ≤ 1099511627776) : FreshInts w0 w A n xs := by
  refine ⟨RInts.of_own h hn, fun ad had => ?_⟩
  subst had
  rcases h.2 with ⟨h1, h2⟩ | ⟨g, cap, cur, h1, h2, h3, h4, h5, h6, h7⟩
  · cases h1
  · injection h1 with ha _ hc
    injection ha with ha
    subst ha
    exact ⟨g, cur, rfl, by omega, h3, by rw [h6]; omega⟩
theorem RetOps.mk {w0 w : World} {xs : List OpV} {A : Option Addr} {n c : Nat} (hn : xs.length = n) (hc : n ≤ c) (h : FreshOps w0 w A n xs) (hb : Below w0.heap.size w0 w) : RetOps w0 xs (.returned (.slice A n c)) w := by
  subst hn; exact ⟨A, c, rfl, hc, h, hb⟩
theorem RetInts.mk {w0 w : World} {xs : List Int} {A : Option Addr} {n c : Nat} (hn : xs.length = n) (hc : n ≤ c) (h : FreshInts w0 w A n xs) (hb : Below w0.heap.size w0 w) : RetInts w0 xs (.returned (.slice A n c)) w := by
  subst hn; exact ⟨A, c, rfl, hc, h, hb⟩
theorem own_below {w w' : World} {base : Nat} {e : TypeId} {size n : Nat} {v : Value} {xs : List Value} (h : w.ownsRow base e size v n xs) (hb : Below w.heap.size w w') : w'.ownsRow base e size v n xs :=
  World.ownsRow.kept h (row := none) ⟨hb.os, hb.tape, hb.output, hb.size, fun k hk _ => hb.block k hk⟩ (by cases v.ownBlock <;> simp)
theorem Below.own {w0 w w' : World} {base : Nat} {e : TypeId} {size n : Nat} {v : Value} {xs : List Value} (h : Below w0.heap.size w0 w) (hown : w.ownsRow base e size v n xs) (hb : w0.heap.size ≤ base) (hg : w.grownBy w' v.ownBlock) : Below w0.heap.size w0 w' :=
  h.grown hg h.size fun k hk => Nat.le_trans hb (World.ownsRow.lt hown k hk).1
theorem own_lenOps {w : World} {base n : Nat} {e : TypeId} {v : Value} {xs : List OpV} (h : w.ownsRow base e 3 v n (opCells xs)) : xs.length = n := by
  have := h.1; rw [length_opCells] at this; omega
theorem own_lenInts {w : World} {base n : Nat} {e : TypeId} {v : Value} {xs : List Int} (h : w.ownsRow base e 1 v n (intCells xs)) : xs.length = n := by
  have := h.1; simp only [intCells, List.length_map] at this; omega
theorem own_form2 {w : World} {base : Nat} {e : TypeId} {size n : Nat} {v : Value} {xs : List Value} (h : w.ownsRow base e size v n xs) : ∃ A c, v = .slice A n c ∧ n ≤ c := by
  rcases h.2 with ⟨h1, h2⟩ | ⟨g, cap, cur, h1, _, _, h4, _⟩
  · exact ⟨none, 0, by rw [h1, h2], by omega⟩
  · exact ⟨_, _, h1, h4⟩
theorem take_snoc {α : Type} {s : List α} {k : Nat} {o : α} (h : s[k]? = some o) : s.take (k + 1) = s.take k ++ [o] := by
  rw [List.take_add_one, h]; rfl

set_option maxRecDepth 100000 in
set_option maxHeartbeats 1000000 in
theorem kept_any (A : Option Addr) (n c : Nat) (s : List OpV) (F : FuncId) (caps : Array Value) (p : OpV → Bool) (w : World) (hx : ROps w A n s) (hf : ClosOp w F caps s p) :
    Calls Try.prog 130 #[.slice A n c, .func (.func F) #[] caps] w (RetOps w (s.filter p)) := by
  have hn := hx.2.1
  have hl := hx.1
  have HX := Lib.hid hx
  have HF := Lib.hid hf
  clear hx hf
  obtain ⟨i0, hi, hz0, hz1, hz2⟩ := info_parts opInfo
  go_enter Try.func130, Try.ntmps130
  go_wp2_with (at_make; refine wpList_make_own _ rfl _ _ 23 rfl w.heap.size 46 i0 _ 3 Try.underlying23 hi hz0 hz1 .i64 .i64 _ n rfl rfl rfl (by rw [hz2]; omega) (by unfold maxLen; omega) (Nat.le_refl _) ?_; intro w1 hown1 hg1)
  have hb1 : Below w.heap.size w w1 := ⟨hg1.os, hg1.tape, hg1.output, hg1.size, fun k hk => hg1.block k hk (by simp)⟩
  have HST := Lib.hid (And.intro hown1 hb1)
  clear hown1 hb1 hg1 hi hz0 hz1 hz2
  go_loopw [5, 13] (fun ov i wr => ∃ (k m : Nat), k ≤ n ∧ m ≤ k ∧ i = .int .i64 k ∧ Below w.heap.size w wr ∧ wr.ownsRow w.heap.size 46 3 ov m (opCells ((s.take k).filter p))) (fun _ i _ => n - (intOf i).toNat)
  case atStart => exact ⟨0, 0, Nat.zero_le _, Nat.le_refl _, rfl, HST.out.2, by simpa [opCells] using HST.out.1⟩
  case round =>
    clear HST
    obtain ⟨k, m, hk, hmk, rfl, hb, hown⟩ := hrel
    by_cases hlt : k < n
    · obtain ⟨b, off, o, rfl, hbl, ho, c0, c1, c2⟩ := (HX.out.below hb (Nat.le_refl _)).at_ hlt
      have hs := hb.size
      have hcl := HF.out.2 (wr.alloc (.cells #[.int .i64 o.tx, .int .i64 o.kind, .int .i64 o.item] 46)) o (hb.trans ((by (repeat (first | exact Below.refl _ _ | assumption | refine B_alloc ?_ (Nat.le_refl _) _ | refine Below.drew ?_ | refine B_drewN ?_ _ | refine B_after (by assumption) ?_ | (refine B_set ?_ ?_; rotate_left; (first | exact Nat.le_refl _ | (simp; done) | (simp at *; omega))))) : Below wr.heap.size wr _).mono hb.size)) (List.mem_of_getElem? ho)
      have hrun := HF.out.1
      unfold Runs at hrun
      have HT : Hid ((s.take (k + 1)).filter p = (s.take k).filter p ++ if p o = true then [o] else []) := by
        show _ = _
        rw [take_snoc ho, List.filter_append]; simp [List.filter_cons]
      unfold OpV.val at hcl
      have HC := Lib.hid hcl
      clear ho hcl
      obtain ⟨tx, kd, it⟩ := o
      go_wp2_with fail
      refine (HC.out).mono ?_
      rintro e w2 ⟨rfl, hb2⟩
      obtain ⟨bc2, bf2⟩ := bcell hb2
      have hsz : wr.heap.size < w2.heap.size := by (have := hb2.size; (try simp at this); omega)
      have hbw : Below w.heap.size w w2 := hb.trans (((by (repeat (first | exact Below.refl _ _ | assumption | refine B_alloc ?_ (Nat.le_refl _) _ | refine Below.drew ?_ | refine B_drewN ?_ _ | refine B_after (by assumption) ?_ | (refine B_set ?_ ?_; rotate_left; (first | exact Nat.le_refl _ | (simp; done) | (simp at *; omega))))) : Below wr.heap.size wr w2)).mono hb.size)
      have hown2 := own_below (hown.alloc _) hb2
      cases hp : p ⟨tx, kd, it⟩
      · rw [hp] at HT
        go_wp2_with fail
        go_roundw
        case rel => exact ⟨k + 1, m, by omega, by omega, by go_num, hbw, by rw [HT.out]; simpa using hown2⟩
        case measure => simp [intOf]; omega
      · rw [hp] at HT
        go_wp2_with (at_builtin; refine app_ops (.tmp 20) (.tmp 22) (hown2.alloc _) (by simp; omega) (ROps.lit1 _ ⟨_, _, _⟩ _) (by omega) rfl rfl rfl rfl ?_; intro v3 w3 hown3 hg3 hat3)
        have hb3 := Below.own hbw hown2 (Nat.le_refl _) (World.grownBy.trans (World.grownBy_alloc w2 _ _) hg3)
        go_wp2_with fail
        go_roundw
        case rel => exact ⟨k + 1, m + 1, by omega, by omega, by go_num, hb3, by rw [HT.out]; simpa using hown3⟩
        case measure => simp [intOf]; omega
    · obtain ⟨Ao, co, rfl, hmc⟩ := own_form2 hown
      have e : s.take k = s := List.take_of_length_le (by omega)
      rw [e] at hown
      have HO := Lib.hid (RetOps.mk (c := m) (own_lenOps hown) (Nat.le_refl _) (FreshOps.of_own hown (Nat.le_refl _) (by omega)) hb)
      clear hown e
      go_wp2_with fail
      go_ret
      exact HO.out
end Go.Proofs.Ytofcpfabjfhjoaa
namespace Go.Proofs.Ytofcpfabjfhjoaa
open Go.RowKit Go.BigFrame
set_option linter.unusedVariables false

def opsOf (s : List OpV) (t : Int) : List OpV := s.filter fun o => o.tx == t
def committed (s : List OpV) : List OpV := s.filter fun o => endOf s o.tx == 2
def hasTx (s : List OpV) (t : Int) : Bool := s.any fun o => o.tx == t
def txsOf (s : List OpV) : List Int := [0, 1, 2, 3].filter fun t => hasTx s t


set_option maxHeartbeats 400000 in
theorem opsOf1_any (o : OpV) (t : Int) (b : Nat) (w : World) (hc : w.cell? ⟨b, 0, none⟩ = some (.int .i64 t)) :
    Calls Try.prog 145 #[o.val, .pointer (some ⟨b, 0, none⟩)] w fun e w' => e = .returned (.bool (o.tx == t)) ∧ Below w.heap.size w w' := by
  obtain ⟨x, k, i⟩ := o
  unfold OpV.val
  have hbl : b < w.heap.size := block_lt_of_cell hc
  go_enter Try.func145, Try.ntmps145
  go_wp2_with fail
  go_ret
  exact ⟨rfl, (Below.refl _ _).alloc (Nat.le_refl _) _⟩


set_option maxHeartbeats 400000 in
theorem txsOf1_any (o : OpV) (t : Int) (b : Nat) (w : World) (hc : w.cell? ⟨b, 0, none⟩ = some (.int .i64 t)) :
    Calls Try.prog 129 #[o.val, .pointer (some ⟨b, 0, none⟩)] w fun e w' => e = .returned (.bool (o.tx == t)) ∧ Below w.heap.size w w' := by
  obtain ⟨x, k, i⟩ := o
  unfold OpV.val
  have hbl : b < w.heap.size := block_lt_of_cell hc
  go_enter Try.func129, Try.ntmps129
  go_wp2_with fail
  go_ret
  exact ⟨rfl, (Below.refl _ _).alloc (Nat.le_refl _) _⟩


theorem runs_opsOf1 : Runs 145 := runs_of Try.func145 (by kernel_rfl) rfl
theorem runs_txsOf1 : Runs 129 := runs_of Try.func129 (by kernel_rfl) rfl
theorem runs_committedOf1 : Runs 131 := runs_of Try.func131 (by kernel_rfl) rfl

set_option maxHeartbeats 400000 in
theorem opsOf_any (A : Option Addr) (n c : Nat) (s : List OpV) (t : Int) (w : World) (hx : ROps w A n s) :
    Calls Try.prog 103 #[.slice A n c, .int .i64 t] w (RetOps w (opsOf s t)) := by
  have hcl : ∀ W : World, W = w.alloc (.cells #[.int .i64 t] 3) → ROps W A n s ∧ ClosOp W 145 #[.pointer (some ⟨w.heap.size, 0, none⟩)] s (fun o => o.tx == t) ∧ Below w.heap.size w W := by
    intro W hW
    have hc : W.cell? ⟨w.heap.size, 0, none⟩ = some (.int .i64 t) := by rw [hW]; exact box_at _ _ _ _ _ rfl
    have hb : Below w.heap.size w W := by rw [hW]; exact (Below.refl _ _).alloc (Nat.le_refl _) _
    exact ⟨hx.below hb (Nat.le_refl _), ⟨runs_opsOf1, fun W' o hb' ho => opsOf1_any o t _ W' ((Later.cell hc ⟨W', hb'⟩))⟩, hb⟩
  have HC := Lib.hid hcl
  clear hcl hx
  go_enter Try.func103, Try.ntmps103
  go_wp2_with fail
  obtain ⟨W, hW⟩ : ∃ W : World, W = w.alloc (.cells #[.int .i64 t] 3) := ⟨_, rfl⟩
  rw [← hW]
  obtain ⟨hr, hf, hb⟩ := HC.out W hW
  refine (kept_any A n c s _ _ _ W hr hf).mono ?_
  rintro e w' ⟨A', c', rfl, hc', ⟨h1, h2⟩, hb'⟩
  clear hW
  go_wp2_with fail
  go_ret
  have hs := hb.size
  exact ⟨A', c', rfl, hc', ⟨h1, fun ad had => by obtain ⟨b, cur, h3, h4, h5⟩ := h2 ad had; exact ⟨b, cur, h3, by omega, h5⟩⟩, hb.trans (hb'.mono hs)⟩

set_option maxHeartbeats 400000 in
theorem committedOf1_any (o : OpV) (A : Option Addr) (n c b : Nat) (s : List OpV) (w : World) (hc : w.cell? ⟨b, 0, none⟩ = some (.slice A n c)) (hx : ROps w A n s) :
    Calls Try.prog 131 #[o.val, .pointer (some ⟨b, 0, none⟩)] w fun e w' => e = .returned (.bool (endOf s o.tx == 2)) ∧ Below w.heap.size w w' := by
  obtain ⟨t, k, x⟩ := o
  unfold OpV.val
  have hbl : b < w.heap.size := block_lt_of_cell hc
  have HX := Lib.hid hx
  clear hx
  go_enter Try.func131, Try.ntmps131
  go_wp2_with fail
  refine (endOf_any A n c s t _ (HX.out.below ((Below.refl _ _).alloc (Nat.le_refl _) _) (Nat.le_refl _))).mono ?_
  rintro e w' ⟨rfl, hb⟩
  go_wp2_with fail
  go_ret
  exact ⟨rfl, by (repeat (first | exact Below.refl _ _ | assumption | refine B_alloc ?_ (Nat.le_refl _) _ | refine Below.drew ?_ | refine B_drewN ?_ _ | refine B_after (by assumption) ?_ | (refine B_set ?_ ?_; rotate_left; (first | exact Nat.le_refl _ | (simp; done) | (simp at *; omega)))))⟩

set_option maxHeartbeats 400000 in
theorem committedOf_any (A : Option Addr) (n c : Nat) (s : List OpV) (w : World) (hx : ROps w A n s) :
    Calls Try.prog 77 #[.slice A n c] w (RetOps w (committed s)) := by
  have hcl : ∀ W : World, W = w.alloc (.cells #[.slice A n c] 23) → ROps W A n s ∧ ClosOp W 131 #[.pointer (some ⟨w.heap.size, 0, none⟩)] s (fun o => endOf s o.tx == 2) ∧ Below w.heap.size w W := by
    intro W hW
    have hc : W.cell? ⟨w.heap.size, 0, none⟩ = some (.slice A n c) := by rw [hW]; exact box_at _ _ _ _ _ rfl
    have hb : Below w.heap.size w W := by rw [hW]; exact (Below.refl _ _).alloc (Nat.le_refl _) _
    have hx' := hx.below hb (Nat.le_refl _)
    exact ⟨hx', ⟨runs_committedOf1, fun W' o hb' ho => committedOf1_any o A n c _ s W' ((Later.cell hc ⟨W', hb'⟩)) (hx'.below hb' (Nat.le_refl _))⟩, hb⟩
  have HC := Lib.hid hcl
  clear hcl hx
  go_enter Try.func77, Try.ntmps77
  go_wp2_with fail
  obtain ⟨W, hW⟩ : ∃ W : World, W = w.alloc (.cells #[.slice A n c] 23) := ⟨_, rfl⟩
  rw [← hW]
  obtain ⟨hr, hf, hb⟩ := HC.out W hW
  refine (kept_any A n c s _ _ _ W hr hf).mono ?_
  rintro e w' ⟨A', c', rfl, hc', ⟨h1, h2⟩, hb'⟩
  clear hW
  go_wp2_with fail
  go_ret
  have hs := hb.size
  exact ⟨A', c', rfl, hc', ⟨h1, fun ad had => by obtain ⟨b, cur, h3, h4, h5⟩ := h2 ad had; exact ⟨b, cur, h3, by omega, h5⟩⟩, hb.trans (hb'.mono hs)⟩
end Go.Proofs.Ytofcpfabjfhjoaa
namespace Go.Proofs.Ytofcpfabjfhjoaa
open Go.RowKit Go.BigFrame
set_option linter.unusedVariables false

def txsTo (s : List OpV) (k : Nat) : List Int := ((List.range k).map fun i : Nat => (i : Int)).filter fun t => hasTx s t
theorem txsTo_succ (s : List OpV) (k : Nat) : txsTo s (k + 1) = txsTo s k ++ if hasTx s (k : Int) = true then [(k : Int)] else [] := by
  unfold txsTo
  rw [List.range_succ, List.map_append, List.filter_append]
  simp [List.filter_cons]
theorem txsTo_four (s : List OpV) : txsTo s 4 = txsOf s := rfl

set_option maxHeartbeats 1000000 in
theorem txsOf_any (A : Option Addr) (n c : Nat) (s : List OpV) (w : World) (hx : ROps w A n s) :
    Calls Try.prog 76 #[.slice A n c] w (RetInts w (txsOf s)) := by
  have HX := Lib.hid hx
  clear hx
  obtain ⟨i0, hi, hz0, hz1, hz2⟩ := info_parts intInfo
  go_enter Try.func76, Try.ntmps76
  go_wp2_with (at_make; refine wpList_make_own _ rfl _ _ 25 rfl w.heap.size 3 i0 _ 1 Try.underlying25 hi hz0 hz1 .i64 .i64 _ 4 rfl rfl rfl (by rw [hz2]; omega) (by unfold maxLen; omega) (Nat.le_refl _) ?_; intro w1 hown1 hg1)
  have hb1 : Below w.heap.size w w1 := ⟨hg1.os, hg1.tape, hg1.output, hg1.size, fun k hk => hg1.block k hk (by simp)⟩
  have HST := Lib.hid (And.intro hown1 hb1)
  clear hown1 hb1 hg1 hi hz0 hz1 hz2
  go_loopw [3, 6] (fun ov i wr => ∃ (k m : Nat), k ≤ 4 ∧ m ≤ k ∧ i = .int .i64 k ∧ Below w.heap.size w wr ∧ wr.ownsRow w.heap.size 3 1 ov m (intCells (txsTo s k))) (fun _ i _ => 4 - (intOf i).toNat)
  case atStart => exact ⟨0, 0, by omega, Nat.le_refl _, rfl, HST.out.2, HST.out.1⟩
  case round =>
    clear HST
    obtain ⟨k, m, hk, hmk, rfl, hb, hown⟩ := hrel
    by_cases hlt : k < 4
    · have hs := hb.size
      have hcl : ∀ W : World, W = wr.alloc (.cells #[.int .i64 (k : Int)] 3) → ROps W A n s ∧ ClosOp W 129 #[.pointer (some ⟨wr.heap.size, 0, none⟩)] s (fun o => o.tx == (k : Int)) ∧ Below wr.heap.size wr W ∧ W.cell? ⟨wr.heap.size, 0, none⟩ = some (.int .i64 (k : Int)) ∧ W.heap.size = wr.heap.size + 1 := by
        intro W hW
        have hc : W.cell? ⟨wr.heap.size, 0, none⟩ = some (.int .i64 (k : Int)) := by rw [hW]; exact box_at _ _ _ _ _ rfl
        have hbW : Below wr.heap.size wr W := by rw [hW]; exact (Below.refl _ _).alloc (Nat.le_refl _) _
        exact ⟨(HX.out.below hb (Nat.le_refl _)).below hbW (Nat.le_refl _), ⟨runs_txsOf1, fun W' o hb' ho => txsOf1_any o k _ W' ((Later.cell hc ⟨W', hb'⟩))⟩, hbW, hc, by rw [hW]; simp⟩
      have HC := Lib.hid hcl
      have HT := Lib.hid (txsTo_succ s k)
      clear hcl
      go_wp2_with fail
      obtain ⟨W, hW⟩ : ∃ W : World, W = wr.alloc (.cells #[.int .i64 (k : Int)] 3) := ⟨_, rfl⟩
      rw [← hW]
      obtain ⟨hr, hf, hbW, hcW, hWs⟩ := HC.out W hW
      have hownW : W.ownsRow w.heap.size 3 1 u3 m (intCells (txsTo s k)) := by rw [hW]; exact hown.alloc _
      refine (ContainsFuncOp_any A n c s _ _ _ W hr hf).mono ?_
      rintro e w2 ⟨rfl, hb2⟩
      have hown2 := own_below hownW hb2
      have hbw := hb.trans ((hbW.trans (hb2.mono (by omega))).mono hs)
      have hs2 := hb2.size
      have hc2 : w2.cell? ⟨wr.heap.size, 0, none⟩ = some (.int .i64 (k : Int)) := Later.cell hcW ⟨w2, hb2⟩
      clear hW hcW hr hf
      have hp : (s.any fun o => o.tx == (k : Int)) = hasTx s k := rfl
      rw [hp]
      clear hp
      cases hq : hasTx s (k : Int)
      · rw [hq] at HT
        go_wp2_with fail
        go_roundw
        case rel => exact ⟨k + 1, m, by omega, by omega, by go_num, hbw, by rw [HT.out]; simpa using hown2⟩
        case measure => simp [intOf]; omega
      · rw [hq] at HT
        go_wp2_with (at_builtin; refine app_ints (.tmp 12) (.tmp 14) (hown2.alloc _) (by simp; omega) (lit1 rfl _) (by omega) rfl rfl rfl rfl ?_; intro v3 w3 hown3 hg3 hat3)
        have hb3 := Below.own hbw hown2 (Nat.le_refl _) (World.grownBy.trans (World.grownBy_alloc w2 _ _) hg3)
        go_wp2_with fail
        go_roundw
        case rel => exact ⟨k + 1, m + 1, by omega, by omega, by go_num, hb3, by rw [HT.out]; simpa using hown3⟩
        case measure => simp [intOf]; omega
    · obtain ⟨Ao, co, rfl, hmc⟩ := own_form2 hown
      obtain rfl : k = 4 := by omega
      rw [txsTo_four] at hown
      have HO := Lib.hid (RetInts.mk (c := m) (own_lenInts hown) (Nat.le_refl _) (FreshInts.of_own hown (Nat.le_refl _) (by omega)) hb)
      clear hown
      go_wp2_with fail
      go_ret
      exact HO.out

def orNil {α : Type} (b : Bool) (xs : List α) : List α := if b then xs else []
def endOfV (s : List OpV) (t : Int) : Int := if validS s then endOf s t else -1
theorem RetInts.later {w W w' : World} {xs : List Int} {e : Ending} (hb : Below w.heap.size w W) (h : RetInts W xs e w') : RetInts w xs e w' := by
  obtain ⟨A', c', rfl, hc', ⟨h1, h2⟩, hb'⟩ := h
  have hs := hb.size
  exact ⟨A', c', rfl, hc', ⟨h1, fun ad had => by obtain ⟨b, cur, h3, h4, h5⟩ := h2 ad had; exact ⟨b, cur, h3, by omega, h5⟩⟩, hb.trans (hb'.mono hs)⟩
theorem RetOps.later {w W w' : World} {xs : List OpV} {e : Ending} (hb : Below w.heap.size w W) (h : RetOps W xs e w') : RetOps w xs e w' := by
  obtain ⟨A', c', rfl, hc', ⟨h1, h2⟩, hb'⟩ := h
  have hs := hb.size
  exact ⟨A', c', rfl, hc', ⟨h1, fun ad had => by obtain ⟨b, cur, h3, h4, h5⟩ := h2 ad had; exact ⟨b, cur, h3, by omega, h5⟩⟩, hb.trans (hb'.mono hs)⟩


set_option maxHeartbeats 400000 in
theorem TxsOf_any (A : Option Addr) (n c : Nat) (s : List OpV) (w : World) (hx : ROps w A n s) (hnc : n ≤ c) :
    Calls Try.prog 23 #[.slice A n c] w (RetInts w (orNil (validS s) (txsOf s))) := by
  have HX := Lib.hid hx
  clear hx
  go_enter Try.func23, Try.ntmps23
  go_wp2_with fail
  refine (ValidSchedule_any A n c s w HX.out hnc).mono ?_
  rintro e w1 ⟨rfl, hb⟩
  cases hv : validS s
  · have HV := Lib.hid hv
    clear hv
    go_wp2_with fail
    go_ret
    rw [HV.out]
    exact RetInts.nil hb
  · have HV := Lib.hid hv
    clear hv
    go_wp2_with fail
    refine (txsOf_any A n c s w1 (HX.out.below hb (Nat.le_refl _))).mono ?_
    rintro e w2 hr
    obtain ⟨A', c', rfl, hr'⟩ := hr
    have HR : Hid (RetInts w1 (txsOf s) (.returned (.slice A' ((txsOf s)).length c')) w2) := ⟨A', c', rfl, hr'⟩
    clear hr'
    go_wp2_with fail
    go_ret
    rw [HV.out]
    exact RetInts.later hb HR.out


set_option maxHeartbeats 400000 in
theorem CommittedOf_any (A : Option Addr) (n c : Nat) (s : List OpV) (w : World) (hx : ROps w A n s) (hnc : n ≤ c) :
    Calls Try.prog 24 #[.slice A n c] w (RetOps w (orNil (validS s) (committed s))) := by
  have HX := Lib.hid hx
  clear hx
  go_enter Try.func24, Try.ntmps24
  go_wp2_with fail
  refine (ValidSchedule_any A n c s w HX.out hnc).mono ?_
  rintro e w1 ⟨rfl, hb⟩
  cases hv : validS s
  · have HV := Lib.hid hv
    clear hv
    go_wp2_with fail
    go_ret
    rw [HV.out]
    exact RetOps.nil hb
  · have HV := Lib.hid hv
    clear hv
    go_wp2_with fail
    refine (committedOf_any A n c s w1 (HX.out.below hb (Nat.le_refl _))).mono ?_
    rintro e w2 hr
    obtain ⟨A', c', rfl, hr'⟩ := hr
    have HR : Hid (RetOps w1 (committed s) (.returned (.slice A' ((committed s)).length c')) w2) := ⟨A', c', rfl, hr'⟩
    clear hr'
    go_wp2_with fail
    go_ret
    rw [HV.out]
    exact RetOps.later hb HR.out


set_option maxHeartbeats 400000 in
theorem EndOf_any (A : Option Addr) (n c : Nat) (s : List OpV) (t : Int) (w : World) (hx : ROps w A n s) (hnc : n ≤ c) :
    Calls Try.prog 20 #[.slice A n c, .int .i64 t] w fun e w' => e = .returned (.int .i64 (endOfV s t)) ∧ Below w.heap.size w w' := by
  have HX := Lib.hid hx
  clear hx
  go_enter Try.func20, Try.ntmps20
  go_wp2_with fail
  refine (ValidSchedule_any A n c s w HX.out hnc).mono ?_
  rintro e w1 ⟨rfl, hb⟩
  cases hv : validS s
  · have HV := Lib.hid hv
    clear hv
    go_wp2_with fail
    go_ret
    exact ⟨ret_int (by unfold endOfV; rw [HV.out]; rfl), hb⟩
  · have HV := Lib.hid hv
    clear hv
    go_wp2_with fail
    refine (endOf_any A n c s t w1 (HX.out.below hb (Nat.le_refl _))).mono ?_
    rintro e w2 ⟨rfl, hb2⟩
    go_wp2_with fail
    go_ret
    exact ⟨ret_int (by unfold endOfV; rw [HV.out]; rfl), hb.trans (hb2.mono hb.size)⟩
end Go.Proofs.Ytofcpfabjfhjoaa
namespace Go.Proofs.Ytofcpfabjfhjoaa
open Go.RowKit Go.BigFrame
set_option linter.unusedVariables false

/-- At index i the program finds that a transaction comes again. -/
def serBad (s : List OpV) (i : Nat) : Bool := match s[i]?, s[i - 1]? with | some o, some q => (o.tx != q.tx) && hasTx (s.take i) o.tx | _, _ => false
def isSer (s : List OpV) : Bool := (List.range s.length).all fun i => i == 0 || !serBad s i
def isSerV (s : List OpV) : Bool := isSer s && validS s

set_option maxHeartbeats 400000 in
theorem IsSerial1_any (o q : OpV) (A : Option Addr) (n c b b2 k : Nat) (s : List OpV) (w : World) (hc : w.cell? ⟨b, 0, none⟩ = some (.slice A n c)) (hc2 : w.cell? ⟨b2, 0, none⟩ = some (.int .i64 (k : Int))) (hx : ROps w A n s) (hk : k < n) (hq : s[k]? = some q) :
    Calls Try.prog 75 #[o.val, .pointer (some ⟨b, 0, none⟩), .pointer (some ⟨b2, 0, none⟩)] w fun e w' => e = .returned (.bool (o.tx == q.tx)) ∧ Below w.heap.size w w' := by
  obtain ⟨t, kd, x⟩ := o
  unfold OpV.val
  have hn := hx.2.1
  obtain ⟨b3, off, q', rfl, hbl, ho, c0, c1, c2⟩ := hx.at_ hk
  rw [hq] at ho
  injection ho with ho
  subst ho
  clear hq hx
  go_enter Try.func75, Try.ntmps75
  go_wp2_with fail
  obtain ⟨W, hW⟩ : ∃ W : World, W = w.alloc (.cells #[.int .i64 t, .int .i64 kd, .int .i64 x] 46) := ⟨_, rfl⟩
  rw [← hW]
  obtain ⟨L0, L1, L2, hbW, hWs⟩ := op_box hW
  have M0 := Later.cell (W := W) ((hbW.cell (p := ⟨b, 0, none⟩) (block_lt_of_cell hc)).trans hc)
  have M1 := Later.cell (W := W) ((hbW.cell (p := ⟨b2, 0, none⟩) (block_lt_of_cell hc2)).trans hc2)
  have M2 := Later.cell (W := W) ((hbW.cell (p := ⟨b3, off + k * 3, none⟩) (by simpa using hbl)).trans c0)
  clear hW hc hc2 c0 c1 c2
  refine region_later (by kernel_rfl) (by kernel_rfl) ?_
  repeat (go_big_quiet_step (fail))
  refine wpQuiet_nil ?_
  rintro _ ⟨u, rfl⟩
  go_wp2_with fail
  go_ret
  exact ⟨rfl, hbW.trans (u.2.mono (by omega))⟩

theorem runs_IsSerial1 : Runs 75 := runs_of Try.func75 (by kernel_rfl) rfl
theorem isSer_bad {s : List OpV} {k : Nat} (hk : k + 1 < s.length) (h : serBad s (k + 1) = true) : isSer s = false := by
  unfold isSer
  rw [List.all_eq_false]
  exact ⟨k + 1, List.mem_range.2 hk, by simp [h]⟩
theorem isSer_end {s : List OpV} {k : Nat} (hk : s.length ≤ k + 1) (h : ∀ j, j < k → serBad s (j + 1) = false) : isSer s = true := by
  unfold isSer
  rw [List.all_eq_true]
  intro j hj
  have hj := List.mem_range.1 hj
  cases j with
  | zero => rfl
  | succ j => simp [h j (by omega)]

/-- What the loop of IsSerial carries. -/
def SerInv (w : World) (A : Option Addr) (n c : Nat) (s : List OpV) (k bi : Nat) (wr : World) : Prop :=
  Below w.heap.size w wr ∧ wr.cell? ⟨w.heap.size, 0, none⟩ = some (.slice A n c) ∧ wr.cell? ⟨bi, 0, none⟩ = some (.int .i64 ((k : Int) + 1)) ∧ wr.frozen? ⟨bi, 0, none⟩ = false ∧ w.heap.size < bi ∧ (∀ j, j < k → serBad s (j + 1) = false)

theorem SerInv.next {w wr W : World} {A : Option Addr} {n c k bi : Nat} {s : List OpV} (h : SerInv w A n c s k bi wr) (hb : Below wr.heap.size wr W) (hg : serBad s (k + 1) = false) :
    SerInv w A n c s (k + 1) W.heap.size ((W.alloc (.cells #[.int .i64 ((k : Int) + 1)] 3)).setCell ⟨W.heap.size, 0, none⟩ (.int .i64 ((k : Int) + 1 + 1))) ∧
    SerInv w A n c s (k + 1) W.heap.size (W.alloc (.cells #[.int .i64 ((k : Int) + 1 + 1)] 3)) := by
  obtain ⟨h1, h2, h3, h4, h5, h6⟩ := h
  have e : (((k + 1 : Nat) : Int) + 1) = (k : Int) + 1 + 1 := by omega
  have hlt := block_lt_of_cell h2
  have hlt3 := block_lt_of_cell h3
  have hs := hb.size
  have hbw : Below w.heap.size w W := h1.trans (hb.mono h1.size)
  simp only at hlt hlt3
  have h7 : ∀ j, j < k + 1 → serBad s (j + 1) = false := fun j hj => by
    by_cases e : j = k
    · subst e; exact hg
    · exact h6 j (by omega)
  have hc0 : W.cell? ⟨w.heap.size, 0, none⟩ = some (.slice A n c) := (hb.cell (p := ⟨w.heap.size, 0, none⟩) (by simpa using hlt)).trans h2
  unfold SerInv
  rw [e]
  refine ⟨⟨B_set (B_alloc hbw (Nat.le_refl _) _) (by omega), ?_, ?_, ?_, by omega, h7⟩, ⟨B_alloc hbw (Nat.le_refl _) _, ?_, box_at _ _ _ _ _ rfl, ?_, by omega, h7⟩⟩
  · rw [World.cell?_setCell_other _ _ _ _ (by simp <;> omega), World.cell?_alloc_lt _ _ _ (by simp <;> omega)]; exact hc0
  · have : ((W.alloc (.cells #[.int .i64 ((k : Int) + 1)] 3)).setCell ⟨W.heap.size, 0, none⟩ (.int .i64 ((k : Int) + 1 + 1))).heap[W.heap.size]? = some (.cells #[.int .i64 ((k : Int) + 1 + 1)] 3 (0, 0)) := one_setCell (heap_alloc_new W _)
    exact cell_of_one this
  · have : ((W.alloc (.cells #[.int .i64 ((k : Int) + 1)] 3)).setCell ⟨W.heap.size, 0, none⟩ (.int .i64 ((k : Int) + 1 + 1))).heap[W.heap.size]? = some (.cells #[.int .i64 ((k : Int) + 1 + 1)] 3 (0, 0)) := one_setCell (heap_alloc_new W _)
    exact free_of_one this
  · rw [World.cell?_alloc_lt _ _ _ (by simp <;> omega)]; exact hc0
  · exact free_of_one (v := .int .i64 ((k : Int) + 1 + 1)) (t := 3) (heap_alloc_new W _)

set_option maxHeartbeats 1000000 in
theorem IsSerial_any (A : Option Addr) (n c : Nat) (s : List OpV) (w : World) (hx : ROps w A n s) (hnc : n ≤ c) :
    Calls Try.prog 22 #[.slice A n c] w fun e w' => e = .returned (.bool (isSerV s)) ∧ Below w.heap.size w w' := by
  have hn := hx.2.1
  have hl := hx.1
  have hST : ∀ W : World, W = (w.alloc (.cells #[.slice A n c] 23)).alloc (.cells #[.int .i64 1] 3) → SerInv w A n c s 0 (w.heap.size + 1) W := by
    intro W hW
    subst hW
    refine ⟨((Below.refl _ _).alloc (Nat.le_refl _) _).alloc (by simp) _, ?_, ?_, ?_, by omega, by omega⟩
    · rw [World.cell?_alloc_lt _ _ _ (by simp)]; exact box_at _ _ _ _ _ rfl
    · have := box_at (w.alloc (.cells #[.slice A n c] 23)) #[.int .i64 1] 3 0 (.int .i64 1) rfl
      rwa [World.size_alloc] at this
    · have := free_of_one (w := (w.alloc (.cells #[.slice A n c] 23)).alloc (.cells #[.int .i64 1] 3)) (b := w.heap.size + 1) (v := .int .i64 1) (t := 3) (by have := heap_alloc_new (w.alloc (.cells #[.slice A n c] 23)) (.cells #[.int .i64 1] 3); rwa [World.size_alloc] at this)
      exact this
  have HST := Lib.hid hST
  have HX := Lib.hid hx
  clear hx hST
  go_enter Try.func22, Try.ntmps22
  go_wp2_with fail
  go_loopg [3] n (fun g pv wr => ∃ k bi : Nat, g = n - k ∧ pv = .pointer (some ⟨bi, 0, none⟩) ∧ SerInv w A n c s k bi wr)
  case atStart => exact ⟨0, w.heap.size + 1, rfl, rfl, HST.out _ rfl⟩
  case round =>
    clear HST
    obtain ⟨k, bi, rfl, rfl, hinv⟩ := hrel
    have HI := Lib.hid hinv
    obtain ⟨hb, hc0, hc1, hf1, hbi, hno⟩ := hinv
    have hlt0 := block_lt_of_cell hc0
    have hlt1 := block_lt_of_cell hc1
    simp only at hlt0 hlt1
    have HN := Lib.hid hno
    clear hno
    by_cases hlt : k + 1 < n
    · obtain ⟨b, off, o, rfl, hbl, ho, c0, _, _⟩ := (HX.out.below hb (Nat.le_refl _)).at_ hlt
      obtain ⟨b', off', q, hA, _, hq, d0, _, _⟩ := (HX.out.below hb (Nat.le_refl _)).at_ (k := k) (by omega)
      injection hA with hA
      injection hA with e1 e2
      subst e1; subst e2
      have hsb : serBad s (k + 1) = ((o.tx != q.tx) && hasTx (s.take (k + 1)) o.tx) := by
        unfold serBad
        rw [ho, show k + 1 - 1 = k from rfl, hq]
      have HSB := Lib.hid hsb
      have hcl : ∀ u : Later wr, ROps u.1 (some ⟨b, off, none⟩) (k + 1) (s.take (k + 1)) ∧ ClosOp u.1 75 #[.pointer (some ⟨w.heap.size, 0, none⟩), .pointer (some ⟨bi, 0, none⟩)] (s.take (k + 1)) (fun x => x.tx == o.tx) := by
        intro u
        refine ⟨((HX.out.below hb (Nat.le_refl _)).take (by omega)).later u, runs_IsSerial1, fun W' x hb' hx' => ?_⟩
        have hbW : Below wr.heap.size wr W' := u.2.trans (hb'.mono u.2.size)
        have e1 : ((k : Int) + 1) = ((k + 1 : Nat) : Int) := by omega
        refine IsSerial1_any x o (some ⟨b, off, none⟩) n c _ _ (k + 1) s W' (Later.cell hc0 ⟨W', hbW⟩) ?_ ((HX.out.below hb (Nat.le_refl _)).later ⟨W', hbW⟩) hlt ho
        rw [← e1]
        exact Later.cell hc1 ⟨W', hbW⟩
      have HCL := Lib.hid hcl
      have L0 := Later.cell hc0
      have L1 := Later.cell hc1
      have L2 := Later.cell c0
      have L3 := Later.cell d0
      have M0 := Lib.hid hc0
      have M1 := Lib.hid hc1
      clear hsb hcl ho hq c0 d0
      obtain ⟨tx, kd, it⟩ := o
      obtain ⟨qx, qk, qi⟩ := q
      simp only at L2 L3
      have hkc : k + 1 ≤ c := by omega
      have hkc' : (k : Int) + 1 ≤ (c : Int) := by omega
      cases hq : hasTx (s.take (k + 1)) tx
      all_goals
        have hcf : ∀ u : Later wr, Calls Try.prog 74 #[.slice (some ⟨b, off, none⟩) (k + 1) c, .func (.func 75) #[] #[.pointer (some ⟨w.heap.size, 0, none⟩), .pointer (some ⟨bi, 0, none⟩)]] u.1
            fun e w' => e = .returned (.bool (hasTx (s.take (k + 1)) tx)) ∧ Below u.1.heap.size u.1 w' := fun u =>
          ContainsFuncOp_any _ (k + 1) c _ _ _ _ u.1 (HCL.out u).1 (HCL.out u).2
        rw [hq] at hcf
        have HCF := Lib.hid hcf
        have HQ := Lib.hid hq
        clear hcf hq
        by_cases htx : tx = qx
        · subst htx
          go_wp2_with fail
          refine region_later (by kernel_rfl) (by kernel_rfl) ?_
          repeat (go_big_quiet_step (fail))
          refine wpQuiet_nil ?_
          rintro _ ⟨u, rfl⟩
          have hgood := HI.out.next u.2 (by rw [HSB.out]; simp)
          have hu := Later.cell M1.out u
          have hfu : u.1.frozen? ⟨bi, 0, none⟩ = false := (u.2.frozen (p := ⟨bi, 0, none⟩) (by simpa using hlt1)).trans hf1
          go_wp2_with fail
          go_roundg (n - (k + 1))
          case measure => omega
          case rel => first | exact ⟨k + 1, _, rfl, rfl, hgood.1⟩ | exact ⟨k + 1, _, rfl, rfl, hgood.2⟩
        · have ht1 : (tx != qx) = true := by simpa using htx
          have ht2 : (tx == qx) = false := by simpa using htx
          go_wp2_with fail
          refine region_later (by kernel_rfl) (by kernel_rfl) ?_
          repeat (go_big_quiet_step ((go_at_call 74; exact later_call _ (HCF.out _))))
          refine wpQuiet_nil ?_
          rintro _ ⟨u, rfl⟩
          first
            | (have hgood := HI.out.next u.2 (by rw [HSB.out, HQ.out]; simp)
               go_wp2_with fail
               go_roundg (n - (k + 1))
               case measure => omega
               case rel => first | exact ⟨k + 1, _, rfl, rfl, hgood.1⟩ | exact ⟨k + 1, _, rfl, rfl, hgood.2⟩)
            | (have hbad := Lib.hid (isSer_bad (by omega : k + 1 < s.length) (by rw [HSB.out, HQ.out]; simp [ht1]))
               go_wp2_with fail
               go_ret
               exact ⟨ret_bool (by unfold isSerV; rw [hbad.out]; rfl), hb.trans (u.2.mono hb.size)⟩)
    · have hs := Lib.hid (isSer_end (s := s) (k := k) (by omega) HN.out)
      go_wp2_with fail
      refine (ValidSchedule_any A n c s wr (HX.out.below hb (Nat.le_refl _)) hnc).mono ?_
      rintro e w2 ⟨rfl, hb2⟩
      go_wp2_with fail
      go_ret
      exact ⟨ret_bool (by unfold isSerV; rw [hs.out]; simp), hb.trans (hb2.mono hb.size)⟩
end Go.Proofs.Ytofcpfabjfhjoaa
namespace Go.Proofs.Ytofcpfabjfhjoaa
open Go.RowKit
set_option linter.unusedVariables false

theorem op_struct : Try.prog.underlying 46 = some (.struct (Try.prog.fieldsOf 46)) := by kernel_rfl
theorem op_held : Try.prog.stoodInHeld 46 = false := by kernel_rfl
theorem op_guard : Try.prog.eqGuardType Try.prog.depth 46 = false := by kernel_rfl

theorem eql_op (w : World) (a b c a' b' c' : Int) :
    (binOp .eql 46 (.agg #[.int .i64 a, .int .i64 b, .int .i64 c]) (.agg #[.int .i64 a', .int .i64 b', .int .i64 c'])).run Try.prog w = .ok (.bool (a == a' && b == b' && c == c')) w := by
  rw [run_eql_struct, show (10000 : Nat) = 9999 + 1 from rfl, run_equalIn_agg w 9999 46 _ _ op_struct op_held]
  cases h1 : (a == a') <;> cases h2 : (b == b') <;> cases h3 : (c == c') <;> simp [go_sem, Try.underlying46, h1, h2, h3]
end Go.Proofs.Ytofcpfabjfhjoaa
namespace Go.Proofs.Ytofcpfabjfhjoaa
open Go.RowKit Go.BigFrame
set_option linter.unusedVariables false

def isAt (s : List OpV) (k : Nat) (t : Int) : Bool := match s[k]? with | some o => o.tx == t | none => false
def firstTo (s : List OpV) (t : Int) : Nat → Int
  | 0 => -1
  | k + 1 => if firstTo s t k < 0 ∧ isAt s k t = true then (k : Int) else firstTo s t k
def lastTo (s : List OpV) (t : Int) : Nat → Int
  | 0 => -1
  | k + 1 => if isAt s k t = true then (k : Int) else lastTo s t k
def firstI (s : List OpV) (t : Int) : Int := firstTo s t s.length
def lastI (s : List OpV) (t : Int) : Int := lastTo s t s.length
theorem firstTo_ge (s : List OpV) (t : Int) (k : Nat) : -1 ≤ firstTo s t k ∧ firstTo s t k ≤ k := by
  induction k with
  | zero => simp [firstTo]
  | succ k ih => simp only [firstTo]; split <;> omega

set_option maxHeartbeats 400000 in
theorem span_any (A : Option Addr) (n c : Nat) (s : List OpV) (t : Int) (w : World) (hx : ROps w A n s) :
    Calls Try.prog 102 #[.slice A n c, .int .i64 t] w fun e w' => e = .returned (.tuple #[.int .i64 (firstI s t), .int .i64 (lastI s t)]) ∧ Below w.heap.size w w' := by
  have hn := hx.2.1
  have hl := hx.1
  have HX := Lib.hid hx
  clear hx
  go_enter Try.func102, Try.ntmps102
  go_wp2_with fail
  go_loopw [6, 7, 12] (fun f l i wr => ∃ k : Nat, k ≤ n ∧ i = .int .i64 k ∧ f = .int .i64 (firstTo s t k) ∧ l = .int .i64 (lastTo s t k) ∧ Below w.heap.size w wr) (fun _ _ i _ => n - (intOf i).toNat)
  case atStart => exact ⟨0, Nat.zero_le _, rfl, rfl, rfl, Below.refl _ _⟩
  case round =>
    obtain ⟨k, hk, rfl, rfl, rfl, hb⟩ := hrel
    by_cases hlt : k < n
    · obtain ⟨b, off, o, rfl, hbl, ho, c0, c1, c2⟩ := (HX.out.below hb (Nat.le_refl _)).at_ hlt
      have hat : isAt s k t = (o.tx == t) := by unfold isAt; rw [ho]
      have hf : Hid (firstTo s t (k + 1) = if firstTo s t k < 0 ∧ (o.tx == t) = true then (k : Int) else firstTo s t k) := by
        show firstTo s t (k + 1) = _
        simp only [firstTo, hat]
      have hla : Hid (lastTo s t (k + 1) = if (o.tx == t) = true then (k : Int) else lastTo s t k) := by
        show lastTo s t (k + 1) = _
        simp only [lastTo, hat]
      generalize hF : firstTo s t k = F at *
      generalize hL : lastTo s t k = L at *
      have HF := Lib.hid hF
      have HL := Lib.hid hL
      clear hF hL hat ho
      obtain ⟨tx, kd, it⟩ := o
      simp only at hf hla c0 c1 c2
      by_cases h1 : tx = t
      · subst h1
        by_cases h2 : F < 0
        · go_wp2_with fail
          go_roundw
          case rel => exact ⟨k + 1, by omega, by go_num, by rw [hf.out, if_pos ⟨h2, by simp⟩], by rw [hla.out, if_pos (by simp)], hb.trans ((by (repeat (first | exact Below.refl _ _ | assumption | refine B_alloc ?_ (Nat.le_refl _) _ | refine Below.drew ?_ | refine B_drewN ?_ _ | refine B_after (by assumption) ?_ | (refine B_set ?_ ?_; rotate_left; (first | exact Nat.le_refl _ | (simp; done) | (simp at *; omega))))) : Below wr.heap.size wr _).mono hb.size)⟩
          case measure => simp [intOf]; omega
        · go_wp2_with fail
          go_roundw
          case rel => exact ⟨k + 1, by omega, by go_num, by rw [hf.out, if_neg (fun h => h2 h.1)], by rw [hla.out, if_pos (by simp)], hb.trans ((by (repeat (first | exact Below.refl _ _ | assumption | refine B_alloc ?_ (Nat.le_refl _) _ | refine Below.drew ?_ | refine B_drewN ?_ _ | refine B_after (by assumption) ?_ | (refine B_set ?_ ?_; rotate_left; (first | exact Nat.le_refl _ | (simp; done) | (simp at *; omega))))) : Below wr.heap.size wr _).mono hb.size)⟩
          case measure => simp [intOf]; omega
      · have h1' : (tx == t) = false := by simpa using h1
        go_wp2_with fail
        go_roundw
        case rel => exact ⟨k + 1, by omega, by go_num, by rw [hf.out, if_neg (fun h => by simp [h1'] at h)], by rw [hla.out, if_neg (by simp [h1'])], hb.trans ((by (repeat (first | exact Below.refl _ _ | assumption | refine B_alloc ?_ (Nat.le_refl _) _ | refine Below.drew ?_ | refine B_drewN ?_ _ | refine B_after (by assumption) ?_ | (refine B_set ?_ ?_; rotate_left; (first | exact Nat.le_refl _ | (simp; done) | (simp at *; omega))))) : Below wr.heap.size wr _).mono hb.size)⟩
        case measure => simp [intOf]; omega
    · obtain rfl : k = n := by omega
      have h1 : Hid (firstTo s t k = firstI s t) := by show _ = _; unfold firstI; rw [hl]
      have h2 : Hid (lastTo s t k = lastI s t) := by show _ = _; unfold lastI; rw [hl]
      go_wp2_with fail
      go_ret2
      exact ⟨by rw [← h1.out, ← h2.out]; rfl, hb⟩

set_option maxHeartbeats 400000 in
theorem firstOf_any (A : Option Addr) (n c : Nat) (s : List OpV) (t : Int) (w : World) (hx : ROps w A n s) :
    Calls Try.prog 84 #[.slice A n c, .int .i64 t] w fun e w' => e = .returned (.int .i64 (firstI s t)) ∧ Below w.heap.size w w' := by
  have HS := Lib.hid (span_any A n c s t w hx)
  clear hx
  go_enter Try.func84, Try.ntmps84
  go_wp2_with fail
  refine HS.out.mono ?_
  rintro e w1 ⟨rfl, hb⟩
  go_wp2_with fail
  go_ret
  exact ⟨rfl, hb⟩

/-- The place of an operation in a list, -1 if it is not there. -/
def idxTo (s : List OpV) (q : OpV) (k : Nat) : Prop := ∀ j, j < k → ∀ o, s[j]? = some o → (o == q) = false
def idxI (s : List OpV) (q : OpV) : Int := if s.any (fun o => o == q) then (s.findIdx (fun o => o == q) : Int) else -1
theorem idxI_hit {s : List OpV} {q o : OpV} {k : Nat} (ho : s[k]? = some o) (h : (o == q) = true) (hno : ∀ j, j < k → ∀ o, s[j]? = some o → (o == q) = false) : idxI s q = (k : Int) := by
  obtain ⟨hk, he⟩ := List.getElem?_eq_some_iff.1 ho
  have h1 : s.any (fun o => o == q) = true := List.any_eq_true.2 ⟨o, List.mem_of_getElem? ho, h⟩
  have h2 : s.findIdx (fun o => o == q) = k := by
    rw [List.findIdx_eq hk]
    exact ⟨by rw [he]; exact h, fun j hj => by have := hno j hj _ (List.getElem?_eq_getElem (by omega)); exact this⟩
  unfold idxI
  rw [h1, h2]; rfl
theorem idxI_none {s : List OpV} {q : OpV} (hno : ∀ j, j < s.length → ∀ o, s[j]? = some o → (o == q) = false) : idxI s q = -1 := by
  unfold idxI
  rw [find_none_all hno]; rfl

theorem beq_op (a b c a' b' c' : Int) : (a == a' && b == b' && c == c') = ((⟨a', b', c'⟩ : OpV) == ⟨a, b, c⟩) := by
  rw [Bool.eq_iff_iff]
  simp only [Bool.and_eq_true, beq_iff_eq, OpV.mk.injEq]
  constructor
  · rintro ⟨⟨rfl, rfl⟩, rfl⟩; exact ⟨rfl, rfl, rfl⟩
  · rintro ⟨rfl, rfl, rfl⟩; exact ⟨⟨rfl, rfl⟩, rfl⟩

set_option maxRecDepth 100000 in
set_option maxHeartbeats 400000 in
theorem IndexOp_any (A : Option Addr) (n c : Nat) (s : List OpV) (q : OpV) (w : World) (hx : ROps w A n s) :
    Calls Try.prog 135 #[.slice A n c, q.val] w fun e w' => e = .returned (.int .i64 (idxI s q)) ∧ Below w.heap.size w w' := by
  have hn := hx.2.1
  have hl := hx.1
  obtain ⟨qt, qk, qi⟩ := q
  unfold OpV.val
  have hST : ∀ W : World, W = w.alloc (.cells #[.int .i64 qt, .int .i64 qk, .int .i64 qi] 46) → Below w.heap.size w W ∧ (∀ u : Later W, u.1.cell? ⟨w.heap.size, 0, none⟩ = some (.int .i64 qt)) ∧ (∀ u : Later W, u.1.cell? ⟨w.heap.size, 1, none⟩ = some (.int .i64 qk)) ∧ (∀ u : Later W, u.1.cell? ⟨w.heap.size, 2, none⟩ = some (.int .i64 qi)) := by
    intro W hW
    obtain ⟨a, b, c, d, _⟩ := op_box hW
    exact ⟨d, a, b, c⟩
  have HST := Lib.hid hST
  have HX := Lib.hid hx
  clear hx hST
  go_enter Try.func135, Try.ntmps135
  go_wp2_with fail
  obtain ⟨W, hW⟩ : ∃ W : World, W = w.alloc (.cells #[.int .i64 qt, .int .i64 qk, .int .i64 qi] 46) := ⟨_, rfl⟩
  rw [← hW]
  obtain ⟨hbW, L0, L1, L2⟩ := HST.out W hW
  clear HST hW
  go_loopw [8] (fun i wr => ∃ k : Nat, k ≤ n ∧ i = .int .i64 k ∧ Below W.heap.size W wr ∧ (∀ j, j < k → ∀ o, s[j]? = some o → (o == ⟨qt, qk, qi⟩) = false)) (fun i _ => n - (intOf i).toNat)
  case atStart => exact ⟨0, Nat.zero_le _, rfl, Below.refl _ _, by omega⟩
  case round =>
    obtain ⟨k, hk, rfl, hb, hno⟩ := hrel
    by_cases hlt : k < n
    · obtain ⟨b, off, o, rfl, hbl, ho, c0, c1, c2⟩ := (HX.out.below (hbW.trans (hb.mono hbW.size)) (Nat.le_refl _)).at_ hlt
      have M0 : ∀ u : Later wr, u.1.cell? ⟨w.heap.size, 0, none⟩ = some (.int .i64 qt) := fun u => L0 ⟨u.1, hb.trans (u.2.mono hb.size)⟩
      have M1 : ∀ u : Later wr, u.1.cell? ⟨w.heap.size, 1, none⟩ = some (.int .i64 qk) := fun u => L1 ⟨u.1, hb.trans (u.2.mono hb.size)⟩
      have M2 : ∀ u : Later wr, u.1.cell? ⟨w.heap.size, 2, none⟩ = some (.int .i64 qi) := fun u => L2 ⟨u.1, hb.trans (u.2.mono hb.size)⟩
      have C0 := Later.cell c0
      have C1 := Later.cell c1
      have C2 := Later.cell c2
      have HN : Hid ((o == ⟨qt, qk, qi⟩) = false → ∀ j, j < k + 1 → ∀ o, s[j]? = some o → (o == ⟨qt, qk, qi⟩) = false) := fun h => no_snoc ho hno h
      have HT : Hid ((o == ⟨qt, qk, qi⟩) = true → idxI s ⟨qt, qk, qi⟩ = (k : Int)) := fun h => idxI_hit ho h hno
      clear hno ho c0 c1 c2
      obtain ⟨tx, kd, it⟩ := o
      simp only at C0 C1 C2
      have hbq : Hid ((qt == tx && qk == kd && qi == it) = ((⟨tx, kd, it⟩ : OpV) == ⟨qt, qk, qi⟩)) := beq_op _ _ _ _ _ _
      cases hq : ((⟨tx, kd, it⟩ : OpV) == ⟨qt, qk, qi⟩)
      all_goals
        have heq : ∀ w : World, (binOp .eql 46 (.agg #[.int .i64 qt, .int .i64 qk, .int .i64 qi]) (.agg #[.int .i64 tx, .int .i64 kd, .int .i64 it])).run Try.prog w = .ok (.bool _) w := fun w => by
          rw [eql_op, hbq.out, hq]
        have hgd := op_guard
        have HQ := Lib.hid hq
        clear hq
        go_wp2_with fail
        refine region_later (by kernel_rfl) (by kernel_rfl) ?_
        repeat (go_big_quiet_step (fail))
        refine wpQuiet_nil ?_
        rintro _ ⟨u, rfl⟩
        have hbu : Below W.heap.size W u.1 := hb.trans (u.2.mono hb.size)
        first
          | (have HR := Lib.hid (HT.out HQ.out)
             go_wp2_with fail
             go_ret
             exact ⟨ret_int HR.out.symm, hbW.trans (hbu.mono hbW.size)⟩)
          | (go_wp2_with fail
             go_roundw
             case rel => exact ⟨k + 1, by omega, by go_num, hbu, HN.out HQ.out⟩
             case measure => simp [intOf]; omega)
    · have HE := Lib.hid (idxI_none (s := s) (q := ⟨qt, qk, qi⟩) (fun j hj => hno j (by omega)))
      clear hno
      go_wp2_with fail
      go_ret
      exact ⟨ret_int HE.out.symm, hbW.trans (hb.mono hbW.size)⟩
end Go.Proofs.Ytofcpfabjfhjoaa
namespace Go.Proofs.Ytofcpfabjfhjoaa
open Go.RowKit Go.BigFrame
set_option linter.unusedVariables false

def commitI (s : List OpV) (t : Int) : Int := idxI s ⟨t, 2, 0⟩
set_option maxHeartbeats 400000 in
theorem commitOf_any (A : Option Addr) (n c : Nat) (s : List OpV) (t : Int) (w : World) (hx : ROps w A n s) :
    Calls Try.prog 85 #[.slice A n c, .int .i64 t] w fun e w' => e = .returned (.int .i64 (commitI s t)) ∧ Below w.heap.size w w' := by
  have HS := Lib.hid (IndexOp_any A n c s ⟨t, 2, 0⟩ w hx)
  clear hx
  go_enter Try.func85, Try.ntmps85
  go_wp2_with fail
  refine HS.out.mono ?_
  rintro e w1 ⟨rfl, hb⟩
  go_wp2_with fail
  go_ret
  exact ⟨rfl, hb⟩

/-- The items that a transaction writes, as bits. -/
def wTo (s : List OpV) (t : Int) : Nat → Nat
  | 0 => 0
  | k + 1 => match s[k]? with | some o => if o.tx == t && o.kind == 1 then wTo s t k ||| (1 <<< o.item.toNat) else wTo s t k | none => wTo s t k
def wI (s : List OpV) (t : Int) : Nat := wTo s t s.length
def itemsOk (s : List OpV) : Prop := ∀ o ∈ s, o.kind = 1 → 0 ≤ o.item ∧ o.item ≤ 2
theorem wTo_lt (s : List OpV) (t : Int) (h : itemsOk s) (k : Nat) : wTo s t k < 8 := by
  induction k with
  | zero => simp [wTo]
  | succ k ih =>
    simp only [wTo]
    split
    · rename_i o ho
      split
      · rename_i hc
        have hm := List.mem_of_getElem? ho
        simp only [Bool.and_eq_true, beq_iff_eq] at hc
        have := h o hm hc.2
        have h3 : o.item.toNat ≤ 2 := by omega
        have h4 : (1 <<< o.item.toNat) < 2 ^ 3 := by
          rcases (by omega : o.item.toNat = 0 ∨ o.item.toNat = 1 ∨ o.item.toNat = 2) with e | e | e <;> rw [e] <;> decide
        exact Nat.or_lt_two_pow (n := 3) ih h4
      · exact ih
    · exact ih
theorem ofInt64 (a : Nat) (ha : a < 9223372036854775808) : (BitVec.ofInt 64 (a : Int)).toNat = a := by
  rw [BitVec.ofInt_natCast, BitVec.toNat_ofNat]; exact Nat.mod_eq_of_lt (by omega)
theorem or_nat (a b : Nat) (ha : a < 9223372036854775808) (hb : b < 9223372036854775808) : bits .or .i64 (a : Int) (b : Int) = ((a ||| b : Nat) : Int) := by
  have hx : a ||| b < 2 ^ 63 := Nat.or_lt_two_pow (by omega) (by omega)
  show IntKind.i64.wrap ((BitVec.ofInt 64 (a : Int) ||| BitVec.ofInt 64 (b : Int)).toNat : Int) = _
  rw [BitVec.toNat_or, ofInt64 a ha, ofInt64 b hb, IntKind.wrap_i64]
  omega
theorem and_nat (a b : Nat) (ha : a < 9223372036854775808) (hb : b < 9223372036854775808) : bits .and .i64 (a : Int) (b : Int) = ((a &&& b : Nat) : Int) := by
  have hx : a &&& b < 2 ^ 63 := Nat.and_lt_two_pow _ (by omega)
  show IntKind.i64.wrap ((BitVec.ofInt 64 (a : Int) &&& BitVec.ofInt 64 (b : Int)).toNat : Int) = _
  rw [BitVec.toNat_and, ofInt64 a ha, ofInt64 b hb, IntKind.wrap_i64]
  omega

set_option maxHeartbeats 1000000 in
theorem writesOf_any (A : Option Addr) (n c : Nat) (s : List OpV) (t : Int) (w : World) (hx : ROps w A n s) (hi : itemsOk s) :
    Calls Try.prog 118 #[.slice A n c, .int .i64 t] w fun e w' => e = .returned (.int .i64 (wI s t : Nat)) ∧ Below w.heap.size w w' := by
  have hn := hx.2.1
  have hl := hx.1
  have HX := Lib.hid hx
  have HI := Lib.hid hi
  clear hx hi
  go_enter Try.func118, Try.ntmps118
  go_wp2_with fail
  go_loopw [5, 10] (fun m i wr => ∃ k : Nat, k ≤ n ∧ i = .int .i64 k ∧ m = .int .i64 (wTo s t k : Nat) ∧ Below w.heap.size w wr) (fun _ i _ => n - (intOf i).toNat)
  case atStart => exact ⟨0, Nat.zero_le _, rfl, rfl, Below.refl _ _⟩
  case round =>
    obtain ⟨k, hk, rfl, rfl, hb⟩ := hrel
    by_cases hlt : k < n
    · obtain ⟨b, off, o, rfl, hbl, ho, c0, c1, c2⟩ := (HX.out.below hb (Nat.le_refl _)).at_ hlt
      have hw8 := wTo_lt s t HI.out k
      have hit := HI.out o (List.mem_of_getElem? ho)
      have hstep : Hid (wTo s t (k + 1) = if o.tx == t && o.kind == 1 then wTo s t k ||| (1 <<< o.item.toNat) else wTo s t k) := by
        show _ = _
        simp only [wTo, ho]
      generalize hM : wTo s t k = M at *
      have HM := Lib.hid hM
      clear hM ho
      obtain ⟨tx, kd, it⟩ := o
      simp only at hstep c0 c1 c2 hit
      by_cases h1 : tx = t
      · subst h1
        by_cases h2 : kd = 1
        · subst h2
          have hit := hit rfl
          rcases (by omega : it = 0 ∨ it = 1 ∨ it = 2) with rfl | rfl | rfl
          · have e1 : bits .or .i64 (M : Int) 1 = ((M ||| 1 : Nat) : Int) := or_nat M 1 (by omega) (by omega)
            go_wp2_with fail
            go_roundw
            case rel => exact ⟨k + 1, by omega, by go_num, by rw [hstep.out, if_pos (by simp)]; rfl, hb.trans ((by (repeat (first | exact Below.refl _ _ | assumption | refine B_alloc ?_ (Nat.le_refl _) _ | refine Below.drew ?_ | refine B_drewN ?_ _ | refine B_after (by assumption) ?_ | (refine B_set ?_ ?_; rotate_left; (first | exact Nat.le_refl _ | (simp; done) | (simp at *; omega))))) : Below wr.heap.size wr _).mono hb.size)⟩
            case measure => simp [intOf]; omega
          · have e1 : bits .or .i64 (M : Int) 2 = ((M ||| 2 : Nat) : Int) := or_nat M 2 (by omega) (by omega)
            go_wp2_with fail
            go_roundw
            case rel => exact ⟨k + 1, by omega, by go_num, by rw [hstep.out, if_pos (by simp)]; rfl, hb.trans ((by (repeat (first | exact Below.refl _ _ | assumption | refine B_alloc ?_ (Nat.le_refl _) _ | refine Below.drew ?_ | refine B_drewN ?_ _ | refine B_after (by assumption) ?_ | (refine B_set ?_ ?_; rotate_left; (first | exact Nat.le_refl _ | (simp; done) | (simp at *; omega))))) : Below wr.heap.size wr _).mono hb.size)⟩
            case measure => simp [intOf]; omega
          · have e1 : bits .or .i64 (M : Int) 4 = ((M ||| 4 : Nat) : Int) := or_nat M 4 (by omega) (by omega)
            go_wp2_with fail
            go_roundw
            case rel => exact ⟨k + 1, by omega, by go_num, by rw [hstep.out, if_pos (by simp)]; rfl, hb.trans ((by (repeat (first | exact Below.refl _ _ | assumption | refine B_alloc ?_ (Nat.le_refl _) _ | refine Below.drew ?_ | refine B_drewN ?_ _ | refine B_after (by assumption) ?_ | (refine B_set ?_ ?_; rotate_left; (first | exact Nat.le_refl _ | (simp; done) | (simp at *; omega))))) : Below wr.heap.size wr _).mono hb.size)⟩
            case measure => simp [intOf]; omega
        · have h2' : (kd == 1) = false := by simpa using h2
          clear hit
          go_wp2_with fail
          go_roundw
          case rel => exact ⟨k + 1, by omega, by go_num, by rw [hstep.out, if_neg (by simp [h2'])], hb.trans ((by (repeat (first | exact Below.refl _ _ | assumption | refine B_alloc ?_ (Nat.le_refl _) _ | refine Below.drew ?_ | refine B_drewN ?_ _ | refine B_after (by assumption) ?_ | (refine B_set ?_ ?_; rotate_left; (first | exact Nat.le_refl _ | (simp; done) | (simp at *; omega))))) : Below wr.heap.size wr _).mono hb.size)⟩
          case measure => simp [intOf]; omega
      · have h1' : (tx == t) = false := by simpa using h1
        clear hit
        go_wp2_with fail
        go_roundw
        case rel => exact ⟨k + 1, by omega, by go_num, by rw [hstep.out, if_neg (by simp [h1'])], hb.trans ((by (repeat (first | exact Below.refl _ _ | assumption | refine B_alloc ?_ (Nat.le_refl _) _ | refine Below.drew ?_ | refine B_drewN ?_ _ | refine B_after (by assumption) ?_ | (refine B_set ?_ ?_; rotate_left; (first | exact Nat.le_refl _ | (simp; done) | (simp at *; omega))))) : Below wr.heap.size wr _).mono hb.size)⟩
        case measure => simp [intOf]; omega
    · obtain rfl : k = n := by omega
      have h1 : Hid (wTo s t k = wI s t) := by show _ = _; unfold wI; rw [hl]
      go_wp2_with fail
      go_ret
      exact ⟨by rw [← h1.out]; rfl, hb⟩
end Go.Proofs.Ytofcpfabjfhjoaa
namespace Go.Proofs.Ytofcpfabjfhjoaa
open Go.RowKit Go.BigFrame
set_option linter.unusedVariables false

/-- u is against t: it commits behind t's first operation, and both write an item. -/
def agI (s : List OpV) (t u : Int) : Bool := decide (firstI s t < commitI s u) && ((wI s u &&& wI s t) != 0)
def survStep (s : List OpV) (out : List Int) (o : OpV) : List Int := if o.kind == 2 && !(out.any (agI s o.tx)) then out ++ [o.tx] else out
def survTo (s : List OpV) (k : Nat) : List Int := (s.take k).foldl (survStep s) []
def survI (s : List OpV) : List Int := s.foldl (survStep s) []
theorem survTo_succ {s : List OpV} {k : Nat} {o : OpV} (h : s[k]? = some o) : survTo s (k + 1) = survStep s (survTo s k) o := by
  unfold survTo
  rw [take_snoc h, List.foldl_append]; rfl
theorem survTo_all {s : List OpV} {k : Nat} (h : s.length ≤ k) : survTo s k = survI s := by
  unfold survTo survI
  rw [List.take_of_length_le h]
theorem survTo_len (s : List OpV) (k : Nat) : (survTo s k).length ≤ k := by
  induction k with
  | zero => exact Nat.le_refl _
  | succ k ih =>
    cases h : s[k]? with
    | some o => rw [survTo_succ h]; unfold survStep; split <;> (try simp) <;> omega
    | none =>
      have : s.take (k + 1) = s.take k := by
        have hl : s.length ≤ k := by
          rcases Nat.lt_or_ge k s.length with h' | h'
          · rw [List.getElem?_eq_getElem h'] at h; cases h
          · exact h'
        rw [List.take_of_length_le (by omega), List.take_of_length_le hl]
      unfold survTo at *
      rw [this]; omega

set_option maxRecDepth 100000 in
set_option maxHeartbeats 1000000 in
theorem survivorsOf1_any (x : Int) (A : Option Addr) (n c b b2 : Nat) (s : List OpV) (t kd it : Int) (w : World) (hc : w.cell? ⟨b, 0, none⟩ = some (.slice A n c)) (hx : ROps w A n s) (hi : itemsOk s)
    (h0 : w.cell? ⟨b2, 0, none⟩ = some (.int .i64 t)) (h1 : w.cell? ⟨b2, 1, none⟩ = some (.int .i64 kd)) (h2 : w.cell? ⟨b2, 2, none⟩ = some (.int .i64 it)) :
    Calls Try.prog 117 #[.int .i64 x, .pointer (some ⟨b, 0, none⟩), .pointer (some ⟨b2, 0, none⟩)] w fun e w' => e = .returned (.bool (agI s t x)) ∧ Below w.heap.size w w' := by
  have L := Later.cell hc
  have L0 := Later.cell h0
  have L1 := Later.cell h1
  have L2 := Later.cell h2
  have hC : ∀ u : Later w, Calls Try.prog 85 #[.slice A n c, .int .i64 x] u.1 fun e w' => e = .returned (.int .i64 (commitI s x)) ∧ Below u.1.heap.size u.1 w' := fun u => commitOf_any A n c s x u.1 (hx.later u)
  have hF : ∀ u : Later w, Calls Try.prog 84 #[.slice A n c, .int .i64 t] u.1 fun e w' => e = .returned (.int .i64 (firstI s t)) ∧ Below u.1.heap.size u.1 w' := fun u => firstOf_any A n c s t u.1 (hx.later u)
  have hW : ∀ (y : Int) (u : Later w), Calls Try.prog 118 #[.slice A n c, .int .i64 y] u.1 fun e w' => e = .returned (.int .i64 (wI s y : Nat)) ∧ Below u.1.heap.size u.1 w' := fun y u => writesOf_any A n c s y u.1 (hx.later u) hi
  have hb : bits .and .i64 (wI s x : Int) (wI s t : Int) = ((wI s x &&& wI s t : Nat) : Int) := and_nat _ _ (by have := wTo_lt s x hi s.length; unfold wI; omega) (by have := wTo_lt s t hi s.length; unfold wI; omega)
  have HC := Lib.hid hC
  have HF := Lib.hid hF
  have HW := Lib.hid hW
  have hres : Hid (agI s t x = (decide (firstI s t < commitI s x) && ((wI s x &&& wI s t) != 0))) := rfl
  clear hC hF hW hx hi hc h0 h1 h2
  cases hlt : decide (firstI s t < commitI s x)
  · have hlt2 := hlt
    have HL := Lib.hid hlt
    clear hlt
    go_enter Try.func117, Try.ntmps117
    go_wp2_with fail
    refine region_later (by kernel_rfl) (by kernel_rfl) ?_
    repeat (go_big_quiet_step ((first | (go_at_call 85; exact later_call _ (HC.out _)) | (go_at_call 84; exact later_call _ (HF.out _)) | (go_at_call 118; exact later_call _ (HW.out _ _)))))
    refine wpQuiet_nil ?_
    rintro _ ⟨u, rfl⟩
    go_wp2_with fail
    go_ret
    exact ⟨ret_bool (by rw [hres.out, HL.out]; rfl), u.2⟩
  · have hlt2 := hlt
    have HL := Lib.hid hlt
    clear hlt
    obtain ⟨bz, hz⟩ : ∃ b, ((wI s x &&& wI s t) != 0) = b := ⟨_, rfl⟩
    have hz2 : ((((wI s x &&& wI s t : Nat)) : Int) != 0) = bz := by
      have e : ((((wI s x &&& wI s t : Nat)) : Int) != 0) = ((wI s x &&& wI s t) != 0) := by
        rw [Bool.eq_iff_iff]; simp
      exact e.trans hz
    have HZ := Lib.hid hz
    clear hz
    cases bz
    all_goals
      go_enter Try.func117, Try.ntmps117
      go_wp2_with fail
      refine region_later (by kernel_rfl) (by kernel_rfl) ?_
      repeat (go_big_quiet_step ((first | (go_at_call 85; exact later_call _ (HC.out _)) | (go_at_call 84; exact later_call _ (HF.out _)) | (go_at_call 118; exact later_call _ (HW.out _ _)))))
      refine wpQuiet_nil ?_
      rintro _ ⟨u, rfl⟩
      go_wp2_with fail
      go_ret
      exact ⟨ret_bool (by rw [hres.out, HL.out, HZ.out]; rfl), u.2⟩

theorem validS_ops {s : List OpV} (h : validS s = true) : ∀ o ∈ s, validOp o = true := by
  intro o ho
  unfold validS at h
  simp only [Bool.and_eq_true, List.all_eq_true] at h
  obtain ⟨k, hk⟩ := List.mem_iff_getElem?.1 ho
  have hl : k < s.length := by
    rcases Nat.lt_or_ge k s.length with h | h
    · exact h
    · rw [List.getElem?_eq_none h] at hk; cases hk
  have := h.2 k (List.mem_range.2 hl)
  unfold goodAt at this
  rw [hk] at this
  simp only [Bool.and_eq_true] at this
  exact this.1
theorem validS_items {s : List OpV} (h : validS s = true) : itemsOk s := by
  intro o ho h1
  have := validS_ops h o ho
  simp [validOp, isAcc, isEnd, inR, h1] at this
  omega
theorem runs_survivorsOf1 : Runs 117 := runs_of Try.func117 (by kernel_rfl) rfl

/-- append of integers to a 'list[int]'. -/
theorem app_list {w : World} {ops : Array Oper} {rest : List Oper} {o : Oper} {a : Act} {Q : Exit → Act → World → Prop} (s x : Operand) {base : Nat} {v : Value} {n : Nat} {xs : List Int} (hown : w.ownsRow base 3 1 v n (intCells xs)) (hbase : base ≤ w.heap.size)
    {A : Option Addr} {m c : Nat} {ys : List Int} (hr : RInts w A m ys) (hn : n ≤ 1099511627776)
    (hgd : o.guard = none) (ho : o.op = .call { callee := .builtin .append, args := #[s, x], argTypes := #[60, 60] }) (hs : a.eval s = v) (hx : a.eval x = .slice A m c)
    (h : ∀ v' w', w'.ownsRow base 3 1 v' (n + m) (intCells (xs ++ ys)) → w.grownBy w' v.ownBlock → (v'.ownBlock = v.ownBlock ∨ v'.ownBlock = some w.heap.size) → wpList Try.prog ops Q rest (a.put o.dst v') w') : wpList Try.prog ops Q (o :: rest) a w := by
  obtain ⟨i0, hi, hz0, hz1, hz2⟩ := info_parts intInfo
  have hm := hr.2.1
  refine wpList_app hgd s x _ ho base _ i0 _ 1 8 Try.underlying60 hi hz0 hz1 hz2 rfl (by decide) v n _ hs hown A m c _ hx hr.src (by simp only [maxLen]; omega) (by omega) hbase ?_
  intro v' w' h1 h2 h3
  have e : intCells xs ++ intCells ys = intCells (xs ++ ys) := by simp [intCells]
  rw [e] at h1
  exact h v' w' h1 h2 h3

set_option maxRecDepth 100000 in
set_option maxHeartbeats 1000000 in
theorem survivorsOf_any (A : Option Addr) (n c : Nat) (s : List OpV) (w : World) (hx : ROps w A n s) (hi : itemsOk s) :
    Calls Try.prog 69 #[.slice A n c] w (RetInts w (survI s)) := by
  have hn := hx.2.1
  have hl := hx.1
  have HX := Lib.hid hx
  have HI := Lib.hid hi
  clear hx hi
  obtain ⟨i0, hi, hz0, hz1, hz2⟩ := info_parts intInfo
  have hbx := box_at w #[.slice A n c] 23 0 (.slice A n c) rfl
  have HBX := Lib.hid hbx
  clear hbx
  go_enter Try.func69, Try.ntmps69
  go_wp2_with (at_make; refine wpList_make_own _ rfl _ _ 60 rfl (w.heap.size + 1) 3 i0 _ 1 Try.underlying60 hi hz0 hz1 .i64 .i64 _ 4 rfl rfl rfl (by rw [hz2]; omega) (by unfold maxLen; omega) (by simp) ?_; intro w1 hown1 hg1; have hc1 : w1.cell? ⟨w.heap.size, 0, none⟩ = some (.slice A n c) := hg1.cell HBX.out (by simp))
  have hb1 : Below w.heap.size w w1 := ((Below.refl _ _).alloc (Nat.le_refl _) _).grown hg1 (by simp) (by simp)
  have hlt1 := block_lt_of_cell hc1
  simp only at hlt1
  have HST := Lib.hid (And.intro hown1 (And.intro hb1 hc1))
  clear hown1 hb1 hg1 hi hz0 hz1 hz2 hc1
  go_loopw [3, 10] (fun ov i wr => ∃ (k m : Nat), k ≤ n ∧ m ≤ k ∧ i = .int .i64 k ∧ Below w.heap.size w wr ∧ wr.cell? ⟨w.heap.size, 0, none⟩ = some (.slice A n c) ∧ wr.ownsRow (w.heap.size + 1) 3 1 ov m (intCells (survTo s k))) (fun _ i _ => n - (intOf i).toNat)
  case atStart => exact ⟨0, 0, Nat.zero_le _, Nat.le_refl _, rfl, HST.out.2.1, HST.out.2.2, by have := HST.out.1; rw [World.size_alloc] at this; exact this⟩
  case round =>
    clear HST HBX
    obtain ⟨k, m, hk, hmk, rfl, hb, hcs, hown⟩ := hrel
    by_cases hlt : k < n
    · obtain ⟨b, off, o, rfl, hbl, ho, c0, c1, c2⟩ := (HX.out.below hb (Nat.le_refl _)).at_ hlt
      have hs := hb.size
      have hstep := Lib.hid (survTo_succ ho)
      have hcl : ∀ W : World, W = wr.alloc (.cells #[.int .i64 o.tx, .int .i64 o.kind, .int .i64 o.item] 46) →
          ClosInt W 117 #[.pointer (some ⟨w.heap.size, 0, none⟩), .pointer (some ⟨wr.heap.size, 0, none⟩)] (survTo s k) (agI s o.tx) ∧ Below wr.heap.size wr W ∧ (∀ u : Later W, u.1.cell? ⟨wr.heap.size, 0, none⟩ = some (.int .i64 o.tx)) ∧ (∀ u : Later W, u.1.cell? ⟨w.heap.size, 0, none⟩ = some (.slice (some ⟨b, off, none⟩) n c)) ∧ wr.heap.size < W.heap.size := by
        intro W hW
        obtain ⟨L0, L1, L2, hbW, hWs⟩ := op_box hW
        have hcW : W.cell? ⟨w.heap.size, 0, none⟩ = some (.slice (some ⟨b, off, none⟩) n c) := (hbW.cell (p := ⟨w.heap.size, 0, none⟩) (block_lt_of_cell hcs)).trans hcs
        refine ⟨⟨runs_survivorsOf1, fun W' x hb' _ => ?_⟩, hbW, L0, Later.cell hcW, hWs⟩
        have hbw' : Below w.heap.size w W' := hb.trans ((hbW.trans (hb'.mono hbW.size)).mono hs)
        exact survivorsOf1_any x _ n c _ _ s o.tx o.kind o.item W' (Later.cell hcW ⟨W', hb'⟩) (HX.out.below hbw' (Nat.le_refl _)) HI.out (L0 ⟨W', hb'⟩) (L1 ⟨W', hb'⟩) (L2 ⟨W', hb'⟩)
      have HC := Lib.hid hcl
      clear hcl ho
      obtain ⟨tx, kd, it⟩ := o
      simp only at hstep c0 c1 c2 HC
      by_cases hk2 : kd = 2
      · subst hk2
        go_wp2_with fail
        obtain ⟨W, hW⟩ : ∃ W : World, W = wr.alloc (.cells #[.int .i64 tx, .int .i64 2, .int .i64 it] 46) := ⟨_, rfl⟩
        rw [← hW]
        obtain ⟨hf, hbW, L0, LS, hWs⟩ := HC.out W hW
        have hownW : W.ownsRow (w.heap.size + 1) 3 1 u3 m (intCells (survTo s k)) := by rw [hW]; exact hown.alloc _
        obtain ⟨Ao, co, rfl, hmc⟩ := own_form2 hown
        refine (ContainsFuncL_any Ao m co _ _ _ _ W (RInts.of_own hownW (by omega)) hf).mono ?_
        rintro e w2 ⟨rfl, hb2⟩
        have hown2 := own_below hownW hb2
        have hbw := hb.trans ((hbW.trans (hb2.mono (by omega))).mono hs)
        have hs2 := hb2.size
        have hq0 := L0 ⟨w2, hb2⟩
        have hqs := LS ⟨w2, hb2⟩
        simp only at hq0 hqs
        clear hW hf L0 LS
        obtain ⟨bq, hbq⟩ : ∃ bq, (survTo s k).any (agI s tx) = bq := ⟨_, rfl⟩
        rw [hbq]
        have HB := Lib.hid hbq
        clear hbq
        cases bq
        · go_wp2_with (at_builtin; refine app_list (.tmp 22) (.tmp 25) (hown2.alloc _) (by simp; omega) (lit1 rfl _) (by omega) rfl rfl rfl rfl ?_; intro v3 w3 hown3 hg3 hat3; have hg3' := World.grownBy.trans (World.grownBy_alloc w2 _ _) hg3)
          have hb3 := Below.own hbw hown2 (by omega) hg3'
          have hqs3 : w3.cell? ⟨w.heap.size, 0, none⟩ = some (.slice (some ⟨b, off, none⟩) n c) := hg3'.cell hqs (fun e => by have := (World.ownsRow.lt hown2 _ e.symm).1; simp at this; omega)
          go_roundw
          case rel => exact ⟨k + 1, m + 1, by omega, by omega, by go_num, hb3, hqs3, by rw [hstep.out]; unfold survStep; rw [HB.out]; exact hown3⟩
          case measure => simp [intOf]; omega
        · go_wp2_with fail
          go_roundw
          case rel => exact ⟨k + 1, m, by omega, by omega, by go_num, hbw, hqs, by rw [hstep.out]; unfold survStep; rw [HB.out]; exact hown2⟩
          case measure => simp [intOf]; omega
      · have hk2' : (kd == 2) = false := by simpa using hk2
        go_wp2_with fail
        go_roundw
        case rel => exact ⟨k + 1, m, by omega, by omega, by go_num, hb.trans ((by (repeat (first | exact Below.refl _ _ | assumption | refine B_alloc ?_ (Nat.le_refl _) _ | refine Below.drew ?_ | refine B_drewN ?_ _ | refine B_after (by assumption) ?_ | (refine B_set ?_ ?_; rotate_left; (first | exact Nat.le_refl _ | (simp; done) | (simp at *; omega))))) : Below wr.heap.size wr _).mono hb.size), (World.cell?_alloc_lt _ _ _ (block_lt_of_cell hcs)).trans hcs, by rw [hstep.out]; unfold survStep; rw [hk2']; exact hown.alloc _⟩
        case measure => simp [intOf]; omega
    · obtain ⟨Ao, co, rfl, hmc⟩ := own_form2 hown
      rw [survTo_all (by omega)] at hown
      have HO := Lib.hid (RetInts.mk (c := m) (own_lenInts hown) (Nat.le_refl _) (FreshInts.of_own hown (by omega) (by omega)) hb)
      clear hown
      go_wp2_with fail
      go_ret
      exact HO.out


set_option maxHeartbeats 400000 in
theorem SurvivorsOf_any (A : Option Addr) (n c : Nat) (s : List OpV) (w : World) (hx : ROps w A n s) (hnc : n ≤ c) :
    Calls Try.prog 16 #[.slice A n c] w (RetInts w (orNil (validS s) (survI s))) := by
  have HX := Lib.hid hx
  clear hx
  go_enter Try.func16, Try.ntmps16
  go_wp2_with fail
  refine (ValidSchedule_any A n c s w HX.out hnc).mono ?_
  rintro e w1 ⟨rfl, hb⟩
  cases hv : validS s
  · have HV := Lib.hid hv
    clear hv
    go_wp2_with fail
    go_ret
    rw [HV.out]
    exact RetInts.nil hb
  · have HV := Lib.hid hv
    clear hv
    go_wp2_with fail
    refine (survivorsOf_any A n c s w1 (HX.out.below hb (Nat.le_refl _)) (validS_items HV.out)).mono ?_
    rintro e w2 hr
    obtain ⟨A', c', rfl, hr'⟩ := hr
    have HR : Hid (RetInts w1 (survI s) (.returned (.slice A' ((survI s)).length c')) w2) := ⟨A', c', rfl, hr'⟩
    clear hr'
    go_wp2_with fail
    go_ret
    rw [HV.out]
    exact RetInts.later hb HR.out

end Go.Proofs.Ytofcpfabjfhjoaa
namespace Go.Proofs.Ytofcpfabjfhjoaa
open Go.RowKit Go.BigFrame
set_option linter.unusedVariables false

set_option maxHeartbeats 1000000 in
theorem svalidOp_any (o : OpV) (w : World) :
    Calls Try.prog 120 #[o.val] w fun e w' => e = .returned (.bool (validOp o)) ∧ Below w.heap.size w w' := by
  obtain ⟨t, k, x⟩ := o
  unfold OpV.val
  have hcase : inR t 0 3 = false ∨ (inR t 0 3 = true ∧ (k = 0 ∨ k = 1 ∨ (k = 2 ∧ x = 0) ∨ (k = 2 ∧ (x == 0) = false) ∨ (k = 3 ∧ x = 0) ∨ (k = 3 ∧ (x == 0) = false) ∨ ((k == 0) = false ∧ (k == 1) = false ∧ (k == 2) = false ∧ (k == 3) = false))) := by
    cases h1 : inR t 0 3
    · exact .inl rfl
    · refine .inr ⟨rfl, ?_⟩
      simp only [beq_eq_false_iff_ne]
      omega
  rcases hcase with h1 | ⟨h1, rfl | rfl | ⟨rfl, rfl⟩ | ⟨rfl, h5⟩ | ⟨rfl, rfl⟩ | ⟨rfl, h5⟩ | ⟨h2, h3, h4, h5⟩⟩
  all_goals
    go_enter Try.func120, Try.ntmps120
    go_wp2_with (go_at_call 153; refine (inRange_any _ _ _ _).mono ?_; rintro e w' ⟨rfl, rfl⟩)
    go_ret
    exact ⟨ret_bool (by simp [validOp, isAcc, isEnd, *]), by (repeat (first | exact Below.refl _ _ | assumption | refine B_alloc ?_ (Nat.le_refl _) _ | refine Below.drew ?_ | refine B_drewN ?_ _ | refine B_after (by assumption) ?_ | (refine B_set ?_ ?_; rotate_left; (first | exact Nat.le_refl _ | (simp; done) | (simp at *; omega)))))⟩

def stampN (s : List OpV) (t : Int) : Nat := s.findIdx fun o => o.tx == t
def commitN (s : List OpV) (t : Int) : Nat := s.findIdx fun o => o.tx == t && o.kind == 2
def touchB (s : List OpV) (i : Nat) (t k x : Int) : Bool := (s.take i).any fun o => o.tx == t && o.kind == k && o.item == x
def meetsB (s : List OpV) (t u : Int) : Bool := [0, 1, 2].any fun x => touchB s s.length t 1 x && touchB s s.length u 1 x

theorem findIdx_hit {s : List OpV} {p : OpV → Bool} {k : Nat} {o : OpV} (ho : s[k]? = some o) (h : p o = true) (hno : ∀ j, j < k → ∀ o, s[j]? = some o → p o = false) : s.findIdx p = k := by
  obtain ⟨hk, he⟩ := List.getElem?_eq_some_iff.1 ho
  rw [List.findIdx_eq hk]
  exact ⟨by rw [he]; exact h, fun j hj => hno j hj _ (List.getElem?_eq_getElem (by omega))⟩
theorem findIdx_end {s : List OpV} {p : OpV → Bool} (hno : ∀ j, j < s.length → ∀ o, s[j]? = some o → p o = false) : s.findIdx p = s.length := by
  rw [List.findIdx_eq_length]
  intro o ho
  obtain ⟨j, hj⟩ := List.mem_iff_getElem?.1 ho
  have hl : j < s.length := by
    rcases Nat.lt_or_ge j s.length with h | h
    · exact h
    · rw [List.getElem?_eq_none h] at hj; cases hj
  simpa using hno j hl o hj

set_option maxHeartbeats 400000 in
theorem stampOf_any (A : Option Addr) (n c : Nat) (s : List OpV) (t : Int) (w : World) (hx : ROps w A n s) :
    Calls Try.prog 123 #[.slice A n c, .int .i64 t] w fun e w' => e = .returned (.int .i64 (stampN s t : Nat)) ∧ Below w.heap.size w w' := by
  have hn := hx.2.1
  have hl := hx.1
  have HX := Lib.hid hx
  clear hx
  go_enter Try.func123, Try.ntmps123
  go_wp2_with fail
  go_loop [5] (fun i => ∃ k : Nat, k ≤ n ∧ i = .int .i64 k ∧ (∀ j, j < k → ∀ o, s[j]? = some o → (o.tx == t) = false)) (fun i => n - (intOf i).toNat)
  case atStart => exact ⟨0, Nat.zero_le _, rfl, by omega⟩
  case round =>
    obtain ⟨k, hk, rfl, hno⟩ := hrel
    by_cases hlt : k < n
    · obtain ⟨b, off, o, rfl, hbl, ho, c0, c1, c2⟩ := HX.out.at_ hlt
      have HN : Hid ((o.tx == t) = false → ∀ j, j < k + 1 → ∀ o, s[j]? = some o → (o.tx == t) = false) := fun h => no_snoc (p := fun o => o.tx == t) ho hno h
      have HT : Hid ((o.tx == t) = true → stampN s t = k) := fun h => findIdx_hit ho h hno
      clear hno ho
      obtain ⟨tx, kd, it⟩ := o
      simp only at c0 c1 c2 HN HT
      by_cases h1 : tx = t
      · have hs := Lib.hid (HT.out (by simpa using h1))
        go_wp2_with fail
        go_ret
        exact ⟨by rw [hs.out]; rfl, Below.refl _ _⟩
      · have hs := Lib.hid (HN.out (by simpa using h1))
        go_wp2_with fail
        go_round
        case rel => exact ⟨k + 1, by omega, by go_num, hs.out⟩
        case measure => simp [intOf]; omega
    · have HE : Hid (stampN s t = s.length) := findIdx_end (fun j hj => hno j (by omega))
      clear hno
      go_wp2_with fail
      go_ret
      exact ⟨by rw [HE.out, hl]; rfl, Below.refl _ _⟩

set_option maxHeartbeats 400000 in
theorem commitAt_any (A : Option Addr) (n c : Nat) (s : List OpV) (t : Int) (w : World) (hx : ROps w A n s) :
    Calls Try.prog 122 #[.slice A n c, .int .i64 t] w fun e w' => e = .returned (.int .i64 (commitN s t : Nat)) ∧ Below w.heap.size w w' := by
  have hn := hx.2.1
  have hl := hx.1
  have HX := Lib.hid hx
  clear hx
  go_enter Try.func122, Try.ntmps122
  go_wp2_with fail
  go_loop [5] (fun i => ∃ k : Nat, k ≤ n ∧ i = .int .i64 k ∧ (∀ j, j < k → ∀ o, s[j]? = some o → (o.tx == t && o.kind == 2) = false)) (fun i => n - (intOf i).toNat)
  case atStart => exact ⟨0, Nat.zero_le _, rfl, by omega⟩
  case round =>
    obtain ⟨k, hk, rfl, hno⟩ := hrel
    by_cases hlt : k < n
    · obtain ⟨b, off, o, rfl, hbl, ho, c0, c1, c2⟩ := HX.out.at_ hlt
      have HN : Hid ((o.tx == t && o.kind == 2) = false → ∀ j, j < k + 1 → ∀ o, s[j]? = some o → (o.tx == t && o.kind == 2) = false) := fun h => no_snoc (p := fun o => o.tx == t && o.kind == 2) ho hno h
      have HT : Hid ((o.tx == t && o.kind == 2) = true → commitN s t = k) := fun h => findIdx_hit ho h hno
      clear hno ho
      obtain ⟨tx, kd, it⟩ := o
      simp only at c0 c1 c2 HN HT
      by_cases h1 : tx = t
      · by_cases h2 : kd = 2
        · have hs := Lib.hid (HT.out (by simp [h1, h2]))
          go_wp2_with fail
          go_ret
          exact ⟨by rw [hs.out]; rfl, Below.refl _ _⟩
        · have hs := Lib.hid (HN.out (by simp [h2]))
          go_wp2_with fail
          go_round
          case rel => exact ⟨k + 1, by omega, by go_num, hs.out⟩
          case measure => simp [intOf]; omega
      · have hs := Lib.hid (HN.out (by simp [h1]))
        go_wp2_with fail
        go_round
        case rel => exact ⟨k + 1, by omega, by go_num, hs.out⟩
        case measure => simp [intOf]; omega
    · have HE : Hid (commitN s t = s.length) := findIdx_end (fun j hj => hno j (by omega))
      clear hno
      go_wp2_with fail
      go_ret
      exact ⟨by rw [HE.out, hl]; rfl, Below.refl _ _⟩

set_option maxHeartbeats 400000 in
theorem touches_any (A : Option Addr) (n c i : Nat) (s : List OpV) (t kd0 x : Int) (w : World) (hx : ROps w A n s) (hi : i ≤ n) :
    Calls Try.prog 132 #[.slice A n c, .int .i64 (i : Int), .int .i64 t, .int .i64 kd0, .int .i64 x] w fun e w' => e = .returned (.bool (touchB s i t kd0 x)) ∧ Below w.heap.size w w' := by
  have hn := hx.2.1
  have hl := hx.1
  have HX := Lib.hid hx
  clear hx
  go_enter Try.func132, Try.ntmps132
  go_wp2_with fail
  go_loop [11] (fun i' => ∃ k : Nat, k ≤ i ∧ i' = .int .i64 k ∧ (∀ j, j < k → ∀ o, s[j]? = some o → (o.tx == t && o.kind == kd0 && o.item == x) = false)) (fun i' => i - (intOf i').toNat)
  case atStart => exact ⟨0, Nat.zero_le _, rfl, by omega⟩
  case round =>
    obtain ⟨k, hk, rfl, hno⟩ := hrel
    by_cases hlt : k < i
    · obtain ⟨b, off, o, rfl, hbl, ho, c0, c1, c2⟩ := HX.out.at_ (k := k) (by omega)
      have HN : Hid ((o.tx == t && o.kind == kd0 && o.item == x) = false → ∀ j, j < k + 1 → ∀ o, s[j]? = some o → (o.tx == t && o.kind == kd0 && o.item == x) = false) := fun h => no_snoc (p := fun o => o.tx == t && o.kind == kd0 && o.item == x) ho hno h
      have HT : Hid ((o.tx == t && o.kind == kd0 && o.item == x) = true → touchB s i t kd0 x = true) := fun h => by
        refine List.any_eq_true.2 ⟨o, ?_, h⟩
        exact List.mem_of_getElem? (i := k) (by rw [List.getElem?_take, if_pos hlt]; exact ho)
      clear hno ho
      obtain ⟨tx, kd, it⟩ := o
      simp only at c0 c1 c2 HN HT
      by_cases h1 : tx = t
      · by_cases h2 : kd = kd0
        · by_cases h3 : it = x
          · have hs := Lib.hid (HT.out (by simp [h1, h2, h3]))
            go_wp2_with fail
            go_ret
            exact ⟨ret_bool hs.out.symm, Below.refl _ _⟩
          · have hs := Lib.hid (HN.out (by simp [h3]))
            go_wp2_with fail
            go_round
            case rel => exact ⟨k + 1, by omega, by go_num, hs.out⟩
            case measure => simp [intOf]; omega
        · have hs := Lib.hid (HN.out (by simp [h2]))
          go_wp2_with fail
          go_round
          case rel => exact ⟨k + 1, by omega, by go_num, hs.out⟩
          case measure => simp [intOf]; omega
      · have hs := Lib.hid (HN.out (by simp [h1]))
        go_wp2_with fail
        go_round
        case rel => exact ⟨k + 1, by omega, by go_num, hs.out⟩
        case measure => simp [intOf]; omega
    · have HE : Hid (touchB s i t kd0 x = false) := find_none_all (fun j hj o ho => by
        rw [List.getElem?_take] at ho
        split at ho
        · exact hno j (by omega) o ho
        · cases ho)
      clear hno
      go_wp2_with fail
      go_ret
      exact ⟨ret_bool HE.out.symm, Below.refl _ _⟩
end Go.Proofs.Ytofcpfabjfhjoaa
namespace Go.Proofs.Ytofcpfabjfhjoaa
open Go.RowKit Go.BigFrame
set_option linter.unusedVariables false

theorem noEnd_true {s : List OpV} {i : Nat} {t : Int} (h : ∀ j, j < i → ∀ o, s[j]? = some o → (o.tx == t && isEnd o) = false) : noEnd (s.take i) t = true := by
  unfold noEnd
  rw [List.all_eq_true]
  intro o ho
  obtain ⟨j, hj⟩ := List.mem_iff_getElem?.1 ho
  rw [List.getElem?_take] at hj
  split at hj
  · rw [h j (by omega) o hj]; rfl
  · cases hj
theorem noEnd_false {s : List OpV} {i k : Nat} {t : Int} {o : OpV} (hk : k < i) (ho : s[k]? = some o) (h : (o.tx == t && isEnd o) = true) : noEnd (s.take i) t = false := by
  unfold noEnd
  rw [List.all_eq_false]
  exact ⟨o, List.mem_of_getElem? (i := k) (by rw [List.getElem?_take, if_pos hk]; exact ho), by rw [h]; simp⟩

set_option maxRecDepth 100000 in
set_option maxHeartbeats 1000000 in
theorem svalid_any (A : Option Addr) (n c : Nat) (s : List OpV) (w : World) (hx : ROps w A n s) :
    Calls Try.prog 70 #[.slice A n c] w fun e w' => e = .returned (.bool (validS s)) ∧ Below w.heap.size w w' := by
  have hn := hx.2.1
  have hl := hx.1
  have HX := Lib.hid hx
  clear hx
  by_cases h16 : 16 < n
  · have HV : Hid (validS s = false) := by
      show _ = _
      unfold validS
      have : decide (s.length ≤ 16) = false := by simp; omega
      rw [this]; rfl
    go_enter Try.func70, Try.ntmps70
    go_wp2_with fail
    go_ret
    exact ⟨ret_bool HV.out.symm, Below.refl _ _⟩
  · go_enter Try.func70, Try.ntmps70
    go_wp2_with fail
    go_loopw [3] (fun i wr => ∃ k : Nat, k ≤ n ∧ i = .int .i64 k ∧ Below w.heap.size w wr ∧ (∀ j, j < k → goodAt s j = true)) (fun i _ => n - (intOf i).toNat)
    case atStart => exact ⟨0, Nat.zero_le _, rfl, Below.refl _ _, by omega⟩
    case round =>
      obtain ⟨wo, rfl⟩ : ∃ wo : World, wo = wr := ⟨_, rfl⟩
      obtain ⟨i, hi, rfl, hb, hno⟩ := hrel
      by_cases hlt : i < n
      · have hxr := HX.out.below hb (Nat.le_refl _)
        obtain ⟨b, off, o, rfl, hbl, ho, c0, c1, c2⟩ := hxr.at_ hlt
        have HX2 := Lib.hid hxr
        have hg : goodAt s i = (validOp o && noEnd (s.take i) o.tx) := by unfold goodAt; rw [ho]
        clear hxr ho
        cases hv : validOp o
        · have HB := Lib.hid (validS_bad (s := s) (k := i) (by omega) (by rw [hg, hv]; rfl))
          clear hg hno
          obtain ⟨tx, kd, it⟩ := o
          have hv' : ∀ W : World, Calls Try.prog 120 #[.agg #[.int .i64 tx, .int .i64 kd, .int .i64 it]] W fun e w' => e = .returned (.bool false) ∧ Below W.heap.size W w' := fun W => by
            have := svalidOp_any ⟨tx, kd, it⟩ W; rw [hv] at this; exact this
          have HV := Lib.hid hv'
          clear hv hv'
          go_wp2_with (go_at_call 120; refine (HV.out _).mono ?_; rintro e w1 ⟨rfl, hb1⟩)
          go_ret
          exact ⟨ret_bool HB.out.symm, hb.trans (hb1.mono hb.size)⟩
        · rw [hv, Bool.true_and] at hg
          have HG := Lib.hid hg
          have HN := Lib.hid hno
          obtain ⟨tx, kd, it⟩ := o
          have hv' : ∀ W : World, Calls Try.prog 120 #[.agg #[.int .i64 tx, .int .i64 kd, .int .i64 it]] W fun e w' => e = .returned (.bool true) ∧ Below W.heap.size W w' := fun W => by
            have := svalidOp_any ⟨tx, kd, it⟩ W; rw [hv] at this; exact this
          have HV := Lib.hid hv'
          clear hv hv' hg hno
          go_wp2_with (go_at_call 120; refine (HV.out _).mono ?_; rintro e w1 ⟨rfl, hb1⟩)
          go_loopw [4] (fun i' wr => ∃ k : Nat, k ≤ i ∧ i' = .int .i64 k ∧ Below wo.heap.size wo wr ∧ (∀ j, j < k → ∀ o, s[j]? = some o → (o.tx == tx && isEnd o) = false)) (fun i' _ => i - (intOf i').toNat)
          case atStart => exact ⟨0, Nat.zero_le _, rfl, hb1, by omega⟩
          case round =>
            clear hb1 w1
            obtain ⟨k, hk, rfl, hb1, hno⟩ := hrel
            by_cases hlt2 : k < i
            · have hxr := HX2.out.below hb1 (Nat.le_refl _)
              obtain ⟨b', off', q, hA, _, hq, d0, d1, d2⟩ := hxr.at_ (k := k) (by omega)
              injection hA with hA
              injection hA with e1 e2
              subst e1; subst e2
              have hc0 := (hb1.cell (p := ⟨b, off + i * 3, none⟩) (by simpa using hbl)).trans c0
              have L0 := Later.cell hc0
              have M0 := Later.cell d0
              have M1 := Later.cell d1
              have M2 := Later.cell d2
              have HN2 : Hid ((q.tx == tx && isEnd q) = false → ∀ j, j < k + 1 → ∀ o, s[j]? = some o → (o.tx == tx && isEnd o) = false) := fun h => no_snoc (p := fun o => o.tx == tx && isEnd o) hq hno h
              have HT : Hid ((q.tx == tx && isEnd q) = true → validS s = false) := fun h => validS_bad (k := i) (by omega) (by rw [HG.out]; exact noEnd_false hlt2 hq h)
              clear hno hq d0 d1 d2 hc0 hxr
              have hki : (k : Int) < (n : Int) := by omega
              have hii : (i : Int) < (n : Int) := by omega
              obtain ⟨qx, qk, qi⟩ := q
              simp only at M0 M1 M2 HN2 HT
              cases h1 : (qx == tx)
              · have hs := Lib.hid (HN2.out (by simp [h1]))
                go_wp2_with fail
                refine region_later (by kernel_rfl) (by kernel_rfl) ?_
                repeat (go_big_quiet_step (fail))
                refine wpQuiet_nil ?_
                rintro _ ⟨u, rfl⟩
                have hbu := hb1.trans (u.2.mono hb1.size)
                go_wp2_with fail
                go_roundw
                case rel => exact ⟨k + 1, by omega, by go_num, hbu, hs.out⟩
                case measure => simp [intOf]; omega
              · obtain ⟨be, hbe⟩ : ∃ be, isEnd ⟨qx, qk, qi⟩ = be := ⟨_, rfl⟩
                have he' : ∀ u : Later wr, Calls Try.prog 121 #[.agg #[.int .i64 qx, .int .i64 qk, .int .i64 qi]] u.1 fun e w' => e = .returned (.bool be) ∧ Below u.1.heap.size u.1 w' := fun u => by
                  have := sends_any ⟨qx, qk, qi⟩ u.1; rw [hbe] at this; exact this
                have HE := Lib.hid he'
                have HBE := Lib.hid hbe
                have H1 := Lib.hid h1
                clear he' hbe
                cases be
                · have hs := Lib.hid (HN2.out (by rw [HBE.out]; simp))
                  go_wp2_with fail
                  refine region_later (by kernel_rfl) (by kernel_rfl) ?_
                  repeat (go_big_quiet_step ((go_at_call 121; exact later_call _ (HE.out _))))
                  refine wpQuiet_nil ?_
                  rintro _ ⟨u, rfl⟩
                  have hbu := hb1.trans (u.2.mono hb1.size)
                  go_wp2_with fail
                  go_roundw
                  case rel => exact ⟨k + 1, by omega, by go_num, hbu, hs.out⟩
                  case measure => simp [intOf]; omega
                · have hs := Lib.hid (HT.out (by rw [HBE.out, H1.out]; rfl))
                  go_wp2_with fail
                  refine region_later (by kernel_rfl) (by kernel_rfl) ?_
                  repeat (go_big_quiet_step ((go_at_call 121; exact later_call _ (HE.out _))))
                  refine wpQuiet_nil ?_
                  rintro _ ⟨u, rfl⟩
                  have hbu := hb.trans ((hb1.trans (u.2.mono hb1.size)).mono hb.size)
                  go_wp2_with fail
                  go_ret
                  exact ⟨ret_bool hs.out.symm, hbu⟩
            · have hq := Lib.hid (all_snoc HN.out (by rw [HG.out]; exact noEnd_true (fun j hj => hno j (by omega))))
              clear hno
              go_wp2_with fail
              go_roundw
              case rel => exact ⟨i + 1, by omega, by go_num, hb.trans (hb1.mono hb.size), hq.out⟩
              case measure => simp [intOf]; omega
      · have HE := Lib.hid (validS_end (s := s) (fun j hj => hno j (by omega)))
        clear hno
        go_wp2_with fail
        go_ret
        exact ⟨ret_bool (by rw [HE.out, hl]; simp; omega), hb⟩
end Go.Proofs.Ytofcpfabjfhjoaa
namespace Go.Proofs.Ytofcpfabjfhjoaa
open Go.RowKit Go.BigFrame
set_option linter.unusedVariables false

def meetAt (s : List OpV) (t u x : Int) : Bool := touchB s s.length t 1 x && touchB s s.length u 1 x
def meetTo (s : List OpV) (t u : Int) (k : Nat) : Bool := ((List.range k).map fun i : Nat => (i : Int)).any fun x => meetAt s t u x
theorem meetTo_three (s : List OpV) (t u : Int) : meetTo s t u 3 = meetsB s t u := rfl
theorem meetTo_succ (s : List OpV) (t u : Int) (k : Nat) : meetTo s t u (k + 1) = (meetTo s t u k || meetAt s t u k) := by
  unfold meetTo
  rw [List.range_succ, List.map_append, List.any_append]
  simp
theorem meetTo_hit {s : List OpV} {t u : Int} {k : Nat} (hk : k < 3) (h : meetAt s t u k = true) : meetsB s t u = true := by
  rw [← meetTo_three]
  have h1 : meetTo s t u (k + 1) = true := by rw [meetTo_succ, h, Bool.or_true]
  rcases (by omega : k = 0 ∨ k = 1 ∨ k = 2) with rfl | rfl | rfl
  · rw [meetTo_succ, meetTo_succ, h1]; rfl
  · rw [meetTo_succ, h1]; rfl
  · exact h1

set_option maxHeartbeats 1000000 in
theorem meets_any (A : Option Addr) (n c : Nat) (s : List OpV) (t u : Int) (w : World) (hx : ROps w A n s) :
    Calls Try.prog 124 #[.slice A n c, .int .i64 t, .int .i64 u] w fun e w' => e = .returned (.bool (meetsB s t u)) ∧ Below w.heap.size w w' := by
  have hn := hx.2.1
  have hl := hx.1
  have HX := Lib.hid hx
  clear hx
  go_enter Try.func124, Try.ntmps124
  go_wp2_with fail
  go_loopw [7] (fun i wr => ∃ k : Nat, k ≤ 3 ∧ i = .int .i64 k ∧ Below w.heap.size w wr ∧ meetTo s t u k = false) (fun i _ => 3 - (intOf i).toNat)
  case atStart => exact ⟨0, by omega, rfl, Below.refl _ _, rfl⟩
  case round =>
    obtain ⟨k, hk, rfl, hb, hno⟩ := hrel
    by_cases hlt : k < 3
    · obtain ⟨b1, hb1⟩ : ∃ b1, touchB s n t 1 (k : Int) = b1 := ⟨_, rfl⟩
      obtain ⟨b2, hb2⟩ : ∃ b2, touchB s n u 1 (k : Int) = b2 := ⟨_, rfl⟩
      have hm : meetAt s t u k = (b1 && b2) := by unfold meetAt; rw [hl, hb1, hb2]
      have hT : ∀ W : World, Below w.heap.size w W → Calls Try.prog 132 #[.slice A n c, .int .i64 (n : Int), .int .i64 t, .int .i64 1, .int .i64 (k : Int)] W fun e w' => e = .returned (.bool b1) ∧ Below W.heap.size W w' := fun W h => by
        have := touches_any A n c n s t 1 k W (HX.out.below h (Nat.le_refl _)) (Nat.le_refl _)
        rw [hb1] at this; exact this
      have hU : ∀ W : World, Below w.heap.size w W → Calls Try.prog 132 #[.slice A n c, .int .i64 (n : Int), .int .i64 u, .int .i64 1, .int .i64 (k : Int)] W fun e w' => e = .returned (.bool b2) ∧ Below W.heap.size W w' := fun W h => by
        have := touches_any A n c n s u 1 k W (HX.out.below h (Nat.le_refl _)) (Nat.le_refl _)
        rw [hb2] at this; exact this
      have HT := Lib.hid hT
      have HU := Lib.hid hU
      have HM := Lib.hid hm
      have HN := Lib.hid hno
      clear hT hU hm hb1 hb2 hno
      go_wp2_with fail
      refine (HT.out _ hb).mono ?_
      rintro e w1 ⟨rfl, hb1⟩
      have hbw1 := hb.trans (hb1.mono hb.size)
      cases b1
      · have hz : Hid (meetTo s t u (k + 1) = false) := by show _ = _; rw [meetTo_succ, HN.out, HM.out]; rfl
        go_wp2_with fail
        go_roundw
        case rel => exact ⟨k + 1, by omega, by go_num, hbw1, hz.out⟩
        case measure => simp [intOf]; omega
      · go_wp2_with fail
        refine (HU.out _ hbw1).mono ?_
        rintro e w2 ⟨rfl, hb2⟩
        have hbw2 := hbw1.trans (hb2.mono hbw1.size)
        cases b2
        · have hz : Hid (meetTo s t u (k + 1) = false) := by show _ = _; rw [meetTo_succ, HN.out, HM.out]; rfl
          go_wp2_with fail
          go_roundw
          case rel => exact ⟨k + 1, by omega, by go_num, hbw2, hz.out⟩
          case measure => simp [intOf]; omega
        · have hz := Lib.hid (meetTo_hit hlt HM.out)
          go_wp2_with fail
          go_ret
          exact ⟨ret_bool hz.out.symm, hbw2⟩
    · obtain rfl : k = 3 := by omega
      rw [meetTo_three] at hno
      have HN := Lib.hid hno
      clear hno
      go_wp2_with fail
      go_ret
      exact ⟨ret_bool HN.out.symm, hb⟩

theorem svalid'_any (A : Option Addr) (n c : Nat) (s : List OpV) (w : World) (hx : ROps w A n s) (hnc : n ≤ c) :
    Calls Try.prog 70 #[.slice A n c] w fun e w' => e = .returned (.bool (validS s)) ∧ Below w.heap.size w w' := svalid_any A n c s w hx

def fS (s : List OpV) (t u : Int) : Bool := decide (commitN s u < stampN s t) || !meetsB s t u
def sStep (s : List OpV) (out : List Int) (o : OpV) : List Int := if o.kind == 2 && out.all (fS s o.tx) then out ++ [o.tx] else out
def sTo (s : List OpV) (k : Nat) : List Int := (s.take k).foldl (sStep s) []
def survS (s : List OpV) : List Int := s.foldl (sStep s) []
theorem sTo_succ {s : List OpV} {k : Nat} {o : OpV} (h : s[k]? = some o) : sTo s (k + 1) = sStep s (sTo s k) o := by
  unfold sTo
  rw [take_snoc h, List.foldl_append]; rfl
theorem sTo_all {s : List OpV} {k : Nat} (h : s.length ≤ k) : sTo s k = survS s := by
  unfold sTo survS
  rw [List.take_of_length_le h]
theorem all_take_succ {xs : List Int} {f : Int → Bool} {k : Nat} {x : Int} (h : xs[k]? = some x) : (xs.take (k + 1)).all f = ((xs.take k).all f && f x) := by
  rw [take_snoc h, List.all_append]; simp
theorem all_of_take_false {xs : List Int} {f : Int → Bool} {k : Nat} (h : (xs.take k).all f = false) : xs.all f = false := by
  rw [List.all_eq_false] at *
  obtain ⟨x, hx, h1⟩ := h
  exact ⟨x, List.mem_of_mem_take hx, h1⟩

set_option maxRecDepth 100000 in
set_option maxHeartbeats 2000000 in
theorem survivors_any (A : Option Addr) (n c : Nat) (s : List OpV) (w : World) (hx : ROps w A n s) :
    Calls Try.prog 71 #[.slice A n c] w (RetInts w (survS s)) := by
  have hn := hx.2.1
  have hl := hx.1
  have HX := Lib.hid hx
  clear hx
  have HST : Hid ((w.alloc (.cells #[] 3)).ownsRow w.heap.size 3 1 (.slice (some ⟨w.heap.size, 0, none⟩) 0 0) 0 (intCells (sTo s 0))) :=
    World.ownsRow_made w #[] 0 (Nat.le_refl _) (by decide) rfl
  go_enter Try.func71, Try.ntmps71
  go_wp2_with fail
  go_loopw [3, 4] (fun ov i wr => ∃ (k m : Nat), k ≤ n ∧ m ≤ k ∧ i = .int .i64 k ∧ Below w.heap.size w wr ∧ wr.ownsRow w.heap.size 3 1 ov m (intCells (sTo s k))) (fun _ i _ => n - (intOf i).toNat)
  case atStart => exact ⟨0, 0, Nat.zero_le _, Nat.le_refl _, rfl, (Below.refl _ _).alloc (Nat.le_refl _) _, HST.out⟩
  case round =>
    clear HST
    obtain ⟨wo, rfl⟩ : ∃ wo : World, wo = wr := ⟨_, rfl⟩
    obtain ⟨i, m, hi, hmi, rfl, hb, hown⟩ := hrel
    by_cases hlt : i < n
    · have hxr := HX.out.below hb (Nat.le_refl _)
      obtain ⟨b, off, o, rfl, hbl, ho, c0, c1, c2⟩ := hxr.at_ hlt
      have HX2 := Lib.hid hxr
      have hs := hb.size
      have hstep := Lib.hid (sTo_succ ho)
      obtain ⟨Ao, co, rfl, hmc⟩ := own_form2 hown
      have hri := RInts.of_own hown (by omega)
      have hml := own_lenInts hown
      have HRI := Lib.hid hri
      clear hxr ho hri
      obtain ⟨tx, kd, it⟩ := o
      simp only at hstep c0 c1 c2
      generalize hO : sTo s i = out at *
      have HO := Lib.hid hO
      clear hO
      obtain ⟨bk, hbk⟩ : ∃ bk, (kd == 2) = bk := ⟨_, rfl⟩
      go_wp2_with fail
      go_loopw [5, 6] (fun okv j wr => ∃ (k : Nat) (ok : Bool), k ≤ m ∧ j = .int .i64 k ∧ okv = .bool ok ∧ ok = (bk && (out.take k).all (fS s tx)) ∧ Below wo.heap.size wo wr) (fun _ j _ => m - (intOf j).toNat)
      case atStart => exact ⟨0, bk, Nat.zero_le _, rfl, by first | rfl | rw [hbk] | rw [← hbk], by simp, Below.refl _ _⟩
      case round =>
        obtain ⟨k, ok, hk, rfl, rfl, hok, hb1⟩ := hrel
        have HOK := Lib.hid hok
        clear hok
        have hsz := hb1.size
        by_cases hcont : k < m ∧ ok = true
        · obtain ⟨hlt2, rfl⟩ := hcont
          obtain ⟨bo, offo, x, hA, hbo, hxx, hcx⟩ := HRI.out.at_ hlt2
          subst hA
          have hall := Lib.hid (all_take_succ (f := fS s tx) hxx)
          have hxr := HX2.out.below hb1 (Nat.le_refl _)
          have L0 := Later.cell ((hb1.cell (p := ⟨b, off + i * 3, none⟩) (by simpa using hbl)).trans c0)
          have L1 := Later.cell ((hb1.cell (p := ⟨bo, offo + k, none⟩) (by simpa using hbo)).trans hcx)
          have hC : ∀ u : Later wr, Calls Try.prog 122 #[.slice (some ⟨b, off, none⟩) n c, .int .i64 x] u.1 fun e w' => e = .returned (.int .i64 (commitN s x : Nat)) ∧ Below u.1.heap.size u.1 w' := fun u => commitAt_any _ n c s x u.1 (hxr.later u)
          have hF : ∀ u : Later wr, Calls Try.prog 123 #[.slice (some ⟨b, off, none⟩) n c, .int .i64 tx] u.1 fun e w' => e = .returned (.int .i64 (stampN s tx : Nat)) ∧ Below u.1.heap.size u.1 w' := fun u => stampOf_any _ n c s tx u.1 (hxr.later u)
          obtain ⟨bm, hbm⟩ : ∃ bm, meetsB s tx x = bm := ⟨_, rfl⟩
          have hM : ∀ u : Later wr, Calls Try.prog 124 #[.slice (some ⟨b, off, none⟩) n c, .int .i64 tx, .int .i64 x] u.1 fun e w' => e = .returned (.bool bm) ∧ Below u.1.heap.size u.1 w' := fun u => by
            have := meets_any _ n c s tx x u.1 (hxr.later u); rw [hbm] at this; exact this
          have HC := Lib.hid hC
          have HF := Lib.hid hF
          have HM := Lib.hid hM
          have hfS : fS s tx x = (decide (commitN s x < stampN s tx) || !bm) := by unfold fS; rw [hbm]
          obtain ⟨cx, hcx'⟩ : ∃ cx, commitN s x = cx := ⟨_, rfl⟩
          obtain ⟨st, hst⟩ : ∃ st, stampN s tx = st := ⟨_, rfl⟩
          rw [hcx'] at HC hfS
          rw [hst] at HF hfS
          have HFS := Lib.hid hfS
          clear hC hF hM hxr hxx hcx hbm hfS hcx' hst hbk
          have hki : (k : Int) < (m : Int) := by omega
          have hii : (i : Int) < (n : Int) := by omega
          by_cases hlt3 : cx < st
          · have hd : decide (cx < st) = true := by simpa using hlt3
            go_wp2_with fail
            refine region_later (by kernel_rfl) (by kernel_rfl) ?_
            repeat (go_big_quiet_step ((first | (go_at_call 122; exact later_call _ (HC.out _)) | (go_at_call 123; exact later_call _ (HF.out _)))))
            refine wpQuiet_nil ?_
            rintro _ ⟨u, rfl⟩
            have hbu := hb1.trans (u.2.mono hb1.size)
            go_wp2_with fail
            go_roundw
            case rel => exact ⟨k + 1, true, by omega, by go_num, rfl, by rw [hall.out, HFS.out, hd, ← Bool.and_assoc, ← HOK.out]; rfl, hbu⟩
            case measure => simp [intOf]; omega
          · have hd : decide (cx < st) = false := by simpa using hlt3
            go_wp2_with fail
            refine region_later (by kernel_rfl) (by kernel_rfl) ?_
            repeat (go_big_quiet_step ((first | (go_at_call 122; exact later_call _ (HC.out _)) | (go_at_call 123; exact later_call _ (HF.out _)) | (go_at_call 124; exact later_call _ (HM.out _)))))
            refine wpQuiet_nil ?_
            rintro _ ⟨u, rfl⟩
            have hbu := hb1.trans (u.2.mono hb1.size)
            go_wp2_with fail
            go_roundw
            case rel => exact ⟨k + 1, !bm, by omega, by go_num, rfl, by rw [hall.out, HFS.out, hd, ← Bool.and_assoc, ← HOK.out]; rfl, hbu⟩
            case measure => simp [intOf]; omega
        · have hownr := own_below hown hb1
          have hbw := hb.trans (hb1.mono hs)
          have hxr := HX2.out.below hb1 (Nat.le_refl _)
          have hcr := (hb1.cell (p := ⟨b, off + i * 3, none⟩) (by simpa using hbl)).trans c0
          have HBK := Lib.hid hbk
          clear hbk
          cases ok
          · have hfin : Hid (sTo s (i + 1) = out) := by
              show _ = _
              rw [hstep.out]
              unfold sStep
              have h1 := HOK.out
              have : (kd == 2 && out.all (fS s tx)) = false := by
                rw [HBK.out]
                cases bk with
                | false => rfl
                | true => exact all_of_take_false (k := k) (by simpa using h1.symm)
              rw [this]; rfl
            go_wp2_with fail
            all_goals
              go_roundw
              case rel => exact ⟨i + 1, m, by omega, by omega, by go_num, hbw, by rw [hfin.out]; exact hownr⟩
              case measure => simp [intOf]; omega
          · have hkm : ¬ k < m := fun h => hcont ⟨h, rfl⟩
            obtain rfl : k = m := by omega
            have hfin : Hid (sTo s (i + 1) = out ++ [tx]) := by
              show _ = _
              rw [hstep.out]
              unfold sStep
              have h1 := HOK.out
              rw [List.take_of_length_le (by omega)] at h1
              rw [HBK.out, ← h1]; rfl
            go_wp2_with (at_builtin; refine app_ints (.tmp 58) (.tmp 64) (hownr.alloc _) (by simp; omega) (lit1 rfl _) (by omega) rfl rfl rfl rfl ?_; intro v3 w3 hown3 hg3 hat3)
            have hb3 := Below.own hbw hownr (Nat.le_refl _) (World.grownBy.trans (World.grownBy_alloc wr _ _) hg3)
            go_roundw
            case rel => exact ⟨i + 1, k + 1, by omega, by omega, by go_num, hb3, by rw [hfin.out]; exact hown3⟩
            case measure => simp [intOf]; omega
    · obtain ⟨Ao, co, rfl, hmc⟩ := own_form2 hown
      rw [sTo_all (by omega)] at hown
      have HO := Lib.hid (RetInts.mk (c := co) (own_lenInts hown) hmc (FreshInts.of_own hown (Nat.le_refl _) (by omega)) hb)
      clear hown
      go_wp2_with fail
      go_ret
      exact HO.out


set_option maxHeartbeats 400000 in
theorem sSurvivorsOf_any (A : Option Addr) (n c : Nat) (s : List OpV) (w : World) (hx : ROps w A n s) (hnc : n ≤ c) :
    Calls Try.prog 18 #[.slice A n c] w (RetInts w (orNil (validS s) (survS s))) := by
  have HX := Lib.hid hx
  clear hx
  go_enter Try.func18, Try.ntmps18
  go_wp2_with fail
  refine (svalid'_any A n c s w HX.out hnc).mono ?_
  rintro e w1 ⟨rfl, hb⟩
  cases hv : validS s
  · have HV := Lib.hid hv
    clear hv
    go_wp2_with fail
    go_ret
    rw [HV.out]
    exact RetInts.nil hb
  · have HV := Lib.hid hv
    clear hv
    go_wp2_with fail
    refine (survivors_any A n c s w1 (HX.out.below hb (Nat.le_refl _))).mono ?_
    rintro e w2 hr
    obtain ⟨A', c', rfl, hr'⟩ := hr
    have HR : Hid (RetInts w1 (survS s) (.returned (.slice A' ((survS s)).length c')) w2) := ⟨A', c', rfl, hr'⟩
    clear hr'
    go_wp2_with fail
    go_ret
    rw [HV.out]
    exact RetInts.later hb HR.out

end Go.Proofs.Ytofcpfabjfhjoaa
namespace Go.Proofs.Ytofcpfabjfhjoaa
open Go.RowKit Go.BigFrame
set_option linter.unusedVariables false

/-- The place of a number in a list, -1 if it is not there. -/
def idxZ (xs : List Int) (x : Int) : Int := if xs.any (fun y => y == x) then (xs.findIdx (fun y => y == x) : Int) else -1
theorem idxZ_hit {xs : List Int} {x y : Int} {k : Nat} (ho : xs[k]? = some y) (h : (y == x) = true) (hno : ∀ j, j < k → ∀ y, xs[j]? = some y → (y == x) = false) : idxZ xs x = (k : Int) := by
  obtain ⟨hk, he⟩ := List.getElem?_eq_some_iff.1 ho
  have h1 : xs.any (fun y => y == x) = true := List.any_eq_true.2 ⟨y, List.mem_of_getElem? ho, h⟩
  have h2 : xs.findIdx (fun y => y == x) = k := by
    rw [List.findIdx_eq hk]
    exact ⟨by rw [he]; exact h, fun j hj => by have := hno j hj _ (List.getElem?_eq_getElem (by omega)); exact this⟩
  unfold idxZ
  rw [h1, h2]; rfl
theorem idxZ_none {xs : List Int} {x : Int} (hno : ∀ j, j < xs.length → ∀ y, xs[j]? = some y → (y == x) = false) : idxZ xs x = -1 := by
  unfold idxZ
  have : xs.any (fun y => y == x) = false := by
    rw [List.any_eq_false]
    intro o ho
    obtain ⟨j, hj⟩ := List.mem_iff_getElem?.1 ho
    have hl : j < xs.length := (List.getElem?_eq_some_iff.1 hj).1
    simp [hno j hl o hj]
  rw [this]; rfl
theorem idxZ_any (xs : List Int) (x : Int) : if (xs.any fun y => y == x) = true then 0 ≤ idxZ xs x else idxZ xs x = -1 := by
  unfold idxZ
  split
  · omega
  · rfl


set_option maxHeartbeats 400000 in
theorem spower_any (n : Nat) (w : World) (hn : n ≤ 61) : Calls Try.prog 133 #[.int .i64 (n : Int)] w fun e w' => e = .returned (.int .i64 ((2 ^ n : Nat) : Int)) ∧ w = w' := by
  go_enter Try.func133, Try.ntmps133
  go_wp2_with fail
  go_loop [0, 3] (fun a b => ∃ k : Nat, k ≤ n ∧ a = .int .i64 ((n : Int) - k) ∧ b = .int .i64 ((2 ^ k : Nat) : Int)) (fun a _ => (intOf a).toNat)
  case atStart => exact ⟨0, Nat.zero_le _, by simp, rfl⟩
  case round =>
    obtain ⟨k, hk, rfl, rfl⟩ := hrel
    by_cases hlt : k < n
    · have h2 : 2 ^ k ≤ 2 ^ 61 := Nat.pow_le_pow_right (by omega) (by omega)
      have h3 : Hid (2 ^ (k + 1) = 2 * 2 ^ k) := by show _ = _; rw [Nat.pow_succ]; omega
      generalize hP : 2 ^ k = p at *
      have HP := Lib.hid hP
      clear hP
      have h4 : p ≤ 2305843009213693952 := by have : (2:Nat) ^ 61 = 2305843009213693952 := by decide
                                              omega
      clear h2
      go_wp2_with fail
      go_round
      case rel => exact ⟨k + 1, by omega, by first | go_num | (congr 1; omega), by rw [h3.out]; first | go_num | (congr 1; omega)⟩
      case measure => simp [intOf]; omega
    · obtain rfl : k = n := by omega
      go_wp2_with fail
      go_ret
      exact ⟨rfl, rfl⟩


set_option maxHeartbeats 400000 in
theorem sbit_any (x j : Nat) (w : World) (hx : x ≤ 4611686018427387904) (hj : j ≤ 61) : Calls Try.prog 79 #[.int .i64 (x : Int), .int .i64 (j : Int)] w fun e w' => e = .returned (.int .i64 (if x.testBit j then 1 else 0)) ∧ w = w' := by
  have HP := Lib.hid (spower_any j w hj)
  have hp : 0 < 2 ^ j := Nat.two_pow_pos _
  have hq : (2 ^ j : Nat) ≤ 2305843009213693952 := by
    have : 2 ^ j ≤ 2 ^ 61 := Nat.pow_le_pow_right (by omega) hj
    have h2 : (2:Nat) ^ 61 = 2305843009213693952 := by decide
    omega
  obtain ⟨r, hr⟩ : ∃ r : Int, (if x.testBit j then 1 else 0) = r := ⟨_, rfl⟩
  rw [hr]
  have HR : Hid (((x / 2 ^ j % 2 : Nat) : Int) = r) := by
    show _ = _
    rw [← hr]
    rw [Nat.testBit_eq_decide_div_mod_eq]
    by_cases h : x / 2 ^ j % 2 = 1
    · rw [h]; simp
    · have : x / 2 ^ j % 2 = 0 := by omega
      rw [this]; simp
  generalize hP : 2 ^ j = p at *
  have hdiv : x / p ≤ x := Nat.div_le_self _ _
  clear hP hr
  have hpi : (p : Int) ≠ 0 := by omega
  have HD : Hid ((wrap64 ((x : Int) / (p : Int))).tmod 2 = ((x / p % 2 : Nat) : Int)) := by
    show _ = _
    have e1 : ((x : Int) / (p : Int)) = ((x / p : Nat) : Int) := by simp
    rw [e1]
    have e2 : wrap64 ((x / p : Nat) : Int) = ((x / p : Nat) : Int) := by
      generalize x / p = q at *
      unfold wrap64
      omega
    rw [e2]
    rfl
  go_enter Try.func79, Try.ntmps79
  go_wp2_with fail
  refine HP.out.mono ?_
  rintro e w1 ⟨rfl, rfl⟩
  go_wp2_with fail
  go_ret
  exact ⟨ret_int (by rw [← HR.out]; exact HD.out), rfl⟩


set_option maxHeartbeats 400000 in
theorem hasInt_any (A : Option Addr) (n c : Nat) (xs : List Int) (x : Int) (w : World) (hx : RInts w A n xs) :
    Calls Try.prog 94 #[.slice A n c, .int .i64 x] w fun e w' => e = .returned (.bool (xs.any fun y => y == x)) ∧ Below w.heap.size w w' := by
  have hn := hx.2.1
  have hl := hx.1
  have HX := Lib.hid hx
  clear hx
  go_enter Try.func94, Try.ntmps94
  go_wp2_with fail
  go_loop [5] (fun i => ∃ k : Nat, k ≤ n ∧ i = .int .i64 k ∧ ((xs.take k).any fun y => y == x) = false) (fun i => n - (intOf i).toNat)
  case atStart => exact ⟨0, Nat.zero_le _, rfl, by simp⟩
  case round =>
    obtain ⟨k, hk, rfl, hno⟩ := hrel
    by_cases hlt : k < n
    · obtain ⟨b, off, y, rfl, hbl, ho, c0⟩ := HX.out.at_ hlt
      have hst : ((xs.take (k + 1)).any fun y => y == x) = ((xs.take k).any (fun y => y == x) || y == x) := by
        rw [List.take_add_one, ho, List.any_append]; simp
      rw [hno, Bool.false_or] at hst
      have HS := Lib.hid hst
      have HM := Lib.hid (List.mem_of_getElem? ho)
      clear hst ho hno
      by_cases h1 : y = x
      · have ht : Hid ((xs.any fun y => y == x) = true) := List.any_eq_true.2 ⟨y, HM.out, by simpa using h1⟩
        go_wp2_with fail
        go_ret
        exact ⟨ret_bool ht.out.symm, Below.refl _ _⟩
      · have h1' : (y == x) = false := by simpa using h1
        go_wp2_with fail
        go_round
        case rel => exact ⟨k + 1, by omega, by go_num, by rw [HS.out]; exact h1'⟩
        case measure => simp [intOf]; omega
    · rw [List.take_of_length_le (by omega)] at hno
      have HN := Lib.hid hno
      clear hno
      go_wp2_with fail
      go_ret
      exact ⟨ret_bool HN.out.symm, Below.refl _ _⟩


set_option maxHeartbeats 400000 in
theorem IndexL_any (A : Option Addr) (n c : Nat) (xs : List Int) (x : Int) (w : World) (hx : RInts w A n xs) :
    Calls Try.prog 154 #[.slice A n c, .int .i64 x] w fun e w' => e = .returned (.int .i64 (idxZ xs x)) ∧ Below w.heap.size w w' := by
  have hn := hx.2.1
  have hl := hx.1
  have HX := Lib.hid hx
  clear hx
  go_enter Try.func154, Try.ntmps154
  go_wp2_with fail
  go_loopw [8] (fun i wr => ∃ k : Nat, k ≤ n ∧ i = .int .i64 k ∧ Below w.heap.size w wr ∧ (∀ j, j < k → ∀ y, xs[j]? = some y → (y == x) = false)) (fun i _ => n - (intOf i).toNat)
  case atStart => exact ⟨0, Nat.zero_le _, rfl, Below.refl _ _, by omega⟩
  case round =>
    obtain ⟨k, hk, rfl, hb, hno⟩ := hrel
    by_cases hlt : k < n
    · obtain ⟨b, off, y, rfl, hbl, ho, c0⟩ := (HX.out.below hb (Nat.le_refl _)).at_ hlt
      have HN : Hid ((y == x) = false → ∀ j, j < k + 1 → ∀ y, xs[j]? = some y → (y == x) = false) := fun h => no_snoc ho hno h
      have HT : Hid ((y == x) = true → idxZ xs x = (k : Int)) := fun h => idxZ_hit ho h hno
      have L0 := Later.cell c0
      clear hno ho
      by_cases h1 : y = x
      · have hs := Lib.hid (HT.out (by simpa using h1))
        have h1' : (x == y) = true := by simpa using h1.symm
        go_wp2_with fail
        try (refine region_later (by kernel_rfl) (by kernel_rfl) ?_; repeat (go_big_quiet_step (fail)); refine wpQuiet_nil ?_; rintro _ ⟨u, rfl⟩; go_wp2_with fail)
        go_ret
        exact ⟨ret_int hs.out.symm, by first | exact hb | exact hb.trans (u.2.mono hb.size)⟩
      · have hs := Lib.hid (HN.out (by simpa using h1))
        have h1' : (x == y) = false := by simpa using fun h => h1 h.symm
        go_wp2_with fail
        try (refine region_later (by kernel_rfl) (by kernel_rfl) ?_; repeat (go_big_quiet_step (fail)); refine wpQuiet_nil ?_; rintro _ ⟨u, rfl⟩; go_wp2_with fail)
        go_roundw
        case rel => exact ⟨k + 1, by omega, by go_num, by first | exact hb | exact hb.trans (u.2.mono hb.size), hs.out⟩
        case measure => simp [intOf]; omega
    · have HE := Lib.hid (idxZ_none (xs := xs) (x := x) (fun j hj => hno j (by omega)))
      clear hno
      go_wp2_with fail
      go_ret
      exact ⟨ret_int HE.out.symm, hb⟩


set_option maxHeartbeats 400000 in
theorem ContainsL_any (A : Option Addr) (n c : Nat) (xs : List Int) (x : Int) (w : World) (hx : RInts w A n xs) :
    Calls Try.prog 134 #[.slice A n c, .int .i64 x] w fun e w' => e = .returned (.bool (xs.any fun y => y == x)) ∧ Below w.heap.size w w' := by
  have HI := Lib.hid (IndexL_any A n c xs x w hx)
  have hz := idxZ_any xs x
  clear hx
  go_enter Try.func134, Try.ntmps134
  go_wp2_with fail
  refine HI.out.mono ?_
  rintro e w1 ⟨rfl, hb⟩
  generalize idxZ xs x = z at *
  cases ha : (xs.any fun y => y == x)
  · rw [ha] at hz
    have hz2 : z = -1 := by simpa using hz
    subst hz2
    have HA := Lib.hid ha
    clear ha hz
    go_wp2_with fail
    go_ret
    exact ⟨ret_bool HA.out.symm, hb⟩
  · rw [ha] at hz
    have hz2 : 0 ≤ z := by simpa using hz
    have HA := Lib.hid ha
    clear ha hz
    go_wp2_with fail
    go_ret
    exact ⟨ret_bool HA.out.symm, hb⟩

end Go.Proofs.Ytofcpfabjfhjoaa
namespace Go.Proofs.Ytofcpfabjfhjoaa
open Go.RowKit Go.BigFrame
set_option linter.unusedVariables false

/-- Block g holds just these values. -/
def RowIs (w : World) (g : Nat) (T : TypeId) (vs : List Value) : Prop := w.heap[g]? = some (.cells vs.toArray T (0, 0))
section
variable {w : World} {g : Nat} {T : TypeId} {vs : List Value}
theorem RowIs.lt (h : RowIs w g T vs) : g < w.heap.size := lt_of_block h
theorem RowIs.cell (h : RowIs w g T vs) {i : Nat} {v : Value} (hv : vs[i]? = some v) : w.cell? ⟨g, i, none⟩ = some v := by
  rw [cell_of_row w g i _ T (0, 0) h]; simpa using hv
theorem RowIs.frozen (h : RowIs w g T vs) (i : Nat) : w.frozen? ⟨g, i, none⟩ = false := frozen_of_row w g i _ T h
theorem RowIs.set (h : RowIs w g T vs) (i : Nat) (v : Value) : RowIs (w.setCell ⟨g, i, none⟩ v) g T (vs.set i v) := by
  unfold RowIs
  rw [heap_setCell_same w g i _ T v h]
  simp
theorem RowIs.alloc (h : RowIs w g T vs) (o : Obj) : RowIs (w.alloc o) g T vs := (Below.heap_alloc w o g h.lt).trans h
theorem RowIs.below {w' : World} {B : Nat} (h : RowIs w g T vs) (hb : Below B w w') (hg : w.heap.size ≤ B) : RowIs w' g T vs := (hb.block g (by have := h.lt; omega)).trans h
end

theorem opCells_put (ys : List OpV) : ∀ (i : Nat) (o : OpV), opCells (ys.set i o) = (((opCells ys).set (i * 3) (.int .i64 o.tx)).set (i * 3 + 1) (.int .i64 o.kind)).set (i * 3 + 2) (.int .i64 o.item) := by
  induction ys with
  | nil => intro i o; simp [opCells]
  | cons y r ih =>
    intro i o
    cases i with
    | zero => simp [opCells]
    | succ i =>
      have e : (i + 1) * 3 = i * 3 + 1 + 1 + 1 := by omega
      rw [e]
      simp only [List.set_cons_succ, opCells, ih]
theorem set_snoc {α : Type} (xs : List α) (k : Nat) (z x : α) (m : Nat) (hk : xs[k]? = some x) :
    (xs.take k ++ List.replicate (m + 1) z).set k x = xs.take (k + 1) ++ List.replicate m z := by
  obtain ⟨hl, he⟩ := List.getElem?_eq_some_iff.1 hk
  have hlen : (xs.take k).length = k := by simp; omega
  rw [List.set_append_right _ _ (by omega), hlen, Nat.sub_self, List.replicate_succ, List.set_cons_zero, take_snoc hk, List.append_assoc]; rfl
theorem opCells_zero (n : Nat) : opCells (List.replicate n OpV.zero) = List.replicate (n * 3) (.int .i64 0) := by
  induction n with
  | zero => rfl
  | succ n ih =>
    rw [List.replicate_succ]
    show Value.int .i64 0 :: .int .i64 0 :: .int .i64 0 :: opCells (List.replicate n OpV.zero) = _
    rw [ih, show (n + 1) * 3 = n * 3 + 1 + 1 + 1 by omega]
    simp [List.replicate_succ]

/-- What a row of operations reads as. -/
theorem RowIs.ops {w : World} {g n : Nat} {T : TypeId} {ys : List OpV} {rest : List Value} (h : RowIs w g T (opCells ys ++ rest)) (hn : ys.length = n) (hm : n ≤ 1099511627776) : ROps w (some ⟨g, 0, none⟩) n ys := by
  refine ⟨hn, hm, fun _ => ⟨g, 0, rfl, h.lt, fun i o ho => ?_⟩⟩
  obtain ⟨c0, c1, c2⟩ := opCells_at ys i o ho
  have hc : ∀ j u, (opCells ys)[j]? = some u → w.cell? ⟨g, 0 + j, none⟩ = some u := fun j u hu => by
    rw [Nat.zero_add]
    refine h.cell ?_
    obtain ⟨hl, _⟩ := List.getElem?_eq_some_iff.1 hu
    rw [List.getElem?_append_left hl]; exact hu
  exact ⟨hc _ _ c0, by have := hc _ _ c1; simpa [Nat.add_assoc] using this, by have := hc _ _ c2; simpa [Nat.add_assoc] using this⟩
theorem RowIs.ints {w : World} {g n : Nat} {T : TypeId} {ys : List Int} {rest : List Value} (h : RowIs w g T (intCells ys ++ rest)) (hn : ys.length = n) (hm : n ≤ 1099511627776) : RInts w (some ⟨g, 0, none⟩) n ys := by
  refine ⟨hn, hm, fun _ => ⟨g, 0, rfl, h.lt, fun i o ho => ?_⟩⟩
  rw [Nat.zero_add]
  refine h.cell ?_
  have : (intCells ys)[i]? = some (.int .i64 o) := by simp [intCells, ho]
  obtain ⟨hl, _⟩ := List.getElem?_eq_some_iff.1 this
  rw [List.getElem?_append_left hl]; exact this
/-- New memory as a row. -/
theorem FreshOps.row {w0 w : World} {A : Option Addr} {n : Nat} {xs : List OpV} (h : FreshOps w0 w A n xs) (h0 : 0 < n) : ∃ g rest, A = some ⟨g, 0, none⟩ ∧ w0.heap.size ≤ g ∧ RowIs w g 46 (opCells xs ++ rest) := by
  obtain ⟨⟨hl, hm, hr⟩, hf⟩ := h
  obtain ⟨b, off, hA, hlt, hc⟩ := hr h0
  obtain ⟨b', cur, had, hge, hh, hsz⟩ := hf _ hA
  injection had with h1 h2 h3
  subst h1; subst h2
  refine ⟨b, cur.toList.drop (n * 3), hA, hge, ?_⟩
  unfold RowIs
  rw [hh]
  congr 2
  apply Array.ext'
  simp only
  have e : opCells xs = cur.toList.take (n * 3) := by
    apply List.ext_getElem?
    intro j
    rcases Nat.lt_or_ge j (n * 3) with hj | hj
    · rw [List.getElem?_take_of_lt hj]
      obtain ⟨v, hv⟩ : ∃ v, (opCells xs)[j]? = some v := ⟨_, List.getElem?_eq_getElem (by rw [length_opCells]; omega)⟩
      rw [hv]
      obtain ⟨i, o, ho, h⟩ := opCells_find xs j v hv
      obtain ⟨c0, c1, c2⟩ := hc i o ho
      have hcell : ∀ q, w.cell? ⟨b, q, none⟩ = cur[q]? := fun q => cell_of_row w b q _ _ (0, 0) hh
      rw [hcell] at c0 c1 c2
      simp only [Nat.zero_add] at c0 c1 c2
      rcases h with ⟨rfl, rfl⟩ | ⟨rfl, rfl⟩ | ⟨rfl, rfl⟩
      · simpa using c0.symm
      · simpa using c1.symm
      · simpa using c2.symm
    · rw [List.getElem?_eq_none (by rw [length_opCells]; omega), List.getElem?_eq_none (by simp; omega)]
  rw [e, List.take_append_drop]
theorem FreshInts.row {w0 w : World} {A : Option Addr} {n : Nat} {xs : List Int} (h : FreshInts w0 w A n xs) (h0 : 0 < n) : ∃ g rest, A = some ⟨g, 0, none⟩ ∧ w0.heap.size ≤ g ∧ RowIs w g 3 (intCells xs ++ rest) := by
  obtain ⟨⟨hl, hm, hr⟩, hf⟩ := h
  obtain ⟨b, off, hA, hlt, hc⟩ := hr h0
  obtain ⟨b', cur, had, hge, hh, hsz⟩ := hf _ hA
  injection had with h1 h2 h3
  subst h1; subst h2
  refine ⟨b, cur.toList.drop n, hA, hge, ?_⟩
  unfold RowIs
  rw [hh]
  congr 2
  apply Array.ext'
  simp only
  have e : intCells xs = cur.toList.take n := by
    apply List.ext_getElem?
    intro j
    rcases Nat.lt_or_ge j n with hj | hj
    · rw [List.getElem?_take_of_lt hj]
      have hx : xs[j]? = some (xs[j]'(by omega)) := List.getElem?_eq_getElem (by omega)
      have c0 := hc j _ hx
      rw [cell_of_row w b _ _ _ (0, 0) hh] at c0
      simp only [Nat.zero_add] at c0
      simp only [intCells, List.getElem?_map, hx]
      simpa using c0.symm
    · rw [List.getElem?_eq_none (by simp [intCells]; omega), List.getElem?_eq_none (by simp; omega)]
  rw [e, List.take_append_drop]

/-- Own rows stay where another block is written. -/
theorem ROps.grown {w w' : World} {B : Option Addr} {n : Nat} {ys : List OpV} {row : Option Nat} (h : ROps w B n ys) (hg : w.grownBy w' row) (hne : ∀ b, B = some b → row ≠ some b.block) : ROps w' B n ys := by
  obtain ⟨h1, h2, h3⟩ := h
  refine ⟨h1, h2, fun hn => ?_⟩
  obtain ⟨b, off, hA, hlt, hc⟩ := h3 hn
  have hs := hg.size
  have hb := hg.block b hlt (fun e => hne _ hA e.symm)
  refine ⟨b, off, hA, by omega, fun i o ho => ?_⟩
  obtain ⟨c0, c1, c2⟩ := hc i o ho
  exact ⟨(World.cell?_of_block (w := w) (a := ⟨b, _, none⟩) hb).trans c0, (World.cell?_of_block (w := w) (a := ⟨b, _, none⟩) hb).trans c1, (World.cell?_of_block (w := w) (a := ⟨b, _, none⟩) hb).trans c2⟩
theorem RInts.grown {w w' : World} {B : Option Addr} {n : Nat} {ys : List Int} {row : Option Nat} (h : RInts w B n ys) (hg : w.grownBy w' row) (hne : ∀ b, B = some b → row ≠ some b.block) : RInts w' B n ys := by
  obtain ⟨h1, h2, h3⟩ := h
  refine ⟨h1, h2, fun hn => ?_⟩
  obtain ⟨b, off, hA, hlt, hc⟩ := h3 hn
  have hs := hg.size
  have hb := hg.block b hlt (fun e => hne _ hA e.symm)
  exact ⟨b, off, hA, by omega, fun i o ho => (World.cell?_of_block (w := w) (a := ⟨b, _, none⟩) hb).trans (hc i o ho)⟩
theorem grown_set {w : World} {g i : Nat} {v : Value} : w.grownBy (w.setCell ⟨g, i, none⟩ v) (some g) :=
  ⟨rfl, rfl, rfl, by simp [World.setCell], fun k hk hne => Below.heap_setCell w ⟨g, i, none⟩ v k (fun e => hne (by rw [e]))⟩
theorem grown_below {w w' : World} {row : Option Nat} (h : Below w.heap.size w w') : w.grownBy w' row := ⟨h.os, h.tape, h.output, h.size, fun i hi _ => h.block i hi⟩

/-- A store of an operation into place k of a row of the call's own. -/
theorem store_op {w : World} {ops : Array Oper} {rest : List Oper} {o : Oper} {a : Act} {Q : Exit → Act → World → Prop} (x y : Operand) {g : Nat} {T : TypeId} {ys : List OpV} {more : List Value} (p : OpV) {k : Nat} (hrow : RowIs w g T (opCells ys ++ more)) (hk : k < ys.length)
    (hgd : o.guard = none) (ho : o.op = .store 46 x y) (hx : a.eval x = .pointer (some ⟨g, k * 3, none⟩)) (hy : a.eval y = .agg #[.int .i64 p.tx, .int .i64 p.kind, .int .i64 p.item])
    (h : ∀ w', RowIs w' g T (opCells (ys.set k p) ++ more) → w.grownBy w' (some g) → wpList Try.prog ops Q rest (a.put o.dst undef) w') : wpList Try.prog ops Q (o :: rest) a w := by
  have hlen := length_opCells ys
  refine wpList_store_mid hgd _ x y ho g (k * 3) #[.int .i64 p.tx, .int .i64 p.kind, .int .i64 p.item] hx hy ?_ (by kernel_rfl) (by simp [Value.oneCell']) ?_
  · intro j hj
    have hj : j < 3 := hj
    have : k * 3 + j < (opCells ys ++ more).length := by rw [List.length_append]; omega
    exact ⟨by rw [hrow.cell (List.getElem?_eq_getElem this)]; rfl, hrow.frozen _⟩
  · refine h _ ?_ ?_
    · have := ((hrow.set (k * 3) (.int .i64 p.tx)).set (k * 3 + 1) (.int .i64 p.kind)).set (k * 3 + 2) (.int .i64 p.item)
      rw [List.set_append_left _ _ (by omega), List.set_append_left _ _ (by simp; omega), List.set_append_left _ _ (by simp; omega), ← opCells_put] at this
      exact this
    · exact World.grownBy.trans (World.grownBy.trans grown_set grown_set) grown_set
theorem made_ints (n : Nat) : (madeCells (Value.int .i64 0).cells (n * 1)).toList = intCells (List.replicate n 0) := by
  apply List.ext_getElem?
  intro j
  simp only [intCells, List.map_replicate, List.getElem?_replicate]
  split
  · rename_i hj
    rw [List.getElem?_eq_getElem (by simpa [size_madeCells] using hj)]
    simp only [madeCells, Array.getElem_toList, Array.getElem_map, Array.getElem_range]
    congr 1
    show (#[Value.int .i64 0] : Array Value)[j % 1]! = _
    rw [Nat.mod_one]; rfl
  · rename_i hj
    rw [List.getElem?_eq_none (by simpa [size_madeCells] using hj)]
/-- A store of an integer. -/
theorem row_setInt {w : World} {g k : Nat} {T : TypeId} {ys : List Int} {more : List Value} {v : Int} (hrow : RowIs w g T (intCells ys ++ more)) (hk : k < ys.length) : RowIs (w.setCell ⟨g, k, none⟩ (.int .i64 v)) g T (intCells (ys.set k v) ++ more) := by
  have := hrow.set k (.int .i64 v)
  rw [List.set_append_left _ _ (by simpa [intCells] using hk)] at this
  have e : (intCells ys).set k (.int .i64 v) = intCells (ys.set k v) := by simp [intCells, List.map_set]
  rw [e] at this
  exact this
end Go.Proofs.Ytofcpfabjfhjoaa
namespace Go.Proofs.Ytofcpfabjfhjoaa
open Go.RowKit Go.BigFrame
set_option linter.unusedVariables false

def rowSet (rows : List Nat) (t u : Int) : List Nat := rows.set t.toNat (rows.getD t.toNat 0 ||| (1 <<< u.toNat))
def agIn (f : Int → Bool) (t : Int) (list : List Int) (rows : List Nat) : List Nat := list.foldl (fun r u => if f u then rowSet r t u else r) rows
def agTo (g : Nat → OpV → Bool) (f : OpV → Int → Bool) (list : List Int) (s : List OpV) : Nat → List Nat
  | 0 => [0, 0, 0, 0]
  | k + 1 => match s[k]? with | some o => if g k o then agIn (f o) o.tx list (agTo g f list s k) else agTo g f list s k | none => agTo g f list s k
def rowsI (rows : List Nat) : List Int := rows.map fun n : Nat => (n : Int)
/-- Four rows of four bits. -/
def Rows4 (rows : List Nat) : Prop := rows.length = 4 ∧ ∀ r ∈ rows, r < 16

theorem rowSet_ok {rows : List Nat} (h : Rows4 rows) {t u : Int} (hu : 0 ≤ u ∧ u ≤ 3) : Rows4 (rowSet rows t u) := by
  refine ⟨by simp [rowSet, h.1], fun r hr => ?_⟩
  unfold rowSet at hr
  rcases List.mem_or_eq_of_mem_set hr with hr | rfl
  · exact h.2 r hr
  · have h1 : rows.getD t.toNat 0 < 2 ^ 4 := by
      rw [List.getD_eq_getElem?_getD]
      cases he : rows[t.toNat]? with
      | none => simp
      | some x => simpa using h.2 x (List.mem_of_getElem? he)
    have h2 : (1 <<< u.toNat) < 2 ^ 4 := by
      rcases (by omega : u.toNat = 0 ∨ u.toNat = 1 ∨ u.toNat = 2 ∨ u.toNat = 3) with e | e | e | e <;> rw [e] <;> decide
    exact Nat.or_lt_two_pow (n := 4) h1 h2
theorem agIn_ok {f : Int → Bool} {t : Int} {list : List Int} (hl : ∀ u ∈ list, 0 ≤ u ∧ u ≤ 3) : ∀ {rows : List Nat}, Rows4 rows → Rows4 (agIn f t list rows) := by
  unfold agIn
  induction list with
  | nil => intro rows h; exact h
  | cons x r ih =>
    intro rows h
    rw [List.foldl_cons]
    refine ih (fun u hu => hl u (by simp [hu])) ?_
    split
    · exact rowSet_ok h (hl x (by simp))
    · exact h
theorem agTo_ok {g : Nat → OpV → Bool} {f : OpV → Int → Bool} {list : List Int} {s : List OpV} (hl : ∀ u ∈ list, 0 ≤ u ∧ u ≤ 3) (k : Nat) : Rows4 (agTo g f list s k) := by
  induction k with
  | zero => exact ⟨rfl, by simp [agTo]⟩
  | succ k ih =>
    simp only [agTo]
    split
    · split
      · exact agIn_ok hl ih
      · exact ih
    · exact ih
theorem agTo_succ {g : Nat → OpV → Bool} {f : OpV → Int → Bool} {list : List Int} {s : List OpV} {k : Nat} {o : OpV} (h : s[k]? = some o) : agTo g f list s (k + 1) = if g k o then agIn (f o) o.tx list (agTo g f list s k) else agTo g f list s k := by
  simp only [agTo, h]
theorem agIn_snoc {f : Int → Bool} {t : Int} {list : List Int} {rows : List Nat} {j : Nat} {u : Int} (h : list[j]? = some u) : agIn f t (list.take (j + 1)) rows = if f u then rowSet (agIn f t (list.take j) rows) t u else agIn f t (list.take j) rows := by
  unfold agIn
  rw [take_snoc h, List.foldl_append]; rfl
theorem rowsI_at {rows : List Nat} (h : Rows4 rows) {T : Nat} (hT : T ≤ 3) : (intCells (rowsI rows))[T]? = some (.int .i64 ((rows.getD T 0 : Nat) : Int)) ∧ rows.getD T 0 < 16 := by
  have hl := h.1
  have e : rows[T]? = some (rows[T]'(by omega)) := List.getElem?_eq_getElem (by omega)
  rw [List.getD_eq_getElem?_getD, e]
  refine ⟨?_, ?_⟩
  · simp [intCells, rowsI, e]
  · simpa using h.2 _ (List.getElem_mem (by omega))
theorem rowsI_set {rows : List Nat} {T : Nat} {u : Int} : rowsI (rowSet rows T u) = (rowsI rows).set T (((rows.getD T 0 ||| (1 <<< u.toNat) : Nat)) : Int) := by
  simp [rowsI, rowSet, List.map_set]
theorem and_bit (m j : Nat) (hm : m < 4611686018427387904) : bits .and .i64 ((m : Int) / 2 ^ j) 1 = if m.testBit j then 1 else 0 := by
  have e : ((m : Int) / 2 ^ j) = ((m / 2 ^ j : Nat) : Int) := by simp
  have h1 : m / 2 ^ j ≤ m := Nat.div_le_self _ _
  rw [e, show (1 : Int) = ((1 : Nat) : Int) from rfl, and_nat _ _ (by omega) (by omega), Nat.and_one_is_mod]
  rw [Nat.testBit_eq_decide_div_mod_eq]
  by_cases h : m / 2 ^ j % 2 = 1
  · rw [h]; simp
  · have : m / 2 ^ j % 2 = 0 := by omega
    rw [this]; simp
theorem validS_item {s : List OpV} (h : validS s = true) {o : OpV} (ho : o ∈ s) : 0 ≤ o.item ∧ o.item ≤ 2 := by
  have := validS_ops h o ho
  simp [validOp, isAcc, isEnd, inR] at this
  omega
theorem validS_tx3 {s : List OpV} (h : validS s = true) {o : OpV} (ho : o ∈ s) : 0 ≤ o.tx ∧ o.tx ≤ 3 := by
  have := validS_ops h o ho
  simp [validOp, inR] at this
  omega
theorem survStep_mem {s : List OpV} {k : Nat} : ∀ u ∈ survTo s k, ∃ o ∈ s, o.tx = u := by
  induction k with
  | zero => simp [survTo]
  | succ k ih =>
    intro u hu
    cases h : s[k]? with
    | none =>
      have hl : s.length ≤ k := by
        rcases Nat.lt_or_ge k s.length with h' | h'
        · rw [List.getElem?_eq_getElem h'] at h; cases h
        · exact h'
      refine ih u ?_
      unfold survTo at *
      rw [List.take_of_length_le (by omega)] at hu
      rw [List.take_of_length_le hl]; exact hu
    | some o =>
      rw [survTo_succ h] at hu
      unfold survStep at hu
      split at hu
      · rcases List.mem_append.1 hu with hu | hu
        · exact ih u hu
        · exact ⟨o, List.mem_of_getElem? h, (List.mem_singleton.1 hu).symm⟩
      · exact ih u hu
theorem survI_rng {s : List OpV} (h : validS s = true) : ∀ u ∈ survI s, 0 ≤ u ∧ u ≤ 3 := by
  intro u hu
  rw [← survTo_all (Nat.le_refl _)] at hu
  obtain ⟨o, ho, rfl⟩ := survStep_mem u hu
  exact validS_tx3 h ho

def gI (s : List OpV) (list : List Int) (k : Nat) (o : OpV) : Bool := o.kind == 0 && (list.any fun y => y == o.tx) && !((wI (s.take k) o.tx).testBit o.item.toNat)
def fI (s : List OpV) (o : OpV) (u : Int) : Bool := u != o.tx && decide (firstI s o.tx < commitI s u) && (wI s u).testBit o.item.toNat
def agI4 (s : List OpV) : List Nat := agTo (gI s (survI s)) (fI s) (survI s) s s.length
theorem itemsOk_take {s : List OpV} (h : itemsOk s) (k : Nat) : itemsOk (s.take k) := fun o ho => h o (List.mem_of_mem_take ho)
end Go.Proofs.Ytofcpfabjfhjoaa
namespace Go.Proofs.Ytofcpfabjfhjoaa
open Go.RowKit Go.BigFrame
set_option linter.unusedVariables false

def vFold (p : Int → Bool) (L : List Int) : Int := L.foldl (fun v u => if p u then u else v) (-1)
theorem vFold_snoc {p : Int → Bool} {L : List Int} {j : Nat} {u : Int} (h : L[j]? = some u) : vFold p (L.take (j + 1)) = if p u then u else vFold p (L.take j) := by
  unfold vFold
  rw [take_snoc h, List.foldl_append]; rfl
def pI (s : List OpV) (o : OpV) (u : Int) : Bool := decide (commitI s u < firstI s o.tx) && (wI s u).testBit o.item.toNat
def verI (s : List OpV) (L : List Int) (k : Nat) (o : OpV) : Int := if (wI (s.take k) o.tx).testBit o.item.toNat then o.tx else vFold (pI s o) L

set_option maxRecDepth 100000 in
set_option maxHeartbeats 4000000 in
theorem versionOf_any (A LA : Option Addr) (n c lc k : Nat) (s : List OpV) (L : List Int) (o : OpV) (w : World) (hx : ROps w A n s) (hL : RInts w LA L.length L) (ho : s[k]? = some o) (hnc : n ≤ c) (hi : itemsOk s) (hit : 0 ≤ o.item ∧ o.item ≤ 2) :
    Calls Try.prog 91 #[.slice A n c, .slice LA L.length lc, .int .i64 (k : Int)] w fun e w' => e = .returned (.int .i64 (verI s L k o)) ∧ Below w.heap.size w w' := by
  have hn := hx.2.1
  have hl := hx.1
  have hlenL := hL.2.1
  have hk : k < n := by have := (List.getElem?_eq_some_iff.1 ho).1; omega
  obtain ⟨b, off, o', rfl, hbl, ho', c0, c1, c2⟩ := hx.at_ hk
  rw [ho] at ho'
  injection ho' with ho'
  subst ho'
  obtain ⟨T, kd, it⟩ := o
  simp only at c0 c1 c2 hit
  obtain ⟨X, rfl⟩ := Int.eq_ofNat_of_zero_le hit.1
  have hres : verI s L k ⟨T, kd, X⟩ = if (wI (s.take k) T).testBit X = true then T else vFold (pI s ⟨T, kd, X⟩) L := rfl
  obtain ⟨bw, hbw⟩ : ∃ bw, (wI (s.take k) T).testBit X = bw := ⟨_, rfl⟩
  have hwm := wTo_lt (s.take k) T (itemsOk_take hi k) (s.take k).length
  have hab := and_bit (wI (s.take k) T) X (by unfold wI; omega)
  rw [hbw] at hab hres
  have HRES := Lib.hid hres
  have hWr : ∀ (W : World), Below w.heap.size w W → Calls Try.prog 118 #[.slice (some ⟨b, off, none⟩) k c, .int .i64 T] W fun e w' => e = .returned (.int .i64 (wI (s.take k) T : Nat)) ∧ Below W.heap.size W w' := fun W hW =>
    writesOf_any _ k c (s.take k) T W ((hx.take (by omega)).below hW (Nat.le_refl _)) (itemsOk_take hi k)
  have HWr := Lib.hid hWr
  have HX := Lib.hid hx
  have HL := Lib.hid hL
  have HI := Lib.hid hi
  generalize hM : wI (s.take k) T = M at *
  clear hWr hres hbw hx hL hi hM hwm ho
  have hkc : (k : Int) ≤ (c : Int) := by omega
  have hk0 : (0 : Int) ≤ (k : Int) := by omega
  have hX0 : (0 : Int) ≤ (X : Int) := by omega
  have hX2 : X ≤ 2 := by omega
  clear hit
  cases bw
  · go_enter Try.func91, Try.ntmps91
    go_wp2_with fail
    obtain ⟨W, hW⟩ : ∃ W : World, W = w.alloc (.cells #[.int .i64 T, .int .i64 kd, .int .i64 (X : Int)] 46) := ⟨_, rfl⟩
    rw [← hW]
    obtain ⟨L0, L1, L2, hbW, hWs⟩ := op_box hW
    clear hW
    refine region_later (by kernel_rfl) (by kernel_rfl) ?_
    repeat (go_big_quiet_step ((first | (go_at_call 118; exact later_call _ (HWr.out _ (hbW.trans (Later.below_ _ hbW.size)))))))
    refine wpQuiet_nil ?_
    rintro _ ⟨u, rfl⟩
    go_wp2_with fail
    have d0 := L0 u
    have d2 := L2 u
    have hbu := hbW.trans (Later.below_ u hbW.size)
    obtain ⟨ui, hui⟩ : ∃ ui : World, u.1 = ui := ⟨_, rfl⟩
    rw [hui] at d0 d2 hbu
    rw [hui]
    clear L0 L1 L2 hui HWr
    go_loopw [8, 30] (fun v j wr => ∃ q : Nat, q ≤ L.length ∧ j = .int .i64 q ∧ v = .int .i64 (vFold (pI s ⟨T, kd, X⟩) (L.take q)) ∧ Below ui.heap.size ui wr) (fun _ j _ => L.length - (intOf j).toNat)
    case atStart => exact ⟨0, Nat.zero_le _, rfl, rfl, Below.refl _ _⟩
    case round =>
      obtain ⟨q, hq, rfl, rfl, hb⟩ := hrel
      have hbw := hbu.trans (hb.mono hbu.size)
      by_cases hlt : q < L.length
      · obtain ⟨bo, offo, U, rfl, hbo, hxx, hcx⟩ := (HL.out.below hbw (Nat.le_refl _)).at_ hlt
        have hsn := Lib.hid (vFold_snoc (p := pI s ⟨T, kd, X⟩) hxx)
        have hxs := HX.out.below hbw (Nat.le_refl _)
        have hC : ∀ v : Later wr, Calls Try.prog 85 #[.slice (some ⟨b, off, none⟩) n c, .int .i64 U] v.1 fun e w' => e = .returned (.int .i64 (commitI s U)) ∧ Below v.1.heap.size v.1 w' := fun v => commitOf_any _ n c s U v.1 (hxs.later v)
        have hF : ∀ v : Later wr, Calls Try.prog 84 #[.slice (some ⟨b, off, none⟩) n c, .int .i64 T] v.1 fun e w' => e = .returned (.int .i64 (firstI s T)) ∧ Below v.1.heap.size v.1 w' := fun v => firstOf_any _ n c s T v.1 (hxs.later v)
        have hW2 : ∀ v : Later wr, Calls Try.prog 118 #[.slice (some ⟨b, off, none⟩) n c, .int .i64 U] v.1 fun e w' => e = .returned (.int .i64 (wI s U : Nat)) ∧ Below v.1.heap.size v.1 w' := fun v => writesOf_any _ n c s U v.1 (hxs.later v) HI.out
        have HC := Lib.hid hC
        have HF := Lib.hid hF
        have HW2 := Lib.hid hW2
        obtain ⟨b3, hb3⟩ : ∃ b3, (wI s U).testBit X = b3 := ⟨_, rfl⟩
        have hwm2 := wTo_lt s U HI.out s.length
        have hab2 := and_bit (wI s U) X (by unfold wI; omega)
        rw [hb3] at hab2
        obtain ⟨cU, hcU⟩ : ∃ z, commitI s U = z := ⟨_, rfl⟩
        obtain ⟨fT, hfT⟩ : ∃ z, firstI s T = z := ⟨_, rfl⟩
        have hfi : pI s ⟨T, kd, X⟩ U = (decide (cU < fT) && b3) := by
          unfold pI
          simp only [Int.toNat_natCast]
          rw [hb3, hcU, hfT]
        rw [hcU] at HC
        rw [hfT] at HF
        generalize hM2 : wI s U = M2 at *
        obtain ⟨b2, hb2⟩ : ∃ b2, decide (cU < fT) = b2 := ⟨_, rfl⟩
        rw [hb2] at hfi
        have hb2' := hb2
        have HFI := Lib.hid hfi
        have e0 := (hb.cell (p := ⟨w.heap.size, 0, none⟩) (block_lt_of_cell d0)).trans d0
        have e2 := (hb.cell (p := ⟨w.heap.size, 2, none⟩) (block_lt_of_cell d2)).trans d2
        have M0 := Later.cell e0
        have M2' := Later.cell e2
        generalize hV : vFold (pI s ⟨T, kd, X⟩) (L.take q) = V at *
        have HV := Lib.hid hV
        clear hC hF hW2 hxs hxx hcU hfT hM2 hwm2 hfi hb3 hb2 hV
        cases b2
        · go_wp2_with fail
          refine region_later (by kernel_rfl) (by kernel_rfl) ?_
          repeat (go_big_quiet_step ((first | (go_at_call 85; exact later_call _ (HC.out _)) | (go_at_call 84; exact later_call _ (HF.out _)) | (go_at_call 118; exact later_call _ (HW2.out _)))))
          refine wpQuiet_nil ?_
          rintro _ ⟨u2, rfl⟩
          go_wp2_with fail
          go_roundw
          case rel => exact ⟨q + 1, by omega, by go_num, by rw [hsn.out, HFI.out]; rfl, hb.trans (u2.2.mono hb.size)⟩
          case measure => simp [intOf]; omega
        · cases b3
          · go_wp2_with fail
            refine region_later (by kernel_rfl) (by kernel_rfl) ?_
            repeat (go_big_quiet_step ((first | (go_at_call 85; exact later_call _ (HC.out _)) | (go_at_call 84; exact later_call _ (HF.out _)) | (go_at_call 118; exact later_call _ (HW2.out _)))))
            refine wpQuiet_nil ?_
            rintro _ ⟨u2, rfl⟩
            go_wp2_with fail
            go_roundw
            case rel => exact ⟨q + 1, by omega, by go_num, by rw [hsn.out, HFI.out]; rfl, hb.trans (u2.2.mono hb.size)⟩
            case measure => simp [intOf]; omega
          · go_wp2_with fail
            refine region_later (by kernel_rfl) (by kernel_rfl) ?_
            repeat (go_big_quiet_step ((first | (go_at_call 85; exact later_call _ (HC.out _)) | (go_at_call 84; exact later_call _ (HF.out _)) | (go_at_call 118; exact later_call _ (HW2.out _)))))
            refine wpQuiet_nil ?_
            rintro _ ⟨u2, rfl⟩
            go_wp2_with fail
            go_roundw
            case rel => exact ⟨q + 1, by omega, by go_num, by rw [hsn.out, HFI.out]; rfl, hb.trans (u2.2.mono hb.size)⟩
            case measure => simp [intOf]; omega
      · have hfin : Hid (vFold (pI s ⟨T, kd, X⟩) (L.take q) = verI s L k ⟨T, kd, X⟩) := by
          show _ = _
          rw [HRES.out, List.take_of_length_le (by omega)]; rfl
        go_wp2_with fail
        go_ret
        exact ⟨ret_int hfin.out, hbw⟩
  · go_enter Try.func91, Try.ntmps91
    go_wp2_with fail
    obtain ⟨W, hW⟩ : ∃ W : World, W = w.alloc (.cells #[.int .i64 T, .int .i64 kd, .int .i64 (X : Int)] 46) := ⟨_, rfl⟩
    rw [← hW]
    obtain ⟨L0, L1, L2, hbW, hWs⟩ := op_box hW
    clear hW
    refine region_later (by kernel_rfl) (by kernel_rfl) ?_
    repeat (go_big_quiet_step ((first | (go_at_call 118; exact later_call _ (HWr.out _ (hbW.trans (Later.below_ _ hbW.size)))))))
    refine wpQuiet_nil ?_
    rintro _ ⟨u, rfl⟩
    have d0 := L0 u
    go_wp2_with fail
    go_ret
    exact ⟨ret_int (by rw [HRES.out]; rfl), hbW.trans (Later.below_ u hbW.size)⟩
end Go.Proofs.Ytofcpfabjfhjoaa
namespace Go.Proofs.Ytofcpfabjfhjoaa
set_option linter.unusedVariables false

theorem validS_iff (s : List OpV) : validS s = true ↔ s.length ≤ 16 ∧ (∀ o ∈ s, validOp o = true) ∧ s.Pairwise (fun a b => isEnd a = true → a.tx ≠ b.tx) := by
  constructor
  · intro h
    refine ⟨?_, validS_ops h, ?_⟩
    · unfold validS at h
      simp only [Bool.and_eq_true, decide_eq_true_eq] at h
      exact h.1
    · rw [List.pairwise_iff_getElem]
      intro i j hi hj hij he ht
      unfold validS at h
      simp only [Bool.and_eq_true, List.all_eq_true] at h
      have := h.2 j (List.mem_range.2 hj)
      unfold goodAt at this
      rw [List.getElem?_eq_getElem hj] at this
      simp only [Bool.and_eq_true] at this
      have h2 := this.2
      rw [noEnd_false (k := i) (o := s[i]) hij (List.getElem?_eq_getElem hi) (by rw [he, ht]; simp)] at h2
      cases h2
  · rintro ⟨h1, h2, h3⟩
    unfold validS
    simp only [Bool.and_eq_true, decide_eq_true_eq, List.all_eq_true]
    refine ⟨h1, fun j hj => ?_⟩
    have hj := List.mem_range.1 hj
    unfold goodAt
    rw [List.getElem?_eq_getElem hj]
    simp only [Bool.and_eq_true]
    refine ⟨h2 _ (List.getElem_mem hj), noEnd_true (fun k hk o ho => ?_)⟩
    have hk' : k < s.length := by omega
    rw [List.getElem?_eq_getElem hk'] at ho
    injection ho with ho
    subst ho
    rw [List.pairwise_iff_getElem] at h3
    have := h3 k j hk' hj hk
    cases he : isEnd s[k]
    · simp
    · simpa [he] using this he
/-- What is left when whole operations are dropped is a schedule. -/
theorem validS_sub {s t : List OpV} (h : validS s = true) (hs : List.Sublist t s) : validS t = true := by
  rw [validS_iff] at *
  exact ⟨Nat.le_trans hs.length_le h.1, fun o ho => h.2.1 o (hs.subset ho), List.Pairwise.sublist hs h.2.2⟩
theorem validS_committed {s : List OpV} (h : validS s = true) : validS (committed s) = true := validS_sub h List.filter_sublist
theorem validS_tx {s : List OpV} (h : validS s = true) {o : OpV} (ho : o ∈ s) : 0 ≤ o.tx ∧ o.tx ≤ 3 := by
  have := validS_ops h o ho
  simp [validOp, inR] at this
  omega
theorem validS_end0 {s : List OpV} (h : validS s = true) {o : OpV} (ho : o ∈ s) (hk : o.kind = 2 ∨ o.kind = 3) : o.item = 0 := by
  have := validS_ops h o ho
  rcases hk with hk | hk <;> simp [validOp, isAcc, isEnd, hk] at this <;> exact this.2
/-- Behind the end of a transaction stands none of it. -/
theorem validS_after {s : List OpV} (h : validS s = true) {i j : Nat} {a b : OpV} (hi : s[i]? = some a) (hj : s[j]? = some b) (he : isEnd a = true) (ht : a.tx = b.tx) : j ≤ i := by
  rcases Nat.lt_or_ge i j with hij | hij
  · exfalso
    obtain ⟨hil, hia⟩ := List.getElem?_eq_some_iff.1 hi
    obtain ⟨hjl, hjb⟩ := List.getElem?_eq_some_iff.1 hj
    have := List.pairwise_iff_getElem.1 ((validS_iff s).1 h).2.2 i j hil hjl hij
    rw [hia, hjb] at this
    exact this he ht
  · exact hij
theorem isEnd_two {o : OpV} (h : o.kind = 2) : isEnd o = true := by simp [isEnd, h]

/-- A transaction with a commit ends with it. -/
theorem endOf_commit {s : List OpV} (h : validS s = true) {o : OpV} (ho : o ∈ s) (hk : o.kind = 2) : endOf s o.tx = 2 := by
  obtain ⟨k, hk'⟩ := List.mem_iff_getElem?.1 ho
  have := endOf_hit s o.tx k o hk' (fun j hj q hq => by
    cases hq2 : (q.tx == o.tx && isEnd q)
    · rfl
    · simp only [Bool.and_eq_true, beq_iff_eq] at hq2
      have := validS_after h hq hk' hq2.2 hq2.1
      omega) (by simp [isEnd, hk])
  rw [this, hk]
theorem endOf_two {s : List OpV} {t : Int} (h : endOf s t = 2) : ∃ o ∈ s, o.tx = t ∧ o.kind = 2 := by
  unfold endOf at h
  cases hf : s.find? (fun o => o.tx == t && isEnd o) with
  | none => rw [hf] at h; simp at h
  | some o =>
    rw [hf] at h
    have h1 := List.find?_some hf
    simp only [Bool.and_eq_true, beq_iff_eq] at h1
    exact ⟨o, List.mem_of_find?_eq_some hf, h1.1, by simpa using h⟩
theorem endOf_two_iff {s : List OpV} (h : validS s = true) (t : Int) : endOf s t = 2 ↔ ∃ o ∈ s, o.tx = t ∧ o.kind = 2 := by
  constructor
  · exact endOf_two
  · rintro ⟨o, ho, rfl, hk⟩
    exact endOf_commit h ho hk
theorem mem_committed {s : List OpV} {o : OpV} : o ∈ committed s ↔ o ∈ s ∧ endOf s o.tx = 2 := by
  unfold committed
  rw [List.mem_filter]
  simp
theorem hasTx_iff {s : List OpV} {t : Int} : hasTx s t = true ↔ ∃ o ∈ s, o.tx = t := by
  unfold hasTx
  rw [List.any_eq_true]
  simp
theorem mem_txsOf {s : List OpV} (h : validS s = true) {t : Int} : t ∈ txsOf s ↔ ∃ o ∈ s, o.tx = t := by
  unfold txsOf
  rw [List.mem_filter, hasTx_iff]
  constructor
  · exact fun h => h.2
  · rintro ⟨o, ho, rfl⟩
    have := validS_tx h ho
    refine ⟨?_, o, ho, rfl⟩
    have : o.tx = 0 ∨ o.tx = 1 ∨ o.tx = 2 ∨ o.tx = 3 := by omega
    rcases this with e | e | e | e <;> rw [e] <;> simp
theorem nodup_txsOf (s : List OpV) : (txsOf s).Nodup := by
  unfold txsOf
  exact List.Pairwise.filter _ (by decide)
theorem mem_txs_committed {s : List OpV} (h : validS s = true) {t : Int} : t ∈ txsOf (committed s) ↔ endOf s t = 2 := by
  rw [mem_txsOf (validS_committed h)]
  constructor
  · rintro ⟨o, ho, rfl⟩
    exact (mem_committed.1 ho).2
  · intro he
    obtain ⟨o, ho, rfl, hk⟩ := endOf_two he
    exact ⟨o, mem_committed.2 ⟨ho, he⟩, rfl⟩

/-- The first place of a transaction that is there. -/
theorem firstTo_eq (s : List OpV) (t : Int) (k : Nat) (hk : k ≤ s.length) : firstTo s t k = if stampN s t < k then (stampN s t : Int) else -1 := by
  induction k with
  | zero => simp [firstTo]
  | succ k ih =>
    have ih := ih (by omega)
    have hat : isAt s k t = ((s[k]'(by omega)).tx == t) := by unfold isAt; rw [List.getElem?_eq_getElem (by omega)]
    simp only [firstTo, ih, hat]
    unfold stampN at *
    obtain ⟨f, hf⟩ : ∃ f, (s.findIdx fun o => o.tx == t) = f := ⟨_, rfl⟩
    have hget : ∀ q, s[f]? = some q → (q.tx == t) = true := by
      intro q hq
      obtain ⟨hl, he⟩ := List.getElem?_eq_some_iff.1 hq
      subst hf
      rw [← he]
      exact @List.findIdx_getElem _ (fun o : OpV => o.tx == t) s hl
    have hnot : k < f → ((s[k]'(by omega)).tx == t) = false := by
      intro hkf
      subst hf
      exact List.not_of_lt_findIdx (p := fun o : OpV => o.tx == t) hkf
    rw [hf]
    clear ih hf
    rcases Nat.lt_trichotomy f k with h | h | h
    · have e2 : f < k + 1 := by omega
      rw [if_pos h, if_pos e2, if_neg (fun h => by omega)]
    · subst h
      have e2 : f < f + 1 := by omega
      have hh := hget _ (List.getElem?_eq_getElem (by omega))
      rw [if_neg (Nat.lt_irrefl f), if_pos e2, if_pos ⟨by omega, hh⟩]
    · have e1 : ¬ f < k := by omega
      have e2 : ¬ f < k + 1 := by omega
      have hh := hnot h
      rw [if_neg e1, if_neg e2, if_neg]
      rintro ⟨_, h2⟩
      rw [hh] at h2
      cases h2
theorem findIdx_congr {s : List OpV} {p q : OpV → Bool} (h : ∀ o ∈ s, p o = q o) : s.findIdx p = s.findIdx q := by
  induction s with
  | nil => rfl
  | cons x r ih =>
    rw [List.findIdx_cons, List.findIdx_cons, h x (by simp), ih (fun o ho => h o (by simp [ho]))]
theorem firstI_eq {s : List OpV} {o : OpV} (ho : o ∈ s) : firstI s o.tx = (stampN s o.tx : Int) := by
  unfold firstI
  have : stampN s o.tx < s.length := List.findIdx_lt_length.2 ⟨o, ho, by simp⟩
  rw [firstTo_eq s _ _ (Nat.le_refl _), if_pos this]
theorem commitI_eq {s : List OpV} (h : validS s = true) {o : OpV} (ho : o ∈ s) (hk : o.kind = 2) : commitI s o.tx = (commitN s o.tx : Int) := by
  have hi := validS_end0 h ho (.inl hk)
  have hmem : (⟨o.tx, 2, 0⟩ : OpV) ∈ s := by
    have : (⟨o.tx, 2, 0⟩ : OpV) = o := by obtain ⟨t, k, i⟩ := o; simp only at hk hi; subst hk; subst hi; rfl
    rw [this]; exact ho
  unfold commitI idxI commitN
  have h1 : s.any (fun q => q == ⟨o.tx, 2, 0⟩) = true := List.any_eq_true.2 ⟨_, hmem, by simp⟩
  rw [h1, if_pos rfl]
  congr 1
  have : ∀ q ∈ s, (q == (⟨o.tx, 2, 0⟩ : OpV)) = (q.tx == o.tx && q.kind == 2) := by
    intro q hq
    rw [Bool.eq_iff_iff]
    simp only [beq_iff_eq, Bool.and_eq_true]
    constructor
    · rintro rfl; exact ⟨rfl, rfl⟩
    · rintro ⟨h1, h2⟩
      have := validS_end0 h hq (.inl h2)
      obtain ⟨t, k, i⟩ := q
      simp only at h1 h2 this
      subst h1; subst h2; subst this; rfl
  exact findIdx_congr this

/-- What a transaction writes, bit by bit. -/
theorem wTo_bit (s : List OpV) (t : Int) (x : Nat) (h : itemsOk s) (k : Nat) (hk : k ≤ s.length) : (wTo s t k).testBit x = touchB s k t 1 (x : Int) := by
  induction k with
  | zero => simp [wTo, touchB]
  | succ k ih =>
    have ih := ih (by omega)
    have e : s[k]? = some (s[k]'(by omega)) := List.getElem?_eq_getElem (by omega)
    have hst : touchB s (k + 1) t 1 x = (touchB s k t 1 x || ((s[k]'(by omega)).tx == t && (s[k]'(by omega)).kind == 1 && (s[k]'(by omega)).item == x)) := by
      unfold touchB
      rw [take_snoc e, List.any_append]; simp
    simp only [wTo, e]
    rw [hst, ← ih]
    cases hc : ((s[k]'(by omega)).tx == t && (s[k]'(by omega)).kind == 1)
    · simp
    · simp only [Bool.and_eq_true, beq_iff_eq] at hc
      have hi := h _ (List.getElem_mem (by omega)) hc.2
      simp only [if_true, Nat.testBit_or, Nat.one_shiftLeft, Nat.testBit_two_pow, Bool.true_and]
      congr 1
      rw [Bool.eq_iff_iff]
      simp only [decide_eq_true_eq, beq_iff_eq]
      omega
theorem touchB_iff {s : List OpV} {t k x : Int} : touchB s s.length t k x = true ↔ ∃ o ∈ s, o.tx = t ∧ o.kind = k ∧ o.item = x := by
  unfold touchB
  rw [List.take_length, List.any_eq_true]
  simp [and_assoc]
theorem and_ne_zero {a b : Nat} (ha : a < 8) (hb : b < 8) : ((a &&& b) != 0) = ((a.testBit 0 && b.testBit 0) || (a.testBit 1 && b.testBit 1) || (a.testBit 2 && b.testBit 2)) := by
  have : ∀ x : Fin 8, ∀ y : Fin 8, (((x : Nat) &&& (y : Nat)) != 0) = (((x : Nat).testBit 0 && (y : Nat).testBit 0) || ((x : Nat).testBit 1 && (y : Nat).testBit 1) || ((x : Nat).testBit 2 && (y : Nat).testBit 2)) := by decide
  exact this ⟨a, ha⟩ ⟨b, hb⟩
theorem meets_eq {s : List OpV} (h : itemsOk s) (t u : Int) : ((wI s u &&& wI s t) != 0) = meetsB s t u := by
  unfold wI
  rw [and_ne_zero (wTo_lt s u h _) (wTo_lt s t h _)]
  rw [wTo_bit s u 0 h _ (Nat.le_refl _), wTo_bit s u 1 h _ (Nat.le_refl _), wTo_bit s u 2 h _ (Nat.le_refl _), wTo_bit s t 0 h _ (Nat.le_refl _), wTo_bit s t 1 h _ (Nat.le_refl _), wTo_bit s t 2 h _ (Nat.le_refl _)]
  unfold meetsB
  simp only [List.any_cons, List.any_nil, Bool.or_false]
  rw [Bool.and_comm (touchB s s.length u 1 _), Bool.and_comm (touchB s s.length u 1 _), Bool.and_comm (touchB s s.length u 1 _), Bool.or_assoc]
  rfl
end Go.Proofs.Ytofcpfabjfhjoaa
namespace Go.Proofs.Ytofcpfabjfhjoaa
set_option linter.unusedVariables false

/-- What is known of the survivors among the first k operations: each has its commit there. -/
def Surv (s : List OpV) (k : Nat) (out : List Int) : Prop := (∀ u ∈ out, ∃ j o, j < k ∧ s[j]? = some o ∧ o.tx = u ∧ o.kind = 2) ∧ out.Nodup

theorem findIdx_at {s : List OpV} {p : OpV → Bool} {o : OpV} (ho : o ∈ s) (hp : p o = true) : ∃ q, s[s.findIdx p]? = some q ∧ p q = true := by
  have hl : s.findIdx p < s.length := List.findIdx_lt_length.2 ⟨o, ho, hp⟩
  exact ⟨_, List.getElem?_eq_getElem hl, @List.findIdx_getElem _ p s hl⟩
theorem stampN_at {s : List OpV} {o : OpV} (ho : o ∈ s) : ∃ q, s[stampN s o.tx]? = some q ∧ q.tx = o.tx := by
  obtain ⟨q, h1, h2⟩ := findIdx_at (p := fun x : OpV => x.tx == o.tx) ho (by simp)
  exact ⟨q, h1, by simpa using h2⟩
theorem commitN_at {s : List OpV} {o : OpV} (ho : o ∈ s) (hk : o.kind = 2) : ∃ q, s[commitN s o.tx]? = some q ∧ q.tx = o.tx ∧ q.kind = 2 := by
  obtain ⟨q, h1, h2⟩ := findIdx_at (p := fun x : OpV => x.tx == o.tx && x.kind == 2) ho (by simp [hk])
  exact ⟨q, h1, by simpa using h2⟩
theorem against_eq {s : List OpV} (h : validS s = true) {k : Nat} {o : OpV} (ho : s[k]? = some o) (hk : o.kind = 2) {out : List Int} (hs : Surv s k out) {u : Int} (hu : u ∈ out) :
    agI s o.tx u = !fS s o.tx u := by
  obtain ⟨j, q, hj, hq, rfl, hqk⟩ := hs.1 u hu
  have hom := List.mem_of_getElem? ho
  have hqm := List.mem_of_getElem? hq
  have hi := validS_items h
  unfold agI fS
  rw [meets_eq hi, firstI_eq hom, commitI_eq h hqm hqk]
  have hne : commitN s q.tx ≠ stampN s o.tx := by
    intro e
    obtain ⟨p, h1, h1', _⟩ := commitN_at hqm hqk
    obtain ⟨p', h2, h2'⟩ := stampN_at hom
    rw [e, h2] at h1
    injection h1 with h1
    subst h1
    have := validS_after h hq ho (isEnd_two hqk) (h1'.symm.trans h2')
    omega
  cases hm : meetsB s o.tx q.tx
  · simp
  · simp only [Bool.and_true, Bool.not_true, Bool.or_false]
    rw [Bool.eq_iff_iff]
    simp
    omega
theorem surv_step {s : List OpV} (h : validS s = true) {k : Nat} {o : OpV} (ho : s[k]? = some o) {out : List Int} (hs : Surv s k out) :
    survStep s out o = sStep s out o ∧ Surv s (k + 1) (sStep s out o) := by
  have hw : Surv s (k + 1) out := ⟨fun u hu => by obtain ⟨j, q, hj, r⟩ := hs.1 u hu; exact ⟨j, q, by omega, r⟩, hs.2⟩
  unfold survStep sStep
  by_cases hk : o.kind = 2
  · have e : out.any (agI s o.tx) = !out.all (fS s o.tx) := by
      rw [List.not_all_eq_any_not]
      rw [Bool.eq_iff_iff, List.any_eq_true, List.any_eq_true]
      constructor
      · rintro ⟨u, hu, hx⟩; exact ⟨u, hu, by rw [← against_eq h ho hk hs hu]; exact hx⟩
      · rintro ⟨u, hu, hx⟩; exact ⟨u, hu, by rw [against_eq h ho hk hs hu]; exact hx⟩
    rw [e, Bool.not_not]
    refine ⟨rfl, ?_⟩
    split
    · refine ⟨?_, ?_⟩
      · intro u hu
        simp only [List.mem_append, List.mem_singleton] at hu
        rcases hu with hu | rfl
        · exact hw.1 u hu
        · exact ⟨k, o, by omega, ho, rfl, hk⟩
      · rw [List.nodup_append]
        refine ⟨hs.2, by simp, ?_⟩
        intro a ha b hb
        simp only [List.mem_singleton] at hb
        subst hb
        rintro rfl
        obtain ⟨j, q, hj, hq, hqt, hqk⟩ := hs.1 _ ha
        have := validS_after h hq ho (isEnd_two hqk) hqt
        omega
    · exact hw
  · have hk' : (o.kind == 2) = false := by simpa using hk
    rw [hk']
    exact ⟨rfl, hw⟩
theorem survTo_eq {s : List OpV} (h : validS s = true) (k : Nat) (hk : k ≤ s.length) : survTo s k = sTo s k ∧ Surv s k (sTo s k) := by
  induction k with
  | zero => exact ⟨rfl, by unfold Surv sTo; simp⟩
  | succ k ih =>
    obtain ⟨ih1, ih2⟩ := ih (by omega)
    have e : s[k]? = some (s[k]'(by omega)) := List.getElem?_eq_getElem (by omega)
    rw [survTo_succ e, sTo_succ e, ih1]
    exact surv_step h e ih2
theorem surv_eq {s : List OpV} (h : validS s = true) : survI s = survS s := by
  rw [← survTo_all (Nat.le_refl _), ← sTo_all (Nat.le_refl _)]
  exact (survTo_eq h _ (Nat.le_refl _)).1
theorem surv_known {s : List OpV} (h : validS s = true) : Surv s s.length (survS s) := by
  rw [← sTo_all (Nat.le_refl _)]
  exact (survTo_eq h _ (Nat.le_refl _)).2
theorem surv_commit {s : List OpV} (h : validS s = true) {u : Int} (hu : u ∈ survS s) : ∃ o ∈ s, o.tx = u ∧ o.kind = 2 := by
  obtain ⟨j, o, _, ho, h1, h2⟩ := (surv_known h).1 u hu
  exact ⟨o, List.mem_of_getElem? ho, h1, h2⟩
theorem surv_end {s : List OpV} (h : validS s = true) {u : Int} (hu : u ∈ survS s) : endOf s u = 2 := (endOf_two_iff h u).2 (surv_commit h hu)

/-! ### serial schedules -/

theorem ser_at {s : List OpV} (h : isSer s = true) {k : Nat} {o : OpV} (ho : s[k]? = some o) (hk : 0 < k) {q : OpV} (hq : s[k - 1]? = some q) (hne : q.tx ≠ o.tx) : ∀ j p, j < k → s[j]? = some p → p.tx ≠ o.tx := by
  intro j p hj hp ht
  unfold isSer at h
  rw [List.all_eq_true] at h
  have hl : k < s.length := (List.getElem?_eq_some_iff.1 ho).1
  have := h k (List.mem_range.2 hl)
  have hb : serBad s k = true := by
    unfold serBad
    rw [ho, hq]
    simp only [Bool.and_eq_true, bne_iff_ne]
    refine ⟨fun e => hne e.symm, ?_⟩
    unfold hasTx
    exact List.any_eq_true.2 ⟨p, List.mem_of_getElem? (i := j) (by rw [List.getElem?_take, if_pos hj]; exact hp), by simpa using ht⟩
  rw [hb] at this
  simp at this
  omega
/-- Between two operations of one transaction stand operations of this one alone. -/
theorem ser_between {s : List OpV} (h : isSer s = true) {i j : Nat} {a b : OpV} (hi : s[i]? = some a) (hj : s[j]? = some b) (ht : a.tx = b.tx) : ∀ k c, i ≤ k → k ≤ j → s[k]? = some c → c.tx = a.tx := by
  have key : ∀ d k c, k + d = j → i ≤ k → s[k]? = some c → c.tx = a.tx := by
    intro d
    induction d with
    | zero =>
      intro k c hk _ hc
      obtain rfl : k = j := by omega
      rw [hj] at hc; injection hc with hc; rw [← hc, ht]
    | succ d ih =>
      intro k c hk hik hc
      have hjl : j < s.length := (List.getElem?_eq_some_iff.1 hj).1
      have e : s[k + 1]? = some (s[k + 1]'(by omega)) := List.getElem?_eq_getElem (by omega)
      have h1 := ih (k + 1) _ (by omega) (by omega) e
      by_cases hne : c.tx = (s[k + 1]'(by omega)).tx
      · rw [hne, h1]
      · exfalso
        exact ser_at h e (by omega) (q := c) hc hne i a (by omega) hi h1.symm
  intro k c h1 h2 hc
  exact key (j - k) k c (by omega) h1 hc
theorem ser_surv {s : List OpV} (h : validS s = true) (hs : isSer s = true) (k : Nat) (hk : k ≤ s.length) : ∀ j o, j < k → s[j]? = some o → o.kind = 2 → o.tx ∈ sTo s k := by
  induction k with
  | zero => intro j o hj; omega
  | succ k ih =>
    intro j o hj ho h2
    have e : s[k]? = some (s[k]'(by omega)) := List.getElem?_eq_getElem (by omega)
    have hold : ∀ x ∈ sTo s k, x ∈ sTo s (k + 1) := by
      intro x hx
      rw [sTo_succ e]
      unfold sStep
      split
      · simp [hx]
      · exact hx
    by_cases hjk : j = k
    · subst hjk
      rw [sTo_succ ho]
      unfold sStep
      have hall : (sTo s j).all (fS s o.tx) = true := by
        rw [List.all_eq_true]
        intro u hu
        obtain ⟨i, q, hi, hq, rfl, hqk⟩ := (survTo_eq h j (by omega)).2.1 u hu
        unfold fS
        have hom := List.mem_of_getElem? ho
        have hqm := List.mem_of_getElem? hq
        have hlt : commitN s q.tx < stampN s o.tx := by
          have hne : q.tx ≠ o.tx := fun e => by
            have := validS_after h hq ho (isEnd_two hqk) e
            omega
          have hc : commitN s q.tx ≤ i := by
            rcases Nat.lt_or_ge i (commitN s q.tx) with hlt | hge
            · have hil : i < s.length := (List.getElem?_eq_some_iff.1 hq).1
              have := List.not_of_lt_findIdx (p := fun x : OpV => x.tx == q.tx && x.kind == 2) hlt
              rw [(List.getElem?_eq_some_iff.1 hq).2] at this
              simp [hqk] at this
            · exact hge
          have hst : stampN s o.tx < s.length := List.findIdx_lt_length.2 ⟨o, hom, by simp⟩
          have hsg := @List.findIdx_getElem _ (fun x : OpV => x.tx == o.tx) s hst
          simp only [beq_iff_eq] at hsg
          rcases Nat.lt_or_ge i (stampN s o.tx) with hlt | hge
          · omega
          · exfalso
            have := ser_between hs (List.getElem?_eq_getElem hst) ho hsg i q hge (by omega) hq
            exact hne (this.trans hsg)
        simp [hlt]
      have : (o.kind == 2) = true := by simpa using h2
      rw [this, hall]
      simp
    · exact hold _ (ih (by omega) j o (by omega) ho h2)
theorem ser_all {s : List OpV} (h : validS s = true) (hs : isSer s = true) : (survS s).length = (txsOf (committed s)).length := by
  refine List.Perm.length_eq ((List.perm_ext_iff_of_nodup (surv_known h).2 (nodup_txsOf _)).2 fun t => ?_)
  rw [mem_txs_committed h]
  constructor
  · intro ht; exact surv_end h ht
  · intro ht
    obtain ⟨o, ho, rfl, hk⟩ := endOf_two ht
    obtain ⟨j, hj⟩ := List.mem_iff_getElem?.1 ho
    have := ser_surv h hs s.length (Nat.le_refl _) j o (List.getElem?_eq_some_iff.1 hj).1 hj hk
    rwa [sTo_all (Nat.le_refl _)] at this
end Go.Proofs.Ytofcpfabjfhjoaa
namespace Go.Proofs.Ytofcpfabjfhjoaa
open Go.RowKit Go.BigFrame
set_option linter.unusedVariables false

/-- What the walk of againstOf keeps: the row of bits in block g, the list of survivors, the operations. -/
structure AgInv (w : World) (A : Option Addr) (n c : Nat) (s : List OpV) (LA : Option Addr) (m : Nat) (L : List Int) (g : Nat) (rows : List Nat) (wr : World) : Prop where
  below : Below w.heap.size w wr
  row : RowIs wr g 3 (intCells (rowsI rows))
  list : RInts wr LA m L
theorem AgInv.later {w wr W : World} {A LA : Option Addr} {n c m g : Nat} {s : List OpV} {L : List Int} {rows : List Nat} (h : AgInv w A n c s LA m L g rows wr) (hb : Below wr.heap.size wr W) : AgInv w A n c s LA m L g rows W :=
  ⟨h.below.trans (hb.mono h.below.size), h.row.below hb (Nat.le_refl _), h.list.below hb (Nat.le_refl _)⟩
theorem AgInv.set {w wr : World} {A LA : Option Addr} {n c m g : Nat} {s : List OpV} {L : List Int} {rows : List Nat} {T : Nat} {u : Int} (h : AgInv w A n c s LA m L g rows wr) (hge : w.heap.size ≤ g) (hne : ∀ ad, LA = some ad → g ≠ ad.block) (hT : T ≤ 3) (h4 : Rows4 rows) {v : Int}
    (hv : v = ((rows.getD T 0 ||| (1 <<< u.toNat) : Nat) : Int)) : AgInv w A n c s LA m L g (rowSet rows T u) (wr.setCell ⟨g, T, none⟩ (.int .i64 v)) := by
  subst hv
  refine ⟨h.below.setCell (by simpa using hge) _, ?_, h.list.grown grown_set (fun b hb e => hne b hb (by injection e))⟩
  rw [rowsI_set]
  have := row_setInt (ys := rowsI rows) (more := []) (k := T) (v := ((rows.getD T 0 ||| (1 <<< u.toNat) : Nat) : Int)) (by simpa using h.row) (by simp [rowsI, h4.1]; omega)
  simpa using this

theorem grown_drew {w w' : World} {row : Option Nat} (h : w.grownBy w' row) : w.grownBy w'.drew row := ⟨h.os, h.tape, h.output, h.size, h.block⟩
theorem AgInv.drew {w wr : World} {A LA : Option Addr} {n c m g : Nat} {s : List OpV} {L : List Int} {rows : List Nat} (h : AgInv w A n c s LA m L g rows wr) : AgInv w A n c s LA m L g rows wr.drew := ⟨h.below.drew, h.row, h.list⟩
set_option maxRecDepth 100000 in
set_option maxHeartbeats 2000000 in
theorem againstOf_any (A : Option Addr) (n c : Nat) (s : List OpV) (w : World) (hx : ROps w A n s) (hnc : n ≤ c) (hv : validS s = true) :
    Calls Try.prog 82 #[.slice A n c] w (RetInts w (rowsI (agI4 s))) := by
  have hn := hx.2.1
  have hl := hx.1
  have HV := Lib.hid hv
  have HX := Lib.hid hx
  clear hx hv
  obtain ⟨i0, hi, hz0, hz1, hz2⟩ := info_parts intInfo
  go_enter Try.func82, Try.ntmps82
  go_wp2_with (at_make; refine wpList_make_full _ rfl _ _ 25 rfl w.heap.size 3 i0 _ 1 Try.underlying25 hi hz0 hz1 .i64 .i64 _ _ 4 rfl rfl rfl rfl (by rw [hz2]; omega) (by unfold maxLen; omega) (Nat.le_refl _) ?_; intro w1 hown1 hg1)
  have hb1 : Below w.heap.size w w1 := ⟨hg1.os, hg1.tape, hg1.output, hg1.size, fun k hk => hg1.block k hk (by simp)⟩
  have hrow : RowIs w1 w.heap.size 3 (intCells (rowsI [0, 0, 0, 0])) := by
    rcases hown1.2 with ⟨h1, _⟩ | ⟨g, cap, cur, h1, h2, h3, h4, h5, h6, h7⟩
    · cases h1
    · injection h1 with ha hb hc
      injection ha with ha
      injection ha with ha
      subst ha; subst hc
      unfold RowIs
      rw [h3]
      congr 2
      apply Array.ext'
      rw [List.take_of_length_le (by simpa using Nat.le_of_eq h6)] at h7
      rw [h7, made_ints]
      rfl
  have hlt1 := hrow.lt
  have HST := Lib.hid (And.intro hrow hb1)
  clear hown1 hb1 hg1 hrow hi hz0 hz1 hz2
  refine (survivorsOf_any A n c s w1 (HX.out.below HST.out.2 (Nat.le_refl _)) (validS_items HV.out)).mono ?_
  rintro e w2 ⟨LA, lc, rfl, hlc, ⟨hL, hLf⟩, hb2⟩
  have hlenL := hL.2.1
  have hne : ∀ ad, LA = some ad → w.heap.size ≠ ad.block := by
    intro ad had
    obtain ⟨b, cur, rfl, hge, _⟩ := hLf ad had
    simp only; omega
  have hlt2 : w.heap.size < w2.heap.size := Nat.lt_of_lt_of_le hlt1 hb2.size
  have HS2 : Hid (AgInv w A n c s LA (survI s).length (survI s) w.heap.size (agTo (gI s (survI s)) (fI s) (survI s) s 0) w2) :=
    ⟨HST.out.2.trans (hb2.mono HST.out.2.size), HST.out.1.below hb2 (Nat.le_refl _), hL⟩
  have HNE := Lib.hid hne
  have HR : Hid (∀ u ∈ survI s, 0 ≤ u ∧ u ≤ 3) := survI_rng HV.out
  have hgood : Hid (agI4 s = agTo (gI s (survI s)) (fI s) (survI s) s s.length) := rfl
  generalize hLL : survI s = L at *
  have HLL := Lib.hid hLL
  clear hL hLf hne HST hb2 hLL
  go_wp2_with fail
  go_loopw [14] (fun i wr => ∃ k : Nat, k ≤ n ∧ i = .int .i64 k ∧ AgInv w A n c s LA L.length L w.heap.size (agTo (gI s L) (fI s) L s k) wr) (fun i _ => n - (intOf i).toNat)
  case atStart => exact ⟨0, Nat.zero_le _, rfl, HS2.out⟩
  case round =>
    clear HS2
    obtain ⟨wo, rfl⟩ : ∃ wo : World, wo = wr := ⟨_, rfl⟩
    obtain ⟨k, hk, rfl, hI⟩ := hrel
    by_cases hlt : k < n
    · have hxr := HX.out.below hI.below (Nat.le_refl _)
      obtain ⟨b, off, o, rfl, hbl, ho, c0, c1, c2⟩ := hxr.at_ hlt
      have hom := List.mem_of_getElem? ho
      have htx := validS_tx3 HV.out hom
      have hit := validS_item HV.out hom
      have hstep := Lib.hid (agTo_succ (g := gI s L) (f := fI s) (list := L) ho)
      have HI := Lib.hid hI
      have hwm := wTo_lt (s.take k) o.tx (itemsOk_take (validS_items HV.out) k) (s.take k).length
      have hokR : Hid (Rows4 (agTo (gI s L) (fI s) L s k)) := agTo_ok HR.out k
      clear hxr ho hI
      obtain ⟨tx, kd, it⟩ := o
      simp only at hstep c0 c1 c2 htx hit hwm
      obtain ⟨T, rfl⟩ := Int.eq_ofNat_of_zero_le htx.1
      obtain ⟨X, rfl⟩ := Int.eq_ofNat_of_zero_le hit.1
      generalize hRR : agTo (gI s L) (fI s) L s k = R at *
      have HRR := Lib.hid hRR
      clear hRR
      have hT3 : T ≤ 3 := by omega
      have hX2 : X ≤ 2 := by omega
      clear htx hit
      -- the three parts of the test
      obtain ⟨bk, hbk⟩ : ∃ bk, (kd != 0) = bk := ⟨_, rfl⟩
      obtain ⟨bc, hbc⟩ : ∃ bc, (L.any fun y => y == (T : Int)) = bc := ⟨_, rfl⟩
      obtain ⟨bw, hbw⟩ : ∃ bw, (wI (s.take k) T).testBit X = bw := ⟨_, rfl⟩
      have hgI : gI s L k ⟨T, kd, X⟩ = (!bk && bc && !bw) := by
        unfold gI
        simp only [Int.toNat_natCast]
        rw [hbc, hbw]
        congr 2
        rw [← hbk, bne, Bool.not_not]
      have HG := Lib.hid hgI
      have hCo : ∀ (W : World), Below wo.heap.size wo W → Calls Try.prog 134 #[.slice LA L.length lc, .int .i64 (T : Int)] W fun e w' => e = .returned (.bool bc) ∧ Below W.heap.size W w' := fun W hW => by
        have := ContainsL_any LA L.length lc L T W (HI.out.list.below hW (Nat.le_refl _)); rw [hbc] at this; exact this
      have hWr : ∀ (W : World), Below wo.heap.size wo W → Calls Try.prog 118 #[.slice (some ⟨b, off, none⟩) k c, .int .i64 (T : Int)] W fun e w' => e = .returned (.int .i64 (wI (s.take k) T : Nat)) ∧ Below W.heap.size W w' := fun W hW =>
        writesOf_any _ k c (s.take k) T W (((HX.out.below HI.out.below (Nat.le_refl _)).take hk).below hW (Nat.le_refl _)) (itemsOk_take (validS_items HV.out) k)
      have hab := and_bit (wI (s.take k) T) X (by unfold wI; omega)
      rw [hbw] at hab
      have HCo := Lib.hid hCo
      have HWr := Lib.hid hWr
      have HBW := Lib.hid hbw
      clear hCo hWr hgI hbw hbc
      generalize hM : wI (s.take k) T = M at *
      clear hM hwm
      have hkc : (k : Int) ≤ (c : Int) := by omega
      have hk0 : (0 : Int) ≤ (k : Int) := by omega
      have hX0 : (0 : Int) ≤ (X : Int) := by omega
      cases bk
      · cases bc
        · -- not among the survivors
          go_wp2_with fail
          obtain ⟨W, hW⟩ : ∃ W : World, W = wo.alloc (.cells #[.int .i64 (T : Int), .int .i64 kd, .int .i64 (X : Int)] 46) := ⟨_, rfl⟩
          rw [← hW]
          obtain ⟨L0, L1, L2, hbW, hWs⟩ := op_box hW
          clear hW
          refine region_later (by kernel_rfl) (by kernel_rfl) ?_
          repeat (go_big_quiet_step ((first | (go_at_call 134; exact later_call _ (HCo.out _ (hbW.trans (Later.below_ _ hbW.size)))) | (go_at_call 118; exact later_call _ (HWr.out _ (hbW.trans (Later.below_ _ hbW.size)))))))
          refine wpQuiet_nil ?_
          rintro _ ⟨u, rfl⟩
          go_wp2_with fail
          go_roundw
          case rel => exact ⟨k + 1, by omega, by go_num, by rw [hstep.out, HG.out]; exact HI.out.later (hbW.trans (Later.below_ u hbW.size))⟩
          case measure => simp [intOf]; omega
        · cases bw
          · -- the test holds: the inner loop
            go_wp2_with fail
            obtain ⟨W, hW⟩ : ∃ W : World, W = wo.alloc (.cells #[.int .i64 (T : Int), .int .i64 kd, .int .i64 (X : Int)] 46) := ⟨_, rfl⟩
            rw [← hW]
            obtain ⟨L0, L1, L2, hbW, hWs⟩ := op_box hW
            clear hW
            refine region_later (by kernel_rfl) (by kernel_rfl) ?_
            repeat (go_big_quiet_step ((first | (go_at_call 134; exact later_call _ (HCo.out _ (hbW.trans (Later.below_ _ hbW.size)))) | (go_at_call 118; exact later_call _ (HWr.out _ (hbW.trans (Later.below_ _ hbW.size)))))))
            refine wpQuiet_nil ?_
            rintro _ ⟨u, rfl⟩
            go_wp2_with fail
            have hwl : w.heap.size < wo.heap.size := HI.out.row.lt
            have d0 := L0 u
            have d1 := L1 u
            have d2 := L2 u
            have hIu : Hid (AgInv w (some ⟨b, off, none⟩) n c s LA L.length L w.heap.size (agIn (fI s ⟨T, kd, X⟩) T (L.take 0) R) u.1) := HI.out.later (hbW.trans (Later.below_ u hbW.size))
            have husz : wo.heap.size < u.1.heap.size := block_lt_of_cell d0
            have hbo : wo.heap.size ≠ w.heap.size := by omega
            obtain ⟨ui, hui⟩ : ∃ ui : World, u.1 = ui := ⟨_, rfl⟩
            rw [hui] at d0 d1 d2 hIu husz
            rw [hui]
            clear L0 L1 L2 hui HCo HWr
            go_loopw [44] (fun j wr => ∃ q : Nat, q ≤ L.length ∧ j = .int .i64 q ∧ ui.grownBy wr (some w.heap.size) ∧ AgInv w (some ⟨b, off, none⟩) n c s LA L.length L w.heap.size (agIn (fI s ⟨T, kd, X⟩) T (L.take q) R) wr) (fun j _ => L.length - (intOf j).toNat)
            case atStart => exact ⟨0, Nat.zero_le _, rfl, World.grownBy.refl _ _, hIu.out⟩
            case round =>
              obtain ⟨q, hq, rfl, hgr, hJ⟩ := hrel
              clear hIu
              have e0 := hgr.cell d0 (by simpa using hbo)
              have e1 := hgr.cell d1 (by simpa using hbo)
              have e2 := hgr.cell d2 (by simpa using hbo)
              by_cases hlt2 : q < L.length
              · obtain ⟨bo, offo, x, hA, hbo2, hxx, hcx⟩ := hJ.list.at_ hlt2
                subst hA
                have hxr := HR.out x (List.mem_of_getElem? hxx)
                obtain ⟨U, rfl⟩ := Int.eq_ofNat_of_zero_le hxr.1
                have hU3 : U ≤ 3 := by omega
                have hsn := Lib.hid (agIn_snoc (f := fI s ⟨T, kd, X⟩) (t := T) (rows := R) hxx)
                have hok2 : Hid (Rows4 (agIn (fI s ⟨T, kd, X⟩) T (L.take q) R)) := agIn_ok (fun u hu => HR.out u (List.mem_of_mem_take hu)) hokR.out
                have HJ := Lib.hid hJ
                have hxs := HX.out.below hJ.below (Nat.le_refl _)
                have hC : ∀ v : Later wr, Calls Try.prog 85 #[.slice (some ⟨b, off, none⟩) n c, .int .i64 (U : Int)] v.1 fun e w' => e = .returned (.int .i64 (commitI s U)) ∧ Below v.1.heap.size v.1 w' := fun v => commitOf_any _ n c s U v.1 (hxs.later v)
                have hF : ∀ v : Later wr, Calls Try.prog 84 #[.slice (some ⟨b, off, none⟩) n c, .int .i64 (T : Int)] v.1 fun e w' => e = .returned (.int .i64 (firstI s T)) ∧ Below v.1.heap.size v.1 w' := fun v => firstOf_any _ n c s T v.1 (hxs.later v)
                have hW2 : ∀ v : Later wr, Calls Try.prog 118 #[.slice (some ⟨b, off, none⟩) n c, .int .i64 (U : Int)] v.1 fun e w' => e = .returned (.int .i64 (wI s U : Nat)) ∧ Below v.1.heap.size v.1 w' := fun v => writesOf_any _ n c s U v.1 (hxs.later v) (validS_items HV.out)
                have HC := Lib.hid hC
                have HF := Lib.hid hF
                have HW2 := Lib.hid hW2
                obtain ⟨b1, hb1⟩ : ∃ b1, ((U : Int) != (T : Int)) = b1 := ⟨_, rfl⟩
                obtain ⟨b3, hb3⟩ : ∃ b3, (wI s U).testBit X = b3 := ⟨_, rfl⟩
                have hwm2 := wTo_lt s U (validS_items HV.out) s.length
                have hab2 := and_bit (wI s U) X (by unfold wI; omega)
                rw [hb3] at hab2
                obtain ⟨cU, hcU⟩ : ∃ z, commitI s U = z := ⟨_, rfl⟩
                obtain ⟨fT, hfT⟩ : ∃ z, firstI s T = z := ⟨_, rfl⟩
                have hfi : fI s ⟨T, kd, X⟩ U = (b1 && decide (fT < cU) && b3) := by
                  unfold fI
                  simp only [Int.toNat_natCast]
                  rw [hb1, hb3, hcU, hfT]
                rw [hcU] at HC
                rw [hfT] at HF
                generalize hM2 : wI s U = M2 at *
                obtain ⟨b2, hb2⟩ : ∃ b2, decide (fT < cU) = b2 := ⟨_, rfl⟩
                rw [hb2] at hfi
                have hb2' := hb2
                have HFI := Lib.hid hfi
                have M0 := Later.cell e0
                have M1 := Later.cell e1
                have M2' := Later.cell e2
                have N0 := Later.cell hcx
                clear hC hF hW2 hxs hJ hxx hcU hfT hM2 hwm2 hfi hb3 hb2
                have hqi : (q : Int) < (L.length : Int) := by omega
                cases b1
                · skip
                  go_wp2_with fail
                  refine region_later (by kernel_rfl) (by kernel_rfl) ?_
                  repeat (go_big_quiet_step ((first | (go_at_call 85; exact later_call _ (HC.out _)) | (go_at_call 84; exact later_call _ (HF.out _)) | (go_at_call 118; exact later_call _ (HW2.out _)))))
                  refine wpQuiet_nil ?_
                  rintro _ ⟨u2, rfl⟩
                  go_wp2_with fail
                  go_roundw
                  case rel => exact ⟨q + 1, by omega, by go_num, hgr.trans (grown_below u2.2), by rw [hsn.out, HFI.out]; exact HJ.out.later u2.2⟩
                  case measure => simp [intOf]; omega
                · cases b2
                  · skip
                    go_wp2_with fail
                    refine region_later (by kernel_rfl) (by kernel_rfl) ?_
                    repeat (go_big_quiet_step ((first | (go_at_call 85; exact later_call _ (HC.out _)) | (go_at_call 84; exact later_call _ (HF.out _)) | (go_at_call 118; exact later_call _ (HW2.out _)))))
                    refine wpQuiet_nil ?_
                    rintro _ ⟨u2, rfl⟩
                    go_wp2_with fail
                    go_roundw
                    case rel => exact ⟨q + 1, by omega, by go_num, hgr.trans (grown_below u2.2), by rw [hsn.out, HFI.out]; exact HJ.out.later u2.2⟩
                    case measure => simp [intOf]; omega
                  · cases b3
                    · skip
                      go_wp2_with fail
                      refine region_later (by kernel_rfl) (by kernel_rfl) ?_
                      repeat (go_big_quiet_step ((first | (go_at_call 85; exact later_call _ (HC.out _)) | (go_at_call 84; exact later_call _ (HF.out _)) | (go_at_call 118; exact later_call _ (HW2.out _)))))
                      refine wpQuiet_nil ?_
                      rintro _ ⟨u2, rfl⟩
                      go_wp2_with fail
                      go_roundw
                      case rel => exact ⟨q + 1, by omega, by go_num, hgr.trans (grown_below u2.2), by rw [hsn.out, HFI.out]; exact HJ.out.later u2.2⟩
                      case measure => simp [intOf]; omega
                    · skip
                      go_wp2_with fail
                      refine region_later (by kernel_rfl) (by kernel_rfl) ?_
                      repeat (go_big_quiet_step ((first | (go_at_call 85; exact later_call _ (HC.out _)) | (go_at_call 84; exact later_call _ (HF.out _)) | (go_at_call 118; exact later_call _ (HW2.out _)))))
                      refine wpQuiet_nil ?_
                      rintro _ ⟨u2, rfl⟩
                      go_wp2_with fail
                      have hJu := HJ.out.later u2.2
                      obtain ⟨hat, hr16⟩ := rowsI_at hok2.out hT3
                      have hcr := hJu.row.cell hat
                      have hfz := hJu.row.frozen T
                      have m0 := M0 u2
                      obtain ⟨uj, huj⟩ : ∃ uj : World, u2.1 = uj := ⟨_, rfl⟩
                      have hgr2 := hgr.trans (grown_below u2.2)
                      rw [huj] at hJu hcr hfz m0 hgr2
                      rw [huj]
                      have HJU := Lib.hid hJu
                      obtain ⟨r, hr⟩ : ∃ r, (agIn (fI s ⟨T, kd, X⟩) T (L.take q) R).getD T 0 = r := ⟨_, rfl⟩
                      rw [hr] at hcr hr16
                      have HSET : Hid (∀ v : Int, v = ((r ||| (1 <<< ((U : Int)).toNat) : Nat) : Int) → AgInv w (some ⟨b, off, none⟩) n c s (some ⟨bo, offo, none⟩) L.length L w.heap.size (agIn (fI s ⟨T, kd, X⟩) T (L.take (q + 1)) R) (uj.setCell ⟨w.heap.size, T, none⟩ (.int .i64 v))) := by
                        intro v hv
                        rw [hsn.out, HFI.out]
                        refine (HJU.out.set (Nat.le_refl _) HNE.out hT3 hok2.out ?_)
                        rw [hr]; exact hv
                      clear hJu hat hr huj HC HF HW2 hb2' hab2 M0 M1 M2' N0 hcx e0 e1 e2 hsn HFI
                      have hT4 : (T : Int) < 4 := by omega
                      have hT0 : (0 : Int) ≤ (T : Int) := by omega
                      have hnw1 := World.new_ne uj _ hcr
                      rcases (by omega : U = 0 ∨ U = 1 ∨ U = 2 ∨ U = 3) with rfl | rfl | rfl | rfl
                      · have hor : bits .or .i64 (r : Int) 1 = ((r ||| 1 : Nat) : Int) := or_nat r 1 (by omega) (by omega)
                        go_region
                        go_wp2_with fail
                        go_roundw
                        case rel => exact ⟨q + 1, by omega, by go_num, grown_drew (hgr2.trans grown_set), (HSET.out _ rfl).drew⟩
                        case measure => simp [intOf]; omega
                      · have hor : bits .or .i64 (r : Int) 2 = ((r ||| 2 : Nat) : Int) := or_nat r 2 (by omega) (by omega)
                        go_region
                        go_wp2_with fail
                        go_roundw
                        case rel => exact ⟨q + 1, by omega, by go_num, grown_drew (hgr2.trans grown_set), (HSET.out _ rfl).drew⟩
                        case measure => simp [intOf]; omega
                      · have hor : bits .or .i64 (r : Int) 4 = ((r ||| 4 : Nat) : Int) := or_nat r 4 (by omega) (by omega)
                        go_region
                        go_wp2_with fail
                        go_roundw
                        case rel => exact ⟨q + 1, by omega, by go_num, grown_drew (hgr2.trans grown_set), (HSET.out _ rfl).drew⟩
                        case measure => simp [intOf]; omega
                      · have hor : bits .or .i64 (r : Int) 8 = ((r ||| 8 : Nat) : Int) := or_nat r 8 (by omega) (by omega)
                        go_region
                        go_wp2_with fail
                        go_roundw
                        case rel => exact ⟨q + 1, by omega, by go_num, grown_drew (hgr2.trans grown_set), (HSET.out _ rfl).drew⟩
                        case measure => simp [intOf]; omega
              · have hfin : Hid (agIn (fI s ⟨T, kd, X⟩) T (L.take q) R = agTo (gI s L) (fI s) L s (k + 1)) := by
                  show _ = _
                  rw [List.take_of_length_le (by omega), hstep.out, HG.out]; rfl
                rw [hfin.out] at hJ
                have HJ := Lib.hid hJ
                clear hJ
                go_wp2_with fail
                go_roundw
                case rel => exact ⟨k + 1, by omega, by go_num, HJ.out⟩
                case measure => simp [intOf]; omega
          · -- it has written the item before
            go_wp2_with fail
            obtain ⟨W, hW⟩ : ∃ W : World, W = wo.alloc (.cells #[.int .i64 (T : Int), .int .i64 kd, .int .i64 (X : Int)] 46) := ⟨_, rfl⟩
            rw [← hW]
            obtain ⟨L0, L1, L2, hbW, hWs⟩ := op_box hW
            clear hW
            refine region_later (by kernel_rfl) (by kernel_rfl) ?_
            repeat (go_big_quiet_step ((first | (go_at_call 134; exact later_call _ (HCo.out _ (hbW.trans (Later.below_ _ hbW.size)))) | (go_at_call 118; exact later_call _ (HWr.out _ (hbW.trans (Later.below_ _ hbW.size)))))))
            refine wpQuiet_nil ?_
            rintro _ ⟨u, rfl⟩
            go_wp2_with fail
            go_roundw
            case rel => exact ⟨k + 1, by omega, by go_num, by rw [hstep.out, HG.out]; exact HI.out.later (hbW.trans (Later.below_ u hbW.size))⟩
            case measure => simp [intOf]; omega
      · -- no read
        go_wp2_with fail
        obtain ⟨W, hW⟩ : ∃ W : World, W = wo.alloc (.cells #[.int .i64 (T : Int), .int .i64 kd, .int .i64 (X : Int)] 46) := ⟨_, rfl⟩
        rw [← hW]
        obtain ⟨L0, L1, L2, hbW, hWs⟩ := op_box hW
        clear hW
        refine region_later (by kernel_rfl) (by kernel_rfl) ?_
        repeat (go_big_quiet_step ((first | (go_at_call 134; exact later_call _ (HCo.out _ (hbW.trans (Later.below_ _ hbW.size)))) | (go_at_call 118; exact later_call _ (HWr.out _ (hbW.trans (Later.below_ _ hbW.size)))))))
        refine wpQuiet_nil ?_
        rintro _ ⟨u, rfl⟩
        go_wp2_with fail
        go_roundw
        case rel => exact ⟨k + 1, by omega, by go_num, by rw [hstep.out, HG.out]; exact HI.out.later (hbW.trans (Later.below_ u hbW.size))⟩
        case measure => simp [intOf]; omega
    · have hfin : Hid (AgInv w A n c s LA L.length L w.heap.size (agI4 s) wo) := by
        rw [hgood.out]
        have : k = s.length := by omega
        rw [← this]; exact hI
      have hok : Rows4 (agI4 s) := by rw [hgood.out]; exact agTo_ok HR.out _
      have hlen : (rowsI (agI4 s)).length = 4 := by simp [rowsI, hok.1]
      have HO : Hid (RetInts w (rowsI (agI4 s)) (.returned (.slice (some ⟨w.heap.size, 0, none⟩) 4 4)) wo) := by
        refine RetInts.mk hlen (Nat.le_refl _) ⟨RowIs.ints (rest := []) (by simpa using hfin.out.row) hlen (by omega), fun ad had => ?_⟩ hfin.out.below
        injection had with had
        subst had
        exact ⟨_, _, rfl, Nat.le_refl _, hfin.out.row, by simp [intCells, hlen]⟩
      clear hI
      go_wp2_with fail
      go_ret
      exact HO.out
end Go.Proofs.Ytofcpfabjfhjoaa
