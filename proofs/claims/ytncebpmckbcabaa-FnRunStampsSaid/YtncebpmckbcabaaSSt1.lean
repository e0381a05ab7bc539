/-
  Texts that the proof rests on, joined: part 1.
-/
import Derived.Test.YtncebpmckbcabaaRows
import Derived.WalkKit
import Derived.WalkSpells
import Derived.WalkLawsBesides
import Derived.BigQuiet
import Derived.Deep.QuietTactic
import Derived.Deep.DrawnRows
import Derived.Lib.Hide
import Derived.ProofKit
import Derived.OpenShut
import Derived.ShutString
import Derived.ChangeOld
import Derived.Below
import Derived.Deep.Slices
import Derived.ChangeSame
import Derived.Conc.LoneCalls
namespace Go.Proofs.Ytncebpmckbcabaa
open Go.RowKit
set_option linter.unusedVariables false

theorem ret_bool {a b : Bool} (h : a = b) : Ending.returned (.bool a) = .returned (.bool b) := by rw [h]
theorem ret_int {k : IntKind} {a b : Int} (h : a = b) : Ending.returned (.int k a) = .returned (.int k b) := by rw [h]

theorem bcell {W w1 : World} (hb : Below W.heap.size W w1) : (∀ b o, b < W.heap.size → w1.cell? ⟨b, o, none⟩ = W.cell? ⟨b, o, none⟩) ∧ (∀ b o, b < W.heap.size → w1.frozen? ⟨b, o, none⟩ = W.frozen? ⟨b, o, none⟩) :=
  ⟨fun b o h => hb.cell (p := ⟨b, o, none⟩) h, fun b o h => hb.frozen (p := ⟨b, o, none⟩) h⟩

theorem B_alloc {B : Nat} {w v : World} (h : Below B w v) (hB : B ≤ w.heap.size) (o : Obj) : Below B w (v.alloc o) := h.alloc (Nat.le_trans hB h.size) o
theorem B_after {w v v' : World} (h : Below v.heap.size v v') (h0 : Below w.heap.size w v) : Below w.heap.size w v' := h0.trans (h.mono h0.size)
theorem B_set {w v : World} {b o : Nat} {u : Value} (h : Below w.heap.size w v) (hb : w.heap.size ≤ b) : Below w.heap.size w (v.setCell ⟨b, o, none⟩ u) := h.setCell (by simpa using hb) u
theorem B_drewN {B : Nat} {w v : World} (h : Below B w v) (n : Nat) : Below B w (v.drewN n) := ⟨h.os, h.tape, h.output, h.size, h.block⟩

/-- An operation, or a step: three integers. -/
structure OpV where
  tx : Int
  kind : Int
  item : Int
  deriving DecidableEq

def OpV.zero : OpV := ⟨0, 0, 0⟩
def OpV.val (o : OpV) : Value := .agg #[.int .i64 o.tx, .int .i64 o.kind, .int .i64 o.item]
def OpV.cells (o : OpV) : List Value := [.int .i64 o.tx, .int .i64 o.kind, .int .i64 o.item]
def opCells : List OpV → List Value
  | [] => []
  | o :: r => .int .i64 o.tx :: .int .i64 o.kind :: .int .i64 o.item :: opCells r
def intCells (xs : List Int) : List Value := xs.map (Value.int .i64)

theorem opCells_append (a b : List OpV) : opCells (a ++ b) = opCells a ++ opCells b := by
  induction a with
  | nil => rfl
  | cons o r ih => simp [opCells, ih]
theorem length_opCells (a : List OpV) : (opCells a).length = a.length * 3 := by
  induction a with
  | nil => rfl
  | cons o r ih => simp [opCells, ih]; omega
theorem opCells_at (xs : List OpV) : ∀ (i : Nat) (o : OpV), xs[i]? = some o →
    (opCells xs)[i * 3]? = some (.int .i64 o.tx) ∧ (opCells xs)[i * 3 + 1]? = some (.int .i64 o.kind) ∧ (opCells xs)[i * 3 + 2]? = some (.int .i64 o.item) := by
  induction xs with
  | nil => intro i o h; simp at h
  | cons x r ih =>
    intro i o h
    cases i with
    | zero => simp at h; subst h; simp [opCells]
    | succ i =>
      have h' : r[i]? = some o := by simpa using h
      obtain ⟨h0, h1, h2⟩ := ih i o h'
      have e : (i + 1) * 3 = i * 3 + 3 := by omega
      refine ⟨?_, ?_, ?_⟩
      · rw [e]; simpa [opCells] using h0
      · rw [e]; simpa [opCells] using h1
      · rw [e]; simpa [opCells] using h2
theorem opCells_one (xs : List OpV) : ∀ u ∈ opCells xs, u.oneCell' = true := by
  induction xs with
  | nil => simp [opCells]
  | cons x r ih =>
    intro u hu
    simp only [opCells, List.mem_cons] at hu
    rcases hu with rfl | rfl | rfl | hu
    · rfl
    · rfl
    · rfl
    · exact ih u hu
theorem intCells_one (xs : List Int) : ∀ u ∈ intCells xs, u.oneCell' = true := by
  intro u hu
  simp only [intCells, List.mem_map] at hu
  obtain ⟨x, _, rfl⟩ := hu
  rfl

/-- The slice value with address A and length n reads as the triples xs; its cells lie in blocks that are there. -/
def ROps (w : World) (A : Option Addr) (n : Nat) (xs : List OpV) : Prop :=
  xs.length = n ∧ n ≤ 1099511627776 ∧ (0 < n → ∃ b off, A = some ⟨b, off, none⟩ ∧ b < w.heap.size ∧ ∀ i o, xs[i]? = some o →
    w.cell? ⟨b, off + i * 3, none⟩ = some (.int .i64 o.tx) ∧ w.cell? ⟨b, off + i * 3 + 1, none⟩ = some (.int .i64 o.kind) ∧ w.cell? ⟨b, off + i * 3 + 2, none⟩ = some (.int .i64 o.item))

/-- The same for integers. -/
def RInts (w : World) (A : Option Addr) (n : Nat) (xs : List Int) : Prop :=
  xs.length = n ∧ n ≤ 1099511627776 ∧ (0 < n → ∃ b off, A = some ⟨b, off, none⟩ ∧ b < w.heap.size ∧ ∀ i x, xs[i]? = some x →
    w.cell? ⟨b, off + i, none⟩ = some (.int .i64 x))

/-- The same for bytes: only their range is kept. -/
def RBytes (w : World) (A : Option Addr) (n : Nat) : Prop :=
  n ≤ 9223372036854775807 ∧ (0 < n → ∃ b off, A = some ⟨b, off, none⟩ ∧ b < w.heap.size ∧ ∀ i, i < n → ∃ x : Int, 0 ≤ x ∧ x ≤ 255 ∧ w.cell? ⟨b, off + i, none⟩ = some (.int .u8 x))

section
variable {w w' : World} {A : Option Addr} {n : Nat}
theorem ROps.nil {w : World} {A : Option Addr} : ROps w A 0 [] := ⟨rfl, by omega, fun h => absurd h (by omega)⟩
theorem RInts.nil {w : World} {A : Option Addr} : RInts w A 0 [] := ⟨rfl, by omega, fun h => absurd h (by omega)⟩
theorem ROps.below {xs : List OpV} (h : ROps w A n xs) {B : Nat} (hb : Below B w w') (hB : w.heap.size ≤ B) : ROps w' A n xs := by
  obtain ⟨h1, h2, h3⟩ := h
  refine ⟨h1, h2, fun hn => ?_⟩
  obtain ⟨b, off, hA, hlt, hc⟩ := h3 hn
  have hs := hb.size
  refine ⟨b, off, hA, by omega, fun i o ho => ?_⟩
  obtain ⟨c0, c1, c2⟩ := hc i o ho
  exact ⟨(hb.cell (p := ⟨b, _, none⟩) (by simp; omega)).trans c0, (hb.cell (p := ⟨b, _, none⟩) (by simp; omega)).trans c1, (hb.cell (p := ⟨b, _, none⟩) (by simp; omega)).trans c2⟩
theorem RInts.below {xs : List Int} (h : RInts w A n xs) {B : Nat} (hb : Below B w w') (hB : w.heap.size ≤ B) : RInts w' A n xs := by
  obtain ⟨h1, h2, h3⟩ := h
  refine ⟨h1, h2, fun hn => ?_⟩
  obtain ⟨b, off, hA, hlt, hc⟩ := h3 hn
  have hs := hb.size
  exact ⟨b, off, hA, by omega, fun i o ho => (hb.cell (p := ⟨b, _, none⟩) (by simp; omega)).trans (hc i o ho)⟩
/-- One element and its three cells. -/
theorem ROps.at_ {xs : List OpV} (h : ROps w A n xs) {k : Nat} (hk : k < n) : ∃ b off o, A = some ⟨b, off, none⟩ ∧ b < w.heap.size ∧ xs[k]? = some o ∧
    w.cell? ⟨b, off + k * 3, none⟩ = some (.int .i64 o.tx) ∧ w.cell? ⟨b, off + k * 3 + 1, none⟩ = some (.int .i64 o.kind) ∧ w.cell? ⟨b, off + k * 3 + 2, none⟩ = some (.int .i64 o.item) := by
  obtain ⟨h1, h2, h3⟩ := h
  obtain ⟨b, off, hA, hlt, hc⟩ := h3 (by omega)
  have e : xs[k]? = some (xs[k]'(by omega)) := List.getElem?_eq_getElem (by omega)
  exact ⟨b, off, _, hA, hlt, e, hc k _ e⟩
theorem RInts.at_ {xs : List Int} (h : RInts w A n xs) {k : Nat} (hk : k < n) : ∃ b off x, A = some ⟨b, off, none⟩ ∧ b < w.heap.size ∧ xs[k]? = some x ∧
    w.cell? ⟨b, off + k, none⟩ = some (.int .i64 x) := by
  obtain ⟨h1, h2, h3⟩ := h
  obtain ⟨b, off, hA, hlt, hc⟩ := h3 (by omega)
  have e : xs[k]? = some (xs[k]'(by omega)) := List.getElem?_eq_getElem (by omega)
  exact ⟨b, off, _, hA, hlt, e, hc k _ e⟩
/-- The first k of them. -/
theorem ROps.take {xs : List OpV} (h : ROps w A n xs) {k : Nat} (hk : k ≤ n) : ROps w A k (xs.take k) := by
  obtain ⟨h1, h2, h3⟩ := h
  refine ⟨by simp; omega, by omega, fun hn => ?_⟩
  obtain ⟨b, off, hA, hlt, hc⟩ := h3 (by omega)
  refine ⟨b, off, hA, hlt, fun i o ho => hc i o ?_⟩
  rw [List.getElem?_take] at ho
  split at ho
  · exact ho
  · cases ho
theorem RInts.take {xs : List Int} (h : RInts w A n xs) {k : Nat} (hk : k ≤ n) : RInts w A k (xs.take k) := by
  obtain ⟨h1, h2, h3⟩ := h
  refine ⟨by simp; omega, by omega, fun hn => ?_⟩
  obtain ⟨b, off, hA, hlt, hc⟩ := h3 (by omega)
  refine ⟨b, off, hA, hlt, fun i o ho => hc i o ?_⟩
  rw [List.getElem?_take] at ho
  split at ho
  · exact ho
  · cases ho
end

/-- What the call owns reads as its list. -/
theorem ROps.of_own {w : World} {base : Nat} {e : TypeId} {c n : Nat} {A : Option Addr} {xs : List OpV} (h : w.ownsRow base e 3 (.slice A n c) n (opCells xs)) (hn : n ≤ 1099511627776) : ROps w A n xs := by
  have hl := h.1
  rw [length_opCells] at hl
  refine ⟨by omega, hn, fun h0 => ?_⟩
  rcases h.2 with ⟨h1, h2⟩ | ⟨g, cap, cur, h1, h2, h3, h4, h5, h6, h7⟩
  · omega
  · injection h1 with hA _ _
    subst hA
    have hg : g < w.heap.size := lt_of_block h3
    refine ⟨g, 0, rfl, hg, fun i o ho => ?_⟩
    have hc : ∀ j u, (opCells xs)[j]? = some u → w.cell? ⟨g, 0 + j, none⟩ = some u := fun j u hu => by
      have := h.cells (g := g) rfl j u hu
      unfold Addr.add at this
      split at this
      · subst_vars; simpa using this
      · simpa using this
    obtain ⟨c0, c1, c2⟩ := opCells_at xs i o ho
    exact ⟨by simpa using hc _ _ c0, by simpa [Nat.add_assoc] using hc _ _ c1, by simpa [Nat.add_assoc] using hc _ _ c2⟩
theorem RInts.of_own {w : World} {base : Nat} {e : TypeId} {c n : Nat} {A : Option Addr} {xs : List Int} (h : w.ownsRow base e 1 (.slice A n c) n (intCells xs)) (hn : n ≤ 1099511627776) : RInts w A n xs := by
  have hl := h.1
  simp only [intCells, List.length_map] at hl
  refine ⟨by omega, hn, fun h0 => ?_⟩
  rcases h.2 with ⟨h1, h2⟩ | ⟨g, cap, cur, h1, h2, h3, h4, h5, h6, h7⟩
  · omega
  · injection h1 with hA _ _
    subst hA
    have hg : g < w.heap.size := lt_of_block h3
    refine ⟨g, 0, rfl, hg, fun i x hx => ?_⟩
    have := h.cells (g := g) rfl i (.int .i64 x) (by simp [intCells, hx])
    unfold Addr.add at this
    split at this
    · subst_vars; simpa using this
    · simpa using this

#print axioms ROps.of_own
end Go.Proofs.Ytncebpmckbcabaa
namespace Go.Proofs.Ytncebpmckbcabaa
open Go.RowKit Go.ChangeShapes Go.WideShapes
set_option linter.unusedVariables false

theorem spot_none {w : World} {a : Addr} {v : Value} (h : w.cell? (a.add 0) = some v) : a.spot = none := by
  obtain ⟨b, off, sp⟩ := a
  cases sp with
  | none => rfl
  | some q => simp [Addr.add, World.cell?] at h; split at h <;> simp_all
theorem add_flat (b off i : Nat) : (⟨b, off, none⟩ : Addr).add i = ⟨b, off + i, none⟩ := by
  unfold Addr.add
  split
  · subst_vars; rfl
  · rfl

/-- A slice of bytes that came in. -/
def BytesIn (w : World) (A : Option Addr) (n c : Nat) : Prop := RBytes w A n ∧ n ≤ c
theorem open_bytes {H : Type} {enc : TypeId × Value → H} {w : World} {base : Nat} {spare : Nat → Bool} {held : Bool} {t e : TypeId} {len cap : Nat} {a : Option Addr} {d : DataW H} {p : List MemPlace}
    (ht : Try.prog.underlying t = some (.slice e)) (he : Try.prog.underlying e = some (.int .u8)) (hc : Try.prog.cellsOf e = 1) (h : DataW.Trod enc Try.prog w base spare held t (.slice a len cap) d p) : BytesIn w a len cap := by
  obtain ⟨fuel, hf⟩ := h
  rcases open_ints ht he hc hf with ⟨hcs, _⟩ | ⟨x, l, c, zs, hcs, _, hl, hm, hz, _, hcell, hwz⟩
  · simp [Value.cells] at hcs
    obtain ⟨rfl, rfl, rfl⟩ := hcs
    exact ⟨⟨by omega, fun h => absurd h (by omega)⟩, Nat.le_refl _⟩
  · simp [Value.cells] at hcs
    obtain ⟨rfl, rfl, rfl⟩ := hcs
    have hlz : len ≤ zs.length := by rw [hz]; split <;> omega
    unfold maxLen at hm
    refine ⟨⟨by omega, fun h0 => ?_⟩, hl⟩
    have hsp := spot_none (hcell 0 (by omega))
    obtain ⟨b, off, sp⟩ := x
    simp only at hsp
    subst hsp
    have h1 := hcell 0 (by omega)
    rw [add_flat] at h1
    refine ⟨b, off, rfl, block_lt_of_cell h1, fun i hi => ?_⟩
    have h2 := hcell i (by omega)
    have h3 := hwz (zs.getD i 0) (by rw [List.getD_eq_getElem?_getD, List.getElem?_eq_getElem (by omega)]; exact List.getElem_mem _)
    refine ⟨zs.getD i 0, ?_, ?_, ?_⟩
    · have := h3; simp [Lit.wf, IntKind.min, IntKind.max, IntKind.signed, IntKind.bits] at this; simpa using this.1
    · have := h3; simp [Lit.wf, IntKind.min, IntKind.max, IntKind.signed, IntKind.bits] at this; simp; omega
    · rw [add_flat] at h2; exact h2
theorem and2 {a b : Bool} (ha : a = true) (hb : b = true) : (a && b) = true := by rw [ha, hb]; rfl
theorem andL {a b : Bool} (h : (a && b) = true) : a = true := by cases a <;> simp_all
theorem andR {a b : Bool} (h : (a && b) = true) : b = true := by cases b <;> simp_all
end Go.Proofs.Ytncebpmckbcabaa
namespace Go.Proofs.Ytncebpmckbcabaa
open Go.RowKit Go.BigFrame Go.Conc
set_option linter.unusedVariables false

section
variable {P : Program} {Q : Exit → Act → World → Prop} {a : Act} {w : World}
/-- The walk of a code in a frame that is not early. -/
def NW (P : Program) (c : Code) (Q : Exit → Act → World → Prop) (a : Act) (w : World) : Prop :=
  ∀ (b : Frame) (k : List Item) (cs : List Frame), b.kind ≠ .early → ∃ e a' w', Q e a' w' ∧ Arrives P (lone (b.at a (.code c :: k)) cs w) b k cs e a' w'
theorem NW.of_wp {c : Code} (h : c.wp P Q a w) : NW P c Q a w := fun b k cs _ => h b k cs
theorem NW.mono {c : Code} {Q' : Exit → Act → World → Prop} (h : NW P c Q a w) (hq : ∀ e a w, Q e a w → Q' e a w) : NW P c Q' a w :=
  fun b k cs hb => let ⟨e, a', w', q, r⟩ := h b k cs hb; ⟨e, a', w', hq _ _ _ q, r⟩
theorem Arrives.skipItem {m : Machine} {b : Frame} {x : Item} {k : List Item} {cs : List Frame} {e : Exit} (hx : x.plain = true) (he : e ≠ .normal) (h : Arrives P m b (x :: k) cs e a w) : Arrives P m b k cs e a w :=
  Arrives.pass hx (fun _ _ => .inl he) h
theorem NW.seq {x y : Code} (h : NW P x (Exit.then (NW P y Q) Q) a w) : NW P (Code.seq x y) Q a w := by
  intro b k cs hb
  obtain ⟨e, a₁, w₁, hq, harr⟩ := h b (.code y :: k) cs hb
  by_cases he : e = .normal
  · subst he
    obtain ⟨e₂, a₂, w₂, hq₂, harr₂⟩ := hq b k cs hb
    exact ⟨e₂, a₂, w₂, hq₂, .of_steps (.head step_seq harr) harr₂⟩
  · refine ⟨e, a₁, w₁, ?_, .of_steps (.one step_seq) (Arrives.skipItem (x := .code y) rfl he harr)⟩
    cases e <;> first | exact hq | exact absurd rfl he
theorem NW.block {id : Nat} {c : Code} (h : NW P c (Exit.inBlock id Q) a w) : NW P (Code.block id c) Q a w := by
  intro b k cs hb
  obtain ⟨e, a₁, w₁, hq, harr⟩ := h b (.inBlock id :: k) cs hb
  cases e with
  | normal => exact ⟨.normal, a₁, w₁, hq, .head step_block (Steps.trans harr (.one step_inBlock))⟩
  | exit id' =>
    by_cases hid : id' = id
    · subst hid
      simp only [Exit.inBlock, if_true] at hq
      exact ⟨.normal, a₁, w₁, hq, .head step_block (harr k (by simp [exitTo]))⟩
    · simp only [Exit.inBlock, hid, if_false] at hq
      have hne : (id == id') = false := beq_eq_false_iff_ne.2 fun h => hid h.symm
      exact ⟨.exit id', a₁, w₁, hq, fun k' hk => .head step_block (harr k' (by simp [exitTo, hne, hk]))⟩
  | goto l => exact ⟨_, a₁, w₁, hq, fun k' hk => .head step_block (harr k' (by simp [gotoIn, hk]))⟩
  | ret => exact ⟨_, a₁, w₁, hq, .of_steps (.one step_block) harr⟩
  | panic ch => exact ⟨_, a₁, w₁, hq, .of_steps (.one step_block) harr⟩
  | outgrown => exact ⟨_, a₁, w₁, hq, .of_steps (b := b) (k := k) (cs := cs) (e := .outgrown) (.one step_block) harr⟩
/-- A loop: what holds ahead of each round, and a number that falls. -/
theorem NW.loop {c : Code} (I : Nat → Act → World → Prop) (n : Nat) (h₀ : I n a w)
    (round : ∀ n a w, I n a w → NW P c (Exit.then (fun a' w' => ∃ m, m < n ∧ I m a' w') Q) a w) : NW P (Code.loop c) Q a w := by
  intro b k cs hb
  have key : ∀ n a w, I n a w → ∃ e a' w', Q e a' w' ∧ Arrives P (lone (b.at a (.code c :: .inLoop c :: k)) cs w) b k cs e a' w' := by
    intro n
    induction n using Nat.strongRecOn with
    | _ n ih =>
      intro a w hI
      obtain ⟨e, a₁, w₁, hq, harr⟩ := round n a w hI b (.inLoop c :: k) cs hb
      by_cases he : e = .normal
      · subst he
        obtain ⟨m, hm, hI₁⟩ := hq
        obtain ⟨e₂, a₂, w₂, hq₂, harr₂⟩ := ih m hm a₁ w₁ hI₁
        exact ⟨e₂, a₂, w₂, hq₂, .of_steps (Steps.trans harr (.one step_inLoop)) harr₂⟩
      · refine ⟨e, a₁, w₁, ?_, Arrives.skipItem (x := .inLoop c) rfl he harr⟩
        cases e <;> first | exact hq | exact absurd rfl he
  obtain ⟨e, a', w', hq, harr⟩ := key n a w h₀
  exact ⟨e, a', w', hq, .of_steps (.one step_loop) harr⟩
theorem calls_of_nw {f : FuncId} {fn : Func} {c : Code} {args : Array Value} {R : Ending → World → Prop} (hf : P.funcs[f]? = some fn) (hb : fn.body = some c)
    (h : NW P c (bodyPost P fn R) { tmps := args ++ Array.replicate (fn.ntmps - args.size) undef, defers := [] } w) : Calls P f args w R := by
  intro cs
  obtain ⟨b, hbd⟩ : ∃ b : Frame, b = { (default : Frame) with fn := f, kind := .normal } := ⟨_, rfl⟩
  have henter : Frame.enter P f args .normal = b.at { tmps := args ++ Array.replicate (fn.ntmps - args.size) undef, defers := [] } [.code c] := by
    simp [Frame.enter, Frame.at, hf, hb, hbd]
  obtain ⟨e, a', w', hq, harr⟩ := h b [] cs (by rw [hbd]; simp)
  rw [← henter] at harr
  have hbf : b.fn = f := by rw [hbd]
  have hbk : b.kind = .normal := by rw [hbd]
  cases e with
  | normal =>
    obtain ⟨hd, v, hr, hR⟩ := hq
    exact ⟨.returned v, w', _, hR, Steps.trans harr (.one step_end), hbf, rfl, hd, hbk, fn, by rw [← hbf] at hf; exact hf, hr⟩
  | ret =>
    obtain ⟨hd, v, hr, hR⟩ := hq
    obtain ⟨todo, hs⟩ := harr
    exact ⟨.returned v, w', _, hR, hs, hbf, rfl, hd, hbk, fn, by rw [← hbf] at hf; exact hf, hr⟩
  | panic chain =>
    obtain ⟨hd, hR⟩ := hq
    obtain ⟨todo, hs⟩ := harr
    exact ⟨.panicked chain, w', _, hR, hs, hbf, rfl, hd, fn, by rw [← hbf] at hf; exact hf⟩
  | outgrown =>
    rcases harr with hk | hm
    · rw [hbk] at hk; cases hk
    · exact ⟨.outgrown, w', b.at a' [], hq, hm, hbf, trivial⟩
  | exit id => exact hq.elim
  | goto l => exact hq.elim

/-! ### regions -/
/-- The operations with these numbers, as the machine takes them. -/
def OpsN (P : Program) (ops : Array Oper) (l : List Nat) (Q : Exit → Act → World → Prop) (a : Act) (w : World) : Prop :=
  ∀ (b : Frame) (k : List Item) (cs : List Frame), b.kind ≠ .early → ∃ e a' w', Q e a' w' ∧ Arrives P (lone (b.at a (.inRegion ops l :: k)) cs w) b k cs e a' w'
theorem OpsN.region {id : Nat} {ops : Array Oper} (h : OpsN P ops (List.range ops.size) Q a w) : NW P (Code.region id ops false) Q a w :=
  fun b k cs hb => let ⟨e, a', w', q, r⟩ := h b k cs hb; ⟨e, a', w', q, .of_steps (.one step_region) r⟩
theorem OpsN.nil {ops : Array Oper} (h : Q .normal a w) : OpsN P ops [] Q a w := fun b k cs _ => ⟨.normal, a, w, h, .one step_region_end⟩
theorem OpsN.value {ops : Array Oper} {i : Nat} {l : List Nat} {o : Oper} {v : Value} {w' : World} (ho : ops[i]? = some o) (hw : Region.wanted o (yielded ops a.tmps) = true)
    (hr : (execOp a.eval o).run P w = .ok (.value v) w') (h : OpsN P ops l Q (a.put o.dst v) w') : OpsN P ops (i :: l) Q a w := by
  intro b k cs hb
  obtain ⟨e, a', w₂, q, arr⟩ := h b k cs hb
  refine ⟨e, a', w₂, q, .of_steps (.one (step_lone_go ?_)) arr⟩
  have hfin := Frame.finish_at b a ops i l k v
  rw [ho] at hfin
  simp only [Option.bind_some] at hfin
  rw [stepG_op ho hw, ← hfin]
  simp [stepG.apply, hr]
/-- A send into a buffer with room. -/
theorem OpsN.send {ops : Array Oper} {i : Nat} {l : List Nat} {o : Oper} {c cap s r : Nat} {buf : Array Value} {v z : Value} {tm : Bool} (ho : ops[i]? = some o) (hw : Region.wanted o (yielded ops a.tmps) = true)
    (hr : (execOp a.eval o).run P w = .ok (.comm #[scase c v z] true .send) w) (hc : w.heap[c]? = some (.chan cap buf false s r tm)) (hroom : buf.size < cap)
    (h : OpsN P ops l Q (a.put o.dst undef) (w.setChan c cap (buf.push v) false (s + 1) r tm)) : OpsN P ops (i :: l) Q a w := by
  intro b k cs hb
  obtain ⟨e, a', w', q, arr⟩ := h b k cs hb
  refine ⟨e, a', w', q, .of_steps (.one ?_) arr⟩
  have hs := step_lone_send_room (stepG_comm (main := true) (b := b) (k := k) (cs := cs) (rest := l) ho hw hb hr) hc hroom
  rw [Frame.finish_at, ho] at hs
  exact hs
theorem OpsN.recv {ops : Array Oper} {i : Nat} {l : List Nat} {o : Oper} {c cap s r : Nat} {buf : Array Value} {z : Value} {tm closed : Bool} (ho : ops[i]? = some o) (hw : Region.wanted o (yielded ops a.tmps) = true)
    (hr : (execOp a.eval o).run P w = .ok (.comm #[rcase c z] true (.recv true)) w) (hc : w.heap[c]? = some (.chan cap buf closed s r tm)) (hsome : 0 < buf.size)
    (h : OpsN P ops l Q (a.put o.dst (.tuple #[buf.getD 0 undef, .bool true])) (w.setChan c cap (buf.extract 1 buf.size) closed s (r + 1) tm)) : OpsN P ops (i :: l) Q a w := by
  intro b k cs hb
  obtain ⟨e, a', w', q, arr⟩ := h b k cs hb
  refine ⟨e, a', w', q, .of_steps (.one ?_) arr⟩
  have hs := step_lone_recv_buf true (stepG_comm (main := true) (b := b) (k := k) (cs := cs) (rest := l) ho hw hb hr) hc hsome
  rw [Frame.finish_at, ho] at hs
  exact hs
theorem OpsN.recv_shut {ops : Array Oper} {i : Nat} {l : List Nat} {o : Oper} {c cap s r : Nat} {z : Value} {tm : Bool} (ho : ops[i]? = some o) (hw : Region.wanted o (yielded ops a.tmps) = true)
    (hr : (execOp a.eval o).run P w = .ok (.comm #[rcase c z] true (.recv true)) w) (hc : w.heap[c]? = some (.chan cap #[] true s r tm))
    (h : OpsN P ops l Q (a.put o.dst (.tuple #[z, .bool false])) w) : OpsN P ops (i :: l) Q a w := by
  intro b k cs hb
  obtain ⟨e, a', w', q, arr⟩ := h b k cs hb
  refine ⟨e, a', w', q, .of_steps (.one ?_) arr⟩
  have hs := step_lone_recv_shut true (stepG_comm (main := true) (b := b) (k := k) (cs := cs) (rest := l) ho hw hb hr) hc
  rw [Frame.finish_at, ho] at hs
  exact hs
end
end Go.Proofs.Ytncebpmckbcabaa
