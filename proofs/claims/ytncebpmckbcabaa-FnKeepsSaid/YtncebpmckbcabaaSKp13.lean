/-
  Texts that the proof rests on, joined: part 13.
-/
import Derived.Test.YtncebpmckbcabaaSKp10
import Derived.Test.YtncebpmckbcabaaSKp12
namespace Go.Proofs.Ytncebpmckbcabaa
open Go.RowKit Go.BigFrame
set_option linter.unusedVariables false

theorem stepInfo : (Try.prog.info? 73).map (fun i => (i.zero, i.size, i.bytes)) = some (some (.agg #[.int .i64 0, .int .i64 0, .int .i64 0]), 3, 24) := by kernel_rfl
section
variable {w : World} {ops : Array Oper} {rest : List Oper} {o : Oper} {a : Act} {Q : Exit → Act → World → Prop}
/-- append of steps. -/
theorem app_steps (s x : Operand) {base : Nat} {v : Value} {n : Nat} {xs : List OpV} (hown : w.ownsRow base 73 3 v n (opCells xs)) (hbase : base ≤ w.heap.size)
    {A : Option Addr} {m c : Nat} {ys : List OpV} (hr : ROps w A m ys) (hn : n ≤ 1099511627776)
    (hgd : o.guard = none) (ho : o.op = .call { callee := .builtin .append, args := #[s, x], argTypes := #[25, 25] }) (hs : a.eval s = v) (hx : a.eval x = .slice A m c)
    (h : ∀ v' w', w'.ownsRow base 73 3 v' (n + m) (opCells (xs ++ ys)) → w.grownBy w' v.ownBlock → (v'.ownBlock = v.ownBlock ∨ v'.ownBlock = some w.heap.size) → wpList Try.prog ops Q rest (a.put o.dst v') w') : wpList Try.prog ops Q (o :: rest) a w := by
  obtain ⟨i0, hi, hz0, hz1, hz2⟩ := info_parts stepInfo
  have hm := hr.2.1
  refine wpList_app hgd s x _ ho base _ i0 _ 3 24 Try.underlying25 hi hz0 hz1 hz2 rfl (by decide) v n _ hs hown A m c _ hx hr.src (by simp only [maxLen]; omega) (by omega) hbase ?_
  intro v' w' h1 h2 h3
  rw [← opCells_append] at h1
  exact h v' w' h1 h2 h3
end
theorem step_ne_op : (73 : TypeId) ≠ 62 := by decide
theorem step_ne_int : (73 : TypeId) ≠ 3 := by decide
theorem desk_ne : (28 : TypeId) ≠ 62 ∧ (28 : TypeId) ≠ 73 ∧ (28 : TypeId) ≠ 3 := by decide

/-- The four values of a desk. -/
structure DV where
  d : Value
  w : Value
  l : Value
  k : Value
def DV.val (V : DV) : Value := .agg #[V.d, V.w, V.l, V.k]
def DV.list (V : DV) : List Value := [V.d, V.w, V.l, V.k]
def DV.nil : DV := ⟨.slice none 0 0, .slice none 0 0, .slice none 0 0, .slice none 0 0⟩
structure DeskAt (w : World) (B : Nat) (V : DV) (D : Dsk) : Prop where
  base : B ≤ w.heap.size
  done : w.ownsRow B 62 3 V.d D.done.length (opCells D.done)
  wait : w.ownsRow B 62 3 V.w D.wait.length (opCells D.wait)
  locks : w.ownsRow B 73 3 V.l D.locks.length (opCells D.locks)
  dead : w.ownsRow B 3 1 V.k D.dead.length (intCells D.dead)
  sep : ∀ b, V.d.ownBlock = some b → V.w.ownBlock ≠ some b
def NotIn (V : DV) (g : Nat) : Prop := V.d.ownBlock ≠ some g ∧ V.w.ownBlock ≠ some g ∧ V.l.ownBlock ≠ some g ∧ V.k.ownBlock ≠ some g
/-- From w to w' only the four rows, and what is new, have turned. -/
structure DFr (w : World) (V : DV) (w' : World) : Prop where
  os : w'.os = w.os
  tape : w'.tape = w.tape
  output : w'.output = w.output
  size : w.heap.size ≤ w'.heap.size
  block : ∀ i, i < w.heap.size → NotIn V i → w'.heap[i]? = w.heap[i]?
/-- A row is the old one, or new. -/
def NB (H : Nat) (v v' : Value) : Prop := v'.ownBlock = v.ownBlock ∨ ∀ b, v'.ownBlock = some b → H ≤ b
structure DStep (w : World) (V : DV) (w' : World) (V' : DV) : Prop where
  fr : DFr w V w'
  nd : NB w.heap.size V.d V'.d
  nw : NB w.heap.size V.w V'.w
  nl : NB w.heap.size V.l V'.l
  nk : NB w.heap.size V.k V'.k
theorem NB.refl (H : Nat) (v : Value) : NB H v v := .inl rfl
theorem NB.trans {H K : Nat} {a b c : Value} (h : NB H a b) (k : NB K b c) (hHK : H ≤ K) : NB H a c := by
  rcases k with k | k
  · rcases h with h | h
    · exact .inl (k.trans h)
    · exact .inr (by rw [k]; exact h)
  · exact .inr fun x hx => Nat.le_trans hHK (k x hx)
theorem NB.ne {H g : Nat} {a b : Value} (h : NB H a b) (hg : g < H) (ha : a.ownBlock ≠ some g) : b.ownBlock ≠ some g := by
  rcases h with h | h
  · rw [h]; exact ha
  · intro e; have := h g e; omega
theorem NB.of_hat {H K : Nat} {a b : Value} (h : b.ownBlock = a.ownBlock ∨ b.ownBlock = some K) (hHK : H ≤ K) : NB H a b := by
  rcases h with h | h
  · exact .inl h
  · exact .inr fun x hx => by rw [h] at hx; injection hx with hx; omega
theorem DStep.notIn {w w' : World} {V V' : DV} {g : Nat} (h : DStep w V w' V') (hg : g < w.heap.size) (hn : NotIn V g) : NotIn V' g :=
  ⟨h.nd.ne hg hn.1, h.nw.ne hg hn.2.1, h.nl.ne hg hn.2.2.1, h.nk.ne hg hn.2.2.2⟩
theorem DStep.refl (w : World) (V : DV) : DStep w V w V := ⟨⟨rfl, rfl, rfl, Nat.le_refl _, fun _ _ _ => rfl⟩, .refl _ _, .refl _ _, .refl _ _, .refl _ _⟩
theorem DStep.size {w w' : World} {V V' : DV} (h : DStep w V w' V') : w.heap.size ≤ w'.heap.size := h.fr.size
theorem DStep.trans {w w1 w2 : World} {V V1 V2 : DV} (h : DStep w V w1 V1) (k : DStep w1 V1 w2 V2) : DStep w V w2 V2 := by
  have hs := h.fr.size
  refine ⟨⟨k.fr.os.trans h.fr.os, k.fr.tape.trans h.fr.tape, k.fr.output.trans h.fr.output, Nat.le_trans hs k.fr.size, fun i hi hn => ?_⟩, h.nd.trans k.nd hs, h.nw.trans k.nw hs, h.nl.trans k.nl hs, h.nk.trans k.nk hs⟩
  exact (k.fr.block i (by omega) (h.notIn hi hn)).trans (h.fr.block i hi hn)
theorem DStep.of_below {w w' : World} (V : DV) (h : Below w.heap.size w w') : DStep w V w' V :=
  ⟨⟨h.os, h.tape, h.output, h.size, fun i hi _ => h.block i hi⟩, .refl _ _, .refl _ _, .refl _ _, .refl _ _⟩
theorem DStep.below {w w1 w' : World} {V V1 : DV} (h : DStep w V w1 V1) (hb : Below w1.heap.size w1 w') : DStep w V w' V1 := h.trans (.of_below V1 hb)
theorem DStep.alloc {w w1 : World} {V V1 : DV} (h : DStep w V w1 V1) (o : Obj) : DStep w V (w1.alloc o) V1 := h.below ((Below.refl _ _).alloc (Nat.le_refl _) _)
theorem DStep.set {w w1 : World} {V V1 : DV} (h : DStep w V w1 V1) {g : Nat} (hg : w.heap.size ≤ g) (i : Nat) (u : Value) : DStep w V (w1.setCell ⟨g, i, none⟩ u) V1 :=
  ⟨⟨h.fr.os, h.fr.tape, h.fr.output, by simpa [World.setCell] using h.fr.size, fun j hj hn => (Below.heap_setCell w1 ⟨g, i, none⟩ u j (by simp; omega)).trans (h.fr.block j hj hn)⟩, h.nd, h.nw, h.nl, h.nk⟩
theorem DStep.drew {w w1 : World} {V V1 : DV} (h : DStep w V w1 V1) : DStep w V w1.drew V1 := h.below (Below.refl _ _).drew
section
variable {w w1 w2 : World} {V V1 : DV}
theorem DStep.growD (h : DStep w V w1 V1) {v : Value} (hg : w1.grownBy w2 V1.d.ownBlock) (hat : v.ownBlock = V1.d.ownBlock ∨ v.ownBlock = some w1.heap.size) : DStep w V w2 ⟨v, V1.w, V1.l, V1.k⟩ :=
  h.trans ⟨⟨hg.os, hg.tape, hg.output, hg.size, fun i hi hn => hg.block i hi (fun e => hn.1 e.symm)⟩, .of_hat hat (Nat.le_refl _), .refl _ _, .refl _ _, .refl _ _⟩
theorem DStep.growW (h : DStep w V w1 V1) {v : Value} (hg : w1.grownBy w2 V1.w.ownBlock) (hat : v.ownBlock = V1.w.ownBlock ∨ v.ownBlock = some w1.heap.size) : DStep w V w2 ⟨V1.d, v, V1.l, V1.k⟩ :=
  h.trans ⟨⟨hg.os, hg.tape, hg.output, hg.size, fun i hi hn => hg.block i hi (fun e => hn.2.1 e.symm)⟩, .refl _ _, .of_hat hat (Nat.le_refl _), .refl _ _, .refl _ _⟩
theorem DStep.growL (h : DStep w V w1 V1) {v : Value} (hg : w1.grownBy w2 V1.l.ownBlock) (hat : v.ownBlock = V1.l.ownBlock ∨ v.ownBlock = some w1.heap.size) : DStep w V w2 ⟨V1.d, V1.w, v, V1.k⟩ :=
  h.trans ⟨⟨hg.os, hg.tape, hg.output, hg.size, fun i hi hn => hg.block i hi (fun e => hn.2.2.1 e.symm)⟩, .refl _ _, .refl _ _, .of_hat hat (Nat.le_refl _), .refl _ _⟩
theorem DStep.growK (h : DStep w V w1 V1) {v : Value} (hg : w1.grownBy w2 V1.k.ownBlock) (hat : v.ownBlock = V1.k.ownBlock ∨ v.ownBlock = some w1.heap.size) : DStep w V w2 ⟨V1.d, V1.w, V1.l, v⟩ :=
  h.trans ⟨⟨hg.os, hg.tape, hg.output, hg.size, fun i hi hn => hg.block i hi (fun e => hn.2.2.2 e.symm)⟩, .refl _ _, .refl _ _, .refl _ _, .of_hat hat (Nat.le_refl _)⟩
/-- The waiting row is a new one. -/
theorem DStep.newW (h : DStep w V w1 V1) {v : Value} (hv : ∀ b, v.ownBlock = some b → w.heap.size ≤ b) : DStep w V w1 ⟨V1.d, v, V1.l, V1.k⟩ := ⟨h.fr, h.nd, .inr hv, h.nl, h.nk⟩
end
section
variable {w w' : World} {B : Nat} {V : DV} {D : Dsk}
theorem DeskAt.below (h : DeskAt w B V D) (hb : Below w.heap.size w w') : DeskAt w' B V D :=
  ⟨Nat.le_trans h.base hb.size, own_below h.done hb, own_below h.wait hb, own_below h.locks hb, own_below h.dead hb, h.sep⟩
theorem DeskAt.alloc (h : DeskAt w B V D) (o : Obj) : DeskAt (w.alloc o) B V D := h.below ((Below.refl _ _).alloc (Nat.le_refl _) _)
theorem DeskAt.drew (h : DeskAt w B V D) : DeskAt w.drew B V D := h.below (Below.refl _ _).drew
theorem DeskAt.set (h : DeskAt w B V D) {g : Nat} (hn : NotIn V g) (i : Nat) (u : Value) : DeskAt (w.setCell ⟨g, i, none⟩ u) B V D := by
  have hg : w.grownBy (w.setCell ⟨g, i, none⟩ u) (some g) := grown_set
  refine ⟨Nat.le_trans h.base hg.size, own_grown h.done hg ?_, own_grown h.wait hg ?_, own_grown h.locks hg ?_, own_grown h.dead hg ?_, h.sep⟩
  · intro b e; injection e with e; subst e; exact hn.1
  · intro b e; injection e with e; subst e; exact hn.2.1
  · intro b e; injection e with e; subst e; exact hn.2.2.1
  · intro b e; injection e with e; subst e; exact hn.2.2.2
theorem DeskAt.notIn (h : DeskAt w B V D) {g : Nat} {T : TypeId} {vs : List Value} (hr : RowIs w g T vs) (h1 : T ≠ 62) (h2 : T ≠ 73) (h3 : T ≠ 3) : NotIn V g :=
  ⟨own_ne h.done hr h1, own_ne h.wait hr h1, own_ne h.locks hr h2, own_ne h.dead hr h3⟩
theorem DeskAt.far (h : DeskAt w B V D) {g : Nat} (hg : w.heap.size ≤ g) : NotIn V g := ⟨own_lt h.done hg, own_lt h.wait hg, own_lt h.locks hg, own_lt h.dead hg⟩
theorem DeskAt.low (h : DeskAt w B V D) {g : Nat} (hg : g < B) : NotIn V g := by
  have key : ∀ {e : TypeId} {size n : Nat} {v : Value} {xs : List Value}, w.ownsRow B e size v n xs → v.ownBlock ≠ some g := fun h e => by
    have := (World.ownsRow.lt h g e).1; omega
  exact ⟨key h.done, key h.wait, key h.locks, key h.dead⟩
theorem DeskAt.growL (h : DeskAt w B V D) {v : Value} {L : List OpV} {n : Nat} (hg : w.grownBy w' V.l.ownBlock) (ho : w'.ownsRow B 73 3 v n (opCells L)) : DeskAt w' B ⟨V.d, V.w, v, V.k⟩ ⟨D.done, D.wait, L, D.dead⟩ := by
  obtain rfl := own_lenOps ho
  exact ⟨Nat.le_trans h.base hg.size, own_apart h.done h.locks step_ne_op.symm hg, own_apart h.wait h.locks step_ne_op.symm hg, ho, own_apart h.dead h.locks step_ne_int.symm hg, h.sep⟩
theorem DeskAt.growK (h : DeskAt w B V D) {v : Value} {K : List Int} {n : Nat} (hg : w.grownBy w' V.k.ownBlock) (ho : w'.ownsRow B 3 1 v n (intCells K)) : DeskAt w' B ⟨V.d, V.w, V.l, v⟩ ⟨D.done, D.wait, D.locks, K⟩ := by
  obtain rfl := own_lenInts ho
  exact ⟨Nat.le_trans h.base hg.size, own_apart h.done h.dead op_ne_int hg, own_apart h.wait h.dead op_ne_int hg, own_apart h.locks h.dead step_ne_int hg, ho, h.sep⟩
theorem DeskAt.growD (h : DeskAt w B V D) {v : Value} {L : List OpV} {n : Nat} (hg : w.grownBy w' V.d.ownBlock) (ho : w'.ownsRow B 62 3 v n (opCells L)) (hat : v.ownBlock = V.d.ownBlock ∨ v.ownBlock = some w.heap.size) : DeskAt w' B ⟨v, V.w, V.l, V.k⟩ ⟨L, D.wait, D.locks, D.dead⟩ := by
  obtain rfl := own_lenOps ho
  refine ⟨Nat.le_trans h.base hg.size, ho, own_grown h.wait hg h.sep, own_apart h.locks h.done step_ne_op hg, own_apart h.dead h.done op_ne_int.symm hg, fun b hb => ?_⟩
  rcases hat with e | e
  · exact h.sep b (e ▸ hb)
  · have hb : v.ownBlock = some b := hb
    rw [e] at hb
    injection hb with hb
    subst hb
    exact own_lt h.wait (Nat.le_refl _)
theorem DeskAt.growW (h : DeskAt w B V D) {v : Value} {L : List OpV} {n : Nat} (hg : w.grownBy w' V.w.ownBlock) (ho : w'.ownsRow B 62 3 v n (opCells L)) (hat : v.ownBlock = V.w.ownBlock ∨ v.ownBlock = some w.heap.size) : DeskAt w' B ⟨V.d, v, V.l, V.k⟩ ⟨D.done, L, D.locks, D.dead⟩ := by
  obtain rfl := own_lenOps ho
  refine ⟨Nat.le_trans h.base hg.size, own_grown h.done hg (fun b hb e => h.sep b e hb), ho, own_apart h.locks h.wait step_ne_op hg, own_apart h.dead h.wait op_ne_int.symm hg, fun b hb he => ?_⟩
  rcases hat with e | e
  · exact h.sep b hb (e ▸ he)
  · have he : v.ownBlock = some b := he
    rw [e] at he
    injection he with he
    subst he
    exact own_lt h.done (Nat.le_refl _) hb
/-- Another waiting row, apart from the one of what is done. -/
theorem DeskAt.newW (h : DeskAt w B V D) {v : Value} {L : List OpV} {n : Nat} (ho : w.ownsRow B 62 3 v n (opCells L)) (hs : ∀ b, V.d.ownBlock = some b → v.ownBlock ≠ some b) : DeskAt w B ⟨V.d, v, V.l, V.k⟩ ⟨D.done, L, D.locks, D.dead⟩ := by
  obtain rfl := own_lenOps ho
  exact ⟨h.base, h.done, ho, h.locks, h.dead, hs⟩
theorem DeskAt.doneN (h : DeskAt w B V D) {n : Nat} (hn : D.done.length = n) : w.ownsRow B 62 3 V.d n (opCells D.done) := hn ▸ h.done
theorem DeskAt.waitN (h : DeskAt w B V D) {n : Nat} (hn : D.wait.length = n) : w.ownsRow B 62 3 V.w n (opCells D.wait) := hn ▸ h.wait
theorem DeskAt.locksN (h : DeskAt w B V D) {n : Nat} (hn : D.locks.length = n) : w.ownsRow B 73 3 V.l n (opCells D.locks) := hn ▸ h.locks
theorem DeskAt.deadN (h : DeskAt w B V D) {n : Nat} (hn : D.dead.length = n) : w.ownsRow B 3 1 V.k n (intCells D.dead) := hn ▸ h.dead
/-- Another row grows. -/
theorem DeskAt.apart (h : DeskAt w B V D) {row : Option Nat} (hg : w.grownBy w' row) (hn : ∀ b, row = some b → NotIn V b) : DeskAt w' B V D :=
  ⟨Nat.le_trans h.base hg.size, own_grown h.done hg (fun b e => (hn b e).1), own_grown h.wait hg (fun b e => (hn b e).2.1), own_grown h.locks hg (fun b e => (hn b e).2.2.1), own_grown h.dead hg (fun b e => (hn b e).2.2.2), h.sep⟩
theorem DStep.apart {w1 : World} {V1 : DV} (h : DStep w V w1 V1) {row : Option Nat} (hg : w1.grownBy w' row) (hn : ∀ b, row = some b → w.heap.size ≤ b) : DStep w V w' V1 :=
  ⟨⟨hg.os.trans h.fr.os, hg.tape.trans h.fr.tape, hg.output.trans h.fr.output, Nat.le_trans h.fr.size hg.size, fun i hi hni => (hg.block i (by have := h.fr.size; omega) (fun e => by have := hn i e.symm; omega)).trans (h.fr.block i hi hni)⟩, h.nd, h.nw, h.nl, h.nk⟩
/-- A row that is not of the desk stays. -/
theorem DStep.row {w w' : World} {V V' : DV} (h : DStep w V w' V') {g : Nat} {T : TypeId} {vs : List Value} (hr : RowIs w g T vs) (hn : NotIn V g) : RowIs w' g T vs := (h.fr.block g hr.lt hn).trans hr
theorem DStep.ops {w w' : World} {V V' : DV} (h : DStep w V w' V') {A : Option Addr} {n : Nat} {xs : List OpV} (hr : ROps w A n xs) (hn : ∀ ad, A = some ad → NotIn V ad.block) : ROps w' A n xs := by
  obtain ⟨h1, h2, h3⟩ := hr
  refine ⟨h1, h2, fun h0 => ?_⟩
  obtain ⟨b, off, hA, hlt, hc⟩ := h3 h0
  have hh := h.fr.block b hlt (hn _ hA)
  have hs := h.fr.size
  refine ⟨b, off, hA, by omega, fun i o ho => ?_⟩
  obtain ⟨c0, c1, c2⟩ := hc i o ho
  exact ⟨(World.cell?_of_block (w := w) (a := ⟨b, _, none⟩) hh).trans c0, (World.cell?_of_block (w := w) (a := ⟨b, _, none⟩) hh).trans c1, (World.cell?_of_block (w := w) (a := ⟨b, _, none⟩) hh).trans c2⟩
theorem DStep.ints {w w' : World} {V V' : DV} (h : DStep w V w' V') {A : Option Addr} {n : Nat} {xs : List Int} (hr : RInts w A n xs) (hn : ∀ ad, A = some ad → NotIn V ad.block) : RInts w' A n xs := by
  obtain ⟨h1, h2, h3⟩ := hr
  refine ⟨h1, h2, fun h0 => ?_⟩
  obtain ⟨b, off, hA, hlt, hc⟩ := h3 h0
  have hh := h.fr.block b hlt (hn _ hA)
  have hs := h.fr.size
  exact ⟨b, off, hA, by omega, fun i x hx => (World.cell?_of_block (w := w) (a := ⟨b, _, none⟩) hh).trans (hc i x hx)⟩
theorem DeskAt.forms (h : DeskAt w B V D) : ∃ (Ad Aw Al Ak : Option Addr) (nd nw nl nk cd cw cl ck : Nat), V = ⟨.slice Ad nd cd, .slice Aw nw cw, .slice Al nl cl, .slice Ak nk ck⟩ ∧ (nd ≤ cd ∧ nw ≤ cw ∧ nl ≤ cl ∧ nk ≤ ck) ∧ D.done.length = nd ∧ D.wait.length = nw ∧ D.locks.length = nl ∧ D.dead.length = nk := by
  obtain ⟨a1, c1, e1, l1⟩ := own_form2 h.done
  obtain ⟨a2, c2, e2, l2⟩ := own_form2 h.wait
  obtain ⟨a3, c3, e3, l3⟩ := own_form2 h.locks
  obtain ⟨a4, c4, e4, l4⟩ := own_form2 h.dead
  obtain ⟨d, w', l, k⟩ := V
  simp only at e1 e2 e3 e4
  subst e1; subst e2; subst e3; subst e4
  exact ⟨a1, a2, a3, a4, _, _, _, _, c1, c2, c3, c4, rfl, ⟨l1, l2, l3, l4⟩, rfl, rfl, rfl, rfl⟩
end
/-- A box holds a desk. -/
def Boxed (w : World) (g : Nat) (V : DV) : Prop := RowIs w g 28 V.list
section
variable {w w' : World} {g : Nat} {V : DV}
theorem Boxed.cells (h : Boxed w g V) : w.cell? ⟨g, 0, none⟩ = some V.d ∧ w.cell? ⟨g, 1, none⟩ = some V.w ∧ w.cell? ⟨g, 2, none⟩ = some V.l ∧ w.cell? ⟨g, 3, none⟩ = some V.k :=
  ⟨RowIs.cell h rfl, RowIs.cell h rfl, RowIs.cell h rfl, RowIs.cell h rfl⟩
theorem Boxed.soft (h : Boxed w g V) (i : Nat) : w.frozen? ⟨g, i, none⟩ = false := RowIs.frozen h i
theorem Boxed.below (h : Boxed w g V) (hb : Below w.heap.size w w') : Boxed w' g V := RowIs.below h hb (Nat.le_refl _)
theorem Boxed.alloc (h : Boxed w g V) (o : Obj) : Boxed (w.alloc o) g V := RowIs.alloc h o
theorem Boxed.drew (h : Boxed w g V) : Boxed w.drew g V := h
theorem Boxed.setD (h : Boxed w g V) (v : Value) : Boxed (w.setCell ⟨g, 0, none⟩ v) g ⟨v, V.w, V.l, V.k⟩ := RowIs.set h 0 v
theorem Boxed.setW (h : Boxed w g V) (v : Value) : Boxed (w.setCell ⟨g, 1, none⟩ v) g ⟨V.d, v, V.l, V.k⟩ := RowIs.set h 1 v
theorem Boxed.setL (h : Boxed w g V) (v : Value) : Boxed (w.setCell ⟨g, 2, none⟩ v) g ⟨V.d, V.w, v, V.k⟩ := RowIs.set h 2 v
theorem Boxed.setK (h : Boxed w g V) (v : Value) : Boxed (w.setCell ⟨g, 3, none⟩ v) g ⟨V.d, V.w, V.l, v⟩ := RowIs.set h 3 v
theorem Boxed.setAll (h : Boxed w g V) (U : DV) : Boxed ((((w.setCell ⟨g, 0, none⟩ U.d).setCell ⟨g, 1, none⟩ U.w).setCell ⟨g, 2, none⟩ U.l).setCell ⟨g, 3, none⟩ U.k) g U :=
  (((h.setD U.d).setW U.w).setL U.l).setK U.k
theorem Boxed.set4 (h : Boxed w g V) (a b c d : Value) : Boxed ((((w.setCell ⟨g, 0, none⟩ a).setCell ⟨g, 1, none⟩ b).setCell ⟨g, 2, none⟩ c).setCell ⟨g, 3, none⟩ d) g ⟨a, b, c, d⟩ := h.setAll ⟨a, b, c, d⟩
theorem Boxed.other (h : Boxed w g V) {g' : Nat} (hne : g' ≠ g) (i : Nat) (u : Value) : Boxed (w.setCell ⟨g', i, none⟩ u) g V :=
  (Below.heap_setCell w ⟨g', i, none⟩ u g (by simpa using hne.symm)).trans h
theorem Boxed.step {V0 V1 : DV} (h : Boxed w g V) (hs : DStep w V0 w' V1) (hn : NotIn V0 g) : Boxed w' g V := hs.row h hn
theorem Boxed.new (w : World) (V : DV) : Boxed (w.alloc (.cells V.list.toArray 28)) w.heap.size V := heap_alloc_new w _
theorem Boxed.notIn {B : Nat} {U : DV} {D : Dsk} (h : Boxed w g V) (hd : DeskAt w B U D) : NotIn U g := hd.notIn h desk_ne.1 desk_ne.2.1 desk_ne.2.2
theorem Boxed.grown (h : Boxed w g V) {row : Option Nat} (hg : w.grownBy w' row) (hne : row ≠ some g) : Boxed w' g V := RowIs.grown h hg hne
end
theorem DeskAt.setAll {w : World} {B : Nat} {V : DV} {D : Dsk} (h : DeskAt w B V D) {g : Nat} (hn : NotIn V g) (a b c d : Value) : DeskAt ((((w.setCell ⟨g, 0, none⟩ a).setCell ⟨g, 1, none⟩ b).setCell ⟨g, 2, none⟩ c).setCell ⟨g, 3, none⟩ d) B V D :=
  (((h.set hn 0 a).set hn 1 b).set hn 2 c).set hn 3 d
theorem DStep.setAll {w w1 : World} {V V1 : DV} (h : DStep w V w1 V1) {g : Nat} (hg : w.heap.size ≤ g) (a b c d : Value) : DStep w V ((((w1.setCell ⟨g, 0, none⟩ a).setCell ⟨g, 1, none⟩ b).setCell ⟨g, 2, none⟩ c).setCell ⟨g, 3, none⟩ d) V1 :=
  (((h.set hg 0 a).set hg 1 b).set hg 2 c).set hg 3 d
theorem Boxed.otherAll {w : World} {g : Nat} {V : DV} (h : Boxed w g V) {g' : Nat} (hne : g' ≠ g) (a b c d : Value) : Boxed ((((w.setCell ⟨g', 0, none⟩ a).setCell ⟨g', 1, none⟩ b).setCell ⟨g', 2, none⟩ c).setCell ⟨g', 3, none⟩ d) g V :=
  (((h.other hne 0 a).other hne 1 b).other hne 2 c).other hne 3 d
theorem setAll_size (w : World) (g : Nat) (a b c d : Value) : ((((w.setCell ⟨g, 0, none⟩ a).setCell ⟨g, 1, none⟩ b).setCell ⟨g, 2, none⟩ c).setCell ⟨g, 3, none⟩ d).heap.size = w.heap.size := by simp [World.setCell]
/-- A call hands back a desk. -/
def DRet (w : World) (B : Nat) (V : DV) (D : Dsk) (e : Ending) (w' : World) : Prop := ∃ V' : DV, e = .returned V'.val ∧ DeskAt w' B V' D ∧ DStep w V w' V'
end Go.Proofs.Ytncebpmckbcabaa
