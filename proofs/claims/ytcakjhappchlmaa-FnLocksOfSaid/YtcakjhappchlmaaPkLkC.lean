/-
  Texts that the proofs rest on, joined: PkLkC.
-/
import Derived.Test.YtcakjhappchlmaaPkLkA
import Derived.Test.YtcakjhappchlmaaPkLkB
import Derived.IntWalk
import Derived.Test.YtcakjhappchlmaaPkLkB2
namespace Go.Proofs.Ytcakjhappchlmaa
open Go.RowKit Go.BigFrame
set_option linter.unusedVariables false

set_option maxHeartbeats 1000000 in
theorem held_any (A : Option Addr) (n c : Nat) (st : List OpV) (i : Nat) (t x : Int) (w : World) (hx : ROps w A n st) (hi : i ≤ n) :
    Calls Try.prog 81 #[.slice A n c, .int .i64 (i : Int), .int .i64 t, .int .i64 x] w fun e w' => e = .returned (.int .i64 (heldI (st.take i) t x)) ∧ Below w.heap.size w w' := by
  have hn := hx.2.1
  have hl := hx.1
  have HX := Lib.hid hx
  clear hx
  go_enter Try.func81, Try.ntmps81
  go_wp2
  go_loopw [9, 10] (fun o k wr => ∃ q : Nat, q ≤ i ∧ k = .int .i64 q ∧ o = .int .i64 (heldI (st.take q) t x) ∧ Below w.heap.size w wr) (fun _ k _ => i - (intOf k).toNat)
  case atStart => exact ⟨0, Nat.zero_le _, rfl, rfl, Below.refl _ _⟩
  case round =>
    obtain ⟨q, hq, rfl, rfl, hb⟩ := hrel
    by_cases hlt : q < i
    · obtain ⟨b, off, o, rfl, hbl, ho, c0, c1, c2⟩ := (HX.out.below hb (Nat.le_refl _)).at_ (k := q) (by omega)
      have hs := heldI_succ ho t x
      generalize heldI (st.take (q + 1)) t x = h2 at hs
      obtain ⟨h1, hh1⟩ : ∃ h, heldI (st.take q) t x = h := ⟨_, rfl⟩
      rw [hh1] at hs ⊢
      have HE : Hid (∀ e : Int, e = hStep t x h1 o → heldI (st.take (q + 1)) t x = e) := fun e he => by rw [heldI_succ ho, hh1, he]
      clear hs hh1 ho
      obtain ⟨tx, kd, it⟩ := o
      by_cases e1 : tx = t
      · by_cases e2 : it = x
        · by_cases e3 : kd = 2
          · go_wp2_with fail
            go_roundw
            case rel => exact ⟨q + 1, by omega, by go_num, by rw [HE.out (-1) (by simp [hStep, e1, e2, e3])], hb⟩
            case measure => simp [intOf]; omega
          · by_cases e4 : kd ≤ 1
            · go_wp2_with fail
              go_roundw
              case rel => exact ⟨q + 1, by omega, by go_num, by rw [HE.out kd (by simp [hStep, e1, e2, e3, e4])], hb⟩
              case measure => simp [intOf]; omega
            · go_wp2_with fail
              go_roundw
              case rel => exact ⟨q + 1, by omega, by go_num, by rw [HE.out h1 (by simp [hStep, e1, e2, e3, e4])], hb⟩
              case measure => simp [intOf]; omega
        · go_wp2_with fail
          go_roundw
          case rel => exact ⟨q + 1, by omega, by go_num, by rw [HE.out h1 (by simp [hStep, e1, e2])], hb⟩
          case measure => simp [intOf]; omega
      · go_wp2_with fail
        go_roundw
        case rel => exact ⟨q + 1, by omega, by go_num, by rw [HE.out h1 (by simp [hStep, e1])], hb⟩
        case measure => simp [intOf]; omega
    · obtain rfl : q = i := by omega
      obtain ⟨h1, hh1⟩ : ∃ h, heldI (st.take q) t x = h := ⟨_, rfl⟩
      rw [hh1]
      have HE := Lib.hid hh1
      clear hh1
      go_wp2_with fail
      go_ret
      exact ⟨ret_int HE.out.symm, hb⟩

def inWayTo (L : List OpV) (t x kind : Int) (k : Nat) : List Int := ((List.range k).map fun i : Nat => (i : Int)).filter fun u => u != t && (decide (0 ≤ heldI L u x) && (heldI L u x == 1 || kind == 1))
theorem inWayTo_succ (L : List OpV) (t x kind : Int) (k : Nat) : inWayTo L t x kind (k + 1) = inWayTo L t x kind k ++ if ((k : Int) != t && (decide (0 ≤ heldI L k x) && (heldI L k x == 1 || kind == 1))) = true then [(k : Int)] else [] := by
  unfold inWayTo
  rw [List.range_succ, List.map_append, List.filter_append]
  simp [List.filter_cons]
theorem inWayTo_four (L : List OpV) (t x kind : Int) : inWayTo L t x kind 4 = inWayI L t x kind := rfl
set_option maxRecDepth 100000 in
set_option maxHeartbeats 2000000 in
theorem inWay_any (A : Option Addr) (n c : Nat) (L : List OpV) (t x kd : Int) (w : World) (hx : ROps w A n L) :
    Calls Try.prog 148 #[.slice A n c, .int .i64 t, .int .i64 x, .int .i64 kd] w (RetInts w (inWayI L t x kd)) := by
  have hn := hx.2.1
  have hl := hx.1
  have hown0 := World.ownsRow_made (base := w.heap.size) (e := 3) (size := 1) w #[] 0 (Nat.le_refl _) (by decide) rfl
  have HST : Hid ((w.alloc (.cells #[] 3)).ownsRow w.heap.size 3 1 (.slice (some ⟨w.heap.size, 0, none⟩) 0 0) 0 (intCells (inWayTo L t x kd 0)) ∧ Below w.heap.size w (w.alloc (.cells #[] 3))) := ⟨hown0, (Below.refl _ _).alloc (Nat.le_refl _) _⟩
  have HX := Lib.hid hx
  have HL := Lib.hid hl
  clear hx hown0 hl
  go_enter Try.func148, Try.ntmps148
  go_wp2
  go_loopw [9, 10] (fun ov i wr => ∃ (k m : Nat), k ≤ 4 ∧ m ≤ k ∧ i = .int .i64 k ∧ Below w.heap.size w wr ∧ wr.ownsRow w.heap.size 3 1 ov m (intCells (inWayTo L t x kd k))) (fun _ i _ => 4 - (intOf i).toNat)
  case atStart => exact ⟨0, 0, by omega, Nat.le_refl _, rfl, HST.out.2, HST.out.1⟩
  case round =>
    clear HST
    obtain ⟨k, m, hk, hmk, rfl, hb, hown⟩ := hrel
    by_cases hlt : k < 4
    · have hs := hb.size
      have HT := Lib.hid (inWayTo_succ L t x kd k)
      obtain ⟨h, hh⟩ : ∃ h, heldI L (k : Int) x = h := ⟨_, rfl⟩
      rw [hh] at HT
      have HE : Hid (heldI (L.take n) (k : Int) x = h) := by rw [List.take_of_length_le (by have := HL.out; omega)]; exact hh
      clear hh
      by_cases e1 : (k : Int) = t
      · subst e1
        go_wp2_with (go_at_call 81; refine (held_any A n c L n (k : Int) x wr (HX.out.below hb (Nat.le_refl _)) (Nat.le_refl _)).mono ?_; rintro e w2 ⟨rfl, hb2⟩; rw [HE.out]; have hown2 := own_below hown hb2; have hbw := hb.trans (hb2.mono hs); have hs2 := hb2.size)
        go_roundw
        case rel => exact ⟨k + 1, m, by omega, by omega, by go_num, hbw, by rw [HT.out]; simpa using hown2⟩
        case measure => simp [intOf]; omega
      · by_cases e2 : 0 ≤ h
        · by_cases e3 : h = 1
          · subst e3
            go_wp2_with (first | (go_at_call 81; refine (held_any A n c L n (k : Int) x wr (HX.out.below hb (Nat.le_refl _)) (Nat.le_refl _)).mono ?_; rintro e w2 ⟨rfl, hb2⟩; rw [HE.out]; have hown2 := own_below hown hb2; have hbw := hb.trans (hb2.mono hs); have hs2 := hb2.size) | (at_builtin; refine app_ints (.tmp 38) (.tmp 40) (hown2.alloc _) (by simp; omega) (lit1 rfl _) (by omega) rfl rfl rfl rfl ?_; intro v3 w3 hown3 hg3 hat3))
            have hb3 := Below.own hbw hown2 (Nat.le_refl _) (World.grownBy.trans (World.grownBy_alloc w2 _ _) hg3)
            go_roundw
            case rel => exact ⟨k + 1, m + 1, by omega, by omega, by go_num, hb3, by rw [HT.out]; simpa [e1] using hown3⟩
            case measure => simp [intOf]; omega
          · have f3 : (h == 1) = false := by simp [e3]
            by_cases e4 : kd = 1
            · subst e4
              go_wp2_with (first | (go_at_call 81; refine (held_any A n c L n (k : Int) x wr (HX.out.below hb (Nat.le_refl _)) (Nat.le_refl _)).mono ?_; rintro e w2 ⟨rfl, hb2⟩; rw [HE.out]; have hown2 := own_below hown hb2; have hbw := hb.trans (hb2.mono hs); have hs2 := hb2.size) | (at_builtin; refine app_ints (.tmp 38) (.tmp 40) (hown2.alloc _) (by simp; omega) (lit1 rfl _) (by omega) rfl rfl rfl rfl ?_; intro v3 w3 hown3 hg3 hat3))
              have hb3 := Below.own hbw hown2 (Nat.le_refl _) (World.grownBy.trans (World.grownBy_alloc w2 _ _) hg3)
              go_roundw
              case rel => exact ⟨k + 1, m + 1, by omega, by omega, by go_num, hb3, by rw [HT.out]; simpa [e1, e2, e3] using hown3⟩
              case measure => simp [intOf]; omega
            · have f4 : (kd == 1) = false := by simp [e4]
              go_wp2_with (go_at_call 81; refine (held_any A n c L n (k : Int) x wr (HX.out.below hb (Nat.le_refl _)) (Nat.le_refl _)).mono ?_; rintro e w2 ⟨rfl, hb2⟩; rw [HE.out]; have hown2 := own_below hown hb2; have hbw := hb.trans (hb2.mono hs); have hs2 := hb2.size)
              go_roundw
              case rel => exact ⟨k + 1, m, by omega, by omega, by go_num, hbw, by rw [HT.out]; simpa [e1, e2, e3, e4, f3, f4] using hown2⟩
              case measure => simp [intOf]; omega
        · go_wp2_with (go_at_call 81; refine (held_any A n c L n (k : Int) x wr (HX.out.below hb (Nat.le_refl _)) (Nat.le_refl _)).mono ?_; rintro e w2 ⟨rfl, hb2⟩; rw [HE.out]; have hown2 := own_below hown hb2; have hbw := hb.trans (hb2.mono hs); have hs2 := hb2.size)
          go_roundw
          case rel => exact ⟨k + 1, m, by omega, by omega, by go_num, hbw, by rw [HT.out, show decide (0 ≤ h) = false by simp; omega]; simpa using hown2⟩
          case measure => simp [intOf]; omega
    · obtain ⟨Ao, co, rfl, hmc⟩ := own_form2 hown
      obtain rfl : k = 4 := by omega
      rw [inWayTo_four] at hown
      have HO := Lib.hid (RetInts.mk (c := co) (own_lenInts hown) hmc (FreshInts.of_own hown (Nat.le_refl _) (by omega)) hb)
      clear hown
      go_wp2_with fail
      go_ret
      exact HO.out
end Go.Proofs.Ytcakjhappchlmaa
namespace Go.Proofs.Ytcakjhappchlmaa
open Go.RowKit Go.BigFrame
set_option linter.unusedVariables false

theorem stepInfo : (Try.prog.info? 31).map (fun i => (i.zero, i.size, i.bytes)) = some (some (.agg #[.int .i64 0, .int .i64 0, .int .i64 0]), 3, 24) := by kernel_rfl
section
variable {w : World} {ops : Array Oper} {rest : List Oper} {o : Oper} {a : Act} {Q : Exit → Act → World → Prop}
/-- append of steps. -/
theorem app_steps (s x : Operand) {base : Nat} {v : Value} {n : Nat} {xs : List OpV} (hown : w.ownsRow base 31 3 v n (opCells xs)) (hbase : base ≤ w.heap.size)
    {A : Option Addr} {m c : Nat} {ys : List OpV} (hr : ROps w A m ys) (hn : n ≤ 1099511627776)
    (hgd : o.guard = none) (ho : o.op = .call { callee := .builtin .append, args := #[s, x], argTypes := #[23, 23] }) (hs : a.eval s = v) (hx : a.eval x = .slice A m c)
    (h : ∀ v' w', w'.ownsRow base 31 3 v' (n + m) (opCells (xs ++ ys)) → w.grownBy w' v.ownBlock → (v'.ownBlock = v.ownBlock ∨ v'.ownBlock = some w.heap.size) → wpList Try.prog ops Q rest (a.put o.dst v') w') : wpList Try.prog ops Q (o :: rest) a w := by
  obtain ⟨i0, hi, hz0, hz1, hz2⟩ := info_parts stepInfo
  have hm := hr.2.1
  refine wpList_app hgd s x _ ho base _ i0 _ 3 24 Try.underlying23 hi hz0 hz1 hz2 rfl (by decide) v n _ hs hown A m c _ hx hr.src (by simp only [maxLen]; omega) (by omega) hbase ?_
  intro v' w' h1 h2 h3
  rw [← opCells_append] at h1
  exact h v' w' h1 h2 h3
end
theorem step_ne_op : (31 : TypeId) ≠ 92 := by decide
theorem step_ne_int : (31 : TypeId) ≠ 3 := by decide
theorem desk_ne : (68 : TypeId) ≠ 92 ∧ (68 : TypeId) ≠ 31 ∧ (68 : TypeId) ≠ 3 := by decide

/-- The four values of a desk. -/
structure DV where
  d : Value
  w : Value
  l : Value
  k : Value
def DV.val (V : DV) : Value := .agg #[V.d, V.w, V.l, V.k]
def DV.list (V : DV) : List Value := [V.d, V.w, V.l, V.k]
def DV.nil : DV := ⟨.slice none 0 0, .slice none 0 0, .slice none 0 0, .slice none 0 0⟩
structure DeskAt (w : World) (B : Nat) (V : DV) (D : Dsk) : Prop where
  base : B ≤ w.heap.size
  done : w.ownsRow B 92 3 V.d D.done.length (opCells D.done)
  wait : w.ownsRow B 92 3 V.w D.wait.length (opCells D.wait)
  locks : w.ownsRow B 31 3 V.l D.locks.length (opCells D.locks)
  dead : w.ownsRow B 3 1 V.k D.dead.length (intCells D.dead)
  sep : ∀ b, V.d.ownBlock = some b → V.w.ownBlock ≠ some b
def NotIn (V : DV) (g : Nat) : Prop := V.d.ownBlock ≠ some g ∧ V.w.ownBlock ≠ some g ∧ V.l.ownBlock ≠ some g ∧ V.k.ownBlock ≠ some g
/-- From w to w' only the four rows, and what is new, have turned. -/
structure DFr (w : World) (V : DV) (w' : World) : Prop where
  os : w'.os = w.os
  tape : w'.tape = w.tape
  output : w'.output = w.output
  size : w.heap.size ≤ w'.heap.size
  block : ∀ i, i < w.heap.size → NotIn V i → w'.heap[i]? = w.heap[i]?
/-- A row is the old one, or new. -/
def NB (H : Nat) (v v' : Value) : Prop := v'.ownBlock = v.ownBlock ∨ ∀ b, v'.ownBlock = some b → H ≤ b
structure DStep (w : World) (V : DV) (w' : World) (V' : DV) : Prop where
  fr : DFr w V w'
  nd : NB w.heap.size V.d V'.d
  nw : NB w.heap.size V.w V'.w
  nl : NB w.heap.size V.l V'.l
  nk : NB w.heap.size V.k V'.k
theorem NB.refl (H : Nat) (v : Value) : NB H v v := .inl rfl
theorem NB.trans {H K : Nat} {a b c : Value} (h : NB H a b) (k : NB K b c) (hHK : H ≤ K) : NB H a c := by
  rcases k with k | k
  · rcases h with h | h
    · exact .inl (k.trans h)
    · exact .inr (by rw [k]; exact h)
  · exact .inr fun x hx => Nat.le_trans hHK (k x hx)
theorem NB.ne {H g : Nat} {a b : Value} (h : NB H a b) (hg : g < H) (ha : a.ownBlock ≠ some g) : b.ownBlock ≠ some g := by
  rcases h with h | h
  · rw [h]; exact ha
  · intro e; have := h g e; omega
theorem NB.of_hat {H K : Nat} {a b : Value} (h : b.ownBlock = a.ownBlock ∨ b.ownBlock = some K) (hHK : H ≤ K) : NB H a b := by
  rcases h with h | h
  · exact .inl h
  · exact .inr fun x hx => by rw [h] at hx; injection hx with hx; omega
theorem DStep.notIn {w w' : World} {V V' : DV} {g : Nat} (h : DStep w V w' V') (hg : g < w.heap.size) (hn : NotIn V g) : NotIn V' g :=
  ⟨h.nd.ne hg hn.1, h.nw.ne hg hn.2.1, h.nl.ne hg hn.2.2.1, h.nk.ne hg hn.2.2.2⟩
theorem DStep.refl (w : World) (V : DV) : DStep w V w V := ⟨⟨rfl, rfl, rfl, Nat.le_refl _, fun _ _ _ => rfl⟩, .refl _ _, .refl _ _, .refl _ _, .refl _ _⟩
theorem DStep.size {w w' : World} {V V' : DV} (h : DStep w V w' V') : w.heap.size ≤ w'.heap.size := h.fr.size
theorem DStep.trans {w w1 w2 : World} {V V1 V2 : DV} (h : DStep w V w1 V1) (k : DStep w1 V1 w2 V2) : DStep w V w2 V2 := by
  have hs := h.fr.size
  refine ⟨⟨k.fr.os.trans h.fr.os, k.fr.tape.trans h.fr.tape, k.fr.output.trans h.fr.output, Nat.le_trans hs k.fr.size, fun i hi hn => ?_⟩, h.nd.trans k.nd hs, h.nw.trans k.nw hs, h.nl.trans k.nl hs, h.nk.trans k.nk hs⟩
  exact (k.fr.block i (by omega) (h.notIn hi hn)).trans (h.fr.block i hi hn)
theorem DStep.of_below {w w' : World} (V : DV) (h : Below w.heap.size w w') : DStep w V w' V :=
  ⟨⟨h.os, h.tape, h.output, h.size, fun i hi _ => h.block i hi⟩, .refl _ _, .refl _ _, .refl _ _, .refl _ _⟩
theorem DStep.below {w w1 w' : World} {V V1 : DV} (h : DStep w V w1 V1) (hb : Below w1.heap.size w1 w') : DStep w V w' V1 := h.trans (.of_below V1 hb)
theorem DStep.alloc {w w1 : World} {V V1 : DV} (h : DStep w V w1 V1) (o : Obj) : DStep w V (w1.alloc o) V1 := h.below ((Below.refl _ _).alloc (Nat.le_refl _) _)
theorem DStep.set {w w1 : World} {V V1 : DV} (h : DStep w V w1 V1) {g : Nat} (hg : w.heap.size ≤ g) (i : Nat) (u : Value) : DStep w V (w1.setCell ⟨g, i, none⟩ u) V1 :=
  ⟨⟨h.fr.os, h.fr.tape, h.fr.output, by simpa [World.setCell] using h.fr.size, fun j hj hn => (Below.heap_setCell w1 ⟨g, i, none⟩ u j (by simp; omega)).trans (h.fr.block j hj hn)⟩, h.nd, h.nw, h.nl, h.nk⟩
theorem DStep.drew {w w1 : World} {V V1 : DV} (h : DStep w V w1 V1) : DStep w V w1.drew V1 := h.below (Below.refl _ _).drew
section
variable {w w1 w2 : World} {V V1 : DV}
theorem DStep.growD (h : DStep w V w1 V1) {v : Value} (hg : w1.grownBy w2 V1.d.ownBlock) (hat : v.ownBlock = V1.d.ownBlock ∨ v.ownBlock = some w1.heap.size) : DStep w V w2 ⟨v, V1.w, V1.l, V1.k⟩ :=
  h.trans ⟨⟨hg.os, hg.tape, hg.output, hg.size, fun i hi hn => hg.block i hi (fun e => hn.1 e.symm)⟩, .of_hat hat (Nat.le_refl _), .refl _ _, .refl _ _, .refl _ _⟩
theorem DStep.growW (h : DStep w V w1 V1) {v : Value} (hg : w1.grownBy w2 V1.w.ownBlock) (hat : v.ownBlock = V1.w.ownBlock ∨ v.ownBlock = some w1.heap.size) : DStep w V w2 ⟨V1.d, v, V1.l, V1.k⟩ :=
  h.trans ⟨⟨hg.os, hg.tape, hg.output, hg.size, fun i hi hn => hg.block i hi (fun e => hn.2.1 e.symm)⟩, .refl _ _, .of_hat hat (Nat.le_refl _), .refl _ _, .refl _ _⟩
theorem DStep.growL (h : DStep w V w1 V1) {v : Value} (hg : w1.grownBy w2 V1.l.ownBlock) (hat : v.ownBlock = V1.l.ownBlock ∨ v.ownBlock = some w1.heap.size) : DStep w V w2 ⟨V1.d, V1.w, v, V1.k⟩ :=
  h.trans ⟨⟨hg.os, hg.tape, hg.output, hg.size, fun i hi hn => hg.block i hi (fun e => hn.2.2.1 e.symm)⟩, .refl _ _, .refl _ _, .of_hat hat (Nat.le_refl _), .refl _ _⟩
theorem DStep.growK (h : DStep w V w1 V1) {v : Value} (hg : w1.grownBy w2 V1.k.ownBlock) (hat : v.ownBlock = V1.k.ownBlock ∨ v.ownBlock = some w1.heap.size) : DStep w V w2 ⟨V1.d, V1.w, V1.l, v⟩ :=
  h.trans ⟨⟨hg.os, hg.tape, hg.output, hg.size, fun i hi hn => hg.block i hi (fun e => hn.2.2.2 e.symm)⟩, .refl _ _, .refl _ _, .refl _ _, .of_hat hat (Nat.le_refl _)⟩
/-- The waiting row is a new one. -/
theorem DStep.newW (h : DStep w V w1 V1) {v : Value} (hv : ∀ b, v.ownBlock = some b → w.heap.size ≤ b) : DStep w V w1 ⟨V1.d, v, V1.l, V1.k⟩ := ⟨h.fr, h.nd, .inr hv, h.nl, h.nk⟩
end
section
variable {w w' : World} {B : Nat} {V : DV} {D : Dsk}
theorem DeskAt.below (h : DeskAt w B V D) (hb : Below w.heap.size w w') : DeskAt w' B V D :=
  ⟨Nat.le_trans h.base hb.size, own_below h.done hb, own_below h.wait hb, own_below h.locks hb, own_below h.dead hb, h.sep⟩
theorem DeskAt.alloc (h : DeskAt w B V D) (o : Obj) : DeskAt (w.alloc o) B V D := h.below ((Below.refl _ _).alloc (Nat.le_refl _) _)
theorem DeskAt.drew (h : DeskAt w B V D) : DeskAt w.drew B V D := h.below (Below.refl _ _).drew
theorem DeskAt.set (h : DeskAt w B V D) {g : Nat} (hn : NotIn V g) (i : Nat) (u : Value) : DeskAt (w.setCell ⟨g, i, none⟩ u) B V D := by
  have hg : w.grownBy (w.setCell ⟨g, i, none⟩ u) (some g) := grown_set
  refine ⟨Nat.le_trans h.base hg.size, own_grown h.done hg ?_, own_grown h.wait hg ?_, own_grown h.locks hg ?_, own_grown h.dead hg ?_, h.sep⟩
  · intro b e; injection e with e; subst e; exact hn.1
  · intro b e; injection e with e; subst e; exact hn.2.1
  · intro b e; injection e with e; subst e; exact hn.2.2.1
  · intro b e; injection e with e; subst e; exact hn.2.2.2
theorem DeskAt.notIn (h : DeskAt w B V D) {g : Nat} {T : TypeId} {vs : List Value} (hr : RowIs w g T vs) (h1 : T ≠ 92) (h2 : T ≠ 31) (h3 : T ≠ 3) : NotIn V g :=
  ⟨own_ne h.done hr h1, own_ne h.wait hr h1, own_ne h.locks hr h2, own_ne h.dead hr h3⟩
theorem DeskAt.far (h : DeskAt w B V D) {g : Nat} (hg : w.heap.size ≤ g) : NotIn V g := ⟨own_lt h.done hg, own_lt h.wait hg, own_lt h.locks hg, own_lt h.dead hg⟩
theorem DeskAt.low (h : DeskAt w B V D) {g : Nat} (hg : g < B) : NotIn V g := by
  have key : ∀ {e : TypeId} {size n : Nat} {v : Value} {xs : List Value}, w.ownsRow B e size v n xs → v.ownBlock ≠ some g := fun h e => by
    have := (World.ownsRow.lt h g e).1; omega
  exact ⟨key h.done, key h.wait, key h.locks, key h.dead⟩
theorem DeskAt.growL (h : DeskAt w B V D) {v : Value} {L : List OpV} {n : Nat} (hg : w.grownBy w' V.l.ownBlock) (ho : w'.ownsRow B 31 3 v n (opCells L)) : DeskAt w' B ⟨V.d, V.w, v, V.k⟩ ⟨D.done, D.wait, L, D.dead⟩ := by
  obtain rfl := own_lenOps ho
  exact ⟨Nat.le_trans h.base hg.size, own_apart h.done h.locks step_ne_op.symm hg, own_apart h.wait h.locks step_ne_op.symm hg, ho, own_apart h.dead h.locks step_ne_int.symm hg, h.sep⟩
theorem DeskAt.growK (h : DeskAt w B V D) {v : Value} {K : List Int} {n : Nat} (hg : w.grownBy w' V.k.ownBlock) (ho : w'.ownsRow B 3 1 v n (intCells K)) : DeskAt w' B ⟨V.d, V.w, V.l, v⟩ ⟨D.done, D.wait, D.locks, K⟩ := by
  obtain rfl := own_lenInts ho
  exact ⟨Nat.le_trans h.base hg.size, own_apart h.done h.dead op_ne_int hg, own_apart h.wait h.dead op_ne_int hg, own_apart h.locks h.dead step_ne_int hg, ho, h.sep⟩
theorem DeskAt.growD (h : DeskAt w B V D) {v : Value} {L : List OpV} {n : Nat} (hg : w.grownBy w' V.d.ownBlock) (ho : w'.ownsRow B 92 3 v n (opCells L)) (hat : v.ownBlock = V.d.ownBlock ∨ v.ownBlock = some w.heap.size) : DeskAt w' B ⟨v, V.w, V.l, V.k⟩ ⟨L, D.wait, D.locks, D.dead⟩ := by
  obtain rfl := own_lenOps ho
  refine ⟨Nat.le_trans h.base hg.size, ho, own_grown h.wait hg h.sep, own_apart h.locks h.done step_ne_op hg, own_apart h.dead h.done op_ne_int.symm hg, fun b hb => ?_⟩
  rcases hat with e | e
  · exact h.sep b (e ▸ hb)
  · have hb : v.ownBlock = some b := hb
    rw [e] at hb
    injection hb with hb
    subst hb
    exact own_lt h.wait (Nat.le_refl _)
theorem DeskAt.growW (h : DeskAt w B V D) {v : Value} {L : List OpV} {n : Nat} (hg : w.grownBy w' V.w.ownBlock) (ho : w'.ownsRow B 92 3 v n (opCells L)) (hat : v.ownBlock = V.w.ownBlock ∨ v.ownBlock = some w.heap.size) : DeskAt w' B ⟨V.d, v, V.l, V.k⟩ ⟨D.done, L, D.locks, D.dead⟩ := by
  obtain rfl := own_lenOps ho
  refine ⟨Nat.le_trans h.base hg.size, own_grown h.done hg (fun b hb e => h.sep b e hb), ho, own_apart h.locks h.wait step_ne_op hg, own_apart h.dead h.wait op_ne_int.symm hg, fun b hb he => ?_⟩
  rcases hat with e | e
  · exact h.sep b hb (e ▸ he)
  · have he : v.ownBlock = some b := he
    rw [e] at he
    injection he with he
    subst he
    exact own_lt h.done (Nat.le_refl _) hb
/-- Another waiting row, apart from the one of what is done. -/
theorem DeskAt.newW (h : DeskAt w B V D) {v : Value} {L : List OpV} {n : Nat} (ho : w.ownsRow B 92 3 v n (opCells L)) (hs : ∀ b, V.d.ownBlock = some b → v.ownBlock ≠ some b) : DeskAt w B ⟨V.d, v, V.l, V.k⟩ ⟨D.done, L, D.locks, D.dead⟩ := by
  obtain rfl := own_lenOps ho
  exact ⟨h.base, h.done, ho, h.locks, h.dead, hs⟩
theorem DeskAt.doneN (h : DeskAt w B V D) {n : Nat} (hn : D.done.length = n) : w.ownsRow B 92 3 V.d n (opCells D.done) := hn ▸ h.done
theorem DeskAt.waitN (h : DeskAt w B V D) {n : Nat} (hn : D.wait.length = n) : w.ownsRow B 92 3 V.w n (opCells D.wait) := hn ▸ h.wait
theorem DeskAt.locksN (h : DeskAt w B V D) {n : Nat} (hn : D.locks.length = n) : w.ownsRow B 31 3 V.l n (opCells D.locks) := hn ▸ h.locks
theorem DeskAt.deadN (h : DeskAt w B V D) {n : Nat} (hn : D.dead.length = n) : w.ownsRow B 3 1 V.k n (intCells D.dead) := hn ▸ h.dead
/-- Another row grows. -/
theorem DeskAt.apart (h : DeskAt w B V D) {row : Option Nat} (hg : w.grownBy w' row) (hn : ∀ b, row = some b → NotIn V b) : DeskAt w' B V D :=
  ⟨Nat.le_trans h.base hg.size, own_grown h.done hg (fun b e => (hn b e).1), own_grown h.wait hg (fun b e => (hn b e).2.1), own_grown h.locks hg (fun b e => (hn b e).2.2.1), own_grown h.dead hg (fun b e => (hn b e).2.2.2), h.sep⟩
theorem DStep.apart {w1 : World} {V1 : DV} (h : DStep w V w1 V1) {row : Option Nat} (hg : w1.grownBy w' row) (hn : ∀ b, row = some b → w.heap.size ≤ b) : DStep w V w' V1 :=
  ⟨⟨hg.os.trans h.fr.os, hg.tape.trans h.fr.tape, hg.output.trans h.fr.output, Nat.le_trans h.fr.size hg.size, fun i hi hni => (hg.block i (by have := h.fr.size; omega) (fun e => by have := hn i e.symm; omega)).trans (h.fr.block i hi hni)⟩, h.nd, h.nw, h.nl, h.nk⟩
/-- A row that is not of the desk stays. -/
theorem DStep.row {w w' : World} {V V' : DV} (h : DStep w V w' V') {g : Nat} {T : TypeId} {vs : List Value} (hr : RowIs w g T vs) (hn : NotIn V g) : RowIs w' g T vs := (h.fr.block g hr.lt hn).trans hr
theorem DStep.ops {w w' : World} {V V' : DV} (h : DStep w V w' V') {A : Option Addr} {n : Nat} {xs : List OpV} (hr : ROps w A n xs) (hn : ∀ ad, A = some ad → NotIn V ad.block) : ROps w' A n xs := by
  obtain ⟨h1, h2, h3⟩ := hr
  refine ⟨h1, h2, fun h0 => ?_⟩
  obtain ⟨b, off, hA, hlt, hc⟩ := h3 h0
  have hh := h.fr.block b hlt (hn _ hA)
  have hs := h.fr.size
  refine ⟨b, off, hA, by omega, fun i o ho => ?_⟩
  obtain ⟨c0, c1, c2⟩ := hc i o ho
  exact ⟨(World.cell?_of_block (w := w) (a := ⟨b, _, none⟩) hh).trans c0, (World.cell?_of_block (w := w) (a := ⟨b, _, none⟩) hh).trans c1, (World.cell?_of_block (w := w) (a := ⟨b, _, none⟩) hh).trans c2⟩
theorem DStep.ints {w w' : World} {V V' : DV} (h : DStep w V w' V') {A : Option Addr} {n : Nat} {xs : List Int} (hr : RInts w A n xs) (hn : ∀ ad, A = some ad → NotIn V ad.block) : RInts w' A n xs := by
  obtain ⟨h1, h2, h3⟩ := hr
  refine ⟨h1, h2, fun h0 => ?_⟩
  obtain ⟨b, off, hA, hlt, hc⟩ := h3 h0
  have hh := h.fr.block b hlt (hn _ hA)
  have hs := h.fr.size
  exact ⟨b, off, hA, by omega, fun i x hx => (World.cell?_of_block (w := w) (a := ⟨b, _, none⟩) hh).trans (hc i x hx)⟩
theorem DeskAt.forms (h : DeskAt w B V D) : ∃ (Ad Aw Al Ak : Option Addr) (nd nw nl nk cd cw cl ck : Nat), V = ⟨.slice Ad nd cd, .slice Aw nw cw, .slice Al nl cl, .slice Ak nk ck⟩ ∧ (nd ≤ cd ∧ nw ≤ cw ∧ nl ≤ cl ∧ nk ≤ ck) ∧ D.done.length = nd ∧ D.wait.length = nw ∧ D.locks.length = nl ∧ D.dead.length = nk := by
  obtain ⟨a1, c1, e1, l1⟩ := own_form2 h.done
  obtain ⟨a2, c2, e2, l2⟩ := own_form2 h.wait
  obtain ⟨a3, c3, e3, l3⟩ := own_form2 h.locks
  obtain ⟨a4, c4, e4, l4⟩ := own_form2 h.dead
  obtain ⟨d, w', l, k⟩ := V
  simp only at e1 e2 e3 e4
  subst e1; subst e2; subst e3; subst e4
  exact ⟨a1, a2, a3, a4, _, _, _, _, c1, c2, c3, c4, rfl, ⟨l1, l2, l3, l4⟩, rfl, rfl, rfl, rfl⟩
end
/-- A box holds a desk. -/
def Boxed (w : World) (g : Nat) (V : DV) : Prop := RowIs w g 68 V.list
section
variable {w w' : World} {g : Nat} {V : DV}
theorem Boxed.cells (h : Boxed w g V) : w.cell? ⟨g, 0, none⟩ = some V.d ∧ w.cell? ⟨g, 1, none⟩ = some V.w ∧ w.cell? ⟨g, 2, none⟩ = some V.l ∧ w.cell? ⟨g, 3, none⟩ = some V.k :=
  ⟨RowIs.cell h rfl, RowIs.cell h rfl, RowIs.cell h rfl, RowIs.cell h rfl⟩
theorem Boxed.soft (h : Boxed w g V) (i : Nat) : w.frozen? ⟨g, i, none⟩ = false := RowIs.frozen h i
theorem Boxed.below (h : Boxed w g V) (hb : Below w.heap.size w w') : Boxed w' g V := RowIs.below h hb (Nat.le_refl _)
theorem Boxed.alloc (h : Boxed w g V) (o : Obj) : Boxed (w.alloc o) g V := RowIs.alloc h o
theorem Boxed.drew (h : Boxed w g V) : Boxed w.drew g V := h
theorem Boxed.setD (h : Boxed w g V) (v : Value) : Boxed (w.setCell ⟨g, 0, none⟩ v) g ⟨v, V.w, V.l, V.k⟩ := RowIs.set h 0 v
theorem Boxed.setW (h : Boxed w g V) (v : Value) : Boxed (w.setCell ⟨g, 1, none⟩ v) g ⟨V.d, v, V.l, V.k⟩ := RowIs.set h 1 v
theorem Boxed.setL (h : Boxed w g V) (v : Value) : Boxed (w.setCell ⟨g, 2, none⟩ v) g ⟨V.d, V.w, v, V.k⟩ := RowIs.set h 2 v
theorem Boxed.setK (h : Boxed w g V) (v : Value) : Boxed (w.setCell ⟨g, 3, none⟩ v) g ⟨V.d, V.w, V.l, v⟩ := RowIs.set h 3 v
theorem Boxed.setAll (h : Boxed w g V) (U : DV) : Boxed ((((w.setCell ⟨g, 0, none⟩ U.d).setCell ⟨g, 1, none⟩ U.w).setCell ⟨g, 2, none⟩ U.l).setCell ⟨g, 3, none⟩ U.k) g U :=
  (((h.setD U.d).setW U.w).setL U.l).setK U.k
theorem Boxed.set4 (h : Boxed w g V) (a b c d : Value) : Boxed ((((w.setCell ⟨g, 0, none⟩ a).setCell ⟨g, 1, none⟩ b).setCell ⟨g, 2, none⟩ c).setCell ⟨g, 3, none⟩ d) g ⟨a, b, c, d⟩ := h.setAll ⟨a, b, c, d⟩
theorem Boxed.other (h : Boxed w g V) {g' : Nat} (hne : g' ≠ g) (i : Nat) (u : Value) : Boxed (w.setCell ⟨g', i, none⟩ u) g V :=
  (Below.heap_setCell w ⟨g', i, none⟩ u g (by simpa using hne.symm)).trans h
theorem Boxed.step {V0 V1 : DV} (h : Boxed w g V) (hs : DStep w V0 w' V1) (hn : NotIn V0 g) : Boxed w' g V := hs.row h hn
theorem Boxed.new (w : World) (V : DV) : Boxed (w.alloc (.cells V.list.toArray 68)) w.heap.size V := heap_alloc_new w _
theorem Boxed.notIn {B : Nat} {U : DV} {D : Dsk} (h : Boxed w g V) (hd : DeskAt w B U D) : NotIn U g := hd.notIn h desk_ne.1 desk_ne.2.1 desk_ne.2.2
theorem Boxed.grown (h : Boxed w g V) {row : Option Nat} (hg : w.grownBy w' row) (hne : row ≠ some g) : Boxed w' g V := RowIs.grown h hg hne
end
theorem DeskAt.setAll {w : World} {B : Nat} {V : DV} {D : Dsk} (h : DeskAt w B V D) {g : Nat} (hn : NotIn V g) (a b c d : Value) : DeskAt ((((w.setCell ⟨g, 0, none⟩ a).setCell ⟨g, 1, none⟩ b).setCell ⟨g, 2, none⟩ c).setCell ⟨g, 3, none⟩ d) B V D :=
  (((h.set hn 0 a).set hn 1 b).set hn 2 c).set hn 3 d
theorem DStep.setAll {w w1 : World} {V V1 : DV} (h : DStep w V w1 V1) {g : Nat} (hg : w.heap.size ≤ g) (a b c d : Value) : DStep w V ((((w1.setCell ⟨g, 0, none⟩ a).setCell ⟨g, 1, none⟩ b).setCell ⟨g, 2, none⟩ c).setCell ⟨g, 3, none⟩ d) V1 :=
  (((h.set hg 0 a).set hg 1 b).set hg 2 c).set hg 3 d
theorem Boxed.otherAll {w : World} {g : Nat} {V : DV} (h : Boxed w g V) {g' : Nat} (hne : g' ≠ g) (a b c d : Value) : Boxed ((((w.setCell ⟨g', 0, none⟩ a).setCell ⟨g', 1, none⟩ b).setCell ⟨g', 2, none⟩ c).setCell ⟨g', 3, none⟩ d) g V :=
  (((h.other hne 0 a).other hne 1 b).other hne 2 c).other hne 3 d
theorem setAll_size (w : World) (g : Nat) (a b c d : Value) : ((((w.setCell ⟨g, 0, none⟩ a).setCell ⟨g, 1, none⟩ b).setCell ⟨g, 2, none⟩ c).setCell ⟨g, 3, none⟩ d).heap.size = w.heap.size := by simp [World.setCell]
/-- A call hands back a desk. -/
def DRet (w : World) (B : Nat) (V : DV) (D : Dsk) (e : Ending) (w' : World) : Prop := ∃ V' : DV, e = .returned V'.val ∧ DeskAt w' B V' D ∧ DStep w V w' V'
end Go.Proofs.Ytcakjhappchlmaa
namespace Go.Proofs.Ytcakjhappchlmaa
open Go.RowKit Go.BigFrame
set_option linter.unusedVariables false

set_option maxRecDepth 100000 in
set_option maxHeartbeats 2000000 in
theorem drop_any (B : Nat) (V : DV) (D : Dsk) (t : Int) (w : World) (hd : DeskAt w B V D) (hL : D.locks.length ≤ 10000) :
    Calls Try.prog 172 #[V.val, .int .i64 t] w (DRet w B V ⟨D.done, D.wait, dropL D.locks t, D.dead⟩) := by
  obtain ⟨W, hW⟩ : ∃ W : World, W = (w.alloc (.cells V.list.toArray 68)).alloc (.cells DV.nil.list.toArray 68) := ⟨_, rfl⟩
  have hD0 : DeskAt W B V D := by rw [hW]; exact (hd.alloc _).alloc _
  have hS0 : DStep w V W V := by rw [hW]; exact ((DStep.refl w V).alloc _).alloc _
  have hB0 : Boxed W w.heap.size V := by rw [hW]; exact (Boxed.new w V).alloc _
  have hR0 : Boxed W (w.heap.size + 1) DV.nil := by
    rw [hW]
    have := Boxed.new (w.alloc (.cells V.list.toArray 68)) DV.nil
    rw [show (w.alloc (.cells V.list.toArray 68)).heap.size = w.heap.size + 1 by simp] at this
    exact this
  have HST := Lib.hid (And.intro hD0 (And.intro hS0 (And.intro hB0 hR0)))
  obtain ⟨Ad, Aw, Al, Ak, nd, nw, nl, nk, cd, cw, cl, ck, rfl, _, _⟩ := hd.forms
  have HW := Lib.hid hW
  clear hD0 hS0 hB0 hR0 hW hd
  unfold DV.val
  simp only
  go_enter Try.func172, Try.ntmps172
  go_wp2_with fail
  have HW2 := HW.out
  change W = (w.alloc (.cells #[.slice Ad nd cd, .slice Aw nw cw, .slice Al nl cl, .slice Ak nk ck] _)).alloc (.cells #[.slice none 0 0, .slice none 0 0, .slice none 0 0, .slice none 0 0] _) at HW2
  rw [← HW2]
  clear HW HW2
  go_loopw [5] (fun i wr => ∃ (k : Nat) (U : DV), k ≤ 3 ∧ i = .int .i64 k ∧ DeskAt wr B U ⟨D.done, D.wait, dropTo D.locks t k, D.dead⟩ ∧ DStep w ⟨.slice Ad nd cd, .slice Aw nw cw, .slice Al nl cl, .slice Ak nk ck⟩ wr U ∧ Boxed wr w.heap.size U ∧ Boxed wr (w.heap.size + 1) DV.nil) (fun i _ => 3 - (intOf i).toNat)
  case atStart => exact ⟨0, _, by omega, rfl, HST.out.1, HST.out.2.1, HST.out.2.2.1, HST.out.2.2.2⟩
  case round =>
    clear HST
    obtain ⟨k, U, hk, rfl, hDk, hSk, hBk, hRk⟩ := hrel
    obtain ⟨Ad', Aw', Al', Ak', nd', nw', nl', nk', cd', cw', cl', ck', rfl, _, h1, h2, h3, h4⟩ := hDk.forms
    have hlen := (dropTo_len D.locks t k).2
    have hsc := dropTo_succ D.locks t k
    simp only at h1 h2 h3 h4
    obtain ⟨M, hM⟩ : ∃ M, dropTo D.locks t k = M := ⟨_, rfl⟩
    rw [hM] at hDk h3 hlen hsc
    have hnl : nl' ≤ 10003 := by omega
    have hsz := hSk.size
    obtain ⟨b0, b1, b2, b3⟩ := hBk.cells
    obtain ⟨r0, r1, r2, r3⟩ := hRk.cells
    simp only at b0 b1 b2 b3
    unfold DV.nil at r0 r1 r2 r3
    simp only at r0 r1 r2 r3
    by_cases hlt : k < 3
    · have hro : ROps wr Al' nl' M := ROps.of_own (by have := hDk.locks; simp only [h3] at this; exact this) (by omega)
      obtain ⟨h, hh⟩ : ∃ h, heldI M t (k : Int) = h := ⟨_, rfl⟩
      have HE : Hid (heldI (M.take nl') t (k : Int) = h) := by show _ = _; rw [List.take_of_length_le (by omega)]; exact hh
      rw [hh] at hsc
      have HI := Lib.hid (And.intro hDk (And.intro hSk (And.intro hBk hRk)))
      have H3 := Lib.hid h3
      have HRO := Lib.hid hro
      clear hh hM hlen h1 h2 h3 h4 hro hDk hSk hBk hRk
      by_cases hp : 0 ≤ h
      · rw [if_pos hp] at hsc
        have HS2 := Lib.hid hsc
        clear hsc
        go_wp2_with (first
          | (go_at_call 81; refine (held_any Al' nl' cl' M nl' t (k : Int) wr HRO.out (Nat.le_refl _)).mono ?_; rintro e w2 ⟨rfl, hb2⟩; rw [HE.out]; have hD2 := HI.out.1.below hb2; have hS2 := HI.out.2.1.below hb2; have hB2 := HI.out.2.2.1.below hb2; have hR2 := HI.out.2.2.2.below hb2; have hlo : w2.ownsRow B 31 3 (.slice Al' nl' cl') nl' (opCells M) := (by have := hD2.locks; simp only [H3.out] at this; exact this); obtain ⟨c0, c1, c2, c3⟩ := hB2.cells; simp only at c0 c1 c2 c3; have hsz2 := hS2.size; have hbase := hD2.base; have hne2 := hB2.notIn hD2; have hner := hR2.notIn hD2; have HI2 := Lib.hid (And.intro hD2 (And.intro hS2 (And.intro hB2 hR2))); clear hD2 hS2 hB2 hR2)
          | (at_builtin; refine app_steps (.tmp 20) (.tmp 24) (hlo.alloc _) (by simp; omega) (ROps.lit1 _ ⟨_, _, _⟩ _) (by omega) rfl rfl rfl rfl ?_; intro v3 w3 hown3 hg3 hat3; obtain ⟨A3, c3', rfl, hc3⟩ := own_form2 hown3; have hB3 := Lib.hid ((HI2.out.2.2.1.alloc (.cells #[.int .i64 t, .int .i64 2, .int .i64 (k : Int)] 31)).grown hg3 hne2.2.2.1); have d2 := hB3.out.cells.2.2.1; have f2 := hB3.out.soft 2; simp only at d2))
        go_roundw
        case rel =>
          refine ⟨k + 1, ⟨.slice Ad' nd' cd', .slice Aw' nw' cw', .slice A3 (nl' + 1) c3', .slice Ak' nk' ck'⟩, by omega, by go_num, ?_, ?_, hB3.out.setL _, ?_⟩
          · have := (HI2.out.1.alloc (.cells #[.int .i64 t, .int .i64 2, .int .i64 (k : Int)] 31)).growL (L := M ++ [⟨t, 2, (k : Int)⟩]) hg3 hown3
            rw [HS2.out]
            exact this.set (hB3.out.notIn this) 2 _
          · exact ((HI2.out.2.1.alloc _).growL hg3 hat3).set (Nat.le_refl _) 2 _
          · exact ((HI2.out.2.2.2.alloc _).grown hg3 hner.2.2.1).other (by omega) 2 _
        case measure => simp [intOf]; omega
      · rw [if_neg hp] at hsc
        have HS2 := Lib.hid hsc
        clear hsc
        go_wp2_with (go_at_call 81; refine (held_any Al' nl' cl' M nl' t (k : Int) wr HRO.out (Nat.le_refl _)).mono ?_; rintro e w2 ⟨rfl, hb2⟩; rw [HE.out]; have hD2 := HI.out.1.below hb2; have hS2 := HI.out.2.1.below hb2; have hB2 := HI.out.2.2.1.below hb2; have hR2 := HI.out.2.2.2.below hb2; have hlo : w2.ownsRow B 31 3 (.slice Al' nl' cl') nl' (opCells M) := (by have := hD2.locks; simp only [H3.out] at this; exact this); obtain ⟨c0, c1, c2, c3⟩ := hB2.cells; simp only at c0 c1 c2 c3; have hsz2 := hS2.size; have hbase := hD2.base; have hne2 := hB2.notIn hD2; have hner := hR2.notIn hD2; have HI2 := Lib.hid (And.intro hD2 (And.intro hS2 (And.intro hB2 hR2))); clear hD2 hS2 hB2 hR2)
        go_roundw
        case rel => exact ⟨k + 1, _, by omega, by go_num, by rw [HS2.out]; exact HI2.out.1, HI2.out.2.1, HI2.out.2.2.1, HI2.out.2.2.2⟩
        case measure => simp [intOf]; omega
    · have hk3 : k = 3 := by omega
      subst hk3
      have hfz := fun i => hRk.soft i
      have hne := hRk.notIn hDk
      have HI := Lib.hid (And.intro hDk (And.intro hSk (And.intro hBk hRk)))
      have HM := Lib.hid hM
      clear hDk hSk hBk hRk hM h1 h2 h3 h4 hsc
      go_wp2_with fail
      have hF := (HI.out.2.2.2.setAll ⟨.slice Ad' nd' cd', .slice Aw' nw' cw', .slice Al' nl' cl', .slice Ak' nk' ck'⟩)
      obtain ⟨d0, d1, d2, d3⟩ := hF.cells
      simp only at d0 d1 d2 d3
      refine bodyPost_ret (v := .agg #[.slice Ad' nd' cd', .slice Aw' nw' cw', .slice Al' nl' cl', .slice Ak' nk' ck']) (by simp [results, Try.results172, go_sem, d0, d1, d2, d3]) rfl ?_
      refine ⟨⟨.slice Ad' nd' cd', .slice Aw' nw' cw', .slice Al' nl' cl', .slice Ak' nk' ck'⟩, rfl, ?_, ?_⟩
      · have : (⟨D.done, D.wait, dropL D.locks t, D.dead⟩ : Dsk) = ⟨D.done, D.wait, M, D.dead⟩ := by rw [← HM.out]; rfl
        rw [this]
        exact (((HI.out.1.set hne 0 _).set hne 1 _).set hne 2 _).set hne 3 _
      · exact (((HI.out.2.1.set (by omega) 0 _).set (by omega) 1 _).set (by omega) 2 _).set (by omega) 3 _

theorem filter_snoc {s : List OpV} {k : Nat} {o : OpV} (ho : s[k]? = some o) (p : OpV → Bool) : (s.take (k + 1)).filter p = (s.take k).filter p ++ if p o = true then [o] else [] := by
  rw [take_snoc ho, List.filter_append]; simp [List.filter_cons]
set_option maxRecDepth 100000 in
set_option maxHeartbeats 400000 in
theorem kill_any (B : Nat) (V : DV) (D : Dsk) (t : Int) (w : World) (hd : DeskAt w B V D) (hL : D.locks.length ≤ 9000) (hN : D.done.length ≤ 9000 ∧ D.wait.length ≤ 9000 ∧ D.dead.length ≤ 9000) :
    Calls Try.prog 154 #[V.val, .int .i64 t] w (DRet w B V (killD D t)) := by
  obtain ⟨W, hW⟩ : ∃ W : World, W = (w.alloc (.cells V.list.toArray 68)).alloc (.cells DV.nil.list.toArray 68) := ⟨_, rfl⟩
  have hD0 : DeskAt W B V D := by rw [hW]; exact (hd.alloc _).alloc _
  have hS0 : DStep w V W V := by rw [hW]; exact ((DStep.refl w V).alloc _).alloc _
  have hB0 : Boxed W w.heap.size V := by rw [hW]; exact (Boxed.new w V).alloc _
  have hR0 : Boxed W (w.heap.size + 1) DV.nil := by
    rw [hW]
    have := Boxed.new (w.alloc (.cells V.list.toArray 68)) DV.nil
    rw [show (w.alloc (.cells V.list.toArray 68)).heap.size = w.heap.size + 1 by simp] at this
    exact this
  have HB := Lib.hid hd.base
  obtain ⟨Ad, Aw, Al, Ak, nd, nw, nl, nk, cd, cw, cl, ck, rfl, _, _⟩ := hd.forms
  have hDR := drop_any B _ D t W hD0 (by omega)
  have HST := Lib.hid (And.intro hD0 (And.intro hS0 (And.intro hB0 hR0)))
  have HW := Lib.hid hW
  have HDR := Lib.hid hDR
  clear hD0 hS0 hB0 hR0 hW hd hDR
  unfold DV.val
  simp only
  go_enter Try.func154, Try.ntmps154
  go_wp2_with fail
  have HW2 := HW.out
  change W = (w.alloc (.cells #[.slice Ad nd cd, .slice Aw nw cw, .slice Al nl cl, .slice Ak nk ck] _)).alloc (.cells #[.slice none 0 0, .slice none 0 0, .slice none 0 0, .slice none 0 0] _) at HW2
  rw [← HW2]
  clear HW HW2
  refine HDR.out.mono ?_
  rintro e w1 ⟨V1, rfl, hD1, hS1⟩
  have hS := HST.out.2.1.trans hS1
  have hB1 := HST.out.2.2.1.step hS1 (HST.out.2.2.1.notIn HST.out.1)
  have hR1 := HST.out.2.2.2.step hS1 (HST.out.2.2.2.notIn HST.out.1)
  have nB := hB1.notIn hD1
  have nR := hR1.notIn hD1
  obtain ⟨Ad1, Aw1, Al1, Ak1, nd1, nw1, nl1, nk1, cd1, cw1, cl1, ck1, rfl, hcs, h1, h2, h3, h4⟩ := hD1.forms
  simp only at h1 h2 h3 h4
  have hbd : nd1 ≤ 9000 ∧ nw1 ≤ 9000 ∧ nk1 ≤ 9000 := by omega
  have H1 := Lib.hid h1
  have H2 := Lib.hid h2
  have H4 := Lib.hid h4
  have hsW := HST.out.2.1.size
  have hlB := RowIs.lt hB1
  have hlR := RowIs.lt hR1
  obtain ⟨b0, b1, b2, b3⟩ := hB1.cells
  simp only at b0 b1 b2 b3
  have f0 := hB1.soft 0
  have f1 := hB1.soft 1
  have f2 := hB1.soft 2
  have f3 := hB1.soft 3
  obtain ⟨Wb, hWb⟩ : ∃ u : World, u = (((w1.setCell ⟨w.heap.size, 0, none⟩ (.slice Ad1 nd1 cd1)).setCell ⟨w.heap.size, 1, none⟩ (.slice Aw1 nw1 cw1)).setCell ⟨w.heap.size, 2, none⟩ (.slice Al1 nl1 cl1)).setCell ⟨w.heap.size, 3, none⟩ (.slice Ak1 nk1 ck1) := ⟨_, rfl⟩
  have hDb := hD1.setAll nB (.slice Ad1 nd1 cd1) (.slice Aw1 nw1 cw1) (.slice Al1 nl1 cl1) (.slice Ak1 nk1 ck1)
  rw [← hWb] at hDb
  have hSb := hS.setAll (Nat.le_refl _) (.slice Ad1 nd1 cd1) (.slice Aw1 nw1 cw1) (.slice Al1 nl1 cl1) (.slice Ak1 nk1 ck1)
  rw [← hWb] at hSb
  have hBb := hB1.set4 (.slice Ad1 nd1 cd1) (.slice Aw1 nw1 cw1) (.slice Al1 nl1 cl1) (.slice Ak1 nk1 ck1)
  rw [← hWb] at hBb
  have hRb := hR1.otherAll (show w.heap.size ≠ w.heap.size + 1 by omega) (.slice Ad1 nd1 cd1) (.slice Aw1 nw1 cw1) (.slice Al1 nl1 cl1) (.slice Ak1 nk1 ck1)
  rw [← hWb] at hRb
  have hszb : Wb.heap.size = w1.heap.size := (congrArg (fun u : World => u.heap.size) hWb).trans (setAll_size _ _ _ _ _ _)
  have HWB := Lib.hid hWb
  have HB := Lib.hid (And.intro hDb (And.intro hSb (And.intro hBb hRb)))
  clear HST HDR hS1 hS hB1 hR1 nB nR h1 h2 h3 h4 hD1 hDb hSb hBb hRb hWb
  unfold DV.val
  simp only
  go_wp2_with (first
    | (at_builtin; go_loud (rw [← HWB.out]; refine app_ops (.tmp 11) (.tmp 14) ((HB.out.1.doneN H1.out).alloc _) (Nat.le_trans HB.out.1.base (by simp)) (ROps.litH hszb ⟨_, _, _⟩ _) (by omega) rfl rfl rfl rfl ?_; intro v3 w3 hown3 hg3 hat3; obtain ⟨A3, c3, rfl, hc3⟩ := own_form2 hown3; have hB3 := (HB.out.2.2.1.alloc (.cells #[.int .i64 t, .int .i64 3, .int .i64 0] 92)).grown hg3 (HB.out.2.2.1.notIn HB.out.1).1; have hR3 := (HB.out.2.2.2.alloc (.cells #[.int .i64 t, .int .i64 3, .int .i64 0] 92)).grown hg3 (HB.out.2.2.2.notIn HB.out.1).1; have hD3 := (HB.out.1.alloc _).growD (L := D.done ++ [⟨t, 3, 0⟩]) hg3 hown3 hat3; have hS3 := (HB.out.2.1.alloc _).growD hg3 hat3; obtain ⟨c0, c1, c2, c3'⟩ := hB3.cells; simp only at c0 c1 c2 c3'; have g0 := hB3.soft 0; have g3 := hB3.soft 3; have nB3 := hB3.notIn hD3; obtain ⟨Wc, hWc⟩ : ∃ u : World, u = w3.setCell ⟨w.heap.size, 0, none⟩ (.slice A3 (nd1 + 1) c3) := ⟨_, rfl⟩; have hDc := hD3.set nB3 0 (.slice A3 (nd1 + 1) c3); rw [← hWc] at hDc; have hSc := hS3.set (Nat.le_refl _) 0 (.slice A3 (nd1 + 1) c3); rw [← hWc] at hSc; have hBc := hB3.setD (.slice A3 (nd1 + 1) c3); rw [← hWc] at hBc; have hRc := hR3.other (show w.heap.size ≠ w.heap.size + 1 by omega) 0 (.slice A3 (nd1 + 1) c3); rw [← hWc] at hRc; have HC := Lib.hid (And.intro hDc (And.intro hSc (And.intro hBc hRc))); have HWC := Lib.hid hWc; have hszc : Wc.heap.size = w3.heap.size := (congrArg (fun u : World => u.heap.size) hWc).trans (by simp [World.setCell]); clear hB3 hR3 hD3 hS3 nB3 hDc hSc hBc hRc hWc HB HWB))
    | (at_builtin; go_loud (rw [← HWC.out]; refine app_ints (.tmp 18) (.tmp 20) ((HC.out.1.deadN H4.out).alloc _) (Nat.le_trans HC.out.1.base (by simp)) (Go.Proofs.Ytcakjhappchlmaa.lit1 hszc _) (by omega) rfl rfl rfl rfl ?_; intro v4 w4 hown4 hg4 hat4; obtain ⟨A4, c4, rfl, hc4⟩ := own_form2 hown4; have hB4 := (HC.out.2.2.1.alloc (.cells #[.int .i64 t] 3)).grown hg4 (HC.out.2.2.1.notIn HC.out.1).2.2.2; have hR4 := (HC.out.2.2.2.alloc (.cells #[.int .i64 t] 3)).grown hg4 (HC.out.2.2.2.notIn HC.out.1).2.2.2; have hD4 := (HC.out.1.alloc _).growK (K := D.dead ++ [t]) hg4 hown4; have hS4 := (HC.out.2.1.alloc _).growK hg4 hat4; obtain ⟨e0, e1, e2, e3⟩ := hB4.cells; simp only at e0 e1 e2 e3; have i3 := hB4.soft 3; have nB4 := hB4.notIn hD4; obtain ⟨Wd, hWd⟩ : ∃ u : World, u = w4.setCell ⟨w.heap.size, 3, none⟩ (.slice A4 (nk1 + 1) c4) := ⟨_, rfl⟩; have hDd := hD4.set nB4 3 (.slice A4 (nk1 + 1) c4); rw [← hWd] at hDd; have hSd := hS4.set (Nat.le_refl _) 3 (.slice A4 (nk1 + 1) c4); rw [← hWd] at hSd; have hBd := hB4.setK (.slice A4 (nk1 + 1) c4); rw [← hWd] at hBd; have hRd := hR4.other (show w.heap.size ≠ w.heap.size + 1 by omega) 3 (.slice A4 (nk1 + 1) c4); rw [← hWd] at hRd; have HD := Lib.hid (And.intro hDd (And.intro hSd (And.intro hBd hRd))); have HWD := Lib.hid hWd; have hszd : Wd.heap.size = w4.heap.size := (congrArg (fun u : World => u.heap.size) hWd).trans (by simp [World.setCell]); clear hB4 hR4 hD4 hS4 nB4 hDd hSd hBd hRd hWd HC HWC)))
  rw [← HWD.out]
  obtain ⟨hDd, hSd, hBd, hRd⟩ := HD.out
  have hfar : ∀ b, Wd.heap.size ≤ b → NotIn _ b := fun b hb => hDd.far hb
  have hgl := RowIs.lt hBd
  have hrl := RowIs.lt hRd
  have hbs := hDd.base
  have HFAR := Lib.hid hfar
  have hownE := World.ownsRow_made (base := Wd.heap.size) (e := 92) (size := 3) Wd #[] 0 (Nat.le_refl _) (by decide) rfl
  have HST : Hid (_ ∧ _ ∧ _ ∧ _ ∧ _) := And.intro (hDd.alloc (.cells #[] 92)) (And.intro (hSd.alloc (.cells #[] 92)) (And.intro (hBd.alloc (.cells #[] 92)) (And.intro (hRd.alloc (.cells #[] 92)) hownE)))
  have hsd := hSd.size
  have HSZ : Hid (w4.heap.size ≤ (Wd.alloc (.cells #[] 92)).heap.size) := by show _ ≤ _; rw [← hszd]; simp
  clear HD HWD hDd hSd hBd hRd hfar hownE
  rw [hszd] at hgl hrl hbs HFAR HST hsd
  clear hg3 hown3 hat3 c0 c1 c2 c3' g0 g3 hszc hg4 hown4 hat4 e0 e1 e2 e3 i3 hszd b0 b1 b2 b3 f0 f1 f2 f3 hszb
  go_loopw [5, 6] (fun ov i wr => ∃ k m : Nat, k ≤ nw1 ∧ m ≤ k ∧ i = .int .i64 k ∧ DeskAt wr B ⟨.slice A3 (nd1 + 1) c3, .slice Aw1 nw1 cw1, .slice Al1 nl1 cl1, .slice A4 (nk1 + 1) c4⟩ ⟨D.done ++ [⟨t, 3, 0⟩], D.wait, dropL D.locks t, D.dead ++ [t]⟩ ∧ DStep w ⟨.slice Ad nd cd, .slice Aw nw cw, .slice Al nl cl, .slice Ak nk ck⟩ wr ⟨.slice A3 (nd1 + 1) c3, .slice Aw1 nw1 cw1, .slice Al1 nl1 cl1, .slice A4 (nk1 + 1) c4⟩ ∧ Boxed wr w.heap.size ⟨.slice A3 (nd1 + 1) c3, .slice Aw1 nw1 cw1, .slice Al1 nl1 cl1, .slice A4 (nk1 + 1) c4⟩ ∧ Boxed wr (w.heap.size + 1) DV.nil ∧ w4.heap.size ≤ wr.heap.size ∧ wr.ownsRow w4.heap.size 92 3 ov m (opCells ((D.wait.take k).filter fun o => o.tx != t))) (fun _ i _ => nw1 - (intOf i).toNat)
  case atStart => exact ⟨0, 0, Nat.zero_le _, Nat.le_refl _, rfl, HST.out.1, HST.out.2.1, HST.out.2.2.1, HST.out.2.2.2.1, HSZ.out, by simpa [opCells] using HST.out.2.2.2.2⟩
  case round =>
    clear HST
    obtain ⟨k, m, hk, hmk, rfl, hDk, hSk, hBk, hRk, hwr, hown⟩ := hrel
    obtain ⟨x0, x1, x2, x3⟩ := hBk.cells
    simp only at x0 x1 x2 x3
    have hsk := hSk.size
    have hbk := hDk.base
    by_cases hlt : k < nw1
    · have hro : ROps wr Aw1 nw1 D.wait := ROps.of_own (hDk.waitN H2.out) (by omega)
      obtain ⟨b, off, o, hA, hbl, ho, c0, c1, c2⟩ := hro.at_ hlt
      subst hA
      have HT := Lib.hid (filter_snoc ho fun o => o.tx != t)
      have HI := Lib.hid (And.intro hDk (And.intro hSk (And.intro hBk hRk)))
      clear hDk hSk hBk hRk hro ho
      obtain ⟨tx, kd, it⟩ := o
      by_cases e1 : tx = t
      · go_wp2_with fail
        go_roundw
        case rel => exact ⟨k + 1, m, by omega, by omega, by go_num, HI.out.1, HI.out.2.1, HI.out.2.2.1, HI.out.2.2.2, hwr, by rw [HT.out]; simpa [e1] using hown⟩
        case measure => simp [intOf]; omega
      · go_wp2_with (at_builtin; refine app_ops (.tmp 39) (.tmp 45) (hown.alloc _) (by simp; omega) (ROps.lit1 _ ⟨_, _, _⟩ _) (by omega) rfl rfl rfl rfl ?_; intro v5 w5 hown5 hg5 hat5)
        have hfb : ∀ b, u5.ownBlock = some b → w4.heap.size ≤ b := fun b hb => (World.ownsRow.lt hown b hb).1
        go_roundw
        case rel =>
          refine ⟨k + 1, m + 1, by omega, by omega, by go_num, (HI.out.1.alloc _).apart hg5 fun b hb => HFAR.out b (hfb b hb), (HI.out.2.1.alloc _).apart hg5 fun b hb => Nat.le_trans hsd (hfb b hb), (HI.out.2.2.1.alloc _).grown hg5 fun e => ?_, (HI.out.2.2.2.alloc _).grown hg5 fun e => ?_, by have := hg5.size; simp at this; omega, by rw [HT.out]; simpa [e1] using hown5⟩
          · have := hfb _ e; omega
          · have := hfb _ e; omega
        case measure => simp [intOf]; omega
    · have hkn : k = nw1 := by omega
      have e : D.wait.take k = D.wait := List.take_of_length_le (by have := H2.out; omega)
      rw [e] at hown
      obtain ⟨A6, c6, rfl, hc6⟩ := own_form2 hown
      have f1 := hBk.soft 1
      have hnB := hBk.notIn hDk
      have hnR := hRk.notIn hDk
      have hfb : ∀ b, (Value.slice A6 m c6).ownBlock = some b → w4.heap.size ≤ b := fun b hb => (World.ownsRow.lt hown b hb).1
      have hnv : (Value.slice A6 m c6).ownBlock ≠ some w.heap.size := fun e => by have := hfb _ e; omega
      have hnr : (Value.slice A6 m c6).ownBlock ≠ some (w.heap.size + 1) := fun e => by have := hfb _ e; omega
      have hD6 := hDk.newW (own_base hown (show B ≤ w4.heap.size by omega)) (fun b hb e => by have := HFAR.out b (hfb b e); exact this.1 hb)
      have hS6 := hSk.newW (v := .slice A6 m c6) (fun b hb => by have := hfb b hb; omega)
      have hnB6 := hBk.notIn hD6
      have hnR6 := hRk.notIn hD6
      have hD7 := (hD6.set hnB6 1 (.slice A6 m c6)).setAll hnR6 (.slice A3 (nd1 + 1) c3) (.slice A6 m c6) (.slice Al1 nl1 cl1) (.slice A4 (nk1 + 1) c4)
      have hS7 := (hS6.set (Nat.le_refl _) 1 (.slice A6 m c6)).setAll (show w.heap.size ≤ w.heap.size + 1 by omega) (.slice A3 (nd1 + 1) c3) (.slice A6 m c6) (.slice Al1 nl1 cl1) (.slice A4 (nk1 + 1) c4)
      have hR7 := hRk.other (show w.heap.size ≠ w.heap.size + 1 by omega) 1 (.slice A6 m c6)
      obtain ⟨y0, y1, y2, y3⟩ := hRk.cells
      have s0 := hRk.soft 0
      have s1 := hRk.soft 1
      have s2 := hRk.soft 2
      have s3 := hRk.soft 3
      have HF := Lib.hid (And.intro hD7 (And.intro hS7 hR7))
      clear hD6 hS6 hD7 hS7 hR7 hDk hSk hBk hRk e hown
      unfold DV.nil at y0 y1 y2 y3
      simp only at y0 y1 y2 y3
      go_wp2_with fail
      have hF := (HF.out.2.2).setAll ⟨.slice A3 (nd1 + 1) c3, .slice A6 m c6, .slice Al1 nl1 cl1, .slice A4 (nk1 + 1) c4⟩
      obtain ⟨d0, d1, d2, d3⟩ := hF.cells
      simp only at d0 d1 d2 d3
      refine bodyPost_ret (v := .agg #[.slice A3 (nd1 + 1) c3, .slice A6 m c6, .slice Al1 nl1 cl1, .slice A4 (nk1 + 1) c4]) (by simp [results, Try.results154, go_sem, d0, d1, d2, d3]) rfl ?_
      refine ⟨⟨.slice A3 (nd1 + 1) c3, .slice A6 m c6, .slice Al1 nl1 cl1, .slice A4 (nk1 + 1) c4⟩, rfl, ?_, ?_⟩
      · exact HF.out.1
      · exact HF.out.2.1
end Go.Proofs.Ytcakjhappchlmaa
namespace Go.Proofs.Ytcakjhappchlmaa
open Go.RowKit Go.BigFrame
set_option linter.unusedVariables false

/-- A box of an operation. -/
def OBox (w : World) (g : Nat) (o : OpV) : Prop := RowIs w g 92 o.cells
section
variable {w w' : World} {g : Nat} {o : OpV}
theorem OBox.cells (h : OBox w g o) : w.cell? ⟨g, 0, none⟩ = some (.int .i64 o.tx) ∧ w.cell? ⟨g, 1, none⟩ = some (.int .i64 o.kind) ∧ w.cell? ⟨g, 2, none⟩ = some (.int .i64 o.item) :=
  ⟨RowIs.cell h rfl, RowIs.cell h rfl, RowIs.cell h rfl⟩
theorem OBox.below (h : OBox w g o) (hb : Below w.heap.size w w') : OBox w' g o := RowIs.below h hb (Nat.le_refl _)
theorem OBox.alloc (h : OBox w g o) (x : Obj) : OBox (w.alloc x) g o := RowIs.alloc h x
theorem OBox.step {V0 V1 : DV} (h : OBox w g o) (hs : DStep w V0 w' V1) (hn : NotIn V0 g) : OBox w' g o := hs.row h hn
theorem OBox.other (h : OBox w g o) {g' : Nat} (hne : g' ≠ g) (i : Nat) (u : Value) : OBox (w.setCell ⟨g', i, none⟩ u) g o :=
  (Below.heap_setCell w ⟨g', i, none⟩ u g (by simpa using hne.symm)).trans h
theorem OBox.new (w : World) (o : OpV) : OBox (w.alloc (.cells o.cells.toArray 92)) w.heap.size o := heap_alloc_new w _
theorem OBox.grown (h : OBox w g o) {row : Option Nat} (hg : w.grownBy w' row) (hne : row ≠ some g) : OBox w' g o := RowIs.grown h hg hne
end

set_option maxRecDepth 100000 in
set_option maxHeartbeats 400000 in
theorem grant_any (B : Nat) (V : DV) (D : Dsk) (o : OpV) (w : World) (hd : DeskAt w B V D) (hL : D.locks.length ≤ 9000) (hN : D.done.length ≤ 9000) :
    Calls Try.prog 153 #[V.val, o.val] w (DRet w B V (grantD D o)) := by
  obtain ⟨W, hW⟩ : ∃ W : World, W = ((w.alloc (.cells V.list.toArray 68)).alloc (.cells o.cells.toArray 92)).alloc (.cells DV.nil.list.toArray 68) := ⟨_, rfl⟩
  have hD0 : DeskAt W B V D := by rw [hW]; exact ((hd.alloc _).alloc _).alloc _
  have hS0 : DStep w V W V := by rw [hW]; exact (((DStep.refl w V).alloc _).alloc _).alloc _
  have hB0 : Boxed W w.heap.size V := by rw [hW]; exact ((Boxed.new w V).alloc _).alloc _
  have hO0 : OBox W (w.heap.size + 1) o := by
    rw [hW]
    have := OBox.new (w.alloc (.cells V.list.toArray 68)) o
    rw [show (w.alloc (.cells V.list.toArray 68)).heap.size = w.heap.size + 1 by simp] at this
    exact this.alloc _
  have hR0 : Boxed W (w.heap.size + 1 + 1) DV.nil := by
    rw [hW]
    have := Boxed.new ((w.alloc (.cells V.list.toArray 68)).alloc (.cells o.cells.toArray 92)) DV.nil
    rw [show ((w.alloc (.cells V.list.toArray 68)).alloc (.cells o.cells.toArray 92)).heap.size = w.heap.size + 1 + 1 by simp] at this
    exact this
  have hszW : W.heap.size = w.heap.size + 1 + 1 + 1 := by rw [hW]; simp
  have hnO : NotIn V (w.heap.size + 1) := hd.far (by omega)
  have HNO := Lib.hid hnO
  have HB := Lib.hid hd.base
  obtain ⟨tx, kd, it⟩ := o
  obtain ⟨Ad, Aw, Al, Ak, nd, nw, nl, nk, cd, cw, cl, ck, rfl, hcs, h1, h2, h3, h4⟩ := hd.forms
  have H1 := Lib.hid h1
  have H3 := Lib.hid h3
  have hbd : nd ≤ 9000 ∧ nl ≤ 9000 := by omega
  have HST := Lib.hid (And.intro hD0 (And.intro hS0 (And.intro hB0 (And.intro hO0 hR0))))
  have HW := Lib.hid hW
  have HSZ := Lib.hid hszW
  clear hD0 hS0 hB0 hO0 hR0 hW hd h1 h2 h3 h4 hszW hnO
  unfold DV.val OpV.val
  simp only
  have HW2 := HW.out
  unfold OpV.cells DV.list DV.nil at HW2
  simp only at HW2
  change W = ((w.alloc (.cells #[.slice Ad nd cd, .slice Aw nw cw, .slice Al nl cl, .slice Ak nk ck] _)).alloc (.cells #[.int .i64 tx, .int .i64 kd, .int .i64 it] _)).alloc (.cells #[.slice none 0 0, .slice none 0 0, .slice none 0 0, .slice none 0 0] _) at HW2
  have HW3 := Lib.hid HW2
  clear HW HW2
  obtain ⟨be, hbe⟩ : ∃ b, isEnd ⟨tx, kd, it⟩ = b := ⟨_, rfl⟩
  have HBE := Lib.hid hbe
  clear hbe
  cases be
  · obtain ⟨h, hh⟩ : ∃ h, heldI D.locks tx it = h := ⟨_, rfl⟩
    have HE : Hid (heldI (D.locks.take nl) tx it = h) := by show _ = _; rw [List.take_of_length_le (by have := H3.out; omega)]; exact hh
    have HH := Lib.hid hh
    clear hh
    go_enter Try.func153, Try.ntmps153
    go_wp2_with (first
      | (at_builtin; go_loud (rw [← HW3.out]; refine app_ops (.tmp 6) (.tmp 8) ((HST.out.1.doneN H1.out).alloc _) (Nat.le_trans HST.out.1.base (by simp)) (ROps.litH HSZ.out ⟨_, _, _⟩ _) (by omega) rfl rfl rfl rfl ?_; intro v3 w3 hown3 hg3 hat3; obtain ⟨A3, c3, rfl, hc3⟩ := own_form2 hown3; have hB3 := (HST.out.2.2.1.alloc (.cells #[.int .i64 tx, .int .i64 kd, .int .i64 it] 92)).grown hg3 (HST.out.2.2.1.notIn HST.out.1).1; have hR3 := (HST.out.2.2.2.2.alloc (.cells #[.int .i64 tx, .int .i64 kd, .int .i64 it] 92)).grown hg3 (HST.out.2.2.2.2.notIn HST.out.1).1; have hO3 := (HST.out.2.2.2.1.alloc (.cells #[.int .i64 tx, .int .i64 kd, .int .i64 it] 92)).grown hg3 HNO.out.1; have hD3 := (HST.out.1.alloc _).growD (L := D.done ++ [⟨tx, kd, it⟩]) hg3 hown3 hat3; have hS3 := (HST.out.2.1.alloc _).growD hg3 hat3; obtain ⟨c0, c1, c2, c3'⟩ := hB3.cells; obtain ⟨o0, o1, o2⟩ := hO3.cells; simp only at c0 c1 c2 c3' o0 o1 o2; have g0 := hB3.soft 0; have nB3 := hB3.notIn hD3; obtain ⟨Wc, hWc⟩ : ∃ u : World, u = w3.setCell ⟨w.heap.size, 0, none⟩ (.slice A3 (nd + 1) c3) := ⟨_, rfl⟩; have hDc := hD3.set nB3 0 (.slice A3 (nd + 1) c3); rw [← hWc] at hDc; have hSc := hS3.set (Nat.le_refl _) 0 (.slice A3 (nd + 1) c3); rw [← hWc] at hSc; have hBc := hB3.setD (.slice A3 (nd + 1) c3); rw [← hWc] at hBc; have hRc := hR3.other (show w.heap.size ≠ w.heap.size + 2 by omega) 0 (.slice A3 (nd + 1) c3); rw [← hWc] at hRc; have hOc := hO3.other (show w.heap.size ≠ w.heap.size + 1 by omega) 0 (.slice A3 (nd + 1) c3); rw [← hWc] at hOc; have HC := Lib.hid (And.intro hDc (And.intro hSc (And.intro hBc (And.intro hOc hRc)))); have HWC := Lib.hid hWc; clear hB3 hR3 hO3 hD3 hS3 nB3 hDc hSc hBc hRc hOc hWc HST HW3 hg3 hat3 hown3))
      | (go_at_call 104; go_loud (rw [← HWC.out]; refine (sends_any ⟨tx, kd, it⟩ _).mono ?_; rintro e w4 ⟨rfl, hb4⟩; rw [HBE.out]; have HC4 := Lib.hid (And.intro (HC.out.1.below hb4) (And.intro (HC.out.2.1.below hb4) (And.intro (HC.out.2.2.1.below hb4) (And.intro (HC.out.2.2.2.1.below hb4) (HC.out.2.2.2.2.below hb4))))); obtain ⟨d0, d1, d2, d3⟩ := HC4.out.2.2.1.cells; obtain ⟨p0, p1, p2⟩ := HC4.out.2.2.2.1.cells; simp only at d0 d1 d2 d3 p0 p1 p2; have hdr := drop_any B _ _ tx w4 HC4.out.1 (show D.locks.length ≤ 10000 by omega); simp only [DV.val] at hdr; have HDR := Lib.hid hdr; clear hdr HC HWC hb4 c0 c1 c2 c3' o0 o1 o2 g0)))
    have hlo := HC4.out.1.locksN (n := nl) H3.out
    have hro := ROps.of_own hlo (by omega)
    have L0 := Later.cell d0
    have L1 := Later.cell d1
    have L2 := Later.cell d2
    have L3 := Later.cell d3
    have P0 := Later.cell p0
    have P1 := Later.cell p1
    have P2 := Later.cell p2
    have HRO : Hid (ROps w4 Al nl D.locks) := hro
    have hcall : ∀ u : Later w4, Calls Try.prog 81 #[.slice Al nl cl, .int .i64 (nl : Int), .int .i64 tx, .int .i64 it] u.1 fun e w' => e = .returned (.int .i64 h) ∧ Below u.1.heap.size u.1 w' := fun u => by
      have := held_any Al nl cl D.locks nl tx it u.1 (HRO.out.later u) (Nat.le_refl _)
      rw [HE.out] at this
      exact this
    have HCL := Lib.hid hcall
    clear hcall hlo hro HDR d0 d1 d2 d3 p0 p1 p2
    by_cases hp : h < kd
    · have hpb : decide (h < kd) = true := by simp [hp]
      refine region_later (by kernel_rfl) (by kernel_rfl) ?_
      repeat (go_big_quiet_step ((go_at_call 81; exact later_call _ (HCL.out _))))
      refine wpQuiet_nil ?_
      rintro _ ⟨u, rfl⟩
      have d0 := L0 u
      have d1 := L1 u
      have d2 := L2 u
      have d3 := L3 u
      have p0 := P0 u
      have p1 := P1 u
      have p2 := P2 u
      have HU := Lib.hid (And.intro (HC4.out.1.below u.2) (And.intro (HC4.out.2.1.below u.2) (And.intro (HC4.out.2.2.1.below u.2) (And.intro (HC4.out.2.2.2.1.below u.2) (HC4.out.2.2.2.2.below u.2)))))
      obtain ⟨w5, hw5⟩ : ∃ w5 : World, u.1 = w5 := ⟨_, rfl⟩
      rw [hw5] at d0 d1 d2 d3 p0 p1 p2 HU ⊢
      clear L0 L1 L2 L3 P0 P1 P2 hw5 HCL HC4
      go_wp2_with (at_builtin; go_loud (refine app_steps (.tmp 31) (.tmp 39) ((HU.out.1.locksN (n := nl) H3.out).alloc _) (Nat.le_trans HU.out.1.base (by simp)) (ROps.lit1 _ ⟨_, _, _⟩ _) (by omega) rfl rfl rfl rfl ?_; intro v6 w6 hown6 hg6 hat6; obtain ⟨A6, c6, rfl, hc6⟩ := own_form2 hown6; have hB6 := (HU.out.2.2.1.alloc (.cells #[.int .i64 tx, .int .i64 kd, .int .i64 it] 31)).grown hg6 (HU.out.2.2.1.notIn HU.out.1).2.2.1; have hR6 := (HU.out.2.2.2.2.alloc (.cells #[.int .i64 tx, .int .i64 kd, .int .i64 it] 31)).grown hg6 (HU.out.2.2.2.2.notIn HU.out.1).2.2.1; have hD6 := (HU.out.1.alloc _).growL (L := D.locks ++ [⟨tx, kd, it⟩]) hg6 hown6; have hS6 := (HU.out.2.1.alloc _).growL hg6 hat6; obtain ⟨q0, q1, q2, q3⟩ := hB6.cells; obtain ⟨y0, y1, y2, y3⟩ := hR6.cells; unfold DV.nil at y0 y1 y2 y3; simp only at q0 q1 q2 q3 y0 y1 y2 y3; have f2 := hB6.soft 2; have s0 := hR6.soft 0; have s1 := hR6.soft 1; have s2 := hR6.soft 2; have s3 := hR6.soft 3; have nB6 := hB6.notIn hD6; have nR6 := hR6.notIn hD6; have hD7 := (hD6.set nB6 2 (.slice A6 (nl + 1) c6)).setAll nR6 (.slice A3 (nd + 1) c3) (.slice Aw nw cw) (.slice A6 (nl + 1) c6) (.slice Ak nk ck); have hS7 := (hS6.set (Nat.le_refl _) 2 (.slice A6 (nl + 1) c6)).setAll (show w.heap.size ≤ w.heap.size + 1 + 1 by omega) (.slice A3 (nd + 1) c3) (.slice Aw nw cw) (.slice A6 (nl + 1) c6) (.slice Ak nk ck); have hR7 := hR6.other (show w.heap.size ≠ w.heap.size + 1 + 1 by omega) 2 (.slice A6 (nl + 1) c6); have HF := Lib.hid (And.intro hD7 (And.intro hS7 hR7)); clear hB6 hR6 hD6 hS6 nB6 nR6 hD7 hS7 hR7 hown6 hg6 hat6 d0 d1 d2 d3 p0 p1 p2))
      have hF := (HF.out.2.2).setAll ⟨.slice A3 (nd + 1) c3, .slice Aw nw cw, .slice A6 (nl + 1) c6, .slice Ak nk ck⟩
      obtain ⟨d0, d1, d2, d3⟩ := hF.cells
      simp only at d0 d1 d2 d3
      refine bodyPost_ret (v := .agg #[.slice A3 (nd + 1) c3, .slice Aw nw cw, .slice A6 (nl + 1) c6, .slice Ak nk ck]) (by simp [results, Try.results153, go_sem, d0, d1, d2, d3]) rfl ?_
      refine ⟨⟨.slice A3 (nd + 1) c3, .slice Aw nw cw, .slice A6 (nl + 1) c6, .slice Ak nk ck⟩, rfl, ?_, ?_⟩
      · have e : grantD D ⟨tx, kd, it⟩ = ⟨D.done ++ [⟨tx, kd, it⟩], D.wait, D.locks ++ [⟨tx, kd, it⟩], D.dead⟩ := by
          unfold grantD grantL
          rw [if_neg (by rw [HBE.out]; simp)]
          simp only
          rw [HH.out, if_pos hp]
        rw [e]
        exact HF.out.1
      · exact HF.out.2.1
    · have hpb : decide (h < kd) = false := by simp; omega
      refine region_later (by kernel_rfl) (by kernel_rfl) ?_
      repeat (go_big_quiet_step ((go_at_call 81; exact later_call _ (HCL.out _))))
      refine wpQuiet_nil ?_
      rintro _ ⟨u, rfl⟩
      have d0 := L0 u
      have d1 := L1 u
      have d2 := L2 u
      have d3 := L3 u
      have p0 := P0 u
      have p1 := P1 u
      have p2 := P2 u
      have HU := Lib.hid (And.intro (HC4.out.1.below u.2) (And.intro (HC4.out.2.1.below u.2) (And.intro (HC4.out.2.2.1.below u.2) (And.intro (HC4.out.2.2.2.1.below u.2) (HC4.out.2.2.2.2.below u.2)))))
      obtain ⟨w5, hw5⟩ : ∃ w5 : World, u.1 = w5 := ⟨_, rfl⟩
      rw [hw5] at d0 d1 d2 d3 p0 p1 p2 HU ⊢
      clear L0 L1 L2 L3 P0 P1 P2 hw5 HCL HC4
      have hR6 := HU.out.2.2.2.2
      have nR6 := hR6.notIn HU.out.1
      obtain ⟨y0, y1, y2, y3⟩ := hR6.cells
      unfold DV.nil at y0 y1 y2 y3
      simp only at y0 y1 y2 y3
      have s0 := hR6.soft 0
      have s1 := hR6.soft 1
      have s2 := hR6.soft 2
      have s3 := hR6.soft 3
      have hD7 := HU.out.1.setAll nR6 (.slice A3 (nd + 1) c3) (.slice Aw nw cw) (.slice Al nl cl) (.slice Ak nk ck)
      have hS7 := HU.out.2.1.setAll (show w.heap.size ≤ w.heap.size + 1 + 1 by omega) (.slice A3 (nd + 1) c3) (.slice Aw nw cw) (.slice Al nl cl) (.slice Ak nk ck)
      have HF := Lib.hid (And.intro hD7 (And.intro hS7 hR6))
      clear hR6 nR6 hD7 hS7
      go_wp2_with fail
      have hF := (HF.out.2.2).setAll ⟨.slice A3 (nd + 1) c3, .slice Aw nw cw, .slice Al nl cl, .slice Ak nk ck⟩
      obtain ⟨d0, d1, d2, d3⟩ := hF.cells
      simp only at d0 d1 d2 d3
      refine bodyPost_ret (v := .agg #[.slice A3 (nd + 1) c3, .slice Aw nw cw, .slice Al nl cl, .slice Ak nk ck]) (by simp [results, Try.results153, go_sem, d0, d1, d2, d3]) rfl ?_
      refine ⟨⟨.slice A3 (nd + 1) c3, .slice Aw nw cw, .slice Al nl cl, .slice Ak nk ck⟩, rfl, ?_, ?_⟩
      · have e : grantD D ⟨tx, kd, it⟩ = ⟨D.done ++ [⟨tx, kd, it⟩], D.wait, D.locks, D.dead⟩ := by
          unfold grantD grantL
          rw [if_neg (by rw [HBE.out]; simp)]
          simp only
          rw [HH.out, if_neg (by omega)]
        rw [e]
        exact HF.out.1
      · exact HF.out.2.1
  · go_enter Try.func153, Try.ntmps153
    go_wp2_with (first
      | (at_builtin; go_loud (rw [← HW3.out]; refine app_ops (.tmp 6) (.tmp 8) ((HST.out.1.doneN H1.out).alloc _) (Nat.le_trans HST.out.1.base (by simp)) (ROps.litH HSZ.out ⟨_, _, _⟩ _) (by omega) rfl rfl rfl rfl ?_; intro v3 w3 hown3 hg3 hat3; obtain ⟨A3, c3, rfl, hc3⟩ := own_form2 hown3; have hB3 := (HST.out.2.2.1.alloc (.cells #[.int .i64 tx, .int .i64 kd, .int .i64 it] 92)).grown hg3 (HST.out.2.2.1.notIn HST.out.1).1; have hR3 := (HST.out.2.2.2.2.alloc (.cells #[.int .i64 tx, .int .i64 kd, .int .i64 it] 92)).grown hg3 (HST.out.2.2.2.2.notIn HST.out.1).1; have hO3 := (HST.out.2.2.2.1.alloc (.cells #[.int .i64 tx, .int .i64 kd, .int .i64 it] 92)).grown hg3 HNO.out.1; have hD3 := (HST.out.1.alloc _).growD (L := D.done ++ [⟨tx, kd, it⟩]) hg3 hown3 hat3; have hS3 := (HST.out.2.1.alloc _).growD hg3 hat3; obtain ⟨c0, c1, c2, c3'⟩ := hB3.cells; obtain ⟨o0, o1, o2⟩ := hO3.cells; simp only at c0 c1 c2 c3' o0 o1 o2; have g0 := hB3.soft 0; have nB3 := hB3.notIn hD3; obtain ⟨Wc, hWc⟩ : ∃ u : World, u = w3.setCell ⟨w.heap.size, 0, none⟩ (.slice A3 (nd + 1) c3) := ⟨_, rfl⟩; have hDc := hD3.set nB3 0 (.slice A3 (nd + 1) c3); rw [← hWc] at hDc; have hSc := hS3.set (Nat.le_refl _) 0 (.slice A3 (nd + 1) c3); rw [← hWc] at hSc; have hBc := hB3.setD (.slice A3 (nd + 1) c3); rw [← hWc] at hBc; have hRc := hR3.other (show w.heap.size ≠ w.heap.size + 2 by omega) 0 (.slice A3 (nd + 1) c3); rw [← hWc] at hRc; have hOc := hO3.other (show w.heap.size ≠ w.heap.size + 1 by omega) 0 (.slice A3 (nd + 1) c3); rw [← hWc] at hOc; have HC := Lib.hid (And.intro hDc (And.intro hSc (And.intro hBc (And.intro hOc hRc)))); have HWC := Lib.hid hWc; clear hB3 hR3 hO3 hD3 hS3 nB3 hDc hSc hBc hRc hOc hWc HST HW3 hg3 hat3 hown3))
      | (go_at_call 104; go_loud (rw [← HWC.out]; refine (sends_any ⟨tx, kd, it⟩ _).mono ?_; rintro e w4 ⟨rfl, hb4⟩; rw [HBE.out]; have HC4 := Lib.hid (And.intro (HC.out.1.below hb4) (And.intro (HC.out.2.1.below hb4) (And.intro (HC.out.2.2.1.below hb4) (And.intro (HC.out.2.2.2.1.below hb4) (HC.out.2.2.2.2.below hb4))))); obtain ⟨d0, d1, d2, d3⟩ := HC4.out.2.2.1.cells; obtain ⟨p0, p1, p2⟩ := HC4.out.2.2.2.1.cells; simp only at d0 d1 d2 d3 p0 p1 p2; have hdr := drop_any B _ _ tx w4 HC4.out.1 (show D.locks.length ≤ 10000 by omega); simp only [DV.val] at hdr; have HDR := Lib.hid hdr; clear hdr HC HWC hb4 c0 c1 c2 c3' o0 o1 o2 g0))
      | (go_at_call 172; go_loud (refine HDR.out.mono ?_; rintro e w5 ⟨V5, rfl, hD5, hS5⟩; have hn5 := hD5.forms; obtain ⟨Ad5, Aw5, Al5, Ak5, nd5, nw5, nl5, nk5, cd5, cw5, cl5, ck5, rfl, _⟩ := hn5; have hR5 := HC4.out.2.2.2.2.step hS5 (HC4.out.2.2.2.2.notIn HC4.out.1); have nR5 := hR5.notIn hD5; obtain ⟨y0, y1, y2, y3⟩ := hR5.cells; unfold DV.nil at y0 y1 y2 y3; simp only at y0 y1 y2 y3; have s0 := hR5.soft 0; have s1 := hR5.soft 1; have s2 := hR5.soft 2; have s3 := hR5.soft 3; have HF := Lib.hid (And.intro (hD5.setAll nR5 (.slice Ad5 nd5 cd5) (.slice Aw5 nw5 cw5) (.slice Al5 nl5 cl5) (.slice Ak5 nk5 ck5)) (And.intro ((HC4.out.2.1.trans hS5).setAll (show w.heap.size ≤ w.heap.size + 1 + 1 by omega) (.slice Ad5 nd5 cd5) (.slice Aw5 nw5 cw5) (.slice Al5 nl5 cl5) (.slice Ak5 nk5 ck5)) hR5)); clear hS5 hD5 hR5 nR5; unfold DV.val; simp only)))
    have hF := (HF.out.2.2).setAll ⟨.slice Ad5 nd5 cd5, .slice Aw5 nw5 cw5, .slice Al5 nl5 cl5, .slice Ak5 nk5 ck5⟩
    obtain ⟨d0, d1, d2, d3⟩ := hF.cells
    simp only at d0 d1 d2 d3
    refine bodyPost_ret (v := .agg #[.slice Ad5 nd5 cd5, .slice Aw5 nw5 cw5, .slice Al5 nl5 cl5, .slice Ak5 nk5 ck5]) (by simp [results, Try.results153, go_sem, d0, d1, d2, d3]) rfl ?_
    refine ⟨⟨.slice Ad5 nd5 cd5, .slice Aw5 nw5 cw5, .slice Al5 nl5 cl5, .slice Ak5 nk5 ck5⟩, rfl, ?_, ?_⟩
    · have e : grantD D ⟨tx, kd, it⟩ = ⟨D.done ++ [⟨tx, kd, it⟩], D.wait, dropL D.locks tx, D.dead⟩ := by unfold grantD grantL; rw [if_pos HBE.out]
      rw [e]
      exact HF.out.1
    · exact HF.out.2.1
end Go.Proofs.Ytcakjhappchlmaa
namespace Go.Proofs.Ytcakjhappchlmaa
open Go.RowKit Go.BigFrame
set_option linter.unusedVariables false

/-- The world behind a store of a whole desk. -/
def putDesk (w : World) (g : Nat) (V : DV) : World := (((w.setCell ⟨g, 0, none⟩ V.d).setCell ⟨g, 1, none⟩ V.w).setCell ⟨g, 2, none⟩ V.l).setCell ⟨g, 3, none⟩ V.k
theorem putDesk_size (w : World) (g : Nat) (V : DV) : (putDesk w g V).heap.size = w.heap.size := setAll_size _ _ _ _ _ _
/-- A desk in the box g, beside the box gr of the result. -/
structure Pk (w0 : World) (V0 : DV) (B g gr : Nat) (w : World) (U : DV) (D : Dsk) : Prop where
  desk : DeskAt w B U D
  step : DStep w0 V0 w U
  box : Boxed w g U
  res : Boxed w gr DV.nil
  ne : g ≠ gr
  gl : w0.heap.size ≤ g
  grl : w0.heap.size ≤ gr
section
variable {w0 w w1 w' : World} {V0 U : DV} {B g gr : Nat} {D : Dsk}
theorem Pk.below (h : Pk w0 V0 B g gr w U D) (hb : Below w.heap.size w w') : Pk w0 V0 B g gr w' U D := ⟨h.desk.below hb, h.step.below hb, h.box.below hb, h.res.below hb, h.ne, h.gl, h.grl⟩
theorem Pk.alloc (h : Pk w0 V0 B g gr w U D) (o : Obj) : Pk w0 V0 B g gr (w.alloc o) U D := h.below ((Below.refl _ _).alloc (Nat.le_refl _) _)
theorem Pk.drew (h : Pk w0 V0 B g gr w U D) : Pk w0 V0 B g gr w.drew U D := h.below (Below.refl _ _).drew
theorem Pk.nBox (h : Pk w0 V0 B g gr w U D) : NotIn U g := h.box.notIn h.desk
theorem Pk.nRes (h : Pk w0 V0 B g gr w U D) : NotIn U gr := h.res.notIn h.desk
theorem Pk.size (h : Pk w0 V0 B g gr w U D) : w0.heap.size ≤ w.heap.size := h.step.size
theorem Pk.lts (h : Pk w0 V0 B g gr w U D) : g < w.heap.size ∧ gr < w.heap.size := ⟨RowIs.lt h.box, RowIs.lt h.res⟩
/-- Behind a call that hands back a desk: the box holds the old one still. -/
theorem Pk.mid (h : Pk w0 V0 B g gr w U D) {U' : DV} (hs : DStep w U w' U') : Boxed w' g U ∧ Boxed w' gr DV.nil ∧ DStep w0 V0 w' U' := ⟨h.box.step hs h.nBox, h.res.step hs h.nRes, h.step.trans hs⟩
/-- .. and the box is stored. -/
theorem Pk.put (h : Pk w0 V0 B g gr w U D) {U' : DV} {D' : Dsk} (hd : DeskAt w' B U' D') (hs : DStep w U w' U') : Pk w0 V0 B g gr (putDesk w' g U') U' D' := by
  obtain ⟨h1, h2, h3⟩ := h.mid hs
  have hn := h1.notIn hd
  exact ⟨hd.setAll hn _ _ _ _, h3.setAll h.gl _ _ _ _, h1.setAll U', h2.otherAll h.ne _ _ _ _, h.ne, h.gl, h.grl⟩
/-- .. or the result is. -/
theorem Pk.out (h : Pk w0 V0 B g gr w U D) {U' : DV} {D' : Dsk} (hd : DeskAt w' B U' D') (hs : DStep w U w' U') : DeskAt (putDesk w' gr U') B U' D' ∧ DStep w0 V0 (putDesk w' gr U') U' ∧ Boxed (putDesk w' gr U') gr U' := by
  obtain ⟨h1, h2, h3⟩ := h.mid hs
  have hn := h2.notIn hd
  exact ⟨hd.setAll hn _ _ _ _, h3.setAll h.grl _ _ _ _, h2.setAll U'⟩
theorem Pk.outSame (h : Pk w0 V0 B g gr w U D) : DeskAt (putDesk w gr U) B U D ∧ DStep w0 V0 (putDesk w gr U) U ∧ Boxed (putDesk w gr U) gr U := h.out h.desk (DStep.refl _ _)
/-- The waiting row has grown; its field is stored. -/
theorem Pk.waitGrown (h : Pk w0 V0 B g gr w U D) {v : Value} {L : List OpV} {n : Nat} (hg : w.grownBy w' U.w.ownBlock) (ho : w'.ownsRow B 92 3 v n (opCells L)) (hat : v.ownBlock = U.w.ownBlock ∨ v.ownBlock = some w.heap.size) :
    Boxed w' g U ∧ Boxed w' gr DV.nil ∧ Pk w0 V0 B g gr (w'.setCell ⟨g, 1, none⟩ v) ⟨U.d, v, U.l, U.k⟩ ⟨D.done, L, D.locks, D.dead⟩ := by
  have hb := h.box.grown hg h.nBox.2.1
  have hr := h.res.grown hg h.nRes.2.1
  have hd := h.desk.growW hg ho hat
  exact ⟨hb, hr, hd.set (hb.notIn hd) 1 v, (h.step.growW hg hat).set h.gl 1 v, hb.setW v, hr.other h.ne 1 v, h.ne, h.gl, h.grl⟩
/-- A new waiting row is stored. -/
theorem Pk.waitNew (h : Pk w0 V0 B g gr w U D) {v : Value} {L : List OpV} {n H : Nat} (ho : w.ownsRow H 92 3 v n (opCells L)) (hB : B ≤ H) (h0 : w0.heap.size ≤ H) (hU : ∀ b, H ≤ b → NotIn U b) :
    Pk w0 V0 B g gr (w.setCell ⟨g, 1, none⟩ v) ⟨U.d, v, U.l, U.k⟩ ⟨D.done, L, D.locks, D.dead⟩ := by
  have hlt : ∀ b, v.ownBlock = some b → H ≤ b := fun b hb => (World.ownsRow.lt ho b hb).1
  have hd := h.desk.newW (own_base ho hB) fun b hb e => (hU b (hlt b e)).1 hb
  have hs := h.step.newW (v := v) fun b hb => Nat.le_trans h0 (hlt b hb)
  exact ⟨hd.set (h.box.notIn hd) 1 v, hs.set h.gl 1 v, h.box.setW v, h.res.other h.ne 1 v, h.ne, h.gl, h.grl⟩
end
/-- A box of an operation beside a desk. -/
structure OB (w : World) (U : DV) (g : Nat) (o : OpV) : Prop where
  box : OBox w g o
  no : NotIn U g
section
variable {w w' : World} {U U' : DV} {g : Nat} {o : OpV}
theorem OB.lt (h : OB w U g o) : g < w.heap.size := RowIs.lt h.box
theorem OB.below (h : OB w U g o) (hb : Below w.heap.size w w') : OB w' U g o := ⟨h.box.below hb, h.no⟩
theorem OB.step (h : OB w U g o) (hs : DStep w U w' U') : OB w' U' g o := ⟨h.box.step hs h.no, hs.notIn h.lt h.no⟩
theorem OB.put (h : OB w U g o) {g' : Nat} (hne : g' ≠ g) (V : DV) : OB (putDesk w g' V) U g o := ⟨(((h.box.other hne 0 V.d).other hne 1 V.w).other hne 2 V.l).other hne 3 V.k, h.no⟩
end
end Go.Proofs.Ytcakjhappchlmaa
namespace Go.Proofs.Ytcakjhappchlmaa
open Go.RowKit Go.BigFrame
set_option linter.unusedVariables false

def Rul.str : Rul → ByteArray
  | .wait => { data := #[119, 97, 105, 116] }
  | .die => { data := #[100, 105, 101] }
  | .wound => { data := #[119, 111, 117, 110, 100] }

/-- The boxes of ask. -/
theorem ask_start {B : Nat} {V : DV} {D : Dsk} {o : OpV} {w W : World} (hd : DeskAt w B V D) (hW : W = ((w.alloc (.cells V.list.toArray 68)).alloc (.cells o.cells.toArray 92)).alloc (.cells DV.nil.list.toArray 68)) :
    Pk w V B w.heap.size (w.heap.size + 1 + 1) W V D ∧ OB W V (w.heap.size + 1) o ∧ W.heap.size = w.heap.size + 1 + 1 + 1 := by
  have hD0 : DeskAt W B V D := by rw [hW]; exact ((hd.alloc _).alloc _).alloc _
  have hS0 : DStep w V W V := by rw [hW]; exact (((DStep.refl w V).alloc _).alloc _).alloc _
  have hB0 : Boxed W w.heap.size V := by rw [hW]; exact ((Boxed.new w V).alloc _).alloc _
  have hO0 : OBox W (w.heap.size + 1) o := by
    rw [hW]
    have := OBox.new (w.alloc (.cells V.list.toArray 68)) o
    rw [show (w.alloc (.cells V.list.toArray 68)).heap.size = w.heap.size + 1 by simp] at this
    exact this.alloc _
  have hR0 : Boxed W (w.heap.size + 1 + 1) DV.nil := by
    rw [hW]
    have := Boxed.new ((w.alloc (.cells V.list.toArray 68)).alloc (.cells o.cells.toArray 92)) DV.nil
    rw [show ((w.alloc (.cells V.list.toArray 68)).alloc (.cells o.cells.toArray 92)).heap.size = w.heap.size + 1 + 1 by simp] at this
    exact this
  exact ⟨⟨hD0, hS0, hB0, hR0, by omega, Nat.le_refl _, by omega⟩, ⟨hO0, hd.far (by omega)⟩, by rw [hW]; simp⟩

set_option maxRecDepth 100000 in
set_option maxHeartbeats 1000000 in
theorem ask_wait (B : Nat) (V : DV) (D : Dsk) (o : OpV) (w : World) (hd : DeskAt w B V D) (hL : D.locks.length ≤ 9000) (hN : D.done.length ≤ 9000) (hWt : D.wait.length ≤ 9000) (hDd : D.dead.length ≤ 9000) :
    Calls Try.prog 135 #[.string Rul.wait.str, V.val, o.val] w (DRet w B V (askD .wait D o)) := by
  obtain ⟨W, hW⟩ : ∃ W : World, W = ((w.alloc (.cells V.list.toArray 68)).alloc (.cells o.cells.toArray 92)).alloc (.cells DV.nil.list.toArray 68) := ⟨_, rfl⟩
  obtain ⟨hP0, hO0, hszW⟩ := ask_start hd hW
  obtain ⟨tx, kd, it⟩ := o
  obtain ⟨Ad, Aw, Al, Ak, nd, nw, nl, nk, cd, cw, cl, ck, rfl, hcs, h1, h2, h3, h4⟩ := hd.forms
  have H1 := Lib.hid h1
  have H2 := Lib.hid h2
  have H3 := Lib.hid h3
  have H4 := Lib.hid h4
  have HP0 := Lib.hid hP0
  have HO0 := Lib.hid hO0
  have HSZ := Lib.hid hszW
  have hbd : nd ≤ 9000 ∧ nl ≤ 9000 ∧ nw ≤ 9000 := by omega
  unfold OpV.cells DV.list DV.nil at hW
  simp only at hW
  change W = ((w.alloc (.cells #[.slice Ad nd cd, .slice Aw nw cw, .slice Al nl cl, .slice Ak nk ck] _)).alloc (.cells #[.int .i64 tx, .int .i64 kd, .int .i64 it] _)).alloc (.cells #[.slice none 0 0, .slice none 0 0, .slice none 0 0, .slice none 0 0] _) at hW
  have HW3 := Lib.hid hW
  clear hP0 hO0 hszW hd h1 h2 h3 h4 hW
  unfold DV.val OpV.val Rul.str
  simp only
  obtain ⟨be, hbe⟩ : ∃ b, isEnd ⟨tx, kd, it⟩ = b := ⟨_, rfl⟩
  have HBE := Lib.hid hbe
  clear hbe
  cases be
  · have hway : wayO D.locks ⟨tx, kd, it⟩ = inWayI D.locks tx it kd := by unfold wayO; rw [if_neg (by rw [HBE.out]; simp)]
    obtain ⟨XS, hXS⟩ : ∃ XS, inWayI D.locks tx it kd = XS := ⟨_, rfl⟩
    rw [hXS] at hway
    obtain ⟨m, hm⟩ : ∃ m, XS.length = m := ⟨_, rfl⟩
    have HXS := Lib.hid hXS
    have HM := Lib.hid hm
    have HWAY := Lib.hid hway
    clear hXS hm hway
    by_cases hm0 : m = 0
    · subst hm0
      go_enter Try.func135, Try.ntmps135
      go_wp2_with (first
        | (go_at_call 104; go_loud (rw [← HW3.out]; refine (sends_any ⟨tx, kd, it⟩ _).mono ?_; rintro e w1 ⟨rfl, hb1⟩; rw [HBE.out]; have HP1 := Lib.hid ((HP0.out.alloc (.cells #[] 3)).below hb1); have HO1 := Lib.hid ((HO0.out.below ((Below.refl _ _).alloc (Nat.le_refl _) (.cells #[] 3))).below hb1); have hbase1 := HP1.out.desk.base; have hlt1 := HP1.out.lts; obtain ⟨d0, d1, d2, d3⟩ := HP1.out.box.cells; obtain ⟨p0, p1, p2⟩ := HO1.out.box.cells; simp only at d0 d1 d2 d3 p0 p1 p2; clear HP0 HO0 HW3 hb1))
        | (go_at_call 148; go_loud (refine (inWay_any Al nl cl D.locks tx it kd w1 (ROps.of_own (HP1.out.desk.locksN (n := nl) H3.out) (by omega))).mono ?_; rw [HXS.out]; rintro e w2 ⟨LA, lc, rfl, hlc, hFL, hb2⟩; rw [HM.out] at hlc hFL ⊢; have HFL := Lib.hid hFL; have HP2 := Lib.hid (HP1.out.below hb2); have HO2 := Lib.hid (HO1.out.below hb2); have hbase2 := HP2.out.desk.base; have hlt2 := HP2.out.lts; have hg2 := grant_any B _ _ ⟨tx, kd, it⟩ w2 HP2.out.desk (show D.locks.length ≤ 9000 by omega) (show D.done.length ≤ 9000 by omega); simp only [DV.val, OpV.val] at hg2; have HG2 := Lib.hid hg2; have HB2 := Lib.hid hb2; clear hFL hg2 hb2 d0 d1 d2 d3 p0 p1 p2; obtain ⟨d0, d1, d2, d3⟩ := HP2.out.box.cells; obtain ⟨p0, p1, p2⟩ := HO2.out.box.cells; simp only at d0 d1 d2 d3 p0 p1 p2))
        | (go_at_call 153; go_loud (refine HG2.out.mono ?_; rintro e w5 ⟨V5, rfl, hD5, hS5⟩; obtain ⟨Ad5, Aw5, Al5, Ak5, nd5, nw5, nl5, nk5, cd5, cw5, cl5, ck5, rfl, _⟩ := hD5.forms; obtain ⟨_, hR5, _⟩ := HP2.out.mid hS5; obtain ⟨y0, y1, y2, y3⟩ := hR5.cells; unfold DV.nil at y0 y1 y2 y3; simp only at y0 y1 y2 y3; have s0 := hR5.soft 0; have s1 := hR5.soft 1; have s2 := hR5.soft 2; have s3 := hR5.soft 3; have hF := HP2.out.out hD5 hS5; simp only [putDesk] at hF; have HF := Lib.hid hF; clear hF hS5 hD5 hR5; unfold DV.val; simp only)))
      obtain ⟨d0, d1, d2, d3⟩ := HF.out.2.2.cells
      simp only at d0 d1 d2 d3
      refine bodyPost_ret (v := .agg #[.slice Ad5 nd5 cd5, .slice Aw5 nw5 cw5, .slice Al5 nl5 cl5, .slice Ak5 nk5 ck5]) (by simp [results, Try.results135, go_sem, d0, d1, d2, d3]) rfl ?_
      refine ⟨⟨.slice Ad5 nd5 cd5, .slice Aw5 nw5 cw5, .slice Al5 nl5 cl5, .slice Ak5 nk5 ck5⟩, rfl, ?_, HF.out.2.1⟩
      have e : askD .wait D ⟨tx, kd, it⟩ = grantD D ⟨tx, kd, it⟩ := by
        unfold askD
        simp only
        rw [HWAY.out, if_pos (by first | rfl | (rw [List.eq_nil_of_length_eq_zero HM.out]; rfl))]
      rw [e]
      exact HF.out.1
    · go_enter Try.func135, Try.ntmps135
      go_wp2_with (first
        | (go_at_call 104; go_loud (rw [← HW3.out]; refine (sends_any ⟨tx, kd, it⟩ _).mono ?_; rintro e w1 ⟨rfl, hb1⟩; rw [HBE.out]; have HP1 := Lib.hid ((HP0.out.alloc (.cells #[] 3)).below hb1); have HO1 := Lib.hid ((HO0.out.below ((Below.refl _ _).alloc (Nat.le_refl _) (.cells #[] 3))).below hb1); have hbase1 := HP1.out.desk.base; have hlt1 := HP1.out.lts; obtain ⟨d0, d1, d2, d3⟩ := HP1.out.box.cells; obtain ⟨p0, p1, p2⟩ := HO1.out.box.cells; simp only at d0 d1 d2 d3 p0 p1 p2; clear HP0 HO0 HW3 hb1))
        | (go_at_call 148; go_loud (refine (inWay_any Al nl cl D.locks tx it kd w1 (ROps.of_own (HP1.out.desk.locksN (n := nl) H3.out) (by omega))).mono ?_; rw [HXS.out]; rintro e w2 ⟨LA, lc, rfl, hlc, hFL, hb2⟩; rw [HM.out] at hlc hFL ⊢; have HFL := Lib.hid hFL; have HP2 := Lib.hid (HP1.out.below hb2); have HO2 := Lib.hid (HO1.out.below hb2); have hbase2 := HP2.out.desk.base; have hlt2 := HP2.out.lts; have hg2 := grant_any B _ _ ⟨tx, kd, it⟩ w2 HP2.out.desk (show D.locks.length ≤ 9000 by omega) (show D.done.length ≤ 9000 by omega); simp only [DV.val, OpV.val] at hg2; have HG2 := Lib.hid hg2; have HB2 := Lib.hid hb2; clear hFL hg2 hb2 d0 d1 d2 d3 p0 p1 p2; obtain ⟨d0, d1, d2, d3⟩ := HP2.out.box.cells; obtain ⟨p0, p1, p2⟩ := HO2.out.box.cells; simp only at d0 d1 d2 d3 p0 p1 p2)))
      have e : XS.isEmpty = false := by
        cases XS with
        | nil => exact absurd HM.out.symm hm0
        | cons _ _ => rfl
      obtain ⟨bL, oL, X, hLA, hbL, hX, z0⟩ := HFL.out.1.at_ (k := 0) (by omega)
      subst hLA
      have hhd : XS.headD 0 = X := by
        cases XS with
        | nil => cases hX
        | cons a r => simp at hX; exact hX
      have HHD := Lib.hid hhd
      rw [Nat.add_zero] at z0
      have L0 := Later.cell p0
      have Z0 := Later.cell z0
      clear d0 d1 d2 d3 p0 p1 p2 z0 hX hhd
      refine region_later (by kernel_rfl) (by kernel_rfl) ?_
      repeat (go_big_quiet_step (fail))
      refine wpQuiet_nil ?_
      rintro _ ⟨u, rfl⟩
      have HP5 := Lib.hid (HP2.out.below u.2)
      have HO5 := Lib.hid (HO2.out.below u.2)
      obtain ⟨w5, hw5⟩ : ∃ w5 : World, u.1 = w5 := ⟨_, rfl⟩
      rw [hw5] at HP5 HO5 ⊢
      clear hw5 L0 Z0
      have hbase5 := HP5.out.desk.base
      obtain ⟨d0, d1, d2, d3⟩ := HP5.out.box.cells
      obtain ⟨p0, p1, p2⟩ := HO5.out.box.cells
      simp only at d0 d1 d2 d3 p0 p1 p2
      go_wp2_with (at_builtin; go_loud (refine app_ops (.tmp 74) (.tmp 76) ((HP5.out.desk.waitN (n := nw) H2.out).alloc _) (Nat.le_trans HP5.out.desk.base (by simp)) (ROps.lit1 _ ⟨_, _, _⟩ _) (by omega) rfl rfl rfl rfl ?_; intro v8 w8 hown8 hg8 hat8; obtain ⟨A8, c8, rfl, hc8⟩ := own_form2 hown8; obtain ⟨hB8, hR8, hP8⟩ := (HP5.out.alloc (.cells #[.int .i64 tx, .int .i64 kd, .int .i64 it] 92)).waitGrown hg8 hown8 hat8; obtain ⟨q0, q1, q2, q3⟩ := hB8.cells; obtain ⟨y0, y1, y2, y3⟩ := hR8.cells; unfold DV.nil at y0 y1 y2 y3; simp only at q0 q1 q2 q3 y0 y1 y2 y3; have f1 := hB8.soft 1; have s0 := hR8.soft 0; have s1 := hR8.soft 1; have s2 := hR8.soft 2; have s3 := hR8.soft 3; have hF := hP8.outSame; simp only [putDesk] at hF; have HF := Lib.hid hF; clear hF hB8 hR8 hP8 hg8 hown8 hat8))
      obtain ⟨d0, d1, d2, d3⟩ := HF.out.2.2.cells
      simp only at d0 d1 d2 d3
      refine bodyPost_ret (v := .agg #[.slice Ad nd cd, .slice A8 (nw + 1) c8, .slice Al nl cl, .slice Ak nk ck]) (by simp [results, Try.results135, go_sem, d0, d1, d2, d3]) rfl ?_
      refine ⟨⟨.slice Ad nd cd, .slice A8 (nw + 1) c8, .slice Al nl cl, .slice Ak nk ck⟩, rfl, ?_, HF.out.2.1⟩
      have e2 : askD .wait D ⟨tx, kd, it⟩ = ⟨D.done, D.wait ++ [⟨tx, kd, it⟩], D.locks, D.dead⟩ := by
        unfold askD waitD
        simp only
        rw [HWAY.out, if_neg (by rw [e]; simp)]
      rw [e2]
      exact HF.out.1
  · have hway : wayO D.locks ⟨tx, kd, it⟩ = [] := by unfold wayO; rw [if_pos HBE.out]
    have HWAY := Lib.hid hway
    have HM : Hid (([] : List Int).length = 0) := rfl
    clear hway
    go_enter Try.func135, Try.ntmps135
    go_wp2_with (first
      | (go_at_call 104; go_loud (rw [← HW3.out]; refine (sends_any ⟨tx, kd, it⟩ _).mono ?_; rintro e w1 ⟨rfl, hb1⟩; rw [HBE.out]; have HP1 := Lib.hid ((HP0.out.alloc (.cells #[] 3)).below hb1); have HO1 := Lib.hid ((HO0.out.below ((Below.refl _ _).alloc (Nat.le_refl _) (.cells #[] 3))).below hb1); have hbase1 := HP1.out.desk.base; have hlt1 := HP1.out.lts; obtain ⟨d0, d1, d2, d3⟩ := HP1.out.box.cells; obtain ⟨p0, p1, p2⟩ := HO1.out.box.cells; simp only at d0 d1 d2 d3 p0 p1 p2; clear HP0 HO0 HW3 hb1; have hg2 := grant_any B _ _ ⟨tx, kd, it⟩ w1 HP1.out.desk (show D.locks.length ≤ 9000 by omega) (show D.done.length ≤ 9000 by omega); simp only [DV.val, OpV.val] at hg2; have HG2 := Lib.hid hg2; clear hg2))
      | (go_at_call 153; go_loud (refine HG2.out.mono ?_; rintro e w5 ⟨V5, rfl, hD5, hS5⟩; obtain ⟨Ad5, Aw5, Al5, Ak5, nd5, nw5, nl5, nk5, cd5, cw5, cl5, ck5, rfl, _⟩ := hD5.forms; obtain ⟨_, hR5, _⟩ := HP1.out.mid hS5; obtain ⟨y0, y1, y2, y3⟩ := hR5.cells; unfold DV.nil at y0 y1 y2 y3; simp only at y0 y1 y2 y3; have s0 := hR5.soft 0; have s1 := hR5.soft 1; have s2 := hR5.soft 2; have s3 := hR5.soft 3; have hF := HP1.out.out hD5 hS5; simp only [putDesk] at hF; have HF := Lib.hid hF; clear hF hS5 hD5 hR5; unfold DV.val; simp only)))
    obtain ⟨d0, d1, d2, d3⟩ := HF.out.2.2.cells
    simp only at d0 d1 d2 d3
    refine bodyPost_ret (v := .agg #[.slice Ad5 nd5 cd5, .slice Aw5 nw5 cw5, .slice Al5 nl5 cl5, .slice Ak5 nk5 ck5]) (by simp [results, Try.results135, go_sem, d0, d1, d2, d3]) rfl ?_
    refine ⟨⟨.slice Ad5 nd5 cd5, .slice Aw5 nw5 cw5, .slice Al5 nl5 cl5, .slice Ak5 nk5 ck5⟩, rfl, ?_, HF.out.2.1⟩
    have e : askD .wait D ⟨tx, kd, it⟩ = grantD D ⟨tx, kd, it⟩ := by
      unfold askD
      simp only
      rw [HWAY.out, if_pos (by first | rfl | (rw [List.eq_nil_of_length_eq_zero HM.out]; rfl))]
    rw [e]
    exact HF.out.1

set_option maxRecDepth 100000 in
set_option maxHeartbeats 1000000 in
theorem ask_die (B : Nat) (V : DV) (D : Dsk) (o : OpV) (w : World) (hd : DeskAt w B V D) (hL : D.locks.length ≤ 9000) (hN : D.done.length ≤ 9000) (hWt : D.wait.length ≤ 9000) (hDd : D.dead.length ≤ 9000) :
    Calls Try.prog 135 #[.string Rul.die.str, V.val, o.val] w (DRet w B V (askD .die D o)) := by
  obtain ⟨W, hW⟩ : ∃ W : World, W = ((w.alloc (.cells V.list.toArray 68)).alloc (.cells o.cells.toArray 92)).alloc (.cells DV.nil.list.toArray 68) := ⟨_, rfl⟩
  obtain ⟨hP0, hO0, hszW⟩ := ask_start hd hW
  obtain ⟨tx, kd, it⟩ := o
  obtain ⟨Ad, Aw, Al, Ak, nd, nw, nl, nk, cd, cw, cl, ck, rfl, hcs, h1, h2, h3, h4⟩ := hd.forms
  have H1 := Lib.hid h1
  have H2 := Lib.hid h2
  have H3 := Lib.hid h3
  have H4 := Lib.hid h4
  have HP0 := Lib.hid hP0
  have HO0 := Lib.hid hO0
  have HSZ := Lib.hid hszW
  have hbd : nd ≤ 9000 ∧ nl ≤ 9000 ∧ nw ≤ 9000 := by omega
  unfold OpV.cells DV.list DV.nil at hW
  simp only at hW
  change W = ((w.alloc (.cells #[.slice Ad nd cd, .slice Aw nw cw, .slice Al nl cl, .slice Ak nk ck] _)).alloc (.cells #[.int .i64 tx, .int .i64 kd, .int .i64 it] _)).alloc (.cells #[.slice none 0 0, .slice none 0 0, .slice none 0 0, .slice none 0 0] _) at hW
  have HW3 := Lib.hid hW
  clear hP0 hO0 hszW hd h1 h2 h3 h4 hW
  unfold DV.val OpV.val Rul.str
  simp only
  obtain ⟨be, hbe⟩ : ∃ b, isEnd ⟨tx, kd, it⟩ = b := ⟨_, rfl⟩
  have HBE := Lib.hid hbe
  clear hbe
  cases be
  · have hway : wayO D.locks ⟨tx, kd, it⟩ = inWayI D.locks tx it kd := by unfold wayO; rw [if_neg (by rw [HBE.out]; simp)]
    obtain ⟨XS, hXS⟩ : ∃ XS, inWayI D.locks tx it kd = XS := ⟨_, rfl⟩
    rw [hXS] at hway
    obtain ⟨m, hm⟩ : ∃ m, XS.length = m := ⟨_, rfl⟩
    have HXS := Lib.hid hXS
    have HM := Lib.hid hm
    have HWAY := Lib.hid hway
    clear hXS hm hway
    by_cases hm0 : m = 0
    · subst hm0
      go_enter Try.func135, Try.ntmps135
      go_wp2_with (first
        | (go_at_call 104; go_loud (rw [← HW3.out]; refine (sends_any ⟨tx, kd, it⟩ _).mono ?_; rintro e w1 ⟨rfl, hb1⟩; rw [HBE.out]; have HP1 := Lib.hid ((HP0.out.alloc (.cells #[] 3)).below hb1); have HO1 := Lib.hid ((HO0.out.below ((Below.refl _ _).alloc (Nat.le_refl _) (.cells #[] 3))).below hb1); have hbase1 := HP1.out.desk.base; have hlt1 := HP1.out.lts; obtain ⟨d0, d1, d2, d3⟩ := HP1.out.box.cells; obtain ⟨p0, p1, p2⟩ := HO1.out.box.cells; simp only at d0 d1 d2 d3 p0 p1 p2; clear HP0 HO0 HW3 hb1))
        | (go_at_call 148; go_loud (refine (inWay_any Al nl cl D.locks tx it kd w1 (ROps.of_own (HP1.out.desk.locksN (n := nl) H3.out) (by omega))).mono ?_; rw [HXS.out]; rintro e w2 ⟨LA, lc, rfl, hlc, hFL, hb2⟩; rw [HM.out] at hlc hFL ⊢; have HFL := Lib.hid hFL; have HP2 := Lib.hid (HP1.out.below hb2); have HO2 := Lib.hid (HO1.out.below hb2); have hbase2 := HP2.out.desk.base; have hlt2 := HP2.out.lts; have hg2 := grant_any B _ _ ⟨tx, kd, it⟩ w2 HP2.out.desk (show D.locks.length ≤ 9000 by omega) (show D.done.length ≤ 9000 by omega); simp only [DV.val, OpV.val] at hg2; have HG2 := Lib.hid hg2; have HB2 := Lib.hid hb2; clear hFL hg2 hb2 d0 d1 d2 d3 p0 p1 p2; obtain ⟨d0, d1, d2, d3⟩ := HP2.out.box.cells; obtain ⟨p0, p1, p2⟩ := HO2.out.box.cells; simp only at d0 d1 d2 d3 p0 p1 p2))
        | (go_at_call 153; go_loud (refine HG2.out.mono ?_; rintro e w5 ⟨V5, rfl, hD5, hS5⟩; obtain ⟨Ad5, Aw5, Al5, Ak5, nd5, nw5, nl5, nk5, cd5, cw5, cl5, ck5, rfl, _⟩ := hD5.forms; obtain ⟨_, hR5, _⟩ := HP2.out.mid hS5; obtain ⟨y0, y1, y2, y3⟩ := hR5.cells; unfold DV.nil at y0 y1 y2 y3; simp only at y0 y1 y2 y3; have s0 := hR5.soft 0; have s1 := hR5.soft 1; have s2 := hR5.soft 2; have s3 := hR5.soft 3; have hF := HP2.out.out hD5 hS5; simp only [putDesk] at hF; have HF := Lib.hid hF; clear hF hS5 hD5 hR5; unfold DV.val; simp only)))
      obtain ⟨d0, d1, d2, d3⟩ := HF.out.2.2.cells
      simp only at d0 d1 d2 d3
      refine bodyPost_ret (v := .agg #[.slice Ad5 nd5 cd5, .slice Aw5 nw5 cw5, .slice Al5 nl5 cl5, .slice Ak5 nk5 ck5]) (by simp [results, Try.results135, go_sem, d0, d1, d2, d3]) rfl ?_
      refine ⟨⟨.slice Ad5 nd5 cd5, .slice Aw5 nw5 cw5, .slice Al5 nl5 cl5, .slice Ak5 nk5 ck5⟩, rfl, ?_, HF.out.2.1⟩
      have e : askD .die D ⟨tx, kd, it⟩ = grantD D ⟨tx, kd, it⟩ := by
        unfold askD
        simp only
        rw [HWAY.out, if_pos (by first | rfl | (rw [List.eq_nil_of_length_eq_zero HM.out]; rfl))]
      rw [e]
      exact HF.out.1
    · go_enter Try.func135, Try.ntmps135
      go_wp2_with (first
        | (go_at_call 104; go_loud (rw [← HW3.out]; refine (sends_any ⟨tx, kd, it⟩ _).mono ?_; rintro e w1 ⟨rfl, hb1⟩; rw [HBE.out]; have HP1 := Lib.hid ((HP0.out.alloc (.cells #[] 3)).below hb1); have HO1 := Lib.hid ((HO0.out.below ((Below.refl _ _).alloc (Nat.le_refl _) (.cells #[] 3))).below hb1); have hbase1 := HP1.out.desk.base; have hlt1 := HP1.out.lts; obtain ⟨d0, d1, d2, d3⟩ := HP1.out.box.cells; obtain ⟨p0, p1, p2⟩ := HO1.out.box.cells; simp only at d0 d1 d2 d3 p0 p1 p2; clear HP0 HO0 HW3 hb1))
        | (go_at_call 148; go_loud (refine (inWay_any Al nl cl D.locks tx it kd w1 (ROps.of_own (HP1.out.desk.locksN (n := nl) H3.out) (by omega))).mono ?_; rw [HXS.out]; rintro e w2 ⟨LA, lc, rfl, hlc, hFL, hb2⟩; rw [HM.out] at hlc hFL ⊢; have HFL := Lib.hid hFL; have HP2 := Lib.hid (HP1.out.below hb2); have HO2 := Lib.hid (HO1.out.below hb2); have hbase2 := HP2.out.desk.base; have hlt2 := HP2.out.lts; have hg2 := grant_any B _ _ ⟨tx, kd, it⟩ w2 HP2.out.desk (show D.locks.length ≤ 9000 by omega) (show D.done.length ≤ 9000 by omega); simp only [DV.val, OpV.val] at hg2; have HG2 := Lib.hid hg2; have HB2 := Lib.hid hb2; clear hFL hg2 hb2 d0 d1 d2 d3 p0 p1 p2; obtain ⟨d0, d1, d2, d3⟩ := HP2.out.box.cells; obtain ⟨p0, p1, p2⟩ := HO2.out.box.cells; simp only at d0 d1 d2 d3 p0 p1 p2)))
      have e : XS.isEmpty = false := by
        cases XS with
        | nil => exact absurd HM.out.symm hm0
        | cons _ _ => rfl
      obtain ⟨bL, oL, X, hLA, hbL, hX, z0⟩ := HFL.out.1.at_ (k := 0) (by omega)
      subst hLA
      have hhd : XS.headD 0 = X := by
        cases XS with
        | nil => cases hX
        | cons a r => simp at hX; exact hX
      have HHD := Lib.hid hhd
      rw [Nat.add_zero] at z0
      have L0 := Later.cell p0
      have Z0 := Later.cell z0
      clear d0 d1 d2 d3 p0 p1 p2 z0 hX hhd
      by_cases hx : X < tx
      · have hxb : decide (X < tx) = true := by simp [hx]
        refine region_later (by kernel_rfl) (by kernel_rfl) ?_
        repeat (go_big_quiet_step (fail))
        refine wpQuiet_nil ?_
        rintro _ ⟨u, rfl⟩
        have HP5 := Lib.hid (HP2.out.below u.2)
        have HO5 := Lib.hid (HO2.out.below u.2)
        obtain ⟨w5, hw5⟩ : ∃ w5 : World, u.1 = w5 := ⟨_, rfl⟩
        rw [hw5] at HP5 HO5 ⊢
        clear hw5 L0 Z0
        have hbase5 := HP5.out.desk.base
        obtain ⟨d0, d1, d2, d3⟩ := HP5.out.box.cells
        obtain ⟨p0, p1, p2⟩ := HO5.out.box.cells
        simp only at d0 d1 d2 d3 p0 p1 p2
        have hk2 := kill_any B _ _ tx w5 HP5.out.desk (show D.locks.length ≤ 9000 by omega) (show D.done.length ≤ 9000 ∧ D.wait.length ≤ 9000 ∧ D.dead.length ≤ 9000 by omega)
        simp only [DV.val] at hk2
        have HK2 := Lib.hid hk2
        clear hk2
        go_wp2_with (go_at_call 154; go_loud (refine HK2.out.mono ?_; rintro e w5 ⟨V5, rfl, hD5, hS5⟩; obtain ⟨Ad5, Aw5, Al5, Ak5, nd5, nw5, nl5, nk5, cd5, cw5, cl5, ck5, rfl, _⟩ := hD5.forms; obtain ⟨_, hR5, _⟩ := HP5.out.mid hS5; obtain ⟨y0, y1, y2, y3⟩ := hR5.cells; unfold DV.nil at y0 y1 y2 y3; simp only at y0 y1 y2 y3; have s0 := hR5.soft 0; have s1 := hR5.soft 1; have s2 := hR5.soft 2; have s3 := hR5.soft 3; have hF := HP5.out.out hD5 hS5; simp only [putDesk] at hF; have HF := Lib.hid hF; clear hF hS5 hD5 hR5; unfold DV.val; simp only))
        obtain ⟨d0, d1, d2, d3⟩ := HF.out.2.2.cells
        simp only at d0 d1 d2 d3
        refine bodyPost_ret (v := .agg #[.slice Ad5 nd5 cd5, .slice Aw5 nw5 cw5, .slice Al5 nl5 cl5, .slice Ak5 nk5 ck5]) (by simp [results, Try.results135, go_sem, d0, d1, d2, d3]) rfl ?_
        refine ⟨⟨.slice Ad5 nd5 cd5, .slice Aw5 nw5 cw5, .slice Al5 nl5 cl5, .slice Ak5 nk5 ck5⟩, rfl, ?_, HF.out.2.1⟩
        have e2 : askD .die D ⟨tx, kd, it⟩ = killD D tx := by
          unfold askD
          simp only
          rw [HWAY.out, if_neg (by rw [e]; simp), HHD.out, if_pos hx]
        rw [e2]
        exact HF.out.1
      · have hxb : decide (X < tx) = false := by simp; omega
        refine region_later (by kernel_rfl) (by kernel_rfl) ?_
        repeat (go_big_quiet_step (fail))
        refine wpQuiet_nil ?_
        rintro _ ⟨u, rfl⟩
        have HP5 := Lib.hid (HP2.out.below u.2)
        have HO5 := Lib.hid (HO2.out.below u.2)
        obtain ⟨w5, hw5⟩ : ∃ w5 : World, u.1 = w5 := ⟨_, rfl⟩
        rw [hw5] at HP5 HO5 ⊢
        clear hw5 L0 Z0
        have hbase5 := HP5.out.desk.base
        obtain ⟨d0, d1, d2, d3⟩ := HP5.out.box.cells
        obtain ⟨p0, p1, p2⟩ := HO5.out.box.cells
        simp only at d0 d1 d2 d3 p0 p1 p2
        go_wp2_with (at_builtin; go_loud (refine app_ops (.tmp 74) (.tmp 76) ((HP5.out.desk.waitN (n := nw) H2.out).alloc _) (Nat.le_trans HP5.out.desk.base (by simp)) (ROps.lit1 _ ⟨_, _, _⟩ _) (by omega) rfl rfl rfl rfl ?_; intro v8 w8 hown8 hg8 hat8; obtain ⟨A8, c8, rfl, hc8⟩ := own_form2 hown8; obtain ⟨hB8, hR8, hP8⟩ := (HP5.out.alloc (.cells #[.int .i64 tx, .int .i64 kd, .int .i64 it] 92)).waitGrown hg8 hown8 hat8; obtain ⟨q0, q1, q2, q3⟩ := hB8.cells; obtain ⟨y0, y1, y2, y3⟩ := hR8.cells; unfold DV.nil at y0 y1 y2 y3; simp only at q0 q1 q2 q3 y0 y1 y2 y3; have f1 := hB8.soft 1; have s0 := hR8.soft 0; have s1 := hR8.soft 1; have s2 := hR8.soft 2; have s3 := hR8.soft 3; have hF := hP8.outSame; simp only [putDesk] at hF; have HF := Lib.hid hF; clear hF hB8 hR8 hP8 hg8 hown8 hat8))
        obtain ⟨d0, d1, d2, d3⟩ := HF.out.2.2.cells
        simp only at d0 d1 d2 d3
        refine bodyPost_ret (v := .agg #[.slice Ad nd cd, .slice A8 (nw + 1) c8, .slice Al nl cl, .slice Ak nk ck]) (by simp [results, Try.results135, go_sem, d0, d1, d2, d3]) rfl ?_
        refine ⟨⟨.slice Ad nd cd, .slice A8 (nw + 1) c8, .slice Al nl cl, .slice Ak nk ck⟩, rfl, ?_, HF.out.2.1⟩
        have e2 : askD .die D ⟨tx, kd, it⟩ = ⟨D.done, D.wait ++ [⟨tx, kd, it⟩], D.locks, D.dead⟩ := by
          unfold askD waitD
          simp only
          rw [HWAY.out, if_neg (by rw [e]; simp), HHD.out, if_neg (by omega)]
        rw [e2]
        exact HF.out.1
  · have hway : wayO D.locks ⟨tx, kd, it⟩ = [] := by unfold wayO; rw [if_pos HBE.out]
    have HWAY := Lib.hid hway
    have HM : Hid (([] : List Int).length = 0) := rfl
    clear hway
    go_enter Try.func135, Try.ntmps135
    go_wp2_with (first
      | (go_at_call 104; go_loud (rw [← HW3.out]; refine (sends_any ⟨tx, kd, it⟩ _).mono ?_; rintro e w1 ⟨rfl, hb1⟩; rw [HBE.out]; have HP1 := Lib.hid ((HP0.out.alloc (.cells #[] 3)).below hb1); have HO1 := Lib.hid ((HO0.out.below ((Below.refl _ _).alloc (Nat.le_refl _) (.cells #[] 3))).below hb1); have hbase1 := HP1.out.desk.base; have hlt1 := HP1.out.lts; obtain ⟨d0, d1, d2, d3⟩ := HP1.out.box.cells; obtain ⟨p0, p1, p2⟩ := HO1.out.box.cells; simp only at d0 d1 d2 d3 p0 p1 p2; clear HP0 HO0 HW3 hb1; have hg2 := grant_any B _ _ ⟨tx, kd, it⟩ w1 HP1.out.desk (show D.locks.length ≤ 9000 by omega) (show D.done.length ≤ 9000 by omega); simp only [DV.val, OpV.val] at hg2; have HG2 := Lib.hid hg2; clear hg2))
      | (go_at_call 153; go_loud (refine HG2.out.mono ?_; rintro e w5 ⟨V5, rfl, hD5, hS5⟩; obtain ⟨Ad5, Aw5, Al5, Ak5, nd5, nw5, nl5, nk5, cd5, cw5, cl5, ck5, rfl, _⟩ := hD5.forms; obtain ⟨_, hR5, _⟩ := HP1.out.mid hS5; obtain ⟨y0, y1, y2, y3⟩ := hR5.cells; unfold DV.nil at y0 y1 y2 y3; simp only at y0 y1 y2 y3; have s0 := hR5.soft 0; have s1 := hR5.soft 1; have s2 := hR5.soft 2; have s3 := hR5.soft 3; have hF := HP1.out.out hD5 hS5; simp only [putDesk] at hF; have HF := Lib.hid hF; clear hF hS5 hD5 hR5; unfold DV.val; simp only)))
    obtain ⟨d0, d1, d2, d3⟩ := HF.out.2.2.cells
    simp only at d0 d1 d2 d3
    refine bodyPost_ret (v := .agg #[.slice Ad5 nd5 cd5, .slice Aw5 nw5 cw5, .slice Al5 nl5 cl5, .slice Ak5 nk5 ck5]) (by simp [results, Try.results135, go_sem, d0, d1, d2, d3]) rfl ?_
    refine ⟨⟨.slice Ad5 nd5 cd5, .slice Aw5 nw5 cw5, .slice Al5 nl5 cl5, .slice Ak5 nk5 ck5⟩, rfl, ?_, HF.out.2.1⟩
    have e : askD .die D ⟨tx, kd, it⟩ = grantD D ⟨tx, kd, it⟩ := by
      unfold askD
      simp only
      rw [HWAY.out, if_pos (by first | rfl | (rw [List.eq_nil_of_length_eq_zero HM.out]; rfl))]
    rw [e]
    exact HF.out.1

end Go.Proofs.Ytcakjhappchlmaa
namespace Go.Proofs.Ytcakjhappchlmaa
open Go.RowKit Go.BigFrame
set_option linter.unusedVariables false

theorem frst_hit {W : List OpV} {i k : Nat} {o p : OpV} (hi : W[i]? = some o) (hk : W[k]? = some p) (hki : k < i) (h : p.tx = o.tx) : frstB W i = false := by
  unfold frstB
  rw [hi]
  simp only
  rw [List.all_eq_false]
  exact ⟨p, List.mem_iff_getElem?.2 ⟨k, by rw [List.getElem?_take_of_lt hki]; exact hk⟩, by simp [h]⟩
theorem frst_all {W : List OpV} {i : Nat} {o : OpV} (hi : W[i]? = some o) (h : ∀ k p, k < i → W[k]? = some p → p.tx ≠ o.tx) : frstB W i = true := by
  unfold frstB
  rw [hi]
  simp only
  rw [List.all_eq_true]
  intro p hp
  obtain ⟨k, hk⟩ := List.mem_iff_getElem?.1 hp
  have hl := (List.getElem?_eq_some_iff.1 hk).1
  rw [List.length_take] at hl
  rw [List.getElem?_take_of_lt (by omega)] at hk
  simpa using h k p (by omega) hk
set_option maxRecDepth 100000 in
set_option maxHeartbeats 1000000 in
theorem firstOf_any (A : Option Addr) (n c : Nat) (W : List OpV) (i : Nat) (w : World) (hx : ROps w A n W) (hi : i < n) :
    Calls Try.prog 152 #[.slice A n c, .int .i64 (i : Int)] w fun e w' => e = .returned (.bool (frstB W i)) ∧ Below w.heap.size w w' := by
  have hn := hx.2.1
  have HX := Lib.hid hx
  obtain ⟨b, off, oi, hA, _, hoi, _⟩ := hx.at_ hi
  subst hA
  have HOI := Lib.hid hoi
  clear hx hoi
  go_enter Try.func152, Try.ntmps152
  go_wp2_with fail
  go_loopw [5] (fun k wr => ∃ q : Nat, q ≤ i ∧ k = .int .i64 q ∧ Below w.heap.size w wr ∧ ∀ k p, k < q → W[k]? = some p → p.tx ≠ oi.tx) (fun k _ => i - (intOf k).toNat)
  case atStart => exact ⟨0, Nat.zero_le _, rfl, Below.refl _ _, by omega⟩
  case round =>
    obtain ⟨q, hq, rfl, hb, hno⟩ := hrel
    have HNO := Lib.hid hno
    clear hno
    by_cases hlt : q < i
    · have hxr := HX.out.below hb (Nat.le_refl _)
      obtain ⟨b1, off1, p, hA1, hbl, hp, c0, _, _⟩ := hxr.at_ (k := q) (by omega)
      obtain ⟨b2, off2, o2, hA2, _, ho2, d0, _, _⟩ := hxr.at_ hi
      injection hA1 with hA1; injection hA1 with e1 e2 _; subst e1; subst e2
      injection hA2 with hA2; injection hA2 with e1 e2 _; subst e1; subst e2
      rw [HOI.out] at ho2
      injection ho2 with ho2
      subst ho2
      have L0 := Later.cell c0
      have M0 := Later.cell d0
      have HP := Lib.hid hp
      have hqi : (q : Int) < (i : Int) := by omega
      have hq0 : (0 : Int) ≤ (q : Int) := by omega
      have hqn : (q : Int) < (n : Int) := by omega
      have hin : (i : Int) < (n : Int) := by omega
      have hi0 : (0 : Int) ≤ (i : Int) := by omega
      clear hxr hp c0 d0
      obtain ⟨b1, hb1⟩ : ∃ z, (p.tx == oi.tx) = z := ⟨_, rfl⟩
      obtain ⟨ptx, hptx⟩ : ∃ z, p.tx = z := ⟨_, rfl⟩
      obtain ⟨otx, hotx⟩ : ∃ z, oi.tx = z := ⟨_, rfl⟩
      rw [hptx] at L0 hb1
      rw [hotx] at M0 hb1
      have HE := Lib.hid (And.intro hptx hotx)
      clear hptx hotx
      go_wp2_with fail
      refine region_later (by kernel_rfl) (by kernel_rfl) ?_
      repeat (go_big_quiet_step (fail))
      refine wpQuiet_nil ?_
      rintro _ ⟨u, rfl⟩
      have hbu := hb.trans (u.2.mono hb.size)
      cases b1
      · go_wp2_with fail
        go_roundw
        case rel =>
          refine ⟨q + 1, by omega, by go_num, hbu, fun k p' hk hp' => ?_⟩
          by_cases e : k = q
          · subst e
            rw [HP.out] at hp'
            injection hp' with hp'
            subst hp'
            rw [HE.out.1, HE.out.2]
            simpa using hb1
          · exact HNO.out k p' (by omega) hp'
        case measure => simp [intOf]; omega
      · have HF : Hid (frstB W i = false) := frst_hit HOI.out HP.out hlt (by rw [HE.out.1, HE.out.2]; simpa using hb1)
        go_wp2_with fail
        go_ret
        exact ⟨ret_bool HF.out.symm, hbu⟩
    · obtain rfl : q = i := by omega
      have HF : Hid (frstB W q = true) := frst_all HOI.out HNO.out
      go_wp2_with fail
      go_ret
      exact ⟨ret_bool HF.out.symm, hb⟩
end Go.Proofs.Ytcakjhappchlmaa
namespace Go.Proofs.Ytcakjhappchlmaa
open Go.RowKit Go.BigFrame
set_option linter.unusedVariables false

def wRowL (D : Dsk) (t : Int) : List Int := match (opsOf D.wait t).head? with | some o => if isEnd o then [] else inWayI D.locks t o.item o.kind | none => []
theorem wRowL_rng {D : Dsk} {t : Int} : ∀ u ∈ wRowL D t, 0 ≤ u ∧ u ≤ 3 := by
  intro u hu
  unfold wRowL at hu
  split at hu
  · split at hu
    · cases hu
    · exact inWay_rng u hu
  · cases hu
def wIn (T : Nat) (rows : List Nat) (us : List Int) : List Nat := us.foldl (fun R u => rowSet R (T : Int) u) rows
def wTo (D : Dsk) : Nat → List Nat
  | 0 => [0, 0, 0, 0]
  | k + 1 => wIn k (wTo D k) (wRowL D (k : Int))
theorem wIn_ok {T : Nat} {us : List Int} (h : ∀ u ∈ us, 0 ≤ u ∧ u ≤ 3) : ∀ {rows : List Nat}, Rows4 rows → Rows4 (wIn T rows us) := by
  induction us with
  | nil => exact fun h4 => h4
  | cons u r ih => exact fun h4 => ih (fun v hv => h v (List.mem_cons_of_mem _ hv)) (rowSet_ok h4 (h u (by simp)))
theorem wIn_bit {T : Nat} (hT : T ≤ 3) {us : List Int} (h : ∀ u ∈ us, 0 ≤ u ∧ u ≤ 3) : ∀ {rows : List Nat}, Rows4 rows → ∀ t u : Nat, ((wIn T rows us).getD t 0).testBit u = true ↔ (rows.getD t 0).testBit u = true ∨ (t = T ∧ (u : Int) ∈ us) := by
  induction us with
  | nil => intro rows h4 t u; simp [wIn]
  | cons v r ih =>
    intro rows h4 t u
    have hv := h v (by simp)
    obtain ⟨U, rfl⟩ := Int.eq_ofNat_of_zero_le hv.1
    show ((wIn T (rowSet rows (T : Int) (U : Int)) r).getD t 0).testBit u = true ↔ _
    rw [ih (fun x hx => h x (List.mem_cons_of_mem _ hx)) (rowSet_ok h4 hv), rowSet_bit h4 hT, Bool.or_eq_true, Bool.and_eq_true, decide_eq_true_eq, decide_eq_true_eq, List.mem_cons]
    constructor
    · rintro ((h1 | h1) | h1)
      · exact .inl h1
      · exact .inr ⟨h1.1, .inl (by omega)⟩
      · exact .inr ⟨h1.1, .inr h1.2⟩
    · rintro (h1 | ⟨h1, h2 | h2⟩)
      · exact .inl (.inl h1)
      · exact .inl (.inr ⟨h1, by omega⟩)
      · exact .inr ⟨h1, h2⟩
theorem wTo_ok (D : Dsk) (k : Nat) : Rows4 (wTo D k) := by
  induction k with
  | zero => exact zero4
  | succ k ih => exact wIn_ok wRowL_rng ih
theorem wTo_bit (D : Dsk) (k : Nat) (hk : k ≤ 4) (t u : Nat) : ((wTo D k).getD t 0).testBit u = true ↔ t < k ∧ (u : Int) ∈ wRowL D (t : Int) := by
  induction k with
  | zero =>
    have : ((wTo D 0).getD t 0) = 0 := by
      show ([0, 0, 0, 0] : List Nat).getD t 0 = 0
      match t with
      | 0 | 1 | 2 | 3 => rfl
      | t + 4 => rfl
    rw [this]
    simp
  | succ k ih =>
    show ((wIn k (wTo D k) (wRowL D (k : Int))).getD t 0).testBit u = true ↔ _
    rw [wIn_bit (by omega) wRowL_rng (wTo_ok D k), ih (by omega)]
    constructor
    · rintro (⟨h1, h2⟩ | ⟨h1, h2⟩)
      · exact ⟨by omega, h2⟩
      · subst h1; exact ⟨by omega, h2⟩
    · rintro ⟨h1, h2⟩
      by_cases e : t = k
      · subst e; exact .inr ⟨rfl, h2⟩
      · exact .inl ⟨by omega, h2⟩
theorem waitRow_mem {D : Dsk} {t : Int} {u : Nat} : (waitRow D t).testBit u = true ↔ (u : Int) ∈ wRowL D t := by
  rw [waitRow_bit]
  unfold wRowL
  split
  · rename_i o ho
    rw [ho]
    split
    · rename_i he; simp [he]
    · rename_i he; simp [he]
  · rename_i ho
    rw [ho]
    simp
theorem wTo_four (D : Dsk) : wTo D 4 = waitsR D := rows_ext (wTo_ok D 4) (waitsR_ok D) fun t u ht hu => by
  rw [Bool.eq_iff_iff, wTo_bit D 4 (Nat.le_refl _), waitsR_at D ht, waitRow_mem]
  exact ⟨fun h => h.2, fun h => ⟨ht, h⟩⟩

theorem wIn_snoc {T : Nat} {rows : List Nat} {us : List Int} {p : Nat} {u : Int} (h : us[p]? = some u) : wIn T rows (us.take (p + 1)) = rowSet (wIn T rows (us.take p)) (T : Int) u := by
  unfold wIn
  rw [List.take_add_one, h, Option.toList_some, List.foldl_append, List.foldl_cons, List.foldl_nil]
/-- What the walk keeps. -/
structure WtI (W0 : World) (B g : Nat) (V : DV) (D : Dsk) (rows : List Nat) (wr : World) : Prop where
  rows : SgInv W0 W0.heap.size rows wr
  desk : DeskAt wr B V D
  box : Boxed wr g V
section
variable {W0 wr W : World} {B g : Nat} {V : DV} {D : Dsk} {rows : List Nat}
theorem WtI.later (h : WtI W0 B g V D rows wr) (hb : Below wr.heap.size wr W) : WtI W0 B g V D rows W := ⟨h.rows.later hb, h.desk.below hb, h.box.below hb⟩
theorem WtI.drew (h : WtI W0 B g V D rows wr) : WtI W0 B g V D rows wr.drew := ⟨h.rows.drew, h.desk.drew, h.box⟩
theorem WtI.set (h : WtI W0 B g V D rows wr) (hf : NotIn V W0.heap.size) (hg : g < W0.heap.size) {T : Nat} {u : Int} (hT : T ≤ 3) (h4 : Rows4 rows) {v : Int} (hv : v = ((rows.getD T 0 ||| (1 <<< u.toNat) : Nat) : Int)) :
    WtI W0 B g V D (rowSet rows T u) (wr.setCell ⟨W0.heap.size, T, none⟩ (.int .i64 v)) :=
  ⟨h.rows.set (Nat.le_refl _) hT h4 hv, h.desk.set hf T _, h.box.other (by omega) T _⟩
end
/-- A call hands back rows. -/
def RetRows (w : World) (R : List Nat) (e : Ending) (w' : World) : Prop := ∃ G gc, e = .returned (.slice G 4 gc) ∧ RInts w' G 4 (rowsI R) ∧ Below w.heap.size w w'

set_option maxRecDepth 100000 in
set_option maxHeartbeats 1000000 in
theorem waits_any (B : Nat) (V : DV) (D : Dsk) (w : World) (hd : DeskAt w B V D) (hL : D.locks.length ≤ 9000) (hWt : D.wait.length ≤ 9000) :
    Calls Try.prog 114 #[V.val] w (RetRows w (waitsR D)) := by
  obtain ⟨i0, hi, hz0, hz1, hz2⟩ := info_parts intInfo
  obtain ⟨W0, hW⟩ : ∃ W : World, W = w.alloc (.cells V.list.toArray 68) := ⟨_, rfl⟩
  have hD0 : DeskAt W0 B V D := by rw [hW]; exact hd.alloc _
  have hB0 : Boxed W0 w.heap.size V := by rw [hW]; exact Boxed.new w V
  have hbW : Below w.heap.size w W0 := by rw [hW]; exact (Below.refl _ _).alloc (Nat.le_refl _) _
  have hfar : NotIn V W0.heap.size := hD0.far (Nat.le_refl _)
  have hgl := RowIs.lt hB0
  obtain ⟨Ad, Aw, Al, Ak, nd, nw, nl, nk, cd, cw, cl, ck, rfl, hcs, h1, h2, h3, h4⟩ := hd.forms
  have hbd : nl ≤ 9000 ∧ nw ≤ 9000 := by omega
  have H2 := Lib.hid h2
  have H3 := Lib.hid h3
  have HD0 := Lib.hid hD0
  have HB0 := Lib.hid hB0
  have HBW := Lib.hid hbW
  have HFAR := Lib.hid hfar
  unfold DV.list at hW
  simp only at hW
  change W0 = w.alloc (.cells #[.slice Ad nd cd, .slice Aw nw cw, .slice Al nl cl, .slice Ak nk ck] _) at hW
  have HW := Lib.hid hW
  clear hD0 hB0 hbW hfar hd h1 h2 h3 h4 hW
  unfold DV.val
  simp only
  go_enter Try.func114, Try.ntmps114
  go_wp2_with (at_make; rw [← HW.out]; refine wpList_make_full _ rfl _ _ 34 rfl W0.heap.size 3 i0 _ 1 Try.underlying34 hi hz0 hz1 .i64 .i64 _ _ 4 rfl rfl rfl rfl (by rw [hz2]; omega) (by unfold maxLen; omega) (Nat.le_refl _) ?_; intro w1 hown1 hg1)
  have hb1 : Below W0.heap.size W0 w1 := ⟨hg1.os, hg1.tape, hg1.output, hg1.size, fun k hk => hg1.block k hk (by simp)⟩
  have hrow : RowIs w1 W0.heap.size 3 (intCells (rowsI [0, 0, 0, 0]) ++ []) := by
    rcases hown1.2 with ⟨h1, _⟩ | ⟨g, cap, cur, h1, h2, h3, h4, h5, h6, h7⟩
    · cases h1
    · injection h1 with ha hb hc
      injection ha with ha
      injection ha with ha
      subst ha; subst hc
      unfold RowIs
      rw [h3]
      congr 2
      apply Array.ext'
      rw [List.take_of_length_le (by simpa using Nat.le_of_eq h6)] at h7
      rw [h7, made_ints]
      rfl
  have HST : Hid (WtI W0 B w.heap.size ⟨.slice Ad nd cd, .slice Aw nw cw, .slice Al nl cl, .slice Ak nk ck⟩ D (wTo D 0) w1) := ⟨⟨hb1, hrow⟩, HD0.out.below hb1, HB0.out.below hb1⟩
  clear hown1 hb1 hg1 hrow hi hz0 hz1 hz2 HW HD0 HB0
  go_loopw [4] (fun i wr => ∃ k : Nat, k ≤ 4 ∧ i = .int .i64 k ∧ WtI W0 B w.heap.size ⟨.slice Ad nd cd, .slice Aw nw cw, .slice Al nl cl, .slice Ak nk ck⟩ D (wTo D k) wr) (fun i _ => 4 - (intOf i).toNat)
  case atStart => exact ⟨0, Nat.zero_le _, rfl, HST.out⟩
  case round =>
    clear HST
    obtain ⟨wo, rfl⟩ : ∃ wo : World, wo = wr := ⟨_, rfl⟩
    obtain ⟨k, hk, rfl, hI⟩ := hrel
    have HI := Lib.hid hI
    have hbs := hI.rows.below.size
    by_cases hlt : k < 4
    · have hok := wTo_ok D k
      have hsu : wTo D (k + 1) = wIn k (wTo D k) (wRowL D (k : Int)) := rfl
      obtain ⟨b0, b1, b2, b3⟩ := hI.box.cells
      simp only at b0 b1 b2 b3
      have hro : ROps wo Aw nw D.wait := ROps.of_own (hI.desk.waitN H2.out) (by omega)
      obtain ⟨RO, hRO⟩ : ∃ R, wTo D k = R := ⟨_, rfl⟩
      obtain ⟨MI, hMI⟩ : ∃ M, opsOf D.wait (k : Int) = M := ⟨_, rfl⟩
      have hOP := sopsOf_any Aw nw cw D.wait (k : Int) wo hro
      rw [hMI] at hOP
      obtain ⟨q, hq⟩ : ∃ q, MI.length = q := ⟨_, rfl⟩
      have HQ := Lib.hid hq
      have HRO := Lib.hid hRO
      have HMI := Lib.hid hMI
      have HOP := Lib.hid hOP
      have HOK := Lib.hid hok
      have HSU := Lib.hid hsu
      have hk4 : (k : Int) < 4 := by omega
      clear hI hro hOP hRO hMI hq hok hsu
      rw [HRO.out] at HI HOK
      cases hMC : MI with
      | nil =>
        have HWR : Hid (wRowL D (k : Int) = []) := by show _ = _; unfold wRowL; rw [HMI.out, hMC]; rfl
        have hq0 : q = 0 := by have := HQ.out; rw [hMC] at this; exact this.symm
        subst hq0
        clear hMC
        go_wp2_with (go_at_call 133; go_loud (refine HOP.out.mono ?_; rintro e w2 ⟨MA, mc, rfl, hmc, ⟨hrm, _⟩, hb2⟩; rw [HQ.out] at hmc hrm ⊢; have HI2 := Lib.hid (HI.out.later hb2)))
        go_roundw
        case rel => exact ⟨k + 1, by omega, by go_num, by rw [HSU.out, HRO.out, HWR.out]; exact HI2.out⟩
        case measure => simp [intOf]; omega
      | cons o rest =>
        have HO0 : Hid (MI[0]? = some o) := by show _ = _; rw [hMC]; rfl
        have hq1 : 0 < q := by have := HQ.out; rw [hMC] at this; simp at this; omega
        have hw0 : (opsOf D.wait (k : Int)).head? = some o := by rw [HMI.out, hMC]; rfl
        have HW0 := Lib.hid hw0
        clear hMC hw0
        obtain ⟨tx, kd, it⟩ := o
        obtain ⟨be, hbe⟩ : ∃ b, isEnd ⟨tx, kd, it⟩ = b := ⟨_, rfl⟩
        have HBE := Lib.hid hbe
        clear hbe
        cases be
        · have HWR : Hid (wRowL D (k : Int) = inWayI D.locks (k : Int) it kd) := by show _ = _; unfold wRowL; rw [HW0.out]; simp only; rw [if_neg (by rw [HBE.out]; simp)]
          obtain ⟨XS, hXS⟩ : ∃ XS, inWayI D.locks (k : Int) it kd = XS := ⟨_, rfl⟩
          obtain ⟨m, hm⟩ : ∃ m, XS.length = m := ⟨_, rfl⟩
          have HXS := Lib.hid hXS
          have HM := Lib.hid hm
          have hxr : ∀ u ∈ XS, 0 ≤ u ∧ u ≤ 3 := by rw [← hXS]; exact inWay_rng
          have hm4 : m ≤ 4 := by rw [← hm, ← hXS]; exact List.length_filter_le _ _
          have HXR := Lib.hid hxr
          clear hXS hm hxr
          go_wp2_with (first
            | (go_at_call 133; go_loud (refine HOP.out.mono ?_; rintro e w2 ⟨MA, mc, rfl, hmc, ⟨hrm, _⟩, hb2⟩; rw [HQ.out] at hmc hrm ⊢; have HI2 := Lib.hid (HI.out.later hb2); obtain ⟨bm, om, o2, hMA, _, ho2, e0, e1, e2⟩ := hrm.at_ (k := 0) (by omega); rw [HO0.out] at ho2; injection ho2 with ho2; subst ho2; subst hMA; simp only [Nat.zero_mul, Nat.add_zero] at e0 e1 e2; clear hrm hb2 b0 b1 b2 b3))
            | (go_at_call 104; go_loud (refine (sends_any ⟨tx, kd, it⟩ _).mono ?_; rintro e w3 ⟨rfl, hb3⟩; rw [HBE.out]; have HI3 := Lib.hid (HI2.out.later hb3); have g1 := Later.cell e1 ⟨w3, hb3⟩; have g2 := Later.cell e2 ⟨w3, hb3⟩; simp only at g1 g2; clear hb3 e0 e1 e2)))
          obtain ⟨c0, c1, c2, c3⟩ := HI3.out.box.cells
          simp only at c0 c1 c2 c3
          obtain ⟨wd, hwd⟩ : ∃ wd : World, wd = w3.drew := ⟨_, rfl⟩
          have HID : Hid (WtI W0 B w.heap.size ⟨.slice Ad nd cd, .slice Aw nw cw, .slice Al nl cl, .slice Ak nk ck⟩ D RO wd) := by show WtI _ _ _ _ _ _ _; rw [hwd]; exact HI3.out.drew
          have hIW := inWay_any Al nl cl D.locks (k : Int) it kd wd (ROps.of_own (HID.out.desk.locksN (n := nl) H3.out) (by omega))
          rw [HXS.out] at hIW
          have HIW := Lib.hid hIW
          have HWD := Lib.hid hwd
          clear hIW HOP hwd
          refine wp_region_still_tail 11 (by kernel_rfl) (by kernel_rfl) ?_
          simp only [List.take_succ_cons, List.take_zero, List.drop_succ_cons, List.drop_zero]
          repeat (first | still_step)
          refine wpStill_nil ?_
          change wpList _ _ _ _ _ w3.drew
          rw [← HWD.out]
          go_wp2_with (go_at_call 148; go_loud (refine HIW.out.mono ?_; rintro e w4 ⟨LA, lc, rfl, hlc, ⟨hrl, hfl⟩, hb4⟩; rw [HM.out] at hlc hrl ⊢))
          have HI4 := Lib.hid (HID.out.later hb4)
          have hne : ∀ ad, LA = some ad → ad.block ≠ W0.heap.size := fun ad had e => by
            obtain ⟨bb, cur, h1, h2, _⟩ := hfl ad had
            subst h1
            have := HID.out.rows.below.size
            have := RowIs.lt HID.out.rows.row
            simp only at e
            omega
          have HNE := Lib.hid hne
          have HRL := Lib.hid hrl
          clear hrl hfl hb4 hne HID HI3 HI HI2 c0 c1 c2 c3 HWD HIW g1 g2
          go_loopw [7] (fun i wr => ∃ p : Nat, p ≤ m ∧ i = .int .i64 p ∧ WtI W0 B w.heap.size ⟨.slice Ad nd cd, .slice Aw nw cw, .slice Al nl cl, .slice Ak nk ck⟩ D (wIn k RO (XS.take p)) wr ∧ RInts wr LA m XS) (fun i _ => m - (intOf i).toNat)
          case atStart => exact ⟨0, Nat.zero_le _, rfl, HI4.out, HRL.out⟩
          case round =>
            clear HI4 HRL
            obtain ⟨wi, rfl⟩ : ∃ wi : World, wi = wr := ⟨_, rfl⟩
            obtain ⟨p, hp, rfl, hJ, hRL⟩ := hrel
            have HJ := Lib.hid hJ
            have HRLI := Lib.hid hRL
            have hok2 : Rows4 (wIn k RO (XS.take p)) := wIn_ok (fun u hu => HXR.out u (List.mem_of_mem_take hu)) HOK.out
            by_cases hltp : p < m
            · obtain ⟨bL, oL, uu, hLA, hbl, hu, z0⟩ := hRL.at_ hltp
              subst hLA
              have hsn := wIn_snoc (T := k) (rows := RO) hu
              have hur := HXR.out uu (List.mem_of_getElem? hu)
              obtain ⟨U, rfl⟩ := Int.eq_ofNat_of_zero_le hur.1
              have hk3 : k ≤ 3 := by omega
              obtain ⟨hcr, hfz, hr16⟩ := hJ.rows.at_ hok2 hk3
              have hneL := HNE.out _ rfl
              simp only at hneL
              obtain ⟨RJ, hRJ⟩ : ∃ R, wIn k RO (XS.take p) = R := ⟨_, rfl⟩
              rw [hRJ] at hsn hcr hr16 hok2 HJ
              obtain ⟨r, hr⟩ : ∃ r, RJ.getD k 0 = r := ⟨_, rfl⟩
              obtain ⟨wd2, hwd⟩ : ∃ wd : World, wd = wi.drew := ⟨_, rfl⟩
              have hP2 : (2 ^ U : Nat) < 16 := by
                rcases (by omega : U = 0 ∨ U = 1 ∨ U = 2 ∨ U = 3) with e | e | e | e <;> rw [e] <;> decide
              have HSET : Hid (∀ v : Int, v = ((r ||| 2 ^ U : Nat) : Int) → WtI W0 B w.heap.size ⟨.slice Ad nd cd, .slice Aw nw cw, .slice Al nl cl, .slice Ak nk ck⟩ D (wIn k RO (XS.take (p + 1))) (wd2.setCell ⟨W0.heap.size, k, none⟩ (.int .i64 v)) ∧ RInts (wd2.setCell ⟨W0.heap.size, k, none⟩ (.int .i64 v)) (some ⟨bL, oL, none⟩) m XS) := by
                intro v hv
                rw [hsn, hwd]
                refine ⟨HJ.out.drew.set HFAR.out hgl hk3 hok2 (by rw [hr, hv, Int.toNat_natCast, Nat.one_shiftLeft]), ?_⟩
                exact (show RInts wi.drew _ _ _ from HRLI.out).grown grown_set fun ad had e => by injection had with had; subst had; injection e with e; exact hneL e.symm
              rw [hr] at hcr hr16
              have hor := or_nat r (2 ^ U) (by omega) (by omega)
              have hPW : ∀ W : World, Calls Try.prog 149 #[.int .i64 (U : Int)] W fun e w' => e = .returned (.int .i64 ((2 ^ U : Nat) : Int)) ∧ w' = W := fun W => (spower_any U W (by omega)).mono fun e w' h => ⟨h.1, h.2.symm⟩
              generalize hPP : 2 ^ U = p2 at *
              have HPW := Lib.hid hPW
              have hk0 : (0 : Int) ≤ (k : Int) := by omega
              have hpm : (p : Int) < (m : Int) := by omega
              have hp0 : (0 : Int) ≤ (p : Int) := by omega
              have hcr2 : wd2.cell? ⟨W0.heap.size, k, none⟩ = some (.int .i64 (r : Int)) := by rw [hwd]; exact hcr
              have hfz2 : wd2.frozen? ⟨W0.heap.size, k, none⟩ = false := by rw [hwd]; exact hfz
              have HHS := Lib.hid hP2
              clear hr hsn hPP hPW hP2 hRJ hJ hRL hu hok2 HJ HRLI
              go_wp2_with fail
              refine wp_region_still_tail 13 (by kernel_rfl) (by kernel_rfl) ?_
              simp only [List.take_succ_cons, List.take_zero, List.drop_succ_cons, List.drop_zero]
              repeat (first | still_step | still_call (HPW.out _))
              refine wpStill_nil ?_
              change wpList _ _ _ _ _ wi.drew
              rw [← hwd]
              go_wp2_with fail
              go_roundw
              case rel => exact ⟨p + 1, by omega, by go_num, (by first | exact HSET.out _ rfl | (have h := HSET.out _ rfl; rw [hwd] at h; exact h))⟩
              case measure => simp [intOf]; omega
            · have hfin : Hid (WtI W0 B w.heap.size ⟨.slice Ad nd cd, .slice Aw nw cw, .slice Al nl cl, .slice Ak nk ck⟩ D (wTo D (k + 1)) wi) := by
                show WtI _ _ _ _ _ _ _
                rw [HSU.out, HRO.out, HWR.out, HXS.out]
                have e : XS.take p = XS := List.take_of_length_le (by have := HM.out; omega)
                rw [e] at hJ
                exact hJ
              clear hJ hRL HJ HRLI hok2
              go_wp2_with fail
              go_roundw
              case rel => exact ⟨k + 1, by omega, by go_num, hfin.out⟩
              case measure => simp [intOf]; omega
        · have HWR : Hid (wRowL D (k : Int) = []) := by show _ = _; unfold wRowL; rw [HW0.out]; simp only; rw [if_pos HBE.out]
          go_wp2_with (first
            | (go_at_call 133; go_loud (refine HOP.out.mono ?_; rintro e w2 ⟨MA, mc, rfl, hmc, ⟨hrm, _⟩, hb2⟩; rw [HQ.out] at hmc hrm ⊢; have HI2 := Lib.hid (HI.out.later hb2); obtain ⟨bm, om, o2, hMA, _, ho2, e0, e1, e2⟩ := hrm.at_ (k := 0) (by omega); rw [HO0.out] at ho2; injection ho2 with ho2; subst ho2; subst hMA; simp only [Nat.zero_mul, Nat.add_zero] at e0 e1 e2; clear hrm hb2 b0 b1 b2 b3))
            | (go_at_call 104; go_loud (refine (sends_any ⟨tx, kd, it⟩ _).mono ?_; rintro e w3 ⟨rfl, hb3⟩; rw [HBE.out]; have HI3 := Lib.hid (HI2.out.later hb3); have g1 := Later.cell e1 ⟨w3, hb3⟩; have g2 := Later.cell e2 ⟨w3, hb3⟩; simp only at g1 g2; clear hb3 e0 e1 e2)))
          go_roundw
          case rel => exact ⟨k + 1, by omega, by go_num, by rw [HSU.out, HRO.out, HWR.out]; exact HI3.out⟩
          case measure => simp [intOf]; omega
    · obtain rfl : k = 4 := by omega
      rw [wTo_four] at hI
      have HO : Hid (RetRows w (waitsR D) (.returned (.slice (some ⟨W0.heap.size, 0, none⟩) 4 4)) wo) := by
        have h4 : (rowsI (waitsR D)).length = 4 := rfl
        exact ⟨_, _, rfl, hI.rows.row.ints h4 (by omega), HBW.out.trans (hI.rows.below.mono HBW.out.size)⟩
      clear hI
      go_wp2_with fail
      go_ret
      exact HO.out
end Go.Proofs.Ytcakjhappchlmaa
namespace Go.Proofs.Ytcakjhappchlmaa
open Go.RowKit Go.BigFrame
set_option linter.unusedVariables false

section
variable {w : World} {ops : Array Oper} {o : Oper} {a : Act} {K : Act → World → Prop} {Q : Exit → Act → World → Prop} {E : Prop}
theorem step_ops (s x : Operand) {base : Nat} {v : Value} {n : Nat} {xs : List OpV} (hown : w.ownsRow base 92 3 v n (opCells xs)) (hbase : base ≤ w.heap.size)
    {A : Option Addr} {m c : Nat} {ys : List OpV} (hr : ROps w A m ys) (hn : n ≤ 1099511627776)
    (hgd : o.guard = none) (ho : o.op = .call { callee := .builtin .append, args := #[s, x], argTypes := #[38, 38] }) (hs : a.eval s = v) (hx : a.eval x = .slice A m c)
    (h : ∀ v' w', w'.ownsRow base 92 3 v' (n + m) (opCells (xs ++ ys)) → w.grownBy w' v.ownBlock → (v'.ownBlock = v.ownBlock ∨ v'.ownBlock = some w.heap.size) → K (a.put o.dst v') w') :
    if Region.wanted o (yielded ops a.tmps) = true then Oper.wp Try.prog o a w K Q else E := by
  obtain ⟨i0, hi, hz0, hz1, hz2⟩ := info_parts opInfo
  have hm := hr.2.1
  refine step_app hgd s x _ ho base _ i0 _ 3 24 Try.underlying38 hi hz0 hz1 hz2 rfl (by decide) v n _ hs hown A m c _ hx hr.src (by simp only [maxLen]; omega) (by omega) hbase ?_
  intro v' w' h1 h2 h3
  rw [← opCells_append] at h1
  exact h v' w' h1 h2 h3
end
/-- The boxes of resume. -/
theorem resume_start {B : Nat} {V : DV} {D : Dsk} {w W : World} (hd : DeskAt w B V D) (hW : W = (w.alloc (.cells V.list.toArray 68)).alloc (.cells DV.nil.list.toArray 68)) :
    Pk w V B w.heap.size (w.heap.size + 1) W V D := by
  have hR0 : Boxed W (w.heap.size + 1) DV.nil := by
    rw [hW]
    have := Boxed.new (w.alloc (.cells V.list.toArray 68)) DV.nil
    rw [show (w.alloc (.cells V.list.toArray 68)).heap.size = w.heap.size + 1 by simp] at this
    exact this
  exact ⟨by rw [hW]; exact (hd.alloc _).alloc _, by rw [hW]; exact ((DStep.refl w V).alloc _).alloc _, by rw [hW]; exact (Boxed.new w V).alloc _, hR0, by omega, Nat.le_refl _, by omega⟩
theorem OB.made {w : World} {B : Nat} {U : DV} {D : Dsk} (hd : DeskAt w B U D) (o : OpV) : OB (w.alloc (.cells o.cells.toArray 92)) U w.heap.size o := ⟨OBox.new w o, hd.far (Nat.le_refl _)⟩

end Go.Proofs.Ytcakjhappchlmaa
