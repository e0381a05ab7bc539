/-
  Texts that the proof rests on, joined: part 24.
-/
import Derived.Test.YtncebpmckbcabaaSJ23
namespace Go.Proofs.Ytncebpmckbcabaa
open Go.RowKit Go.BigFrame
set_option linter.unusedVariables false

def initV (n : Nat) : List Int := List.replicate n (-1) ++ List.replicate (12 - n) 0
theorem initV_set {n : Nat} (h : n < 12) : (intCells (initV n)).set n (.int .i64 (-1)) = intCells (initV (n + 1)) := by
  have hlt : ∀ m : Nat, m < 12 → (intCells (initV m)).set m (.int .i64 (-1)) = intCells (initV (m + 1)) := by
    intro m hm
    rcases (by omega : m = 0 ∨ m = 1 ∨ m = 2 ∨ m = 3 ∨ m = 4 ∨ m = 5 ∨ m = 6 ∨ m = 7 ∨ m = 8 ∨ m = 9 ∨ m = 10 ∨ m = 11) with rfl | rfl | rfl | rfl | rfl | rfl | rfl | rfl | rfl | rfl | rfl | rfl <;> rfl
  exact hlt n h
theorem initV_len {n : Nat} (h : n ≤ 12) : (intCells (initV n)).length = 12 := by simp [intCells, initV]; omega
def TabPost (w : World) (st : List OpV) (e : Ending) (w' : World) : Prop := ∃ g, e = .returned (.pointer (some ⟨g, 0, none⟩)) ∧ w.heap.size ≤ g ∧ TblAt w' g st ∧ Below w.heap.size w w'
set_option maxRecDepth 100000 in
set_option maxHeartbeats 2000000 in
theorem tableOf_any (A : Option Addr) (n c : Nat) (st : List OpV) (w : World) (hx : ROps w A n st) (hv : ∀ s ∈ st, okStep s = true) :
    Calls Try.prog 67 #[.slice A n c] w (TabPost w st) := by
  have hn := hx.2.1
  have hl := hx.1
  have HX := Lib.hid hx
  have HV := Lib.hid hv
  clear hx hv
  go_enter Try.func67, Try.ntmps67
  go_wp2_with fail
  have HST : Hid (Below w.heap.size w (w.alloc (.cells (intCells (initV 0)).toArray 120)) ∧ RowIs (w.alloc (.cells (intCells (initV 0)).toArray 120)) w.heap.size 120 (intCells (initV 0))) := ⟨(Below.refl _ _).alloc (Nat.le_refl _) _, heap_alloc_new w _⟩
  go_loopw [10] (fun i wr => ∃ t : Nat, t ≤ 4 ∧ i = .int .i64 t ∧ Below w.heap.size w wr ∧ RowIs wr w.heap.size 120 (intCells (initV (t * 3)))) (fun i _ => 4 - (intOf i).toNat)
  case atStart => exact ⟨0, by omega, rfl, HST.out.1, HST.out.2⟩
  case round =>
    clear HST
    obtain ⟨t, ht, rfl, hb, hr⟩ := hrel
    by_cases hlt : t < 4
    · have ht4 : (t : Int) < 4 := by omega
      have ht0 : (0 : Int) ≤ (t : Int) := by omega
      have HST : Hid (Below w.heap.size w wr ∧ RowIs wr w.heap.size 120 (intCells (initV (t * 3 + 0)))) := ⟨hb, hr⟩
      clear hb hr
      go_wp2_with fail
      go_loopw [13] (fun i wr => ∃ x : Nat, x ≤ 3 ∧ i = .int .i64 x ∧ Below w.heap.size w wr ∧ RowIs wr w.heap.size 120 (intCells (initV (t * 3 + x)))) (fun i _ => 3 - (intOf i).toNat)
      case atStart => exact ⟨0, by omega, rfl, HST.out.1, HST.out.2⟩
      case round =>
        clear HST
        obtain ⟨x, hx, rfl, hb, hr⟩ := hrel
        by_cases hxlt : x < 3
        · have hx3 : (x : Int) < 3 := by omega
          have hx0 : (0 : Int) ≤ (x : Int) := by omega
          have hlen := initV_len (n := t * 3 + x) (by omega)
          have e : (intCells (initV (t * 3 + x)))[t * 3 + x]? = some ((intCells (initV (t * 3 + x)))[t * 3 + x]'(by omega)) := List.getElem?_eq_getElem (by omega)
          have hc := hr.cell e
          have hf := hr.frozen (t * 3 + x)
          have hset := hr.set (t * 3 + x) (.int .i64 (-1))
          rw [initV_set (by omega)] at hset
          have HP : Hid (Below w.heap.size w (wr.setCell ⟨w.heap.size, t * 3 + x, none⟩ (.int .i64 (-1))) ∧ _) := And.intro (hb.setCell (by simp) _) hset
          generalize (intCells (initV (t * 3 + x)))[t * 3 + x]'(by omega) = v0 at hc
          clear e hset hr hb hlen
          go_wp2_with fail
          go_roundw
          case rel => exact ⟨x + 1, by omega, by go_num, HP.out.1, HP.out.2⟩
          case measure => simp [intOf]; omega
        · have hx3 : x = 3 := by omega
          have HP : Hid (Below w.heap.size w wr ∧ RowIs wr w.heap.size 120 (intCells (initV ((t + 1) * 3)))) := ⟨hb, by rw [hx3, show t * 3 + 3 = (t + 1) * 3 by omega] at hr; exact hr⟩
          clear hb hr
          go_wp2_with fail
          go_roundw
          case rel => exact ⟨t + 1, by omega, by go_num, HP.out.1, HP.out.2⟩
          case measure => simp [intOf]; omega
    · have ht4 : t = 4 := by omega
      have hnt : ¬ ((t : Int) < 4) := by omega
      have hlt2 := Lib.hid hlt
      have ht2 := Lib.hid ht
      have HP : Hid (Below w.heap.size w wr ∧ TblAt wr w.heap.size (st.take 0)) := ⟨hb, by rw [ht4] at hr; exact hr⟩
      clear hb hr ht4 hlt ht
      go_wp2_with fail
      go_loopw [26] (fun i wr => ∃ k : Nat, k ≤ n ∧ i = .int .i64 k ∧ Below w.heap.size w wr ∧ TblAt wr w.heap.size (st.take k)) (fun i _ => n - (intOf i).toNat)
      case atStart => exact ⟨0, by omega, rfl, HP.out.1, HP.out.2⟩
      case round =>
        clear HP
        obtain ⟨k, hk, rfl, hb, hT⟩ := hrel
        by_cases hkl : k < n
        · obtain ⟨b, off, o, rfl, hbl, ho, c0, c1, c2⟩ := (HX.out.below hb (Nat.le_refl _)).at_ hkl
          have hok := HV.out o (List.mem_of_getElem? ho)
          have hts := take_snoc ho
          have HTS := Lib.hid hts
          have hbs := hb.size
          obtain ⟨W, hW⟩ : ∃ W : World, W = wr.alloc (.cells #[.int .i64 o.tx, .int .i64 o.kind, .int .i64 o.item] 73) := ⟨_, rfl⟩
          have hTW : TblAt W w.heap.size (st.take k) := by rw [hW]; exact hT.below ((Below.refl _ _).alloc (Nat.le_refl _) _)
          have HBW : Hid (Below w.heap.size w W) := by show Below _ _ _; rw [hW]; exact hb.alloc hbs _
          have hca := take_any w.heap.size (st.take k) o W hTW hok
          unfold OpV.val at hca
          have HCA := Lib.hid hca
          have HW := Lib.hid hW
          clear hca hW hTW hT hts ho hok
          obtain ⟨tx, kd, it⟩ := o
          simp only at c0 c1 c2 HCA HW
          have hki : (k : Int) < (n : Int) := by omega
          have hk0 : (0 : Int) ≤ (k : Int) := by omega
          have hkd : decide ((k : Int) < (n : Int)) = true := by simp; omega
          have hkd2 : decide (k < n) = true := by simp; omega
          go_wp2_with (go_at_call 69; go_loud (rw [← HW.out]; refine HCA.out.mono ?_; rintro e w2 ⟨rfl, hT2, hg2⟩; have hb2 := Below.grown HBW.out hg2 HBW.out.size (fun k hk => by injection hk with hk; omega); have HP2 := Lib.hid (And.intro hb2 hT2); clear hb2 hT2 hg2))
          go_roundw
          case rel => exact ⟨k + 1, by omega, by go_num, HP2.out.1, by rw [HTS.out]; exact HP2.out.2⟩
          case measure => simp [intOf]; omega
        · have HP : Hid (TabPost w st (.returned (.pointer (some ⟨w.heap.size, 0, none⟩))) wr) := ⟨_, rfl, Nat.le_refl _, by have e : st.take k = st := List.take_of_length_le (by omega); rw [e] at hT; exact hT, hb⟩
          clear hb hT
          go_wp2_with fail
          go_ret
          exact HP.out
end Go.Proofs.Ytncebpmckbcabaa
namespace Go.Proofs.Ytncebpmckbcabaa
open Go.RowKit Go.BigFrame
set_option linter.unusedVariables false

def othL (L : List OpV) (t x least : Int) : List Int := [0, 1, 2, 3].filter fun u => u != t && decide (least ≤ heldI L u x)
def othLTo (L : List OpV) (t x least : Int) (k : Nat) : List Int := ((List.range k).map fun i : Nat => (i : Int)).filter fun u => u != t && decide (least ≤ heldI L u x)
theorem othLTo_succ (L : List OpV) (t x least : Int) (k : Nat) : othLTo L t x least (k + 1) = othLTo L t x least k ++ if ((k : Int) != t && decide (least ≤ heldI L k x)) = true then [(k : Int)] else [] := by
  unfold othLTo
  rw [List.range_succ, List.map_append, List.filter_append]
  simp [List.filter_cons]
theorem othLTo_four (L : List OpV) (t x least : Int) : othLTo L t x least 4 = othL L t x least := rfl
theorem oth_pos (L : List OpV) (t x least : Int) : decide (0 < (othL L t x least).length) = othersB L t x least := by
  rw [Bool.eq_iff_iff, decide_eq_true_eq, List.length_pos_iff]
  unfold othL othersB
  rw [List.any_eq_true]
  constructor
  · intro h
    obtain ⟨u, hu⟩ := List.exists_mem_of_ne_nil _ h
    exact ⟨u, (List.mem_filter.1 hu).1, (List.mem_filter.1 hu).2⟩
  · rintro ⟨u, h1, h2⟩ e
    have : u ∈ [0, 1, 2, 3].filter fun u => u != t && decide (least ≤ heldI L u x) := List.mem_filter.2 ⟨h1, h2⟩
    rw [e] at this
    cases this
set_option maxRecDepth 100000 in
set_option maxHeartbeats 2000000 in
theorem others_any (g : Nat) (L : List OpV) (t : Int) (X : Nat) (least : Int) (w : World) (h : TblAt w g L) (hX : X ≤ 2) :
    Calls Try.prog 106 #[.pointer (some ⟨g, 0, none⟩), .int .i64 t, .int .i64 (X : Int), .int .i64 least] w (RetInts w (othL L t (X : Int) least)) := by
  have hown0 := World.ownsRow_made (base := w.heap.size) (e := 3) (size := 1) w #[] 0 (Nat.le_refl _) (by decide) rfl
  have HST : Hid ((w.alloc (.cells #[] 3)).ownsRow w.heap.size 3 1 (.slice (some ⟨w.heap.size, 0, none⟩) 0 0) 0 (intCells (othLTo L t (X : Int) least 0)) ∧ Below w.heap.size w (w.alloc (.cells #[] 3))) := ⟨hown0, (Below.refl _ _).alloc (Nat.le_refl _) _⟩
  have H := Lib.hid h
  clear h hown0
  go_enter Try.func106, Try.ntmps106
  go_wp2_with fail
  go_loopw [9, 12] (fun ov i wr => ∃ (k m : Nat), k ≤ 4 ∧ m ≤ k ∧ i = .int .i64 k ∧ Below w.heap.size w wr ∧ wr.ownsRow w.heap.size 3 1 ov m (intCells (othLTo L t (X : Int) least k))) (fun _ i _ => 4 - (intOf i).toNat)
  case atStart => exact ⟨0, 0, by omega, Nat.le_refl _, rfl, HST.out.2, HST.out.1⟩
  case round =>
    clear HST
    obtain ⟨k, m, hk, hmk, rfl, hb, hown⟩ := hrel
    by_cases hlt : k < 4
    · have hs := hb.size
      have HT := Lib.hid (othLTo_succ L t (X : Int) least k)
      have hc := (H.out.below hb).cell (t := k) (x := X) (by omega) hX
      obtain ⟨v, hv⟩ : ∃ v, heldI L (k : Int) (X : Int) = v := ⟨_, rfl⟩
      rw [hv] at HT hc
      have hk4 : (k : Int) < 4 := by omega
      have hk0 : (0 : Int) ≤ (k : Int) := by omega
      have hX3 : (X : Int) < 3 := by omega
      have hX0 : (0 : Int) ≤ (X : Int) := by omega
      clear hv
      by_cases e1 : (k : Int) = t
      · subst e1
        go_wp2_with fail
        go_roundw
        case rel => exact ⟨k + 1, m, by omega, by omega, by go_num, hb, by rw [HT.out]; simpa using hown⟩
        case measure => simp [intOf]; omega
      · have hne : ((k : Int) != t) = true := by simp [e1]
        by_cases e2 : least ≤ v
        · go_wp2_with (at_builtin; go_loud (refine app_ints (.tmp 29) (.tmp 31) (hown.alloc _) (by simp; omega) (lit1 rfl _) (by omega) rfl rfl rfl rfl ?_; intro v3 w3 hown3 hg3 hat3))
          have hb3 := Below.own hb hown (Nat.le_refl _) (World.grownBy.trans (World.grownBy_alloc wr _ _) hg3)
          go_roundw
          case rel => exact ⟨k + 1, m + 1, by omega, by omega, by go_num, hb3, by rw [HT.out]; simpa [hne, e1, e2] using hown3⟩
          case measure => simp [intOf]; omega
        · have hdf : decide (least ≤ v) = false := by simp; omega
          go_wp2_with fail
          go_roundw
          case rel => exact ⟨k + 1, m, by omega, by omega, by go_num, hb, by rw [HT.out, hdf]; simpa using hown⟩
          case measure => simp [intOf]; omega
    · obtain ⟨Ao, co, rfl, hmc⟩ := own_form2 hown
      obtain rfl : k = 4 := by omega
      rw [othLTo_four] at hown
      have HO := Lib.hid (RetInts.mk (c := co) (own_lenInts hown) hmc (FreshInts.of_own hown (Nat.le_refl _) (by omega)) hb)
      clear hown
      go_wp2_with fail
      go_ret
      exact HO.out
end Go.Proofs.Ytncebpmckbcabaa
namespace Go.Proofs.Ytncebpmckbcabaa
open Go.RowKit Go.BigFrame
set_option linter.unusedVariables false

theorem run_ty : (71 : TypeId) ≠ 62 ∧ (71 : TypeId) ≠ 73 ∧ (71 : TypeId) ≠ 3 ∧ (71 : TypeId) ≠ 120 := by decide
theorem tbl_ty : (120 : TypeId) ≠ 62 ∧ (120 : TypeId) ≠ 73 ∧ (120 : TypeId) ≠ 3 := by decide
theorem row_ne {w : World} {a b : Nat} {T U : TypeId} {xs ys : List Value} (h1 : RowIs w a T xs) (h2 : RowIs w b U ys) (hne : T ≠ U) : a ≠ b := fun e => by
  subst e
  unfold RowIs at h1 h2
  rw [h1] at h2
  injection h2 with h2
  injection h2 with _ h2
  exact hne h2
def runCells (V : DV) (tg : Nat) (m : Value) : List Value := [V.d, V.w, V.l, V.k, .pointer (some ⟨tg, 0, none⟩), m]
structure RunAt (w : World) (B R tg : Nat) (m : Value) (V : DV) (D : Dsk) : Prop where
  box : RowIs w R 71 (runCells V tg m)
  desk : DeskAt w B V D
  tbl : TblAt w tg D.locks
  ok : ∀ s ∈ D.locks, okStep s = true
  lowR : B ≤ R
  lowT : B ≤ tg
/-- From w to w' only the run's box, its table, its rows, and what is new, have turned. -/
structure RSt (R tg : Nat) (w : World) (V : DV) (w' : World) (V' : DV) : Prop where
  os : w'.os = w.os
  tape : w'.tape = w.tape
  output : w'.output = w.output
  size : w.heap.size ≤ w'.heap.size
  block : ∀ i, i < w.heap.size → i ≠ R → i ≠ tg → NotIn V i → w'.heap[i]? = w.heap[i]?
  nd : NB w.heap.size V.d V'.d
  nw : NB w.heap.size V.w V'.w
  nl : NB w.heap.size V.l V'.l
  nk : NB w.heap.size V.k V'.k
section
variable {R tg : Nat} {w w1 w2 w' : World} {V V1 V2 V' : DV}
theorem RSt.notIn {g : Nat} (h : RSt R tg w V w' V') (hg : g < w.heap.size) (hn : NotIn V g) : NotIn V' g :=
  ⟨h.nd.ne hg hn.1, h.nw.ne hg hn.2.1, h.nl.ne hg hn.2.2.1, h.nk.ne hg hn.2.2.2⟩
theorem RSt.refl (R tg : Nat) (w : World) (V : DV) : RSt R tg w V w V := ⟨rfl, rfl, rfl, Nat.le_refl _, fun _ _ _ _ _ => rfl, .refl _ _, .refl _ _, .refl _ _, .refl _ _⟩
theorem RSt.trans (h : RSt R tg w V w1 V1) (k : RSt R tg w1 V1 w2 V2) : RSt R tg w V w2 V2 := by
  have hs := h.size
  refine ⟨k.os.trans h.os, k.tape.trans h.tape, k.output.trans h.output, Nat.le_trans hs k.size, fun i hi h1 h2 hn => ?_, h.nd.trans k.nd hs, h.nw.trans k.nw hs, h.nl.trans k.nl hs, h.nk.trans k.nk hs⟩
  exact (k.block i (by omega) h1 h2 (h.notIn hi hn)).trans (h.block i hi h1 h2 hn)
theorem RSt.of_below (R tg : Nat) (V : DV) (h : Below w.heap.size w w') : RSt R tg w V w' V :=
  ⟨h.os, h.tape, h.output, h.size, fun i hi _ _ _ => h.block i hi, .refl _ _, .refl _ _, .refl _ _, .refl _ _⟩
theorem RSt.lat (h : RSt R tg w V w1 V1) (hb : Below w1.heap.size w1 w') : RSt R tg w V w' V1 := h.trans (.of_below R tg V1 hb)
theorem RSt.row (h : RSt R tg w V w' V') {g : Nat} {T : TypeId} {vs : List Value} (hr : RowIs w g T vs) (h1 : g ≠ R) (h2 : g ≠ tg) (hn : NotIn V g) : RowIs w' g T vs := (h.block g hr.lt h1 h2 hn).trans hr
theorem RSt.ints (h : RSt R tg w V w' V') {A : Option Addr} {n : Nat} {xs : List Int} (hr : RInts w A n xs) (hn : ∀ ad, A = some ad → ad.block ≠ R ∧ ad.block ≠ tg ∧ NotIn V ad.block) : RInts w' A n xs := by
  obtain ⟨h1, h2, h3⟩ := hr
  refine ⟨h1, h2, fun h0 => ?_⟩
  obtain ⟨b, off, hA, hlt, hc⟩ := h3 h0
  obtain ⟨n1, n2, n3⟩ := hn _ hA
  have hh := h.block b hlt n1 n2 n3
  have hs := h.size
  exact ⟨b, off, hA, by omega, fun i x hx => (World.cell?_of_block (w := w) (a := ⟨b, _, none⟩) hh).trans (hc i x hx)⟩
theorem RSt.ops (h : RSt R tg w V w' V') {A : Option Addr} {n : Nat} {xs : List OpV} (hr : ROps w A n xs) (hn : ∀ ad, A = some ad → ad.block ≠ R ∧ ad.block ≠ tg ∧ NotIn V ad.block) : ROps w' A n xs := by
  obtain ⟨h1, h2, h3⟩ := hr
  refine ⟨h1, h2, fun h0 => ?_⟩
  obtain ⟨b, off, hA, hlt, hc⟩ := h3 h0
  obtain ⟨n1, n2, n3⟩ := hn _ hA
  have hh := h.block b hlt n1 n2 n3
  have hs := h.size
  refine ⟨b, off, hA, by omega, fun i o ho => ?_⟩
  obtain ⟨c0, c1, c2⟩ := hc i o ho
  exact ⟨(World.cell?_of_block (w := w) (a := ⟨b, _, none⟩) hh).trans c0, (World.cell?_of_block (w := w) (a := ⟨b, _, none⟩) hh).trans c1, (World.cell?_of_block (w := w) (a := ⟨b, _, none⟩) hh).trans c2⟩
end
section
variable {w w1 w' w3 : World} {B R tg : Nat} {m : Value} {V : DV} {D : Dsk}
theorem RunAt.notR (h : RunAt w B R tg m V D) : NotIn V R := h.desk.notIn h.box run_ty.1 run_ty.2.1 run_ty.2.2.1
theorem RunAt.notT (h : RunAt w B R tg m V D) : NotIn V tg := h.desk.notIn h.tbl tbl_ty.1 tbl_ty.2.1 tbl_ty.2.2
theorem RunAt.ne (h : RunAt w B R tg m V D) : R ≠ tg := row_ne h.box h.tbl run_ty.2.2.2
theorem RunAt.lat (h : RunAt w B R tg m V D) (hb : Below w.heap.size w w') : RunAt w' B R tg m V D := ⟨RowIs.below h.box hb (Nat.le_refl _), h.desk.below hb, h.tbl.below hb, h.ok, h.lowR, h.lowT⟩
theorem RunAt.cells (h : RunAt w B R tg m V D) : w.cell? ⟨R, 0, none⟩ = some V.d ∧ w.cell? ⟨R, 1, none⟩ = some V.w ∧ w.cell? ⟨R, 2, none⟩ = some V.l ∧ w.cell? ⟨R, 3, none⟩ = some V.k ∧ w.cell? ⟨R, 4, none⟩ = some (.pointer (some ⟨tg, 0, none⟩)) ∧ w.cell? ⟨R, 5, none⟩ = some m :=
  ⟨RowIs.cell h.box rfl, RowIs.cell h.box rfl, RowIs.cell h.box rfl, RowIs.cell h.box rfl, RowIs.cell h.box rfl, RowIs.cell h.box rfl⟩
theorem RunAt.lock (h : RunAt w B R tg m V D) {t x : Nat} (ht : t ≤ 3) (hx : x ≤ 2) : w.cell? ⟨tg, t * 3 + x, none⟩ = some (.int .i64 (heldI D.locks t x)) := h.tbl.cell ht hx
theorem RunAt.soft (h : RunAt w B R tg m V D) (i : Nat) : w.frozen? ⟨R, i, none⟩ = false := RowIs.frozen h.box i
theorem RunAt.base (h : RunAt w B R tg m V D) : B ≤ w.heap.size := h.desk.base
theorem RunAt.ltR (h : RunAt w B R tg m V D) : R < w.heap.size := RowIs.lt h.box
theorem RunAt.ltT (h : RunAt w B R tg m V D) : tg < w.heap.size := RowIs.lt h.tbl
theorem RunAt.far (h : RunAt w B R tg m V D) {g : Nat} (hg : w.heap.size ≤ g) : g ≠ R ∧ g ≠ tg ∧ NotIn V g := ⟨by have := h.ltR; omega, by have := h.ltT; omega, h.desk.far hg⟩
theorem RunAt.low (h : RunAt w B R tg m V D) {g : Nat} (hg : g < B) : g ≠ R ∧ g ≠ tg ∧ NotIn V g := ⟨by have := h.lowR; omega, by have := h.lowT; omega, h.desk.low hg⟩
theorem RunAt.below (h : RunAt w B R tg m V D) {V' : DV} (hs : RSt R tg w V w' V') : Below B w w' :=
  ⟨hs.os, hs.tape, hs.output, hs.size, fun i hi => by
    obtain ⟨h1, h2, h3⟩ := h.low hi
    exact hs.block i (by have := h.base; omega) h1 h2 h3⟩
theorem RunAt.forms (h : RunAt w B R tg m V D) : ∃ (Ad Aw Al Ak : Option Addr) (nd nw nl nk cd cw cl ck : Nat), V = ⟨.slice Ad nd cd, .slice Aw nw cw, .slice Al nl cl, .slice Ak nk ck⟩ ∧ (nd ≤ cd ∧ nw ≤ cw ∧ nl ≤ cl ∧ nk ≤ ck) ∧ D.done.length = nd ∧ D.wait.length = nw ∧ D.locks.length = nl ∧ D.dead.length = nk := h.desk.forms
theorem set_grown (w : World) (R i : Nat) (v : Value) : w.grownBy (w.setCell ⟨R, i, none⟩ v) (some R) := grown_set
/-- What is done grows. -/
theorem RunAt.growD (h : RunAt w B R tg m V D) {v : Value} {L : List OpV} {n : Nat} (hg : w.grownBy w3 V.d.ownBlock) (ho : w3.ownsRow B 62 3 v n (opCells L)) (hat : v.ownBlock = V.d.ownBlock ∨ v.ownBlock = some w.heap.size) :
    (w3.cell? ⟨R, 0, none⟩ = some V.d ∧ w3.frozen? ⟨R, 0, none⟩ = false) ∧ RunAt (w3.setCell ⟨R, 0, none⟩ v) B R tg m ⟨v, V.w, V.l, V.k⟩ ⟨L, D.wait, D.locks, D.dead⟩ ∧ RSt R tg w V (w3.setCell ⟨R, 0, none⟩ v) ⟨v, V.w, V.l, V.k⟩ := by
  have hb3 : RowIs w3 R 71 (runCells V tg m) := RowIs.grown h.box hg h.notR.1
  have ht3 : TblAt w3 tg D.locks := RowIs.grown h.tbl hg h.notT.1
  have hd3 := h.desk.growD hg ho hat
  have hs := set_grown w3 R 0 v
  have hne := h.ne
  refine ⟨⟨RowIs.cell hb3 rfl, RowIs.frozen hb3 0⟩, ⟨RowIs.set hb3 0 v, hd3.set (hd3.notIn hb3 run_ty.1 run_ty.2.1 run_ty.2.2.1) 0 v, RowIs.grown ht3 hs (fun e => hne (by injection e)), h.ok, h.lowR, h.lowT⟩, ⟨hs.os.trans hg.os, hs.tape.trans hg.tape, hs.output.trans hg.output, Nat.le_trans hg.size hs.size, fun i hi h1 h2 hn => ?_, .of_hat hat (Nat.le_refl _), .refl _ _, .refl _ _, .refl _ _⟩⟩
  have := hg.size
  exact (hs.block i (by omega) (fun e => h1 (by injection e))).trans (hg.block i hi (fun e => hn.1 e.symm))
/-- What waits grows, or is cut. -/
theorem RunAt.growW (h : RunAt w B R tg m V D) {v : Value} {L : List OpV} {n : Nat} (hg : w.grownBy w3 V.w.ownBlock) (ho : w3.ownsRow B 62 3 v n (opCells L)) (hat : v.ownBlock = V.w.ownBlock ∨ v.ownBlock = some w.heap.size) :
    (w3.cell? ⟨R, 1, none⟩ = some V.w ∧ w3.frozen? ⟨R, 1, none⟩ = false) ∧ RunAt (w3.setCell ⟨R, 1, none⟩ v) B R tg m ⟨V.d, v, V.l, V.k⟩ ⟨D.done, L, D.locks, D.dead⟩ ∧ RSt R tg w V (w3.setCell ⟨R, 1, none⟩ v) ⟨V.d, v, V.l, V.k⟩ := by
  have hb3 : RowIs w3 R 71 (runCells V tg m) := RowIs.grown h.box hg h.notR.2.1
  have ht3 : TblAt w3 tg D.locks := RowIs.grown h.tbl hg h.notT.2.1
  have hd3 := h.desk.growW hg ho hat
  have hs := set_grown w3 R 1 v
  have hne := h.ne
  refine ⟨⟨RowIs.cell hb3 rfl, RowIs.frozen hb3 1⟩, ⟨RowIs.set hb3 1 v, hd3.set (hd3.notIn hb3 run_ty.1 run_ty.2.1 run_ty.2.2.1) 1 v, RowIs.grown ht3 hs (fun e => hne (by injection e)), h.ok, h.lowR, h.lowT⟩, ⟨hs.os.trans hg.os, hs.tape.trans hg.tape, hs.output.trans hg.output, Nat.le_trans hg.size hs.size, fun i hi h1 h2 hn => ?_, .refl _ _, .of_hat hat (Nat.le_refl _), .refl _ _, .refl _ _⟩⟩
  have := hg.size
  exact (hs.block i (by omega) (fun e => h1 (by injection e))).trans (hg.block i hi (fun e => hn.2.1 e.symm))
/-- One more is dead. -/
theorem RunAt.growK (h : RunAt w B R tg m V D) {v : Value} {K : List Int} {n : Nat} (hg : w.grownBy w3 V.k.ownBlock) (ho : w3.ownsRow B 3 1 v n (intCells K)) (hat : v.ownBlock = V.k.ownBlock ∨ v.ownBlock = some w.heap.size) :
    (w3.cell? ⟨R, 3, none⟩ = some V.k ∧ w3.frozen? ⟨R, 3, none⟩ = false) ∧ RunAt (w3.setCell ⟨R, 3, none⟩ v) B R tg m ⟨V.d, V.w, V.l, v⟩ ⟨D.done, D.wait, D.locks, K⟩ ∧ RSt R tg w V (w3.setCell ⟨R, 3, none⟩ v) ⟨V.d, V.w, V.l, v⟩ := by
  have hb3 : RowIs w3 R 71 (runCells V tg m) := RowIs.grown h.box hg h.notR.2.2.2
  have ht3 : TblAt w3 tg D.locks := RowIs.grown h.tbl hg h.notT.2.2.2
  have hd3 := h.desk.growK hg ho
  have hs := set_grown w3 R 3 v
  have hne := h.ne
  refine ⟨⟨RowIs.cell hb3 rfl, RowIs.frozen hb3 3⟩, ⟨RowIs.set hb3 3 v, hd3.set (hd3.notIn hb3 run_ty.1 run_ty.2.1 run_ty.2.2.1) 3 v, RowIs.grown ht3 hs (fun e => hne (by injection e)), h.ok, h.lowR, h.lowT⟩, ⟨hs.os.trans hg.os, hs.tape.trans hg.tape, hs.output.trans hg.output, Nat.le_trans hg.size hs.size, fun i hi h1 h2 hn => ?_, .refl _ _, .refl _ _, .refl _ _, .of_hat hat (Nat.le_refl _)⟩⟩
  have := hg.size
  exact (hs.block i (by omega) (fun e => h1 (by injection e))).trans (hg.block i hi (fun e => hn.2.2.2 e.symm))
/-- The table takes a step, and the row of locks grows by it. -/
theorem RunAt.put (h : RunAt w B R tg m V D) {s : OpV} {wt wl : World} {v : Value} {n : Nat} (hs : okStep s = true) (hT : TblAt wt tg (D.locks ++ [s])) (hgt : w.grownBy wt (some tg)) (hb : Below wt.heap.size wt wl)
    (hg : wl.grownBy w3 V.l.ownBlock) (ho : w3.ownsRow B 73 3 v n (opCells (D.locks ++ [s]))) (hat : v.ownBlock = V.l.ownBlock ∨ v.ownBlock = some wl.heap.size) :
    (w3.cell? ⟨R, 2, none⟩ = some V.l ∧ w3.frozen? ⟨R, 2, none⟩ = false) ∧ RunAt (w3.setCell ⟨R, 2, none⟩ v) B R tg m ⟨V.d, V.w, v, V.k⟩ ⟨D.done, D.wait, D.locks ++ [s], D.dead⟩ ∧ RSt R tg w V (w3.setCell ⟨R, 2, none⟩ v) ⟨V.d, V.w, v, V.k⟩ := by
  have hne := h.ne
  have hdt : DeskAt wt B V D := h.desk.apart hgt (fun b e => by injection e with e; subst e; exact h.notT)
  have hbt : RowIs wt R 71 (runCells V tg m) := RowIs.grown h.box hgt (fun e => hne (by injection e with e; exact e.symm))
  have hdl := hdt.below hb
  have hbl := RowIs.below hbt hb (Nat.le_refl _)
  have htl := hT.below hb
  have hnR := hdl.notIn hbl run_ty.1 run_ty.2.1 run_ty.2.2.1
  have hnT := hdl.notIn htl tbl_ty.1 tbl_ty.2.1 tbl_ty.2.2
  have hb3 : RowIs w3 R 71 (runCells V tg m) := RowIs.grown hbl hg hnR.2.2.1
  have ht3 : TblAt w3 tg (D.locks ++ [s]) := RowIs.grown htl hg hnT.2.2.1
  have hd3 := hdl.growL hg ho
  have hs3 := set_grown w3 R 2 v
  have s1 := hgt.size
  have s2 := hb.size
  have s3 := hg.size
  refine ⟨⟨RowIs.cell hb3 rfl, RowIs.frozen hb3 2⟩, ⟨RowIs.set hb3 2 v, hd3.set (hd3.notIn hb3 run_ty.1 run_ty.2.1 run_ty.2.2.1) 2 v, RowIs.grown ht3 hs3 (fun e => hne (by injection e)), fun q hq => ?_, h.lowR, h.lowT⟩, ⟨?_, ?_, ?_, Nat.le_trans s1 (Nat.le_trans s2 (Nat.le_trans s3 hs3.size)), fun i hi h1 h2 hn => ?_, .refl _ _, .refl _ _, .of_hat hat (by omega), .refl _ _⟩⟩
  · rcases List.mem_append.1 hq with hq | hq
    · exact h.ok q hq
    · rw [List.mem_singleton.1 hq]; exact hs
  · rw [hs3.os, hg.os, hb.os, hgt.os]
  · rw [hs3.tape, hg.tape, hb.tape, hgt.tape]
  · rw [hs3.output, hg.output, hb.output, hgt.output]
  · exact (hs3.block i (by omega) (fun e => h1 (by injection e))).trans ((hg.block i (by omega) (fun e => hn.2.2.1 e.symm)).trans ((hb.block i (by omega)).trans (hgt.block i hi (fun e => h2 (by injection e)))))
end
/-- A call leaves this desk. -/
def RPost (B R tg : Nat) (m : Value) (V : DV) (w : World) (D : Dsk) (e : Ending) (w' : World) : Prop := e = .returned (.tuple #[]) ∧ ∃ V', RunAt w' B R tg m V' D ∧ RSt R tg w V w' V'
theorem held_none {L : List OpV} (h : ∀ s ∈ L, okStep s = true) (t x : Int) : (heldI L t x != -1) = decide (0 ≤ heldI L t x) := by
  have := heldI_rng h t x
  rw [Bool.eq_iff_iff, bne_iff_ne, decide_eq_true_eq]
  omega
end Go.Proofs.Ytncebpmckbcabaa
