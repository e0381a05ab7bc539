/-
  The texts that the proof rests on, joined: part 4.
-/
import Derived.Test.YtofcpfabjfhjoaaPkSnapL3
namespace Go.Proofs.Ytofcpfabjfhjoaa
open Go.RowKit Go.BigFrame
set_option linter.unusedVariables false

theorem rowsI_put (rows : List Nat) (i v : Nat) : rowsI (rows.set i v) = (rowsI rows).set i (v : Int) := by
  unfold rowsI
  rw [List.map_set]
theorem bits16 {rows : List Nat} (h : Rows4 rows) (i : Nat) : rows.getD i 0 < 16 := getD16 h i

/-- What the walk keeps: the rows in block g. -/
structure TwInv (w : World) (g : Nat) (rows : List Nat) (rest : List Value) (wr : World) : Prop where
  below : Below w.heap.size w wr
  row : RowIs wr g 3 (intCells (rowsI rows) ++ rest)
theorem TwInv.later {w wr W : World} {g : Nat} {rows : List Nat} {rest : List Value} (h : TwInv w g rows rest wr) (hb : Below wr.heap.size wr W) : TwInv w g rows rest W :=
  ⟨h.below.trans (hb.mono h.below.size), h.row.below hb (Nat.le_refl _)⟩
theorem TwInv.drew {w wr : World} {g : Nat} {rows : List Nat} {rest : List Value} (h : TwInv w g rows rest wr) : TwInv w g rows rest wr.drew := ⟨h.below.drew, h.row⟩
theorem TwInv.set {w wr : World} {g : Nat} {rows : List Nat} {rest : List Value} {i : Nat} (h : TwInv w g rows rest wr) (hge : w.heap.size ≤ g) (hi : i < 4) (h4 : Rows4 rows) (v : Nat) : TwInv w g (rows.set i v) rest (wr.setCell ⟨g, i, none⟩ (.int .i64 (v : Int))) := by
  refine ⟨h.below.setCell (by simpa using hge) _, ?_⟩
  rw [rowsI_put]
  exact row_setInt h.row (by simp [rowsI, h4.1]; omega)
theorem TwInv.at_ {w wr : World} {g : Nat} {rows : List Nat} {rest : List Value} (h : TwInv w g rows rest wr) (h4 : Rows4 rows) {T : Nat} (hT : T ≤ 3) : wr.cell? ⟨g, T, none⟩ = some (.int .i64 ((rows.getD T 0 : Nat) : Int)) ∧ wr.frozen? ⟨g, T, none⟩ = false ∧ rows.getD T 0 < 16 := by
  obtain ⟨h1, h2⟩ := rowsI_at h4 hT
  refine ⟨h.row.cell ?_, h.row.frozen T, h2⟩
  have hl : T < (intCells (rowsI rows)).length := by simp [intCells, rowsI, h4.1]; omega
  rw [List.getElem?_append_left hl]
  exact h1

set_option maxRecDepth 100000 in
set_option maxHeartbeats 2000000 in
theorem turns_any (A : Option Addr) (c : Nat) (rows : List Nat) (w : World) (hx : RInts w A 4 (rowsI rows)) (h4 : Rows4 rows) :
    Calls Try.prog 50 #[.slice A 4 c] w fun e w' => e = .returned (.bool (turnB rows)) ∧ Below w.heap.size w w' := by
  have HX := Lib.hid hx
  have H4 := Lib.hid h4
  have hgood : Hid (turnB rows = (List.range 4).any fun i => ((twOut rows 4).getD i 0).testBit i) := rfl
  have HST : Hid ((w.alloc (.cells #[] 3)).ownsRow w.heap.size 3 1 (.slice (some ⟨w.heap.size, 0, none⟩) 0 0) 0 (intCells [])) :=
    World.ownsRow_made w #[] 0 (Nat.le_refl _) (by decide) rfl
  have HX1 : Hid (RInts (w.alloc (.cells #[] 3)) A 4 (rowsI rows)) := hx.below ((Below.refl _ w).alloc (Nat.le_refl _) _) (Nat.le_refl _)
  clear hx h4
  go_enter Try.func50, Try.ntmps50
  go_wp2_with (at_builtin; refine app_ints (.tmp 7) (.tmp 8) HST.out (by simp) HX1.out (by omega) rfl rfl rfl rfl ?_; intro v1 w1 hown1 hg1 hat1)
  have hb1 : Below w.heap.size w w1 := Below.own ((Below.refl _ w).alloc (Nat.le_refl _) _) HST.out (Nat.le_refl _) hg1
  rw [List.nil_append] at hown1
  obtain ⟨A1, c1, rfl, hc1⟩ := own_form2 hown1
  have hfresh := FreshInts.of_own (w0 := w) hown1 (Nat.le_refl _) (by omega)
  obtain ⟨g, rest, hGA, hge, hrow⟩ := hfresh.row (by omega)
  subst hGA
  have HI0 : Hid (TwInv w g (twOut rows 0) rest w1) := ⟨hb1, hrow⟩
  clear hown1 hfresh hrow hg1 hat1 hb1 HST HX1 HX
  simp only [Nat.zero_add] at *
  go_wp2_with fail
  go_loopw [4] (fun i wr => ∃ k : Nat, k ≤ 4 ∧ i = .int .i64 k ∧ TwInv w g (twOut rows k) rest wr) (fun i _ => 4 - (intOf i).toNat)
  case atStart => exact ⟨0, Nat.zero_le _, rfl, HI0.out⟩
  case round =>
    clear HI0
    obtain ⟨wo, rfl⟩ : ∃ wo : World, wo = wr := ⟨_, rfl⟩
    obtain ⟨k, hk, rfl, hI⟩ := hrel
    by_cases hlt : k < 4
    · have hdk : decide ((k : Int) < 4) = true := by simp; omega
      have hR4 : Hid (Rows4 (twOut rows k)) := twOut_ok H4.out k
      have hgk : Hid (twOut rows (k + 1) = twIn k (twOut rows k) 4) := rfl
      generalize hR : twOut rows k = R at *
      have HI : Hid (TwInv w g (twIn k R 0) rest wo) := hI
      have HR := Lib.hid hR
      clear hI hR
      have hk4 : (k : Int) < 4 := by omega
      have hk0 : (0 : Int) ≤ (k : Int) := by omega
      go_wp2_with fail
      go_loopw [5] (fun i wr => ∃ q : Nat, q ≤ 4 ∧ i = .int .i64 q ∧ TwInv w g (twIn k R q) rest wr) (fun i _ => 4 - (intOf i).toNat)
      case atStart => exact ⟨0, Nat.zero_le _, rfl, HI.out⟩
      case round =>
        clear HI
        obtain ⟨wi, rfl⟩ : ∃ wi : World, wi = wr := ⟨_, rfl⟩
        obtain ⟨q, hq, rfl, hJ⟩ := hrel
        by_cases hlt2 : q < 4
        · have hdq : decide ((q : Int) < 4) = true := by simp; omega
          have hS4 : Rows4 (twIn k R q) := twIn_ok hR4.out q
          obtain ⟨hcq, hfq, hq16⟩ := hJ.at_ hS4 (T := q) (by omega)
          obtain ⟨hck, hfk, hk16⟩ := hJ.at_ hS4 (T := k) (by omega)
          have hst : twIn k R (q + 1) = if ((twIn k R q).getD q 0).testBit k then (twIn k R q).set q ((twIn k R q).getD q 0 ||| (twIn k R q).getD k 0) else twIn k R q := rfl
          obtain ⟨rq, hrq⟩ : ∃ r, (twIn k R q).getD q 0 = r := ⟨_, rfl⟩
          obtain ⟨rk, hrk⟩ : ∃ r, (twIn k R q).getD k 0 = r := ⟨_, rfl⟩
          rw [hrq] at hcq hq16 hst
          rw [hrk] at hck hk16 hst
          obtain ⟨bb, hbb⟩ : ∃ b, rq.testBit k = b := ⟨_, rfl⟩
          rw [hbb] at hst
          have HS := Lib.hid hst
          have HJ := Lib.hid hJ
          have HS4 := Lib.hid hS4
          have hB : Calls Try.prog 38 #[.int .i64 (rq : Int), .int .i64 (k : Int)] wi fun e w' => e = .returned (.int .i64 (if bb then 1 else 0)) ∧ wi = w' := by
            have := lbit_any rq k wi (by omega) (by omega); rw [hbb] at this; exact this
          have HB := Lib.hid hB
          have hor := or_nat rq rk (by omega) (by omega)
          have hq4 : (q : Int) < 4 := by omega
          have hq0 : (0 : Int) ≤ (q : Int) := by omega
          have hnw := World.new_ne wi _ hcq
          clear hJ hS4 hst hrq hrk hbb hB
          cases bb
          · go_wp2_with fail
            refine HB.out.mono ?_
            rintro e w5 ⟨rfl, rfl⟩
            go_wp2_with fail
            go_roundw
            case rel => exact ⟨q + 1, by omega, by go_num, by rw [HS.out]; exact HJ.out⟩
            case measure => simp [intOf]; omega
          · go_wp2_with fail
            refine HB.out.mono ?_
            rintro e w5 ⟨rfl, rfl⟩
            have HSET : Hid (TwInv w g (twIn k R (q + 1)) rest (wi.setCell ⟨g, q, none⟩ (.int .i64 ((rq ||| rk : Nat) : Int)))) := by
              show TwInv _ _ _ _ _
              rw [HS.out, if_pos (by first | rfl | trivial)]
              exact HJ.out.set hge hlt2 HS4.out _
            go_wp2_with fail
            go_region
            go_wp2_with fail
            go_roundw
            case rel => exact ⟨q + 1, by omega, by go_num, HSET.out.drew⟩
            case measure => simp [intOf]; omega
        · have e : q = 4 := by omega
          subst e
          rw [← hgk.out] at hJ
          have HJ := Lib.hid hJ
          clear hJ
          go_wp2_with fail
          go_roundw
          case rel => exact ⟨k + 1, by omega, by go_num, HJ.out⟩
          case measure => simp [intOf]; omega
    · have hdk : decide ((k : Int) < 4) = false := by simp; omega
      have hR4 : Hid (Rows4 (twOut rows k)) := twOut_ok H4.out k
      have hg2 : turnB rows = (List.range 4).any fun i => ((twOut rows k).getD i 0).testBit i := by
        have e : k = 4 := by omega
        rw [e]; exact hgood.out
      have hgood := Lib.hid hg2
      clear hg2
      generalize twOut rows k = R at *
      have HI := Lib.hid hI
      clear hI
      go_wp2_with fail
      go_loopw [6] (fun i wr => ∃ q : Nat, q ≤ 4 ∧ i = .int .i64 q ∧ TwInv w g R rest wr ∧ ∀ j, j < q → (R.getD j 0).testBit j = false) (fun i _ => 4 - (intOf i).toNat)
      case atStart => exact ⟨0, Nat.zero_le _, rfl, HI.out, by omega⟩
      case round =>
        clear HI
        obtain ⟨wi, rfl⟩ : ∃ wi : World, wi = wr := ⟨_, rfl⟩
        obtain ⟨q, hq, rfl, hJ, hno⟩ := hrel
        by_cases hlt2 : q < 4
        · have hdq : decide ((q : Int) < 4) = true := by simp; omega
          obtain ⟨hcq, hfq, hq16⟩ := hJ.at_ hR4.out (T := q) (by omega)
          obtain ⟨bb, hbb⟩ : ∃ b, (R.getD q 0).testBit q = b := ⟨_, rfl⟩
          have HT : Hid (bb = true → turnB rows = true) := by
            intro h
            rw [hgood.out]
            exact List.any_eq_true.2 ⟨q, List.mem_range.2 hlt2, by rw [hbb, h]⟩
          have HN : Hid (bb = false → ∀ j, j < q + 1 → (R.getD j 0).testBit j = false) := by
            intro h j hj
            by_cases e : j = q
            · subst e; rw [hbb, h]
            · exact hno j (by omega)
          have HJ := Lib.hid hJ
          have hB : Calls Try.prog 38 #[.int .i64 ((R.getD q 0 : Nat) : Int), .int .i64 (q : Int)] wi fun e w' => e = .returned (.int .i64 (if bb then 1 else 0)) ∧ wi = w' := by
            have := lbit_any (R.getD q 0) q wi (by omega) (by omega); rw [hbb] at this; exact this
          have HB := Lib.hid hB
          have hq4 : (q : Int) < 4 := by omega
          have hq0 : (0 : Int) ≤ (q : Int) := by omega
          generalize R.getD q 0 = rq at *
          clear hJ hno hbb hB
          cases bb
          · go_wp2_with fail
            refine HB.out.mono ?_
            rintro e w5 ⟨rfl, rfl⟩
            go_wp2_with fail
            go_roundw
            case rel => exact ⟨q + 1, by omega, by go_num, HJ.out, HN.out (by first | rfl | trivial)⟩
            case measure => simp [intOf]; omega
          · go_wp2_with fail
            refine HB.out.mono ?_
            rintro e w5 ⟨rfl, rfl⟩
            have hend := Lib.hid (HT.out (by first | rfl | trivial))
            go_wp2_with fail
            go_ret
            exact ⟨ret_bool hend.out.symm, HJ.out.below⟩
        · have hend : Hid (turnB rows = false) := by
            show _ = _
            rw [hgood.out, List.any_eq_false]
            intro j hj
            rw [hno j (by have := List.mem_range.1 hj; omega)]
            simp
          have HJ := Lib.hid hJ.below
          clear hJ hno
          go_wp2_with fail
          go_ret
          exact ⟨ret_bool hend.out.symm, HJ.out⟩
end Go.Proofs.Ytofcpfabjfhjoaa
namespace Go.Proofs.Ytofcpfabjfhjoaa
open Go.RowKit Go.BigFrame
set_option linter.unusedVariables false

theorem opCells_set (xs : List OpV) : ∀ (i : Nat) (o : OpV), xs[i]? = some o → ∀ v : Int,
    (opCells xs).set (i * 3) (.int .i64 v) = opCells (xs.set i ⟨v, o.kind, o.item⟩) ∧ (opCells xs).set (i * 3 + 1) (.int .i64 v) = opCells (xs.set i ⟨o.tx, v, o.item⟩) ∧
    (opCells xs).set (i * 3 + 2) (.int .i64 v) = opCells (xs.set i ⟨o.tx, o.kind, v⟩) := by
  induction xs with
  | nil => intro i o h; simp at h
  | cons x r ih =>
    intro i o h v
    cases i with
    | zero => simp at h; subst h; simp [opCells]
    | succ i =>
      obtain ⟨h0, h1, h2⟩ := ih i o (by simpa using h) v
      have e : (i + 1) * 3 = i * 3 + 3 := by omega
      refine ⟨?_, ?_, ?_⟩
      · rw [e]; simp [opCells, h0]
      · rw [e]; simp [opCells, h1]
      · rw [e]; simp [opCells, h2]

def BentPost (w0 : World) (rb L n : Nat) (v : Value) (e : Ending) (w : World) : Prop :=
  ∃ (xs : List OpV) (p : Nat), e = .returned v ∧ w.ownsRow L 46 3 v n (opCells xs) ∧ Rd w rb p ∧ p ≤ 80000 ∧ Only rb w0 w

theorem bent_step {w0 w : World} {rb L n p g c : Nat} {xs : List OpV} (hown : w.ownsRow L 46 3 (.slice (some ⟨g, 0, none⟩) n c) n (opCells xs)) (hr : Rd w rb p) (hp : p ≤ 80000) (hO : Only rb w0 w)
    (hL : w0.heap.size ≤ L) (hrb : rb < w0.heap.size) (i : Nat) (hi : i < n) (v : Int) :
    BentPost w0 rb L n (.slice (some ⟨g, 0, none⟩) n c) (.returned (.slice (some ⟨g, 0, none⟩) n c)) (w.setCell ⟨g, i * 3, none⟩ (.int .i64 v)) ∧
    BentPost w0 rb L n (.slice (some ⟨g, 0, none⟩) n c) (.returned (.slice (some ⟨g, 0, none⟩) n c)) (w.setCell ⟨g, i * 3 + 1, none⟩ (.int .i64 v)) ∧
    BentPost w0 rb L n (.slice (some ⟨g, 0, none⟩) n c) (.returned (.slice (some ⟨g, 0, none⟩) n c)) (w.setCell ⟨g, i * 3 + 2, none⟩ (.int .i64 v)) := by
  have hl := hown.1
  rw [length_opCells] at hl
  have e : xs[i]? = some (xs[i]'(by omega)) := List.getElem?_eq_getElem (by omega)
  have hset := opCells_set xs i _ e v
  have hg := World.ownsRow.lt hown g rfl
  have hk : ∀ j, Rd (w.setCell ⟨g, j, none⟩ (.int .i64 v)) rb p ∧ Only rb w0 (w.setCell ⟨g, j, none⟩ (.int .i64 v)) := fun j =>
    ⟨hr.grown (hown.stored j _).2 fun k hk => by injection hk with hk; omega, hO.grown (hown.stored j _).2 fun k hk => by injection hk with hk; omega⟩
  have h0 := (hown.stored (i * 3) (.int .i64 v)).1
  have h1 := (hown.stored (i * 3 + 1) (.int .i64 v)).1
  have h2 := (hown.stored (i * 3 + 2) (.int .i64 v)).1
  rw [hset.1] at h0
  rw [hset.2.1] at h1
  rw [hset.2.2] at h2
  exact ⟨⟨_, p, rfl, h0, (hk _).1, hp, (hk _).2⟩, ⟨_, p, rfl, h1, (hk _).1, hp, (hk _).2⟩, ⟨_, p, rfl, h2, (hk _).1, hp, (hk _).2⟩⟩

theorem own_cells3 {w : World} {L n c g : Nat} {xs : List OpV} (hown : w.ownsRow L 46 3 (.slice (some ⟨g, 0, none⟩) n c) n (opCells xs)) {i : Nat} (hi : i < n) : ∃ o : OpV,
    w.cell? ⟨g, i * 3, none⟩ = some (.int .i64 o.tx) ∧ w.cell? ⟨g, i * 3 + 1, none⟩ = some (.int .i64 o.kind) ∧ w.cell? ⟨g, i * 3 + 2, none⟩ = some (.int .i64 o.item) := by
  have hl := hown.1
  rw [length_opCells] at hl
  have e : xs[i]? = some (xs[i]'(by omega)) := List.getElem?_eq_getElem (by omega)
  obtain ⟨c0, c1, c2⟩ := opCells_at xs i _ e
  exact ⟨_, (hown.cellAt _ (by omega)).trans c0, (hown.cellAt _ (by omega)).trans c1, (hown.cellAt _ (by omega)).trans c2⟩

set_option maxRecDepth 100000 in
set_option maxHeartbeats 2000000 in
theorem bent_any (rb p L n c : Nat) (A : Option Addr) (xs : List OpV) (w0 w : World) (h : Rd w rb p) (hp : p ≤ 70000) (hown : w.ownsRow L 46 3 (.slice A n c) n (opCells xs)) (hn : n ≤ 20) (hO : Only rb w0 w)
    (hL : w0.heap.size ≤ L) (hrb : rb < w0.heap.size) :
    Calls Try.prog 115 #[.pointer (some ⟨rb, 0, none⟩), .slice A n c] w (BentPost w0 rb L n (.slice A n c)) := by
  have hsz := hO.size
  go_enter Try.func115, Try.ntmps115
  go_wp2_with fail
  refine (pick_any rb p 40 w h (by omega) (by omega)).mono ?_
  rintro e w1 ⟨k, rfl, hr1, _, _, ho1⟩
  have hown1 := own_only hown ho1 (by omega)
  have hO1 := hO.trans ho1
  have hend : Hid (BentPost w0 rb L n (.slice A n c) (.returned (.slice A n c)) w1) := ⟨xs, _, rfl, hown1, hr1, by omega, hO1⟩
  by_cases hn0 : 0 < n
  · obtain ⟨g, c', hve, hg1, hg2⟩ := own_block hown1 hn0
    injection hve with hA _ hc
    subst hA; subst hc
    clear hown
    by_cases h0 : k = 0
    · go_wp2_with fail
      refine (pick_any rb _ _ _ hr1 (by omega) (by omega)).mono ?_
      rintro e w2 ⟨i, rfl, hr2, _, hi, ho2⟩
      obtain ⟨hi0, hi1⟩ := hi (by omega)
      obtain ⟨i, rfl⟩ := Int.eq_ofNat_of_zero_le hi0
      have hown2 := own_only hown1 ho2 (by omega)
      have hs2 := ho2.size
      have hlt2 := hr2.lt
      go_wp2_with fail
      refine (one_any rb _ _ _ _ _ _ (hr2.alloc _) (by omega) (lit3 rfl 4 (-1) 2) (by omega) (far_lit hlt2)).mono ?_
      rintro e w3 ⟨v, rfl, _, hr3, ho3⟩
      have hown3 := own_only (hown2.alloc _) ho3 (by omega)
      have hst := (bent_step hown3 hr3 (by omega) (((hO1.trans ho2).alloc _).trans ho3) hL hrb i (by omega) v).2.1
      obtain ⟨o, d0, d1, d2⟩ := own_cells3 hown3 (i := i) (by omega)
      have hf := hown3.frozenAt (i * 3 + 1)
      go_wp2_with fail
      go_ret
      exact hst
    · by_cases h1 : k = 1
      · go_wp2_with fail
        refine (pick_any rb _ _ _ hr1 (by omega) (by omega)).mono ?_
        rintro e w2 ⟨i, rfl, hr2, _, hi, ho2⟩
        obtain ⟨hi0, hi1⟩ := hi (by omega)
        obtain ⟨i, rfl⟩ := Int.eq_ofNat_of_zero_le hi0
        have hown2 := own_only hown1 ho2 (by omega)
        have hs2 := ho2.size
        have hlt2 := hr2.lt
        go_wp2_with fail
        refine (one_any rb _ _ _ _ _ _ (hr2.alloc _) (by omega) (lit3 rfl 4 (-1) 0) (by omega) (far_lit hlt2)).mono ?_
        rintro e w3 ⟨v, rfl, _, hr3, ho3⟩
        have hown3 := own_only (hown2.alloc _) ho3 (by omega)
        have hst := (bent_step hown3 hr3 (by omega) (((hO1.trans ho2).alloc _).trans ho3) hL hrb i (by omega) v).1
        obtain ⟨o, d0, d1, d2⟩ := own_cells3 hown3 (i := i) (by omega)
        have hf := hown3.frozenAt (i * 3)
        go_wp2_with fail
        go_ret
        exact hst
      · by_cases h2 : k = 2
        · go_wp2_with fail
          refine (pick_any rb _ _ _ hr1 (by omega) (by omega)).mono ?_
          rintro e w2 ⟨i, rfl, hr2, _, hi, ho2⟩
          obtain ⟨hi0, hi1⟩ := hi (by omega)
          obtain ⟨i, rfl⟩ := Int.eq_ofNat_of_zero_le hi0
          have hown2 := own_only hown1 ho2 (by omega)
          have hs2 := ho2.size
          have hlt2 := hr2.lt
          go_wp2_with fail
          refine (one_any rb _ _ _ _ _ _ (hr2.alloc _) (by omega) (lit3 rfl 3 (-1) 1) (by omega) (far_lit hlt2)).mono ?_
          rintro e w3 ⟨v, rfl, _, hr3, ho3⟩
          have hown3 := own_only (hown2.alloc _) ho3 (by omega)
          have hst := (bent_step hown3 hr3 (by omega) (((hO1.trans ho2).alloc _).trans ho3) hL hrb i (by omega) v).2.2
          obtain ⟨o, d0, d1, d2⟩ := own_cells3 hown3 (i := i) (by omega)
          have hf := hown3.frozenAt (i * 3 + 2)
          go_wp2_with fail
          go_ret
          exact hst
        · clear hown1 hr1 ho1 hO1
          go_wp2_with fail
          go_ret
          exact hend.out
  · have hn1 : n = 0 := by omega
    subst hn1
    clear hown hown1 hr1 ho1 hO1
    by_cases h0 : k = 0
    · go_wp2_with fail
      go_ret
      exact hend.out
    · by_cases h1 : k = 1
      · go_wp2_with fail
        go_ret
        exact hend.out
      · by_cases h2 : k = 2
        · go_wp2_with fail
          go_ret
          exact hend.out
        · go_wp2_with fail
          go_ret
          exact hend.out

/-- Some operations, at most twenty, in memory of the call's own. -/
def Drawn (w0 : World) (e : Ending) (w : World) : Prop :=
  ∃ (A : Option Addr) (n c : Nat) (xs : List OpV), e = .returned (.slice A n c) ∧ w.ownsRow w0.heap.size 46 3 (.slice A n c) n (opCells xs) ∧ n ≤ 20 ∧ Below w0.heap.size w0 w

def SomeSched (w0 : World) (rb : Nat) (e : Ending) (w : World) : Prop :=
  ∃ (A : Option Addr) (n c p : Nat) (xs : List OpV), e = .returned (.slice A n c) ∧ w.ownsRow w0.heap.size 46 3 (.slice A n c) n (opCells xs) ∧ n ≤ 20 ∧ Rd w rb p ∧ p ≤ 80000 ∧ Only rb w0 w

set_option maxHeartbeats 400000 in
theorem someSchedule_any (rb p : Nat) (w : World) (h : Rd w rb p) (hp : p ≤ 50000) :
    Calls Try.prog 67 #[.pointer (some ⟨rb, 0, none⟩)] w (SomeSched w rb) := by
  have hlt := h.lt
  go_enter Try.func67, Try.ntmps67
  go_wp2_with fail
  refine (goodSchedule_any rb p 16 w h hp (by omega)).mono ?_
  rintro e w1 ⟨v, n, xs, q, rfl, hown, hn, hr, hq, hO⟩
  obtain ⟨A, c, rfl⟩ := own_form hown
  go_wp2_with fail
  refine (bent_any rb q w.heap.size n c A xs w w1 hr (by omega) hown hn hO (Nat.le_refl _) hlt).mono ?_
  rintro e w2 ⟨xs', q', rfl, hown', hr', hq', hO'⟩
  go_wp2_with fail
  go_ret
  exact ⟨A, n, c, q', xs', rfl, hown', hn, hr', hq', hO'⟩

set_option maxHeartbeats 400000 in
theorem DrawSurvivorsOf_any (A : Option Addr) (n c : Nat) (w : World) (hx : RBytes w A n) (hc : n ≤ c) :
    Calls Try.prog 15 #[.slice A n c] w (Drawn w) := by
  go_enter Try.func15, Try.ntmps15
  go_wp2_with fail
  refine (newReader_any A n c w hx hc).mono ?_
  rintro e w1 ⟨rb, rfl, hrb, hr, hb⟩
  go_wp2_with fail
  refine (someSchedule_any rb 0 w1 hr (by omega)).mono ?_
  rintro e w2 ⟨A', n', c', p', xs, rfl, hown, hn', _, _, hO⟩
  go_wp2_with fail
  go_ret
  have hs := hb.size
  exact ⟨A', n', c', xs, rfl, own_base hown hs, hn', hb.trans ⟨hO.os, hO.tape, hO.output, hO.size, fun k hk => hO.heap (by omega) (by omega)⟩⟩
#print axioms DrawSurvivorsOf_any
end Go.Proofs.Ytofcpfabjfhjoaa
namespace Go.Proofs.Ytofcpfabjfhjoaa
open Go.RowKit Go.BigFrame
set_option linter.unusedVariables false

set_option maxHeartbeats 400000 in
theorem DrawPivotOf_any (A : Option Addr) (n c : Nat) (w : World) (hx : RBytes w A n) (hc : n ≤ c) :
    Calls Try.prog 36 #[.slice A n c] w (Drawn w) := by
  go_enter Try.func36, Try.ntmps36
  go_wp2_with fail
  refine (newReader_any A n c w hx hc).mono ?_
  rintro e w1 ⟨rb, rfl, hrb, hr, hb⟩
  go_wp2_with fail
  refine (someSchedule_any rb 0 w1 hr (by omega)).mono ?_
  rintro e w2 ⟨A', n', c', p', xs, rfl, hown, hn', _, _, hO⟩
  go_wp2_with fail
  go_ret
  have hs := hb.size
  exact ⟨A', n', c', xs, rfl, own_base hown hs, hn', hb.trans ⟨hO.os, hO.tape, hO.output, hO.size, fun k hk => hO.heap (by omega) (by omega)⟩⟩

set_option maxHeartbeats 400000 in
theorem DrawAgainstOf_any (A : Option Addr) (n c : Nat) (w : World) (hx : RBytes w A n) (hc : n ≤ c) :
    Calls Try.prog 39 #[.slice A n c] w (Drawn w) := by
  go_enter Try.func39, Try.ntmps39
  go_wp2_with fail
  refine (newReader_any A n c w hx hc).mono ?_
  rintro e w1 ⟨rb, rfl, hrb, hr, hb⟩
  go_wp2_with fail
  refine (someSchedule_any rb 0 w1 hr (by omega)).mono ?_
  rintro e w2 ⟨A', n', c', p', xs, rfl, hown, hn', _, _, hO⟩
  go_wp2_with fail
  go_ret
  have hs := hb.size
  exact ⟨A', n', c', xs, rfl, own_base hown hs, hn', hb.trans ⟨hO.os, hO.tape, hO.output, hO.size, fun k hk => hO.heap (by omega) (by omega)⟩⟩

set_option maxHeartbeats 400000 in
theorem DrawVersionsOf_any (A : Option Addr) (n c : Nat) (w : World) (hx : RBytes w A n) (hc : n ≤ c) :
    Calls Try.prog 44 #[.slice A n c] w (Drawn w) := by
  go_enter Try.func44, Try.ntmps44
  go_wp2_with fail
  refine (newReader_any A n c w hx hc).mono ?_
  rintro e w1 ⟨rb, rfl, hrb, hr, hb⟩
  go_wp2_with fail
  refine (someSchedule_any rb 0 w1 hr (by omega)).mono ?_
  rintro e w2 ⟨A', n', c', p', xs, rfl, hown, hn', _, _, hO⟩
  go_wp2_with fail
  go_ret
  have hs := hb.size
  exact ⟨A', n', c', xs, rfl, own_base hown hs, hn', hb.trans ⟨hO.os, hO.tape, hO.output, hO.size, fun k hk => hO.heap (by omega) (by omega)⟩⟩

set_option maxHeartbeats 400000 in
theorem DrawVersionGraph_any (A : Option Addr) (n c : Nat) (w : World) (hx : RBytes w A n) (hc : n ≤ c) :
    Calls Try.prog 49 #[.slice A n c] w (Drawn w) := by
  go_enter Try.func49, Try.ntmps49
  go_wp2_with fail
  refine (newReader_any A n c w hx hc).mono ?_
  rintro e w1 ⟨rb, rfl, hrb, hr, hb⟩
  go_wp2_with fail
  refine (someSchedule_any rb 0 w1 hr (by omega)).mono ?_
  rintro e w2 ⟨A', n', c', p', xs, rfl, hown, hn', _, _, hO⟩
  go_wp2_with fail
  go_ret
  have hs := hb.size
  exact ⟨A', n', c', xs, rfl, own_base hown hs, hn', hb.trans ⟨hO.os, hO.tape, hO.output, hO.size, fun k hk => hO.heap (by omega) (by omega)⟩⟩

set_option maxHeartbeats 400000 in
theorem DrawSnapshotOrders_any (A : Option Addr) (n c : Nat) (w : World) (hx : RBytes w A n) (hc : n ≤ c) :
    Calls Try.prog 56 #[.slice A n c] w (Drawn w) := by
  go_enter Try.func56, Try.ntmps56
  go_wp2_with fail
  refine (newReader_any A n c w hx hc).mono ?_
  rintro e w1 ⟨rb, rfl, hrb, hr, hb⟩
  go_wp2_with fail
  refine (someSchedule_any rb 0 w1 hr (by omega)).mono ?_
  rintro e w2 ⟨A', n', c', p', xs, rfl, hown, hn', _, _, hO⟩
  go_wp2_with fail
  go_ret
  have hs := hb.size
  exact ⟨A', n', c', xs, rfl, own_base hown hs, hn', hb.trans ⟨hO.os, hO.tape, hO.output, hO.size, fun k hk => hO.heap (by omega) (by omega)⟩⟩

end Go.Proofs.Ytofcpfabjfhjoaa
namespace Go.Proofs.Ytofcpfabjfhjoaa
open Go.RowKit Go.BigFrame
set_option linter.unusedVariables false

set_option maxRecDepth 100000 in
set_option maxHeartbeats 4000000 in
theorem law_snapshotOrders (A : Option Addr) (n c : Nat) (w : World) (hin : BytesIn w A n c) :
    Calls Try.prog 11 #[.slice A n c] w fun e w' => e = .returned (.bool true) ∧ Below w.heap.size w w' := by
  obtain ⟨hx, hnc⟩ := hin
  have hn := hx.1
  by_cases hbig : 1048576 < n
  · clear hx
    go_enter Try.func11, Try.ntmps11
    go_wp2_with fail
    go_ret
    exact ⟨rfl, Below.refl _ _⟩
  · have HD := Lib.hid (DrawSnapshotOrders_any A n c w hx hnc)
    clear hx
    go_enter Try.func11, Try.ntmps11
    go_wp2_with fail
    refine HD.out.mono ?_
    rintro e w1 ⟨S, m, d, s, rfl, hown, hm, hb1⟩
    have hmd : m ≤ d := by obtain ⟨A', c', he, h⟩ := own_form2 hown; injection he with _ _ he; omega
    have HS := Lib.hid (ROps.of_own hown (by omega))
    have hI : orNil (validS s) (snapI s) = orNil (validS s) (snapS s) := by
      cases hv : validS s
      · rfl
      · rw [snap_eq hv]
    obtain ⟨ys, hys⟩ : ∃ ys, orNil (validS s) (snapS s) = ys := ⟨_, rfl⟩
    have hbd : ys.length ≤ 1024 := by
      rw [← hys, ← hI]
      cases hv : validS s
      · simp [orNil]
      · exact (snapI_bd hv).1
    obtain ⟨bv, hbv⟩ : ∃ bv, validS s = bv := ⟨_, rfl⟩
    have c1 : ∀ W : World, ROps W S m s → Calls Try.prog 52 #[.slice S m d] W (RetLists W ys) := fun W h => by
      have := SnapshotOrders_any S m d s W h hmd; rw [hI, hys] at this; exact retL (fun e w h => h.lists) this
    have c2 : ∀ W : World, ROps W S m s → Calls Try.prog 51 #[.slice S m d] W (RetLists W ys) := fun W h => by
      have := sSnapshotOrders_any S m d s W h hmd; rw [hys] at this; exact this
    have c3 : ∀ W : World, ROps W S m s → Calls Try.prog 19 #[.slice S m d] W fun e w' => e = .returned (.bool bv) ∧ Below W.heap.size W w' := fun W h => by
      have := ValidSchedule_any S m d s W h hmd; rw [hbv] at this; exact this
    have C1 := Lib.hid c1
    have C2 := Lib.hid c2
    have C3 := Lib.hid c3
    have HY := Lib.hid hys
    have HV := Lib.hid hbv
    clear hown HD c1 c2 c3 hI hys hbv
    go_wp2_with fail
    refine (C1.out w1 HS.out).mono ?_
    rintro e w2 ⟨O, oc, rvo, rfl, hoc, hoo, horr, hb2⟩
    have hro : LstsAt w2 O ys.length ys := LstsAt.of hoo horr rfl (by omega)
    clear hoo horr
    have hb12 : Below w.heap.size w w2 := hb1.trans (hb2.mono hb1.size)
    have HS2 := Lib.hid (HS.out.below hb2 (Nat.le_refl _))
    have HRO := Lib.hid hro
    clear hro
    go_wp2_with fail
    refine (C2.out w2 HS2.out).mono ?_
    rintro e w3 ⟨O3, c3, rv3, rfl, hc3, ho3, hrr3, hb3⟩
    have hr3 : LstsAt w3 O3 ys.length ys := LstsAt.of ho3 hrr3 rfl (by omega)
    clear ho3 hrr3
    go_wp2_with fail
    refine (equalLists_any O O3 _ oc c3 ys w3 (HRO.out.below hb3) hr3).mono ?_
    rintro e w4 ⟨rfl, hb4⟩
    have hb24 : Below w2.heap.size w2 w4 := hb3.trans (hb4.mono hb3.size)
    clear hr3 hb3 hb4
    go_wp2_with fail
    refine (C3.out w4 (HS2.out.below hb24 (Nat.le_refl _))).mono ?_
    rintro e w5 ⟨rfl, hb5⟩
    have hb25 : Below w2.heap.size w2 w5 := hb24.trans (hb5.mono hb24.size)
    clear hb24 hb5
    cases bv
    · go_wp2_with fail
      refine (C2.out w5 (HS2.out.below hb25 (Nat.le_refl _))).mono ?_
      rintro e w6 ⟨O6, c6, rv6, rfl, hc6, ho6, hrr6, hb6⟩
      have hr6 : LstsAt w6 O6 ys.length ys := LstsAt.of ho6 hrr6 rfl (by omega)
      clear ho6 hrr6
      go_wp2_with fail
      refine (equalLists_any O O6 _ oc c6 ys w6 ((HRO.out.below hb25).below hb6) hr6).mono ?_
      rintro e w7 ⟨rfl, hb7⟩
      go_wp2_with fail
      go_ret
      exact ⟨rfl, hb12.trans ((hb25.trans ((hb6.trans (hb7.mono hb6.size)).mono hb25.size)).mono hb12.size)⟩
    · have hV : validS s = true := HV.out
      have hyv : ys = snapS s := by rw [← HY.out, hV]; rfl
      have hok4 : Rows4 (vgS s) := vgS_ok hV
      have hlen : (rowsI (vgS s)).length = 4 := by simp [rowsI, hok4.1]
      obtain ⟨fb, hfb⟩ : ∃ fb, (pivR (agS4 s) (ovS s)).isSome = fb := ⟨_, rfl⟩
      obtain ⟨tb, htb⟩ : ∃ tb, turnB (vgS s) = tb := ⟨_, rfl⟩
      have hnone : ys = [] ↔ tb = true := by rw [hyv, ← snap_eq hV, ← htb]; exact snap_none_turn hV
      have hpiv : fb = false → ys ≠ [] := fun e => by
        rw [hyv, ← snap_eq hV]
        exact snap_piv hV (by rw [e] at hfb; exact Option.not_isSome_iff_eq_none.1 (by rw [hfb]; simp))
      have hp := PivotOf_any S m d s w5 (HS2.out.below hb25 (Nat.le_refl _)) hmd
      rw [hV, piv_eq hV, hfb, Bool.true_and] at hp
      have HP := Lib.hid hp
      have hvg : ∀ W, ROps W S m s → Calls Try.prog 35 #[.slice S m d] W (RetInts W (rowsI (vgS s))) := fun W h => by
        have := VersionGraph_any S m d s W h hmd
        rw [hV, orN_true rfl, vg_eq hV] at this
        exact this
      have HVG := Lib.hid hvg
      have htn : ∀ (W : World) (G : Option Addr) (g : Nat), RInts W G 4 (rowsI (vgS s)) → Calls Try.prog 50 #[.slice G 4 g] W fun e w' => e = .returned (.bool tb) ∧ Below W.heap.size W w' := fun W G g h => by
        have := turns_any G g (vgS s) W h hok4; rw [htb] at this; exact this
      have HTN := Lib.hid htn
      obtain ⟨N, hN⟩ : ∃ N, ys.length = N := ⟨_, rfl⟩
      have hcase : (N = 0 ∧ tb = true ∧ fb = true) ∨ (0 < N ∧ tb = false) := by
        rcases Nat.eq_zero_or_pos N with h0 | h0
        · have he : ys = [] := List.eq_nil_of_length_eq_zero (by omega)
          refine .inl ⟨h0, hnone.1 he, ?_⟩
          cases h : fb
          · exact absurd he (hpiv h)
          · rfl
        · refine .inr ⟨h0, ?_⟩
          cases h : tb
          · rfl
          · have := hnone.2 h; rw [this] at hN; simp at hN; omega
      have HLEN := Lib.hid hlen
      rw [hN] at HRO hoc hbd ⊢
      clear hp hvg htn hN hnone hpiv hfb htb hok4 hlen hyv hV HY HV C1 C2 C3
      generalize vgS s = R at *
      generalize orNil true (pivL (pivR (agS4 s) (ovS s))) = pl at *
      go_wp2_with fail
      refine HP.out.mono ?_
      rintro e w6 ⟨P6, c6, rfl, _, _, hb6⟩
      have hb26 := hb25.trans (hb6.mono hb25.size)
      have HS6 := Lib.hid (HS2.out.below hb26 (Nat.le_refl _))
      have hb16 := hb12.trans (hb26.mono hb12.size)
      clear hb6 hb25
      rcases hcase with ⟨rfl, rfl, rfl⟩ | ⟨hN0, rfl⟩
      · go_wp2_with fail
        refine (HVG.out w6 HS6.out).mono ?_
        rintro e w7 ⟨G, g, rfl, _, ⟨hg, _⟩, hb7⟩
        rw [HLEN.out] at hg
        rw [HLEN.out]
        have HG := Lib.hid hg
        clear hg
        go_wp2_with fail
        refine (HTN.out w7 G g HG.out).mono ?_
        rintro e w8 ⟨rfl, hb8⟩
        go_wp2_with fail
        go_ret
        exact ⟨rfl, hb16.trans ((hb7.trans (hb8.mono hb7.size)).mono hb16.size)⟩
      · have hn0 : ((N : Int) == 0) = false := by simp; omega
        cases fb
        all_goals
          go_wp2_with fail
          refine (HVG.out w6 HS6.out).mono ?_
          rintro e w7 ⟨G, g, rfl, _, ⟨hg, _⟩, hb7⟩
          rw [HLEN.out] at hg
          rw [HLEN.out]
          have HG := Lib.hid hg
          clear hg
          go_wp2_with fail
          refine (HTN.out w7 G g HG.out).mono ?_
          rintro e w8 ⟨rfl, hb8⟩
          go_wp2_with fail
          go_ret
          exact ⟨rfl, hb16.trans ((hb7.trans (hb8.mono hb7.size)).mono hb16.size)⟩
end Go.Proofs.Ytofcpfabjfhjoaa
