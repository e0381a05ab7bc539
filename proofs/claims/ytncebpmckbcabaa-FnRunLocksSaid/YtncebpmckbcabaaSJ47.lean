/-
  Texts that the proof rests on, joined: part 47.
-/
import Derived.Deep.RegionHeld
import Derived.Test.YtncebpmckbcabaaSJ3
import Derived.Test.YtncebpmckbcabaaSJ4
import Derived.Test.YtncebpmckbcabaaSJ5
import Derived.Test.YtncebpmckbcabaaSJ15
import Derived.Test.YtncebpmckbcabaaSJ36
namespace Go.Proofs.Ytncebpmckbcabaa
open Go.RowKit Go.BigFrame
set_option linter.unusedVariables false

/-- The ways that the law's 'turns' adds. -/
def twIn (k : Nat) (rows : List Nat) : Nat → List Nat
  | 0 => rows
  | i + 1 => if ((twIn k rows i).getD i 0).testBit k then (twIn k rows i).set i ((twIn k rows i).getD i 0 ||| (twIn k rows i).getD k 0) else twIn k rows i
def twOut (rows : List Nat) : Nat → List Nat
  | 0 => rows
  | k + 1 => twIn k (twOut rows k) 4
def turnB (rows : List Nat) : Bool := (List.range 4).any fun i => ((twOut rows 4).getD i 0).testBit i
theorem or16 {a b : Nat} (ha : a < 16) (hb : b < 16) : a ||| b < 16 := Nat.or_lt_two_pow (n := 4) ha hb
theorem getD16 {rows : List Nat} (h : Rows4 rows) (i : Nat) : rows.getD i 0 < 16 := by
  rw [List.getD_eq_getElem?_getD]
  cases e : rows[i]? with
  | none => simp
  | some x => exact h.2 x (List.mem_of_getElem? e)
theorem set_ok {rows : List Nat} (h : Rows4 rows) {i v : Nat} (hv : v < 16) : Rows4 (rows.set i v) := by
  refine ⟨by rw [List.length_set]; exact h.1, fun r hr => ?_⟩
  rcases List.mem_or_eq_of_mem_set hr with h1 | h1
  · exact h.2 r h1
  · omega
theorem twIn_ok {k : Nat} {rows : List Nat} (h : Rows4 rows) (i : Nat) : Rows4 (twIn k rows i) := by
  induction i with
  | zero => exact h
  | succ i ih =>
    simp only [twIn]
    split
    · exact set_ok ih (or16 (getD16 ih _) (getD16 ih _))
    · exact ih
theorem twOut_ok {rows : List Nat} (h : Rows4 rows) (k : Nat) : Rows4 (twOut rows k) := by
  induction k with
  | zero => exact h
  | succ k ih => exact twIn_ok ih 4
theorem getD_set {rows : List Nat} {i j v : Nat} (hi : i < rows.length) : (rows.set i v).getD j 0 = if i = j then v else rows.getD j 0 := by
  rw [List.getD_eq_getElem?_getD, List.getElem?_set, List.getD_eq_getElem?_getD]
  split
  · rename_i e; subst e; first | rfl | (rw [if_pos hi]; rfl)
  · rfl
/-- A rank that grows along all ways grows along those that are added. -/
theorem twIn_rank {f : Nat → Nat} {k : Nat} {rows : List Nat} (h4 : Rows4 rows) (h : ∀ t u, (rows.getD t 0).testBit u = true → f t < f u) (i : Nat) (hi : i ≤ 4) : ∀ t u, ((twIn k rows i).getD t 0).testBit u = true → f t < f u := by
  induction i with
  | zero => exact h
  | succ i ih =>
    have hr := ih (by omega)
    simp only [twIn]
    split
    · rename_i hb
      intro t u htu
      rw [getD_set (by have := (twIn_ok (k := k) h4 i).1; omega)] at htu
      split at htu
      · rename_i e
        subst e
        rw [Nat.testBit_or, Bool.or_eq_true] at htu
        rcases htu with a | a
        · exact hr _ _ a
        · exact Nat.lt_trans (hr _ _ hb) (hr _ _ a)
      · exact hr _ _ htu
    · exact hr
theorem twOut_rank {f : Nat → Nat} {rows : List Nat} (h4 : Rows4 rows) (h : ∀ t u, (rows.getD t 0).testBit u = true → f t < f u) (k : Nat) : ∀ t u, ((twOut rows k).getD t 0).testBit u = true → f t < f u := by
  induction k with
  | zero => exact h
  | succ k ih => exact twIn_rank (twOut_ok h4 k) ih 4 (Nat.le_refl _)
theorem turnB_rank {f : Nat → Nat} {rows : List Nat} (h4 : Rows4 rows) (h : ∀ t u, (rows.getD t 0).testBit u = true → f t < f u) : turnB rows = false := by
  unfold turnB
  rw [List.any_eq_false]
  intro i _ hb
  have := twOut_rank h4 h 4 i i hb
  omega
end Go.Proofs.Ytncebpmckbcabaa
namespace Go.Proofs.Ytncebpmckbcabaa
set_option linter.unusedVariables false

def allW (a : Nat) : Bool := (List.range 16).all fun b => b.testBit 1 || (List.range 16).all fun c => c.testBit 2 || (List.range 16).all fun d => d.testBit 3 || (!(cycT [a, b, c, d]).isEmpty || !turnB [a, b, c, d])
set_option maxRecDepth 100000 in
theorem cyw0 : allW 0 = true := by decide +kernel
set_option maxRecDepth 100000 in
theorem cyw2 : allW 2 = true := by decide +kernel
set_option maxRecDepth 100000 in
theorem cyw4 : allW 4 = true := by decide +kernel
set_option maxRecDepth 100000 in
theorem cyw6 : allW 6 = true := by decide +kernel
set_option maxRecDepth 100000 in
theorem cyw8 : allW 8 = true := by decide +kernel
set_option maxRecDepth 100000 in
theorem cyw10 : allW 10 = true := by decide +kernel
set_option maxRecDepth 100000 in
theorem cyw12 : allW 12 = true := by decide +kernel
set_option maxRecDepth 100000 in
theorem cyw14 : allW 14 = true := by decide +kernel
/-- Where there is no circle nothing turns. -/
theorem turn_cyc {R : List Nat} (h4 : Rows4 R) (hd : ∀ t : Nat, t < 4 → (R.getD t 0).testBit t = false) (hc : cycT R = []) : turnB R = false := by
  obtain ⟨hl, hr⟩ := h4
  match R, hl with
  | [a, b, c, d], _ =>
    have ha := hr a (by simp)
    have hb := hr b (by simp)
    have hcc := hr c (by simp)
    have hdd := hr d (by simp)
    have da := hd 0 (by omega)
    have db := hd 1 (by omega)
    have dc := hd 2 (by omega)
    have de := hd 3 (by omega)
    simp only [List.getD_cons_zero, List.getD_cons_succ] at da db dc de
    have hA : allW a = true := by
      have ha2 : a % 2 = 0 := by
        rw [Nat.testBit_zero] at da
        simp at da
        omega
      rcases (by omega : a = 0 ∨ a = 2 ∨ a = 4 ∨ a = 6 ∨ a = 8 ∨ a = 10 ∨ a = 12 ∨ a = 14) with rfl | rfl | rfl | rfl | rfl | rfl | rfl | rfl
      · exact cyw0
      · exact cyw2
      · exact cyw4
      · exact cyw6
      · exact cyw8
      · exact cyw10
      · exact cyw12
      · exact cyw14
    unfold allW at hA
    have h1 := all16 hA hb
    rw [db, Bool.false_or] at h1
    have h2 := all16 h1 hcc
    rw [dc, Bool.false_or] at h2
    have h3 := all16 h2 hdd
    rw [de, Bool.false_or, hc] at h3
    simpa using h3
theorem first_at {W : List OpV} {t : Int} {o : OpV} (h : (opsOf W t).head? = some o) : ∃ j, W[j]? = some o ∧ frstB W j = true ∧ o.tx = t := by
  unfold opsOf at h
  rw [List.head?_filter, List.find?_eq_some_iff_getElem] at h
  obtain ⟨ht, j, hj, hjo, hlt⟩ := h
  have hto : o.tx = t := by simpa using ht
  refine ⟨j, by rw [List.getElem?_eq_getElem hj, hjo], ?_, hto⟩
  unfold frstB
  rw [List.getElem?_eq_getElem hj, hjo]
  simp only
  rw [List.all_eq_true]
  intro p hp
  obtain ⟨i, hi, hpi⟩ := List.getElem_of_mem hp
  rw [List.getElem_take] at hpi
  have hil : i < j := by simp at hi; omega
  have := hlt i hil
  rw [hpi] at this
  rw [hto]
  simpa using this
theorem wayf_ends (p : Int → Bool) {u : Int} (h : u ∈ [0, 1, 2, 3].filter p) : ([0, 1, 2, 3].filter p).headD 0 ≤ u ∧ u ≤ ([0, 1, 2, 3].filter p).getLastD 0 ∧ 0 ≤ u ∧ u ≤ 3 := by
  revert h
  simp only [List.filter_cons, List.filter_nil]
  cases p 0 <;> cases p 1 <;> cases p 2 <;> cases p 3 <;> simp <;> omega
theorem wayf_ne {L : List OpV} {t x k u : Int} (h : u ∈ inWayI L t x k) : u ≠ t := by
  unfold inWayI at h
  have := (List.mem_filter.1 h).2
  rw [Bool.and_eq_true] at this
  simpa using this.1
/-- One who waits for another: the other is in the way of his first operation. -/
theorem wait_edge {D : Dsk} {t u : Nat} (h : ((waitsR D).getD t 0).testBit u = true) : t < 4 ∧ u < 4 ∧ t ≠ u ∧ ∃ (j : Nat) (o : OpV), D.wait[j]? = some o ∧ frstB D.wait j = true ∧ o.tx = (t : Int) ∧ (u : Int) ∈ wayO D.locks o ∧ wayO D.locks o = inWayI D.locks o.tx o.item o.kind := by
  have ht : t < 4 := by
    rcases Nat.lt_or_ge t 4 with h1 | h1
    · exact h1
    · rw [List.getD_eq_getElem?_getD, List.getElem?_eq_none (by rw [show (waitsR D).length = 4 from rfl]; exact h1)] at h
      simp at h
  rw [waitsR_at D ht, waitRow_bit] at h
  obtain ⟨o, ho, he, hu⟩ := h
  obtain ⟨j, hj, hf, hx⟩ := first_at ho
  have hw : wayO D.locks o = inWayI D.locks o.tx o.item o.kind := by unfold wayO; rw [if_neg (by rw [he]; decide)]
  have hne := wayf_ne hu
  have hr := wayf_ends _ hu
  exact ⟨ht, by omega, fun e => hne (by omega), j, o, hj, hf, hx, by rw [hw, hx]; exact hu, hw⟩
theorem edge_die {D : Dsk} {t u : Nat} (hn : nextD .die D = none) (h : ((waitsR D).getD t 0).testBit u = true) : t < u := by
  obtain ⟨ht, hu, hne, j, o, hj, hf, hx, hm, hw⟩ := wait_edge h
  have := none_die hn j (List.getElem?_eq_some_iff.1 hj).1
  unfold dieB at this
  rw [hj] at this
  simp only [hf, Bool.true_and, decide_eq_false_iff_not] at this
  rw [hw] at this hm
  have := (wayf_ends _ hm).1
  unfold inWayI at *
  omega
theorem edge_wound {D : Dsk} {t u : Nat} (hn : nextD .wound D = none) (h : ((waitsR D).getD t 0).testBit u = true) : u < t := by
  obtain ⟨ht, hu, hne, j, o, hj, hf, hx, hm, hw⟩ := wait_edge h
  have := none_wound hn j (List.getElem?_eq_some_iff.1 hj).1
  unfold woundB at this
  rw [hj] at this
  simp only [hf, Bool.true_and, decide_eq_false_iff_not] at this
  rw [hw] at this hm
  have := (wayf_ends _ hm).2.1
  unfold inWayI at *
  omega
/-- Nobody waits in a circle where nothing is left to be done. -/
theorem waits_turn {r : Rul} {D : Dsk} (hn : nextD r D = none) : turnB (waitsR D) = false := by
  cases r
  · exact turn_cyc (waitsR_ok D) (fun t ht => by
      cases e : ((waitsR D).getD t 0).testBit t
      · rfl
      · exact absurd rfl (wait_edge e).2.2.1) (none_wait hn)
  · exact turnB_rank (f := fun x => x) (waitsR_ok D) fun t u h => edge_die hn h
  · exact turnB_rank (f := fun x => 10 - x) (waitsR_ok D) fun t u h => by
      have h1 := edge_wound hn h
      have h2 := (wait_edge h).1
      show 10 - t < 10 - u
      omega
theorem next_nil (r : Rul) : nextD r Dsk.zero = none := by
  have h0 : ∀ p : Nat → Bool, ∀ j, j < Dsk.zero.wait.length → p j = false := fun p j hj => by cases hj
  cases r
  · exact next_wait_no (h0 _) (by decide)
  · exact next_die_no (h0 _) (h0 _)
  · exact next_wound_no (h0 _) (h0 _)
/-- Behind each operation nothing is left to be done. -/
theorem runD_still {r : Rul} {s : List OpV} (hs : ItemsOk s) (k : Nat) : nextD r (runD r (s.take k)) = none := by
  induction k with
  | zero => exact next_nil r
  | succ k ih =>
    cases e : s[k]? with
    | none =>
      have hl : s.length ≤ k := by
        rcases Nat.lt_or_ge k s.length with h | h
        · rw [List.getElem?_eq_getElem h] at e; cases e
        · exact h
      rw [List.take_of_length_le (by omega)]
      rw [List.take_of_length_le (by omega)] at ih
      exact ih
    | some o =>
      rw [runD_succ e]
      have hw := (runD_facts (r := r) (s := s) (fun _ => hs) k).2
      unfold runStep
      split
      · exact ih
      · split
        · exact (resume_fuel (r := r) _ (askD r _ o) (fun h => items_ask (hw h) (hs o (List.mem_of_getElem? e))) (Nat.le_refl _)).2.1
        · rename_i hne
          refine next_waitD ih ?_
          rw [opsOf_anyB] at hne
          simpa using hne
theorem runD_next {r : Rul} {s : List OpV} (hs : ItemsOk s) : nextD r (runD r s) = none := by
  have := runD_still (r := r) hs s.length
  rwa [List.take_length] at this
end Go.Proofs.Ytncebpmckbcabaa
namespace Go.Proofs.Ytncebpmckbcabaa
open Go.RowKit Go.BigFrame
set_option linter.unusedVariables false


set_option maxHeartbeats 400000 in
theorem lpower_any (n : Nat) (w : World) (hn : n ≤ 61) : Calls Try.prog 64 #[.int .i64 (n : Int)] w fun e w' => e = .returned (.int .i64 ((2 ^ n : Nat) : Int)) ∧ w = w' := by
  go_enter Try.func64, Try.ntmps64
  go_wp2_with fail
  go_loop [0, 3] (fun a b => ∃ k : Nat, k ≤ n ∧ a = .int .i64 ((n : Int) - k) ∧ b = .int .i64 ((2 ^ k : Nat) : Int)) (fun a _ => (intOf a).toNat)
  case atStart => exact ⟨0, Nat.zero_le _, by simp, rfl⟩
  case round =>
    obtain ⟨k, hk, rfl, rfl⟩ := hrel
    by_cases hlt : k < n
    · have h2 : 2 ^ k ≤ 2 ^ 61 := Nat.pow_le_pow_right (by omega) (by omega)
      have h3 : Hid (2 ^ (k + 1) = 2 * 2 ^ k) := by show _ = _; rw [Nat.pow_succ]; omega
      generalize hP : 2 ^ k = p at *
      have HP := Lib.hid hP
      clear hP
      have h4 : p ≤ 2305843009213693952 := by have : (2:Nat) ^ 61 = 2305843009213693952 := by decide
                                              omega
      clear h2
      go_wp2_with fail
      go_round
      case rel => exact ⟨k + 1, by omega, by first | go_num | (congr 1; omega), by rw [h3.out]; first | go_num | (congr 1; omega)⟩
      case measure => simp [intOf]; omega
    · obtain rfl : k = n := by omega
      go_wp2_with fail
      go_ret
      exact ⟨rfl, rfl⟩


set_option maxHeartbeats 400000 in
theorem lbit_any (x j : Nat) (w : World) (hx : x ≤ 4611686018427387904) (hj : j ≤ 61) : Calls Try.prog 21 #[.int .i64 (x : Int), .int .i64 (j : Int)] w fun e w' => e = .returned (.int .i64 (if x.testBit j then 1 else 0)) ∧ w = w' := by
  have HP := Lib.hid (lpower_any j w hj)
  have hp : 0 < 2 ^ j := Nat.two_pow_pos _
  have hq : (2 ^ j : Nat) ≤ 2305843009213693952 := by
    have : 2 ^ j ≤ 2 ^ 61 := Nat.pow_le_pow_right (by omega) hj
    have h2 : (2:Nat) ^ 61 = 2305843009213693952 := by decide
    omega
  obtain ⟨r, hr⟩ : ∃ r : Int, (if x.testBit j then 1 else 0) = r := ⟨_, rfl⟩
  rw [hr]
  have HR : Hid (((x / 2 ^ j % 2 : Nat) : Int) = r) := by
    show _ = _
    rw [← hr]
    rw [Nat.testBit_eq_decide_div_mod_eq]
    by_cases h : x / 2 ^ j % 2 = 1
    · rw [h]; simp
    · have : x / 2 ^ j % 2 = 0 := by omega
      rw [this]; simp
  generalize hP : 2 ^ j = p at *
  have hdiv : x / p ≤ x := Nat.div_le_self _ _
  clear hP hr
  have hpi : (p : Int) ≠ 0 := by omega
  have HD : Hid ((wrap64 ((x : Int) / (p : Int))).tmod 2 = ((x / p % 2 : Nat) : Int)) := by
    show _ = _
    have e1 : ((x : Int) / (p : Int)) = ((x / p : Nat) : Int) := by simp
    rw [e1]
    have e2 : wrap64 ((x / p : Nat) : Int) = ((x / p : Nat) : Int) := by
      generalize x / p = q at *
      unfold wrap64
      omega
    rw [e2]
    rfl
  go_enter Try.func21, Try.ntmps21
  go_wp2_with fail
  refine HP.out.mono ?_
  rintro e w1 ⟨rfl, rfl⟩
  go_wp2_with fail
  go_ret
  exact ⟨ret_int (by rw [← HR.out]; exact HD.out), rfl⟩


end Go.Proofs.Ytncebpmckbcabaa
namespace Go.Proofs.Ytncebpmckbcabaa
open Go.RowKit Go.BigFrame
set_option linter.unusedVariables false

theorem rowsI_put (rows : List Nat) (i v : Nat) : rowsI (rows.set i v) = (rowsI rows).set i (v : Int) := by
  unfold rowsI
  rw [List.map_set]
/-- What the walk keeps: the rows in block g. -/
structure TwInv (w : World) (g : Nat) (rows : List Nat) (rest : List Value) (wr : World) : Prop where
  below : Below w.heap.size w wr
  row : RowIs wr g 3 (intCells (rowsI rows) ++ rest)
theorem TwInv.later {w wr W : World} {g : Nat} {rows : List Nat} {rest : List Value} (h : TwInv w g rows rest wr) (hb : Below wr.heap.size wr W) : TwInv w g rows rest W :=
  ⟨h.below.trans (hb.mono h.below.size), h.row.below hb (Nat.le_refl _)⟩
theorem TwInv.drew {w wr : World} {g : Nat} {rows : List Nat} {rest : List Value} (h : TwInv w g rows rest wr) : TwInv w g rows rest wr.drew := ⟨h.below.drew, h.row⟩
theorem TwInv.set {w wr : World} {g : Nat} {rows : List Nat} {rest : List Value} {i : Nat} (h : TwInv w g rows rest wr) (hge : w.heap.size ≤ g) (hi : i < 4) (h4 : Rows4 rows) (v : Nat) : TwInv w g (rows.set i v) rest (wr.setCell ⟨g, i, none⟩ (.int .i64 (v : Int))) := by
  refine ⟨h.below.setCell (by simpa using hge) _, ?_⟩
  rw [rowsI_put]
  exact row_setInt h.row (by simp [rowsI, h4.1]; omega)
theorem TwInv.at_ {w wr : World} {g : Nat} {rows : List Nat} {rest : List Value} (h : TwInv w g rows rest wr) (h4 : Rows4 rows) {T : Nat} (hT : T ≤ 3) : wr.cell? ⟨g, T, none⟩ = some (.int .i64 ((rows.getD T 0 : Nat) : Int)) ∧ wr.frozen? ⟨g, T, none⟩ = false ∧ rows.getD T 0 < 16 := by
  obtain ⟨h1, h2⟩ := rowsI_at h4 hT
  refine ⟨h.row.cell ?_, h.row.frozen T, h2⟩
  have hl : T < (intCells (rowsI rows)).length := by simp [intCells, rowsI, h4.1]; omega
  rw [List.getElem?_append_left hl]
  exact h1

set_option maxRecDepth 100000 in
set_option maxHeartbeats 2000000 in
theorem turns_any (A : Option Addr) (c : Nat) (rows : List Nat) (w : World) (hx : RInts w A 4 (rowsI rows)) (h4 : Rows4 rows) :
    Calls Try.prog 22 #[.slice A 4 c] w fun e w' => e = .returned (.bool (turnB rows)) ∧ Below w.heap.size w w' := by
  have HX := Lib.hid hx
  have H4 := Lib.hid h4
  have hgood : Hid (turnB rows = (List.range 4).any fun i => ((twOut rows 4).getD i 0).testBit i) := rfl
  have HST : Hid ((w.alloc (.cells #[] 3)).ownsRow w.heap.size 3 1 (.slice (some ⟨w.heap.size, 0, none⟩) 0 0) 0 (intCells [])) :=
    World.ownsRow_made w #[] 0 (Nat.le_refl _) (by decide) rfl
  have HX1 : Hid (RInts (w.alloc (.cells #[] 3)) A 4 (rowsI rows)) := hx.below ((Below.refl _ w).alloc (Nat.le_refl _) _) (Nat.le_refl _)
  clear hx h4
  go_enter Try.func22, Try.ntmps22
  go_wp2_with (at_builtin; refine app_ints (.tmp 7) (.tmp 8) HST.out (by simp) HX1.out (by omega) rfl rfl rfl rfl ?_; intro v1 w1 hown1 hg1 hat1)
  have hb1 : Below w.heap.size w w1 := Below.own ((Below.refl _ w).alloc (Nat.le_refl _) _) HST.out (Nat.le_refl _) hg1
  rw [List.nil_append] at hown1
  obtain ⟨A1, c1, rfl, hc1⟩ := own_form2 hown1
  have hfresh := FreshInts.of_own (w0 := w) hown1 (Nat.le_refl _) (by omega)
  obtain ⟨g, rest, hGA, hge, hrow⟩ := hfresh.row (by omega)
  subst hGA
  have HI0 : Hid (TwInv w g (twOut rows 0) rest w1) := ⟨hb1, hrow⟩
  clear hown1 hfresh hrow hg1 hat1 hb1 HST HX1 HX
  simp only [Nat.zero_add] at *
  go_wp2_with fail
  go_loopw [4] (fun i wr => ∃ k : Nat, k ≤ 4 ∧ i = .int .i64 k ∧ TwInv w g (twOut rows k) rest wr) (fun i _ => 4 - (intOf i).toNat)
  case atStart => exact ⟨0, Nat.zero_le _, rfl, HI0.out⟩
  case round =>
    clear HI0
    obtain ⟨wo, rfl⟩ : ∃ wo : World, wo = wr := ⟨_, rfl⟩
    obtain ⟨k, hk, rfl, hI⟩ := hrel
    by_cases hlt : k < 4
    · have hdk : decide ((k : Int) < 4) = true := by simp; omega
      have hR4 : Hid (Rows4 (twOut rows k)) := twOut_ok H4.out k
      have hgk : Hid (twOut rows (k + 1) = twIn k (twOut rows k) 4) := rfl
      generalize hR : twOut rows k = R at *
      have HI : Hid (TwInv w g (twIn k R 0) rest wo) := hI
      have HR := Lib.hid hR
      clear hI hR
      have hk4 : (k : Int) < 4 := by omega
      have hk0 : (0 : Int) ≤ (k : Int) := by omega
      go_wp2_with fail
      go_loopw [5] (fun i wr => ∃ q : Nat, q ≤ 4 ∧ i = .int .i64 q ∧ TwInv w g (twIn k R q) rest wr) (fun i _ => 4 - (intOf i).toNat)
      case atStart => exact ⟨0, Nat.zero_le _, rfl, HI.out⟩
      case round =>
        clear HI
        obtain ⟨wi, rfl⟩ : ∃ wi : World, wi = wr := ⟨_, rfl⟩
        obtain ⟨q, hq, rfl, hJ⟩ := hrel
        by_cases hlt2 : q < 4
        · have hdq : decide ((q : Int) < 4) = true := by simp; omega
          have hS4 : Rows4 (twIn k R q) := twIn_ok hR4.out q
          obtain ⟨hcq, hfq, hq16⟩ := hJ.at_ hS4 (T := q) (by omega)
          obtain ⟨hck, hfk, hk16⟩ := hJ.at_ hS4 (T := k) (by omega)
          have hst : twIn k R (q + 1) = if ((twIn k R q).getD q 0).testBit k then (twIn k R q).set q ((twIn k R q).getD q 0 ||| (twIn k R q).getD k 0) else twIn k R q := rfl
          obtain ⟨rq, hrq⟩ : ∃ r, (twIn k R q).getD q 0 = r := ⟨_, rfl⟩
          obtain ⟨rk, hrk⟩ : ∃ r, (twIn k R q).getD k 0 = r := ⟨_, rfl⟩
          rw [hrq] at hcq hq16 hst
          rw [hrk] at hck hk16 hst
          obtain ⟨bb, hbb⟩ : ∃ b, rq.testBit k = b := ⟨_, rfl⟩
          rw [hbb] at hst
          have HS := Lib.hid hst
          have HJ := Lib.hid hJ
          have HS4 := Lib.hid hS4
          have hB : Calls Try.prog 21 #[.int .i64 (rq : Int), .int .i64 (k : Int)] wi fun e w' => e = .returned (.int .i64 (if bb then 1 else 0)) ∧ wi = w' := by
            have := lbit_any rq k wi (by omega) (by omega); rw [hbb] at this; exact this
          have HB := Lib.hid hB
          have hor := or_nat rq rk (by omega) (by omega)
          have hq4 : (q : Int) < 4 := by omega
          have hq0 : (0 : Int) ≤ (q : Int) := by omega
          have hnw := World.new_ne wi _ hcq
          clear hJ hS4 hst hrq hrk hbb hB
          cases bb
          · go_wp2_with fail
            refine HB.out.mono ?_
            rintro e w5 ⟨rfl, rfl⟩
            go_wp2_with fail
            go_roundw
            case rel => exact ⟨q + 1, by omega, by go_num, by rw [HS.out]; exact HJ.out⟩
            case measure => simp [intOf]; omega
          · go_wp2_with fail
            refine HB.out.mono ?_
            rintro e w5 ⟨rfl, rfl⟩
            have HSET : Hid (TwInv w g (twIn k R (q + 1)) rest (wi.setCell ⟨g, q, none⟩ (.int .i64 ((rq ||| rk : Nat) : Int)))) := by
              show TwInv _ _ _ _ _
              rw [HS.out, if_pos (by first | rfl | trivial)]
              exact HJ.out.set hge hlt2 HS4.out _
            go_wp2_with fail
            go_region
            go_wp2_with fail
            go_roundw
            case rel => exact ⟨q + 1, by omega, by go_num, HSET.out.drew⟩
            case measure => simp [intOf]; omega
        · have e : q = 4 := by omega
          subst e
          rw [← hgk.out] at hJ
          have HJ := Lib.hid hJ
          clear hJ
          go_wp2_with fail
          go_roundw
          case rel => exact ⟨k + 1, by omega, by go_num, HJ.out⟩
          case measure => simp [intOf]; omega
    · have hdk : decide ((k : Int) < 4) = false := by simp; omega
      have hR4 : Hid (Rows4 (twOut rows k)) := twOut_ok H4.out k
      have hg2 : turnB rows = (List.range 4).any fun i => ((twOut rows k).getD i 0).testBit i := by
        have e : k = 4 := by omega
        rw [e]; exact hgood.out
      have hgood := Lib.hid hg2
      clear hg2
      generalize twOut rows k = R at *
      have HI := Lib.hid hI
      clear hI
      go_wp2_with fail
      go_loopw [6] (fun i wr => ∃ q : Nat, q ≤ 4 ∧ i = .int .i64 q ∧ TwInv w g R rest wr ∧ ∀ j, j < q → (R.getD j 0).testBit j = false) (fun i _ => 4 - (intOf i).toNat)
      case atStart => exact ⟨0, Nat.zero_le _, rfl, HI.out, by omega⟩
      case round =>
        clear HI
        obtain ⟨wi, rfl⟩ : ∃ wi : World, wi = wr := ⟨_, rfl⟩
        obtain ⟨q, hq, rfl, hJ, hno⟩ := hrel
        by_cases hlt2 : q < 4
        · have hdq : decide ((q : Int) < 4) = true := by simp; omega
          obtain ⟨hcq, hfq, hq16⟩ := hJ.at_ hR4.out (T := q) (by omega)
          obtain ⟨bb, hbb⟩ : ∃ b, (R.getD q 0).testBit q = b := ⟨_, rfl⟩
          have HT : Hid (bb = true → turnB rows = true) := by
            intro h
            rw [hgood.out]
            exact List.any_eq_true.2 ⟨q, List.mem_range.2 hlt2, by rw [hbb, h]⟩
          have HN : Hid (bb = false → ∀ j, j < q + 1 → (R.getD j 0).testBit j = false) := by
            intro h j hj
            by_cases e : j = q
            · subst e; rw [hbb, h]
            · exact hno j (by omega)
          have HJ := Lib.hid hJ
          have hB : Calls Try.prog 21 #[.int .i64 ((R.getD q 0 : Nat) : Int), .int .i64 (q : Int)] wi fun e w' => e = .returned (.int .i64 (if bb then 1 else 0)) ∧ wi = w' := by
            have := lbit_any (R.getD q 0) q wi (by omega) (by omega); rw [hbb] at this; exact this
          have HB := Lib.hid hB
          have hq4 : (q : Int) < 4 := by omega
          have hq0 : (0 : Int) ≤ (q : Int) := by omega
          generalize R.getD q 0 = rq at *
          clear hJ hno hbb hB
          cases bb
          · go_wp2_with fail
            refine HB.out.mono ?_
            rintro e w5 ⟨rfl, rfl⟩
            go_wp2_with fail
            go_roundw
            case rel => exact ⟨q + 1, by omega, by go_num, HJ.out, HN.out (by first | rfl | trivial)⟩
            case measure => simp [intOf]; omega
          · go_wp2_with fail
            refine HB.out.mono ?_
            rintro e w5 ⟨rfl, rfl⟩
            have hend := Lib.hid (HT.out (by first | rfl | trivial))
            go_wp2_with fail
            go_ret
            exact ⟨ret_bool hend.out.symm, HJ.out.below⟩
        · have hend : Hid (turnB rows = false) := by
            show _ = _
            rw [hgood.out, List.any_eq_false]
            intro j hj
            rw [hno j (by have := List.mem_range.1 hj; omega)]
            simp
          have HJ := Lib.hid hJ.below
          clear hJ hno
          go_wp2_with fail
          go_ret
          exact ⟨ret_bool hend.out.symm, HJ.out⟩
end Go.Proofs.Ytncebpmckbcabaa
