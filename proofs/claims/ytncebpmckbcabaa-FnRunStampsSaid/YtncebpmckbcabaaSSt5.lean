/-
  Texts that the proof rests on, joined: part 5.
-/
import Derived.Deep.LoopGhost
import Derived.Test.YtncebpmckbcabaaSSt3
import Derived.Test.YtncebpmckbcabaaSSt4
namespace Go.Proofs.Ytncebpmckbcabaa
open Go.RowKit Go.BigFrame
set_option linter.unusedVariables false

def txsTo (s : List OpV) (k : Nat) : List Int := ((List.range k).map fun i : Nat => (i : Int)).filter fun t => hasTx s t
theorem txsTo_succ (s : List OpV) (k : Nat) : txsTo s (k + 1) = txsTo s k ++ if hasTx s (k : Int) = true then [(k : Int)] else [] := by
  unfold txsTo
  rw [List.range_succ, List.map_append, List.filter_append]
  simp [List.filter_cons]
theorem txsTo_four (s : List OpV) : txsTo s 4 = txsOf s := rfl

set_option maxHeartbeats 1000000 in
theorem txsOf_any (A : Option Addr) (n c : Nat) (s : List OpV) (w : World) (hx : ROps w A n s) :
    Calls Try.prog 71 #[.slice A n c] w (RetInts w (txsOf s)) := by
  have HX := Lib.hid hx
  clear hx
  obtain ⟨i0, hi, hz0, hz1, hz2⟩ := info_parts intInfo
  go_enter Try.func71, Try.ntmps71
  go_wp2_with (at_make; refine wpList_make_own _ rfl _ _ 26 rfl w.heap.size 3 i0 _ 1 Try.underlying26 hi hz0 hz1 .i64 .i64 _ 4 rfl rfl rfl (by rw [hz2]; omega) (by unfold maxLen; omega) (Nat.le_refl _) ?_; intro w1 hown1 hg1)
  have hb1 : Below w.heap.size w w1 := ⟨hg1.os, hg1.tape, hg1.output, hg1.size, fun k hk => hg1.block k hk (by simp)⟩
  have HST := Lib.hid (And.intro hown1 hb1)
  clear hown1 hb1 hg1 hi hz0 hz1 hz2
  go_loopw [3, 6] (fun ov i wr => ∃ (k m : Nat), k ≤ 4 ∧ m ≤ k ∧ i = .int .i64 k ∧ Below w.heap.size w wr ∧ wr.ownsRow w.heap.size 3 1 ov m (intCells (txsTo s k))) (fun _ i _ => 4 - (intOf i).toNat)
  case atStart => exact ⟨0, 0, by omega, Nat.le_refl _, rfl, HST.out.2, HST.out.1⟩
  case round =>
    clear HST
    obtain ⟨k, m, hk, hmk, rfl, hb, hown⟩ := hrel
    by_cases hlt : k < 4
    · have hs := hb.size
      have hcl : ∀ W : World, W = wr.alloc (.cells #[.int .i64 (k : Int)] 3) → ROps W A n s ∧ ClosOp W 110 #[.pointer (some ⟨wr.heap.size, 0, none⟩)] s (fun o => o.tx == (k : Int)) ∧ Below wr.heap.size wr W ∧ W.cell? ⟨wr.heap.size, 0, none⟩ = some (.int .i64 (k : Int)) ∧ W.heap.size = wr.heap.size + 1 := by
        intro W hW
        have hc : W.cell? ⟨wr.heap.size, 0, none⟩ = some (.int .i64 (k : Int)) := by rw [hW]; exact box_at _ _ _ _ _ rfl
        have hbW : Below wr.heap.size wr W := by rw [hW]; exact (Below.refl _ _).alloc (Nat.le_refl _) _
        exact ⟨(HX.out.below hb (Nat.le_refl _)).below hbW (Nat.le_refl _), ⟨runs_txsOf1, fun W' o hb' ho => txsOf1_any o k _ W' ((Later.cell hc ⟨W', hb'⟩))⟩, hbW, hc, by rw [hW]; simp⟩
      have HC := Lib.hid hcl
      have HT := Lib.hid (txsTo_succ s k)
      clear hcl
      go_wp2_with fail
      obtain ⟨W, hW⟩ : ∃ W : World, W = wr.alloc (.cells #[.int .i64 (k : Int)] 3) := ⟨_, rfl⟩
      rw [← hW]
      obtain ⟨hr, hf, hbW, hcW, hWs⟩ := HC.out W hW
      have hownW : W.ownsRow w.heap.size 3 1 u3 m (intCells (txsTo s k)) := by rw [hW]; exact hown.alloc _
      refine (ContainsFuncOp_any A n c s _ _ _ W hr hf).mono ?_
      rintro e w2 ⟨rfl, hb2⟩
      have hown2 := own_below hownW hb2
      have hbw := hb.trans ((hbW.trans (hb2.mono (by omega))).mono hs)
      have hs2 := hb2.size
      have hc2 : w2.cell? ⟨wr.heap.size, 0, none⟩ = some (.int .i64 (k : Int)) := Later.cell hcW ⟨w2, hb2⟩
      clear hW hcW hr hf
      have hp : (s.any fun o => o.tx == (k : Int)) = hasTx s k := rfl
      rw [hp]
      clear hp
      cases hq : hasTx s (k : Int)
      · rw [hq] at HT
        go_wp2_with fail
        go_roundw
        case rel => exact ⟨k + 1, m, by omega, by omega, by go_num, hbw, by rw [HT.out]; simpa using hown2⟩
        case measure => simp [intOf]; omega
      · rw [hq] at HT
        go_wp2_with (at_builtin; refine app_ints (.tmp 12) (.tmp 14) (hown2.alloc _) (by simp; omega) (lit1 rfl _) (by omega) rfl rfl rfl rfl ?_; intro v3 w3 hown3 hg3 hat3)
        have hb3 := Below.own hbw hown2 (Nat.le_refl _) (World.grownBy.trans (World.grownBy_alloc w2 _ _) hg3)
        go_wp2_with fail
        go_roundw
        case rel => exact ⟨k + 1, m + 1, by omega, by omega, by go_num, hb3, by rw [HT.out]; simpa using hown3⟩
        case measure => simp [intOf]; omega
    · obtain ⟨Ao, co, rfl, hmc⟩ := own_form2 hown
      obtain rfl : k = 4 := by omega
      rw [txsTo_four] at hown
      have HO := Lib.hid (RetInts.mk (c := m) (own_lenInts hown) (Nat.le_refl _) (FreshInts.of_own hown (Nat.le_refl _) (by omega)) hb)
      clear hown
      go_wp2_with fail
      go_ret
      exact HO.out

def orNil {α : Type} (b : Bool) (xs : List α) : List α := if b then xs else []
def endOfV (s : List OpV) (t : Int) : Int := if validS s then endOf s t else -1
theorem RetInts.later {w W w' : World} {xs : List Int} {e : Ending} (hb : Below w.heap.size w W) (h : RetInts W xs e w') : RetInts w xs e w' := by
  obtain ⟨A', c', rfl, hc', ⟨h1, h2⟩, hb'⟩ := h
  have hs := hb.size
  exact ⟨A', c', rfl, hc', ⟨h1, fun ad had => by obtain ⟨b, cur, h3, h4, h5⟩ := h2 ad had; exact ⟨b, cur, h3, by omega, h5⟩⟩, hb.trans (hb'.mono hs)⟩
theorem RetOps.later {w W w' : World} {xs : List OpV} {e : Ending} (hb : Below w.heap.size w W) (h : RetOps W xs e w') : RetOps w xs e w' := by
  obtain ⟨A', c', rfl, hc', ⟨h1, h2⟩, hb'⟩ := h
  have hs := hb.size
  exact ⟨A', c', rfl, hc', ⟨h1, fun ad had => by obtain ⟨b, cur, h3, h4, h5⟩ := h2 ad had; exact ⟨b, cur, h3, by omega, h5⟩⟩, hb.trans (hb'.mono hs)⟩


set_option maxHeartbeats 400000 in
theorem TxsOf_any (A : Option Addr) (n c : Nat) (s : List OpV) (w : World) (hx : ROps w A n s) (hnc : n ≤ c) :
    Calls Try.prog 27 #[.slice A n c] w (RetInts w (orNil (validS s) (txsOf s))) := by
  have HX := Lib.hid hx
  clear hx
  go_enter Try.func27, Try.ntmps27
  go_wp2_with fail
  refine (ValidSchedule_any A n c s w HX.out hnc).mono ?_
  rintro e w1 ⟨rfl, hb⟩
  cases hv : validS s
  · have HV := Lib.hid hv
    clear hv
    go_wp2_with fail
    go_ret
    rw [HV.out]
    exact RetInts.nil hb
  · have HV := Lib.hid hv
    clear hv
    go_wp2_with fail
    refine (txsOf_any A n c s w1 (HX.out.below hb (Nat.le_refl _))).mono ?_
    rintro e w2 hr
    obtain ⟨A', c', rfl, hr'⟩ := hr
    have HR : Hid (RetInts w1 (txsOf s) (.returned (.slice A' ((txsOf s)).length c')) w2) := ⟨A', c', rfl, hr'⟩
    clear hr'
    go_wp2_with fail
    go_ret
    rw [HV.out]
    exact RetInts.later hb HR.out


set_option maxHeartbeats 400000 in
theorem CommittedOf_any (A : Option Addr) (n c : Nat) (s : List OpV) (w : World) (hx : ROps w A n s) (hnc : n ≤ c) :
    Calls Try.prog 41 #[.slice A n c] w (RetOps w (orNil (validS s) (committed s))) := by
  have HX := Lib.hid hx
  clear hx
  go_enter Try.func41, Try.ntmps41
  go_wp2_with fail
  refine (ValidSchedule_any A n c s w HX.out hnc).mono ?_
  rintro e w1 ⟨rfl, hb⟩
  cases hv : validS s
  · have HV := Lib.hid hv
    clear hv
    go_wp2_with fail
    go_ret
    rw [HV.out]
    exact RetOps.nil hb
  · have HV := Lib.hid hv
    clear hv
    go_wp2_with fail
    refine (committedOf_any A n c s w1 (HX.out.below hb (Nat.le_refl _))).mono ?_
    rintro e w2 hr
    obtain ⟨A', c', rfl, hr'⟩ := hr
    have HR : Hid (RetOps w1 (committed s) (.returned (.slice A' ((committed s)).length c')) w2) := ⟨A', c', rfl, hr'⟩
    clear hr'
    go_wp2_with fail
    go_ret
    rw [HV.out]
    exact RetOps.later hb HR.out


set_option maxHeartbeats 400000 in
theorem EndOf_any (A : Option Addr) (n c : Nat) (s : List OpV) (t : Int) (w : World) (hx : ROps w A n s) (hnc : n ≤ c) :
    Calls Try.prog 26 #[.slice A n c, .int .i64 t] w fun e w' => e = .returned (.int .i64 (endOfV s t)) ∧ Below w.heap.size w w' := by
  have HX := Lib.hid hx
  clear hx
  go_enter Try.func26, Try.ntmps26
  go_wp2_with fail
  refine (ValidSchedule_any A n c s w HX.out hnc).mono ?_
  rintro e w1 ⟨rfl, hb⟩
  cases hv : validS s
  · have HV := Lib.hid hv
    clear hv
    go_wp2_with fail
    go_ret
    exact ⟨ret_int (by unfold endOfV; rw [HV.out]; rfl), hb⟩
  · have HV := Lib.hid hv
    clear hv
    go_wp2_with fail
    refine (endOf_any A n c s t w1 (HX.out.below hb (Nat.le_refl _))).mono ?_
    rintro e w2 ⟨rfl, hb2⟩
    go_wp2_with fail
    go_ret
    exact ⟨ret_int (by unfold endOfV; rw [HV.out]; rfl), hb.trans (hb2.mono hb.size)⟩
end Go.Proofs.Ytncebpmckbcabaa
namespace Go.Proofs.Ytncebpmckbcabaa
open Go.RowKit Go.BigFrame
set_option linter.unusedVariables false

/-- At index i the program finds that a transaction comes again. -/
def serBad (s : List OpV) (i : Nat) : Bool := match s[i]?, s[i - 1]? with | some o, some q => (o.tx != q.tx) && hasTx (s.take i) o.tx | _, _ => false
def isSer (s : List OpV) : Bool := (List.range s.length).all fun i => i == 0 || !serBad s i
end Go.Proofs.Ytncebpmckbcabaa
namespace Go.Proofs.Ytncebpmckbcabaa
open Go.RowKit Go.BigFrame
set_option linter.unusedVariables false

/-- The place of a number in a list, -1 if it is not there. -/
def idxZ (xs : List Int) (x : Int) : Int := if xs.any (fun y => y == x) then (xs.findIdx (fun y => y == x) : Int) else -1
theorem idxZ_hit {xs : List Int} {x y : Int} {k : Nat} (ho : xs[k]? = some y) (h : (y == x) = true) (hno : ∀ j, j < k → ∀ y, xs[j]? = some y → (y == x) = false) : idxZ xs x = (k : Int) := by
  obtain ⟨hk, he⟩ := List.getElem?_eq_some_iff.1 ho
  have h1 : xs.any (fun y => y == x) = true := List.any_eq_true.2 ⟨y, List.mem_of_getElem? ho, h⟩
  have h2 : xs.findIdx (fun y => y == x) = k := by
    rw [List.findIdx_eq hk]
    exact ⟨by rw [he]; exact h, fun j hj => by have := hno j hj _ (List.getElem?_eq_getElem (by omega)); exact this⟩
  unfold idxZ
  rw [h1, h2]; rfl
theorem idxZ_none {xs : List Int} {x : Int} (hno : ∀ j, j < xs.length → ∀ y, xs[j]? = some y → (y == x) = false) : idxZ xs x = -1 := by
  unfold idxZ
  have : xs.any (fun y => y == x) = false := by
    rw [List.any_eq_false]
    intro o ho
    obtain ⟨j, hj⟩ := List.mem_iff_getElem?.1 ho
    have hl : j < xs.length := (List.getElem?_eq_some_iff.1 hj).1
    simp [hno j hl o hj]
  rw [this]; rfl
theorem idxZ_any (xs : List Int) (x : Int) : if (xs.any fun y => y == x) = true then 0 ≤ idxZ xs x else idxZ xs x = -1 := by
  unfold idxZ
  split
  · omega
  · rfl


set_option maxHeartbeats 400000 in
theorem hasInt_any (A : Option Addr) (n c : Nat) (xs : List Int) (x : Int) (w : World) (hx : RInts w A n xs) :
    Calls Try.prog 90 #[.slice A n c, .int .i64 x] w fun e w' => e = .returned (.bool (xs.any fun y => y == x)) ∧ Below w.heap.size w w' := by
  have hn := hx.2.1
  have hl := hx.1
  have HX := Lib.hid hx
  clear hx
  go_enter Try.func90, Try.ntmps90
  go_wp2_with fail
  go_loop [5] (fun i => ∃ k : Nat, k ≤ n ∧ i = .int .i64 k ∧ ((xs.take k).any fun y => y == x) = false) (fun i => n - (intOf i).toNat)
  case atStart => exact ⟨0, Nat.zero_le _, rfl, by simp⟩
  case round =>
    obtain ⟨k, hk, rfl, hno⟩ := hrel
    by_cases hlt : k < n
    · obtain ⟨b, off, y, rfl, hbl, ho, c0⟩ := HX.out.at_ hlt
      have hst : ((xs.take (k + 1)).any fun y => y == x) = ((xs.take k).any (fun y => y == x) || y == x) := by
        rw [List.take_add_one, ho, List.any_append]; simp
      rw [hno, Bool.false_or] at hst
      have HS := Lib.hid hst
      have HM := Lib.hid (List.mem_of_getElem? ho)
      clear hst ho hno
      by_cases h1 : y = x
      · have ht : Hid ((xs.any fun y => y == x) = true) := List.any_eq_true.2 ⟨y, HM.out, by simpa using h1⟩
        go_wp2_with fail
        go_ret
        exact ⟨ret_bool ht.out.symm, Below.refl _ _⟩
      · have h1' : (y == x) = false := by simpa using h1
        go_wp2_with fail
        go_round
        case rel => exact ⟨k + 1, by omega, by go_num, by rw [HS.out]; exact h1'⟩
        case measure => simp [intOf]; omega
    · rw [List.take_of_length_le (by omega)] at hno
      have HN := Lib.hid hno
      clear hno
      go_wp2_with fail
      go_ret
      exact ⟨ret_bool HN.out.symm, Below.refl _ _⟩


end Go.Proofs.Ytncebpmckbcabaa
namespace Go.Proofs.Ytncebpmckbcabaa
open Go.RowKit Go.BigFrame
set_option linter.unusedVariables false

theorem ofInt64 (a : Nat) (ha : a < 9223372036854775808) : (BitVec.ofInt 64 (a : Int)).toNat = a := by
  rw [BitVec.ofInt_natCast, BitVec.toNat_ofNat]; exact Nat.mod_eq_of_lt (by omega)
theorem or_nat (a b : Nat) (ha : a < 9223372036854775808) (hb : b < 9223372036854775808) : bits .or .i64 (a : Int) (b : Int) = ((a ||| b : Nat) : Int) := by
  have hx : a ||| b < 2 ^ 63 := Nat.or_lt_two_pow (by omega) (by omega)
  show IntKind.i64.wrap ((BitVec.ofInt 64 (a : Int) ||| BitVec.ofInt 64 (b : Int)).toNat : Int) = _
  rw [BitVec.toNat_or, ofInt64 a ha, ofInt64 b hb, IntKind.wrap_i64]
  omega
theorem and_nat (a b : Nat) (ha : a < 9223372036854775808) (hb : b < 9223372036854775808) : bits .and .i64 (a : Int) (b : Int) = ((a &&& b : Nat) : Int) := by
  have hx : a &&& b < 2 ^ 63 := Nat.and_lt_two_pow _ (by omega)
  show IntKind.i64.wrap ((BitVec.ofInt 64 (a : Int) &&& BitVec.ofInt 64 (b : Int)).toNat : Int) = _
  rw [BitVec.toNat_and, ofInt64 a ha, ofInt64 b hb, IntKind.wrap_i64]
  omega

def rowSet (rows : List Nat) (t u : Int) : List Nat := rows.set t.toNat (rows.getD t.toNat 0 ||| (1 <<< u.toNat))
def rowsI (rows : List Nat) : List Int := rows.map fun n : Nat => (n : Int)
/-- Four rows of four bits. -/
def Rows4 (rows : List Nat) : Prop := rows.length = 4 ∧ ∀ r ∈ rows, r < 16

theorem rowSet_ok {rows : List Nat} (h : Rows4 rows) {t u : Int} (hu : 0 ≤ u ∧ u ≤ 3) : Rows4 (rowSet rows t u) := by
  refine ⟨by simp [rowSet, h.1], fun r hr => ?_⟩
  unfold rowSet at hr
  rcases List.mem_or_eq_of_mem_set hr with hr | rfl
  · exact h.2 r hr
  · have h1 : rows.getD t.toNat 0 < 2 ^ 4 := by
      rw [List.getD_eq_getElem?_getD]
      cases he : rows[t.toNat]? with
      | none => simp
      | some x => simpa using h.2 x (List.mem_of_getElem? he)
    have h2 : (1 <<< u.toNat) < 2 ^ 4 := by
      rcases (by omega : u.toNat = 0 ∨ u.toNat = 1 ∨ u.toNat = 2 ∨ u.toNat = 3) with e | e | e | e <;> rw [e] <;> decide
    exact Nat.or_lt_two_pow (n := 4) h1 h2
theorem rowsI_at {rows : List Nat} (h : Rows4 rows) {T : Nat} (hT : T ≤ 3) : (intCells (rowsI rows))[T]? = some (.int .i64 ((rows.getD T 0 : Nat) : Int)) ∧ rows.getD T 0 < 16 := by
  have hl := h.1
  have e : rows[T]? = some (rows[T]'(by omega)) := List.getElem?_eq_getElem (by omega)
  rw [List.getD_eq_getElem?_getD, e]
  refine ⟨?_, ?_⟩
  · simp [intCells, rowsI, e]
  · simpa using h.2 _ (List.getElem_mem (by omega))
theorem rowsI_set {rows : List Nat} {T : Nat} {u : Int} : rowsI (rowSet rows T u) = (rowsI rows).set T (((rows.getD T 0 ||| (1 <<< u.toNat) : Nat)) : Int) := by
  simp [rowsI, rowSet, List.map_set]
theorem validS_ops {s : List OpV} (h : validS s = true) : ∀ o ∈ s, validOp o = true := by
  intro o ho
  unfold validS at h
  simp only [Bool.and_eq_true, List.all_eq_true] at h
  obtain ⟨k, hk⟩ := List.mem_iff_getElem?.1 ho
  have hl : k < s.length := by
    rcases Nat.lt_or_ge k s.length with h | h
    · exact h
    · rw [List.getElem?_eq_none h] at hk; cases hk
  have := h.2 k (List.mem_range.2 hl)
  unfold goodAt at this
  rw [hk] at this
  simp only [Bool.and_eq_true] at this
  exact this.1
theorem validS_item {s : List OpV} (h : validS s = true) {o : OpV} (ho : o ∈ s) : 0 ≤ o.item ∧ o.item ≤ 2 := by
  have := validS_ops h o ho
  simp [validOp, isAcc, isEnd, inR] at this
  omega
theorem validS_tx3 {s : List OpV} (h : validS s = true) {o : OpV} (ho : o ∈ s) : 0 ≤ o.tx ∧ o.tx ≤ 3 := by
  have := validS_ops h o ho
  simp [validOp, inR] at this
  omega
theorem rowSet_bit {rows : List Nat} (h : Rows4 rows) {T U t u : Nat} (hT : T ≤ 3) : ((rowSet rows T U).getD t 0).testBit u = ((rows.getD t 0).testBit u || (decide (t = T) && decide (u = U))) := by
  unfold rowSet
  simp only [Int.toNat_natCast]
  rw [List.getD_eq_getElem?_getD, List.getElem?_set]
  by_cases e : T = t
  · subst e
    have hl : T < rows.length := by rw [h.1]; omega
    rw [if_pos rfl, if_pos hl]
    simp only [Option.getD_some, Nat.testBit_or, Nat.one_shiftLeft, Nat.testBit_two_pow, decide_true, Bool.true_and]
    congr 1
    exact decide_eq_decide.2 ⟨fun h => h.symm, fun h => h.symm⟩
  · rw [if_neg e, List.getD_eq_getElem?_getD]
    have : ¬ t = T := fun h => e h.symm
    simp [this]
end Go.Proofs.Ytncebpmckbcabaa
