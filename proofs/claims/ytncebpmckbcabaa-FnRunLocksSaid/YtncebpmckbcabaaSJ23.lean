/-
  Texts that the proof rests on, joined: part 23.
-/
import Derived.Deep.LoopGhost
import Derived.Deep.CutRange
import Derived.Test.YtncebpmckbcabaaSJ1
import Derived.Test.YtncebpmckbcabaaSJ3
import Derived.Test.YtncebpmckbcabaaSJ15
import Derived.Test.YtncebpmckbcabaaSJ21
import Derived.Test.YtncebpmckbcabaaSJ22
namespace Go.Proofs.Ytncebpmckbcabaa
open Go.RowKit
set_option linter.unusedVariables false

theorem op_struct : Try.prog.underlying 62 = some (.struct (Try.prog.fieldsOf 62)) := by kernel_rfl
theorem op_held : Try.prog.stoodInHeld 62 = false := by kernel_rfl
theorem op_guard : Try.prog.eqGuardType Try.prog.depth 62 = false := by kernel_rfl

end Go.Proofs.Ytncebpmckbcabaa
namespace Go.Proofs.Ytncebpmckbcabaa
open Go.RowKit Go.BigFrame
set_option linter.unusedVariables false

theorem beq_op (a b c a' b' c' : Int) : (a == a' && b == b' && c == c') = ((⟨a', b', c'⟩ : OpV) == ⟨a, b, c⟩) := by
  rw [Bool.eq_iff_iff]
  simp only [Bool.and_eq_true, beq_iff_eq, OpV.mk.injEq]
  constructor
  · rintro ⟨⟨rfl, rfl⟩, rfl⟩; exact ⟨rfl, rfl, rfl⟩
  · rintro ⟨rfl, rfl, rfl⟩; exact ⟨⟨rfl, rfl⟩, rfl⟩

end Go.Proofs.Ytncebpmckbcabaa
namespace Go.Proofs.Ytncebpmckbcabaa
open Go.RowKit Go.BigFrame
set_option linter.unusedVariables false

theorem neq_op (w : World) (a b c a' b' c' : Int) :
    (binOp .neq 62 (.agg #[.int .i64 a, .int .i64 b, .int .i64 c]) (.agg #[.int .i64 a', .int .i64 b', .int .i64 c'])).run Try.prog w = .ok (.bool (!(a == a' && b == b' && c == c'))) w := by
  rw [run_neq_struct, show (10000 : Nat) = 9999 + 1 from rfl, run_equalIn_agg w 9999 62 _ _ op_struct op_held]
  cases h1 : (a == a') <;> cases h2 : (b == b') <;> cases h3 : (c == c') <;> simp [go_sem, Try.underlying62, h1, h2, h3]
set_option maxRecDepth 100000 in
set_option maxHeartbeats 1000000 in
theorem equalOps_any (A B : Option Addr) (n m c d : Nat) (xs ys : List OpV) (w : World) (hx : ROps w A n xs) (hy : ROps w B m ys) :
    Calls Try.prog 30 #[.slice A n c, .slice B m d] w fun e w' => e = .returned (.bool (xs == ys)) ∧ Below w.heap.size w w' := by
  have hn := hx.2.1
  have hl := hx.1
  have hm := hy.2.1
  have hly := hy.1
  have HX := Lib.hid hx
  have HY := Lib.hid hy
  clear hx hy
  by_cases hnm : n = m
  · subst hnm
    go_enter Try.func30, Try.ntmps30
    go_wp2_with fail
    go_loopw [5] (fun i wr => ∃ k : Nat, k ≤ n ∧ i = .int .i64 k ∧ Below w.heap.size w wr ∧ ∀ j, j < k → xs[j]? = ys[j]?) (fun i _ => n - (intOf i).toNat)
    case atStart => exact ⟨0, Nat.zero_le _, rfl, Below.refl _ _, by omega⟩
    case round =>
      obtain ⟨k, hk, rfl, hb, hno⟩ := hrel
      by_cases hlt : k < n
      · obtain ⟨b, off, x, rfl, hbl, hox, c0, c1, c2⟩ := (HX.out.below hb (Nat.le_refl _)).at_ hlt
        obtain ⟨b', off', y, rfl, hbl', hoy, d0, d1, d2⟩ := (HY.out.below hb (Nat.le_refl _)).at_ hlt
        have HN : Hid (x = y → ∀ j, j < k + 1 → xs[j]? = ys[j]?) := fun h j hj => by
          by_cases e : j = k
          · subst e; rw [hox, hoy, h]
          · exact hno j (by omega)
        have HT : Hid (¬ x = y → (xs == ys) = false) := fun h => by
          rw [beq_eq_false_iff_ne]
          intro e
          rw [e, hoy] at hox
          injection hox with hox
          exact h hox.symm
        have L0 := Later.cell c0
        have L1 := Later.cell c1
        have L2 := Later.cell c2
        have M0 := Later.cell d0
        have M1 := Later.cell d1
        have M2 := Later.cell d2
        have hki : (k : Int) < (n : Int) := by omega
        obtain ⟨bb, hbb⟩ : ∃ bb, (y == x) = bb := ⟨_, rfl⟩
        have HB := Lib.hid hbb
        obtain ⟨x0, x1, x2⟩ := x
        obtain ⟨y0, y1, y2⟩ := y
        simp only at L0 L1 L2 M0 M1 M2
        have hbq := beq_op x0 x1 x2 y0 y1 y2
        rw [hbb] at hbq
        have hne : ∀ w : World, (binOp .neq 62 (.agg #[.int .i64 x0, .int .i64 x1, .int .i64 x2]) (.agg #[.int .i64 y0, .int .i64 y1, .int .i64 y2])).run Try.prog w = .ok (.bool (!bb)) w := fun w => by
          rw [neq_op, hbq]
        have hgd := op_guard
        clear hno hox hoy c0 c1 c2 d0 d1 d2 hbb hbq
        cases bb
        · simp only [Bool.not_false] at hne
          have hs := Lib.hid (HT.out (fun e => by have := HB.out; rw [beq_eq_false_iff_ne] at this; exact this e.symm))
          go_wp2_with fail
          refine region_later (by kernel_rfl) (by kernel_rfl) ?_
          repeat (go_big_quiet_step (fail))
          refine wpQuiet_nil ?_
          rintro _ ⟨u, rfl⟩
          have hbu := hb.trans (u.2.mono hb.size)
          go_wp2_with fail
          go_ret
          exact ⟨ret_bool hs.out.symm, hbu⟩
        · simp only [Bool.not_true] at hne
          have hs := Lib.hid (HN.out (by have := HB.out; rw [beq_iff_eq] at this; exact this.symm))
          go_wp2_with fail
          refine region_later (by kernel_rfl) (by kernel_rfl) ?_
          repeat (go_big_quiet_step (fail))
          refine wpQuiet_nil ?_
          rintro _ ⟨u, rfl⟩
          have hbu := hb.trans (u.2.mono hb.size)
          go_wp2_with fail
          go_roundw
          case rel => exact ⟨k + 1, by omega, by go_num, hbu, hs.out⟩
          case measure => simp [intOf]; omega
      · have hs : Hid ((xs == ys) = true) := by
          show _ = _
          rw [beq_iff_eq]
          exact eq_of_get (by omega) (fun j hj => hno j (by omega))
        clear hno
        go_wp2_with fail
        go_ret
        exact ⟨ret_bool hs.out.symm, hb⟩
  · have hs : Hid ((xs == ys) = false) := by
      show _ = _
      rw [beq_eq_false_iff_ne]
      intro e
      rw [e] at hl
      omega
    go_enter Try.func30, Try.ntmps30
    go_wp2_with fail
    go_ret
    exact ⟨ret_bool hs.out.symm, Below.refl _ _⟩

end Go.Proofs.Ytncebpmckbcabaa
namespace Go.Proofs.Ytncebpmckbcabaa
open Go.RowKit Go.BigFrame
set_option linter.unusedVariables false


set_option maxRecDepth 100000 in
set_option maxHeartbeats 400000 in
theorem IndexFuncSt_any (A : Option Addr) (n c : Nat) (s : List OpV) (F : FuncId) (caps : Array Value) (p : OpV → Bool) (w : World) (hx : ROps w A n s) (hf : ClosOp w F caps s p) :
    Calls Try.prog 136 #[.slice A n c, .func (.func F) #[] caps] w (IdxPost s p w) := by
  have hn := hx.2.1
  have hl := hx.1
  have HX := Lib.hid hx
  have HF := Lib.hid hf
  clear hx hf
  go_enter Try.func136, Try.ntmps136
  go_wp2_with fail
  go_loopw [8] (fun i wr => ∃ k : Nat, k ≤ n ∧ i = .int .i64 k ∧ Below w.heap.size w wr ∧ (∀ j, j < k → ∀ o, s[j]? = some o → p o = false)) (fun i _ => n - (intOf i).toNat)
  case atStart => exact ⟨0, Nat.zero_le _, rfl, Below.refl _ _, by omega⟩
  case round =>
    obtain ⟨k, hk, rfl, hb, hno⟩ := hrel
    by_cases hlt : k < n
    · obtain ⟨b, off, o, rfl, hbl, ho, c0, c1, c2⟩ := (HX.out.below hb (Nat.le_refl _)).at_ hlt
      have hcl := HF.out.2 wr o hb (List.mem_of_getElem? ho)
      have hrun := HF.out.1
      unfold Runs at hrun
      unfold OpV.val at hcl
      have HN : Hid (p o = false → ∀ j, j < k + 1 → ∀ o, s[j]? = some o → p o = false) := fun h => no_snoc ho hno h
      have HT : Hid (p o = true → ∀ w', Below w.heap.size w w' → IdxPost s p w (.returned (.int .i64 k)) w') := fun h w' hb' =>
        ⟨hb', .inr ⟨List.any_eq_true.2 ⟨o, List.mem_of_getElem? ho, h⟩, k, by omega, ⟨o, ho, h⟩, hno, rfl⟩⟩
      have HC := Lib.hid hcl
      clear hno ho hcl
      cases hp : p o
      · rw [hp] at HC
        go_wp2_with fail
        refine (HC.out).mono ?_
        rintro e w1 ⟨rfl, hb1⟩
        go_wp2_with fail
        go_roundw
        case rel => exact ⟨k + 1, by omega, by go_num, hb.trans (hb1.mono hb.size), HN.out hp⟩
        case measure => simp [intOf]; omega
      · rw [hp] at HC
        go_wp2_with fail
        refine (HC.out).mono ?_
        rintro e w1 ⟨rfl, hb1⟩
        go_wp2_with fail
        go_ret
        exact HT.out hp _ (hb.trans (hb1.mono hb.size))
    · have HE := Lib.hid (find_none_all (s := s) (p := p) (fun j hj => hno j (by omega)))
      clear hno
      go_wp2_with fail
      go_ret
      exact ⟨hb, .inl ⟨HE.out, rfl⟩⟩


set_option maxHeartbeats 400000 in
theorem ContainsFuncSt_any (A : Option Addr) (n c : Nat) (s : List OpV) (F : FuncId) (caps : Array Value) (p : OpV → Bool) (w : World) (hx : ROps w A n s) (hf : ClosOp w F caps s p) :
    Calls Try.prog 103 #[.slice A n c, .func (.func F) #[] caps] w fun e w' => e = .returned (.bool (s.any p)) ∧ Below w.heap.size w w' := by
  have HI := Lib.hid (IndexFuncSt_any A n c s F caps p w hx hf)
  clear hx hf
  go_enter Try.func103, Try.ntmps103
  go_wp2_with fail
  refine (HI.out).mono ?_
  rintro e w1 ⟨hb, ⟨ha, rfl⟩ | ⟨ha, k, hk, _, _, rfl⟩⟩
  · have HA := Lib.hid ha
    clear ha
    go_wp2_with fail
    go_ret
    exact ⟨ret_bool HA.out.symm, hb⟩
  · have HA := Lib.hid ha
    clear ha
    go_wp2_with fail
    go_ret
    exact ⟨ret_bool HA.out.symm, hb⟩


set_option maxHeartbeats 1000000 in
theorem ValidSteps1_any (o : OpV) (w : World) :
    Calls Try.prog 104 #[o.val] w fun e w' => e = .returned (.bool (!okStep o)) ∧ Below w.heap.size w w' := by
  obtain ⟨t, k, x⟩ := o
  unfold OpV.val
  cases h1 : inR t 0 3 <;> cases h2 : inR k 0 4 <;> cases h3 : inR x 0 2
  all_goals
    go_enter Try.func104, Try.ntmps104
    go_wp2_with (go_at_call 105; refine (within_any _ _ _ _).mono ?_; rintro e w' ⟨rfl, rfl⟩)
    go_ret
    exact ⟨ret_bool (by simp [okStep, *]), by (repeat (first | exact Below.refl _ _ | assumption | refine B_alloc ?_ (Nat.le_refl _) _ | refine Below.drew ?_ | refine B_drewN ?_ _ | refine B_after (by assumption) ?_ | (refine B_set ?_ ?_; rotate_left; (first | exact Nat.le_refl _ | (simp; done) | (simp at *; omega)))))⟩
theorem runs_ValidSteps1 : Runs 104 := runs_of Try.func104 (by kernel_rfl) rfl
theorem validL_any {st : List OpV} (h : st.length ≤ 40) : (!(st.any fun o => !okStep o)) = validL st := by
  unfold validL
  rw [List.all_eq_not_any_not, show decide (st.length ≤ 40) = true by simp [h]]
  simp
set_option maxHeartbeats 1000000 in
theorem ValidSteps_any (A : Option Addr) (n c : Nat) (st : List OpV) (w : World) (hx : ROps w A n st) :
    Calls Try.prog 66 #[.slice A n c] w fun e w' => e = .returned (.bool (validL st)) ∧ Below w.heap.size w w' := by
  have hn := hx.2.1
  have hl := hx.1
  have hC := ContainsFuncSt_any A n c st 104 #[] (fun o => !okStep o) w hx ⟨runs_ValidSteps1, fun W o _ _ => ValidSteps1_any o W⟩
  have HC := Lib.hid hC
  clear hx hC
  by_cases h40 : n ≤ 40
  · have HV := Lib.hid (validL_any (st := st) (by omega))
    obtain ⟨b, hb⟩ : ∃ b, (st.any fun o => !okStep o) = b := ⟨_, rfl⟩
    rw [hb] at HC HV
    clear hb
    go_enter Try.func66, Try.ntmps66
    go_wp2_with (go_at_call 103; refine HC.out.mono ?_; rintro e w1 ⟨rfl, hb1⟩)
    go_ret
    exact ⟨ret_bool HV.out, hb1⟩
  · have hv : validL st = false := by unfold validL; rw [show decide (st.length ≤ 40) = false by simp; omega]; rfl
    have HV := Lib.hid hv
    clear hv
    go_enter Try.func66, Try.ntmps66
    go_wp2_with fail
    go_ret
    exact ⟨ret_bool HV.out.symm, Below.refl _ _⟩

end Go.Proofs.Ytncebpmckbcabaa
namespace Go.Proofs.Ytncebpmckbcabaa
open Go.RowKit Go.BigFrame
set_option linter.unusedVariables false

def tblL (L : List OpV) : List Int := [heldI L 0 0, heldI L 0 1, heldI L 0 2, heldI L 1 0, heldI L 1 1, heldI L 1 2, heldI L 2 0, heldI L 2 1, heldI L 2 2, heldI L 3 0, heldI L 3 1, heldI L 3 2]
/-- Block g is the table behind steps. -/
def TblAt (w : World) (g : Nat) (L : List OpV) : Prop := RowIs w g 120 (intCells (tblL L))
theorem tbl_get (L : List OpV) {t x : Nat} (ht : t ≤ 3) (hx : x ≤ 2) : (intCells (tblL L))[t * 3 + x]? = some (.int .i64 (heldI L t x)) := by
  rcases (by omega : t = 0 ∨ t = 1 ∨ t = 2 ∨ t = 3) with rfl | rfl | rfl | rfl <;> rcases (by omega : x = 0 ∨ x = 1 ∨ x = 2) with rfl | rfl | rfl <;> rfl
theorem TblAt.cell {w : World} {g : Nat} {L : List OpV} (h : TblAt w g L) {t x : Nat} (ht : t ≤ 3) (hx : x ≤ 2) : w.cell? ⟨g, t * 3 + x, none⟩ = some (.int .i64 (heldI L t x)) := RowIs.cell h (tbl_get L ht hx)
theorem TblAt.below {w w' : World} {g : Nat} {L : List OpV} (h : TblAt w g L) (hb : Below w.heap.size w w') : TblAt w' g L := RowIs.below h hb (Nat.le_refl _)
theorem TblAt.lt {w : World} {g : Nat} {L : List OpV} (h : TblAt w g L) : g < w.heap.size := RowIs.lt h
/-- A step that sets one lock. -/
theorem tbl_set {L : List OpV} {s : OpV} {t x : Nat} (ht : t ≤ 3) (hx : x ≤ 2) (h1 : s.tx = t) (h2 : s.item = x) {v : Int} (hv : hStep t x (heldI L t x) s = v) : (intCells (tblL L)).set (t * 3 + x) (.int .i64 v) = intCells (tblL (L ++ [s])) := by
  have key : ∀ t' x' : Int, heldI (L ++ [s]) t' x' = if t' = (t : Int) ∧ x' = (x : Int) then v else heldI L t' x' := fun t' x' => by
    rw [heldI_snoc]
    by_cases h : t' = (t : Int) ∧ x' = (x : Int)
    · rw [if_pos h, h.1, h.2]; exact hv
    · rw [if_neg h]
      unfold hStep
      rw [if_neg (by rw [h1, h2]; rintro ⟨e1, e2⟩; exact h ⟨e1.symm, e2.symm⟩)]
  rcases (by omega : t = 0 ∨ t = 1 ∨ t = 2 ∨ t = 3) with rfl | rfl | rfl | rfl <;> rcases (by omega : x = 0 ∨ x = 1 ∨ x = 2) with rfl | rfl | rfl
  all_goals simp [tblL, intCells, key]
theorem tbl_none {L : List OpV} {s : OpV} (h : 3 ≤ s.kind) : tblL (L ++ [s]) = tblL L := by
  have : ∀ t x : Int, heldI (L ++ [s]) t x = heldI L t x := fun t x => by
    rw [heldI_snoc]
    unfold hStep
    split
    · rw [if_neg (by omega), if_neg (by omega)]
    · rfl
  unfold tblL
  simp only [this]
set_option maxHeartbeats 400000 in
theorem takes_any (o : OpV) (w : World) :
    Calls Try.prog 107 #[o.val] w fun e w' => e = .returned (.bool (o.kind == 0 || o.kind == 1)) ∧ Below w.heap.size w w' := by
  obtain ⟨t, k, x⟩ := o
  unfold OpV.val
  by_cases k0 : k = 0
  · subst k0
    go_enter Try.func107, Try.ntmps107
    go_wp2
    go_ret
    exact ⟨rfl, (Below.refl _ _).alloc (Nat.le_refl _) _⟩
  · have hk : (k == 0) = false := by simp [k0]
    go_enter Try.func107, Try.ntmps107
    go_wp2
    go_ret
    exact ⟨ret_bool (by simp [hk]), (Below.refl _ _).alloc (Nat.le_refl _) _⟩

def TakePost (g : Nat) (L : List OpV) (s : OpV) (w : World) (e : Ending) (w' : World) : Prop := e = .returned (.tuple #[]) ∧ TblAt w' g (L ++ [s]) ∧ w.grownBy w' (some g)
theorem take_put {w wd : World} {g : Nat} {L : List OpV} {s : OpV} {t x : Nat} (h : TblAt wd g L) (hb : Below w.heap.size w wd) (ht : t ≤ 3) (hx : x ≤ 2) (h1 : s.tx = t) (h2 : s.item = x) {v : Int} (hv : hStep t x (heldI L t x) s = v) :
    TakePost g L s w (.returned (.tuple #[])) (wd.setCell ⟨g, t * 3 + x, none⟩ (.int .i64 v)) := by
  refine ⟨rfl, ?_, World.grownBy.trans (grown_below hb) grown_set⟩
  unfold TblAt
  rw [← tbl_set ht hx h1 h2 hv]
  exact RowIs.set h _ _
set_option maxRecDepth 100000 in
set_option maxHeartbeats 1000000 in
theorem take_any (g : Nat) (L : List OpV) (s : OpV) (w : World) (h : TblAt w g L) (hs : okStep s = true) :
    Calls Try.prog 69 #[.pointer (some ⟨g, 0, none⟩), s.val] w (TakePost g L s w) := by
  obtain ⟨ht, hk, hx⟩ := okStep_iff.1 hs
  obtain ⟨t, k, x⟩ := s
  simp only at ht hk hx
  obtain ⟨T, rfl⟩ := Int.eq_ofNat_of_zero_le ht.1
  obtain ⟨X, rfl⟩ := Int.eq_ofNat_of_zero_le hx.1
  have hT3 : T ≤ 3 := by omega
  have hX2 : X ≤ 2 := by omega
  have H := Lib.hid h
  obtain ⟨W, hW⟩ : ∃ W : World, W = w.alloc (.cells #[.int .i64 (T : Int), .int .i64 k, .int .i64 (X : Int)] 73) := ⟨_, rfl⟩
  have HBW : Hid (Below w.heap.size w W) := by show Below _ _ _; rw [hW]; exact (Below.refl _ _).alloc (Nat.le_refl _) _
  have HCW : Hid (∀ u, Below W.heap.size W u → u.cell? ⟨w.heap.size, 0, none⟩ = some (.int .i64 (T : Int)) ∧ u.cell? ⟨w.heap.size, 1, none⟩ = some (.int .i64 k) ∧ u.cell? ⟨w.heap.size, 2, none⟩ = some (.int .i64 (X : Int))) := fun u hu => by
    have a0 : W.cell? ⟨w.heap.size, 0, none⟩ = some (.int .i64 (T : Int)) := by rw [hW]; exact box_at _ _ _ _ _ rfl
    have a1 : W.cell? ⟨w.heap.size, 1, none⟩ = some (.int .i64 k) := by rw [hW]; exact box_at _ _ _ _ _ rfl
    have a2 : W.cell? ⟨w.heap.size, 2, none⟩ = some (.int .i64 (X : Int)) := by rw [hW]; exact box_at _ _ _ _ _ rfl
    exact ⟨Later.cell a0 ⟨u, hu⟩, Later.cell a1 ⟨u, hu⟩, Later.cell a2 ⟨u, hu⟩⟩
  have HW := Lib.hid hW
  have hT4 : (T : Int) < 4 := by omega
  have hT0 : (0 : Int) ≤ (T : Int) := by omega
  have hX3 : (X : Int) < 3 := by omega
  have hX0 : (0 : Int) ≤ (X : Int) := by omega
  clear h hW hs
  unfold OpV.val
  simp only
  obtain ⟨bt, hbt⟩ : ∃ b, (k == 0 || k == 1) = b := ⟨_, rfl⟩
  have HT : Hid (∀ W : World, Calls Try.prog 107 #[.agg #[.int .i64 (T : Int), .int .i64 k, .int .i64 (X : Int)]] W fun e w' => e = .returned (.bool bt) ∧ Below W.heap.size W w') := fun W => by
    have := takes_any ⟨(T : Int), k, (X : Int)⟩ W
    simp only at this
    rw [hbt] at this
    exact this
  cases bt
  · by_cases k2 : k = 2
    · subst k2
      clear hbt
      go_enter Try.func69, Try.ntmps69
      go_wp2_with (go_at_call 107; go_loud (rw [← HW.out]; refine (HT.out W).mono ?_; rintro e w2 ⟨rfl, hb2⟩; have hbw2 := HBW.out.trans (hb2.mono HBW.out.size); obtain ⟨e0, e1, e2⟩ := HCW.out _ hb2))
      have hT := H.out.below hbw2
      have hc := hT.cell hT3 hX2
      have hf := RowIs.frozen hT (T * 3 + X)
      obtain ⟨wd, hwd⟩ : ∃ wd : World, wd = w2.drew := ⟨_, rfl⟩
      have HP : Hid (TakePost g L ⟨(T : Int), 2, (X : Int)⟩ w (.returned (.tuple #[])) (wd.setCell ⟨g, T * 3 + X, none⟩ (.int .i64 (-1)))) := by
        show TakePost _ _ _ _ _ _
        rw [hwd]
        exact take_put (show TblAt w2.drew g L from hT) hbw2.drew hT3 hX2 rfl rfl (by unfold hStep; simp)
      have hcd : wd.cell? ⟨g, T * 3 + X, none⟩ = some (.int .i64 (heldI L T X)) := by rw [hwd]; exact hc
      have hfd : wd.frozen? ⟨g, T * 3 + X, none⟩ = false := by rw [hwd]; exact hf
      have HWD := Lib.hid hwd
      clear hT hc hf hwd hbw2 hb2
      refine wp_region_still_tail 8 (by kernel_rfl) (by kernel_rfl) ?_
      simp only [List.take_succ_cons, List.take_zero, List.drop_succ_cons, List.drop_zero]
      repeat (first | still_step | fail)
      refine wpStill_nil ?_
      change wpList _ _ _ _ _ w2.drew
      rw [← HWD.out]
      go_wp2_with fail
      refine bodyPost_ret (results_none rfl _ _ _) rfl ?_
      exact HP.out
    · have h34 : 3 ≤ k := by simp at hbt; omega
      have HN : Hid (∀ w', Below w.heap.size w w' → TakePost g L ⟨(T : Int), k, (X : Int)⟩ w (.returned (.tuple #[])) w') := fun w' hb => ⟨rfl, by unfold TblAt; rw [tbl_none (s := ⟨(T : Int), k, (X : Int)⟩) h34]; exact H.out.below hb, grown_below hb⟩
      have hk2 : (k == 2) = false := by simp [k2]
      clear hbt
      go_enter Try.func69, Try.ntmps69
      go_wp2_with (go_at_call 107; go_loud (rw [← HW.out]; refine (HT.out W).mono ?_; rintro e w2 ⟨rfl, hb2⟩; have hbw2 := HBW.out.trans (hb2.mono HBW.out.size); obtain ⟨e0, e1, e2⟩ := HCW.out _ hb2))
      refine bodyPost_ret (results_none rfl _ _ _) rfl ?_
      exact HN.out _ hbw2
  · have h01 : 0 ≤ k ∧ k ≤ 1 := by
      simp only [Bool.or_eq_true, beq_iff_eq] at hbt
      omega
    clear hbt
    go_enter Try.func69, Try.ntmps69
    go_wp2_with (go_at_call 107; go_loud (rw [← HW.out]; refine (HT.out W).mono ?_; rintro e w2 ⟨rfl, hb2⟩; have hbw2 := HBW.out.trans (hb2.mono HBW.out.size); obtain ⟨e0, e1, e2⟩ := HCW.out _ hb2))
    have hT := H.out.below hbw2
    have hc := hT.cell hT3 hX2
    have hf := RowIs.frozen hT (T * 3 + X)
    obtain ⟨wd, hwd⟩ : ∃ wd : World, wd = w2.drew := ⟨_, rfl⟩
    have HP : Hid (TakePost g L ⟨(T : Int), k, (X : Int)⟩ w (.returned (.tuple #[])) (wd.setCell ⟨g, T * 3 + X, none⟩ (.int .i64 k))) := by
      show TakePost _ _ _ _ _ _
      rw [hwd]
      exact take_put (show TblAt w2.drew g L from hT) hbw2.drew hT3 hX2 rfl rfl (by unfold hStep; simp only [and_self, if_true]; rw [if_neg (by omega), if_pos (by omega)])
    have hcd : wd.cell? ⟨g, T * 3 + X, none⟩ = some (.int .i64 (heldI L T X)) := by rw [hwd]; exact hc
    have hfd : wd.frozen? ⟨g, T * 3 + X, none⟩ = false := by rw [hwd]; exact hf
    have HWD := Lib.hid hwd
    clear hT hc hf hwd hbw2 hb2
    refine wp_region_still_tail 10 (by kernel_rfl) (by kernel_rfl) ?_
    simp only [List.take_succ_cons, List.take_zero, List.drop_succ_cons, List.drop_zero]
    repeat (first | still_step | fail)
    refine wpStill_nil ?_
    change wpList _ _ _ _ _ w2.drew
    rw [← HWD.out]
    go_wp2_with fail
    refine bodyPost_ret (results_none rfl _ _ _) rfl ?_
    exact HP.out
end Go.Proofs.Ytncebpmckbcabaa
