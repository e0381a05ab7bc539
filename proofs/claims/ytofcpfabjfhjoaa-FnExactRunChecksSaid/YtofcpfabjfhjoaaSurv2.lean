/-
  survivorsOf and SurvivorsOf of the program.
-/
import Derived.Test.YtofcpfabjfhjoaaSurv
namespace Go.Proofs.Ytofcpfabjfhjoaa
open Go.RowKit Go.BigFrame
set_option linter.unusedVariables false

/-- u is against t: it commits behind t's first operation, and both write an item. -/
def agI (s : List OpV) (t u : Int) : Bool := decide (firstI s t < commitI s u) && ((wI s u &&& wI s t) != 0)
def survStep (s : List OpV) (out : List Int) (o : OpV) : List Int := if o.kind == 2 && !(out.any (agI s o.tx)) then out ++ [o.tx] else out
def survTo (s : List OpV) (k : Nat) : List Int := (s.take k).foldl (survStep s) []
def survI (s : List OpV) : List Int := s.foldl (survStep s) []
theorem survTo_succ {s : List OpV} {k : Nat} {o : OpV} (h : s[k]? = some o) : survTo s (k + 1) = survStep s (survTo s k) o := by
  unfold survTo
  rw [take_snoc h, List.foldl_append]; rfl
theorem survTo_all {s : List OpV} {k : Nat} (h : s.length ≤ k) : survTo s k = survI s := by
  unfold survTo survI
  rw [List.take_of_length_le h]
theorem survTo_len (s : List OpV) (k : Nat) : (survTo s k).length ≤ k := by
  induction k with
  | zero => exact Nat.le_refl _
  | succ k ih =>
    cases h : s[k]? with
    | some o => rw [survTo_succ h]; unfold survStep; split <;> (try simp) <;> omega
    | none =>
      have : s.take (k + 1) = s.take k := by
        have hl : s.length ≤ k := by
          rcases Nat.lt_or_ge k s.length with h' | h'
          · rw [List.getElem?_eq_getElem h'] at h; cases h
          · exact h'
        rw [List.take_of_length_le (by omega), List.take_of_length_le hl]
      unfold survTo at *
      rw [this]; omega

set_option maxRecDepth 100000 in
set_option maxHeartbeats 1000000 in
theorem survivorsOf1_any (x : Int) (A : Option Addr) (n c b b2 : Nat) (s : List OpV) (t kd it : Int) (w : World) (hc : w.cell? ⟨b, 0, none⟩ = some (.slice A n c)) (hx : ROps w A n s) (hi : itemsOk s)
    (h0 : w.cell? ⟨b2, 0, none⟩ = some (.int .i64 t)) (h1 : w.cell? ⟨b2, 1, none⟩ = some (.int .i64 kd)) (h2 : w.cell? ⟨b2, 2, none⟩ = some (.int .i64 it)) :
    Calls Try.prog 117 #[.int .i64 x, .pointer (some ⟨b, 0, none⟩), .pointer (some ⟨b2, 0, none⟩)] w fun e w' => e = .returned (.bool (agI s t x)) ∧ Below w.heap.size w w' := by
  have L := Later.cell hc
  have L0 := Later.cell h0
  have L1 := Later.cell h1
  have L2 := Later.cell h2
  have hC : ∀ u : Later w, Calls Try.prog 85 #[.slice A n c, .int .i64 x] u.1 fun e w' => e = .returned (.int .i64 (commitI s x)) ∧ Below u.1.heap.size u.1 w' := fun u => commitOf_any A n c s x u.1 (hx.later u)
  have hF : ∀ u : Later w, Calls Try.prog 84 #[.slice A n c, .int .i64 t] u.1 fun e w' => e = .returned (.int .i64 (firstI s t)) ∧ Below u.1.heap.size u.1 w' := fun u => firstOf_any A n c s t u.1 (hx.later u)
  have hW : ∀ (y : Int) (u : Later w), Calls Try.prog 118 #[.slice A n c, .int .i64 y] u.1 fun e w' => e = .returned (.int .i64 (wI s y : Nat)) ∧ Below u.1.heap.size u.1 w' := fun y u => writesOf_any A n c s y u.1 (hx.later u) hi
  have hb : bits .and .i64 (wI s x : Int) (wI s t : Int) = ((wI s x &&& wI s t : Nat) : Int) := and_nat _ _ (by have := wTo_lt s x hi s.length; unfold wI; omega) (by have := wTo_lt s t hi s.length; unfold wI; omega)
  have HC := Lib.hid hC
  have HF := Lib.hid hF
  have HW := Lib.hid hW
  have hres : Hid (agI s t x = (decide (firstI s t < commitI s x) && ((wI s x &&& wI s t) != 0))) := rfl
  clear hC hF hW hx hi hc h0 h1 h2
  cases hlt : decide (firstI s t < commitI s x)
  · have hlt2 := hlt
    have HL := Lib.hid hlt
    clear hlt
    go_enter Try.func117, Try.ntmps117
    go_wp2_with fail
    refine region_later (by kernel_rfl) (by kernel_rfl) ?_
    repeat (go_big_quiet_step ((first | (go_at_call 85; exact later_call _ (HC.out _)) | (go_at_call 84; exact later_call _ (HF.out _)) | (go_at_call 118; exact later_call _ (HW.out _ _)))))
    refine wpQuiet_nil ?_
    rintro _ ⟨u, rfl⟩
    go_wp2_with fail
    go_ret
    exact ⟨ret_bool (by rw [hres.out, HL.out]; rfl), u.2⟩
  · have hlt2 := hlt
    have HL := Lib.hid hlt
    clear hlt
    obtain ⟨bz, hz⟩ : ∃ b, ((wI s x &&& wI s t) != 0) = b := ⟨_, rfl⟩
    have hz2 : ((((wI s x &&& wI s t : Nat)) : Int) != 0) = bz := by
      have e : ((((wI s x &&& wI s t : Nat)) : Int) != 0) = ((wI s x &&& wI s t) != 0) := by
        rw [Bool.eq_iff_iff]; simp
      exact e.trans hz
    have HZ := Lib.hid hz
    clear hz
    cases bz
    all_goals
      go_enter Try.func117, Try.ntmps117
      go_wp2_with fail
      refine region_later (by kernel_rfl) (by kernel_rfl) ?_
      repeat (go_big_quiet_step ((first | (go_at_call 85; exact later_call _ (HC.out _)) | (go_at_call 84; exact later_call _ (HF.out _)) | (go_at_call 118; exact later_call _ (HW.out _ _)))))
      refine wpQuiet_nil ?_
      rintro _ ⟨u, rfl⟩
      go_wp2_with fail
      go_ret
      exact ⟨ret_bool (by rw [hres.out, HL.out, HZ.out]; rfl), u.2⟩

theorem validS_ops {s : List OpV} (h : validS s = true) : ∀ o ∈ s, validOp o = true := by
  intro o ho
  unfold validS at h
  simp only [Bool.and_eq_true, List.all_eq_true] at h
  obtain ⟨k, hk⟩ := List.mem_iff_getElem?.1 ho
  have hl : k < s.length := by
    rcases Nat.lt_or_ge k s.length with h | h
    · exact h
    · rw [List.getElem?_eq_none h] at hk; cases hk
  have := h.2 k (List.mem_range.2 hl)
  unfold goodAt at this
  rw [hk] at this
  simp only [Bool.and_eq_true] at this
  exact this.1
theorem validS_items {s : List OpV} (h : validS s = true) : itemsOk s := by
  intro o ho h1
  have := validS_ops h o ho
  simp [validOp, isAcc, isEnd, inR, h1] at this
  omega
theorem runs_survivorsOf1 : Runs 117 := runs_of Try.func117 (by kernel_rfl) rfl

/-- append of integers to a 'list[int]'. -/
theorem app_list {w : World} {ops : Array Oper} {rest : List Oper} {o : Oper} {a : Act} {Q : Exit → Act → World → Prop} (s x : Operand) {base : Nat} {v : Value} {n : Nat} {xs : List Int} (hown : w.ownsRow base 3 1 v n (intCells xs)) (hbase : base ≤ w.heap.size)
    {A : Option Addr} {m c : Nat} {ys : List Int} (hr : RInts w A m ys) (hn : n ≤ 1099511627776)
    (hgd : o.guard = none) (ho : o.op = .call { callee := .builtin .append, args := #[s, x], argTypes := #[60, 60] }) (hs : a.eval s = v) (hx : a.eval x = .slice A m c)
    (h : ∀ v' w', w'.ownsRow base 3 1 v' (n + m) (intCells (xs ++ ys)) → w.grownBy w' v.ownBlock → (v'.ownBlock = v.ownBlock ∨ v'.ownBlock = some w.heap.size) → wpList Try.prog ops Q rest (a.put o.dst v') w') : wpList Try.prog ops Q (o :: rest) a w := by
  obtain ⟨i0, hi, hz0, hz1, hz2⟩ := info_parts intInfo
  have hm := hr.2.1
  refine wpList_app hgd s x _ ho base _ i0 _ 1 8 Try.underlying60 hi hz0 hz1 hz2 rfl (by decide) v n _ hs hown A m c _ hx hr.src (by simp only [maxLen]; omega) (by omega) hbase ?_
  intro v' w' h1 h2 h3
  have e : intCells xs ++ intCells ys = intCells (xs ++ ys) := by simp [intCells]
  rw [e] at h1
  exact h v' w' h1 h2 h3

set_option maxRecDepth 100000 in
set_option maxHeartbeats 1000000 in
theorem survivorsOf_any (A : Option Addr) (n c : Nat) (s : List OpV) (w : World) (hx : ROps w A n s) (hi : itemsOk s) :
    Calls Try.prog 69 #[.slice A n c] w (RetInts w (survI s)) := by
  have hn := hx.2.1
  have hl := hx.1
  have HX := Lib.hid hx
  have HI := Lib.hid hi
  clear hx hi
  obtain ⟨i0, hi, hz0, hz1, hz2⟩ := info_parts intInfo
  have hbx := box_at w #[.slice A n c] 23 0 (.slice A n c) rfl
  have HBX := Lib.hid hbx
  clear hbx
  go_enter Try.func69, Try.ntmps69
  go_wp2_with (at_make; refine wpList_make_own _ rfl _ _ 60 rfl (w.heap.size + 1) 3 i0 _ 1 Try.underlying60 hi hz0 hz1 .i64 .i64 _ 4 rfl rfl rfl (by rw [hz2]; omega) (by unfold maxLen; omega) (by simp) ?_; intro w1 hown1 hg1; have hc1 : w1.cell? ⟨w.heap.size, 0, none⟩ = some (.slice A n c) := hg1.cell HBX.out (by simp))
  have hb1 : Below w.heap.size w w1 := ((Below.refl _ _).alloc (Nat.le_refl _) _).grown hg1 (by simp) (by simp)
  have hlt1 := block_lt_of_cell hc1
  simp only at hlt1
  have HST := Lib.hid (And.intro hown1 (And.intro hb1 hc1))
  clear hown1 hb1 hg1 hi hz0 hz1 hz2 hc1
  go_loopw [3, 10] (fun ov i wr => ∃ (k m : Nat), k ≤ n ∧ m ≤ k ∧ i = .int .i64 k ∧ Below w.heap.size w wr ∧ wr.cell? ⟨w.heap.size, 0, none⟩ = some (.slice A n c) ∧ wr.ownsRow (w.heap.size + 1) 3 1 ov m (intCells (survTo s k))) (fun _ i _ => n - (intOf i).toNat)
  case atStart => exact ⟨0, 0, Nat.zero_le _, Nat.le_refl _, rfl, HST.out.2.1, HST.out.2.2, by have := HST.out.1; rw [World.size_alloc] at this; exact this⟩
  case round =>
    clear HST HBX
    obtain ⟨k, m, hk, hmk, rfl, hb, hcs, hown⟩ := hrel
    by_cases hlt : k < n
    · obtain ⟨b, off, o, rfl, hbl, ho, c0, c1, c2⟩ := (HX.out.below hb (Nat.le_refl _)).at_ hlt
      have hs := hb.size
      have hstep := Lib.hid (survTo_succ ho)
      have hcl : ∀ W : World, W = wr.alloc (.cells #[.int .i64 o.tx, .int .i64 o.kind, .int .i64 o.item] 46) →
          ClosInt W 117 #[.pointer (some ⟨w.heap.size, 0, none⟩), .pointer (some ⟨wr.heap.size, 0, none⟩)] (survTo s k) (agI s o.tx) ∧ Below wr.heap.size wr W ∧ (∀ u : Later W, u.1.cell? ⟨wr.heap.size, 0, none⟩ = some (.int .i64 o.tx)) ∧ (∀ u : Later W, u.1.cell? ⟨w.heap.size, 0, none⟩ = some (.slice (some ⟨b, off, none⟩) n c)) ∧ wr.heap.size < W.heap.size := by
        intro W hW
        obtain ⟨L0, L1, L2, hbW, hWs⟩ := op_box hW
        have hcW : W.cell? ⟨w.heap.size, 0, none⟩ = some (.slice (some ⟨b, off, none⟩) n c) := (hbW.cell (p := ⟨w.heap.size, 0, none⟩) (block_lt_of_cell hcs)).trans hcs
        refine ⟨⟨runs_survivorsOf1, fun W' x hb' _ => ?_⟩, hbW, L0, Later.cell hcW, hWs⟩
        have hbw' : Below w.heap.size w W' := hb.trans ((hbW.trans (hb'.mono hbW.size)).mono hs)
        exact survivorsOf1_any x _ n c _ _ s o.tx o.kind o.item W' (Later.cell hcW ⟨W', hb'⟩) (HX.out.below hbw' (Nat.le_refl _)) HI.out (L0 ⟨W', hb'⟩) (L1 ⟨W', hb'⟩) (L2 ⟨W', hb'⟩)
      have HC := Lib.hid hcl
      clear hcl ho
      obtain ⟨tx, kd, it⟩ := o
      simp only at hstep c0 c1 c2 HC
      by_cases hk2 : kd = 2
      · subst hk2
        go_wp2_with fail
        obtain ⟨W, hW⟩ : ∃ W : World, W = wr.alloc (.cells #[.int .i64 tx, .int .i64 2, .int .i64 it] 46) := ⟨_, rfl⟩
        rw [← hW]
        obtain ⟨hf, hbW, L0, LS, hWs⟩ := HC.out W hW
        have hownW : W.ownsRow (w.heap.size + 1) 3 1 u3 m (intCells (survTo s k)) := by rw [hW]; exact hown.alloc _
        obtain ⟨Ao, co, rfl, hmc⟩ := own_form2 hown
        refine (ContainsFuncL_any Ao m co _ _ _ _ W (RInts.of_own hownW (by omega)) hf).mono ?_
        rintro e w2 ⟨rfl, hb2⟩
        have hown2 := own_below hownW hb2
        have hbw := hb.trans ((hbW.trans (hb2.mono (by omega))).mono hs)
        have hs2 := hb2.size
        have hq0 := L0 ⟨w2, hb2⟩
        have hqs := LS ⟨w2, hb2⟩
        simp only at hq0 hqs
        clear hW hf L0 LS
        obtain ⟨bq, hbq⟩ : ∃ bq, (survTo s k).any (agI s tx) = bq := ⟨_, rfl⟩
        rw [hbq]
        have HB := Lib.hid hbq
        clear hbq
        cases bq
        · go_wp2_with (at_builtin; refine app_list (.tmp 22) (.tmp 25) (hown2.alloc _) (by simp; omega) (lit1 rfl _) (by omega) rfl rfl rfl rfl ?_; intro v3 w3 hown3 hg3 hat3; have hg3' := World.grownBy.trans (World.grownBy_alloc w2 _ _) hg3)
          have hb3 := Below.own hbw hown2 (by omega) hg3'
          have hqs3 : w3.cell? ⟨w.heap.size, 0, none⟩ = some (.slice (some ⟨b, off, none⟩) n c) := hg3'.cell hqs (fun e => by have := (World.ownsRow.lt hown2 _ e.symm).1; simp at this; omega)
          go_roundw
          case rel => exact ⟨k + 1, m + 1, by omega, by omega, by go_num, hb3, hqs3, by rw [hstep.out]; unfold survStep; rw [HB.out]; exact hown3⟩
          case measure => simp [intOf]; omega
        · go_wp2_with fail
          go_roundw
          case rel => exact ⟨k + 1, m, by omega, by omega, by go_num, hbw, hqs, by rw [hstep.out]; unfold survStep; rw [HB.out]; exact hown2⟩
          case measure => simp [intOf]; omega
      · have hk2' : (kd == 2) = false := by simpa using hk2
        go_wp2_with fail
        go_roundw
        case rel => exact ⟨k + 1, m, by omega, by omega, by go_num, hb.trans ((by (repeat (first | exact Below.refl _ _ | assumption | refine B_alloc ?_ (Nat.le_refl _) _ | refine Below.drew ?_ | refine B_drewN ?_ _ | refine B_after (by assumption) ?_ | (refine B_set ?_ ?_; rotate_left; (first | exact Nat.le_refl _ | (simp; done) | (simp at *; omega))))) : Below wr.heap.size wr _).mono hb.size), (World.cell?_alloc_lt _ _ _ (block_lt_of_cell hcs)).trans hcs, by rw [hstep.out]; unfold survStep; rw [hk2']; exact hown.alloc _⟩
        case measure => simp [intOf]; omega
    · obtain ⟨Ao, co, rfl, hmc⟩ := own_form2 hown
      rw [survTo_all (by omega)] at hown
      have HO := Lib.hid (RetInts.mk (c := m) (own_lenInts hown) (Nat.le_refl _) (FreshInts.of_own hown (by omega) (by omega)) hb)
      clear hown
      go_wp2_with fail
      go_ret
      exact HO.out


set_option maxHeartbeats 400000 in
theorem SurvivorsOf_any (A : Option Addr) (n c : Nat) (s : List OpV) (w : World) (hx : ROps w A n s) (hnc : n ≤ c) :
    Calls Try.prog 16 #[.slice A n c] w (RetInts w (orNil (validS s) (survI s))) := by
  have HX := Lib.hid hx
  clear hx
  go_enter Try.func16, Try.ntmps16
  go_wp2_with fail
  refine (ValidSchedule_any A n c s w HX.out hnc).mono ?_
  rintro e w1 ⟨rfl, hb⟩
  cases hv : validS s
  · have HV := Lib.hid hv
    clear hv
    go_wp2_with fail
    go_ret
    rw [HV.out]
    exact RetInts.nil hb
  · have HV := Lib.hid hv
    clear hv
    go_wp2_with fail
    refine (survivorsOf_any A n c s w1 (HX.out.below hb (Nat.le_refl _)) (validS_items HV.out)).mono ?_
    rintro e w2 hr
    obtain ⟨A', c', rfl, hr'⟩ := hr
    have HR : Hid (RetInts w1 (survI s) (.returned (.slice A' ((survI s)).length c')) w2) := ⟨A', c', rfl, hr'⟩
    clear hr'
    go_wp2_with fail
    go_ret
    rw [HV.out]
    exact RetInts.later hb HR.out

end Go.Proofs.Ytofcpfabjfhjoaa
