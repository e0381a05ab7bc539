/-
  Texts that the proof rests on, joined: part 31.
-/
import Derived.Test.YtncebpmckbcabaaSKp17
import Derived.Test.YtncebpmckbcabaaSKp28
namespace Go.Proofs.Ytncebpmckbcabaa
open Go.RowKit Go.BigFrame
set_option linter.unusedVariables false

/-- Whether the read at place k reads from another that has not committed ahead of place a. -/
def dirtyB (s : List OpV) (k a : Nat) : Bool := match s[k]? with | some o => decide (0 ≤ rfTo s k o.item k) && rfTo s k o.item k != o.tx && endOf (s.take a) (rfTo s k o.item k) != 2 | none => false
def casB (s : List OpV) (k : Nat) : Bool := match s[k]? with | some q => q.kind == 0 && dirtyB s k k | none => false
def recIn (s : List OpV) (q : OpV) (k j : Nat) : Bool := match s[j]? with | some o => q.kind == 2 && o.tx == q.tx && o.kind == 0 && dirtyB s j k | none => false
def recB (s : List OpV) (k : Nat) : Bool := match s[k]? with | some q => (List.range k).any (recIn s q k) | none => false

set_option maxRecDepth 100000 in
set_option maxHeartbeats 1000000 in
theorem dirty_any (A : Option Addr) (n c k a : Nat) (s : List OpV) (w : World) (hx : ROps w A n s) (hk : k < n) (ha : a ≤ n) (hnc : n ≤ c) :
    Calls Try.prog 139 #[.slice A n c, .int .i64 (k : Int), .int .i64 (a : Int)] w fun e w' => e = .returned (.bool (dirtyB s k a)) ∧ Below w.heap.size w w' := by
  have hn := hx.2.1
  obtain ⟨b, off, o, rfl, hbl, ho, c0, c1, c2⟩ := hx.at_ hk
  obtain ⟨F, hF⟩ : ∃ F, rfTo s k o.item k = F := ⟨_, rfl⟩
  obtain ⟨E, hE⟩ : ∃ E, endOf (s.take a) F = E := ⟨_, rfl⟩
  have hD : dirtyB s k a = (decide (0 ≤ F) && F != o.tx && E != 2) := by unfold dirtyB; rw [ho]; simp only [hF, hE]
  have HC1 := Lib.hid (readFrom_any (some ⟨b, off, none⟩) n c k s o w hx ho hnc)
  rw [hF] at HC1
  have hC2 : ∀ W, Below w.heap.size w W → Calls Try.prog 70 #[.slice (some ⟨b, off, none⟩) a c, .int .i64 F] W fun e w' => e = .returned (.int .i64 E) ∧ Below W.heap.size W w' := fun W h => by
    have := endOf_any (some ⟨b, off, none⟩) a c (s.take a) F W ((hx.below h (Nat.le_refl _)).take ha); rw [hE] at this; exact this
  have HC2 := Lib.hid hC2
  have HD := Lib.hid hD
  obtain ⟨tx, kd, it⟩ := o
  simp only at c0 c1 c2 HD
  have L0 := Later.cell c0
  have hki : (k : Int) < (n : Int) := by omega
  have hk0 : (0 : Int) ≤ (k : Int) := by omega
  have hac : (a : Int) ≤ (c : Int) := by omega
  have ha0 : (0 : Int) ≤ (a : Int) := by omega
  clear hx ho hF hE hD hC2 c0 c1 c2
  go_enter Try.func139, Try.ntmps139
  go_wp2_with fail
  refine HC1.out.mono ?_
  rintro e w1 ⟨rfl, hb1⟩
  have x1 := L0 ⟨w1, hb1⟩
  simp only at x1
  by_cases h0 : 0 ≤ F
  · by_cases h1 : F = tx
    · have h1' : (F != tx) = false := by simp [h1]
      have hf : Hid (dirtyB s k a = false) := by show _ = _; rw [HD.out, h1']; simp
      go_wp2_with fail
      go_ret
      exact ⟨ret_bool hf.out.symm, hb1⟩
    · have h1' : (F != tx) = true := by simp [h1]
      have h1'' : (F == tx) = false := by simp [h1]
      have hf : Hid (dirtyB s k a = (E != 2)) := by show _ = _; rw [HD.out, h1']; simp [h0]
      go_wp2_with fail
      refine (HC2.out w1 hb1).mono ?_
      rintro e w2 ⟨rfl, hb2⟩
      go_wp2_with fail
      go_ret
      exact ⟨ret_bool hf.out.symm, hb1.trans (hb2.mono hb1.size)⟩
  · have hf : Hid (dirtyB s k a = false) := by show _ = _; rw [HD.out]; simp [h0]
    go_wp2_with fail
    go_ret
    exact ⟨ret_bool hf.out.symm, hb1⟩

set_option maxRecDepth 100000 in
set_option maxHeartbeats 1000000 in
theorem rules2_any (A : Option Addr) (n c k : Nat) (s : List OpV) (w : World) (hx : ROps w A n s) (hnc : n ≤ c) (hk : k < n) :
    Calls Try.prog 140 #[.slice A n c, .int .i64 (k : Int)] w fun e w' => e = .returned (.bool (casB s k)) ∧ Below w.heap.size w w' := by
  have hn := hx.2.1
  obtain ⟨b, off, o, rfl, hbl, ho, c0, c1, c2⟩ := hx.at_ hk
  have hD : casB s k = (o.kind == 0 && dirtyB s k k) := by unfold casB; rw [ho]
  have HC := Lib.hid (dirty_any (some ⟨b, off, none⟩) n c k k s w hx hk (by omega) hnc)
  obtain ⟨D, hDD⟩ : ∃ D, dirtyB s k k = D := ⟨_, rfl⟩
  rw [hDD] at hD HC
  have HD := Lib.hid hD
  obtain ⟨tx, kd, it⟩ := o
  simp only at c0 c1 c2 HD
  have hki : (k : Int) < (n : Int) := by omega
  have hk0 : (0 : Int) ≤ (k : Int) := by omega
  clear hx ho hD hDD
  by_cases h0 : kd = 0
  · subst h0
    go_enter Try.func140, Try.ntmps140
    go_wp2_with fail
    refine HC.out.mono ?_
    rintro e w1 ⟨rfl, hb1⟩
    go_wp2_with fail
    go_ret
    exact ⟨ret_bool (by rw [HD.out]; rfl), hb1⟩
  · have h0' : (kd == 0) = false := by simpa using h0
    have hf : Hid (casB s k = false) := by show _ = _; rw [HD.out, h0']; rfl
    go_enter Try.func140, Try.ntmps140
    go_wp2_with fail
    go_ret
    exact ⟨ret_bool hf.out.symm, Below.refl _ _⟩

set_option maxRecDepth 100000 in
set_option maxHeartbeats 1000000 in
theorem rules1_any (A : Option Addr) (n c k : Nat) (s : List OpV) (w : World) (hx : ROps w A n s) (hnc : n ≤ c) (hk : k < n) :
    Calls Try.prog 138 #[.slice A n c, .int .i64 (k : Int)] w fun e w' => e = .returned (.bool (recB s k)) ∧ Below w.heap.size w w' := by
  have hl := hx.1
  have hn := hx.2.1
  obtain ⟨b, off, q, rfl, hbl, hq, c0, c1, c2⟩ := hx.at_ hk
  have hC0 : recB s k = (List.range k).any (recIn s q k) := by unfold recB; rw [hq]
  have HCB := Lib.hid hC0
  have HX := Lib.hid hx
  obtain ⟨qt, qk, qi⟩ := q
  simp only at c0 c1 c2 HCB
  clear hx hC0 hq
  have hki : (k : Int) < (n : Int) := by omega
  have hk0 : (0 : Int) ≤ (k : Int) := by omega
  have hkc : (k : Int) ≤ (c : Int) := by omega
  go_enter Try.func138, Try.ntmps138
  go_wp2_with fail
  go_loopw [11] (fun i wr => ∃ j : Nat, j ≤ k ∧ i = .int .i64 j ∧ Below w.heap.size w wr ∧ ∀ m, m < j → recIn s ⟨qt, qk, qi⟩ k m = false) (fun i _ => k - (intOf i).toNat)
  case atStart => exact ⟨0, Nat.zero_le _, rfl, Below.refl _ _, by omega⟩
  case round =>
    obtain ⟨j, hj, rfl, hb, hno⟩ := hrel
    by_cases hlt : j < k
    · have hxr := HX.out.below hb (Nat.le_refl _)
      obtain ⟨b', off', o, hA', _, ho, e0, e1, e2⟩ := hxr.at_ (k := j) (by omega)
      injection hA' with hA'; injection hA' with q1 q2 _; subst q1; subst q2
      obtain ⟨D, hD⟩ : ∃ D, dirtyB s j k = D := ⟨_, rfl⟩
      have hin : recIn s ⟨qt, qk, qi⟩ k j = (qk == 2 && o.tx == qt && o.kind == 0 && D) := by unfold recIn; rw [ho]; simp only [hD]
      obtain ⟨W, hW⟩ : ∃ W : World, W = wr.alloc (.cells #[.int .i64 o.tx, .int .i64 o.kind, .int .i64 o.item] 62) := ⟨_, rfl⟩
      obtain ⟨L0, L1, L2, hbW, hWs⟩ := op_box hW
      have HD : Hid (∀ u : Later W, Calls Try.prog 139 #[.slice (some ⟨b, off, none⟩) n c, .int .i64 (j : Int), .int .i64 (k : Int)] u.1 fun e w' => e = .returned (.bool D) ∧ Below u.1.heap.size u.1 w') := fun u => by
        have := dirty_any (some ⟨b, off, none⟩) n c j k s u.1 ((hxr.below hbW (Nat.le_refl _)).later u) (by omega) (by omega) hnc; rw [hD] at this; exact this
      obtain ⟨ot, ok, oi⟩ := o
      simp only at e0 e1 e2 L0 L1 L2 hin hW
      obtain ⟨r1, hr1⟩ : ∃ z, (qk == 2) = z := ⟨_, rfl⟩
      obtain ⟨r2, hr2⟩ : ∃ z, (ot == qt) = z := ⟨_, rfl⟩
      obtain ⟨r3, hr3⟩ : ∃ z, (ok == 0) = z := ⟨_, rfl⟩
      rw [hr1, hr2, hr3] at hin
      have HNX : Hid ((r1 && r2 && r3 && D) = false → ∀ m, m < j + 1 → recIn s ⟨qt, qk, qi⟩ k m = false) := fun h m hm => by
        by_cases e : m = j
        · subst e; rw [hin]; exact h
        · exact hno m (by omega)
      have HFX : Hid ((r1 && r2 && r3 && D) = true → recB s k = true) := fun h => by
        rw [HCB.out, List.any_eq_true]
        exact ⟨j, List.mem_range.2 hlt, by rw [hin]; exact h⟩
      have hbwW := hb.trans (hbW.mono hb.size)
      have n0 : ∀ u : Later W, u.1.cell? ⟨b, off + k * 3, none⟩ = some (.int .i64 qt) := fun u => Later.cell c0 ⟨u.1, hbwW.trans (u.2.mono hbwW.size)⟩
      have n1 : ∀ u : Later W, u.1.cell? ⟨b, off + k * 3 + 1, none⟩ = some (.int .i64 qk) := fun u => Later.cell c1 ⟨u.1, hbwW.trans (u.2.mono hbwW.size)⟩
      have HW := Lib.hid hW
      have hji : (j : Int) < (k : Int) := by omega
      have hj0 : (0 : Int) ≤ (j : Int) := by omega
      clear hD hin hno ho hxr hW
      go_wp2_with fail
      rw [← HW.out]
      clear e0 e1 e2
      cases r1
      · refine region_later (by kernel_rfl) (by kernel_rfl) ?_
        repeat (go_big_quiet_step ((go_at_call 139; exact later_call _ (HD.out _))))
        refine wpQuiet_nil ?_
        rintro _ ⟨u, rfl⟩
        have hbu := hbwW.trans (u.2.mono hbwW.size)
        have HNZ := Lib.hid (HNX.out (by simp))
        clear HNX HFX
        go_wp2_with fail
        go_roundw
        case rel => exact ⟨j + 1, by omega, by go_num, hbu, HNZ.out⟩
        case measure => simp [intOf]; omega
      · cases r2
        · refine region_later (by kernel_rfl) (by kernel_rfl) ?_
          repeat (go_big_quiet_step ((go_at_call 139; exact later_call _ (HD.out _))))
          refine wpQuiet_nil ?_
          rintro _ ⟨u, rfl⟩
          have hbu := hbwW.trans (u.2.mono hbwW.size)
          have HNZ := Lib.hid (HNX.out (by simp))
          clear HNX HFX
          go_wp2_with fail
          go_roundw
          case rel => exact ⟨j + 1, by omega, by go_num, hbu, HNZ.out⟩
          case measure => simp [intOf]; omega
        · cases r3
          · refine region_later (by kernel_rfl) (by kernel_rfl) ?_
            repeat (go_big_quiet_step ((go_at_call 139; exact later_call _ (HD.out _))))
            refine wpQuiet_nil ?_
            rintro _ ⟨u, rfl⟩
            have hbu := hbwW.trans (u.2.mono hbwW.size)
            have HNZ := Lib.hid (HNX.out (by simp))
            clear HNX HFX
            go_wp2_with fail
            go_roundw
            case rel => exact ⟨j + 1, by omega, by go_num, hbu, HNZ.out⟩
            case measure => simp [intOf]; omega
          · cases D
            · refine region_later (by kernel_rfl) (by kernel_rfl) ?_
              repeat (go_big_quiet_step ((go_at_call 139; exact later_call _ (HD.out _))))
              refine wpQuiet_nil ?_
              rintro _ ⟨u, rfl⟩
              have hbu := hbwW.trans (u.2.mono hbwW.size)
              have HNZ := Lib.hid (HNX.out (by simp))
              clear HNX HFX
              go_wp2_with fail
              go_roundw
              case rel => exact ⟨j + 1, by omega, by go_num, hbu, HNZ.out⟩
              case measure => simp [intOf]; omega
            · have hf := Lib.hid (HFX.out (by simp))
              refine region_later (by kernel_rfl) (by kernel_rfl) ?_
              repeat (go_big_quiet_step ((go_at_call 139; exact later_call _ (HD.out _))))
              refine wpQuiet_nil ?_
              rintro _ ⟨u, rfl⟩
              have hbu := hbwW.trans (u.2.mono hbwW.size)
              clear HNX HFX
              go_wp2_with fail
              go_ret
              exact ⟨ret_bool hf.out.symm, hbu⟩
    · have hf : Hid (recB s k = false) := by
        show _ = _
        rw [HCB.out, List.any_eq_false]
        intro m hm
        rw [hno m (by have := List.mem_range.1 hm; omega)]; simp
      clear hno
      go_wp2_with fail
      go_ret
      exact ⟨ret_bool hf.out.symm, hb⟩


set_option maxRecDepth 100000 in
set_option maxHeartbeats 2000000 in
theorem faultRec_any (A : Option Addr) (n c : Nat) (s : List OpV) (w : World) (hx : ROps w A n s) (hnc : n ≤ c) :
    Calls Try.prog 73 #[.string { data := #[114, 101, 99, 111, 118, 101, 114, 97, 98, 108, 101] }, .slice A n c] w (FaultP s w (faultZ (recB s) s.length)) := by
  have hl := hx.1
  have hn := hx.2.1
  have HX := Lib.hid hx
  clear hx
  go_enter Try.func73, Try.ntmps73
  go_wp2_with fail
  refine (ValidSchedule_any A n c s w HX.out hnc).mono ?_
  rintro e w1 ⟨rfl, hb1⟩
  cases hv : validS s
  · have HV := Lib.hid hv
    clear hv
    go_wp2_with fail
    go_ret2
    exact FaultP.no HV.out hb1
  · have HV := Lib.hid hv
    clear hv
    go_wp2_with fail
    refine (rules_any w1).mono ?_
    rintro e w2 ⟨rfl, hw2⟩
    have hb12 : Below w1.heap.size w1 w2 := by rw [hw2]; exact (Below.refl _ _).alloc (Nat.le_refl _) _
    have hbV := hb1.trans (hb12.mono hb1.size)
    have hlt2 : w1.heap.size < w2.heap.size := by rw [hw2]; simp
    have HW2 := Lib.hid hw2
    clear hw2
    go_wp2_with fail
    go_loopw [14] (fun i wr => ∃ r : Nat, r ≤ 0 ∧ i = .int .i64 r ∧ Below w2.heap.size w2 wr) (fun i _ => 5 - (intOf i).toNat)
    case atStart => exact ⟨0, by omega, rfl, Below.refl _ _⟩
    case round =>
    obtain ⟨r, hr, rfl, hb⟩ := hrel
    obtain rfl : r = 0 := by omega
    · rw [show ((0 : Nat) : Int) = 0 from rfl]
      have d0 : wr.cell? ⟨w1.heap.size, 0, none⟩ = some (.string { data := #[114, 101, 99, 111, 118, 101, 114, 97, 98, 108, 101] }) := (hb.cell (p := ⟨w1.heap.size, 0, none⟩) hlt2).trans (by rw [HW2.out]; exact box_at _ _ _ _ _ rfl)
      have d1 : wr.cell? ⟨w1.heap.size, 1, none⟩ = some (.func (.func 138) #[] #[]) := (hb.cell (p := ⟨w1.heap.size, 1, none⟩) hlt2).trans (by rw [HW2.out]; exact box_at _ _ _ _ _ rfl)
      have hrun : Runs 138 := runs_of Try.func138 (by kernel_rfl) rfl
      unfold Runs at hrun
      obtain ⟨wo, rfl⟩ : ∃ wo : World, wo = wr := ⟨_, rfl⟩
      obtain ⟨W, hW⟩ : ∃ W : World, W = wo.alloc (.cells #[.string { data := #[114, 101, 99, 111, 118, 101, 114, 97, 98, 108, 101] }, .func (.func 138) #[] #[]] 127) := ⟨_, rfl⟩
      have x1 : W.cell? ⟨wo.heap.size, 1, none⟩ = some (.func (.func 138) #[] #[]) := by rw [hW]; exact box_at _ _ _ _ _ rfl
      have hbW : Below wo.heap.size wo W := by rw [hW]; exact (Below.refl _ _).alloc (Nat.le_refl _) _
      have hbwW := hb.trans (hbW.mono hb.size)
      have HW := Lib.hid hW
      clear hW
      go_wp2_with fail
      rw [← HW.out]
      go_loopw [24] (fun i wr => ∃ k : Nat, k ≤ n ∧ i = .int .i64 k ∧ Below W.heap.size W wr ∧ ∀ j, j < k → recB s j = false) (fun i _ => n - (intOf i).toNat)
      case atStart => exact ⟨0, Nat.zero_le _, rfl, Below.refl _ _, by omega⟩
      case round =>
        obtain ⟨wi, rfl⟩ : ∃ wi : World, wi = wr := ⟨_, rfl⟩
        obtain ⟨k, hk, rfl, hbi, hno⟩ := hrel
        have hbwi := hbwW.trans (hbi.mono hbwW.size)
        by_cases hlt : k < n
        · have y1 := (hbi.cell (p := ⟨wo.heap.size, 1, none⟩) (block_lt_of_cell x1)).trans x1
          obtain ⟨bb, hbb⟩ : ∃ b, recB s k = b := ⟨_, rfl⟩
          have hC : Calls Try.prog 138 #[.slice A n c, .int .i64 (k : Int)] wi fun e w' => e = .returned (.bool bb) ∧ Below wi.heap.size wi w' := by
            have := rules1_any A n c k s wi (HX.out.below (hbV.trans (hbwi.mono hbV.size)) (Nat.le_refl _)) hnc hlt; rw [hbb] at this; exact this
          have HT : Hid (bb = true → faultZ (recB s) s.length = (k : Int)) := fun h => by rw [hl]; exact faultZ_hit hlt (hbb.trans h) hno
          have HN : Hid (bb = false → ∀ j, j < k + 1 → recB s j = false) := fun h j hj => by
            by_cases e : j = k
            · subst e; exact hbb.trans h
            · exact hno j (by omega)
          have HC := Lib.hid hC
          clear hC hno hbb
          go_wp2_with fail
          refine HC.out.mono ?_
          rintro e w5 ⟨rfl, hb5⟩
          cases bb
          · have hn2 := Lib.hid (HN.out (by first | rfl | trivial))
            go_wp2_with fail
            go_roundw
            case rel => exact ⟨k + 1, by omega, by go_num, hbi.trans (hb5.mono hbi.size), hn2.out⟩
            case measure => simp [intOf]; omega
          · have ht2 := Lib.hid (HT.out (by first | rfl | trivial))
            have hbe := hbV.trans ((hbwi.trans (hb5.mono hbwi.size)).mono hbV.size)
            go_wp2_with fail
            go_ret2
            exact FaultP.yes HV.out ht2.out hbe
        · have ht2 : Hid (faultZ (recB s) s.length = -1) := faultZ_none (fun j hj => hno j (by omega))
          have hbe := hbV.trans (hbwi.mono hbV.size)
          clear hno
          go_wp2_with fail
          go_ret2
          exact FaultP.yes HV.out ht2.out hbe


set_option maxRecDepth 100000 in
set_option maxHeartbeats 2000000 in
theorem faultCas_any (A : Option Addr) (n c : Nat) (s : List OpV) (w : World) (hx : ROps w A n s) (hnc : n ≤ c) :
    Calls Try.prog 73 #[.string { data := #[99, 97, 115, 99, 97, 100, 101, 115] }, .slice A n c] w (FaultP s w (faultZ (casB s) s.length)) := by
  have hl := hx.1
  have hn := hx.2.1
  have HX := Lib.hid hx
  clear hx
  go_enter Try.func73, Try.ntmps73
  go_wp2_with fail
  refine (ValidSchedule_any A n c s w HX.out hnc).mono ?_
  rintro e w1 ⟨rfl, hb1⟩
  cases hv : validS s
  · have HV := Lib.hid hv
    clear hv
    go_wp2_with fail
    go_ret2
    exact FaultP.no HV.out hb1
  · have HV := Lib.hid hv
    clear hv
    go_wp2_with fail
    refine (rules_any w1).mono ?_
    rintro e w2 ⟨rfl, hw2⟩
    have hb12 : Below w1.heap.size w1 w2 := by rw [hw2]; exact (Below.refl _ _).alloc (Nat.le_refl _) _
    have hbV := hb1.trans (hb12.mono hb1.size)
    have hlt2 : w1.heap.size < w2.heap.size := by rw [hw2]; simp
    have HW2 := Lib.hid hw2
    clear hw2
    go_wp2_with fail
    go_loopw [14] (fun i wr => ∃ r : Nat, r ≤ 1 ∧ i = .int .i64 r ∧ Below w2.heap.size w2 wr) (fun i _ => 5 - (intOf i).toNat)
    case atStart => exact ⟨0, by omega, rfl, Below.refl _ _⟩
    case round =>
    obtain ⟨r, hr, rfl, hb⟩ := hrel
    rcases (by omega : r = 0 ∨ r = 1) with rfl | rfl
    · have d0 : wr.cell? ⟨w1.heap.size, 0, none⟩ = some (.string { data := #[114, 101, 99, 111, 118, 101, 114, 97, 98, 108, 101] }) := (hb.cell (p := ⟨w1.heap.size, 0, none⟩) hlt2).trans (by rw [HW2.out]; exact box_at _ _ _ _ _ rfl)
      have d1 : wr.cell? ⟨w1.heap.size, 1, none⟩ = some (.func (.func 138) #[] #[]) := (hb.cell (p := ⟨w1.heap.size, 1, none⟩) hlt2).trans (by rw [HW2.out]; exact box_at _ _ _ _ _ rfl)
      have hne : (({ data := #[114, 101, 99, 111, 118, 101, 114, 97, 98, 108, 101] } : ByteArray) != { data := #[99, 97, 115, 99, 97, 100, 101, 115] }) = true := by decide
      go_wp2_with fail
      go_roundw
      case rel => exact ⟨1, by omega, by go_num, hb.trans ((by (repeat (first | exact Below.refl _ _ | assumption | refine B_alloc ?_ (Nat.le_refl _) _ | refine Below.drew ?_ | refine B_drewN ?_ _ | refine B_after (by assumption) ?_ | (refine B_set ?_ ?_; rotate_left; (first | exact Nat.le_refl _ | (simp; done) | (simp at *; omega))))) : Below wr.heap.size wr _).mono hb.size)⟩
      case measure => simp [intOf] <;> omega
    · rw [show ((1 : Nat) : Int) = 1 from rfl]
      have d0 : wr.cell? ⟨w1.heap.size, 2, none⟩ = some (.string { data := #[99, 97, 115, 99, 97, 100, 101, 115] }) := (hb.cell (p := ⟨w1.heap.size, 2, none⟩) hlt2).trans (by rw [HW2.out]; exact box_at _ _ _ _ _ rfl)
      have d1 : wr.cell? ⟨w1.heap.size, 3, none⟩ = some (.func (.func 140) #[] #[]) := (hb.cell (p := ⟨w1.heap.size, 3, none⟩) hlt2).trans (by rw [HW2.out]; exact box_at _ _ _ _ _ rfl)
      have hrun : Runs 140 := runs_of Try.func140 (by kernel_rfl) rfl
      unfold Runs at hrun
      obtain ⟨wo, rfl⟩ : ∃ wo : World, wo = wr := ⟨_, rfl⟩
      obtain ⟨W, hW⟩ : ∃ W : World, W = wo.alloc (.cells #[.string { data := #[99, 97, 115, 99, 97, 100, 101, 115] }, .func (.func 140) #[] #[]] 127) := ⟨_, rfl⟩
      have x1 : W.cell? ⟨wo.heap.size, 1, none⟩ = some (.func (.func 140) #[] #[]) := by rw [hW]; exact box_at _ _ _ _ _ rfl
      have hbW : Below wo.heap.size wo W := by rw [hW]; exact (Below.refl _ _).alloc (Nat.le_refl _) _
      have hbwW := hb.trans (hbW.mono hb.size)
      have HW := Lib.hid hW
      clear hW
      go_wp2_with fail
      rw [← HW.out]
      go_loopw [24] (fun i wr => ∃ k : Nat, k ≤ n ∧ i = .int .i64 k ∧ Below W.heap.size W wr ∧ ∀ j, j < k → casB s j = false) (fun i _ => n - (intOf i).toNat)
      case atStart => exact ⟨0, Nat.zero_le _, rfl, Below.refl _ _, by omega⟩
      case round =>
        obtain ⟨wi, rfl⟩ : ∃ wi : World, wi = wr := ⟨_, rfl⟩
        obtain ⟨k, hk, rfl, hbi, hno⟩ := hrel
        have hbwi := hbwW.trans (hbi.mono hbwW.size)
        by_cases hlt : k < n
        · have y1 := (hbi.cell (p := ⟨wo.heap.size, 1, none⟩) (block_lt_of_cell x1)).trans x1
          obtain ⟨bb, hbb⟩ : ∃ b, casB s k = b := ⟨_, rfl⟩
          have hC : Calls Try.prog 140 #[.slice A n c, .int .i64 (k : Int)] wi fun e w' => e = .returned (.bool bb) ∧ Below wi.heap.size wi w' := by
            have := rules2_any A n c k s wi (HX.out.below (hbV.trans (hbwi.mono hbV.size)) (Nat.le_refl _)) hnc hlt; rw [hbb] at this; exact this
          have HT : Hid (bb = true → faultZ (casB s) s.length = (k : Int)) := fun h => by rw [hl]; exact faultZ_hit hlt (hbb.trans h) hno
          have HN : Hid (bb = false → ∀ j, j < k + 1 → casB s j = false) := fun h j hj => by
            by_cases e : j = k
            · subst e; exact hbb.trans h
            · exact hno j (by omega)
          have HC := Lib.hid hC
          clear hC hno hbb
          go_wp2_with fail
          refine HC.out.mono ?_
          rintro e w5 ⟨rfl, hb5⟩
          cases bb
          · have hn2 := Lib.hid (HN.out (by first | rfl | trivial))
            go_wp2_with fail
            go_roundw
            case rel => exact ⟨k + 1, by omega, by go_num, hbi.trans (hb5.mono hbi.size), hn2.out⟩
            case measure => simp [intOf]; omega
          · have ht2 := Lib.hid (HT.out (by first | rfl | trivial))
            have hbe := hbV.trans ((hbwi.trans (hb5.mono hbwi.size)).mono hbV.size)
            go_wp2_with fail
            go_ret2
            exact FaultP.yes HV.out ht2.out hbe
        · have ht2 : Hid (faultZ (casB s) s.length = -1) := faultZ_none (fun j hj => hno j (by omega))
          have hbe := hbV.trans (hbwi.mono hbV.size)
          clear hno
          go_wp2_with fail
          go_ret2
          exact FaultP.yes HV.out ht2.out hbe


set_option maxHeartbeats 400000 in
theorem keepsRec_any (A : Option Addr) (n c : Nat) (s : List OpV) (w : World) (hx : ROps w A n s) (hnc : n ≤ c) :
    Calls Try.prog 29 #[.string { data := #[114, 101, 99, 111, 118, 101, 114, 97, 98, 108, 101] }, .slice A n c] w fun e w' => e = .returned (.bool (validS s && faultZ (recB s) s.length == -1)) ∧ Below w.heap.size w w' := by
  have HX := Lib.hid hx
  clear hx
  obtain ⟨Z, hZ⟩ : ∃ z, faultZ (recB s) s.length = z := ⟨_, rfl⟩
  obtain ⟨V, hV⟩ : ∃ z, validS s = z := ⟨_, rfl⟩
  have hF : Calls Try.prog 73 #[.string { data := #[114, 101, 99, 111, 118, 101, 114, 97, 98, 108, 101] }, .slice A n c] w fun e w' => e = .returned (.tuple #[.int .i64 (if V then Z else -1), .bool V]) ∧ Below w.heap.size w w' := by
    have := faultRec_any A n c s w HX.out hnc
    unfold FaultP at this
    rw [hZ, hV] at this
    exact this
  rw [hZ, hV]
  have HF := Lib.hid hF
  clear hF hZ hV
  go_enter Try.func29, Try.ntmps29
  go_wp2_with fail
  refine HF.out.mono ?_
  cases V
  · rintro e w1 ⟨rfl, hb1⟩
    go_wp2_with fail
    go_ret
    exact ⟨ret_bool (by first | rfl | simp), hb1⟩
  · rintro e w1 ⟨rfl, hb1⟩
    go_wp2_with fail
    go_ret
    exact ⟨ret_bool (by first | rfl | simp), hb1⟩


set_option maxHeartbeats 400000 in
theorem keepsCas_any (A : Option Addr) (n c : Nat) (s : List OpV) (w : World) (hx : ROps w A n s) (hnc : n ≤ c) :
    Calls Try.prog 29 #[.string { data := #[99, 97, 115, 99, 97, 100, 101, 115] }, .slice A n c] w fun e w' => e = .returned (.bool (validS s && faultZ (casB s) s.length == -1)) ∧ Below w.heap.size w w' := by
  have HX := Lib.hid hx
  clear hx
  obtain ⟨Z, hZ⟩ : ∃ z, faultZ (casB s) s.length = z := ⟨_, rfl⟩
  obtain ⟨V, hV⟩ : ∃ z, validS s = z := ⟨_, rfl⟩
  have hF : Calls Try.prog 73 #[.string { data := #[99, 97, 115, 99, 97, 100, 101, 115] }, .slice A n c] w fun e w' => e = .returned (.tuple #[.int .i64 (if V then Z else -1), .bool V]) ∧ Below w.heap.size w w' := by
    have := faultCas_any A n c s w HX.out hnc
    unfold FaultP at this
    rw [hZ, hV] at this
    exact this
  rw [hZ, hV]
  have HF := Lib.hid hF
  clear hF hZ hV
  go_enter Try.func29, Try.ntmps29
  go_wp2_with fail
  refine HF.out.mono ?_
  cases V
  · rintro e w1 ⟨rfl, hb1⟩
    go_wp2_with fail
    go_ret
    exact ⟨ret_bool (by first | rfl | simp), hb1⟩
  · rintro e w1 ⟨rfl, hb1⟩
    go_wp2_with fail
    go_ret
    exact ⟨ret_bool (by first | rfl | simp), hb1⟩

end Go.Proofs.Ytncebpmckbcabaa
