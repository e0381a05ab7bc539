/-
  LocksOf of the program.
-/
import Derived.Test.YtcakjhappchlmaaQWLkL1
import Derived.Test.YtcakjhappchlmaaQWLkLP
import Derived.BigQuiet
namespace Go.Proofs.Ytcakjhappchlmaa
open Go.RowKit Go.BigFrame
set_option linter.unusedVariables false

theorem lk_len (s : List OpV) (k : Nat) : (locksS (s.take k)).length ≤ 3 * k := by
  have h := locksS_len (s.take k)
  have := List.length_take_le k s
  omega
theorem lkStep_ok {L : List OpV} {o : OpV} (hv : validOp o = true) (h : ∀ s ∈ L, okStep s = true) : ∀ s ∈ lkStep L o, okStep s = true := by
  have ho : (0 ≤ o.tx ∧ o.tx ≤ 3) ∧ (isEnd o = false → 0 ≤ o.item ∧ o.item ≤ 2) := by
    unfold validOp isAcc isEnd inR at *
    simp only [Bool.and_eq_true, Bool.or_eq_true, beq_iff_eq, decide_eq_true_eq] at hv
    simp only [Bool.or_eq_false_iff, beq_eq_false_iff_ne]
    omega
  unfold lkStep
  split
  · exact (dropTo_ok h ho.1 3 (by omega)).1
  · rename_i he
    have he' : isEnd o = false := by simpa using he
    have hk := acc_kind hv he'
    have hi := ho.2 he'
    have a1 : okStep ⟨o.tx, o.kind, o.item⟩ = true := okStep_iff.2 (by simp only; omega)
    have a2 : okStep ⟨o.tx, 3 + o.kind, o.item⟩ = true := okStep_iff.2 (by simp only; omega)
    refine ok_snoc ?_ a2
    split
    · exact ok_snoc h a1
    · exact h
theorem locks_okS {s : List OpV} (hv : ∀ o ∈ s, validOp o = true) : ∀ a ∈ locksS s, okStep a = true := by
  have : ∀ (l : List OpV) (L : List OpV), (∀ o ∈ l, validOp o = true) → (∀ a ∈ L, okStep a = true) → ∀ a ∈ l.foldl lkStep L, okStep a = true := by
    intro l
    induction l with
    | nil => exact fun L _ h => h
    | cons o r ih => exact fun L hl h => by rw [List.foldl_cons]; exact ih _ (fun q hq => hl q (List.mem_cons_of_mem _ hq)) (lkStep_ok (hl o List.mem_cons_self) h)
  exact this s [] hv (fun a ha => by cases ha)

/-- A slice of steps. -/
def StepsRet (w : World) (xs : List OpV) (e : Ending) (w' : World) : Prop := ∃ A c, e = .returned (.slice A xs.length c) ∧ xs.length ≤ c ∧ ROps w' A xs.length xs ∧ Below w.heap.size w w'
set_option maxRecDepth 100000 in
set_option maxHeartbeats 4000000 in
theorem LocksOf_any (A : Option Addr) (n c : Nat) (s : List OpV) (w : World) (hx : ROps w A n s) (hnc : n ≤ c) :
    Calls Try.prog 36 #[.slice A n c] w (StepsRet w (orNil (validS s && decide (s.length ≤ 12)) (locksS s))) := by
  have hn := hx.2.1
  have hl := hx.1
  have HX := Lib.hid hx
  have hra := runnableL_any A n c s w hx hnc
  obtain ⟨bv, hbv⟩ : ∃ b, (validS s && decide (s.length ≤ 12)) = b := ⟨_, rfl⟩
  rw [hbv] at hra ⊢
  have HRA := Lib.hid hra
  have HBV := Lib.hid hbv
  have HL := Lib.hid hl
  clear hx hra hbv hl
  cases bv
  · have HO : Hid (∀ w', Below w.heap.size w w' → StepsRet w (orNil false (locksS s)) (.returned (.slice none 0 0)) w') := fun w' hb => ⟨none, 0, rfl, Nat.le_refl _, ROps.nil, hb⟩
    go_enter Try.func36, Try.ntmps36
    go_wp2_with (go_at_call 100; refine HRA.out.mono ?_; rintro e w1 ⟨rfl, hb1⟩)
    go_ret
    exact HO.out _ hb1
  · have hv12 : validS s = true ∧ s.length ≤ 12 := by simpa using HBV.out
    have HV := Lib.hid hv12.1
    have hn12 : n ≤ 12 := by have := HL.out; omega
    have HTO : Hid (∀ W : World, Calls Try.prog 79 #[.slice none 0 0] W (TabPost W [])) := fun W => tableOf_any none 0 0 [] W ROps.nil (fun s hs => by cases hs)
    have hrun : Runs 101 := runs_of Try.func101 (by kernel_rfl) rfl
    unfold Runs at hrun
    clear hv12
    go_enter Try.func36, Try.ntmps36
    go_wp2_with (first
      | (go_at_call 100; go_loud (refine HRA.out.mono ?_; rintro e w1 ⟨rfl, hb1⟩; have HB1 := Lib.hid hb1; clear hb1))
      | (go_at_call 79; go_loud (refine (HTO.out _).mono ?_; rintro e wt ⟨tg, rfl, htg, hT, hbt⟩; have hst := put_start HB1.out hbt hT htg; have HST := Lib.hid hst; clear hT hbt hst htg)))
    go_loopw [17] (fun i wr => ∃ k : Nat, k ≤ n ∧ i = .int .i64 k ∧ (∃ v, PutAt w.heap.size wt.heap.size (w1.heap.size + 1) tg v (locksS (s.take k)) wr) ∧ Below w.heap.size w wr) (fun i _ => n - (intOf i).toNat)
    case atStart => exact ⟨0, by omega, rfl, HST.out.1, HST.out.2⟩
    case round =>
      clear HST HTO HRA
      obtain ⟨wo, rfl⟩ : ∃ z : World, z = wr := ⟨_, rfl⟩
      obtain ⟨k, hk, rfl, hP, hb⟩ := hrel
      have hs := hb.size
      by_cases hlt : k < n
      · obtain ⟨b, off, o, rfl, hbl, ho, c0, c1, c2⟩ := (HX.out.below hb (Nat.le_refl _)).at_ hlt
        have hvo := valid_op HV.out ho
        have HLS := Lib.hid (locksS_succ ho)
        have HOK : Hid (∀ a ∈ locksS (s.take k), okStep a = true) := locks_okS (fun q hq => ((validS_iff s).1 HV.out).2.1 q (List.mem_of_mem_take hq))
        have HLN := Lib.hid (lk_len s k)
        obtain ⟨L, hL⟩ : ∃ L, locksS (s.take k) = L := ⟨_, rfl⟩
        rw [hL] at HLS hP HOK HLN
        have htx := validOp_txr hvo
        have hkd : o.kind = 0 ∨ o.kind = 1 ∨ (2 ≤ o.kind ∧ o.kind ≤ 3) := by
          cases he : isEnd o
          · have := acc_kind hvo he; omega
          · rcases isEnd_kind he with e | e <;> omega
        have hitm : o.kind ≤ 1 → 0 ≤ o.item ∧ o.item ≤ 2 := fun h => validOp_item hvo (by unfold isAcc; rcases hkd with e | e | e <;> first | (rw [e]; rfl) | omega)
        obtain ⟨tx, kd, it⟩ := o
        simp only at htx hkd hitm c0 c1 c2
        obtain ⟨T, rfl⟩ := Int.eq_ofNat_of_zero_le htx.1
        have hT3 : T ≤ 3 := by omega
        have hT4 : (T : Int) < 4 := by omega
        have hT0 : (0 : Int) ≤ (T : Int) := by omega
        obtain ⟨W, hW⟩ : ∃ W : World, W = wo.alloc (.cells #[.int .i64 (T : Int), .int .i64 kd, .int .i64 it] 92) := ⟨_, rfl⟩
        have hbW : Below wo.heap.size wo W := by rw [hW]; exact (Below.refl _ _).alloc (Nat.le_refl _) _
        have hI : LkI w wt.heap.size (w1.heap.size + 1) tg wo.heap.size ⟨(T : Int), kd, it⟩ L W := ⟨by obtain ⟨v, h⟩ := hP; exact ⟨v, h.below hbW⟩, by rw [hW]; exact heap_alloc_new wo _, hb.trans (hbW.mono hs)⟩
        have HI := Lib.hid hI
        have HW := Lib.hid hW
        have hki : (k : Int) < (n : Int) := by omega
        have hk0 : (0 : Int) ≤ (k : Int) := by omega
        clear hI hW hP hL ho hvo hbW hbl
        rcases hkd with rfl | rfl | hkd
        · obtain ⟨hx0, hx2⟩ := hitm (by omega)
          obtain ⟨X, rfl⟩ := Int.eq_ofNat_of_zero_le hx0
          have hX2 : X ≤ 2 := by omega
          have hX3 : (X : Int) < 3 := by omega
          obtain ⟨h, hh⟩ : ∃ h, heldI L (T : Int) (X : Int) = h := ⟨_, rfl⟩
          have hrg := heldI_rng HOK.out (T : Int) (X : Int)
          rw [hh] at hrg
          have hls2 : locksS (s.take (k + 1)) = (if h < 0 then L ++ [⟨(T : Int), 0, (X : Int)⟩] else L) ++ [⟨(T : Int), 3, (X : Int)⟩] := by
            rw [HLS.out]; unfold lkStep; rw [if_neg (by unfold isEnd; simp)]; simp only [hh]; rfl
          have n0 : ∀ u : Later W, u.1.cell? ⟨wt.heap.size, 0, none⟩ = some (.pointer (some ⟨tg, 0, none⟩)) := fun u => (HI.out.lat u.2).tcell
          have n1 : ∀ u : Later W, u.1.cell? ⟨wo.heap.size, 0, none⟩ = some (.int .i64 (T : Int)) := fun u => (HI.out.lat u.2).cells.1
          have n2 : ∀ u : Later W, u.1.cell? ⟨wo.heap.size, 2, none⟩ = some (.int .i64 (X : Int)) := fun u => (HI.out.lat u.2).cells.2.2
          have n3 : ∀ u : Later W, u.1.cell? ⟨tg, T * 3 + X, none⟩ = some (.int .i64 h) := fun u => by have := (HI.out.lat u.2).lock hT3 hX2; rw [hh] at this; exact this
          obtain ⟨q0, q1, q2⟩ := HI.out.cells
          simp only at q0 q1 q2
          clear hh
          by_cases hlo : h < 0
          · have hbt : (h == -1) = true := by simp; omega
            rw [if_pos hlo] at hls2
            have HL2 := Lib.hid hls2
            clear hls2 hlo hrg
            go_wp2_with fail
            rw [← HW.out]
            go_wp2_with fail
            clear q0 q1 q2
            refine region_later (by kernel_rfl) (by kernel_rfl) ?_
            repeat (go_big_quiet_step (fail))
            refine wpQuiet_nil ?_
            rintro _ ⟨u, rfl⟩
            have HIu := Lib.hid (HI.out.lat u.2)
            obtain ⟨wu, hwu⟩ : ∃ q : World, u.1 = q := ⟨_, rfl⟩
            rw [hwu] at HIu ⊢
            clear n0 n1 n2 n3 hwu
            obtain ⟨p0, p1, p2⟩ := HIu.out.cells
            simp only at p0 p1 p2
            go_wp2_with fail
            refine (lk_put (a := (T : Int)) (b := 0) (c := (X : Int)) HIu.out (okStep_iff.2 (by simp only; omega)) (by have := HLN.out; omega)).mono ?_
            rintro e w5 ⟨rfl, h5⟩
            have HI5 := Lib.hid h5
            clear h5 p0 p1 p2
            obtain ⟨p0, p1, p2⟩ := HI5.out.cells
            simp only at p0 p1 p2
            go_wp2_with fail
            refine (lk_put (a := (T : Int)) (b := 3) (c := (X : Int)) HI5.out (okStep_iff.2 (by simp only; omega)) (by have := HLN.out; rw [List.length_append, List.length_singleton]; omega)).mono ?_
            rintro e w5 ⟨rfl, h5⟩
            have HI6 := Lib.hid h5
            clear h5 p0 p1 p2
            go_wp2_with fail
            go_roundw
            case rel => exact ⟨k + 1, by omega, by go_num, by rw [HL2.out]; exact HI6.out.put, HI6.out.below⟩
            case measure => simp [intOf]; omega
          · have hbt : (h == -1) = false := by simp; omega
            rw [if_neg hlo] at hls2
            have HL2 := Lib.hid hls2
            clear hls2 hlo hrg
            go_wp2_with fail
            rw [← HW.out]
            go_wp2_with fail
            clear q0 q1 q2
            refine region_later (by kernel_rfl) (by kernel_rfl) ?_
            repeat (go_big_quiet_step (fail))
            refine wpQuiet_nil ?_
            rintro _ ⟨u, rfl⟩
            have HIu := Lib.hid (HI.out.lat u.2)
            obtain ⟨wu, hwu⟩ : ∃ q : World, u.1 = q := ⟨_, rfl⟩
            rw [hwu] at HIu ⊢
            clear n0 n1 n2 n3 hwu
            obtain ⟨p0, p1, p2⟩ := HIu.out.cells
            simp only at p0 p1 p2
            go_wp2_with fail
            refine (lk_put (a := (T : Int)) (b := 3) (c := (X : Int)) HIu.out (okStep_iff.2 (by simp only; omega)) (by have := HLN.out; omega)).mono ?_
            rintro e w5 ⟨rfl, h5⟩
            have HI5 := Lib.hid h5
            clear h5 p0 p1 p2
            go_wp2_with fail
            go_roundw
            case rel => exact ⟨k + 1, by omega, by go_num, by rw [HL2.out]; exact HI5.out.put, HI5.out.below⟩
            case measure => simp [intOf]; omega
        · obtain ⟨hx0, hx2⟩ := hitm (by omega)
          obtain ⟨X, rfl⟩ := Int.eq_ofNat_of_zero_le hx0
          have hX2 : X ≤ 2 := by omega
          have hX3 : (X : Int) < 3 := by omega
          obtain ⟨h, hh⟩ : ∃ h, heldI L (T : Int) (X : Int) = h := ⟨_, rfl⟩
          have hrg := heldI_rng HOK.out (T : Int) (X : Int)
          rw [hh] at hrg
          have hls2 : locksS (s.take (k + 1)) = (if h < 1 then L ++ [⟨(T : Int), 1, (X : Int)⟩] else L) ++ [⟨(T : Int), 4, (X : Int)⟩] := by
            rw [HLS.out]; unfold lkStep; rw [if_neg (by unfold isEnd; simp)]; simp only [hh]; rfl
          have n0 : ∀ u : Later W, u.1.cell? ⟨wt.heap.size, 0, none⟩ = some (.pointer (some ⟨tg, 0, none⟩)) := fun u => (HI.out.lat u.2).tcell
          have n1 : ∀ u : Later W, u.1.cell? ⟨wo.heap.size, 0, none⟩ = some (.int .i64 (T : Int)) := fun u => (HI.out.lat u.2).cells.1
          have n2 : ∀ u : Later W, u.1.cell? ⟨wo.heap.size, 2, none⟩ = some (.int .i64 (X : Int)) := fun u => (HI.out.lat u.2).cells.2.2
          have n3 : ∀ u : Later W, u.1.cell? ⟨tg, T * 3 + X, none⟩ = some (.int .i64 h) := fun u => by have := (HI.out.lat u.2).lock hT3 hX2; rw [hh] at this; exact this
          obtain ⟨q0, q1, q2⟩ := HI.out.cells
          simp only at q0 q1 q2
          clear hh
          by_cases hlo : h < 1
          · have hbt : (h != 1) = true := by simp; omega
            rw [if_pos hlo] at hls2
            have HL2 := Lib.hid hls2
            clear hls2 hlo hrg
            go_wp2_with fail
            rw [← HW.out]
            go_wp2_with fail
            clear q0 q1 q2
            refine region_later (by kernel_rfl) (by kernel_rfl) ?_
            repeat (go_big_quiet_step (fail))
            refine wpQuiet_nil ?_
            rintro _ ⟨u, rfl⟩
            have HIu := Lib.hid (HI.out.lat u.2)
            obtain ⟨wu, hwu⟩ : ∃ q : World, u.1 = q := ⟨_, rfl⟩
            rw [hwu] at HIu ⊢
            clear n0 n1 n2 n3 hwu
            obtain ⟨p0, p1, p2⟩ := HIu.out.cells
            simp only at p0 p1 p2
            go_wp2_with fail
            refine (lk_put (a := (T : Int)) (b := 1) (c := (X : Int)) HIu.out (okStep_iff.2 (by simp only; omega)) (by have := HLN.out; omega)).mono ?_
            rintro e w5 ⟨rfl, h5⟩
            have HI5 := Lib.hid h5
            clear h5 p0 p1 p2
            obtain ⟨p0, p1, p2⟩ := HI5.out.cells
            simp only at p0 p1 p2
            go_wp2_with fail
            refine (lk_put (a := (T : Int)) (b := 4) (c := (X : Int)) HI5.out (okStep_iff.2 (by simp only; omega)) (by have := HLN.out; rw [List.length_append, List.length_singleton]; omega)).mono ?_
            rintro e w5 ⟨rfl, h5⟩
            have HI6 := Lib.hid h5
            clear h5 p0 p1 p2
            go_wp2_with fail
            go_roundw
            case rel => exact ⟨k + 1, by omega, by go_num, by rw [HL2.out]; exact HI6.out.put, HI6.out.below⟩
            case measure => simp [intOf]; omega
          · have hbt : (h != 1) = false := by simp; omega
            rw [if_neg hlo] at hls2
            have HL2 := Lib.hid hls2
            clear hls2 hlo hrg
            go_wp2_with fail
            rw [← HW.out]
            go_wp2_with fail
            clear q0 q1 q2
            refine region_later (by kernel_rfl) (by kernel_rfl) ?_
            repeat (go_big_quiet_step (fail))
            refine wpQuiet_nil ?_
            rintro _ ⟨u, rfl⟩
            have HIu := Lib.hid (HI.out.lat u.2)
            obtain ⟨wu, hwu⟩ : ∃ q : World, u.1 = q := ⟨_, rfl⟩
            rw [hwu] at HIu ⊢
            clear n0 n1 n2 n3 hwu
            obtain ⟨p0, p1, p2⟩ := HIu.out.cells
            simp only at p0 p1 p2
            go_wp2_with fail
            refine (lk_put (a := (T : Int)) (b := 4) (c := (X : Int)) HIu.out (okStep_iff.2 (by simp only; omega)) (by have := HLN.out; omega)).mono ?_
            rintro e w5 ⟨rfl, h5⟩
            have HI5 := Lib.hid h5
            clear h5 p0 p1 p2
            go_wp2_with fail
            go_roundw
            case rel => exact ⟨k + 1, by omega, by go_num, by rw [HL2.out]; exact HI5.out.put, HI5.out.below⟩
            case measure => simp [intOf]; omega
        · have hx0 : (kd == 0) = false := by simp; omega
          have hx1 : (kd == 1) = false := by simp; omega
          have hls2 : locksS (s.take (k + 1)) = dropTo L (T : Int) 3 := by
            rw [HLS.out]; unfold lkStep; rw [if_pos (by unfold isEnd; simp; omega)]; rfl
          have HL2 := Lib.hid hls2
          have HI0 : Hid (LkI w wt.heap.size (w1.heap.size + 1) tg wo.heap.size ⟨(T : Int), kd, it⟩ (dropTo L (T : Int) 0) W) := HI.out
          obtain ⟨q0, q1, q2⟩ := HI.out.cells
          simp only at q0 q1 q2
          clear hls2 HI
          go_wp2_with fail
          rw [← HW.out]
          go_wp2_with fail
          clear q0 q1 q2
          go_loopw [23] (fun i wr2 => ∃ x : Nat, x ≤ 3 ∧ i = .int .i64 x ∧ LkI w wt.heap.size (w1.heap.size + 1) tg wo.heap.size ⟨(T : Int), kd, it⟩ (dropTo L (T : Int) x) wr2) (fun i _ => 3 - (intOf i).toNat)
          case atStart => exact ⟨0, by omega, rfl, HI0.out⟩
          case round =>
            clear HI0
            obtain ⟨W2, rfl⟩ : ∃ z : World, z = wr := ⟨_, rfl⟩
            obtain ⟨x, hx3, rfl, hI⟩ := hrel
            have hdl := dropTo_ok HOK.out (t := (T : Int)) (by omega) x hx3
            have hsc := dropTo_succ L (T : Int) x
            have HI := Lib.hid hI
            by_cases hxl : x < 3
            · have hxi : (x : Int) < 3 := by omega
              have hxn : (0 : Int) ≤ (x : Int) := by omega
              have hX2 : x ≤ 2 := by omega
              obtain ⟨M, hM⟩ : ∃ M, dropTo L (T : Int) x = M := ⟨_, rfl⟩
              rw [hM] at hdl hsc HI
              obtain ⟨h, hh⟩ : ∃ h, heldI M (T : Int) (x : Int) = h := ⟨_, rfl⟩
              have hrg := heldI_rng hdl.1 (T : Int) (x : Int)
              rw [hh] at hrg hsc
              have HDL := Lib.hid hdl.2
              have n0 : ∀ u : Later W2, u.1.cell? ⟨wt.heap.size, 0, none⟩ = some (.pointer (some ⟨tg, 0, none⟩)) := fun u => (HI.out.lat u.2).tcell
              have n1 : ∀ u : Later W2, u.1.cell? ⟨wo.heap.size, 0, none⟩ = some (.int .i64 (T : Int)) := fun u => (HI.out.lat u.2).cells.1
              have n2 : ∀ u : Later W2, u.1.cell? ⟨wo.heap.size, 2, none⟩ = some (.int .i64 it) := fun u => (HI.out.lat u.2).cells.2.2
              have n3 : ∀ u : Later W2, u.1.cell? ⟨tg, T * 3 + x, none⟩ = some (.int .i64 h) := fun u => by have := (HI.out.lat u.2).lock hT3 hX2; rw [hh] at this; exact this
              clear hh hM hI hdl
              by_cases hlo : 0 ≤ h
              · have hbt : (h != -1) = true := by simp; omega
                rw [if_pos hlo] at hsc
                have HSC := Lib.hid hsc
                clear hsc hlo hrg
                go_wp2_with fail
                refine region_later (by kernel_rfl) (by kernel_rfl) ?_
                repeat (go_big_quiet_step (fail))
                refine wpQuiet_nil ?_
                rintro _ ⟨u, rfl⟩
                have HIu := Lib.hid (HI.out.lat u.2)
                obtain ⟨wu, hwu⟩ : ∃ q : World, u.1 = q := ⟨_, rfl⟩
                rw [hwu] at HIu ⊢
                clear n0 n1 n2 n3 hwu
                obtain ⟨p0, p1, p2⟩ := HIu.out.cells
                simp only at p0 p1 p2
                go_wp2_with fail
                refine (lk_put (a := (T : Int)) (b := 2) (c := (x : Int)) HIu.out (okStep_iff.2 (by simp only; omega)) (by have := HLN.out; have := HDL.out; omega)).mono ?_
                rintro e w5 ⟨rfl, h5⟩
                have HI5 := Lib.hid h5
                clear h5 p0 p1 p2
                go_wp2_with fail
                go_roundw
                case rel => exact ⟨x + 1, by omega, by go_num, by rw [HSC.out]; exact HI5.out⟩
                case measure => simp [intOf]; omega
              · have hbt : (h != -1) = false := by simp; omega
                rw [if_neg hlo] at hsc
                have HSC := Lib.hid hsc
                clear hsc hlo hrg
                go_wp2_with fail
                refine region_later (by kernel_rfl) (by kernel_rfl) ?_
                repeat (go_big_quiet_step (fail))
                refine wpQuiet_nil ?_
                rintro _ ⟨u, rfl⟩
                have HIu := Lib.hid (HI.out.lat u.2)
                obtain ⟨wu, hwu⟩ : ∃ q : World, u.1 = q := ⟨_, rfl⟩
                rw [hwu] at HIu ⊢
                clear n0 n1 n2 n3 hwu
                go_wp2_with fail
                go_roundw
                case rel => exact ⟨x + 1, by omega, by go_num, by rw [HSC.out]; exact HIu.out⟩
                case measure => simp [intOf]; omega
            · have hx3' : x = 3 := by omega
              have hnl : ¬ ((x : Int) < 3) := by omega
              have HP : Hid ((∃ v, PutAt w.heap.size wt.heap.size (w1.heap.size + 1) tg v (locksS (s.take (k + 1))) W2) ∧ Below w.heap.size w W2) := ⟨by rw [HL2.out, ← hx3']; exact hI.put, hI.below⟩
              clear hI hdl hsc HI hx3'
              go_wp2_with fail
              go_roundw
              case rel => exact ⟨k + 1, by omega, by go_num, HP.out.1, HP.out.2⟩
              case measure => simp [intOf]; omega
      · have e : s.take k = s := List.take_of_length_le (by have := HL.out; omega)
        rw [e] at hP
        have hle : (locksS s).length ≤ 36 := by have := lk_len s k; rw [e] at this; omega
        obtain ⟨v, hp⟩ := hP
        obtain ⟨Ao, co, rfl, hmc⟩ := own_form2 hp.row
        have cb : wo.cell? ⟨w1.heap.size + 1, 0, none⟩ = some (.slice Ao (locksS s).length co) := RowIs.cell hp.obox rfl
        have hro : ROps wo Ao (locksS s).length (locksS s) := ROps.of_own hp.row (by omega)
        have HF : Hid (StepsRet w (orNil true (locksS s)) (.returned (.slice Ao (locksS s).length (locksS s).length)) wo) := ⟨Ao, _, rfl, Nat.le_refl _, hro, hb⟩
        have hnk : ¬ ((k : Int) < (n : Int)) := by omega
        obtain ⟨m, hm⟩ : ∃ m, (locksS s).length = m := ⟨_, rfl⟩
        rw [hm] at cb HF hmc hle
        clear hp e hm hro
        go_wp2_with (go_at_call 102; go_loud (refine (ClipSteps_any Ao m co _ (by omega) hmc).mono ?_; rintro e w2 ⟨rfl, rfl⟩))
        go_ret
        exact HF.out
end Go.Proofs.Ytcakjhappchlmaa
