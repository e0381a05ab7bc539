/-
  readFrom, readsOf, ReadsOf of the program.
-/
import Derived.Test.YtofcpfabjfhjoaaPlain8
import Derived.Test.YtofcpfabjfhjoaaKept3
namespace Go.Proofs.Ytofcpfabjfhjoaa
open Go.RowKit Go.BigFrame
set_option linter.unusedVariables false

set_option maxRecDepth 100000 in
set_option maxHeartbeats 2000000 in
theorem readFrom_any (A : Option Addr) (n c k : Nat) (s : List OpV) (o : OpV) (w : World) (hx : ROps w A n s) (ho : s[k]? = some o) (hnc : n ≤ c) :
    Calls Try.prog 138 #[.slice A n c, .int .i64 (k : Int)] w fun e w' => e = .returned (.int .i64 (rfTo s k o.item k)) ∧ Below w.heap.size w w' := by
  have hn := hx.2.1
  have hl := hx.1
  have hk : k < n := by have := (List.getElem?_eq_some_iff.1 ho).1; omega
  have HX := Lib.hid hx
  have HO := Lib.hid ho
  clear hx ho
  have hkc : (k : Int) ≤ (c : Int) := by omega
  have hkn : (k : Int) < (n : Int) := by omega
  have hk0 : (0 : Int) ≤ (k : Int) := by omega
  go_enter Try.func138, Try.ntmps138
  go_wp2_with fail
  go_loopw [5] (fun i wr => ∃ j : Nat, j ≤ k ∧ i = .int .i64 ((j : Int) - 1) ∧ Below w.heap.size w wr ∧ rfTo s k o.item k = rfTo s k o.item j) (fun i _ => (intOf i + 1).toNat)
  case atStart => exact ⟨k, Nat.le_refl _, by go_num, Below.refl _ _, rfl⟩
  case round =>
    obtain ⟨j, hj, rfl, hb, he⟩ := hrel
    by_cases hz : 0 < j
    · obtain ⟨q, rfl⟩ : ∃ q, j = q + 1 := ⟨j - 1, by omega⟩
      have e1 : (((q + 1 : Nat) : Int) - 1) = (q : Int) := by omega
      rw [e1]
      have hxr := HX.out.below hb (Nat.le_refl _)
      obtain ⟨b, off, p, hA, hbl, hp, c0, c1, c2⟩ := hxr.at_ (k := q) (by omega)
      obtain ⟨b', off', o', hA', _, ho', d0, d1, d2⟩ := hxr.at_ hk
      subst hA
      injection hA' with hA'; injection hA' with q1 q2 _; subst q1; subst q2
      rw [HO.out] at ho'
      injection ho' with ho'
      subst ho'
      obtain ⟨E, hE⟩ : ∃ E, endOf (s.take k) p.tx = E := ⟨_, rfl⟩
      have hC : ∀ u : Later wr, Calls Try.prog 73 #[.slice (some ⟨b, off, none⟩) k c, .int .i64 p.tx] u.1 fun e w' => e = .returned (.int .i64 E) ∧ Below u.1.heap.size u.1 w' := fun u => by
        have := endOf_any (some ⟨b, off, none⟩) k c (s.take k) p.tx u.1 ((hxr.take (by omega)).later u); rw [hE] at this; exact this
      have hrs := rfTo_succ (i := k) (x := o.item) hp
      unfold rfB at hrs
      rw [hE] at hrs
      obtain ⟨ptx, pk, pit⟩ := p
      simp only at c0 c1 c2 hC hrs
      obtain ⟨b1, hb1⟩ : ∃ z, (pk == 1) = z := ⟨_, rfl⟩
      obtain ⟨b2, hb2⟩ : ∃ z, (pit == o.item) = z := ⟨_, rfl⟩
      obtain ⟨b3, hb3⟩ : ∃ z, (E != 3) = z := ⟨_, rfl⟩
      rw [hb1, hb2, hb3] at hrs
      have HC := Lib.hid hC
      have HRS := Lib.hid hrs
      have HE := Lib.hid he
      have L0 := Later.cell c0
      have L1 := Later.cell c1
      have L2 := Later.cell c2
      have M2 := Later.cell d2
      have hqn : (q : Int) < (n : Int) := by omega
      have hq0 : (0 : Int) ≤ (q : Int) := by omega
      clear hC hrs he hp c0 c1 c2 d0 d1 d2 hxr e1 hE
      cases b1
      · go_wp2_with fail
        refine region_later (by kernel_rfl) (by kernel_rfl) ?_
        repeat (go_big_quiet_step ((go_at_call 73; exact later_call _ (HC.out _))))
        refine wpQuiet_nil ?_
        rintro _ ⟨u, rfl⟩
        have hbu := hb.trans (u.2.mono hb.size)
        go_wp2_with fail
        go_roundw
        case rel => exact ⟨q, by omega, by go_num, hbu, by rw [HE.out, HRS.out]; rfl⟩
        case measure => simp [intOf] <;> omega
      · cases b2
        · go_wp2_with fail
          refine region_later (by kernel_rfl) (by kernel_rfl) ?_
          repeat (go_big_quiet_step ((go_at_call 73; exact later_call _ (HC.out _))))
          refine wpQuiet_nil ?_
          rintro _ ⟨u, rfl⟩
          have hbu := hb.trans (u.2.mono hb.size)
          go_wp2_with fail
          go_roundw
          case rel => exact ⟨q, by omega, by go_num, hbu, by rw [HE.out, HRS.out]; rfl⟩
          case measure => simp [intOf] <;> omega
        · cases b3
          · go_wp2_with fail
            refine region_later (by kernel_rfl) (by kernel_rfl) ?_
            repeat (go_big_quiet_step ((go_at_call 73; exact later_call _ (HC.out _))))
            refine wpQuiet_nil ?_
            rintro _ ⟨u, rfl⟩
            have hbu := hb.trans (u.2.mono hb.size)
            go_wp2_with fail
            go_roundw
            case rel => exact ⟨q, by omega, by go_num, hbu, by rw [HE.out, HRS.out]; rfl⟩
            case measure => simp [intOf] <;> omega
          · go_wp2_with fail
            refine region_later (by kernel_rfl) (by kernel_rfl) ?_
            repeat (go_big_quiet_step ((go_at_call 73; exact later_call _ (HC.out _))))
            refine wpQuiet_nil ?_
            rintro _ ⟨u, rfl⟩
            have hbu := hb.trans (u.2.mono hb.size)
            have l0 := L0 u
            go_wp2_with fail
            go_ret
            exact ⟨ret_int (by rw [HE.out, HRS.out]; rfl), hbu⟩
    · obtain rfl : j = 0 := by omega
      have HE := Lib.hid he
      clear he
      go_wp2_with fail
      go_ret
      exact ⟨ret_int (by rw [HE.out]; rfl), hb⟩

set_option maxRecDepth 100000 in
set_option maxHeartbeats 2000000 in
theorem readsOf_any (A : Option Addr) (n c : Nat) (s : List OpV) (w : World) (hx : ROps w A n s) (hnc : n ≤ c) (hm : n ≤ 1048576) :
    Calls Try.prog 93 #[.slice A n c] w (RetInts w (readsI s)) := by
  have hn := hx.2.1
  have hl := hx.1
  have HX := Lib.hid hx
  clear hx
  obtain ⟨i0, hi, hz0, hz1, hz2⟩ := info_parts intInfo
  go_enter Try.func93, Try.ntmps93
  go_wp2_with (at_make; refine wpList_make_own _ rfl _ _ 25 rfl w.heap.size 3 i0 _ 1 Try.underlying25 hi hz0 hz1 .i64 .i64 _ n rfl rfl rfl (by rw [hz2]; omega) (by unfold maxLen; omega) (Nat.le_refl _) ?_; intro w2 hown2 hg2)
  have hb2 : Below w.heap.size w w2 := (Below.refl _ w).grown hg2 (Nat.le_refl _) (by simp)
  have HST := Lib.hid (And.intro hown2 hb2)
  clear hown2 hg2 hi hz0 hz1 hz2 hb2
  go_loopw [3, 11] (fun ov i wr => ∃ (k m : Nat), k ≤ n ∧ m ≤ k ∧ i = .int .i64 k ∧ Below w.heap.size w wr ∧ wr.ownsRow w.heap.size 3 1 ov m (intCells (versTo (fun k o => rfTo s k o.item k) s k))) (fun _ i _ => n - (intOf i).toNat)
  case atStart => exact ⟨0, 0, Nat.zero_le _, Nat.le_refl _, rfl, HST.out.2, HST.out.1⟩
  case round =>
    clear HST
    obtain ⟨k, m, hk, hmk, rfl, hb, hown⟩ := hrel
    by_cases hlt : k < n
    · have hxr := HX.out.below hb (Nat.le_refl _)
      obtain ⟨b, off, o, rfl, hbl, ho, c0, c1, c2⟩ := hxr.at_ hlt
      have hs := hb.size
      have hstep := versTo_succ (f := fun k o => rfTo s k o.item k) ho
      have hcl : ∀ W : World, Below wr.heap.size wr W → Calls Try.prog 138 #[.slice (some ⟨b, off, none⟩) n c, .int .i64 (k : Int)] W fun e w' => e = .returned (.int .i64 (rfTo s k o.item k)) ∧ Below W.heap.size W w' := fun W hW =>
        readFrom_any _ n c k s o W (hxr.below hW (Nat.le_refl _)) ho hnc
      have HC := Lib.hid hcl
      obtain ⟨tx, kd, it⟩ := o
      simp only at hstep c0 c1 c2 HC
      obtain ⟨z, hz⟩ : ∃ z, rfTo s k it k = z := ⟨_, rfl⟩
      rw [hz] at hstep HC
      have HS := Lib.hid hstep
      clear hcl ho hxr hz hstep
      by_cases h0 : kd = 0
      · subst h0
        go_wp2_with fail
        obtain ⟨W, hW⟩ : ∃ W : World, W = wr.alloc (.cells #[.int .i64 tx, .int .i64 0, .int .i64 it] 46) := ⟨_, rfl⟩
        rw [← hW]
        have hbW : Below wr.heap.size wr W := by rw [hW]; exact (Below.refl _ _).alloc (Nat.le_refl _) _
        have hownW : W.ownsRow w.heap.size 3 1 u3 m (intCells (versTo (fun k o => rfTo s k o.item k) s k)) := by rw [hW]; exact hown.alloc _
        clear hW
        refine (HC.out W hbW).mono ?_
        rintro e w4 ⟨rfl, hb4⟩
        have hown4 := own_below hownW hb4
        have hb14 := hbW.trans (hb4.mono hbW.size)
        have hbw4 := hb.trans (hb14.mono hs)
        clear hb14 hb4 hbW hownW
        have hsz4 := hbw4.size
        go_wp2_with (at_builtin; refine app_ints (.tmp 19) (.tmp 23) (hown4.alloc _) (by simp; omega) (lit1 rfl _) (by omega) rfl rfl rfl rfl ?_; intro v5 w5 hown5 hg5 hat5)
        have hg5' := World.grownBy.trans (World.grownBy_alloc w4 _ _) hg5
        have hb5 := Below.own hbw4 hown4 (Nat.le_refl _) hg5'
        go_roundw
        case rel => exact ⟨k + 1, m + 1, by omega, by omega, by go_num, hb5, by rw [HS.out, if_pos (by simp)]; exact hown5⟩
        case measure => simp [intOf]; omega
      · have h0' : (kd == 0) = false := by simpa using h0
        go_wp2_with fail
        go_roundw
        case rel => exact ⟨k + 1, m, by omega, by omega, by go_num, hb.trans ((by (repeat (first | exact Below.refl _ _ | assumption | refine B_alloc ?_ (Nat.le_refl _) _ | refine Below.drew ?_ | refine B_drewN ?_ _ | refine B_after (by assumption) ?_ | (refine B_set ?_ ?_; rotate_left; (first | exact Nat.le_refl _ | (simp; done) | (simp at *; omega))))) : Below wr.heap.size wr _).mono hb.size), by rw [HS.out, if_neg (by simp [h0'])]; exact hown.alloc _⟩
        case measure => simp [intOf]; omega
    · obtain ⟨Ao, co, rfl, hmc⟩ := own_form2 hown
      have e : versTo (fun k o => rfTo s k o.item k) s k = readsI s := by
        have : k = s.length := by omega
        rw [this]
        rfl
      rw [e] at hown
      have HO := Lib.hid (RetInts.mk (c := m) (own_lenInts hown) (Nat.le_refl _) (FreshInts.of_own hown (Nat.le_refl _) (by omega)) hb)
      clear hown e
      go_wp2_with fail
      go_ret
      exact HO.out
theorem readsOf_valid (A : Option Addr) (n c : Nat) (s : List OpV) (w : World) (hx : ROps w A n s) (hnc : n ≤ c) (hv : validS s = true) :
    Calls Try.prog 93 #[.slice A n c] w (RetInts w (readsI s)) :=
  readsOf_any A n c s w hx hnc (by have := ((validS_iff s).1 hv).1; have := hx.1; omega)

set_option maxHeartbeats 400000 in
theorem ReadsOf_any (A : Option Addr) (n c : Nat) (s : List OpV) (w : World) (hx : ROps w A n s) (hnc : n ≤ c) :
    Calls Try.prog 48 #[.slice A n c] w (RetInts w (orNil (validS s) (readsI s))) := by
  have HX := Lib.hid hx
  clear hx
  go_enter Try.func48, Try.ntmps48
  go_wp2_with fail
  refine (ValidSchedule_any A n c s w HX.out hnc).mono ?_
  rintro e w1 ⟨rfl, hb⟩
  cases hv : validS s
  · have HV := Lib.hid hv
    clear hv
    go_wp2_with fail
    go_ret
    rw [HV.out]
    exact RetInts.nil hb
  · have HV := Lib.hid hv
    clear hv
    go_wp2_with fail
    refine (readsOf_valid A n c s w1 (HX.out.below hb (Nat.le_refl _)) hnc HV.out).mono ?_
    rintro e w2 hr
    obtain ⟨A', c', rfl, hr'⟩ := hr
    have HR : Hid (RetInts w1 (readsI s) (.returned (.slice A' ((readsI s)).length c')) w2) := ⟨A', c', rfl, hr'⟩
    clear hr'
    go_wp2_with fail
    go_ret
    rw [HV.out]
    exact RetInts.later hb HR.out

end Go.Proofs.Ytofcpfabjfhjoaa
