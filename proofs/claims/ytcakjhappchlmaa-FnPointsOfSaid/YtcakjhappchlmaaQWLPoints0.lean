/-
  The walk of the law FnPointsOf over any contract of the program's PointsOf (a hypothesis here; to be filled in).
-/
import Derived.Test.YtcakjhappchlmaaQWLkV0
import Derived.Test.YtcakjhappchlmaaPkLkA
namespace Go.Proofs.Ytcakjhappchlmaa
open Go.RowKit Go.BigFrame
set_option linter.unusedVariables false

theorem pt_any (st : List OpV) (t : Int) : (st.any fun o => takesB t o) = (ptI st).any fun y => y == t := by
  rw [Bool.eq_iff_iff, List.any_eq_true, List.any_eq_true]
  constructor
  · rintro ⟨o, ho, h⟩
    exact ⟨t, mem_ptI.2 ⟨o, ho, h⟩, by simp⟩
  · rintro ⟨y, hy, h⟩
    simp only [beq_iff_eq] at h
    subst h
    exact mem_ptI.1 hy
theorem nodup_takeP {ys : List Int} {k : Nat} {x : Int} (hd : ys.Nodup) (hx : ys[k]? = some x) : ((ys.take k).any fun y => y == x) = false := by
  rw [List.any_eq_false]
  intro y hy h
  simp only [beq_iff_eq] at h
  subst h
  obtain ⟨hk, rfl⟩ := List.getElem?_eq_some_iff.1 hx
  obtain ⟨i, hi⟩ := List.mem_iff_getElem?.1 hy
  have hik : i < k := by
    have := (List.getElem?_eq_some_iff.1 hi).1
    rw [List.length_take] at this
    omega
  rw [List.getElem?_take_of_lt hik] at hi
  obtain ⟨hi1, hi2⟩ := List.getElem?_eq_some_iff.1 hi
  have := List.pairwise_iff_getElem.1 hd i k hi1 hk hik
  exact this hi2

set_option maxRecDepth 100000 in
set_option maxHeartbeats 4000000 in
theorem law_pointsOf0 (HPO : ∀ (A : Option Addr) (n c : Nat) (st : List OpV) (w : World), ROps w A n st → Calls Try.prog 25 #[.slice A n c] w (RetInts w (orNil (validL st) (ptI st)))) (A : Option Addr) (n c : Nat) (w : World) (hin : BytesIn w A n c) :
    Calls Try.prog 6 #[.slice A n c] w fun e w' => e = .returned (.bool true) ∧ Below w.heap.size w w' := by
  obtain ⟨hx, hnc⟩ := hin
  have hn := hx.1
  by_cases hbig : 1048576 < n
  · clear hx
    go_enter Try.func6, Try.ntmps6
    go_wp2_with fail
    go_ret
    exact ⟨rfl, Below.refl _ _⟩
  · have HD := Lib.hid (DrawPointsOf_any A n c w hx hnc)
    clear hx
    go_enter Try.func6, Try.ntmps6
    go_wp2_with fail
    refine HD.out.mono ?_
    rintro e w1 ⟨S, m, d, st, rfl, hS, hm, hmd, hb1⟩
    have HS := Lib.hid hS
    have hlen := hS.1
    obtain ⟨bv, hbv⟩ : ∃ b, validL st = b := ⟨_, rfl⟩
    obtain ⟨xs, hxs⟩ : ∃ xs, orNil bv (ptI st) = xs := ⟨_, rfl⟩
    have c1 : Calls Try.prog 25 #[.slice S m d] w1 (RetInts w1 xs) := by
      have := HPO S m d st w1 hS; rw [hbv, hxs] at this; exact this
    have c2 : ∀ W : World, Below w1.heap.size w1 W → Calls Try.prog 27 #[.slice S m d] W (RetInts W xs) := fun W h => by
      have := sPointsOf_any S m d st W (HS.out.below h (Nat.le_refl _)); rw [hbv, hxs] at this; exact this
    have c3 : ∀ W : World, Below w1.heap.size w1 W → Calls Try.prog 16 #[.slice S m d] W fun e w' => e = .returned (.bool bv) ∧ Below W.heap.size W w' := fun W h => by
      have := ValidSteps_any S m d st W (HS.out.below h (Nat.le_refl _)); rw [hbv] at this; exact this
    have C1 := Lib.hid c1
    have C2 := Lib.hid c2
    have C3 := Lib.hid c3
    have HXS := Lib.hid hxs
    have hs1 := hb1.size
    clear HD c1 c2 c3 hbv hS hxs HPO
    go_wp2_with fail
    refine C1.out.mono ?_
    rintro e w2 ⟨O2, oc, rfl, hc2, ⟨hr2, _⟩, hb2⟩
    have hs2 := hb2.size
    have HR2 := Lib.hid hr2
    clear hr2
    have he : ∀ (W W' : World) (O3 : Option Addr) (c3 : Nat), Below w2.heap.size w2 W → RInts W O3 xs.length xs → Calls Try.prog 26 #[.slice O2 xs.length oc, .slice O3 xs.length c3] W fun e w' => e = .returned (.bool true) ∧ Below W.heap.size W w' := fun W _ O3 c3 hW h3 => by
      have := equalInts_any O2 O3 _ _ oc c3 xs xs W (HR2.out.below hW (Nat.le_refl _)) h3
      rw [beq_self_eq_true] at this
      exact this
    have HE := Lib.hid he
    clear he
    go_wp2_with fail
    refine (C2.out w2 hb2).mono ?_
    rintro e w3 ⟨O3, c3, rfl, hc3, ⟨hr3, _⟩, hb3⟩
    go_wp2_with fail
    refine (HE.out w3 w3 O3 c3 hb3 hr3).mono ?_
    rintro e w4 ⟨rfl, hb4'⟩
    have hb4 := hb3.trans (hb4'.mono hb3.size)
    go_wp2_with fail
    refine (C3.out w4 (hb2.trans (hb4.mono hs2))).mono ?_
    rintro e w5 ⟨rfl, hb5'⟩
    have hb5 := hb4.trans (hb5'.mono hb4.size)
    clear hr3 hb3 hb4 hb4' hb5'
    cases bv
    · go_wp2_with fail
      refine (C2.out w5 (hb2.trans (hb5.mono hs2))).mono ?_
      rintro e w6 ⟨O6, c6, rfl, hc6, ⟨hr6, _⟩, hb6⟩
      have hb26 := hb5.trans (hb6.mono hb5.size)
      go_wp2_with fail
      refine (HE.out w6 w6 O6 c6 hb26 hr6).mono ?_
      rintro e w7 ⟨rfl, hb7⟩
      go_wp2_with fail
      go_ret
      exact ⟨rfl, hb1.trans ((hb2.trans ((hb26.trans (hb7.mono hb26.size)).mono hs2)).mono hs1)⟩
    · have hxp : Hid (ptI st = xs) := HXS.out
      have hxl : xs.length ≤ 1099511627776 := HR2.out.2.1
      go_wp2_with fail
      go_loopw [5] (fun i wr => ∃ k : Nat, k ≤ xs.length ∧ i = .int .i64 k ∧ Below w2.heap.size w2 wr) (fun i _ => xs.length - (intOf i).toNat)
      case atStart => exact ⟨0, by omega, rfl, hb5⟩
      case round =>
        clear hb5
        obtain ⟨k, hk, rfl, hb⟩ := hrel
        by_cases hlt : k < xs.length
        · obtain ⟨b, off, x, rfl, hbl, hox, c0⟩ := (HR2.out.below hb (Nat.le_refl _)).at_ hlt
          have hno : ((xs.take k).any fun y => y == x) = false := nodup_takeP (by rw [← hxp.out]; exact ptI_nodup st) hox
          have cI : ∀ u : Later wr, Calls Try.prog 28 #[.slice (some ⟨b, off, none⟩) k oc, .int .i64 x] u.1 fun e w' => e = .returned (.bool false) ∧ Below u.1.heap.size u.1 w' := fun u => by
            have := isIn_any (some ⟨b, off, none⟩) k oc (xs.take k) x u.1 (((HR2.out.below hb (Nat.le_refl _)).take hk).later u); rw [hno] at this; exact this
          have CI := Lib.hid cI
          have L0 := Later.cell c0
          have hki : (k : Int) < (xs.length : Int) := by omega
          have hkc : k ≤ oc := by omega
          clear cI hno hox c0
          go_wp2_with fail
          refine region_later (by kernel_rfl) (by kernel_rfl) ?_
          repeat (go_big_quiet_step ((go_at_call 28; exact later_call _ (CI.out _))))
          refine wpQuiet_nil ?_
          rintro _ ⟨u, rfl⟩
          have hbu := hb.trans (u.2.mono hb.size)
          go_wp2_with fail
          go_roundw
          case rel => exact ⟨k + 1, by omega, by go_num, hbu⟩
          case measure => simp [intOf]; omega
        · have hxd : decide ((k : Int) < (xs.length : Int)) = false := by simp; omega
          have HB := Lib.hid hb
          go_wp2_with fail
          go_loopw [6] (fun i wr' => ∃ t : Nat, t ≤ 4 ∧ i = .int .i64 t ∧ Below w2.heap.size w2 wr') (fun i _ => 4 - (intOf i).toNat)
          case atStart => exact ⟨0, by omega, rfl, HB.out⟩
          case round =>
            clear HB hb
            obtain ⟨t, ht, rfl, hb⟩ := hrel
            by_cases ht4 : t < 4
            · have htd : decide ((t : Int) < 4) = true := by simp; omega
              have HB := Lib.hid hb
              go_wp2_with fail
              go_loopw [7, 8] (fun mv i' wr' => ∃ j : Nat, j ≤ m ∧ mv = .bool ((st.take j).any fun o => takesB t o) ∧ i' = .int .i64 j ∧ Below w2.heap.size w2 wr') (fun _ i' _ => m - (intOf i').toNat)
              case atStart => exact ⟨0, by omega, rfl, rfl, HB.out⟩
              case round =>
                clear HB hb
                obtain ⟨j, hj, rfl, rfl, hb⟩ := hrel
                obtain ⟨mb, hmb⟩ : ∃ q, ((st.take j).any fun o => takesB (t : Int) o) = q := ⟨_, rfl⟩
                rw [hmb]
                have hb12 := hb2.trans (hb.mono hs2)
                by_cases hjm : j < m
                · obtain ⟨b, off, o, rfl, hbl, ho, c0, c1, c2⟩ := (HS.out.below hb12 (Nat.le_refl _)).at_ hjm
                  have HN : Hid (((st.take (j + 1)).any fun o => takesB (t : Int) o) = (mb || takesB (t : Int) o)) := by show _ = _; rw [take_snoc ho, List.any_append, hmb]; simp
                  have hjd : decide ((j : Int) < (m : Int)) = true := by simp; omega
                  clear ho hmb
                  obtain ⟨tx, kd, it⟩ := o
                  simp only at c0 c1 c2
                  unfold takesB at HN
                  simp only at HN
                  cases mb
                  · by_cases h1 : tx = (t : Int)
                    · subst h1
                      by_cases h2 : kd ≤ 1
                      · have h2d : decide (kd ≤ 1) = true := by simpa using h2
                        go_wp2_with fail
                        go_roundw
                        case rel => exact ⟨j + 1, by omega, by unfold takesB; rw [HN.out]; simp [h2], by go_num, hb⟩
                        case measure => simp [intOf]; omega
                      · have h2d : decide (kd ≤ 1) = false := by simpa using h2
                        go_wp2_with fail
                        go_roundw
                        case rel => exact ⟨j + 1, by omega, by unfold takesB; rw [HN.out]; simp [h2], by go_num, hb⟩
                        case measure => simp [intOf]; omega
                    · have h1d : (tx == (t : Int)) = false := by simpa using h1
                      go_wp2_with fail
                      go_roundw
                      case rel => exact ⟨j + 1, by omega, by unfold takesB; rw [HN.out]; simp [h1], by go_num, hb⟩
                      case measure => simp [intOf]; omega
                  · go_wp2_with fail
                    go_roundw
                    case rel => exact ⟨j + 1, by omega, by unfold takesB; rw [HN.out]; simp, by go_num, hb⟩
                    case measure => simp [intOf]; omega
                · have hjd : decide ((j : Int) < (m : Int)) = false := by simp; omega
                  rw [List.take_of_length_le (by omega)] at hmb
                  have hI := isIn_any O2 xs.length oc xs (t : Int) wr (HR2.out.below hb (Nat.le_refl _))
                  rw [← hxp.out, ← pt_any, hmb, hxp.out] at hI
                  have HI := Lib.hid hI
                  have hmm : (mb == mb) = true := by simp
                  clear hI hmb
                  go_wp2_with fail
                  refine HI.out.mono ?_
                  rintro e w8 ⟨rfl, hb8⟩
                  have hb28 := hb.trans (hb8.mono hb.size)
                  cases mb
                  · go_wp2_with fail
                    go_roundw
                    case rel => exact ⟨t + 1, by omega, by go_num, hb28⟩
                    case measure => simp [intOf]; omega
                  · go_wp2_with fail
                    go_roundw
                    case rel => exact ⟨t + 1, by omega, by go_num, hb28⟩
                    case measure => simp [intOf]; omega
            · obtain rfl : t = 4 := by omega
              go_wp2_with fail
              go_ret
              exact ⟨rfl, hb1.trans ((hb2.trans (hb.mono hs2)).mono hs1)⟩
end Go.Proofs.Ytcakjhappchlmaa
