/-
  Helpers of the laws: powers, bits, what is left of a list.
-/
import Derived.Test.YtcakjhappchlmaaPkLkA
namespace Go.Proofs.Ytcakjhappchlmaa
open Go.RowKit Go.BigFrame
set_option linter.unusedVariables false


set_option maxHeartbeats 400000 in
theorem lpower_any (n : Nat) (w : World) (hn : n ≤ 61) : Calls Try.prog 115 #[.int .i64 (n : Int)] w fun e w' => e = .returned (.int .i64 ((2 ^ n : Nat) : Int)) ∧ w = w' := by
  go_enter Try.func115, Try.ntmps115
  go_wp2_with fail
  go_loop [0, 3] (fun a b => ∃ k : Nat, k ≤ n ∧ a = .int .i64 ((n : Int) - k) ∧ b = .int .i64 ((2 ^ k : Nat) : Int)) (fun a _ => (intOf a).toNat)
  case atStart => exact ⟨0, Nat.zero_le _, by simp, rfl⟩
  case round =>
    obtain ⟨k, hk, rfl, rfl⟩ := hrel
    by_cases hlt : k < n
    · have h2 : 2 ^ k ≤ 2 ^ 61 := Nat.pow_le_pow_right (by omega) (by omega)
      have h3 : Hid (2 ^ (k + 1) = 2 * 2 ^ k) := by show _ = _; rw [Nat.pow_succ]; omega
      generalize hP : 2 ^ k = p at *
      have HP := Lib.hid hP
      clear hP
      have h4 : p ≤ 2305843009213693952 := by have : (2:Nat) ^ 61 = 2305843009213693952 := by decide
                                              omega
      clear h2
      go_wp2_with fail
      go_round
      case rel => exact ⟨k + 1, by omega, by first | go_num | (congr 1; omega), by rw [h3.out]; first | go_num | (congr 1; omega)⟩
      case measure => simp [intOf]; omega
    · obtain rfl : k = n := by omega
      go_wp2_with fail
      go_ret
      exact ⟨rfl, rfl⟩


set_option maxHeartbeats 400000 in
theorem lbit_any (x j : Nat) (w : World) (hx : x ≤ 4611686018427387904) (hj : j ≤ 61) : Calls Try.prog 54 #[.int .i64 (x : Int), .int .i64 (j : Int)] w fun e w' => e = .returned (.int .i64 (if x.testBit j then 1 else 0)) ∧ w = w' := by
  have HP := Lib.hid (lpower_any j w hj)
  have hp : 0 < 2 ^ j := Nat.two_pow_pos _
  have hq : (2 ^ j : Nat) ≤ 2305843009213693952 := by
    have : 2 ^ j ≤ 2 ^ 61 := Nat.pow_le_pow_right (by omega) hj
    have h2 : (2:Nat) ^ 61 = 2305843009213693952 := by decide
    omega
  obtain ⟨r, hr⟩ : ∃ r : Int, (if x.testBit j then 1 else 0) = r := ⟨_, rfl⟩
  rw [hr]
  have HR : Hid (((x / 2 ^ j % 2 : Nat) : Int) = r) := by
    show _ = _
    rw [← hr]
    rw [Nat.testBit_eq_decide_div_mod_eq]
    by_cases h : x / 2 ^ j % 2 = 1
    · rw [h]; simp
    · have : x / 2 ^ j % 2 = 0 := by omega
      rw [this]; simp
  generalize hP : 2 ^ j = p at *
  have hdiv : x / p ≤ x := Nat.div_le_self _ _
  clear hP hr
  have hpi : (p : Int) ≠ 0 := by omega
  have HD : Hid ((wrap64 ((x : Int) / (p : Int))).tmod 2 = ((x / p % 2 : Nat) : Int)) := by
    show _ = _
    have e1 : ((x : Int) / (p : Int)) = ((x / p : Nat) : Int) := by simp
    rw [e1]
    have e2 : wrap64 ((x / p : Nat) : Int) = ((x / p : Nat) : Int) := by
      generalize x / p = q at *
      unfold wrap64
      omega
    rw [e2]
    rfl
  go_enter Try.func54, Try.ntmps54
  go_wp2_with fail
  refine HP.out.mono ?_
  rintro e w1 ⟨rfl, rfl⟩
  go_wp2_with fail
  go_ret
  exact ⟨ret_int (by rw [← HR.out]; exact HD.out), rfl⟩


set_option maxRecDepth 100000 in
set_option maxHeartbeats 1000000 in
theorem only_any (A B : Option Addr) (n m c d : Nat) (xs ys : List Int) (w : World) (hx : RInts w A n xs) (hy : RInts w B m ys) :
    Calls Try.prog 49 #[.slice A n c, .slice B m d] w (RetInts w (xs.filter fun x => ys.any fun y => y == x)) := by
  have hn := hx.2.1
  have hl := hx.1
  have HX := Lib.hid hx
  have HY := Lib.hid hy
  clear hx hy
  have HST : Hid ((w.alloc (.cells #[] 3)).ownsRow w.heap.size 3 1 (.slice (some ⟨w.heap.size, 0, none⟩) 0 0) 0 (intCells ((xs.take 0).filter fun x => ys.any fun y => y == x))) :=
    World.ownsRow_made w #[] 0 (Nat.le_refl _) (by decide) rfl
  go_enter Try.func49, Try.ntmps49
  go_wp2_with fail
  go_loopw [5, 6] (fun ov i wr => ∃ (k q : Nat), k ≤ n ∧ q ≤ k ∧ i = .int .i64 k ∧ Below w.heap.size w wr ∧ wr.ownsRow w.heap.size 3 1 ov q (intCells ((xs.take k).filter fun x => ys.any fun y => y == x))) (fun _ i _ => n - (intOf i).toNat)
  case atStart => exact ⟨0, 0, Nat.zero_le _, Nat.le_refl _, rfl, (Below.refl _ _).alloc (Nat.le_refl _) _, HST.out⟩
  case round =>
    clear HST
    obtain ⟨k, q, hk, hqk, rfl, hb, hown⟩ := hrel
    by_cases hlt : k < n
    · obtain ⟨b, off, x, rfl, hbl, ho, c0⟩ := (HX.out.below hb (Nat.le_refl _)).at_ hlt
      have hs := hb.size
      have hst : (xs.take (k + 1)).filter (fun x => ys.any fun y => y == x) = (xs.take k).filter (fun x => ys.any fun y => y == x) ++ if (ys.any fun y => y == x) then [x] else [] := by
        rw [take_snoc ho, List.filter_append, List.filter_cons, List.filter_nil]
      obtain ⟨bb, hbb⟩ : ∃ b, (ys.any fun y => y == x) = b := ⟨_, rfl⟩
      have hcl : Calls Try.prog 28 #[.slice B m d, .int .i64 x] wr fun e w' => e = .returned (.bool bb) ∧ Below wr.heap.size wr w' := by
        have := isIn_any B m d ys x wr (HY.out.below hb (Nat.le_refl _)); rw [hbb] at this; exact this
      rw [hbb] at hst
      have HS := Lib.hid hst
      have HC := Lib.hid hcl
      have L0 := Later.cell c0
      clear hst ho hcl hbb
      go_wp2_with fail
      refine HC.out.mono ?_
      rintro e w1 ⟨rfl, hb1⟩
      have hb2 := hb.trans (hb1.mono hb.size)
      have hown1 := own_below hown hb1
      have e0 := L0 ⟨w1, hb1⟩
      simp only at e0
      have hs1 := hb2.size
      cases bb
      · go_wp2_with fail
        go_roundw
        case rel => exact ⟨k + 1, q, by omega, by omega, by go_num, hb2, by rw [HS.out]; simpa using hown1⟩
        case measure => simp [intOf]; omega
      · go_wp2_with (at_builtin; refine app_ints (.tmp 20) (.tmp 25) (hown1.alloc _) (by simp; omega) (lit1 rfl _) (by omega) rfl rfl rfl rfl ?_; intro v5 w5 hown5 hg5 hat5)
        have hg5' := World.grownBy.trans (World.grownBy_alloc w1 _ _) hg5
        have hb5 := Below.own hb2 hown1 (Nat.le_refl _) hg5'
        go_roundw
        case rel => exact ⟨k + 1, q + 1, by omega, by omega, by go_num, hb5, by rw [HS.out, if_pos (by first | rfl | trivial)]; exact hown5⟩
        case measure => simp [intOf]; omega
    · rw [List.take_of_length_le (by omega)] at hown
      obtain ⟨Ao, co, rfl, hmc⟩ := own_form2 hown
      have HO := Lib.hid (RetInts.mk (c := co) (own_lenInts hown) (by omega) (FreshInts.of_own hown (Nat.le_refl _) (by omega)) hb)
      clear hown
      go_wp2_with fail
      go_ret
      exact HO.out
end Go.Proofs.Ytcakjhappchlmaa
