/-
  Texts that the proof rests on, joined: part 23.
-/
import Derived.IntWalk
import Derived.StillTailTactics
import Derived.Test.YtncebpmckbcabaaSSt1
import Derived.Test.YtncebpmckbcabaaSSt3
import Derived.Test.YtncebpmckbcabaaSSt4
import Derived.Test.YtncebpmckbcabaaSSt5
import Derived.Test.YtncebpmckbcabaaSSt6
import Derived.Test.YtncebpmckbcabaaSSt7
import Derived.Test.YtncebpmckbcabaaSSt8
import Derived.Test.YtncebpmckbcabaaSSt13
import Derived.Test.YtncebpmckbcabaaSSt14
import Derived.Test.YtncebpmckbcabaaSSt17
import Derived.Test.YtncebpmckbcabaaSSt21
import Derived.Test.YtncebpmckbcabaaSSt22
namespace Go.Proofs.Ytncebpmckbcabaa
open Go.RowKit Go.BigFrame
set_option linter.unusedVariables false

theorem RetListsA.from {w W w' : World} {xss : List (List Int)} {e : Ending} (hb : Below w.heap.size w W) (h : RetListsA W xss e w') : RetListsA w xss e w' := by
  obtain ⟨A6, c6, rv, rfl, h2, h3, h4, h5, h6⟩ := h
  have hs := hb.size
  exact ⟨A6, c6, rv, rfl, h2, ⟨h3.1, fun ad had => by obtain ⟨b, cur, e1, e2, e3⟩ := h3.2 ad had; exact ⟨b, cur, e1, by omega, e3⟩⟩, h4.since hs, h5, hb.trans (h6.mono hs)⟩
theorem RetLists.from {w W w' : World} {xss : List (List Int)} {e : Ending} (hb : Below w.heap.size w W) (h : RetLists W xss e w') : RetLists w xss e w' := by
  obtain ⟨A6, c6, rv, rfl, h2, h3, h4, h6⟩ := h
  have hs := hb.size
  exact ⟨A6, c6, rv, rfl, h2, ⟨h3.1, fun ad had => by obtain ⟨b, cur, e1, e2, e3⟩ := h3.2 ad had; exact ⟨b, cur, e1, by omega, e3⟩⟩, h4.since hs, hb.trans (h6.mono hs)⟩

set_option maxRecDepth 100000 in
set_option maxHeartbeats 1000000 in
theorem ordersOf_any (A : Option Addr) (n c : Nat) (s : List OpV) (w : World) (hx : ROps w A n s) (hv : validS s = true) :
    Calls Try.prog 85 #[.slice A n c] w (RetListsA w (ordO s)) := by
  have HX := Lib.hid hx
  have HV := Lib.hid hv
  clear hx hv
  go_enter Try.func85, Try.ntmps85
  go_wp2_with fail
  refine (committedOf_any A n c s w HX.out).mono ?_
  rintro e w1 ⟨C, cc, rfl, hcc, hf, hb1⟩
  have hf1 := hf.1
  have HT := Lib.hid (txsOf_any C (committed s).length cc (committed s) w1 hf1)
  clear hf
  go_wp2_with fail
  refine HT.out.mono ?_
  rintro e w2 ⟨L, lc, rfl, hlc, hf2, hb2⟩
  have hb12 := hb1.trans (hb2.mono hb1.size)
  have hG := graphOf_any A n c s w2 (HX.out.below hb12 (Nat.le_refl _)) HV.out
  have HG := Lib.hid hG
  have hL4 : (txsOf (committed s)).length ≤ 4 := txsOf_len _
  have HRL := Lib.hid (txsOf_rng0 (committed s))
  have HLR := Lib.hid hf2.1
  have HLB : Hid (∀ ad, L = some ad → ad.block < w2.heap.size) := FreshInts.blk hf2
  have HOO : Hid (ordO s = ordI (txsOf (committed s)) (grI (committed s))) := rfl
  have HR4 : Hid (Rows4 (grI (committed s))) := grI_ok (comm_tx4 HV.out)
  clear hf2 hG hf1 HT
  generalize txsOf (committed s) = LL at *
  go_wp2_with fail
  refine HG.out.mono ?_
  rintro e w3 ⟨G, gc, rfl, hgc, ⟨hg3, _⟩, hb3⟩
  have hlen : (rowsI (grI (committed s))).length = 4 := by simp [rowsI, HR4.out.1]
  rw [hlen] at hg3 hgc ⊢
  have hb13 := hb12.trans (hb3.mono hb12.size)
  have HO := Lib.hid (ordersBy_any L G LL.length lc gc LL (grI (committed s)) w3 (HLR.out.below hb3 (Nat.le_refl _)) (fun ad h => Nat.lt_of_lt_of_le (HLB.out ad h) hb3.size) hg3 HR4.out HRL.out hL4)
  rw [← HOO.out] at HO
  clear hg3 hlen hb3
  go_wp2_with fail
  refine HO.out.mono ?_
  intro e w4 hret
  obtain ⟨A6, c6, rv, rfl, h2, h3, h4, h5, h6⟩ := hret
  have HR : Hid (RetListsA w (ordO s) (.returned (.slice A6 (ordO s).length c6)) w4) := RetListsA.from hb13 ⟨A6, c6, rv, rfl, h2, h3, h4, h5, h6⟩
  clear h2 h3 h4 h5 h6 HO
  go_wp2_with fail
  go_ret
  exact HR.out

set_option maxRecDepth 100000 in
set_option maxHeartbeats 1000000 in
theorem OrdersOf_any (A : Option Addr) (n c : Nat) (s : List OpV) (w : World) (hx : ROps w A n s) (hnc : n ≤ c) :
    Calls Try.prog 38 #[.slice A n c] w (RetListsA w (orNil (validS s) (ordO s))) := by
  have HX := Lib.hid hx
  clear hx
  go_enter Try.func38, Try.ntmps38
  go_wp2_with fail
  refine (ValidSchedule_any A n c s w HX.out hnc).mono ?_
  rintro e w1 ⟨rfl, hb⟩
  cases hv : validS s
  · have HV := Lib.hid hv
    clear hv
    go_wp2_with fail
    go_ret
    rw [HV.out]
    exact RetListsA.nil hb
  · have HV := Lib.hid hv
    have HO := Lib.hid (ordersOf_any A n c s w1 (HX.out.below hb (Nat.le_refl _)) hv)
    clear hv
    go_wp2_with fail
    refine HO.out.mono ?_
    intro e w4 hret
    obtain ⟨A6, c6, rv, rfl, h2, h3, h4, h5, h6⟩ := hret
    have HR : Hid (RetListsA w (ordO s) (.returned (.slice A6 (ordO s).length c6)) w4) := RetListsA.from hb ⟨A6, c6, rv, rfl, h2, h3, h4, h5, h6⟩
    clear h2 h3 h4 h5 h6 HO
    go_wp2_with fail
    go_ret
    rw [HV.out]
    exact HR.out

/-! the reference -/
end Go.Proofs.Ytncebpmckbcabaa
namespace Go.Proofs.Ytncebpmckbcabaa
open Go.RowKit Go.BigFrame
set_option linter.unusedVariables false


set_option maxRecDepth 100000 in
set_option maxHeartbeats 1000000 in
theorem only_any (A B : Option Addr) (n m c d : Nat) (xs ys : List Int) (w : World) (hx : RInts w A n xs) (hy : RInts w B m ys) :
    Calls Try.prog 39 #[.slice A n c, .slice B m d] w (RetInts w (xs.filter fun x => ys.any fun y => y == x)) := by
  have hn := hx.2.1
  have hl := hx.1
  have HX := Lib.hid hx
  have HY := Lib.hid hy
  clear hx hy
  have HST : Hid ((w.alloc (.cells #[] 3)).ownsRow w.heap.size 3 1 (.slice (some ⟨w.heap.size, 0, none⟩) 0 0) 0 (intCells ((xs.take 0).filter fun x => ys.any fun y => y == x))) :=
    World.ownsRow_made w #[] 0 (Nat.le_refl _) (by decide) rfl
  go_enter Try.func39, Try.ntmps39
  go_wp2_with fail
  go_loopw [5, 6] (fun ov i wr => ∃ (k q : Nat), k ≤ n ∧ q ≤ k ∧ i = .int .i64 k ∧ Below w.heap.size w wr ∧ wr.ownsRow w.heap.size 3 1 ov q (intCells ((xs.take k).filter fun x => ys.any fun y => y == x))) (fun _ i _ => n - (intOf i).toNat)
  case atStart => exact ⟨0, 0, Nat.zero_le _, Nat.le_refl _, rfl, (Below.refl _ _).alloc (Nat.le_refl _) _, HST.out⟩
  case round =>
    clear HST
    obtain ⟨k, q, hk, hqk, rfl, hb, hown⟩ := hrel
    by_cases hlt : k < n
    · obtain ⟨b, off, x, rfl, hbl, ho, c0⟩ := (HX.out.below hb (Nat.le_refl _)).at_ hlt
      have hs := hb.size
      have hst : (xs.take (k + 1)).filter (fun x => ys.any fun y => y == x) = (xs.take k).filter (fun x => ys.any fun y => y == x) ++ if (ys.any fun y => y == x) then [x] else [] := by
        rw [take_snoc ho, List.filter_append, List.filter_cons, List.filter_nil]
      obtain ⟨bb, hbb⟩ : ∃ b, (ys.any fun y => y == x) = b := ⟨_, rfl⟩
      have hcl : Calls Try.prog 86 #[.slice B m d, .int .i64 x] wr fun e w' => e = .returned (.bool bb) ∧ Below wr.heap.size wr w' := by
        have := isIn_any B m d ys x wr (HY.out.below hb (Nat.le_refl _)); rw [hbb] at this; exact this
      rw [hbb] at hst
      have HS := Lib.hid hst
      have HC := Lib.hid hcl
      have L0 := Later.cell c0
      clear hst ho hcl hbb
      go_wp2_with fail
      refine HC.out.mono ?_
      rintro e w1 ⟨rfl, hb1⟩
      have hb2 := hb.trans (hb1.mono hb.size)
      have hown1 := own_below hown hb1
      have e0 := L0 ⟨w1, hb1⟩
      simp only at e0
      have hs1 := hb2.size
      cases bb
      · go_wp2_with fail
        go_roundw
        case rel => exact ⟨k + 1, q, by omega, by omega, by go_num, hb2, by rw [HS.out]; simpa using hown1⟩
        case measure => simp [intOf]; omega
      · go_wp2_with (at_builtin; refine app_ints (.tmp 20) (.tmp 25) (hown1.alloc _) (by simp; omega) (lit1 rfl _) (by omega) rfl rfl rfl rfl ?_; intro v5 w5 hown5 hg5 hat5)
        have hg5' := World.grownBy.trans (World.grownBy_alloc w1 _ _) hg5
        have hb5 := Below.own hb2 hown1 (Nat.le_refl _) hg5'
        go_roundw
        case rel => exact ⟨k + 1, q + 1, by omega, by omega, by go_num, hb5, by rw [HS.out, if_pos (by first | rfl | trivial)]; exact hown5⟩
        case measure => simp [intOf]; omega
    · rw [List.take_of_length_le (by omega)] at hown
      obtain ⟨Ao, co, rfl, hmc⟩ := own_form2 hown
      have HO := Lib.hid (RetInts.mk (c := co) (own_lenInts hown) (by omega) (FreshInts.of_own hown (Nat.le_refl _) (by omega)) hb)
      clear hown
      go_wp2_with fail
      go_ret
      exact HO.out
end Go.Proofs.Ytncebpmckbcabaa
namespace Go.Proofs.Ytncebpmckbcabaa
open Go.RowKit Go.BigFrame
set_option linter.unusedVariables false

theorem FreshOps.at_ {w0 w : World} {A : Option Addr} {n : Nat} {xs : List OpV} (h : FreshOps w0 w A n xs) : ∀ ad, A = some ad → w0.heap.size ≤ ad.block ∧ ad.block < w.heap.size := by
  intro ad had
  obtain ⟨b, cur, rfl, hge, hh, _⟩ := h.2 ad had
  exact ⟨hge, lt_of_block hh⟩
theorem FreshInts.at_ {w0 w : World} {A : Option Addr} {n : Nat} {xs : List Int} (h : FreshInts w0 w A n xs) : ∀ ad, A = some ad → w0.heap.size ≤ ad.block ∧ ad.block < w.heap.size := by
  intro ad had
  obtain ⟨b, cur, rfl, hge, hh, _⟩ := h.2 ad had
  exact ⟨hge, lt_of_block hh⟩
theorem FreshOps.below {w0 w w' : World} {A : Option Addr} {n : Nat} {xs : List OpV} (h : FreshOps w0 w A n xs) (hb : Below w.heap.size w w') : FreshOps w0 w' A n xs :=
  ⟨h.1.below hb (Nat.le_refl _), fun ad had => by obtain ⟨b, cur, e, hge, hh, hs⟩ := h.2 ad had; exact ⟨b, cur, e, hge, (hb.block b (lt_of_block hh)).trans hh, hs⟩⟩
theorem FreshInts.below {w0 w w' : World} {A : Option Addr} {n : Nat} {xs : List Int} (h : FreshInts w0 w A n xs) (hb : Below w.heap.size w w') : FreshInts w0 w' A n xs :=
  ⟨h.1.below hb (Nat.le_refl _), fun ad had => by obtain ⟨b, cur, e, hge, hh, hs⟩ := h.2 ad had; exact ⟨b, cur, e, hge, (hb.block b (lt_of_block hh)).trans hh, hs⟩⟩
theorem FreshInts.grown {w0 w w' : World} {A : Option Addr} {n : Nat} {xs : List Int} {row : Option Nat} (h : FreshInts w0 w A n xs) (hg : w.grownBy w' row) (hne : ∀ b, A = some b → row ≠ some b.block) : FreshInts w0 w' A n xs :=
  ⟨h.1.grown hg hne, fun ad had => by obtain ⟨b, cur, e, hge, hh, hs⟩ := h.2 ad had; exact ⟨b, cur, e, hge, (hg.block b (lt_of_block hh) (fun e2 => hne _ had (by rw [← e2, e]))).trans hh, hs⟩⟩
theorem FreshOps.grown {w0 w w' : World} {A : Option Addr} {n : Nat} {xs : List OpV} {row : Option Nat} (h : FreshOps w0 w A n xs) (hg : w.grownBy w' row) (hne : ∀ b, A = some b → row ≠ some b.block) : FreshOps w0 w' A n xs :=
  ⟨h.1.grown hg hne, fun ad had => by obtain ⟨b, cur, e, hge, hh, hs⟩ := h.2 ad had; exact ⟨b, cur, e, hge, (hg.block b (lt_of_block hh) (fun e2 => hne _ had (by rw [← e2, e]))).trans hh, hs⟩⟩
end Go.Proofs.Ytncebpmckbcabaa
namespace Go.Proofs.Ytncebpmckbcabaa
open Go.RowKit Go.BigFrame
set_option linter.unusedVariables false

theorem OuterR.cells {w0 w : World} {A : Option Addr} {n : Nat} {rv : List Value} (h : OuterR w0 w A n rv) (hn : 0 < n) : ∃ b, A = some ⟨b, 0, none⟩ ∧ w0.heap.size ≤ b ∧ b < w.heap.size ∧ ∀ (i : Nat) (u : Value), rv[i]? = some u → w.cell? ⟨b, 0 + i, none⟩ = some u := by
  obtain ⟨ad, e, hc⟩ := h.1.2.2 hn
  obtain ⟨b, cur, e2, h1, h2⟩ := h.2 ad e
  subst e2
  refine ⟨b, e, h1, lt_of_block h2, fun i u hu => ?_⟩
  have := hc i u hu
  rwa [addr_add] at this
end Go.Proofs.Ytncebpmckbcabaa
namespace Go.Proofs.Ytncebpmckbcabaa
open Go.RowKit Go.BigFrame
set_option linter.unusedVariables false

theorem RLists.of {w0 w : World} {A : Option Addr} {n : Nat} {rv : List Value} {xss : List (List Int)} (ho : OuterR w0 w A n rv) (hr : RowsR w0 w rv xss) (hl : xss.length = n) (hs : n ≤ 1099511627776) : RLists w A n xss := by
  refine ⟨hl, hs, fun hn => ?_⟩
  obtain ⟨b, rfl, h1, h2, h3⟩ := ho.cells hn
  refine ⟨b, 0, rfl, h2, fun i xs hi => ?_⟩
  obtain ⟨B, c, e, hc, hf⟩ := hr.2 i xs hi
  exact ⟨B, _, c, h3 i _ e, hc, hf.1⟩

end Go.Proofs.Ytncebpmckbcabaa
namespace Go.Proofs.Ytncebpmckbcabaa
open Go.RowKit Go.BigFrame
set_option linter.unusedVariables false

theorem neq_op (w : World) (a b c a' b' c' : Int) :
    (binOp .neq 62 (.agg #[.int .i64 a, .int .i64 b, .int .i64 c]) (.agg #[.int .i64 a', .int .i64 b', .int .i64 c'])).run Try.prog w = .ok (.bool (!(a == a' && b == b' && c == c'))) w := by
  rw [run_neq_struct, show (10000 : Nat) = 9999 + 1 from rfl, run_equalIn_agg w 9999 62 _ _ op_struct op_held]
  cases h1 : (a == a') <;> cases h2 : (b == b') <;> cases h3 : (c == c') <;> simp [go_sem, Try.underlying62, h1, h2, h3]
set_option maxRecDepth 100000 in
set_option maxHeartbeats 1000000 in
theorem equalOps_any (A B : Option Addr) (n m c d : Nat) (xs ys : List OpV) (w : World) (hx : ROps w A n xs) (hy : ROps w B m ys) :
    Calls Try.prog 30 #[.slice A n c, .slice B m d] w fun e w' => e = .returned (.bool (xs == ys)) ∧ Below w.heap.size w w' := by
  have hn := hx.2.1
  have hl := hx.1
  have hm := hy.2.1
  have hly := hy.1
  have HX := Lib.hid hx
  have HY := Lib.hid hy
  clear hx hy
  by_cases hnm : n = m
  · subst hnm
    go_enter Try.func30, Try.ntmps30
    go_wp2_with fail
    go_loopw [5] (fun i wr => ∃ k : Nat, k ≤ n ∧ i = .int .i64 k ∧ Below w.heap.size w wr ∧ ∀ j, j < k → xs[j]? = ys[j]?) (fun i _ => n - (intOf i).toNat)
    case atStart => exact ⟨0, Nat.zero_le _, rfl, Below.refl _ _, by omega⟩
    case round =>
      obtain ⟨k, hk, rfl, hb, hno⟩ := hrel
      by_cases hlt : k < n
      · obtain ⟨b, off, x, rfl, hbl, hox, c0, c1, c2⟩ := (HX.out.below hb (Nat.le_refl _)).at_ hlt
        obtain ⟨b', off', y, rfl, hbl', hoy, d0, d1, d2⟩ := (HY.out.below hb (Nat.le_refl _)).at_ hlt
        have HN : Hid (x = y → ∀ j, j < k + 1 → xs[j]? = ys[j]?) := fun h j hj => by
          by_cases e : j = k
          · subst e; rw [hox, hoy, h]
          · exact hno j (by omega)
        have HT : Hid (¬ x = y → (xs == ys) = false) := fun h => by
          rw [beq_eq_false_iff_ne]
          intro e
          rw [e, hoy] at hox
          injection hox with hox
          exact h hox.symm
        have L0 := Later.cell c0
        have L1 := Later.cell c1
        have L2 := Later.cell c2
        have M0 := Later.cell d0
        have M1 := Later.cell d1
        have M2 := Later.cell d2
        have hki : (k : Int) < (n : Int) := by omega
        obtain ⟨bb, hbb⟩ : ∃ bb, (y == x) = bb := ⟨_, rfl⟩
        have HB := Lib.hid hbb
        obtain ⟨x0, x1, x2⟩ := x
        obtain ⟨y0, y1, y2⟩ := y
        simp only at L0 L1 L2 M0 M1 M2
        have hbq := beq_op x0 x1 x2 y0 y1 y2
        rw [hbb] at hbq
        have hne : ∀ w : World, (binOp .neq 62 (.agg #[.int .i64 x0, .int .i64 x1, .int .i64 x2]) (.agg #[.int .i64 y0, .int .i64 y1, .int .i64 y2])).run Try.prog w = .ok (.bool (!bb)) w := fun w => by
          rw [neq_op, hbq]
        have hgd := op_guard
        clear hno hox hoy c0 c1 c2 d0 d1 d2 hbb hbq
        cases bb
        · simp only [Bool.not_false] at hne
          have hs := Lib.hid (HT.out (fun e => by have := HB.out; rw [beq_eq_false_iff_ne] at this; exact this e.symm))
          go_wp2_with fail
          refine region_later (by kernel_rfl) (by kernel_rfl) ?_
          repeat (go_big_quiet_step (fail))
          refine wpQuiet_nil ?_
          rintro _ ⟨u, rfl⟩
          have hbu := hb.trans (u.2.mono hb.size)
          go_wp2_with fail
          go_ret
          exact ⟨ret_bool hs.out.symm, hbu⟩
        · simp only [Bool.not_true] at hne
          have hs := Lib.hid (HN.out (by have := HB.out; rw [beq_iff_eq] at this; exact this.symm))
          go_wp2_with fail
          refine region_later (by kernel_rfl) (by kernel_rfl) ?_
          repeat (go_big_quiet_step (fail))
          refine wpQuiet_nil ?_
          rintro _ ⟨u, rfl⟩
          have hbu := hb.trans (u.2.mono hb.size)
          go_wp2_with fail
          go_roundw
          case rel => exact ⟨k + 1, by omega, by go_num, hbu, hs.out⟩
          case measure => simp [intOf]; omega
      · have hs : Hid ((xs == ys) = true) := by
          show _ = _
          rw [beq_iff_eq]
          exact eq_of_get (by omega) (fun j hj => hno j (by omega))
        clear hno
        go_wp2_with fail
        go_ret
        exact ⟨ret_bool hs.out.symm, hb⟩
  · have hs : Hid ((xs == ys) = false) := by
      show _ = _
      rw [beq_eq_false_iff_ne]
      intro e
      rw [e] at hl
      omega
    go_enter Try.func30, Try.ntmps30
    go_wp2_with fail
    go_ret
    exact ⟨ret_bool hs.out.symm, Below.refl _ _⟩

end Go.Proofs.Ytncebpmckbcabaa
