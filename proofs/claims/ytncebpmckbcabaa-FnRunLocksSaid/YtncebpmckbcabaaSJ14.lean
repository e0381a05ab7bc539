/-
  Texts that the proof rests on, joined: part 14.
-/
import Derived.Lib.SliceRun
import Derived.LoopIn
import Derived.LoopNIn
import Derived.Maps.AppendAt
import Derived.OwnWalkIn
import Derived.RangeFuncBound
import Derived.RangeFuncBox
import Derived.RangeFuncCalls
import Derived.RangeFuncLeaves
import Derived.RangeFuncNested
import Derived.RangeFuncWrites
import Derived.Shelf.Abstract
import Derived.Shelf.RegionOpen
import Derived.Shelf.SortM.Plain
import Derived.Shelf.SortM.SortNone
import Derived.Sort.OwnSortedInts
import Derived.TacticsInMore
import Derived.Test.YtncebpmckbcabaaRows
import Derived.WalkKit
import Derived.StillTailTactics
import Derived.IntWalk
import Derived.Test.YtncebpmckbcabaaSJ3
import Derived.Test.YtncebpmckbcabaaSJ4
import Derived.Test.YtncebpmckbcabaaSJ5
import Derived.Test.YtncebpmckbcabaaSJ13
namespace Go.Proofs.Ytncebpmckbcabaa
open Go.RowKit Go.BigFrame
set_option linter.unusedVariables false


set_option maxHeartbeats 400000 in
theorem IndexS_any (A : Option Addr) (n c : Nat) (xs : List Int) (x : Int) (w : World) (hx : RInts w A n xs) :
    Calls Try.prog 116 #[.slice A n c, .int .i64 x] w fun e w' => e = .returned (.int .i64 (idxZ xs x)) ∧ Below w.heap.size w w' := by
  have hn := hx.2.1
  have hl := hx.1
  have HX := Lib.hid hx
  clear hx
  go_enter Try.func116, Try.ntmps116
  go_wp2_with fail
  go_loopw [8] (fun i wr => ∃ k : Nat, k ≤ n ∧ i = .int .i64 k ∧ Below w.heap.size w wr ∧ (∀ j, j < k → ∀ y, xs[j]? = some y → (y == x) = false)) (fun i _ => n - (intOf i).toNat)
  case atStart => exact ⟨0, Nat.zero_le _, rfl, Below.refl _ _, by omega⟩
  case round =>
    obtain ⟨k, hk, rfl, hb, hno⟩ := hrel
    by_cases hlt : k < n
    · obtain ⟨b, off, y, rfl, hbl, ho, c0⟩ := (HX.out.below hb (Nat.le_refl _)).at_ hlt
      have HN : Hid ((y == x) = false → ∀ j, j < k + 1 → ∀ y, xs[j]? = some y → (y == x) = false) := fun h => no_snoc ho hno h
      have HT : Hid ((y == x) = true → idxZ xs x = (k : Int)) := fun h => idxZ_hit ho h hno
      have L0 := Later.cell c0
      clear hno ho
      by_cases h1 : y = x
      · have hs := Lib.hid (HT.out (by simpa using h1))
        have h1' : (x == y) = true := by simpa using h1.symm
        go_wp2_with fail
        try (refine region_later (by kernel_rfl) (by kernel_rfl) ?_; repeat (go_big_quiet_step (fail)); refine wpQuiet_nil ?_; rintro _ ⟨u, rfl⟩; go_wp2_with fail)
        go_ret
        exact ⟨ret_int hs.out.symm, by first | exact hb | exact hb.trans (u.2.mono hb.size)⟩
      · have hs := Lib.hid (HN.out (by simpa using h1))
        have h1' : (x == y) = false := by simpa using fun h => h1 h.symm
        go_wp2_with fail
        try (refine region_later (by kernel_rfl) (by kernel_rfl) ?_; repeat (go_big_quiet_step (fail)); refine wpQuiet_nil ?_; rintro _ ⟨u, rfl⟩; go_wp2_with fail)
        go_roundw
        case rel => exact ⟨k + 1, by omega, by go_num, by first | exact hb | exact hb.trans (u.2.mono hb.size), hs.out⟩
        case measure => simp [intOf]; omega
    · have HE := Lib.hid (idxZ_none (xs := xs) (x := x) (fun j hj => hno j (by omega)))
      clear hno
      go_wp2_with fail
      go_ret
      exact ⟨ret_int HE.out.symm, hb⟩


set_option maxHeartbeats 400000 in
theorem ContainsS_any (A : Option Addr) (n c : Nat) (xs : List Int) (x : Int) (w : World) (hx : RInts w A n xs) :
    Calls Try.prog 81 #[.slice A n c, .int .i64 x] w fun e w' => e = .returned (.bool (xs.any fun y => y == x)) ∧ Below w.heap.size w w' := by
  have HI := Lib.hid (IndexS_any A n c xs x w hx)
  have hz := idxZ_any xs x
  clear hx
  go_enter Try.func81, Try.ntmps81
  go_wp2_with fail
  refine HI.out.mono ?_
  rintro e w1 ⟨rfl, hb⟩
  generalize idxZ xs x = z at *
  cases ha : (xs.any fun y => y == x)
  · rw [ha] at hz
    have hz2 : z = -1 := by simpa using hz
    subst hz2
    have HA := Lib.hid ha
    clear ha hz
    go_wp2_with fail
    go_ret
    exact ⟨ret_bool HA.out.symm, hb⟩
  · rw [ha] at hz
    have hz2 : 0 ≤ z := by simpa using hz
    have HA := Lib.hid ha
    clear ha hz
    go_wp2_with fail
    go_ret
    exact ⟨ret_bool HA.out.symm, hb⟩

end Go.Proofs.Ytncebpmckbcabaa
namespace Go.Proofs.Ytncebpmckbcabaa
open Go.RowKit Go.BigFrame
set_option linter.unusedVariables false

theorem opsOf_snoc {s : List OpV} {k : Nat} {o : OpV} {t : Int} (h : s[k]? = some o) : opsOf (s.take (k + 1)) t = opsOf (s.take k) t ++ if o.tx = t then [o] else [] := by
  unfold opsOf
  rw [take_snoc h, List.filter_append]
  by_cases e : o.tx = t <;> simp [e]
set_option maxRecDepth 100000 in
set_option maxHeartbeats 1000000 in
theorem sopsOf_any (A : Option Addr) (n c : Nat) (s : List OpV) (t : Int) (w : World) (hx : ROps w A n s) :
    Calls Try.prog 91 #[.slice A n c, .int .i64 t] w (RetOps w (opsOf s t)) := by
  have hn := hx.2.1
  have hl := hx.1
  have HX := Lib.hid hx
  clear hx
  have HST : Hid ((w.alloc (.cells #[] 62)).ownsRow w.heap.size 62 3 (.slice (some ⟨w.heap.size, 0, none⟩) 0 0) 0 (opCells (opsOf (s.take 0) t))) :=
    World.ownsRow_made w #[] 0 (Nat.le_refl _) (by decide) rfl
  go_enter Try.func91, Try.ntmps91
  go_wp2_with fail
  go_loopw [5, 6] (fun ov i wr => ∃ (k m : Nat), k ≤ n ∧ m ≤ k ∧ i = .int .i64 k ∧ Below w.heap.size w wr ∧ wr.ownsRow w.heap.size 62 3 ov m (opCells (opsOf (s.take k) t))) (fun _ i _ => n - (intOf i).toNat)
  case atStart => exact ⟨0, 0, Nat.zero_le _, Nat.le_refl _, rfl, (Below.refl _ _).alloc (Nat.le_refl _) _, HST.out⟩
  case round =>
    clear HST
    obtain ⟨k, m, hk, hmk, rfl, hb, hown⟩ := hrel
    obtain ⟨Ao, co, rfl, hmc⟩ := own_form2 hown
    by_cases hlt : k < n
    · obtain ⟨b, off, o, rfl, hbl, ho, c0, c1, c2⟩ := (HX.out.below hb (Nat.le_refl _)).at_ hlt
      have hs := hb.size
      have HT := Lib.hid (opsOf_snoc (t := t) ho)
      clear ho
      obtain ⟨tx, kd, it⟩ := o
      simp only at HT c0 c1 c2
      by_cases h1 : tx = t
      · rw [if_pos h1] at HT
        subst h1
        go_wp2_with (at_builtin; refine app_ops (.tmp 21) (.tmp 26) (hown.alloc _) (by simp; omega) (ROps.lit1 _ ⟨_, _, _⟩ _) (by omega) rfl rfl rfl rfl ?_; intro v3 w3 hown3 hg3 hat3)
        have hb3 := Below.own hb hown (Nat.le_refl _) (World.grownBy.trans (World.grownBy_alloc wr _ _) hg3)
        go_wp2_with fail
        go_roundw
        case rel => exact ⟨k + 1, m + 1, by omega, by omega, by go_num, hb3, by rw [HT.out]; simpa using hown3⟩
        case measure => simp [intOf]; omega
      · rw [if_neg h1, List.append_nil] at HT
        go_wp2_with fail
        go_roundw
        case rel => exact ⟨k + 1, m, by omega, by omega, by go_num, hb, by rw [HT.out]; exact hown⟩
        case measure => simp [intOf]; omega
    · have e : s.take k = s := List.take_of_length_le (by omega)
      rw [e] at hown
      have HO := Lib.hid (RetOps.mk (c := co) (own_lenOps hown) hmc (FreshOps.of_own hown (Nat.le_refl _) (by omega)) hb)
      clear hown e
      go_wp2_with fail
      go_ret
      exact HO.out

end Go.Proofs.Ytncebpmckbcabaa
namespace Go.Proofs.Ytncebpmckbcabaa
open Go.RowKit Go.BigFrame
set_option linter.unusedVariables false

structure SgInv (w : World) (g : Nat) (rows : List Nat) (wr : World) : Prop where
  below : Below w.heap.size w wr
  row : RowIs wr g 3 (intCells (rowsI rows) ++ [])
theorem SgInv.later {w wr W : World} {g : Nat} {rows : List Nat} (h : SgInv w g rows wr) (hb : Below wr.heap.size wr W) : SgInv w g rows W :=
  ⟨h.below.trans (hb.mono h.below.size), h.row.below hb (Nat.le_refl _)⟩
theorem SgInv.drew {w wr : World} {g : Nat} {rows : List Nat} (h : SgInv w g rows wr) : SgInv w g rows wr.drew := ⟨h.below.drew, h.row⟩
theorem SgInv.set {w wr : World} {g : Nat} {rows : List Nat} {T : Nat} {u : Int} (h : SgInv w g rows wr) (hge : w.heap.size ≤ g) (hT : T ≤ 3) (h4 : Rows4 rows) {v : Int}
    (hv : v = ((rows.getD T 0 ||| (1 <<< u.toNat) : Nat) : Int)) : SgInv w g (rowSet rows T u) (wr.setCell ⟨g, T, none⟩ (.int .i64 v)) := by
  subst hv
  refine ⟨h.below.setCell (by simpa using hge) _, ?_⟩
  rw [rowsI_set]
  exact row_setInt h.row (by simp [rowsI, h4.1]; omega)
theorem SgInv.at_ {w wr : World} {g : Nat} {rows : List Nat} (h : SgInv w g rows wr) (h4 : Rows4 rows) {T : Nat} (hT : T ≤ 3) : wr.cell? ⟨g, T, none⟩ = some (.int .i64 ((rows.getD T 0 : Nat) : Int)) ∧ wr.frozen? ⟨g, T, none⟩ = false ∧ rows.getD T 0 < 16 := by
  obtain ⟨h1, h2⟩ := rowsI_at h4 hT
  refine ⟨h.row.cell ?_, h.row.frozen T, h2⟩
  rw [List.append_nil]
  exact h1

end Go.Proofs.Ytncebpmckbcabaa
namespace Go.Proofs.Ytncebpmckbcabaa
open Go.RowKit Go.BigFrame
set_option linter.unusedVariables false

theorem frst_hit {W : List OpV} {i k : Nat} {o p : OpV} (hi : W[i]? = some o) (hk : W[k]? = some p) (hki : k < i) (h : p.tx = o.tx) : frstB W i = false := by
  unfold frstB
  rw [hi]
  simp only
  rw [List.all_eq_false]
  exact ⟨p, List.mem_iff_getElem?.2 ⟨k, by rw [List.getElem?_take_of_lt hki]; exact hk⟩, by simp [h]⟩
theorem frst_all {W : List OpV} {i : Nat} {o : OpV} (hi : W[i]? = some o) (h : ∀ k p, k < i → W[k]? = some p → p.tx ≠ o.tx) : frstB W i = true := by
  unfold frstB
  rw [hi]
  simp only
  rw [List.all_eq_true]
  intro p hp
  obtain ⟨k, hk⟩ := List.mem_iff_getElem?.1 hp
  have hl := (List.getElem?_eq_some_iff.1 hk).1
  rw [List.length_take] at hl
  rw [List.getElem?_take_of_lt (by omega)] at hk
  simpa using h k p (by omega) hk
set_option maxRecDepth 100000 in
set_option maxHeartbeats 1000000 in
theorem firstOf_any (A : Option Addr) (n c : Nat) (W : List OpV) (i : Nat) (w : World) (hx : ROps w A n W) (hi : i < n) :
    Calls Try.prog 125 #[.slice A n c, .int .i64 (i : Int)] w fun e w' => e = .returned (.bool (frstB W i)) ∧ Below w.heap.size w w' := by
  have hn := hx.2.1
  have HX := Lib.hid hx
  obtain ⟨b, off, oi, hA, _, hoi, _⟩ := hx.at_ hi
  subst hA
  have HOI := Lib.hid hoi
  clear hx hoi
  go_enter Try.func125, Try.ntmps125
  go_wp2_with fail
  go_loopw [5] (fun k wr => ∃ q : Nat, q ≤ i ∧ k = .int .i64 q ∧ Below w.heap.size w wr ∧ ∀ k p, k < q → W[k]? = some p → p.tx ≠ oi.tx) (fun k _ => i - (intOf k).toNat)
  case atStart => exact ⟨0, Nat.zero_le _, rfl, Below.refl _ _, by omega⟩
  case round =>
    obtain ⟨q, hq, rfl, hb, hno⟩ := hrel
    have HNO := Lib.hid hno
    clear hno
    by_cases hlt : q < i
    · have hxr := HX.out.below hb (Nat.le_refl _)
      obtain ⟨b1, off1, p, hA1, hbl, hp, c0, _, _⟩ := hxr.at_ (k := q) (by omega)
      obtain ⟨b2, off2, o2, hA2, _, ho2, d0, _, _⟩ := hxr.at_ hi
      injection hA1 with hA1; injection hA1 with e1 e2 _; subst e1; subst e2
      injection hA2 with hA2; injection hA2 with e1 e2 _; subst e1; subst e2
      rw [HOI.out] at ho2
      injection ho2 with ho2
      subst ho2
      have L0 := Later.cell c0
      have M0 := Later.cell d0
      have HP := Lib.hid hp
      have hqi : (q : Int) < (i : Int) := by omega
      have hq0 : (0 : Int) ≤ (q : Int) := by omega
      have hqn : (q : Int) < (n : Int) := by omega
      have hin : (i : Int) < (n : Int) := by omega
      have hi0 : (0 : Int) ≤ (i : Int) := by omega
      clear hxr hp c0 d0
      obtain ⟨b1, hb1⟩ : ∃ z, (p.tx == oi.tx) = z := ⟨_, rfl⟩
      obtain ⟨ptx, hptx⟩ : ∃ z, p.tx = z := ⟨_, rfl⟩
      obtain ⟨otx, hotx⟩ : ∃ z, oi.tx = z := ⟨_, rfl⟩
      rw [hptx] at L0 hb1
      rw [hotx] at M0 hb1
      have HE := Lib.hid (And.intro hptx hotx)
      clear hptx hotx
      go_wp2_with fail
      refine region_later (by kernel_rfl) (by kernel_rfl) ?_
      repeat (go_big_quiet_step (fail))
      refine wpQuiet_nil ?_
      rintro _ ⟨u, rfl⟩
      have hbu := hb.trans (u.2.mono hb.size)
      cases b1
      · go_wp2_with fail
        go_roundw
        case rel =>
          refine ⟨q + 1, by omega, by go_num, hbu, fun k p' hk hp' => ?_⟩
          by_cases e : k = q
          · subst e
            rw [HP.out] at hp'
            injection hp' with hp'
            subst hp'
            rw [HE.out.1, HE.out.2]
            simpa using hb1
          · exact HNO.out k p' (by omega) hp'
        case measure => simp [intOf]; omega
      · have HF : Hid (frstB W i = false) := frst_hit HOI.out HP.out hlt (by rw [HE.out.1, HE.out.2]; simpa using hb1)
        go_wp2_with fail
        go_ret
        exact ⟨ret_bool HF.out.symm, hbu⟩
    · obtain rfl : q = i := by omega
      have HF : Hid (frstB W q = true) := frst_all HOI.out HNO.out
      go_wp2_with fail
      go_ret
      exact ⟨ret_bool HF.out.symm, hb⟩
end Go.Proofs.Ytncebpmckbcabaa
