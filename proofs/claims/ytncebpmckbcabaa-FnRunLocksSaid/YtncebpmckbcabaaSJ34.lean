/-
  Texts that the proof rests on, joined: part 34.
-/
import Derived.Deep.RegionLaw
import Derived.IntWalk
import Derived.Test.YtncebpmckbcabaaSJ2
import Derived.Test.YtncebpmckbcabaaSJ15
import Derived.Test.YtncebpmckbcabaaSJ26
import Derived.Test.YtncebpmckbcabaaSJ28
namespace Go.Proofs.Ytncebpmckbcabaa
open Go.RowKit Go.BigFrame
set_option linter.unusedVariables false

/-- The row behind the move to the left. -/
theorem del_moved {w : World} {g n c i : Nat} {xs : List OpV} {rest : List Value} (hr : RowIs w g 62 (opCells xs ++ rest)) (hx : xs.length = n) (hi : i < n) :
    ∃ ys, RowIs (w.setCells g (i * 3) (opCells (xs.drop (i + 1)))) g 62 (opCells ys ++ rest) ∧ ys.length = n ∧ ys.take (n - 1) = xs.take i ++ xs.drop (i + 1) := by
  have hlen := length_opCells xs
  have hld := length_opCells (xs.drop (i + 1))
  have hdl : (xs.drop (i + 1)).length = n - (i + 1) := by rw [List.length_drop]; omega
  have h1 := rowIs_cells (opCells (xs.drop (i + 1))) (i * 3) w _ hr (by rw [List.length_append]; omega)
  refine ⟨xs.take i ++ xs.drop (i + 1) ++ xs.drop (n - 1), ?_, ?_, ?_⟩
  · have e : (opCells xs ++ rest).take (i * 3) ++ opCells (xs.drop (i + 1)) ++ (opCells xs ++ rest).drop (i * 3 + (opCells (xs.drop (i + 1))).length) = opCells (xs.take i ++ xs.drop (i + 1) ++ xs.drop (n - 1)) ++ rest := by
      rw [List.take_append_of_le_length (by omega), List.drop_append_of_le_length (by omega), opCells_take, show i * 3 + (opCells (xs.drop (i + 1))).length = (n - 1) * 3 by omega, opCells_drop]
      simp only [opCells_append, List.append_assoc]
    rw [← e]
    exact h1
  · simp only [List.length_append, List.length_take, List.length_drop]; omega
  · rw [List.take_append_of_le_length (by simp only [List.length_append, List.length_take, List.length_drop]; omega), List.take_of_length_le (by simp only [List.length_append, List.length_take, List.length_drop]; omega)]
theorem drop_at {α : Type} {xs : List α} {k j : Nat} : (xs.drop k)[j]? = xs[k + j]? := List.getElem?_drop
set_option maxRecDepth 100000 in
set_option maxHeartbeats 4000000 in
theorem Delete_run (B : Nat) (A : Option Addr) (n c i : Nat) (xs : List OpV) (w : World) (hown : w.ownsRow B 62 3 (.slice A n c) n (opCells xs)) (hn : n ≤ 30000) (hi : i < n) :
    Calls Try.prog 132 #[.slice A n c, .int .i64 (i : Int), .int .i64 ((i : Int) + 1)] w (DelPost B A n c (xs.take i ++ xs.drop (i + 1)) w) := by
  obtain ⟨i0, hi0, hz0, hz1, hz2⟩ := info_parts opInfo
  have hl := own_lenOps hown
  obtain ⟨g, rest, rfl, hBg, hrow, hnc, hcm, hfull⟩ := own_cells hown (by omega)
  have hlen := length_opCells xs
  have hdl : (opCells (xs.drop (i + 1))).length = (n - (i + 1)) * 3 := by rw [length_opCells, List.length_drop, hl]
  -- the operations that are moved
  obtain ⟨Ad, hA, hsrc⟩ : ∃ Ad : Addr, (if c = i + 1 then some (⟨g, 0, none⟩ : Addr) else some ⟨g, (i + 1) * 3, none⟩) = some Ad ∧ Hid (∀ j u, (opCells (xs.drop (i + 1)))[j]? = some u → w.drew.cell? (Ad.add j) = some u) := by
    by_cases h : c = i + 1
    · refine ⟨⟨g, 0, none⟩, by simp [h], fun j u hu => ?_⟩
      have : (opCells (xs.drop (i + 1))).length = 0 := by rw [hdl]; omega
      rw [List.length_eq_zero_iff.1 this] at hu
      simp at hu
    · refine ⟨⟨g, (i + 1) * 3, none⟩, by simp [h], fun j u hu => ?_⟩
      have hj : j < (n - (i + 1)) * 3 := by
        have := (List.getElem?_eq_some_iff.1 hu).1
        omega
      rw [← opCells_drop, drop_at] at hu
      rw [Addr.add_lit]
      refine RowIs.cell (w := w.drew) hrow ?_
      rw [List.getElem?_append_left (by omega)]
      exact hu
  have s1 : Hid ((opCells (xs.drop (i + 1))).length = (n - (i + 1)) * 3) := hdl
  have s2 : Hid (∀ u ∈ opCells (xs.drop (i + 1)), u.oneCell' = true) := opCells_one _
  have s3 : Hid (∀ j, j < (opCells (xs.drop (i + 1))).length → (w.drew.cell? ⟨g, 0 + i * 3 + j, none⟩).isSome = true ∧ w.drew.frozen? ⟨g, 0 + i * 3 + j, none⟩ = false) := fun j hj => by
    rw [hdl] at hj
    have hj2 : 0 + i * 3 + j < (opCells xs ++ rest).length := by rw [List.length_append]; omega
    exact ⟨by rw [RowIs.cell (w := w.drew) hrow (List.getElem?_eq_getElem hj2)]; rfl, RowIs.frozen (w := w.drew) hrow _⟩
  obtain ⟨ys, hry, hyl, hyt⟩ := del_moved (w := w.drew) (c := c) hrow hl hi
  obtain ⟨W1, hW1⟩ : ∃ W1, W1 = w.drew.setCells g (i * 3) (opCells (xs.drop (i + 1))) := ⟨_, rfl⟩
  rw [← hW1] at hry
  have hg1 : w.grownBy W1 (some g) := by rw [hW1]; exact World.grownBy.trans (grown_below (Below.refl _ _).drew) (grown_cells _ _ _)
  have hyf : (opCells ys ++ rest).length = c * 3 := by
    have h1 := length_opCells ys
    rw [List.length_append] at hfull ⊢
    omega
  have hcl : ∀ ty, (Builtin.clear_ #[24] ty #[.slice (some ⟨g, (i + (n - (i + 1))) * 3, none⟩) (n - (i + (n - (i + 1)))) (c - (i + (n - (i + 1))))]).run Try.prog W1 = .ok (.tuple #[]) (W1.setCells g ((i + (n - (i + 1))) * 3) (List.replicate ((n - (i + (n - (i + 1)))) * 3) (.int .i64 0))) :=
    fun ty => run_clear_ops W1 ty hry (by omega) (by omega)
  have HF : Hid (DelPost B (some ⟨g, 0, none⟩) n c (xs.take i ++ xs.drop (i + 1)) w (.returned (.slice (some ⟨g, 0, none⟩) (i + (n - (i + 1))) c)) (W1.setCells g ((i + (n - (i + 1))) * 3) (List.replicate ((n - (i + (n - (i + 1)))) * 3) (.int .i64 0)))) :=
    del_end hry hBg hyl hcm hyf (by omega) hnc (by rw [← hyt]; congr 1; omega) hg1
  have HW : Hid (W1 = w.drew.setCells g (0 + i * 3) (opCells (xs.drop (i + 1)))) := by show _ = _; rw [Nat.zero_add]; exact hW1
  have hii : (i : Int) ≤ (c : Int) := by omega
  have hi0' : (0 : Int) ≤ (i : Int) := by omega
  have hi1 : (i : Int) + 1 ≤ (n : Int) := by omega
  have hi1c : (i : Int) + 1 ≤ (c : Int) := by omega
  have hcut : ((i : Int) + 1).toNat = i + 1 := by omega
  have hne : ((i : Int) == (i : Int) + 1) = false := by rw [beq_eq_false_iff_ne]; omega
  have hi1p : (0 : Int) ≤ (i : Int) + 1 := by omega
  have hcn : ¬ c = i + (n - (i + 1)) := by omega
  have hnn : ((i + (n - (i + 1)) : Nat) : Int) ≤ (n : Int) := by omega
  have hcc : (n : Int) ≤ (c : Int) := by omega
  clear hown hrow hlen hdl hry hyl hyt hW1 hg1 hyf hfull
  go_enter Try.func132, Try.ntmps132
  go_wp2_with fail
  go_region_law (refine step_append_room rfl (.tmp 22) (.tmp 25) 24 rfl 62 i0 3 Try.underlying24 hi0 hz1 g 0 i c (by simp [Act.eval, Act.put]) Ad (n - (i + 1)) (c - (i + 1)) (opCells (xs.drop (i + 1))) (by simp [Act.eval, Act.put]) s1.out hsrc.out s2.out (by omega) s3.out ?_; rw [← HW.out])
  go_wp2_with fail
  go_ret
  exact HF.out
end Go.Proofs.Ytncebpmckbcabaa
namespace Go.Proofs.Ytncebpmckbcabaa
open Go.RowKit Go.BigFrame
set_option linter.unusedVariables false

theorem Compat.cut {L : List OpV} (h : Compat L) (t : Int) : Compat (dropL L t) := fun a b x hab h1 h2 => by
  have key : ∀ u : Int, 0 ≤ heldI (dropL L t) u x → heldI (dropL L t) u x = heldI L u x := fun u hu => by
    obtain ⟨k1, k2⟩ := dropL_held L t u x
    by_cases e : u ≠ t ∨ x < 0 ∨ 3 ≤ x
    · exact k1 e
    · have := k2 (by omega) (by omega) (by omega)
      omega
  have e1 := key a h1
  have e2 := key b (by rw [h2]; omega)
  exact h a b x hab (by rw [← e1]; exact h1) (by rw [← e2]; exact h2)
theorem compat_grant {L : List OpV} {o : OpV} (hok : ∀ s ∈ L, okStep s = true) (hc : Compat L) (hv : validOp o = true) (hw : wayO L o = []) : Compat (grantL L o) := by
  obtain ⟨htx, hk, hi⟩ := validOp_parts hv
  unfold grantL
  cases he : isEnd o
  · have hk1 : 0 ≤ o.kind ∧ o.kind ≤ 1 := by
      unfold isEnd at he
      simp only [Bool.or_eq_false_iff, beq_eq_false_iff_ne] at he
      omega
    have hno : ∀ u, u ≠ o.tx → 0 ≤ heldI L u o.item → (heldI L u o.item = 1 ∨ o.kind = 1) → False := fun u h1 h2 h3 => by
      have hr : 0 ≤ u ∧ u ≤ 3 := by
        rcases Decidable.em ((0 ≤ u ∧ u ≤ 3) ∧ 0 ≤ o.item ∧ o.item ≤ 2) with h | h
        · exact h.1
        · have := heldI_out hok h; omega
      have : u ∈ wayO L o := mem_way.2 ⟨he, hr, h1, h2, h3⟩
      rw [hw] at this
      cases this
    simp only [Bool.false_eq_true, if_false]
    split
    · intro a b x hab h1 h2
      rw [heldI_snoc] at h1 h2
      unfold hStep at h1 h2
      simp only at h1 h2
      by_cases ea : o.tx = a ∧ o.item = x
      · have eb : ¬ (o.tx = b ∧ o.item = x) := fun e => hab (ea.1.symm.trans e.1)
        rw [if_neg eb] at h2
        rw [← ea.2] at h2
        exact hno b (fun e => hab (ea.1.symm.trans e.symm)) (by rw [h2]; omega) (.inl h2)
      · rw [if_neg ea] at h1
        by_cases eb : o.tx = b ∧ o.item = x
        · rw [if_pos eb, if_neg (by omega), if_pos hk1.2] at h2
          rw [← eb.2] at h1
          exact hno a (fun e => hab (e.trans eb.1)) h1 (.inr h2)
        · rw [if_neg eb] at h2
          exact hc a b x hab h1 h2
    · exact hc
  · simp only [if_true]
    exact hc.cut _
theorem items_valid {W : List OpV} (h : ∀ o ∈ W, validOp o = true) : ItemsOk W := fun o ho => by
  obtain ⟨_, hk, hi⟩ := validOp_parts (h o ho)
  cases he : isEnd o
  · unfold isEnd at he
    simp only [Bool.or_eq_false_iff, beq_eq_false_iff_ne] at he
    exact .inr (hi (by omega))
  · exact .inl rfl
structure Fair (N : Nat) (D : Dsk) : Prop where
  val : ∀ o ∈ D.wait, validOp o = true
  comp : Compat D.locks
  bnd : Bnd D N
theorem Fair.next {r : Rul} {N : Nat} {D E : Dsk} (h : Fair N D) (hok : ∀ s ∈ D.locks, okStep s = true) (hn : nextD r D = some E) : Fair N E := by
  have hb := Bnd.next (fun _ => items_valid h.val) h.bnd hn
  rcases nextD_cases hn with ⟨i, o, hi, hf, _, rfl⟩ | ⟨_, t, rfl, _⟩
  · refine ⟨fun p hp => ?_, ?_, hb⟩
    · rcases List.mem_append.1 hp with hp | hp
      · exact h.val p (List.mem_of_mem_take hp)
      · exact h.val p (List.mem_of_mem_drop hp)
    · have hw : wayO D.locks o = [] := by
        rw [free_eq hi, Bool.and_eq_true] at hf
        exact List.isEmpty_iff.1 hf.2
      exact compat_grant hok h.comp (h.val o (List.mem_of_getElem? hi)) hw
  · exact ⟨fun p hp => h.val p (List.mem_filter.1 hp).1, h.comp.cut t, hb⟩
theorem Fair.less {r : Rul} {N : Nat} {D E : Dsk} (h : Fair N D) (hn : nextD r D = some E) : msr E < msr D := next_less (fun _ => items_valid h.val) hn
theorem Fair.settle {r : Rul} {N : Nat} {D E : Dsk} (h : Fair N D) (hn : nextD r D = some E) : settleD r D = settleD r E := settle_some (fun _ => items_valid h.val) hn
theorem Fair.lens {N : Nat} {D : Dsk} (h : Fair N D) (hN : N ≤ 1000) : D.done.length ≤ 1000 ∧ D.wait.length ≤ 1000 ∧ D.locks.length ≤ 3000 ∧ D.dead.length ≤ 1000 := by
  have h1 := h.bnd.done
  have h2 := h.bnd.locks
  have h3 := h.bnd.dead
  have h4 := h.bnd.wait
  omega

/-! the measure, read off the memory -/
def cellI (w : World) (g : Nat) (t x : Int) : Int := match w.cell? ⟨g, t.toNat * 3 + x.toNat, none⟩ with | some (.int _ z) => z | _ => -1
def lenC (w : World) (g : Nat) : Nat := match w.cell? ⟨g, 1, none⟩ with | some (.slice _ n _) => n | _ => 0
def muW (R tg : Nat) (w : World) : Nat := 2 * lenC w R + ([0, 1, 2, 3].filter fun t => [0, 1, 2].any fun x => decide (0 ≤ cellI w tg t x)).length
theorem RunAt.mu {w : World} {B R tg : Nat} {m : Value} {V : DV} {D : Dsk} (h : RunAt w B R tg m V D) : muW R tg w = msr D := by
  obtain ⟨Ad, Aw, Al, Ak, nd, n, nl, nk, cd, cw, cl, ck, rfl, hcs, f1, f2, f3, f4⟩ := h.forms
  have h1 : lenC w R = D.wait.length := by unfold lenC; rw [h.cells.2.1]; exact f2.symm
  have key : ∀ t x : Nat, t ≤ 3 → x ≤ 2 → cellI w tg t x = heldI D.locks t x := fun t x ht hx => by
    unfold cellI
    rw [Int.toNat_natCast, Int.toNat_natCast, h.lock ht hx]
  have hh : ([0, 1, 2, 3].filter fun t => [0, 1, 2].any fun x => decide (0 ≤ cellI w tg t x)) = hold D.locks := by
    unfold hold
    refine List.filter_congr fun t ht => ?_
    unfold holdB
    have k : ∀ t x : Int, 0 ≤ t ∧ t ≤ 3 → 0 ≤ x ∧ x ≤ 2 → cellI w tg t x = heldI D.locks t x := fun t x ht hx => by
      obtain ⟨T, rfl⟩ := Int.eq_ofNat_of_zero_le ht.1
      obtain ⟨X, rfl⟩ := Int.eq_ofNat_of_zero_le hx.1
      exact key T X (by omega) (by omega)
    simp only [List.mem_cons, List.not_mem_nil, or_false] at ht
    simp only [List.any_cons, List.any_nil]
    rw [k t 0 (by omega) (by omega), k t 1 (by omega) (by omega), k t 2 (by omega) (by omega)]
  unfold muW msr
  rw [h1, hh]
end Go.Proofs.Ytncebpmckbcabaa
