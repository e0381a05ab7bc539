/-
  Texts that the proofs rest on, joined: PkLkG.
-/
import Derived.Test.YtcakjhappchlmaaPkLkC
import Derived.Test.YtcakjhappchlmaaPkLkF
import Derived.Test.YtcakjhappchlmaaPkLkB
import Derived.Test.YtcakjhappchlmaaPkLkD
import Derived.Deep.CutRange
import Derived.Test.YtcakjhappchlmaaPkLkA
namespace Go.Proofs.Ytcakjhappchlmaa
open Go.RowKit Go.BigFrame
set_option linter.unusedVariables false

def othTo (p : List OpV) (t x least : Int) (k : Nat) : Bool := (List.range k).any fun u => (u : Int) != t && decide (least ≤ heldI p (u : Int) x)
theorem othTo_succ (p : List OpV) (t x least : Int) (k : Nat) : othTo p t x least (k + 1) = (othTo p t x least k || ((k : Int) != t && decide (least ≤ heldI p (k : Int) x))) := by
  unfold othTo
  rw [List.range_succ, List.any_append]
  simp
theorem othTo_four (p : List OpV) (t x least : Int) : othTo p t x least 4 = othersB p t x least := rfl
theorem othTo_hit {p : List OpV} {t x least : Int} {k : Nat} (hk : k < 4) (h : ((k : Int) != t && decide (least ≤ heldI p (k : Int) x)) = true) : othersB p t x least = true := by
  rw [← othTo_four]
  unfold othTo
  rw [List.any_eq_true]
  exact ⟨k, List.mem_range.2 hk, h⟩
set_option maxRecDepth 100000 in
set_option maxHeartbeats 4000000 in
theorem sillegal_any (A : Option Addr) (n c : Nat) (st : List OpV) (i : Nat) (w : World) (hx : ROps w A n st) (hi : i < n) (hv : ∀ k t x, heldI (st.take k) t x ≤ 1) :
    Calls Try.prog 84 #[.slice A n c, .int .i64 (i : Int)] w fun e w' => e = .returned (.bool (illAtB st i)) ∧ Below w.heap.size w w' := by
  have hn := hx.2.1
  obtain ⟨b, off, o, hA, hbl, ho, c0, c1, c2⟩ := hx.at_ hi
  subst hA
  have HX := Lib.hid hx
  have HV := Lib.hid hv
  have hil : illAtB st i = illB (st.take i) o := by unfold illAtB; rw [ho]
  have HIL := Lib.hid hil
  obtain ⟨tx, kd, it⟩ := o
  simp only at c0 c1 c2
  obtain ⟨h, hh⟩ : ∃ h, heldI (st.take i) tx it = h := ⟨_, rfl⟩
  have HH := Lib.hid hh
  obtain ⟨W, hW⟩ : ∃ W : World, W = w.alloc (.cells #[.int .i64 tx, .int .i64 kd, .int .i64 it] 31) := ⟨_, rfl⟩
  have hbW : Below w.heap.size w W := by rw [hW]; exact (Below.refl _ _).alloc (Nat.le_refl _) _
  have hcW : ∀ u, Below W.heap.size W u → u.cell? ⟨w.heap.size, 0, none⟩ = some (.int .i64 tx) ∧ u.cell? ⟨w.heap.size, 1, none⟩ = some (.int .i64 kd) ∧ u.cell? ⟨w.heap.size, 2, none⟩ = some (.int .i64 it) := fun u hu => by
    have a0 : W.cell? ⟨w.heap.size, 0, none⟩ = some (.int .i64 tx) := by rw [hW]; exact box_at _ _ _ _ _ rfl
    have a1 : W.cell? ⟨w.heap.size, 1, none⟩ = some (.int .i64 kd) := by rw [hW]; exact box_at _ _ _ _ _ rfl
    have a2 : W.cell? ⟨w.heap.size, 2, none⟩ = some (.int .i64 it) := by rw [hW]; exact box_at _ _ _ _ _ rfl
    exact ⟨Later.cell a0 ⟨u, hu⟩, Later.cell a1 ⟨u, hu⟩, Later.cell a2 ⟨u, hu⟩⟩
  have HCW := Lib.hid hcW
  have HBW := Lib.hid hbW
  have HW := Lib.hid hW
  clear hx hv ho hh hil hW hbW hcW
  have hin : (i : Int) < (n : Int) := by omega
  have hi0 : (0 : Int) ≤ (i : Int) := by omega
  by_cases k0 : kd = 0
  · subst k0
    have hib : illB (st.take i) ⟨tx, 0, it⟩ = (decide (0 ≤ h) || othersB (st.take i) tx it 1) := by unfold illB; simp only [if_true]; rw [HH.out]
    have HIB : Hid (illAtB st i = (decide (0 ≤ h) || othersB (st.take i) tx it 1)) := HIL.out.trans hib
    clear hib
    by_cases h0 : 0 ≤ h
    · go_enter Try.func84, Try.ntmps84
      go_wp2_with (go_at_call 81; go_loud (rw [← HW.out]; refine (held_any (some ⟨b, off, none⟩) n c st i tx it W (HX.out.below HBW.out (Nat.le_refl _)) (Nat.le_of_lt hi)).mono ?_; rintro e w2 ⟨rfl, hb2⟩; rw [HH.out]; have hsz2 := hb2.size; obtain ⟨e0, e1, e2⟩ := HCW.out _ hb2; clear c0 c1 c2))
      go_ret
      exact ⟨ret_bool (by rw [HIB.out, show decide (0 ≤ h) = true by simp [h0]]; rfl), HBW.out.trans (hb2.mono HBW.out.size)⟩
    · have hdf : decide (0 ≤ h) = false := by simp; omega
      go_enter Try.func84, Try.ntmps84
      go_wp2_with (go_at_call 81; go_loud (rw [← HW.out]; refine (held_any (some ⟨b, off, none⟩) n c st i tx it W (HX.out.below HBW.out (Nat.le_refl _)) (Nat.le_of_lt hi)).mono ?_; rintro e w2 ⟨rfl, hb2⟩; rw [HH.out]; have hsz2 := hb2.size; obtain ⟨e0, e1, e2⟩ := HCW.out _ hb2; clear c0 c1 c2))
      go_loopw [7] (fun v wr => ∃ k : Nat, k ≤ 4 ∧ v = .int .i64 k ∧ Below W.heap.size W wr ∧ othTo (st.take i) tx it 1 k = false) (fun i _ => 4 - (intOf i).toNat)
      case atStart => exact ⟨0, by omega, rfl, hb2, rfl⟩
      case round =>
        obtain ⟨k, hk, rfl, hbr, hno⟩ := hrel
        by_cases hlt : k < 4
        · have hs := othTo_succ (st.take i) tx it 1 k
          obtain ⟨g, hg⟩ : ∃ g, heldI (st.take i) (k : Int) it = g := ⟨_, rfl⟩
          rw [hg] at hs
          have HG := Lib.hid hg
          have hle := HV.out i (k : Int) it
          rw [hg] at hle
          obtain ⟨a0, a1, a2⟩ := HCW.out _ hbr
          have hszr := hbr.size
          have hl4 : (k : Int) < 4 := by omega
          by_cases et : (k : Int) = tx
          · have hs2 : othTo (st.take i) tx it 1 (k + 1) = false := by rw [hs, hno, show ((k : Int) != tx) = false by simp [et]]; rfl
            have HS2 := Lib.hid hs2
            have hb1 : ((k : Int) != tx) = false := by simp [et]
            clear hs hno hs2 hg et hle
            go_wp2_with fail
            go_roundw
            case rel => exact ⟨k + 1, by omega, by go_num, hbr, HS2.out⟩
            case measure => simp [intOf]; omega
          · have hb1 : ((k : Int) != tx) = true := by simp [et]
            by_cases eg : 1 ≤ g
            · have hhit : othersB (st.take i) tx it 1 = true := othTo_hit hlt (by rw [hg, hb1]; simp [eg])
              have HHIT := Lib.hid hhit
              have hg1 : g = 1 := by omega
              subst hg1
              clear hs hno hhit hg hle
              go_wp2_with (go_at_call 81; go_loud (refine (held_any (some ⟨b, off, none⟩) n c st i (k : Int) it wr (HX.out.below (HBW.out.trans (hbr.mono HBW.out.size)) (Nat.le_refl _)) (Nat.le_of_lt hi)).mono ?_; rintro e w3 ⟨rfl, hb3⟩; rw [HG.out]))
              go_ret
              exact ⟨ret_bool (by rw [HIB.out, HHIT.out]; simp), HBW.out.trans ((hbr.trans (hb3.mono hszr)).mono HBW.out.size)⟩
            · have hs2 : othTo (st.take i) tx it 1 (k + 1) = false := by rw [hs, hno, show decide (1 ≤ g) = false by simp; omega]; simp
              have HS2 := Lib.hid hs2
              have hg1 : (g == 1) = false := by simp; omega
              clear hs hno hs2 hg hle
              go_wp2_with (go_at_call 81; go_loud (refine (held_any (some ⟨b, off, none⟩) n c st i (k : Int) it wr (HX.out.below (HBW.out.trans (hbr.mono HBW.out.size)) (Nat.le_refl _)) (Nat.le_of_lt hi)).mono ?_; rintro e w3 ⟨rfl, hb3⟩; rw [HG.out]))
              go_roundw
              case rel => exact ⟨k + 1, by omega, by go_num, hbr.trans (hb3.mono hszr), HS2.out⟩
              case measure => simp [intOf]; omega
        · obtain rfl : k = 4 := by omega
          rw [othTo_four] at hno
          have HNO := Lib.hid hno
          clear hno
          go_wp2_with fail
          go_ret
          exact ⟨ret_bool (by rw [HIB.out, hdf, HNO.out]; rfl), HBW.out.trans (hbr.mono HBW.out.size)⟩
  · by_cases k1 : kd = 1
    · subst k1
      have hib : illB (st.take i) ⟨tx, 1, it⟩ = (h == 1 || othersB (st.take i) tx it 0) := by unfold illB; simp only [show ¬ ((1 : Int) = 0) by omega, if_true, if_false]; rw [HH.out]
      have HIB : Hid (illAtB st i = (h == 1 || othersB (st.take i) tx it 0)) := HIL.out.trans hib
      clear hib
      by_cases h0 : h = 1
      · go_enter Try.func84, Try.ntmps84
        go_wp2_with (go_at_call 81; go_loud (rw [← HW.out]; refine (held_any (some ⟨b, off, none⟩) n c st i tx it W (HX.out.below HBW.out (Nat.le_refl _)) (Nat.le_of_lt hi)).mono ?_; rintro e w2 ⟨rfl, hb2⟩; rw [HH.out]; have hsz2 := hb2.size; obtain ⟨e0, e1, e2⟩ := HCW.out _ hb2; clear c0 c1 c2))
        go_ret
        exact ⟨ret_bool (by rw [HIB.out, show (h == 1) = true by simp [h0]]; rfl), HBW.out.trans (hb2.mono HBW.out.size)⟩
      · have hdf : (h == 1) = false := by simp [h0]
        go_enter Try.func84, Try.ntmps84
        go_wp2_with (go_at_call 81; go_loud (rw [← HW.out]; refine (held_any (some ⟨b, off, none⟩) n c st i tx it W (HX.out.below HBW.out (Nat.le_refl _)) (Nat.le_of_lt hi)).mono ?_; rintro e w2 ⟨rfl, hb2⟩; rw [HH.out]; have hsz2 := hb2.size; obtain ⟨e0, e1, e2⟩ := HCW.out _ hb2; clear c0 c1 c2))
        go_loopw [8] (fun v wr => ∃ k : Nat, k ≤ 4 ∧ v = .int .i64 k ∧ Below W.heap.size W wr ∧ othTo (st.take i) tx it 0 k = false) (fun i _ => 4 - (intOf i).toNat)
        case atStart => exact ⟨0, by omega, rfl, hb2, rfl⟩
        case round =>
          obtain ⟨k, hk, rfl, hbr, hno⟩ := hrel
          by_cases hlt : k < 4
          · have hs := othTo_succ (st.take i) tx it 0 k
            obtain ⟨g, hg⟩ : ∃ g, heldI (st.take i) (k : Int) it = g := ⟨_, rfl⟩
            rw [hg] at hs
            have HG := Lib.hid hg
            have hle := HV.out i (k : Int) it
            rw [hg] at hle
            obtain ⟨a0, a1, a2⟩ := HCW.out _ hbr
            have hszr := hbr.size
            have hl4 : (k : Int) < 4 := by omega
            by_cases et : (k : Int) = tx
            · have hs2 : othTo (st.take i) tx it 0 (k + 1) = false := by rw [hs, hno, show ((k : Int) != tx) = false by simp [et]]; rfl
              have HS2 := Lib.hid hs2
              have hb1 : ((k : Int) != tx) = false := by simp [et]
              clear hs hno hs2 hg et hle
              go_wp2_with fail
              go_roundw
              case rel => exact ⟨k + 1, by omega, by go_num, hbr, HS2.out⟩
              case measure => simp [intOf]; omega
            · have hb1 : ((k : Int) != tx) = true := by simp [et]
              by_cases eg : 0 ≤ g
              · have hhit : othersB (st.take i) tx it 0 = true := othTo_hit hlt (by rw [hg, hb1]; simp [eg])
                have HHIT := Lib.hid hhit
                skip
                skip
                clear hs hno hhit hg hle
                go_wp2_with (go_at_call 81; go_loud (refine (held_any (some ⟨b, off, none⟩) n c st i (k : Int) it wr (HX.out.below (HBW.out.trans (hbr.mono HBW.out.size)) (Nat.le_refl _)) (Nat.le_of_lt hi)).mono ?_; rintro e w3 ⟨rfl, hb3⟩; rw [HG.out]))
                go_ret
                exact ⟨ret_bool (by rw [HIB.out, HHIT.out]; simp), HBW.out.trans ((hbr.trans (hb3.mono hszr)).mono HBW.out.size)⟩
              · have hs2 : othTo (st.take i) tx it 0 (k + 1) = false := by rw [hs, hno, show decide (0 ≤ g) = false by simp; omega]; simp
                have HS2 := Lib.hid hs2
                have hg1 : decide (0 ≤ g) = false := by simp; omega
                clear hs hno hs2 hg hle
                go_wp2_with (go_at_call 81; go_loud (refine (held_any (some ⟨b, off, none⟩) n c st i (k : Int) it wr (HX.out.below (HBW.out.trans (hbr.mono HBW.out.size)) (Nat.le_refl _)) (Nat.le_of_lt hi)).mono ?_; rintro e w3 ⟨rfl, hb3⟩; rw [HG.out]))
                go_roundw
                case rel => exact ⟨k + 1, by omega, by go_num, hbr.trans (hb3.mono hszr), HS2.out⟩
                case measure => simp [intOf]; omega
          · obtain rfl : k = 4 := by omega
            rw [othTo_four] at hno
            have HNO := Lib.hid hno
            clear hno
            go_wp2_with fail
            go_ret
            exact ⟨ret_bool (by rw [HIB.out, hdf, HNO.out]; rfl), HBW.out.trans (hbr.mono HBW.out.size)⟩
    · by_cases k4 : kd = 4
      · subst k4
        have hib : illB (st.take i) ⟨tx, 4, it⟩ = (h != 1) := by unfold illB; simp only [show ¬ ((4 : Int) = 0) by omega, show ¬ ((4 : Int) = 1) by omega, if_true, if_false]; rw [HH.out]
        have HIB : Hid (illAtB st i = (h != 1)) := HIL.out.trans hib
        clear hib
        go_enter Try.func84, Try.ntmps84
        go_wp2_with (go_at_call 81; go_loud (rw [← HW.out]; refine (held_any (some ⟨b, off, none⟩) n c st i tx it W (HX.out.below HBW.out (Nat.le_refl _)) (Nat.le_of_lt hi)).mono ?_; rintro e w2 ⟨rfl, hb2⟩; rw [HH.out]; have hsz2 := hb2.size; obtain ⟨e0, e1, e2⟩ := HCW.out _ hb2; clear c0 c1 c2))
        go_ret
        exact ⟨ret_bool HIB.out.symm, HBW.out.trans (hb2.mono HBW.out.size)⟩
      · have hib : illB (st.take i) ⟨tx, kd, it⟩ = decide (h < 0) := by unfold illB; simp only [k0, k1, k4, if_false]; rw [HH.out]
        have HIB : Hid (illAtB st i = decide (h < 0)) := HIL.out.trans hib
        clear hib
        go_enter Try.func84, Try.ntmps84
        go_wp2_with (go_at_call 81; go_loud (rw [← HW.out]; refine (held_any (some ⟨b, off, none⟩) n c st i tx it W (HX.out.below HBW.out (Nat.le_refl _)) (Nat.le_of_lt hi)).mono ?_; rintro e w2 ⟨rfl, hb2⟩; rw [HH.out]; have hsz2 := hb2.size; obtain ⟨e0, e1, e2⟩ := HCW.out _ hb2; clear c0 c1 c2))
        go_ret
        exact ⟨ret_bool HIB.out.symm, HBW.out.trans (hb2.mono HBW.out.size)⟩
end Go.Proofs.Ytcakjhappchlmaa
namespace Go.Proofs.Ytcakjhappchlmaa
open Go.RowKit Go.BigFrame
set_option linter.unusedVariables false

section
variable {w : World} {ops : Array Oper} {o : Oper} {a : Act} {K : Act → World → Prop} {Q : Exit → Act → World → Prop} {E : Prop}
/-- append of steps at a guarded step of a drawn region. -/
theorem stepw_steps (hw : Region.wanted o (yielded ops a.tmps) = true) (s x : Operand) {base : Nat} {v : Value} {n : Nat} {xs : List OpV} (hown : w.ownsRow base 31 3 v n (opCells xs)) (hbase : base ≤ w.heap.size)
    {A : Option Addr} {m c : Nat} {ys : List OpV} (hr : ROps w A m ys) (hn : n ≤ 1099511627776)
    (ho : o.op = .call { callee := .builtin .append, args := #[s, x], argTypes := #[23, 23] }) (hs : a.eval s = v) (hx : a.eval x = .slice A m c)
    (h : ∀ v' w', w'.ownsRow base 31 3 v' (n + m) (opCells (xs ++ ys)) → w.grownBy w' v.ownBlock → (v'.ownBlock = v.ownBlock ∨ v'.ownBlock = some w.heap.size) → K (a.put o.dst v') w') :
    if Region.wanted o (yielded ops a.tmps) = true then Oper.wp Try.prog o a w K Q else E := by
  rw [if_pos hw]
  obtain ⟨i0, hi, hz0, hz1, hz2⟩ := info_parts stepInfo
  have hm := hr.2.1
  obtain ⟨v', w', hrun, h2, h3, h4⟩ := run_app (P := Try.prog) base 23 o.type _ i0 _ 3 24 Try.underlying23 hi hz0 hz1 hz2 rfl (by decide) v n _ hown A m c _ hr.src (by simp only [maxLen]; omega) (by omega) hbase
  unfold Oper.wp execOp
  simp only [ho, resolve, invoke, builtin, Sem.run_bind, Sem.run_pure, Result.andThen_ok, List.map_toArray, List.map_cons, List.map_nil, hs, hx, hrun]
  rw [← opCells_append] at h2
  exact h v' w' h2 h3 h4
end
theorem heldI_le1 (st : List OpV) (t x : Int) : heldI st t x ≤ 1 := by
  have : ∀ (l : List OpV) (a : Int), a ≤ 1 → l.foldl (hStep t x) a ≤ 1 := by
    intro l
    induction l with
    | nil => exact fun a h => h
    | cons s r ih =>
      intro a h
      rw [List.foldl_cons]
      refine ih _ ?_
      unfold hStep
      split
      · split
        · omega
        · split <;> omega
      · exact h
  exact this st (-1) (by omega)
theorem lkStep_len (L : List OpV) (o : OpV) : (lkStep L o).length ≤ L.length + 3 := by
  unfold lkStep
  split
  · exact dropL_len L o.tx
  · split <;> simp
theorem locksS_len (s : List OpV) : (locksS s).length ≤ 3 * s.length := by
  have : ∀ (l : List OpV) (L : List OpV), (l.foldl lkStep L).length ≤ L.length + 3 * l.length := by
    intro l
    induction l with
    | nil => intro L; simp
    | cons o r ih =>
      intro L
      rw [List.foldl_cons, List.length_cons]
      have h1 := ih (lkStep L o)
      have h2 := lkStep_len L o
      omega
  have h := this s []
  simpa [locksS] using h
theorem locks_len (s : List OpV) : (orNil (validS s && decide (s.length ≤ 12)) (locksS s)).length ≤ 36 := by
  cases hb : (validS s && decide (s.length ≤ 12))
  · simp [orNil]
  · have := locksS_len s
    rw [Bool.and_eq_true, decide_eq_true_eq] at hb
    show (locksS s).length ≤ 36
    omega
/-- Two new blocks: an empty row and a step. -/
structure Lit2 (wp W : World) (gr gl : Nat) (o : OpV) : Prop where
  row : W.ownsRow wp.heap.size 31 3 (.slice (some ⟨gr, 0, none⟩) 0 0) 0 (opCells [])
  lit : ROps W (some ⟨gl, 0, none⟩) 1 [o]
  ne : gl ≠ gr
  below : Below wp.heap.size wp W
theorem lit2_b (wp : World) (o : OpV) : Lit2 wp ((wp.alloc (.cells #[] 31)).alloc (.cells #[.int .i64 o.tx, .int .i64 o.kind, .int .i64 o.item] 31)) wp.heap.size (wp.heap.size + 1) o :=
  ⟨(World.ownsRow_made wp #[] 0 (Nat.le_refl _) (by decide) rfl).alloc _, ROps.litH (by simp) o _, by omega, ((Below.refl _ wp).alloc (Nat.le_refl _) _).alloc (by simp) _⟩
theorem lit2_c (wp : World) (o : OpV) : Lit2 wp ((wp.alloc (.cells #[.int .i64 o.tx, .int .i64 o.kind, .int .i64 o.item] 31)).alloc (.cells #[] 31)) (wp.heap.size + 1) wp.heap.size o := by
  refine ⟨?_, (ROps.lit1 wp o _).below ((Below.refl _ _).alloc (Nat.le_refl _) _) (Nat.le_refl _), by omega, ((Below.refl _ wp).alloc (Nat.le_refl _) _).alloc (by simp) _⟩
  have h := World.ownsRow_made (base := wp.heap.size) (e := 31) (size := 3) (wp.alloc (.cells #[.int .i64 o.tx, .int .i64 o.kind, .int .i64 o.item] 31)) #[] 0 (by simp) (by decide) rfl
  rw [World.size_alloc] at h
  exact h
theorem Lit2.grown {wp W W' : World} {gr gl : Nat} {o : OpV} (h : Lit2 wp W gr gl o) (hg : W.grownBy W' (Value.slice (some ⟨gr, 0, none⟩) 0 0).ownBlock) : ROps W' (some ⟨gl, 0, none⟩) 1 [o] :=
  h.lit.grown hg fun b hb e => by injection hb with hb; subst hb; injection e with e; exact h.ne e.symm

theorem own_cells3S {w : World} {L n c g : Nat} {xs : List OpV} (hown : w.ownsRow L 31 3 (.slice (some ⟨g, 0, none⟩) n c) n (opCells xs)) {i : Nat} (hi : i < n) : ∃ o : OpV,
    w.cell? ⟨g, i * 3, none⟩ = some (.int .i64 o.tx) ∧ w.cell? ⟨g, i * 3 + 1, none⟩ = some (.int .i64 o.kind) ∧ w.cell? ⟨g, i * 3 + 2, none⟩ = some (.int .i64 o.item) := by
  have hl := own_lenOps hown
  have e : xs[i]? = some (xs[i]'(by omega)) := List.getElem?_eq_getElem (by omega)
  obtain ⟨c0, c1, c2⟩ := opCells_at xs i _ e
  have hc : ∀ j u, (opCells xs)[j]? = some u → w.cell? ⟨g, j, none⟩ = some u := fun j u hu => by
    have := hown.cells (g := g) rfl j u hu
    rw [addr_add, Nat.zero_add] at this
    exact this
  exact ⟨_, hc _ _ c0, hc _ _ c1, hc _ _ c2⟩
/-- What the generator keeps. -/
structure StG (w0 : World) (rb Q : Nat) (v : Value) (m : Nat) (w : World) : Prop where
  row : ∃ xs, w.ownsRow w0.heap.size 31 3 v m (opCells xs)
  rd : ∃ p, Rd w rb p ∧ p ≤ Q
  only : Only rb w0 w
/-- What the generator hands back. -/
def SomeSt (w0 : World) (rb : Nat) (e : Ending) (w : World) : Prop :=
  ∃ (A : Option Addr) (m c p : Nat) (xs : List OpV), e = .returned (.slice A m c) ∧ m ≤ c ∧ m ≤ 40 ∧ ROps w A m xs ∧ Rd w rb p ∧ p ≤ 60000 ∧ Only rb w0 w ∧ ∀ ad, A = some ad → w0.heap.size ≤ ad.block
theorem StG.done {w0 w : World} {rb Q m c : Nat} {A : Option Addr} (h : StG w0 rb Q (.slice A m c) m w) (hm : m ≤ 40) (hc : m ≤ c) (hQ : Q ≤ 60000) : SomeSt w0 rb (.returned (.slice A m c)) w := by
  obtain ⟨⟨xs, hr⟩, ⟨p, hp, hpq⟩, ho⟩ := h
  refine ⟨A, m, c, p, xs, rfl, hc, hm, ROps.of_own hr (by omega), hp, by omega, ho, fun ad had => ?_⟩
  subst had
  exact (World.ownsRow.lt hr ad.block rfl).1
theorem StG.tail {w0 w : World} {rb Q m c : Nat} {A : Option Addr} (h : StG w0 rb Q (.slice A m c) m w) (hm : m ≤ 40) (h1 : 1 < m) (hc : m ≤ c) (hQ : Q ≤ 60000) : SomeSt w0 rb (.returned (.slice (if c = 1 then A else A.map (·.add 3)) (m - 1) (c - 1))) w := by
  obtain ⟨⟨xs, hr⟩, ⟨p, hp, hpq⟩, ho⟩ := h
  have hd := (ROps.of_own hr (by omega)).drop (k := 1) (c := c) (by omega) hc
  refine ⟨_, m - 1, c - 1, p, _, rfl, by omega, by omega, hd, hp, by omega, ho, fun ad had => ?_⟩
  rw [if_neg (by omega)] at had
  obtain ⟨a, rfl, rfl⟩ := Option.map_eq_some_iff.1 had
  have := (World.ownsRow.lt hr a.block rfl).1
  simpa [Addr.add] using (by first | exact this | (split <;> exact this))
theorem StG.tailG {w0 w : World} {rb Q m c g : Nat} (h : StG w0 rb Q (.slice (some ⟨g, 0, none⟩) m c) m w) (hm : m ≤ 40) (h1 : 1 < m) (hc : m ≤ c) (hQ : Q ≤ 60000) : SomeSt w0 rb (.returned (.slice (some ⟨g, 3, none⟩) (m - 1) (c - 1))) w := by
  have := h.tail hm h1 hc hQ
  rw [if_neg (by omega)] at this
  exact this
theorem StG.step {w0 w w' : World} {rb Q Q' p m : Nat} {v : Value} (h : StG w0 rb Q v m w) (hr : Rd w' rb p) (hp : p ≤ Q') (ho : Only rb w w') (hrb : rb < w0.heap.size) : StG w0 rb Q' v m w' := by
  obtain ⟨⟨xs, hx⟩, _, hO⟩ := h
  exact ⟨⟨xs, own_only hx ho hrb⟩, ⟨p, hr, hp⟩, hO.trans ho⟩
theorem StG.mono {w0 w : World} {rb Q Q' m : Nat} {v : Value} (h : StG w0 rb Q v m w) (hq : Q ≤ Q') : StG w0 rb Q' v m w := by
  obtain ⟨hx, ⟨p, hr, hp⟩, hO⟩ := h
  exact ⟨hx, ⟨p, hr, Nat.le_trans hp hq⟩, hO⟩
theorem StG.below {w0 w w' : World} {rb Q m : Nat} {v : Value} (h : StG w0 rb Q v m w) (hb : Below w.heap.size w w') : StG w0 rb Q v m w' := by
  obtain ⟨⟨xs, hx⟩, ⟨p, hr, hp⟩, hO⟩ := h
  exact ⟨⟨xs, own_below hx hb⟩, ⟨p, hr.below hb, hp⟩, hO.trans (Only.of_below hb)⟩
theorem StG.alloc {w0 w : World} {rb Q m : Nat} {v : Value} (h : StG w0 rb Q v m w) (o : Obj) : StG w0 rb Q v m (w.alloc o) := by
  obtain ⟨⟨xs, hx⟩, ⟨p, hr, hp⟩, hO⟩ := h
  exact ⟨⟨xs, hx.alloc _⟩, ⟨p, hr.alloc _, hp⟩, hO.alloc _⟩
theorem StG.lt {w0 w : World} {rb Q m : Nat} {v : Value} (h : StG w0 rb Q v m w) : w0.heap.size ≤ w.heap.size := h.only.size
/-- A store into the row. -/
theorem StG.put {w0 w : World} {rb Q m c g : Nat} (h : StG w0 rb Q (.slice (some ⟨g, 0, none⟩) m c) m w) (hrb : rb < w0.heap.size) {i : Nat} (hi : i < m) (v : Int) :
    StG w0 rb Q (.slice (some ⟨g, 0, none⟩) m c) m (w.setCell ⟨g, i * 3, none⟩ (.int .i64 v)) ∧ StG w0 rb Q (.slice (some ⟨g, 0, none⟩) m c) m (w.setCell ⟨g, i * 3 + 1, none⟩ (.int .i64 v)) := by
  obtain ⟨⟨xs, hown⟩, ⟨p, hr, hpq⟩, hO⟩ := h
  have hl := own_lenOps hown
  have e : xs[i]? = some (xs[i]'(by omega)) := List.getElem?_eq_getElem (by omega)
  have hset := opCells_set xs i _ e v
  have hg := World.ownsRow.lt hown g rfl
  have hk : ∀ j, Rd (w.setCell ⟨g, j, none⟩ (.int .i64 v)) rb p ∧ Only rb w0 (w.setCell ⟨g, j, none⟩ (.int .i64 v)) := fun j =>
    ⟨hr.grown (hown.stored j _).2 fun k hk => by injection hk with hk; omega, hO.grown (hown.stored j _).2 fun k hk => by injection hk with hk; omega⟩
  have h0 := (hown.stored (i * 3) (.int .i64 v)).1
  have h1 := (hown.stored (i * 3 + 1) (.int .i64 v)).1
  rw [hset.1] at h0
  rw [hset.2.1] at h1
  exact ⟨⟨⟨_, h0⟩, ⟨p, (hk _).1, hpq⟩, (hk _).2⟩, ⟨⟨_, h1⟩, ⟨p, (hk _).1, hpq⟩, (hk _).2⟩⟩
end Go.Proofs.Ytcakjhappchlmaa
namespace Go.Proofs.Ytcakjhappchlmaa
open Go.RowKit Go.BigFrame
set_option linter.unusedVariables false

theorem lit2 {w : World} {H : Nat} (hH : w.heap.size = H) (a b : Int) : RInts (w.alloc (.cells #[.int .i64 a, .int .i64 b] 3)) (some ⟨H, 0, none⟩) 2 [a, b] := by subst hH; exact RInts.lit w [a, b] _ (by simp)
set_option maxRecDepth 100000 in
set_option maxHeartbeats 4000000 in
theorem someSteps_any (rb p : Nat) (w : World) (h : Rd w rb p) (hp : p ≤ 100) :
    Calls Try.prog 71 #[.pointer (some ⟨rb, 0, none⟩)] w (SomeSt w rb) := by
  have hlt := h.lt
  go_enter Try.func71, Try.ntmps71
  go_wp2_with fail
  refine (pick_any rb p 3 _ (h.alloc _) (by omega) (by omega)).mono ?_
  rintro e w2 ⟨sw, rfl, hr2, _, hsw, ho2⟩
  have hO2 : Only rb w w2 := ((Only.refl rb w).alloc _).trans ho2
  have hlt2 := hr2.lt
  have hs2 := hO2.size
  have HST0 : Hid (StG w rb (p + 1) (.slice (some ⟨w.heap.size, 0, none⟩) 0 0) 0 w2) := ⟨⟨[], own_only (World.ownsRow_made w #[] 0 (Nat.le_refl _) (by decide) rfl) ho2 hlt⟩, ⟨_, hr2, Nat.le_refl _⟩, hO2⟩
  clear ho2
  by_cases s0 : sw = 0
  · subst s0
    go_wp2_with fail
    refine (goodScheduleL_any rb (p + 1) 12 w2 hr2 (by omega) (by omega)).mono ?_
    rintro e w3 ⟨v, n, xs, q, rfl, hown, hn, hr3, hq, hO3⟩
    obtain ⟨A, c, rfl, hnc⟩ := own_form2 hown
    have hO := hO2.trans hO3
    have hs3 := hO.size
    go_wp2_with fail
    refine (sLocksOf_any A n c xs w3 (ROps.of_own hown (by omega))).mono ?_
    rintro e w4 ⟨v4, rfl, hown4, hb4⟩
    have hm36 := locks_len xs
    generalize orNil (validS xs && decide (xs.length ≤ 12)) (locksS xs) = YS at *
    obtain ⟨m, hm⟩ : ∃ m, YS.length = m := ⟨_, rfl⟩
    rw [hm] at hown4 hm36
    obtain ⟨A4, c4, rfl, hmc⟩ := own_form2 hown4
    have HSG : Hid (StG w rb 20000 (.slice A4 m c4) m w4) := ⟨⟨YS, own_base hown4 hs3⟩, ⟨q, hr3.below hb4, hq⟩, hO.trans (Only.of_below hb4)⟩
    have hm40 : m ≤ 40 := by omega
    clear hown hown4 hb4 hr3 hO hO3 hm HST0 hr2 hO2 h
    obtain ⟨p2, hr2', hp2⟩ := HSG.out.rd
    go_wp2_with fail
    refine (pick_any rb p2 30 _ hr2' (by omega) (by omega)).mono ?_
    rintro e wy ⟨kk, rfl, hry, _, _, hoy⟩
    have HSY := Lib.hid (HSG.out.step hry (Nat.succ_le_succ hp2) hoy hlt)
    clear HSG hr2' hry hoy
    by_cases k0 : kk = 0
    · subst k0
      by_cases hm0 : 0 < m
      · obtain ⟨xs0, hx0⟩ := HSY.out.row
        obtain ⟨g, c', hve, hg1, hg2⟩ := own_block hx0 hm0
        injection hve with hA _ hc
        subst hA; subst hc
        go_wp2_with fail
        obtain ⟨p3, hr3, hp3⟩ := HSY.out.rd
        refine (pick_any rb p3 _ _ hr3 (by omega) (by omega)).mono ?_
        rintro e wz ⟨i, rfl, hrz, _, hi, hoz⟩
        obtain ⟨hi0, hi1⟩ := hi (by omega)
        obtain ⟨i, rfl⟩ := Int.eq_ofNat_of_zero_le hi0
        have HSZ := HSY.out.step hrz (Nat.succ_le_succ hp3) hoz hlt
        have hltz := hrz.lt
        go_wp2_with fail
        refine (one_any rb _ _ _ _ _ _ (hrz.alloc _) (by omega) (lit3 rfl 5 (-1) 2) (by omega) (far_lit hltz)).mono ?_
        rintro e wv ⟨v, rfl, _, hrv, hov⟩
        have HSV := (HSZ.alloc _).step hrv (Nat.succ_le_succ (Nat.succ_le_succ hp3)) hov hlt
        obtain ⟨xs4, hx4⟩ := HSV.row
        obtain ⟨o4, d0, d1, d2⟩ := own_cells3S hx4 (i := i) (by omega)
        have hf := hx4.frozenAt (i * 3 + 1)
        have HE := Lib.hid (((HSV.put hlt (i := i) (by omega) v).2).done hm40 hmc (by omega))
        clear hx0 hx4 HSZ HSV
        go_wp2_with fail
        go_ret
        exact HE.out
      · have hm1 : m = 0 := by omega
        have HE := Lib.hid (HSY.out.done hm40 hmc (by omega))
        (try subst hm1)
        go_wp2_with fail
        go_ret
        exact HE.out
    · by_cases k1 : kk = 1
      · subst k1
        by_cases hm0 : 0 < m
        · obtain ⟨xs0, hx0⟩ := HSY.out.row
          obtain ⟨g, c', hve, hg1, hg2⟩ := own_block hx0 hm0
          injection hve with hA _ hc
          subst hA; subst hc
          go_wp2_with fail
          obtain ⟨p3, hr3, hp3⟩ := HSY.out.rd
          refine (pick_any rb p3 _ _ hr3 (by omega) (by omega)).mono ?_
          rintro e wz ⟨i, rfl, hrz, _, hi, hoz⟩
          obtain ⟨hi0, hi1⟩ := hi (by omega)
          obtain ⟨i, rfl⟩ := Int.eq_ofNat_of_zero_le hi0
          have HSZ := HSY.out.step hrz (Nat.succ_le_succ hp3) hoz hlt
          have hltz := hrz.lt
          go_wp2_with fail
          refine (one_any rb _ _ _ _ _ _ (hrz.alloc _) (by omega) (lit2 rfl 4 (-1)) (by omega) (far_lit hltz)).mono ?_
          rintro e wv ⟨v, rfl, _, hrv, hov⟩
          have HSV := (HSZ.alloc _).step hrv (Nat.succ_le_succ (Nat.succ_le_succ hp3)) hov hlt
          obtain ⟨xs4, hx4⟩ := HSV.row
          obtain ⟨o4, d0, d1, d2⟩ := own_cells3S hx4 (i := i) (by omega)
          have hf := hx4.frozenAt (i * 3)
          have HE := Lib.hid (((HSV.put hlt (i := i) (by omega) v).1).done hm40 hmc (by omega))
          clear hx0 hx4 HSZ HSV
          go_wp2_with fail
          go_ret
          exact HE.out
        · have hm1 : m = 0 := by omega
          have HE := Lib.hid (HSY.out.done hm40 hmc (by omega))
          (try subst hm1)
          go_wp2_with fail
          go_ret
          exact HE.out
      · by_cases k2 : kk = 2
        · subst k2
          by_cases hm1 : 1 < m
          · obtain ⟨xs0, hx0⟩ := HSY.out.row
            obtain ⟨g, c', hve, hg1, hg2⟩ := own_block hx0 (by omega)
            injection hve with hA _ hc
            subst hA; subst hc
            clear hx0
            have HE := Lib.hid (HSY.out.tailG hm40 hm1 hmc (by omega))
            have hm2 : 1 ≤ c4 := by omega
            have hm3 : ¬ c4 = 1 := by omega
            go_wp2_with fail
            go_ret
            exact HE.out
          · have HE := Lib.hid (HSY.out.done hm40 hmc (by omega))
            go_wp2_with fail
            go_ret
            exact HE.out
        · have HE := Lib.hid (HSY.out.done hm40 hmc (by omega))
          go_wp2_with fail
          go_ret
          exact HE.out
  · by_cases s1 : sw = 1
    · subst s1
      go_wp2_with fail
      refine (goodScheduleL_any rb (p + 1) 10 w2 hr2 (by omega) (by omega)).mono ?_
      rintro e w3 ⟨v, n, xs, q, rfl, hown, hn, hr3, hq, hO3⟩
      obtain ⟨A, c, rfl, hnc⟩ := own_form2 hown
      have hO := hO2.trans hO3
      have hs3 := hO.size
      have hrl := runLocks_die A n c xs w3 (ROps.of_own hown (by omega)) (by omega) (fun N hN => resume_die N hN)
      unfold Rul.str at hrl
      simp only at hrl
      have hbn := (runD_facts (r := .die) (s := xs) (fun h => by cases h) xs.length).1
      rw [List.take_length, own_lenOps hown] at hbn
      have HRL := Lib.hid hrl
      have HBN := Lib.hid hbn
      clear hrl hbn
      go_wp2_with fail
      refine HRL.out.mono ?_
      rintro e w3' ⟨V, rfl, hD, hb3⟩
      obtain ⟨Ad, Aw, Al, Ak, nd, nw, nl, nk, cd, cw, cl, ck, rfl, hcs, h1, h2, h3, h4⟩ := hD.forms
      have hnd := HBN.out.done
      have hro : ROps w3' Ad nd (runD .die xs).done := ROps.of_own (hD.doneN h1) (by omega)
      have HRO := Lib.hid hro
      have hO' := hO.trans (Only.of_below hb3)
      have hs3' := hO'.size
      have hr3' := hr3.below hb3
      have HLO := Lib.hid (sLocksOf_any Ad nd cd _ w3' hro)
      clear hD hro hb3 hO hr3 hown hnd h1 h2 h3 h4
      have hfd : ∀ W : World, (Instr.field 68 (.agg #[.slice Ad nd cd, .slice Aw nw cw, .slice Al nl cl, .slice Ak nk ck]) 0).run Try.prog W = .ok (.slice Ad nd cd) W := fun _ => by kernel_rfl
      unfold DV.val
      simp only
      go_wp2_with fail
      clear hfd
      refine HLO.out.mono ?_
      rintro e w4 ⟨v4, rfl, hown4, hb4⟩
      have hm36 := locks_len (runD .die xs).done
      generalize orNil (validS (runD .die xs).done && decide ((runD .die xs).done.length ≤ 12)) (locksS (runD .die xs).done) = YS at *
      obtain ⟨m, hm⟩ : ∃ m, YS.length = m := ⟨_, rfl⟩
      rw [hm] at hown4 hm36
      obtain ⟨A4, c4, rfl, hmc⟩ := own_form2 hown4
      have HSG : Hid (StG w rb 20000 (.slice A4 m c4) m w4) := ⟨⟨YS, own_base hown4 hs3'⟩, ⟨q, hr3'.below hb4, hq⟩, hO'.trans (Only.of_below hb4)⟩
      have hm40 : m ≤ 40 := by omega
      clear hown4 hb4 hr3' hO' hO3 hm HST0 hr2 hO2 h HLO HRO HRL HBN
      obtain ⟨p2, hr2', hp2⟩ := HSG.out.rd
      go_wp2_with fail
      refine (pick_any rb p2 30 _ hr2' (by omega) (by omega)).mono ?_
      rintro e wy ⟨kk, rfl, hry, _, _, hoy⟩
      have HSY := Lib.hid (HSG.out.step hry (Nat.succ_le_succ hp2) hoy hlt)
      clear HSG hr2' hry hoy
      by_cases k0 : kk = 0
      · subst k0
        by_cases hm0 : 0 < m
        · obtain ⟨xs0, hx0⟩ := HSY.out.row
          obtain ⟨g, c', hve, hg1, hg2⟩ := own_block hx0 hm0
          injection hve with hA _ hc
          subst hA; subst hc
          go_wp2_with fail
          obtain ⟨p3, hr3, hp3⟩ := HSY.out.rd
          refine (pick_any rb p3 _ _ hr3 (by omega) (by omega)).mono ?_
          rintro e wz ⟨i, rfl, hrz, _, hi, hoz⟩
          obtain ⟨hi0, hi1⟩ := hi (by omega)
          obtain ⟨i, rfl⟩ := Int.eq_ofNat_of_zero_le hi0
          have HSZ := HSY.out.step hrz (Nat.succ_le_succ hp3) hoz hlt
          have hltz := hrz.lt
          go_wp2_with fail
          refine (one_any rb _ _ _ _ _ _ (hrz.alloc _) (by omega) (lit3 rfl 5 (-1) 2) (by omega) (far_lit hltz)).mono ?_
          rintro e wv ⟨v, rfl, _, hrv, hov⟩
          have HSV := (HSZ.alloc _).step hrv (Nat.succ_le_succ (Nat.succ_le_succ hp3)) hov hlt
          obtain ⟨xs4, hx4⟩ := HSV.row
          obtain ⟨o4, d0, d1, d2⟩ := own_cells3S hx4 (i := i) (by omega)
          have hf := hx4.frozenAt (i * 3 + 1)
          have HE := Lib.hid (((HSV.put hlt (i := i) (by omega) v).2).done hm40 hmc (by omega))
          clear hx0 hx4 HSZ HSV
          go_wp2_with fail
          go_ret
          exact HE.out
        · have hm1 : m = 0 := by omega
          have HE := Lib.hid (HSY.out.done hm40 hmc (by omega))
          (try subst hm1)
          go_wp2_with fail
          go_ret
          exact HE.out
      · by_cases k1 : kk = 1
        · subst k1
          by_cases hm0 : 0 < m
          · obtain ⟨xs0, hx0⟩ := HSY.out.row
            obtain ⟨g, c', hve, hg1, hg2⟩ := own_block hx0 hm0
            injection hve with hA _ hc
            subst hA; subst hc
            go_wp2_with fail
            obtain ⟨p3, hr3, hp3⟩ := HSY.out.rd
            refine (pick_any rb p3 _ _ hr3 (by omega) (by omega)).mono ?_
            rintro e wz ⟨i, rfl, hrz, _, hi, hoz⟩
            obtain ⟨hi0, hi1⟩ := hi (by omega)
            obtain ⟨i, rfl⟩ := Int.eq_ofNat_of_zero_le hi0
            have HSZ := HSY.out.step hrz (Nat.succ_le_succ hp3) hoz hlt
            have hltz := hrz.lt
            go_wp2_with fail
            refine (one_any rb _ _ _ _ _ _ (hrz.alloc _) (by omega) (lit2 rfl 4 (-1)) (by omega) (far_lit hltz)).mono ?_
            rintro e wv ⟨v, rfl, _, hrv, hov⟩
            have HSV := (HSZ.alloc _).step hrv (Nat.succ_le_succ (Nat.succ_le_succ hp3)) hov hlt
            obtain ⟨xs4, hx4⟩ := HSV.row
            obtain ⟨o4, d0, d1, d2⟩ := own_cells3S hx4 (i := i) (by omega)
            have hf := hx4.frozenAt (i * 3)
            have HE := Lib.hid (((HSV.put hlt (i := i) (by omega) v).1).done hm40 hmc (by omega))
            clear hx0 hx4 HSZ HSV
            go_wp2_with fail
            go_ret
            exact HE.out
          · have hm1 : m = 0 := by omega
            have HE := Lib.hid (HSY.out.done hm40 hmc (by omega))
            (try subst hm1)
            go_wp2_with fail
            go_ret
            exact HE.out
        · by_cases k2 : kk = 2
          · subst k2
            by_cases hm1 : 1 < m
            · obtain ⟨xs0, hx0⟩ := HSY.out.row
              obtain ⟨g, c', hve, hg1, hg2⟩ := own_block hx0 (by omega)
              injection hve with hA _ hc
              subst hA; subst hc
              clear hx0
              have HE := Lib.hid (HSY.out.tailG hm40 hm1 hmc (by omega))
              have hm2 : 1 ≤ c4 := by omega
              have hm3 : ¬ c4 = 1 := by omega
              go_wp2_with fail
              go_ret
              exact HE.out
            · have HE := Lib.hid (HSY.out.done hm40 hmc (by omega))
              go_wp2_with fail
              go_ret
              exact HE.out
          · have HE := Lib.hid (HSY.out.done hm40 hmc (by omega))
            go_wp2_with fail
            go_ret
            exact HE.out
    · have hsw2 : sw = 2 := by have := hsw (by omega); omega
      subst hsw2
      go_wp2_with fail
      refine (one_any rb (p + 1) _ 6 6 [8, 12, 5, 16, 3, 0] _ (hr2.alloc _) (by omega) (lit6 rfl 8 12 5 16 3 0) (by omega) (far_lit hlt2)).mono ?_
      rintro e w3 ⟨N, rfl, hN, hr3, ho3⟩
      have hN2 : 0 ≤ N ∧ N ≤ 16 := by
        simp only [List.mem_cons, List.not_mem_nil, or_false] at hN
        omega
      obtain ⟨J0, rfl⟩ := Int.eq_ofNat_of_zero_le hN2.1
      have HST : Hid (StG w rb (400 - 8 * J0) (.slice (some ⟨w.heap.size, 0, none⟩) 0 0) 0 w3) := (HST0.out.alloc _).step hr3 (by omega) ho3 hlt
      clear HST0 hr2 hO2 h hr3 ho3 hN hsw
      go_wp2_with fail
      go_loopw [3, 4] (fun ov i wr => ∃ (m j : Nat), m + j ≤ 16 ∧ i = .int .i64 j ∧ StG w rb (400 - 8 * j) ov m wr) (fun _ i _ => (intOf i).toNat)
      case atStart => exact ⟨0, J0, by omega, rfl, HST.out⟩
      case round =>
        clear HST
        obtain ⟨wo, rfl⟩ : ∃ z : World, z = wr := ⟨_, rfl⟩
        obtain ⟨ov, rfl⟩ : ∃ z : Value, z = u3 := ⟨_, rfl⟩
        obtain ⟨m, j, hmj, rfl, hS⟩ := hrel
        have HS := Lib.hid hS
        obtain ⟨⟨xs, hx⟩, ⟨q0, hrq, hq0⟩, _⟩ := hS
        obtain ⟨Ao, co, rfl, hmc⟩ := own_form2 hx
        have hltq := hrq.lt
        by_cases hj : 0 < j
        · clear hx
          go_wp2_with fail
          refine (pick_any rb q0 3 wo hrq (by omega) (by omega)).mono ?_
          rintro e w4 ⟨a, rfl, hr4, _, _, ho4⟩
          have hlt4 := hr4.lt
          go_wp2_with fail
          refine (one_any rb (q0 + 1) _ 6 6 [1, 0, 3, 4, 2, 1] _ (hr4.alloc _) (by omega) (lit6 rfl 1 0 3 4 2 1) (by omega) (far_lit hlt4)).mono ?_
          rintro e w5 ⟨b, rfl, _, hr5, ho5⟩
          go_wp2_with fail
          refine (pick_any rb (q0 + 1 + 1) 3 w5 hr5 (by omega) (by omega)).mono ?_
          rintro e w6 ⟨c, rfl, hr6, _, _, ho6⟩
          have hO6 := (((Only.refl rb wo).trans ho4).alloc (.cells #[.int .i64 1, .int .i64 0, .int .i64 3, .int .i64 4, .int .i64 2, .int .i64 1] 3)).trans ho5 |>.trans ho6
          have hlt6 := hr6.lt
          obtain ⟨W7, hW7⟩ : ∃ W : World, W = w6.alloc (.cells #[.int .i64 a, .int .i64 b, .int .i64 c] 31) := ⟨_, rfl⟩
          obtain ⟨wd, hwd⟩ : ∃ wd : World, wd = W7.drew := ⟨_, rfl⟩
          have hS6 := HS.out.step hr6 (Nat.le_refl _) hO6 hlt
          have hrd : Rd wd rb (q0 + 1 + 1 + 1) := by rw [hwd, hW7]; exact hr6.alloc _
          obtain ⟨pq, hpqe⟩ : ∃ z, q0 + 1 + 1 + 1 = z := ⟨_, rfl⟩
          rw [hpqe] at hrd hS6
          have hpq : pq ≤ pq := Nat.le_refl _
          have HSD : Hid (StG w rb pq (.slice Ao m co) m wd) := by
            show StG _ _ _ _ _ _
            rw [hwd, hW7]
            exact (hS6.alloc _).below (Below.refl _ _).drew
          have hc7 : ∀ i u, (#[Value.int .i64 a, .int .i64 b, .int .i64 c] : Array Value)[i]? = some u → wd.cell? ⟨w6.heap.size, i, none⟩ = some u := fun i u hu => by rw [hwd, hW7]; exact box_at _ _ _ _ _ hu
          have hwl : w6.heap.size < wd.heap.size := by rw [hwd, hW7]; simp
          have HOBX : Hid (∀ wp u, Only rb wd wp → Below wp.heap.size wp u → u.cell? ⟨w6.heap.size, 0, none⟩ = some (.int .i64 a) ∧ u.cell? ⟨w6.heap.size, 1, none⟩ = some (.int .i64 b) ∧ u.cell? ⟨w6.heap.size, 2, none⟩ = some (.int .i64 c)) := fun wp u hop hu => by
            have key : ∀ i v, wd.cell? ⟨w6.heap.size, i, none⟩ = some v → u.cell? ⟨w6.heap.size, i, none⟩ = some v := fun i v hv =>
              Later.cell ((hop.cell hwl (by omega)).trans hv) ⟨u, hu⟩
            exact ⟨key 0 _ (hc7 0 _ rfl), key 1 _ (hc7 1 _ rfl), key 2 _ (hc7 2 _ rfl)⟩
          have HWD : Hid (wd = (w6.alloc (.cells #[.int .i64 a, .int .i64 b, .int .i64 c] 31)).drew) := by show _ = _; rw [hwd, hW7]
          have hqb : pq ≤ 400 - 8 * j + 3 := by omega
          clear hS6 hc7 hwd hW7 hr4 hr5 hr6 ho4 ho5 ho6 hO6 hpqe HS
          go_upto_region 7 with fail
          go_cut [38] from 24 to 38 (fun bz wx => ∃ bb : Bool, bz = .bool bb ∧ StG w rb (pq + 1) (.slice Ao m co) m wx ∧ wx.cell? ⟨w6.heap.size, 0, none⟩ = some (.int .i64 a) ∧ wx.cell? ⟨w6.heap.size, 1, none⟩ = some (.int .i64 b) ∧ wx.cell? ⟨w6.heap.size, 2, none⟩ = some (.int .i64 c))
          case first =>
            refine wp_region_any (by kernel_rfl) ?_
            change wpAny _ _ _ _ _ _ _ (World.drew _)
            rw [← HWD.out]
            refine wpAny_take (i := 0) (v := ?_) rfl (by kernel_rfl) (by kernel_rfl) (by kernel_rfl) (fun _ _ _ h => h) (Or.inl ⟨by kernel_rfl, ?_⟩) ?_
            rotate_left
            · intro w; go_simp; try with_reducible rfl
            refine wpAny_ready (rs := [1]) (by kernel_rfl) (by simp) ?_
            refine AllReady.cons rfl (fun K hK => ?_) AllReady.nil
            go_simp
            go_wp2_with (go_at_call 78; go_loud (refine (pick_any rb pq 6 wd hrd (by omega) (by omega)).mono ?_; rintro e wp ⟨v, rfl, hrp, _, _, hop⟩; have HSP := Lib.hid (HSD.out.step hrp (Nat.succ_le_succ hpq) hop hlt); have HBXP := Lib.hid (fun u (hu : Below wp.heap.size wp u) => HOBX.out wp u hop hu); have hszp := hop.size; clear hrp hop hrd))
            try (refine hK _ _ ?_; clear hK K)
            by_cases v0 : v = 0
            · subst v0
              obtain ⟨p0, p1, p2⟩ := HBXP.out wp (Below.refl _ _)
              refine wpAny_take (i := 2) (v := ?_) rfl (by kernel_rfl) (by kernel_rfl) (by kernel_rfl) (fun _ _ _ h => h) (Or.inl ⟨by kernel_rfl, ?_⟩) ?_
              rotate_left
              · intro w; go_simp; try with_reducible rfl
              refine wpAny_take (i := 3) (v := ?_) rfl (by kernel_rfl) (by kernel_rfl) (by kernel_rfl) (fun _ _ _ h => h) (Or.inl ⟨by kernel_rfl, ?_⟩) ?_
              rotate_left
              · intro w; go_simp; try with_reducible rfl
              refine wpAny_take (i := 4) (v := undef) rfl (by kernel_rfl) (by kernel_rfl) (by kernel_rfl) (fun _ _ _ h => h) (Or.inr ⟨by kernel_rfl, rfl⟩) ?_
              refine wpAny_take (i := 5) (v := undef) rfl (by kernel_rfl) (by kernel_rfl) (by kernel_rfl) (fun _ _ _ h => h) (Or.inr ⟨by kernel_rfl, rfl⟩) ?_
              refine wpAny_take (i := 6) (v := undef) rfl (by kernel_rfl) (by kernel_rfl) (by kernel_rfl) (fun _ _ _ h => h) (Or.inr ⟨by kernel_rfl, rfl⟩) ?_
              refine wpAny_take (i := 7) (v := undef) rfl (by kernel_rfl) (by kernel_rfl) (by kernel_rfl) (fun _ _ _ h => h) (Or.inr ⟨by kernel_rfl, rfl⟩) ?_
              refine wpAny_take (i := 8) (v := undef) rfl (by kernel_rfl) (by kernel_rfl) (by kernel_rfl) (fun _ _ _ h => h) (Or.inr ⟨by kernel_rfl, rfl⟩) ?_
              refine wpAny_take (i := 9) (v := undef) rfl (by kernel_rfl) (by kernel_rfl) (by kernel_rfl) (fun _ _ _ h => h) (Or.inr ⟨by kernel_rfl, rfl⟩) ?_
              refine wpAny_take (i := 10) (v := undef) rfl (by kernel_rfl) (by kernel_rfl) (by kernel_rfl) (fun _ _ _ h => h) (Or.inr ⟨by kernel_rfl, rfl⟩) ?_
              refine wpAny_take (i := 11) (v := undef) rfl (by kernel_rfl) (by kernel_rfl) (by kernel_rfl) (fun _ _ _ h => h) (Or.inr ⟨by kernel_rfl, rfl⟩) ?_
              refine wpAny_take (i := 12) (v := undef) rfl (by kernel_rfl) (by kernel_rfl) (by kernel_rfl) (fun _ _ _ h => h) (Or.inr ⟨by kernel_rfl, rfl⟩) ?_
              refine wpAny_take (i := 13) (v := undef) rfl (by kernel_rfl) (by kernel_rfl) (by kernel_rfl) (fun _ _ _ h => h) (Or.inr ⟨by kernel_rfl, rfl⟩) ?_
              refine wpAny_take (i := 14) (v := ?_) rfl (by kernel_rfl) (by kernel_rfl) (by kernel_rfl) (fun _ _ _ h => h) (Or.inl ⟨by kernel_rfl, ?_⟩) ?_
              rotate_left
              · intro w; go_simp; try with_reducible rfl
              refine wpAny_done (by kernel_rfl) ?_ _
              try go_simp
              go_wp2_with fail
              go_meet
              exact ⟨_, rfl, HSP.out, p0, p1, p2⟩
            · have hvb : (v == 0) = false := by simp [v0]
              obtain ⟨⟨L, hL⟩, _, _⟩ := HSP.out
              have hro := ROps.of_own hL (by omega)
              have HROW : Hid (∀ W, Below wp.heap.size wp W → ROps W Ao m L) := fun W hW => hro.below hW (Nat.le_refl _)
              have HBX := HBXP
              obtain ⟨p0, p1, p2⟩ := HBX.out wp (Below.refl _ _)
              have HBA : Hid (Below wp.heap.size wp (wp.alloc (.cells #[] 31))) := (Below.refl _ wp).alloc (Nat.le_refl _) _
              have HEA : Hid ((wp.alloc (.cells #[] 31)).ownsRow wp.heap.size 31 3 (.slice (some ⟨wp.heap.size, 0, none⟩) 0 0) 0 (opCells [])) := World.ownsRow_made wp #[] 0 (Nat.le_refl _) (by decide) rfl
              have HLB := Lib.hid (lit2_b wp ⟨a, b, c⟩)
              have HLC := Lib.hid (lit2_c wp ⟨a, b, c⟩)
              have hgl : w6.heap.size < wp.heap.size := by omega
              clear hro hL v0
              refine wpAny_take (i := 2) (v := ?_) rfl (by kernel_rfl) (by kernel_rfl) (by kernel_rfl) (fun _ _ _ h => h) (Or.inl ⟨by kernel_rfl, ?_⟩) ?_
              rotate_left
              · intro w; go_simp; try with_reducible rfl
              refine wpAny_take (i := 3) (v := ?_) rfl (by kernel_rfl) (by kernel_rfl) (by kernel_rfl) (fun _ _ _ h => h) (Or.inl ⟨by kernel_rfl, ?_⟩) ?_
              rotate_left
              · intro w; go_simp; try with_reducible rfl
              refine wpAny_take (i := 5) (v := ?_) rfl (by kernel_rfl) (by kernel_rfl) (by kernel_rfl) (fun _ _ _ h => h) (Or.inl ⟨by kernel_rfl, ?_⟩) ?_
              rotate_left
              · intro w; go_simp; try with_reducible rfl
              refine wpAny_take (i := 10) (v := ?_) rfl (by kernel_rfl) (by kernel_rfl) (by kernel_rfl) (fun _ _ _ h => h) (Or.inl ⟨by kernel_rfl, ?_⟩) ?_
              rotate_left
              · intro w; go_simp; try with_reducible rfl
              refine wpAny_take (i := 11) (v := ?_) rfl (by kernel_rfl) (by kernel_rfl) (by kernel_rfl) (fun _ _ _ h => h) (Or.inl ⟨by kernel_rfl, ?_⟩) ?_
              rotate_left
              · intro w; go_simp; try with_reducible rfl
              refine wpAny_ready (rs := [4, 7]) (by kernel_rfl) (by simp) ?_
              refine AllReady.cons rfl (fun K hK => ?_) (AllReady.cons rfl (fun K hK => ?_) (AllReady.nil))
              · skip
                go_simp
                try (refine hK _ _ ?_; clear hK K)
                refine wpAny_ready (rs := [6, 7]) (by kernel_rfl) (by simp) ?_
                refine AllReady.cons rfl (fun K hK => ?_) (AllReady.cons rfl (fun K hK => ?_) (AllReady.nil))
                · skip
                  first
                    | (refine stepw_steps ?_ (.tmp 28) (.tmp 29) (c := co) (HEA.out) (HBA.out.size) (HROW.out _ HBA.out) ?_ ?_ ?_ ?_ ?_; (· first | kernel_rfl | rfl); (· omega); (· rfl); (· rfl); (· rfl); intro v1 w1 hown1 hg1 hat1; rw [List.nil_append, Nat.zero_add] at hown1; have hb1 := Below.own HBA.out HEA.out (Nat.le_refl _) hg1; obtain ⟨x0, x1, x2⟩ := HBX.out w1 hb1; refine hK _ _ ?_; clear hK K)
                    | (refine stepw_steps ?_ (.tmp 28) (.tmp 29) (c := co) (HLB.out.row) (HLB.out.below.size) (HROW.out _ HLB.out.below) ?_ ?_ ?_ ?_ ?_; (· first | kernel_rfl | rfl); (· omega); (· rfl); (· rfl); (· rfl); intro v1 w1 hown1 hg1 hat1; rw [List.nil_append, Nat.zero_add] at hown1; have hl1 := HLB.out.grown hg1; have hb1 := Below.own HLB.out.below HLB.out.row (Nat.le_refl _) hg1; obtain ⟨x0, x1, x2⟩ := HBX.out w1 hb1; refine hK _ _ ?_; clear hK K)
                    | (refine stepw_steps ?_ (.tmp 28) (.tmp 29) (c := co) (HLC.out.row) (HLC.out.below.size) (HROW.out _ HLC.out.below) ?_ ?_ ?_ ?_ ?_; (· first | kernel_rfl | rfl); (· omega); (· rfl); (· rfl); (· rfl); intro v1 w1 hown1 hg1 hat1; rw [List.nil_append, Nat.zero_add] at hown1; have hl1 := HLC.out.grown hg1; have hb1 := Below.own HLC.out.below HLC.out.row (Nat.le_refl _) hg1; obtain ⟨x0, x1, x2⟩ := HBX.out w1 hb1; refine hK _ _ ?_; clear hK K)
                  try (refine hK _ _ ?_; clear hK K)
                  refine wpAny_ready (rs := [7]) (by kernel_rfl) (by simp) ?_
                  refine AllReady.cons rfl (fun K hK => ?_) AllReady.nil
                  go_simp
                  try (refine hK _ _ ?_; clear hK K)
                  refine wpAny_ready (rs := [8]) (by kernel_rfl) (by simp) ?_
                  refine AllReady.cons rfl (fun K hK => ?_) AllReady.nil
                  go_simp
                  try (refine hK _ _ ?_; clear hK K)
                  refine wpAny_ready (rs := [9]) (by kernel_rfl) (by simp) ?_
                  refine AllReady.cons rfl (fun K hK => ?_) AllReady.nil
                  first
                    | (refine stepw_steps ?_ (.tmp 30) (.tmp 32) (c := 1) (hown1) (hb1.size) (hl1) ?_ ?_ ?_ ?_ ?_; (· first | kernel_rfl | rfl); (· omega); (· rfl); (· rfl); (· rfl); intro v2 w2' hown2 hg2 hat2; have hb2 := Below.own hb1 hown1 (Nat.le_refl _) hg2; obtain ⟨A2, c2, rfl, hc2⟩ := own_form2 hown2; have hill := sillegal_any A2 (m + 1) c2 (L ++ [⟨a, b, c⟩]) m w2' (ROps.of_own hown2 (by omega)) (by omega) (fun _ _ _ => heldI_le1 _ _ _); obtain ⟨bb, hbb⟩ : ∃ z, illAtB (L ++ [⟨a, b, c⟩]) m = z := ⟨_, rfl⟩; rw [hbb] at hill; have HILL := Lib.hid hill; have HB2 := Lib.hid hb2; clear hill hbb hb2 hown2 hg2 hat2 hown1 hg1 hat1 hb1 x0 x1 x2; refine hK _ _ ?_; clear hK K)
                    | (refine stepw_steps ?_ (.tmp 30) (.tmp 32) (c := 1) (hown1.alloc _) (by have := hb1.size; simp; omega) (ROps.lit1 _ ⟨a, b, c⟩ _) ?_ ?_ ?_ ?_ ?_; (· first | kernel_rfl | rfl); (· omega); (· rfl); (· rfl); (· rfl); intro v2 w2' hown2 hg2 hat2; have hb2 := Below.own hb1 hown1 (Nat.le_refl _) (World.grownBy.trans (World.grownBy_alloc w1 _ _) hg2); obtain ⟨A2, c2, rfl, hc2⟩ := own_form2 hown2; have hill := sillegal_any A2 (m + 1) c2 (L ++ [⟨a, b, c⟩]) m w2' (ROps.of_own hown2 (by omega)) (by omega) (fun _ _ _ => heldI_le1 _ _ _); obtain ⟨bb, hbb⟩ : ∃ z, illAtB (L ++ [⟨a, b, c⟩]) m = z := ⟨_, rfl⟩; rw [hbb] at hill; have HILL := Lib.hid hill; have HB2 := Lib.hid hb2; clear hill hbb hb2 hown2 hg2 hat2 hown1 hg1 hat1 hb1 x0 x1 x2; refine hK _ _ ?_; clear hK K)
                  try (refine hK _ _ ?_; clear hK K)
                  refine wpAny_ready (rs := [12]) (by kernel_rfl) (by simp) ?_
                  refine AllReady.cons rfl (fun K hK => ?_) AllReady.nil
                  go_simp
                  go_wp2_with (go_at_call 84; go_loud (refine HILL.out.mono ?_; rintro e w9 ⟨rfl, hb9⟩; have HB9 := Lib.hid (HB2.out.trans (hb9.mono HB2.out.size)); clear hb9))
                  try (refine hK _ _ ?_; clear hK K)
                  refine wpAny_take (i := 13) (v := ?_) rfl (by kernel_rfl) (by kernel_rfl) (by kernel_rfl) (fun _ _ _ h => h) (Or.inl ⟨by kernel_rfl, ?_⟩) ?_
                  rotate_left
                  · intro w; go_simp; try with_reducible rfl
                  refine wpAny_take (i := 14) (v := ?_) rfl (by kernel_rfl) (by kernel_rfl) (by kernel_rfl) (fun _ _ _ h => h) (Or.inl ⟨by kernel_rfl, ?_⟩) ?_
                  rotate_left
                  · intro w; go_simp; try with_reducible rfl
                  refine wpAny_done (by kernel_rfl) ?_ _
                  try go_simp
                  go_wp2_with fail
                  go_meet
                  obtain ⟨x0, x1, x2⟩ := HBX.out w9 HB9.out
                  exact ⟨_, rfl, HSP.out.below HB9.out, x0, x1, x2⟩
                · skip
                  go_simp
                  try (refine hK _ _ ?_; clear hK K)
                  refine wpAny_ready (rs := [6, 8]) (by kernel_rfl) (by simp) ?_
                  refine AllReady.cons rfl (fun K hK => ?_) (AllReady.cons rfl (fun K hK => ?_) (AllReady.nil))
                  · skip
                    first
                      | (refine stepw_steps ?_ (.tmp 28) (.tmp 29) (c := co) (HEA.out) (HBA.out.size) (HROW.out _ HBA.out) ?_ ?_ ?_ ?_ ?_; (· first | kernel_rfl | rfl); (· omega); (· rfl); (· rfl); (· rfl); intro v1 w1 hown1 hg1 hat1; rw [List.nil_append, Nat.zero_add] at hown1; have hb1 := Below.own HBA.out HEA.out (Nat.le_refl _) hg1; obtain ⟨x0, x1, x2⟩ := HBX.out w1 hb1; refine hK _ _ ?_; clear hK K)
                      | (refine stepw_steps ?_ (.tmp 28) (.tmp 29) (c := co) (HLB.out.row) (HLB.out.below.size) (HROW.out _ HLB.out.below) ?_ ?_ ?_ ?_ ?_; (· first | kernel_rfl | rfl); (· omega); (· rfl); (· rfl); (· rfl); intro v1 w1 hown1 hg1 hat1; rw [List.nil_append, Nat.zero_add] at hown1; have hl1 := HLB.out.grown hg1; have hb1 := Below.own HLB.out.below HLB.out.row (Nat.le_refl _) hg1; obtain ⟨x0, x1, x2⟩ := HBX.out w1 hb1; refine hK _ _ ?_; clear hK K)
                      | (refine stepw_steps ?_ (.tmp 28) (.tmp 29) (c := co) (HLC.out.row) (HLC.out.below.size) (HROW.out _ HLC.out.below) ?_ ?_ ?_ ?_ ?_; (· first | kernel_rfl | rfl); (· omega); (· rfl); (· rfl); (· rfl); intro v1 w1 hown1 hg1 hat1; rw [List.nil_append, Nat.zero_add] at hown1; have hl1 := HLC.out.grown hg1; have hb1 := Below.own HLC.out.below HLC.out.row (Nat.le_refl _) hg1; obtain ⟨x0, x1, x2⟩ := HBX.out w1 hb1; refine hK _ _ ?_; clear hK K)
                    try (refine hK _ _ ?_; clear hK K)
                    refine wpAny_ready (rs := [8]) (by kernel_rfl) (by simp) ?_
                    refine AllReady.cons rfl (fun K hK => ?_) AllReady.nil
                    go_simp
                    try (refine hK _ _ ?_; clear hK K)
                    refine wpAny_ready (rs := [9]) (by kernel_rfl) (by simp) ?_
                    refine AllReady.cons rfl (fun K hK => ?_) AllReady.nil
                    first
                      | (refine stepw_steps ?_ (.tmp 30) (.tmp 32) (c := 1) (hown1) (hb1.size) (hl1) ?_ ?_ ?_ ?_ ?_; (· first | kernel_rfl | rfl); (· omega); (· rfl); (· rfl); (· rfl); intro v2 w2' hown2 hg2 hat2; have hb2 := Below.own hb1 hown1 (Nat.le_refl _) hg2; obtain ⟨A2, c2, rfl, hc2⟩ := own_form2 hown2; have hill := sillegal_any A2 (m + 1) c2 (L ++ [⟨a, b, c⟩]) m w2' (ROps.of_own hown2 (by omega)) (by omega) (fun _ _ _ => heldI_le1 _ _ _); obtain ⟨bb, hbb⟩ : ∃ z, illAtB (L ++ [⟨a, b, c⟩]) m = z := ⟨_, rfl⟩; rw [hbb] at hill; have HILL := Lib.hid hill; have HB2 := Lib.hid hb2; clear hill hbb hb2 hown2 hg2 hat2 hown1 hg1 hat1 hb1 x0 x1 x2; refine hK _ _ ?_; clear hK K)
                      | (refine stepw_steps ?_ (.tmp 30) (.tmp 32) (c := 1) (hown1.alloc _) (by have := hb1.size; simp; omega) (ROps.lit1 _ ⟨a, b, c⟩ _) ?_ ?_ ?_ ?_ ?_; (· first | kernel_rfl | rfl); (· omega); (· rfl); (· rfl); (· rfl); intro v2 w2' hown2 hg2 hat2; have hb2 := Below.own hb1 hown1 (Nat.le_refl _) (World.grownBy.trans (World.grownBy_alloc w1 _ _) hg2); obtain ⟨A2, c2, rfl, hc2⟩ := own_form2 hown2; have hill := sillegal_any A2 (m + 1) c2 (L ++ [⟨a, b, c⟩]) m w2' (ROps.of_own hown2 (by omega)) (by omega) (fun _ _ _ => heldI_le1 _ _ _); obtain ⟨bb, hbb⟩ : ∃ z, illAtB (L ++ [⟨a, b, c⟩]) m = z := ⟨_, rfl⟩; rw [hbb] at hill; have HILL := Lib.hid hill; have HB2 := Lib.hid hb2; clear hill hbb hb2 hown2 hg2 hat2 hown1 hg1 hat1 hb1 x0 x1 x2; refine hK _ _ ?_; clear hK K)
                    try (refine hK _ _ ?_; clear hK K)
                    refine wpAny_ready (rs := [12]) (by kernel_rfl) (by simp) ?_
                    refine AllReady.cons rfl (fun K hK => ?_) AllReady.nil
                    go_simp
                    go_wp2_with (go_at_call 84; go_loud (refine HILL.out.mono ?_; rintro e w9 ⟨rfl, hb9⟩; have HB9 := Lib.hid (HB2.out.trans (hb9.mono HB2.out.size)); clear hb9))
                    try (refine hK _ _ ?_; clear hK K)
                    refine wpAny_take (i := 13) (v := ?_) rfl (by kernel_rfl) (by kernel_rfl) (by kernel_rfl) (fun _ _ _ h => h) (Or.inl ⟨by kernel_rfl, ?_⟩) ?_
                    rotate_left
                    · intro w; go_simp; try with_reducible rfl
                    refine wpAny_take (i := 14) (v := ?_) rfl (by kernel_rfl) (by kernel_rfl) (by kernel_rfl) (fun _ _ _ h => h) (Or.inl ⟨by kernel_rfl, ?_⟩) ?_
                    rotate_left
                    · intro w; go_simp; try with_reducible rfl
                    refine wpAny_done (by kernel_rfl) ?_ _
                    try go_simp
                    go_wp2_with fail
                    go_meet
                    obtain ⟨x0, x1, x2⟩ := HBX.out w9 HB9.out
                    exact ⟨_, rfl, HSP.out.below HB9.out, x0, x1, x2⟩
                  · skip
                    go_simp
                    try (refine hK _ _ ?_; clear hK K)
                    refine wpAny_ready (rs := [6]) (by kernel_rfl) (by simp) ?_
                    refine AllReady.cons rfl (fun K hK => ?_) AllReady.nil
                    first
                      | (refine stepw_steps ?_ (.tmp 28) (.tmp 29) (c := co) (HEA.out) (HBA.out.size) (HROW.out _ HBA.out) ?_ ?_ ?_ ?_ ?_; (· first | kernel_rfl | rfl); (· omega); (· rfl); (· rfl); (· rfl); intro v1 w1 hown1 hg1 hat1; rw [List.nil_append, Nat.zero_add] at hown1; have hb1 := Below.own HBA.out HEA.out (Nat.le_refl _) hg1; obtain ⟨x0, x1, x2⟩ := HBX.out w1 hb1; refine hK _ _ ?_; clear hK K)
                      | (refine stepw_steps ?_ (.tmp 28) (.tmp 29) (c := co) (HLB.out.row) (HLB.out.below.size) (HROW.out _ HLB.out.below) ?_ ?_ ?_ ?_ ?_; (· first | kernel_rfl | rfl); (· omega); (· rfl); (· rfl); (· rfl); intro v1 w1 hown1 hg1 hat1; rw [List.nil_append, Nat.zero_add] at hown1; have hl1 := HLB.out.grown hg1; have hb1 := Below.own HLB.out.below HLB.out.row (Nat.le_refl _) hg1; obtain ⟨x0, x1, x2⟩ := HBX.out w1 hb1; refine hK _ _ ?_; clear hK K)
                      | (refine stepw_steps ?_ (.tmp 28) (.tmp 29) (c := co) (HLC.out.row) (HLC.out.below.size) (HROW.out _ HLC.out.below) ?_ ?_ ?_ ?_ ?_; (· first | kernel_rfl | rfl); (· omega); (· rfl); (· rfl); (· rfl); intro v1 w1 hown1 hg1 hat1; rw [List.nil_append, Nat.zero_add] at hown1; have hl1 := HLC.out.grown hg1; have hb1 := Below.own HLC.out.below HLC.out.row (Nat.le_refl _) hg1; obtain ⟨x0, x1, x2⟩ := HBX.out w1 hb1; refine hK _ _ ?_; clear hK K)
                    try (refine hK _ _ ?_; clear hK K)
                    refine wpAny_ready (rs := [9]) (by kernel_rfl) (by simp) ?_
                    refine AllReady.cons rfl (fun K hK => ?_) AllReady.nil
                    first
                      | (refine stepw_steps ?_ (.tmp 30) (.tmp 32) (c := 1) (hown1) (hb1.size) (hl1) ?_ ?_ ?_ ?_ ?_; (· first | kernel_rfl | rfl); (· omega); (· rfl); (· rfl); (· rfl); intro v2 w2' hown2 hg2 hat2; have hb2 := Below.own hb1 hown1 (Nat.le_refl _) hg2; obtain ⟨A2, c2, rfl, hc2⟩ := own_form2 hown2; have hill := sillegal_any A2 (m + 1) c2 (L ++ [⟨a, b, c⟩]) m w2' (ROps.of_own hown2 (by omega)) (by omega) (fun _ _ _ => heldI_le1 _ _ _); obtain ⟨bb, hbb⟩ : ∃ z, illAtB (L ++ [⟨a, b, c⟩]) m = z := ⟨_, rfl⟩; rw [hbb] at hill; have HILL := Lib.hid hill; have HB2 := Lib.hid hb2; clear hill hbb hb2 hown2 hg2 hat2 hown1 hg1 hat1 hb1 x0 x1 x2; refine hK _ _ ?_; clear hK K)
                      | (refine stepw_steps ?_ (.tmp 30) (.tmp 32) (c := 1) (hown1.alloc _) (by have := hb1.size; simp; omega) (ROps.lit1 _ ⟨a, b, c⟩ _) ?_ ?_ ?_ ?_ ?_; (· first | kernel_rfl | rfl); (· omega); (· rfl); (· rfl); (· rfl); intro v2 w2' hown2 hg2 hat2; have hb2 := Below.own hb1 hown1 (Nat.le_refl _) (World.grownBy.trans (World.grownBy_alloc w1 _ _) hg2); obtain ⟨A2, c2, rfl, hc2⟩ := own_form2 hown2; have hill := sillegal_any A2 (m + 1) c2 (L ++ [⟨a, b, c⟩]) m w2' (ROps.of_own hown2 (by omega)) (by omega) (fun _ _ _ => heldI_le1 _ _ _); obtain ⟨bb, hbb⟩ : ∃ z, illAtB (L ++ [⟨a, b, c⟩]) m = z := ⟨_, rfl⟩; rw [hbb] at hill; have HILL := Lib.hid hill; have HB2 := Lib.hid hb2; clear hill hbb hb2 hown2 hg2 hat2 hown1 hg1 hat1 hb1 x0 x1 x2; refine hK _ _ ?_; clear hK K)
                    try (refine hK _ _ ?_; clear hK K)
                    refine wpAny_ready (rs := [12]) (by kernel_rfl) (by simp) ?_
                    refine AllReady.cons rfl (fun K hK => ?_) AllReady.nil
                    go_simp
                    go_wp2_with (go_at_call 84; go_loud (refine HILL.out.mono ?_; rintro e w9 ⟨rfl, hb9⟩; have HB9 := Lib.hid (HB2.out.trans (hb9.mono HB2.out.size)); clear hb9))
                    try (refine hK _ _ ?_; clear hK K)
                    refine wpAny_take (i := 13) (v := ?_) rfl (by kernel_rfl) (by kernel_rfl) (by kernel_rfl) (fun _ _ _ h => h) (Or.inl ⟨by kernel_rfl, ?_⟩) ?_
                    rotate_left
                    · intro w; go_simp; try with_reducible rfl
                    refine wpAny_take (i := 14) (v := ?_) rfl (by kernel_rfl) (by kernel_rfl) (by kernel_rfl) (fun _ _ _ h => h) (Or.inl ⟨by kernel_rfl, ?_⟩) ?_
                    rotate_left
                    · intro w; go_simp; try with_reducible rfl
                    refine wpAny_done (by kernel_rfl) ?_ _
                    try go_simp
                    go_wp2_with fail
                    go_meet
                    obtain ⟨x0, x1, x2⟩ := HBX.out w9 HB9.out
                    exact ⟨_, rfl, HSP.out.below HB9.out, x0, x1, x2⟩
              · skip
                go_simp
                try (refine hK _ _ ?_; clear hK K)
                refine wpAny_ready (rs := [4, 8]) (by kernel_rfl) (by simp) ?_
                refine AllReady.cons rfl (fun K hK => ?_) (AllReady.cons rfl (fun K hK => ?_) (AllReady.nil))
                · skip
                  go_simp
                  try (refine hK _ _ ?_; clear hK K)
                  refine wpAny_ready (rs := [6, 8]) (by kernel_rfl) (by simp) ?_
                  refine AllReady.cons rfl (fun K hK => ?_) (AllReady.cons rfl (fun K hK => ?_) (AllReady.nil))
                  · skip
                    first
                      | (refine stepw_steps ?_ (.tmp 28) (.tmp 29) (c := co) (HEA.out) (HBA.out.size) (HROW.out _ HBA.out) ?_ ?_ ?_ ?_ ?_; (· first | kernel_rfl | rfl); (· omega); (· rfl); (· rfl); (· rfl); intro v1 w1 hown1 hg1 hat1; rw [List.nil_append, Nat.zero_add] at hown1; have hb1 := Below.own HBA.out HEA.out (Nat.le_refl _) hg1; obtain ⟨x0, x1, x2⟩ := HBX.out w1 hb1; refine hK _ _ ?_; clear hK K)
                      | (refine stepw_steps ?_ (.tmp 28) (.tmp 29) (c := co) (HLB.out.row) (HLB.out.below.size) (HROW.out _ HLB.out.below) ?_ ?_ ?_ ?_ ?_; (· first | kernel_rfl | rfl); (· omega); (· rfl); (· rfl); (· rfl); intro v1 w1 hown1 hg1 hat1; rw [List.nil_append, Nat.zero_add] at hown1; have hl1 := HLB.out.grown hg1; have hb1 := Below.own HLB.out.below HLB.out.row (Nat.le_refl _) hg1; obtain ⟨x0, x1, x2⟩ := HBX.out w1 hb1; refine hK _ _ ?_; clear hK K)
                      | (refine stepw_steps ?_ (.tmp 28) (.tmp 29) (c := co) (HLC.out.row) (HLC.out.below.size) (HROW.out _ HLC.out.below) ?_ ?_ ?_ ?_ ?_; (· first | kernel_rfl | rfl); (· omega); (· rfl); (· rfl); (· rfl); intro v1 w1 hown1 hg1 hat1; rw [List.nil_append, Nat.zero_add] at hown1; have hl1 := HLC.out.grown hg1; have hb1 := Below.own HLC.out.below HLC.out.row (Nat.le_refl _) hg1; obtain ⟨x0, x1, x2⟩ := HBX.out w1 hb1; refine hK _ _ ?_; clear hK K)
                    try (refine hK _ _ ?_; clear hK K)
                    refine wpAny_ready (rs := [8]) (by kernel_rfl) (by simp) ?_
                    refine AllReady.cons rfl (fun K hK => ?_) AllReady.nil
                    go_simp
                    try (refine hK _ _ ?_; clear hK K)
                    refine wpAny_ready (rs := [9]) (by kernel_rfl) (by simp) ?_
                    refine AllReady.cons rfl (fun K hK => ?_) AllReady.nil
                    first
                      | (refine stepw_steps ?_ (.tmp 30) (.tmp 32) (c := 1) (hown1) (hb1.size) (hl1) ?_ ?_ ?_ ?_ ?_; (· first | kernel_rfl | rfl); (· omega); (· rfl); (· rfl); (· rfl); intro v2 w2' hown2 hg2 hat2; have hb2 := Below.own hb1 hown1 (Nat.le_refl _) hg2; obtain ⟨A2, c2, rfl, hc2⟩ := own_form2 hown2; have hill := sillegal_any A2 (m + 1) c2 (L ++ [⟨a, b, c⟩]) m w2' (ROps.of_own hown2 (by omega)) (by omega) (fun _ _ _ => heldI_le1 _ _ _); obtain ⟨bb, hbb⟩ : ∃ z, illAtB (L ++ [⟨a, b, c⟩]) m = z := ⟨_, rfl⟩; rw [hbb] at hill; have HILL := Lib.hid hill; have HB2 := Lib.hid hb2; clear hill hbb hb2 hown2 hg2 hat2 hown1 hg1 hat1 hb1 x0 x1 x2; refine hK _ _ ?_; clear hK K)
                      | (refine stepw_steps ?_ (.tmp 30) (.tmp 32) (c := 1) (hown1.alloc _) (by have := hb1.size; simp; omega) (ROps.lit1 _ ⟨a, b, c⟩ _) ?_ ?_ ?_ ?_ ?_; (· first | kernel_rfl | rfl); (· omega); (· rfl); (· rfl); (· rfl); intro v2 w2' hown2 hg2 hat2; have hb2 := Below.own hb1 hown1 (Nat.le_refl _) (World.grownBy.trans (World.grownBy_alloc w1 _ _) hg2); obtain ⟨A2, c2, rfl, hc2⟩ := own_form2 hown2; have hill := sillegal_any A2 (m + 1) c2 (L ++ [⟨a, b, c⟩]) m w2' (ROps.of_own hown2 (by omega)) (by omega) (fun _ _ _ => heldI_le1 _ _ _); obtain ⟨bb, hbb⟩ : ∃ z, illAtB (L ++ [⟨a, b, c⟩]) m = z := ⟨_, rfl⟩; rw [hbb] at hill; have HILL := Lib.hid hill; have HB2 := Lib.hid hb2; clear hill hbb hb2 hown2 hg2 hat2 hown1 hg1 hat1 hb1 x0 x1 x2; refine hK _ _ ?_; clear hK K)
                    try (refine hK _ _ ?_; clear hK K)
                    refine wpAny_ready (rs := [12]) (by kernel_rfl) (by simp) ?_
                    refine AllReady.cons rfl (fun K hK => ?_) AllReady.nil
                    go_simp
                    go_wp2_with (go_at_call 84; go_loud (refine HILL.out.mono ?_; rintro e w9 ⟨rfl, hb9⟩; have HB9 := Lib.hid (HB2.out.trans (hb9.mono HB2.out.size)); clear hb9))
                    try (refine hK _ _ ?_; clear hK K)
                    refine wpAny_take (i := 13) (v := ?_) rfl (by kernel_rfl) (by kernel_rfl) (by kernel_rfl) (fun _ _ _ h => h) (Or.inl ⟨by kernel_rfl, ?_⟩) ?_
                    rotate_left
                    · intro w; go_simp; try with_reducible rfl
                    refine wpAny_take (i := 14) (v := ?_) rfl (by kernel_rfl) (by kernel_rfl) (by kernel_rfl) (fun _ _ _ h => h) (Or.inl ⟨by kernel_rfl, ?_⟩) ?_
                    rotate_left
                    · intro w; go_simp; try with_reducible rfl
                    refine wpAny_done (by kernel_rfl) ?_ _
                    try go_simp
                    go_wp2_with fail
                    go_meet
                    obtain ⟨x0, x1, x2⟩ := HBX.out w9 HB9.out
                    exact ⟨_, rfl, HSP.out.below HB9.out, x0, x1, x2⟩
                  · skip
                    go_simp
                    try (refine hK _ _ ?_; clear hK K)
                    refine wpAny_ready (rs := [6]) (by kernel_rfl) (by simp) ?_
                    refine AllReady.cons rfl (fun K hK => ?_) AllReady.nil
                    first
                      | (refine stepw_steps ?_ (.tmp 28) (.tmp 29) (c := co) (HEA.out) (HBA.out.size) (HROW.out _ HBA.out) ?_ ?_ ?_ ?_ ?_; (· first | kernel_rfl | rfl); (· omega); (· rfl); (· rfl); (· rfl); intro v1 w1 hown1 hg1 hat1; rw [List.nil_append, Nat.zero_add] at hown1; have hb1 := Below.own HBA.out HEA.out (Nat.le_refl _) hg1; obtain ⟨x0, x1, x2⟩ := HBX.out w1 hb1; refine hK _ _ ?_; clear hK K)
                      | (refine stepw_steps ?_ (.tmp 28) (.tmp 29) (c := co) (HLB.out.row) (HLB.out.below.size) (HROW.out _ HLB.out.below) ?_ ?_ ?_ ?_ ?_; (· first | kernel_rfl | rfl); (· omega); (· rfl); (· rfl); (· rfl); intro v1 w1 hown1 hg1 hat1; rw [List.nil_append, Nat.zero_add] at hown1; have hl1 := HLB.out.grown hg1; have hb1 := Below.own HLB.out.below HLB.out.row (Nat.le_refl _) hg1; obtain ⟨x0, x1, x2⟩ := HBX.out w1 hb1; refine hK _ _ ?_; clear hK K)
                      | (refine stepw_steps ?_ (.tmp 28) (.tmp 29) (c := co) (HLC.out.row) (HLC.out.below.size) (HROW.out _ HLC.out.below) ?_ ?_ ?_ ?_ ?_; (· first | kernel_rfl | rfl); (· omega); (· rfl); (· rfl); (· rfl); intro v1 w1 hown1 hg1 hat1; rw [List.nil_append, Nat.zero_add] at hown1; have hl1 := HLC.out.grown hg1; have hb1 := Below.own HLC.out.below HLC.out.row (Nat.le_refl _) hg1; obtain ⟨x0, x1, x2⟩ := HBX.out w1 hb1; refine hK _ _ ?_; clear hK K)
                    try (refine hK _ _ ?_; clear hK K)
                    refine wpAny_ready (rs := [9]) (by kernel_rfl) (by simp) ?_
                    refine AllReady.cons rfl (fun K hK => ?_) AllReady.nil
                    first
                      | (refine stepw_steps ?_ (.tmp 30) (.tmp 32) (c := 1) (hown1) (hb1.size) (hl1) ?_ ?_ ?_ ?_ ?_; (· first | kernel_rfl | rfl); (· omega); (· rfl); (· rfl); (· rfl); intro v2 w2' hown2 hg2 hat2; have hb2 := Below.own hb1 hown1 (Nat.le_refl _) hg2; obtain ⟨A2, c2, rfl, hc2⟩ := own_form2 hown2; have hill := sillegal_any A2 (m + 1) c2 (L ++ [⟨a, b, c⟩]) m w2' (ROps.of_own hown2 (by omega)) (by omega) (fun _ _ _ => heldI_le1 _ _ _); obtain ⟨bb, hbb⟩ : ∃ z, illAtB (L ++ [⟨a, b, c⟩]) m = z := ⟨_, rfl⟩; rw [hbb] at hill; have HILL := Lib.hid hill; have HB2 := Lib.hid hb2; clear hill hbb hb2 hown2 hg2 hat2 hown1 hg1 hat1 hb1 x0 x1 x2; refine hK _ _ ?_; clear hK K)
                      | (refine stepw_steps ?_ (.tmp 30) (.tmp 32) (c := 1) (hown1.alloc _) (by have := hb1.size; simp; omega) (ROps.lit1 _ ⟨a, b, c⟩ _) ?_ ?_ ?_ ?_ ?_; (· first | kernel_rfl | rfl); (· omega); (· rfl); (· rfl); (· rfl); intro v2 w2' hown2 hg2 hat2; have hb2 := Below.own hb1 hown1 (Nat.le_refl _) (World.grownBy.trans (World.grownBy_alloc w1 _ _) hg2); obtain ⟨A2, c2, rfl, hc2⟩ := own_form2 hown2; have hill := sillegal_any A2 (m + 1) c2 (L ++ [⟨a, b, c⟩]) m w2' (ROps.of_own hown2 (by omega)) (by omega) (fun _ _ _ => heldI_le1 _ _ _); obtain ⟨bb, hbb⟩ : ∃ z, illAtB (L ++ [⟨a, b, c⟩]) m = z := ⟨_, rfl⟩; rw [hbb] at hill; have HILL := Lib.hid hill; have HB2 := Lib.hid hb2; clear hill hbb hb2 hown2 hg2 hat2 hown1 hg1 hat1 hb1 x0 x1 x2; refine hK _ _ ?_; clear hK K)
                    try (refine hK _ _ ?_; clear hK K)
                    refine wpAny_ready (rs := [12]) (by kernel_rfl) (by simp) ?_
                    refine AllReady.cons rfl (fun K hK => ?_) AllReady.nil
                    go_simp
                    go_wp2_with (go_at_call 84; go_loud (refine HILL.out.mono ?_; rintro e w9 ⟨rfl, hb9⟩; have HB9 := Lib.hid (HB2.out.trans (hb9.mono HB2.out.size)); clear hb9))
                    try (refine hK _ _ ?_; clear hK K)
                    refine wpAny_take (i := 13) (v := ?_) rfl (by kernel_rfl) (by kernel_rfl) (by kernel_rfl) (fun _ _ _ h => h) (Or.inl ⟨by kernel_rfl, ?_⟩) ?_
                    rotate_left
                    · intro w; go_simp; try with_reducible rfl
                    refine wpAny_take (i := 14) (v := ?_) rfl (by kernel_rfl) (by kernel_rfl) (by kernel_rfl) (fun _ _ _ h => h) (Or.inl ⟨by kernel_rfl, ?_⟩) ?_
                    rotate_left
                    · intro w; go_simp; try with_reducible rfl
                    refine wpAny_done (by kernel_rfl) ?_ _
                    try go_simp
                    go_wp2_with fail
                    go_meet
                    obtain ⟨x0, x1, x2⟩ := HBX.out w9 HB9.out
                    exact ⟨_, rfl, HSP.out.below HB9.out, x0, x1, x2⟩
                · skip
                  go_simp
                  try (refine hK _ _ ?_; clear hK K)
                  refine wpAny_ready (rs := [4]) (by kernel_rfl) (by simp) ?_
                  refine AllReady.cons rfl (fun K hK => ?_) AllReady.nil
                  go_simp
                  try (refine hK _ _ ?_; clear hK K)
                  refine wpAny_ready (rs := [6]) (by kernel_rfl) (by simp) ?_
                  refine AllReady.cons rfl (fun K hK => ?_) AllReady.nil
                  first
                    | (refine stepw_steps ?_ (.tmp 28) (.tmp 29) (c := co) (HEA.out) (HBA.out.size) (HROW.out _ HBA.out) ?_ ?_ ?_ ?_ ?_; (· first | kernel_rfl | rfl); (· omega); (· rfl); (· rfl); (· rfl); intro v1 w1 hown1 hg1 hat1; rw [List.nil_append, Nat.zero_add] at hown1; have hb1 := Below.own HBA.out HEA.out (Nat.le_refl _) hg1; obtain ⟨x0, x1, x2⟩ := HBX.out w1 hb1; refine hK _ _ ?_; clear hK K)
                    | (refine stepw_steps ?_ (.tmp 28) (.tmp 29) (c := co) (HLB.out.row) (HLB.out.below.size) (HROW.out _ HLB.out.below) ?_ ?_ ?_ ?_ ?_; (· first | kernel_rfl | rfl); (· omega); (· rfl); (· rfl); (· rfl); intro v1 w1 hown1 hg1 hat1; rw [List.nil_append, Nat.zero_add] at hown1; have hl1 := HLB.out.grown hg1; have hb1 := Below.own HLB.out.below HLB.out.row (Nat.le_refl _) hg1; obtain ⟨x0, x1, x2⟩ := HBX.out w1 hb1; refine hK _ _ ?_; clear hK K)
                    | (refine stepw_steps ?_ (.tmp 28) (.tmp 29) (c := co) (HLC.out.row) (HLC.out.below.size) (HROW.out _ HLC.out.below) ?_ ?_ ?_ ?_ ?_; (· first | kernel_rfl | rfl); (· omega); (· rfl); (· rfl); (· rfl); intro v1 w1 hown1 hg1 hat1; rw [List.nil_append, Nat.zero_add] at hown1; have hl1 := HLC.out.grown hg1; have hb1 := Below.own HLC.out.below HLC.out.row (Nat.le_refl _) hg1; obtain ⟨x0, x1, x2⟩ := HBX.out w1 hb1; refine hK _ _ ?_; clear hK K)
                  try (refine hK _ _ ?_; clear hK K)
                  refine wpAny_ready (rs := [9]) (by kernel_rfl) (by simp) ?_
                  refine AllReady.cons rfl (fun K hK => ?_) AllReady.nil
                  first
                    | (refine stepw_steps ?_ (.tmp 30) (.tmp 32) (c := 1) (hown1) (hb1.size) (hl1) ?_ ?_ ?_ ?_ ?_; (· first | kernel_rfl | rfl); (· omega); (· rfl); (· rfl); (· rfl); intro v2 w2' hown2 hg2 hat2; have hb2 := Below.own hb1 hown1 (Nat.le_refl _) hg2; obtain ⟨A2, c2, rfl, hc2⟩ := own_form2 hown2; have hill := sillegal_any A2 (m + 1) c2 (L ++ [⟨a, b, c⟩]) m w2' (ROps.of_own hown2 (by omega)) (by omega) (fun _ _ _ => heldI_le1 _ _ _); obtain ⟨bb, hbb⟩ : ∃ z, illAtB (L ++ [⟨a, b, c⟩]) m = z := ⟨_, rfl⟩; rw [hbb] at hill; have HILL := Lib.hid hill; have HB2 := Lib.hid hb2; clear hill hbb hb2 hown2 hg2 hat2 hown1 hg1 hat1 hb1 x0 x1 x2; refine hK _ _ ?_; clear hK K)
                    | (refine stepw_steps ?_ (.tmp 30) (.tmp 32) (c := 1) (hown1.alloc _) (by have := hb1.size; simp; omega) (ROps.lit1 _ ⟨a, b, c⟩ _) ?_ ?_ ?_ ?_ ?_; (· first | kernel_rfl | rfl); (· omega); (· rfl); (· rfl); (· rfl); intro v2 w2' hown2 hg2 hat2; have hb2 := Below.own hb1 hown1 (Nat.le_refl _) (World.grownBy.trans (World.grownBy_alloc w1 _ _) hg2); obtain ⟨A2, c2, rfl, hc2⟩ := own_form2 hown2; have hill := sillegal_any A2 (m + 1) c2 (L ++ [⟨a, b, c⟩]) m w2' (ROps.of_own hown2 (by omega)) (by omega) (fun _ _ _ => heldI_le1 _ _ _); obtain ⟨bb, hbb⟩ : ∃ z, illAtB (L ++ [⟨a, b, c⟩]) m = z := ⟨_, rfl⟩; rw [hbb] at hill; have HILL := Lib.hid hill; have HB2 := Lib.hid hb2; clear hill hbb hb2 hown2 hg2 hat2 hown1 hg1 hat1 hb1 x0 x1 x2; refine hK _ _ ?_; clear hK K)
                  try (refine hK _ _ ?_; clear hK K)
                  refine wpAny_ready (rs := [12]) (by kernel_rfl) (by simp) ?_
                  refine AllReady.cons rfl (fun K hK => ?_) AllReady.nil
                  go_simp
                  go_wp2_with (go_at_call 84; go_loud (refine HILL.out.mono ?_; rintro e w9 ⟨rfl, hb9⟩; have HB9 := Lib.hid (HB2.out.trans (hb9.mono HB2.out.size)); clear hb9))
                  try (refine hK _ _ ?_; clear hK K)
                  refine wpAny_take (i := 13) (v := ?_) rfl (by kernel_rfl) (by kernel_rfl) (by kernel_rfl) (fun _ _ _ h => h) (Or.inl ⟨by kernel_rfl, ?_⟩) ?_
                  rotate_left
                  · intro w; go_simp; try with_reducible rfl
                  refine wpAny_take (i := 14) (v := ?_) rfl (by kernel_rfl) (by kernel_rfl) (by kernel_rfl) (fun _ _ _ h => h) (Or.inl ⟨by kernel_rfl, ?_⟩) ?_
                  rotate_left
                  · intro w; go_simp; try with_reducible rfl
                  refine wpAny_done (by kernel_rfl) ?_ _
                  try go_simp
                  go_wp2_with fail
                  go_meet
                  obtain ⟨x0, x1, x2⟩ := HBX.out w9 HB9.out
                  exact ⟨_, rfl, HSP.out.below HB9.out, x0, x1, x2⟩
          case rest =>
            obtain ⟨bb, rfl, hS, z0, z1, z2⟩ := hcut
            have HS2 := Lib.hid hS
            obtain ⟨⟨xs, hx⟩, ⟨q2, hrq2, hq2⟩, hOq⟩ := hS
            have HR2 := Lib.hid hrq2
            have HO2 := Lib.hid hOq
            have hszc := hOq.size
            have hj1 : ((j - 1 : Nat) : Int) = (j : Int) - 1 := by omega
            have HJ1 := Lib.hid hj1
            try clear hcut
            clear hrq2 hOq hj1 HOBX HWD HSD hrd
            cases bb
            · clear hx
              go_wp2_with fail
              go_roundw
              case rel => exact ⟨m, j - 1, by omega, by rw [HJ1.out], HS2.out.mono (by omega)⟩
              case measure => simp [intOf]; omega
            · have HXX := Lib.hid hx
              go_wp2_with (at_builtin; go_loud (refine app_steps (.tmp 39) (.tmp 41) (hx.alloc _) (by simp; omega) (ROps.lit1 _ ⟨_, _, _⟩ _) (by omega) rfl rfl rfl rfl ?_; intro v6 w6' hown6 hg6 hat6))
              have hg6' := World.grownBy.trans (World.grownBy_alloc _ _ _) hg6
              have HE : Hid (StG w rb (pq + 1) v6 (m + 1) w6') := ⟨⟨_, hown6⟩, ⟨q2, HR2.out.grown hg6' fun k hk => by have := (World.ownsRow.lt HXX.out k hk).1; omega, hq2⟩, HO2.out.own HXX.out (Nat.le_refl _) hg6'⟩
              clear hown6 hg6 hg6' hat6
              go_roundw
              case rel => exact ⟨m + 1, j - 1, by omega, by rw [HJ1.out], HE.out.mono (by omega)⟩
              case measure => simp [intOf]; omega
        · have hj0 : j = 0 := by omega
          subst hj0
          have HSG : Hid (StG w rb 400 (.slice Ao m co) m wo) := HS.out
          have hm40 : m ≤ 40 := by omega
          clear hx hrq HS
          obtain ⟨p2, hr2', hp2⟩ := HSG.out.rd
          go_wp2_with fail
          refine (pick_any rb p2 30 _ hr2' (by omega) (by omega)).mono ?_
          rintro e wy ⟨kk, rfl, hry, _, _, hoy⟩
          have HSY := Lib.hid (HSG.out.step hry (Nat.succ_le_succ hp2) hoy hlt)
          clear HSG hr2' hry hoy
          by_cases k0 : kk = 0
          · subst k0
            by_cases hm0 : 0 < m
            · obtain ⟨xs0, hx0⟩ := HSY.out.row
              obtain ⟨g, c', hve, hg1, hg2⟩ := own_block hx0 hm0
              injection hve with hA _ hc
              subst hA; subst hc
              go_wp2_with fail
              obtain ⟨p3, hr3, hp3⟩ := HSY.out.rd
              refine (pick_any rb p3 _ _ hr3 (by omega) (by omega)).mono ?_
              rintro e wz ⟨i, rfl, hrz, _, hi, hoz⟩
              obtain ⟨hi0, hi1⟩ := hi (by omega)
              obtain ⟨i, rfl⟩ := Int.eq_ofNat_of_zero_le hi0
              have HSZ := HSY.out.step hrz (Nat.succ_le_succ hp3) hoz hlt
              have hltz := hrz.lt
              go_wp2_with fail
              refine (one_any rb _ _ _ _ _ _ (hrz.alloc _) (by omega) (lit3 rfl 5 (-1) 2) (by omega) (far_lit hltz)).mono ?_
              rintro e wv ⟨v, rfl, _, hrv, hov⟩
              have HSV := (HSZ.alloc _).step hrv (Nat.succ_le_succ (Nat.succ_le_succ hp3)) hov hlt
              obtain ⟨xs4, hx4⟩ := HSV.row
              obtain ⟨o4, d0, d1, d2⟩ := own_cells3S hx4 (i := i) (by omega)
              have hf := hx4.frozenAt (i * 3 + 1)
              have HE := Lib.hid (((HSV.put hlt (i := i) (by omega) v).2).done hm40 hmc (by omega))
              clear hx0 hx4 HSZ HSV
              go_wp2_with fail
              go_ret
              exact HE.out
            · have hm1 : m = 0 := by omega
              have HE := Lib.hid (HSY.out.done hm40 hmc (by omega))
              (try subst hm1)
              go_wp2_with fail
              go_ret
              exact HE.out
          · by_cases k1 : kk = 1
            · subst k1
              by_cases hm0 : 0 < m
              · obtain ⟨xs0, hx0⟩ := HSY.out.row
                obtain ⟨g, c', hve, hg1, hg2⟩ := own_block hx0 hm0
                injection hve with hA _ hc
                subst hA; subst hc
                go_wp2_with fail
                obtain ⟨p3, hr3, hp3⟩ := HSY.out.rd
                refine (pick_any rb p3 _ _ hr3 (by omega) (by omega)).mono ?_
                rintro e wz ⟨i, rfl, hrz, _, hi, hoz⟩
                obtain ⟨hi0, hi1⟩ := hi (by omega)
                obtain ⟨i, rfl⟩ := Int.eq_ofNat_of_zero_le hi0
                have HSZ := HSY.out.step hrz (Nat.succ_le_succ hp3) hoz hlt
                have hltz := hrz.lt
                go_wp2_with fail
                refine (one_any rb _ _ _ _ _ _ (hrz.alloc _) (by omega) (lit2 rfl 4 (-1)) (by omega) (far_lit hltz)).mono ?_
                rintro e wv ⟨v, rfl, _, hrv, hov⟩
                have HSV := (HSZ.alloc _).step hrv (Nat.succ_le_succ (Nat.succ_le_succ hp3)) hov hlt
                obtain ⟨xs4, hx4⟩ := HSV.row
                obtain ⟨o4, d0, d1, d2⟩ := own_cells3S hx4 (i := i) (by omega)
                have hf := hx4.frozenAt (i * 3)
                have HE := Lib.hid (((HSV.put hlt (i := i) (by omega) v).1).done hm40 hmc (by omega))
                clear hx0 hx4 HSZ HSV
                go_wp2_with fail
                go_ret
                exact HE.out
              · have hm1 : m = 0 := by omega
                have HE := Lib.hid (HSY.out.done hm40 hmc (by omega))
                (try subst hm1)
                go_wp2_with fail
                go_ret
                exact HE.out
            · by_cases k2 : kk = 2
              · subst k2
                by_cases hm1 : 1 < m
                · obtain ⟨xs0, hx0⟩ := HSY.out.row
                  obtain ⟨g, c', hve, hg1, hg2⟩ := own_block hx0 (by omega)
                  injection hve with hA _ hc
                  subst hA; subst hc
                  clear hx0
                  have HE := Lib.hid (HSY.out.tailG hm40 hm1 hmc (by omega))
                  have hm2 : 1 ≤ co := by omega
                  have hm3 : ¬ co = 1 := by omega
                  go_wp2_with fail
                  go_ret
                  exact HE.out
                · have HE := Lib.hid (HSY.out.done hm40 hmc (by omega))
                  go_wp2_with fail
                  go_ret
                  exact HE.out
              · have HE := Lib.hid (HSY.out.done hm40 hmc (by omega))
                go_wp2_with fail
                go_ret
                exact HE.out
end Go.Proofs.Ytcakjhappchlmaa
namespace Go.Proofs.Ytcakjhappchlmaa
open Go.RowKit Go.BigFrame
set_option linter.unusedVariables false


set_option maxRecDepth 100000 in
set_option maxHeartbeats 400000 in
theorem IndexFuncSt_any (A : Option Addr) (n c : Nat) (s : List OpV) (F : FuncId) (caps : Array Value) (p : OpV → Bool) (w : World) (hx : ROps w A n s) (hf : ClosOp w F caps s p) :
    Calls Try.prog 122 #[.slice A n c, .func (.func F) #[] caps] w (IdxPost s p w) := by
  have hn := hx.2.1
  have hl := hx.1
  have HX := Lib.hid hx
  have HF := Lib.hid hf
  clear hx hf
  go_enter Try.func122, Try.ntmps122
  go_wp2_with fail
  go_loopw [8] (fun i wr => ∃ k : Nat, k ≤ n ∧ i = .int .i64 k ∧ Below w.heap.size w wr ∧ (∀ j, j < k → ∀ o, s[j]? = some o → p o = false)) (fun i _ => n - (intOf i).toNat)
  case atStart => exact ⟨0, Nat.zero_le _, rfl, Below.refl _ _, by omega⟩
  case round =>
    obtain ⟨k, hk, rfl, hb, hno⟩ := hrel
    by_cases hlt : k < n
    · obtain ⟨b, off, o, rfl, hbl, ho, c0, c1, c2⟩ := (HX.out.below hb (Nat.le_refl _)).at_ hlt
      have hcl := HF.out.2 wr o hb (List.mem_of_getElem? ho)
      have hrun := HF.out.1
      unfold Runs at hrun
      unfold OpV.val at hcl
      have HN : Hid (p o = false → ∀ j, j < k + 1 → ∀ o, s[j]? = some o → p o = false) := fun h => no_snoc ho hno h
      have HT : Hid (p o = true → ∀ w', Below w.heap.size w w' → IdxPost s p w (.returned (.int .i64 k)) w') := fun h w' hb' =>
        ⟨hb', .inr ⟨List.any_eq_true.2 ⟨o, List.mem_of_getElem? ho, h⟩, k, by omega, ⟨o, ho, h⟩, hno, rfl⟩⟩
      have HC := Lib.hid hcl
      clear hno ho hcl
      cases hp : p o
      · rw [hp] at HC
        go_wp2_with fail
        refine (HC.out).mono ?_
        rintro e w1 ⟨rfl, hb1⟩
        go_wp2_with fail
        go_roundw
        case rel => exact ⟨k + 1, by omega, by go_num, hb.trans (hb1.mono hb.size), HN.out hp⟩
        case measure => simp [intOf]; omega
      · rw [hp] at HC
        go_wp2_with fail
        refine (HC.out).mono ?_
        rintro e w1 ⟨rfl, hb1⟩
        go_wp2_with fail
        go_ret
        exact HT.out hp _ (hb.trans (hb1.mono hb.size))
    · have HE := Lib.hid (find_none_all (s := s) (p := p) (fun j hj => hno j (by omega)))
      clear hno
      go_wp2_with fail
      go_ret
      exact ⟨hb, .inl ⟨HE.out, rfl⟩⟩


set_option maxHeartbeats 400000 in
theorem ContainsFuncSt_any (A : Option Addr) (n c : Nat) (s : List OpV) (F : FuncId) (caps : Array Value) (p : OpV → Bool) (w : World) (hx : ROps w A n s) (hf : ClosOp w F caps s p) :
    Calls Try.prog 73 #[.slice A n c, .func (.func F) #[] caps] w fun e w' => e = .returned (.bool (s.any p)) ∧ Below w.heap.size w w' := by
  have HI := Lib.hid (IndexFuncSt_any A n c s F caps p w hx hf)
  clear hx hf
  go_enter Try.func73, Try.ntmps73
  go_wp2_with fail
  refine (HI.out).mono ?_
  rintro e w1 ⟨hb, ⟨ha, rfl⟩ | ⟨ha, k, hk, _, _, rfl⟩⟩
  · have HA := Lib.hid ha
    clear ha
    go_wp2_with fail
    go_ret
    exact ⟨ret_bool HA.out.symm, hb⟩
  · have HA := Lib.hid ha
    clear ha
    go_wp2_with fail
    go_ret
    exact ⟨ret_bool HA.out.symm, hb⟩


set_option maxHeartbeats 1000000 in
theorem ValidSteps1_any (o : OpV) (w : World) :
    Calls Try.prog 74 #[o.val] w fun e w' => e = .returned (.bool (!okStep o)) ∧ Below w.heap.size w w' := by
  obtain ⟨t, k, x⟩ := o
  unfold OpV.val
  cases h1 : inR t 0 3 <;> cases h2 : inR k 0 4 <;> cases h3 : inR x 0 2
  all_goals
    go_enter Try.func74, Try.ntmps74
    go_wp2_with (go_at_call 75; refine (within_any _ _ _ _).mono ?_; rintro e w' ⟨rfl, rfl⟩)
    go_ret
    exact ⟨ret_bool (by simp [okStep, *]), by (repeat (first | exact Below.refl _ _ | assumption | refine B_alloc ?_ (Nat.le_refl _) _ | refine Below.drew ?_ | refine B_drewN ?_ _ | refine B_after (by assumption) ?_ | (refine B_set ?_ ?_; rotate_left; (first | exact Nat.le_refl _ | (simp; done) | (simp at *; omega)))))⟩
theorem runs_ValidSteps1 : Runs 74 := runs_of Try.func74 (by kernel_rfl) rfl
theorem validL_any {st : List OpV} (h : st.length ≤ 40) : (!(st.any fun o => !okStep o)) = validL st := by
  unfold validL
  rw [List.all_eq_not_any_not, show decide (st.length ≤ 40) = true by simp [h]]
  simp
set_option maxHeartbeats 1000000 in
theorem ValidSteps_any (A : Option Addr) (n c : Nat) (st : List OpV) (w : World) (hx : ROps w A n st) :
    Calls Try.prog 16 #[.slice A n c] w fun e w' => e = .returned (.bool (validL st)) ∧ Below w.heap.size w w' := by
  have hn := hx.2.1
  have hl := hx.1
  have hC := ContainsFuncSt_any A n c st 74 #[] (fun o => !okStep o) w hx ⟨runs_ValidSteps1, fun W o _ _ => ValidSteps1_any o W⟩
  have HC := Lib.hid hC
  clear hx hC
  by_cases h40 : n ≤ 40
  · have HV := Lib.hid (validL_any (st := st) (by omega))
    obtain ⟨b, hb⟩ : ∃ b, (st.any fun o => !okStep o) = b := ⟨_, rfl⟩
    rw [hb] at HC HV
    clear hb
    go_enter Try.func16, Try.ntmps16
    go_wp2_with (go_at_call 73; refine HC.out.mono ?_; rintro e w1 ⟨rfl, hb1⟩)
    go_ret
    exact ⟨ret_bool HV.out, hb1⟩
  · have hv : validL st = false := by unfold validL; rw [show decide (st.length ≤ 40) = false by simp; omega]; rfl
    have HV := Lib.hid hv
    clear hv
    go_enter Try.func16, Try.ntmps16
    go_wp2_with fail
    go_ret
    exact ⟨ret_bool HV.out.symm, Below.refl _ _⟩

set_option maxRecDepth 100000 in
set_option maxHeartbeats 1000000 in
theorem svalidSteps_any (A : Option Addr) (n c : Nat) (st : List OpV) (w : World) (hx : ROps w A n st) :
    Calls Try.prog 76 #[.slice A n c] w fun e w' => e = .returned (.bool (validL st)) ∧ Below w.heap.size w w' := by
  have hn := hx.2.1
  have hl := hx.1
  have HX := Lib.hid hx
  clear hx
  go_enter Try.func76, Try.ntmps76
  go_wp2_with fail
  go_loopw [3] (fun i wr => ∃ k : Nat, k ≤ n ∧ i = .int .i64 k ∧ Below w.heap.size w wr ∧ ∀ j o, j < k → st[j]? = some o → okStep o = true) (fun i _ => n - (intOf i).toNat)
  case atStart => exact ⟨0, Nat.zero_le _, rfl, Below.refl _ _, by omega⟩
  case round =>
    obtain ⟨k, hk, rfl, hb, hno⟩ := hrel
    by_cases hlt : k < n
    · obtain ⟨b, off, o, rfl, hbl, ho, c0, c1, c2⟩ := (HX.out.below hb (Nat.le_refl _)).at_ hlt
      have HN := Lib.hid hno
      have HO := Lib.hid ho
      have HBAD : Hid (okStep o = false → validL st = false) := fun h => by
        unfold validL
        rw [show st.all okStep = false by rw [List.all_eq_false]; exact ⟨o, List.mem_of_getElem? ho, by simp [h]⟩, Bool.and_false]
      clear hno ho
      obtain ⟨t, kd, x⟩ := o
      cases h1 : inR t 0 3 <;> cases h2 : inR kd 0 4 <;> cases h3 : inR x 0 2
      all_goals
        go_wp2_with (go_at_call 80; refine (inRange_any _ _ _ _).mono ?_; rintro e w' ⟨rfl, rfl⟩)
        first
          | (go_ret; exact ⟨ret_bool (HBAD.out (by simp [okStep, *])).symm, hb⟩)
          | (go_roundw
             case rel =>
               refine ⟨k + 1, by omega, by go_num, hb, fun j o' hj ho' => ?_⟩
               by_cases e : j = k
               · subst e
                 rw [HO.out] at ho'
                 injection ho' with ho'
                 subst ho'
                 simp [okStep, *]
               · exact HN.out j o' (by omega) ho'
             case measure => simp [intOf]; omega)
    · have hall : st.all okStep = true := by
        rw [List.all_eq_true]
        intro o ho
        obtain ⟨j, hj⟩ := List.mem_iff_getElem?.1 ho
        exact hno j o (by have := (List.getElem?_eq_some_iff.1 hj).1; omega) hj
      have hv : decide ((n : Int) ≤ 40) = validL st := by unfold validL; rw [hall, Bool.and_true, hl]; exact decide_eq_decide.2 (by omega)
      have HV := Lib.hid hv
      clear hno hall hv
      go_wp2_with fail
      go_ret
      exact ⟨ret_bool HV.out, hb⟩
set_option maxHeartbeats 400000 in
theorem sValidSteps_any (A : Option Addr) (n c : Nat) (st : List OpV) (w : World) (hx : ROps w A n st) :
    Calls Try.prog 17 #[.slice A n c] w fun e w' => e = .returned (.bool (validL st)) ∧ Below w.heap.size w w' := by
  have HC := Lib.hid (svalidSteps_any A n c st w hx)
  clear hx
  go_enter Try.func17, Try.ntmps17
  go_wp2_with (go_at_call 76; refine HC.out.mono ?_; rintro e w1 ⟨rfl, hb1⟩)
  go_ret
  exact ⟨rfl, hb1⟩

/-- Steps are drawn. -/
def DrawnSt (w : World) (e : Ending) (w' : World) : Prop := ∃ (A : Option Addr) (m c : Nat) (xs : List OpV), e = .returned (.slice A m c) ∧ ROps w' A m xs ∧ m ≤ 40 ∧ m ≤ c ∧ Below w.heap.size w w'
set_option maxHeartbeats 400000 in
theorem DrawValidSteps_any (A : Option Addr) (n c : Nat) (w : World) (hx : RBytes w A n) (hc : n ≤ c) :
    Calls Try.prog 15 #[.slice A n c] w (DrawnSt w) := by
  go_enter Try.func15, Try.ntmps15
  go_wp2_with fail
  refine (newReader_any A n c w hx hc).mono ?_
  rintro e w1 ⟨rb, rfl, hrb, hr, hb⟩
  go_wp2_with fail
  refine (someSteps_any rb 0 w1 hr (by omega)).mono ?_
  rintro e w2 ⟨A', m', c', p', xs, rfl, hmc, hm, hx', _, _, hO, _⟩
  go_wp2_with fail
  go_ret
  have hs := hb.size
  exact ⟨A', m', c', xs, rfl, hx', hm, hmc, hb.trans ⟨hO.os, hO.tape, hO.output, hO.size, fun k hk => hO.heap (by omega) (by omega)⟩⟩

set_option maxHeartbeats 400000 in
theorem DrawIllegalAt_any (A : Option Addr) (n c : Nat) (w : World) (hx : RBytes w A n) (hc : n ≤ c) :
    Calls Try.prog 21 #[.slice A n c] w (DrawnSt w) := by
  go_enter Try.func21, Try.ntmps21
  go_wp2_with fail
  refine (newReader_any A n c w hx hc).mono ?_
  rintro e w1 ⟨rb, rfl, hrb, hr, hb⟩
  go_wp2_with fail
  refine (someSteps_any rb 0 w1 hr (by omega)).mono ?_
  rintro e w2 ⟨A', m', c', p', xs, rfl, hmc, hm, hx', _, _, hO, _⟩
  go_wp2_with fail
  go_ret
  have hs := hb.size
  exact ⟨A', m', c', xs, rfl, hx', hm, hmc, hb.trans ⟨hO.os, hO.tape, hO.output, hO.size, fun k hk => hO.heap (by omega) (by omega)⟩⟩

set_option maxHeartbeats 400000 in
theorem DrawIsTwoPhase_any (A : Option Addr) (n c : Nat) (w : World) (hx : RBytes w A n) (hc : n ≤ c) :
    Calls Try.prog 45 #[.slice A n c] w (DrawnSt w) := by
  go_enter Try.func45, Try.ntmps45
  go_wp2_with fail
  refine (newReader_any A n c w hx hc).mono ?_
  rintro e w1 ⟨rb, rfl, hrb, hr, hb⟩
  go_wp2_with fail
  refine (someSteps_any rb 0 w1 hr (by omega)).mono ?_
  rintro e w2 ⟨A', m', c', p', xs, rfl, hmc, hm, hx', _, _, hO, _⟩
  go_wp2_with fail
  go_ret
  have hs := hb.size
  exact ⟨A', m', c', xs, rfl, hx', hm, hmc, hb.trans ⟨hO.os, hO.tape, hO.output, hO.size, fun k hk => hO.heap (by omega) (by omega)⟩⟩

set_option maxHeartbeats 400000 in
theorem DrawPointsOf_any (A : Option Addr) (n c : Nat) (w : World) (hx : RBytes w A n) (hc : n ≤ c) :
    Calls Try.prog 24 #[.slice A n c] w (DrawnSt w) := by
  go_enter Try.func24, Try.ntmps24
  go_wp2_with fail
  refine (newReader_any A n c w hx hc).mono ?_
  rintro e w1 ⟨rb, rfl, hrb, hr, hb⟩
  go_wp2_with fail
  refine (someSteps_any rb 0 w1 hr (by omega)).mono ?_
  rintro e w2 ⟨A', m', c', p', xs, rfl, hmc, hm, hx', _, _, hO, _⟩
  go_wp2_with fail
  go_ret
  have hs := hb.size
  exact ⟨A', m', c', xs, rfl, hx', hm, hmc, hb.trans ⟨hO.os, hO.tape, hO.output, hO.size, fun k hk => hO.heap (by omega) (by omega)⟩⟩

set_option maxHeartbeats 400000 in
theorem DrawAccessesOf_any (A : Option Addr) (n c : Nat) (w : World) (hx : RBytes w A n) (hc : n ≤ c) :
    Calls Try.prog 29 #[.slice A n c] w (DrawnSt w) := by
  go_enter Try.func29, Try.ntmps29
  go_wp2_with fail
  refine (newReader_any A n c w hx hc).mono ?_
  rintro e w1 ⟨rb, rfl, hrb, hr, hb⟩
  go_wp2_with fail
  refine (someSteps_any rb 0 w1 hr (by omega)).mono ?_
  rintro e w2 ⟨A', m', c', p', xs, rfl, hmc, hm, hx', _, _, hO, _⟩
  go_wp2_with fail
  go_ret
  have hs := hb.size
  exact ⟨A', m', c', xs, rfl, hx', hm, hmc, hb.trans ⟨hO.os, hO.tape, hO.output, hO.size, fun k hk => hO.heap (by omega) (by omega)⟩⟩

end Go.Proofs.Ytcakjhappchlmaa
