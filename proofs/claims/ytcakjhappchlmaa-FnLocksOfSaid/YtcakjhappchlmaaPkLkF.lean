/-
  Texts that the proofs rest on, joined: PkLkF.
-/
import Derived.Test.YtcakjhappchlmaaPkLkE
import Derived.Deep.CutRange
namespace Go.Proofs.Ytcakjhappchlmaa
open Go.RowKit Go.BigFrame
set_option linter.unusedVariables false

def lkStep (L : List OpV) (o : OpV) : List OpV := if isEnd o then dropL L o.tx else (if heldI L o.tx o.item < o.kind then L ++ [⟨o.tx, o.kind, o.item⟩] else L) ++ [⟨o.tx, 3 + o.kind, o.item⟩]
def locksS (s : List OpV) : List OpV := s.foldl lkStep []
theorem locksS_succ {s : List OpV} {k : Nat} {o : OpV} (h : s[k]? = some o) : locksS (s.take (k + 1)) = lkStep (locksS (s.take k)) o := by
  unfold locksS
  rw [take_snoc h, List.foldl_append, List.foldl_cons, List.foldl_nil]

theorem acc_kind {o : OpV} (h : validOp o = true) (he : isEnd o = false) : 0 ≤ o.kind ∧ o.kind ≤ 1 := by
  unfold validOp at h
  rw [he] at h
  simp only [Bool.and_eq_true, Bool.or_eq_true, Bool.false_and, isAcc, beq_iff_eq] at h
  rcases h.2 with h1 | h1
  · omega
  · cases h1
section
variable {w : World} {ops : Array Oper} {o : Oper} {a : Act} {K : Act → World → Prop} {Q : Exit → Act → World → Prop} {E : Prop}
theorem step_steps (s x : Operand) {base : Nat} {v : Value} {n : Nat} {xs : List OpV} (hown : w.ownsRow base 31 3 v n (opCells xs)) (hbase : base ≤ w.heap.size)
    {A : Option Addr} {m c : Nat} {ys : List OpV} (hr : ROps w A m ys) (hn : n ≤ 1099511627776)
    (hgd : o.guard = none) (ho : o.op = .call { callee := .builtin .append, args := #[s, x], argTypes := #[23, 23] }) (hs : a.eval s = v) (hx : a.eval x = .slice A m c)
    (h : ∀ v' w', w'.ownsRow base 31 3 v' (n + m) (opCells (xs ++ ys)) → w.grownBy w' v.ownBlock → (v'.ownBlock = v.ownBlock ∨ v'.ownBlock = some w.heap.size) → K (a.put o.dst v') w') :
    if Region.wanted o (yielded ops a.tmps) = true then Oper.wp Try.prog o a w K Q else E := by
  obtain ⟨i0, hi, hz0, hz1, hz2⟩ := info_parts stepInfo
  have hm := hr.2.1
  refine step_app hgd s x _ ho base _ i0 _ 3 24 Try.underlying23 hi hz0 hz1 hz2 rfl (by decide) v n _ hs hown A m c _ hx hr.src (by simp only [maxLen]; omega) (by omega) hbase ?_
  intro v' w' h1 h2 h3
  rw [← opCells_append] at h1
  exact h v' w' h1 h2 h3
end
/-- A slice of steps in memory of the call's own, or nil. -/
def RetSteps (w : World) (xs : List OpV) (e : Ending) (w' : World) : Prop := ∃ v, e = .returned v ∧ w'.ownsRow w.heap.size 31 3 v xs.length (opCells xs) ∧ Below w.heap.size w w'

set_option maxRecDepth 100000 in
set_option maxHeartbeats 4000000 in
theorem sLocksOf_any (A : Option Addr) (n c : Nat) (s : List OpV) (w : World) (hx : ROps w A n s) :
    Calls Try.prog 38 #[.slice A n c] w (RetSteps w (orNil (validS s && decide (s.length ≤ 12)) (locksS s))) := by
  have hn := hx.2.1
  have hl := hx.1
  have HX := Lib.hid hx
  have HL := Lib.hid hl
  clear hx
  have HV := Lib.hid (svalid_any A n c s w HX.out)
  obtain ⟨bv, hbv⟩ : ∃ b, validS s = b := ⟨_, rfl⟩
  rw [hbv] at HV
  have HBV := Lib.hid hbv
  clear hbv hl
  cases bv
  · have HO : Hid (∀ w', Below w.heap.size w w' → RetSteps w (orNil (validS s && decide (s.length ≤ 12)) (locksS s)) (.returned (.slice none 0 0)) w') := fun w' hb => by
      rw [HBV.out]
      exact ⟨_, rfl, World.ownsRow_nil w' w.heap.size _ 3, hb⟩
    go_enter Try.func38, Try.ntmps38
    go_wp2_with (go_at_call 103; refine HV.out.mono ?_; rintro e w1 ⟨rfl, hb1⟩)
    go_ret
    exact HO.out _ hb1
  · by_cases hn12 : 12 < n
    · have HO : Hid (∀ w', Below w.heap.size w w' → RetSteps w (orNil (validS s && decide (s.length ≤ 12)) (locksS s)) (.returned (.slice none 0 0)) w') := fun w' hb => by
        rw [HBV.out, show decide (s.length ≤ 12) = false by have := HL.out; simp; omega]
        exact ⟨_, rfl, World.ownsRow_nil w' w.heap.size _ 3, hb⟩
      go_enter Try.func38, Try.ntmps38
      go_wp2_with (go_at_call 103; refine HV.out.mono ?_; rintro e w1 ⟨rfl, hb1⟩)
      go_ret
      exact HO.out _ hb1
    · have HO : Hid (orNil (validS s && decide (s.length ≤ 12)) (locksS s) = locksS s) := by
        show _ = _
        rw [HBV.out, show decide (s.length ≤ 12) = true by have := HL.out; simp; omega]
        rfl
      go_enter Try.func38, Try.ntmps38
      go_wp2_with (go_at_call 103; go_loud (refine HV.out.mono ?_; rintro e w1 ⟨rfl, hb1⟩; have hsz1 := hb1.size; have HST : Hid (Below w.heap.size w (w1.alloc (.cells #[] 31)) ∧ (w1.alloc (.cells #[] 31)).ownsRow w.heap.size 31 3 (.slice (some ⟨w1.heap.size, 0, none⟩) 0 0) 0 (opCells (locksS (s.take 0)))) := ⟨B_alloc hb1 (Nat.le_refl _) _, World.ownsRow_made w1 #[] 0 hsz1 (by decide) rfl⟩; clear hb1))
      go_loopw [3, 4] (fun ov i wr => ∃ (k m : Nat), k ≤ n ∧ m ≤ 3 * k ∧ i = .int .i64 k ∧ Below w.heap.size w wr ∧ wr.ownsRow w.heap.size 31 3 ov m (opCells (locksS (s.take k)))) (fun _ i _ => n - (intOf i).toNat)
      case atStart => exact ⟨0, 0, Nat.zero_le _, Nat.le_refl _, rfl, HST.out.1, HST.out.2⟩
      case round =>
        clear HST
        obtain ⟨wo, rfl⟩ : ∃ z : World, z = wr := ⟨_, rfl⟩
        obtain ⟨ov, rfl⟩ : ∃ z : Value, z = u3 := ⟨_, rfl⟩
        obtain ⟨k, m, hk, hmk, rfl, hb, hown⟩ := hrel
        obtain ⟨Ao, co, rfl, hmc⟩ := own_form2 hown
        by_cases hlt : k < n
        · obtain ⟨bs, os, o, hA, hbl, ho, _⟩ := HX.out.at_ hlt
          subst hA
          have hls := locksS_succ ho
          obtain ⟨L, hL⟩ : ∃ L, locksS (s.take k) = L := ⟨_, rfl⟩
          rw [hL] at hls hown
          have HCELL : Hid (∀ W, Below w.heap.size w W → W.cell? ⟨bs, os + k * 3, none⟩ = some (.int .i64 o.tx) ∧ W.cell? ⟨bs, os + k * 3 + 1, none⟩ = some (.int .i64 o.kind) ∧ W.cell? ⟨bs, os + k * 3 + 2, none⟩ = some (.int .i64 o.item)) := fun W hW => by
            obtain ⟨_, _, o', hA', _, ho', c0, c1, c2⟩ := (HX.out.below hW (Nat.le_refl _)).at_ hlt
            injection hA' with hA'; injection hA' with e1 e2 _; subst e1; subst e2
            rw [ho] at ho'
            injection ho' with ho'
            subst ho'
            exact ⟨c0, c1, c2⟩
          obtain ⟨be, hbe⟩ : ∃ b, isEnd o = b := ⟨_, rfl⟩
          have hkr : be = false → 0 ≤ o.kind ∧ o.kind ≤ 1 := fun h => acc_kind (((validS_iff s).1 HBV.out).2.1 o (List.mem_of_getElem? ho)) (hbe.trans h)
          obtain ⟨tx, kd, it⟩ := o
          simp only at HCELL
          have hkr2 := Lib.hid hkr
          have HBE := Lib.hid hbe
          clear hkr
          have HLS := Lib.hid hls
          have HLL := Lib.hid (own_lenOps hown)
          have HST : Hid (wo.ownsRow w.heap.size 31 3 (.slice Ao m co) m (opCells (dropTo L tx 0)) ∧ Below w.heap.size w wo) := ⟨hown, hb⟩
          clear hbe hls hL ho hown hb
          go_wp2_with fail
          go_loopw [3, 5] (fun ov i wr => ∃ (x m' : Nat), x ≤ 3 ∧ m' ≤ m + x ∧ (be = false → x = 0 ∧ m' = m) ∧ i = .int .i64 x ∧ Below w.heap.size w wr ∧ wr.ownsRow w.heap.size 31 3 ov m' (opCells (dropTo L tx x))) (fun _ i _ => 3 - (intOf i).toNat)
          case atStart => exact ⟨0, m, by omega, Nat.le_refl _, fun _ => ⟨rfl, rfl⟩, rfl, HST.out.2, HST.out.1⟩
          case round =>
            clear HST
            obtain ⟨x, m', hx3, hm', hbx, rfl, hb, hown⟩ := hrel
            obtain ⟨Ao, co', rfl, hmc'⟩ := own_form2 hown
            obtain ⟨c0, c1, c2⟩ := HCELL.out _ hb
            have hsz := hb.size
            have hkn : (k : Int) < (n : Int) := by omega
            have hk0 : (0 : Int) ≤ (k : Int) := by omega
            by_cases hxx : x < 3
            · cases be
              · obtain ⟨hx0, hmm⟩ := hbx rfl
                subst hx0; subst hmm
                have HOWN := Lib.hid (show wr.ownsRow w.heap.size 31 3 (.slice Ao m' co') m' (opCells L) from hown)
                clear hown hbx
                have hkd := hkr2.out rfl
                try simp only at hkd
                obtain ⟨h, hh⟩ : ∃ h, heldI L tx it = h := ⟨_, rfl⟩
                have hlm := HLL.out
                have HE : Hid (heldI (L.take m') tx it = h) := by show _ = _; rw [List.take_of_length_le (by omega)]; exact hh
                have HH := Lib.hid hh
                have hst : locksS (s.take (k + 1)) = (if h < kd then L ++ [⟨tx, kd, it⟩] else L) ++ [⟨tx, 3 + kd, it⟩] := by rw [HLS.out]; unfold lkStep; simp only; rw [if_neg (by rw [HBE.out]; simp), hh]
                have HST2 := Lib.hid hst
                clear hh hlm hst
                go_wp2_with (first
                  | (go_at_call 104; go_loud (refine (sends_any ⟨tx, kd, it⟩ _).mono ?_; rintro e w2 ⟨rfl, hb2'⟩; rw [HBE.out]; have hb2 := hb.trans (hb2'.mono hsz); have hsz2 := hb2.size; obtain ⟨e0, e1, e2⟩ := HCELL.out _ hb2))
                  | (go_at_call 104; go_loud (refine (sends_any ⟨tx, kd, it⟩ _).mono ?_; rintro e w3 ⟨rfl, hb3'⟩; rw [HBE.out]; have hb3 := hb2.trans (hb3'.mono hsz2); have hsz3 := hb3.size; obtain ⟨i0, i1, i2⟩ := HCELL.out _ hb3)))
                have HOWN3 : Hid (w3.ownsRow w.heap.size 31 3 (.slice Ao m' co') m' (opCells L)) := own_below (own_below HOWN.out hb2') hb3'
                have hro : ROps w3 Ao m' L := ROps.of_own HOWN3.out (by omega)
                have HRO := Lib.hid hro
                have hcl : ∀ u : Later w3, Calls Try.prog 81 #[.slice Ao m' co', .int .i64 (m' : Int), .int .i64 tx, .int .i64 it] u.1 fun e w' => e = .returned (.int .i64 h) ∧ Below u.1.heap.size u.1 w' := fun u => by
                  have := held_any Ao m' co' L m' tx it u.1 (HRO.out.later u) (Nat.le_refl _)
                  rw [HE.out] at this
                  exact this
                have HCL := Lib.hid hcl
                have L0 := Later.cell i0
                have L2 := Later.cell i2
                clear hcl hro HOWN hb2' hb3' c0 c1 c2 e0 e1 e2 i0 i1 i2
                refine region_later (by kernel_rfl) (by kernel_rfl) ?_
                repeat (go_big_quiet_step ((go_at_call 81; exact later_call _ (HCL.out _))))
                refine wpQuiet_nil ?_
                rintro _ ⟨u, rfl⟩
                have hb5 := hb3.trans (u.2.mono hsz3)
                have HOWN5 := Lib.hid (own_below HOWN3.out u.2)
                obtain ⟨w5, hw5⟩ : ∃ w5 : World, u.1 = w5 := ⟨_, rfl⟩
                rw [hw5] at hb5 HOWN5 ⊢
                clear hw5 L0 L2 HCL HRO HOWN3
                obtain ⟨c0, c1, c2⟩ := HCELL.out _ hb5
                have hsz5 := hb5.size
                by_cases hp : h < kd
                · rw [if_pos hp] at HST2
                  go_wp2_with fail
                  go_upto_region 15 with fail
                  go_cut [3] from 80 to 98 (fun v wx => ∃ A9 c9, v = .slice A9 (m' + 1) c9 ∧ m' + 1 ≤ c9 ∧ Below w.heap.size w wx ∧ wx.ownsRow w.heap.size 31 3 v (m' + 1) (opCells (L ++ [⟨tx, kd, it⟩])))
                  case first =>
                    obtain ⟨wd, hwd⟩ : ∃ wd : World, wd = w5.drew := ⟨_, rfl⟩
                    have HWD := Lib.hid hwd
                    have d0 : wd.cell? ⟨bs, os + k * 3, none⟩ = some (.int .i64 tx) := by rw [hwd]; exact c0
                    have d1 : wd.cell? ⟨bs, os + k * 3 + 1, none⟩ = some (.int .i64 kd) := by rw [hwd]; exact c1
                    have d2 : wd.cell? ⟨bs, os + k * 3 + 2, none⟩ = some (.int .i64 it) := by rw [hwd]; exact c2
                    have HBD : Hid (Below w.heap.size w wd) := by show Below _ _ _; rw [hwd]; exact hb5.drew
                    have HOD : Hid (wd.ownsRow w.heap.size 31 3 (.slice Ao m' co') m' (opCells L)) := by show World.ownsRow _ _ _ _ _ _ _; rw [hwd]; exact HOWN5.out
                    clear hwd c0 c1 c2
                    refine wp_region_any (by kernel_rfl) ?_
                    change wpAny _ _ _ _ _ _ _ (World.drew _)
                    rw [← HWD.out]
                    refine wpAny_take (i := 0) (v := ?_) rfl (by kernel_rfl) (by kernel_rfl) (by kernel_rfl) (fun _ _ _ h => h) (Or.inl ⟨by kernel_rfl, ?_⟩) ?_
                    rotate_left
                    · intro w; go_simp; try with_reducible rfl
                    refine wpAny_take (i := 1) (v := ?_) rfl (by kernel_rfl) (by kernel_rfl) (by kernel_rfl) (fun _ _ _ h => h) (Or.inl ⟨by kernel_rfl, ?_⟩) ?_
                    rotate_left
                    · intro w; go_simp; try with_reducible rfl
                    refine wpAny_take (i := 2) (v := ?_) rfl (by kernel_rfl) (by kernel_rfl) (by kernel_rfl) (fun _ _ _ h => h) (Or.inl ⟨by kernel_rfl, ?_⟩) ?_
                    rotate_left
                    · intro w; go_simp; try with_reducible rfl
                    refine wpAny_take (i := 3) (v := ?_) rfl (by kernel_rfl) (by kernel_rfl) (by kernel_rfl) (fun _ _ _ h => h) (Or.inl ⟨by kernel_rfl, ?_⟩) ?_
                    rotate_left
                    · intro w; go_simp; try with_reducible rfl
                    refine wpAny_take (i := 4) (v := ?_) rfl (by kernel_rfl) (by kernel_rfl) (by kernel_rfl) (fun _ _ _ h => h) (Or.inl ⟨by kernel_rfl, ?_⟩) ?_
                    rotate_left
                    · intro w; go_simp; try with_reducible rfl
                    refine wpAny_take (i := 6) (v := ?_) rfl (by kernel_rfl) (by kernel_rfl) (by kernel_rfl) (fun _ _ _ h => h) (Or.inl ⟨by kernel_rfl, ?_⟩) ?_
                    rotate_left
                    · intro w; go_simp; try with_reducible rfl
                    refine wpAny_take (i := 7) (v := ?_) rfl (by kernel_rfl) (by kernel_rfl) (by kernel_rfl) (fun _ _ _ h => h) (Or.inl ⟨by kernel_rfl, ?_⟩) ?_
                    rotate_left
                    · intro w; go_simp; try with_reducible rfl
                    refine wpAny_take (i := 8) (v := ?_) rfl (by kernel_rfl) (by kernel_rfl) (by kernel_rfl) (fun _ _ _ h => h) (Or.inl ⟨by kernel_rfl, ?_⟩) ?_
                    rotate_left
                    · intro w; go_simp; try with_reducible rfl
                    refine wpAny_take (i := 9) (v := ?_) rfl (by kernel_rfl) (by kernel_rfl) (by kernel_rfl) (fun _ _ _ h => h) (Or.inl ⟨by kernel_rfl, ?_⟩) ?_
                    rotate_left
                    · intro w; go_simp; try with_reducible rfl
                    refine wpAny_take (i := 11) (v := ?_) rfl (by kernel_rfl) (by kernel_rfl) (by kernel_rfl) (fun _ _ _ h => h) (Or.inl ⟨by kernel_rfl, ?_⟩) ?_
                    rotate_left
                    · intro w; go_simp; try with_reducible rfl
                    refine wpAny_take (i := 12) (v := ?_) rfl (by kernel_rfl) (by kernel_rfl) (by kernel_rfl) (fun _ _ _ h => h) (Or.inl ⟨by kernel_rfl, ?_⟩) ?_
                    rotate_left
                    · intro w; go_simp; try with_reducible rfl
                    refine wpAny_take (i := 13) (v := ?_) rfl (by kernel_rfl) (by kernel_rfl) (by kernel_rfl) (fun _ _ _ h => h) (Or.inl ⟨by kernel_rfl, ?_⟩) ?_
                    rotate_left
                    · intro w; go_simp; try with_reducible rfl
                    refine wpAny_take (i := 14) (v := ?_) rfl (by kernel_rfl) (by kernel_rfl) (by kernel_rfl) (fun _ _ _ h => h) (Or.inl ⟨by kernel_rfl, ?_⟩) ?_
                    rotate_left
                    · intro w; go_simp; try with_reducible rfl
                    refine wpAny_ready (rs := [5, 10, 15]) (by kernel_rfl) (by simp) ?_
                    refine AllReady.cons rfl (fun K hK => ?_) (AllReady.cons rfl (fun K hK => ?_) (AllReady.cons rfl (fun K hK => ?_) (AllReady.nil)))
                    · go_simp
                      try (refine hK _ _ ?_; clear hK K)
                      refine wpAny_ready (rs := [10, 15]) (by kernel_rfl) (by simp) ?_
                      refine AllReady.cons rfl (fun K hK => ?_) (AllReady.cons rfl (fun K hK => ?_) (AllReady.nil))
                      · go_simp
                        try (refine hK _ _ ?_; clear hK K)
                        refine wpAny_ready (rs := [15]) (by kernel_rfl) (by simp) ?_
                        refine AllReady.cons rfl (fun K hK => ?_) AllReady.nil
                        go_simp
                        try (refine hK _ _ ?_; clear hK K)
                        refine wpAny_ready (rs := [16]) (by kernel_rfl) (by simp) ?_
                        refine AllReady.cons rfl (fun K hK => ?_) AllReady.nil
                        go_simp
                        try (refine hK _ _ ?_; clear hK K)
                        refine wpAny_ready (rs := [17]) (by kernel_rfl) (by simp) ?_
                        refine AllReady.cons rfl (fun K hK => ?_) AllReady.nil
                        go_simp
                        try (refine hK _ _ ?_; clear hK K)
                        refine wpAny_ready (rs := [18]) (by kernel_rfl) (by simp) ?_
                        refine AllReady.cons rfl (fun K hK => ?_) AllReady.nil
                        refine step_steps (.tmp 80) (.tmp 97) (c := 1) (HOD.out.alloc _) (by have := HBD.out.size; simp; omega) (ROps.lit1 _ ⟨_, _, _⟩ _) ?_ ?_ ?_ ?_ ?_ ?_
                        · omega
                        · rfl
                        · rfl
                        · rfl
                        · rfl
                        intro v6 w6 hown6 hg6 hat6
                        have hb6 := Below.own HBD.out HOD.out (Nat.le_refl _) (World.grownBy.trans (World.grownBy_alloc wd _ _) hg6)
                        obtain ⟨A6, c6, rfl, hc6⟩ := own_form2 hown6
                        have HF := Lib.hid (And.intro hb6 hown6)
                        clear hb6 hown6 hg6 hat6
                        try (refine hK _ _ ?_; clear hK K)
                        refine wpAny_ready (rs := [19]) (by kernel_rfl) (by simp) ?_
                        refine AllReady.cons rfl (fun K hK => ?_) AllReady.nil
                        go_simp
                        try (refine hK _ _ ?_; clear hK K)
                        refine wpAny_done (by kernel_rfl) ?_ _
                        try go_simp
                        go_wp2_with fail
                        go_meet
                        exact ⟨A6, c6, rfl, hc6, HF.out.1, HF.out.2⟩
                      · go_simp
                        try (refine hK _ _ ?_; clear hK K)
                        refine wpAny_ready (rs := [10]) (by kernel_rfl) (by simp) ?_
                        refine AllReady.cons rfl (fun K hK => ?_) AllReady.nil
                        go_simp
                        try (refine hK _ _ ?_; clear hK K)
                        refine wpAny_ready (rs := [16]) (by kernel_rfl) (by simp) ?_
                        refine AllReady.cons rfl (fun K hK => ?_) AllReady.nil
                        go_simp
                        try (refine hK _ _ ?_; clear hK K)
                        refine wpAny_ready (rs := [17]) (by kernel_rfl) (by simp) ?_
                        refine AllReady.cons rfl (fun K hK => ?_) AllReady.nil
                        go_simp
                        try (refine hK _ _ ?_; clear hK K)
                        refine wpAny_ready (rs := [18]) (by kernel_rfl) (by simp) ?_
                        refine AllReady.cons rfl (fun K hK => ?_) AllReady.nil
                        refine step_steps (.tmp 80) (.tmp 97) (c := 1) (HOD.out.alloc _) (by have := HBD.out.size; simp; omega) (ROps.lit1 _ ⟨_, _, _⟩ _) ?_ ?_ ?_ ?_ ?_ ?_
                        · omega
                        · rfl
                        · rfl
                        · rfl
                        · rfl
                        intro v6 w6 hown6 hg6 hat6
                        have hb6 := Below.own HBD.out HOD.out (Nat.le_refl _) (World.grownBy.trans (World.grownBy_alloc wd _ _) hg6)
                        obtain ⟨A6, c6, rfl, hc6⟩ := own_form2 hown6
                        have HF := Lib.hid (And.intro hb6 hown6)
                        clear hb6 hown6 hg6 hat6
                        try (refine hK _ _ ?_; clear hK K)
                        refine wpAny_ready (rs := [19]) (by kernel_rfl) (by simp) ?_
                        refine AllReady.cons rfl (fun K hK => ?_) AllReady.nil
                        go_simp
                        try (refine hK _ _ ?_; clear hK K)
                        refine wpAny_done (by kernel_rfl) ?_ _
                        try go_simp
                        go_wp2_with fail
                        go_meet
                        exact ⟨A6, c6, rfl, hc6, HF.out.1, HF.out.2⟩
                    · go_simp
                      try (refine hK _ _ ?_; clear hK K)
                      refine wpAny_ready (rs := [5, 15]) (by kernel_rfl) (by simp) ?_
                      refine AllReady.cons rfl (fun K hK => ?_) (AllReady.cons rfl (fun K hK => ?_) (AllReady.nil))
                      · go_simp
                        try (refine hK _ _ ?_; clear hK K)
                        refine wpAny_ready (rs := [15]) (by kernel_rfl) (by simp) ?_
                        refine AllReady.cons rfl (fun K hK => ?_) AllReady.nil
                        go_simp
                        try (refine hK _ _ ?_; clear hK K)
                        refine wpAny_ready (rs := [16]) (by kernel_rfl) (by simp) ?_
                        refine AllReady.cons rfl (fun K hK => ?_) AllReady.nil
                        go_simp
                        try (refine hK _ _ ?_; clear hK K)
                        refine wpAny_ready (rs := [17]) (by kernel_rfl) (by simp) ?_
                        refine AllReady.cons rfl (fun K hK => ?_) AllReady.nil
                        go_simp
                        try (refine hK _ _ ?_; clear hK K)
                        refine wpAny_ready (rs := [18]) (by kernel_rfl) (by simp) ?_
                        refine AllReady.cons rfl (fun K hK => ?_) AllReady.nil
                        refine step_steps (.tmp 80) (.tmp 97) (c := 1) (HOD.out.alloc _) (by have := HBD.out.size; simp; omega) (ROps.lit1 _ ⟨_, _, _⟩ _) ?_ ?_ ?_ ?_ ?_ ?_
                        · omega
                        · rfl
                        · rfl
                        · rfl
                        · rfl
                        intro v6 w6 hown6 hg6 hat6
                        have hb6 := Below.own HBD.out HOD.out (Nat.le_refl _) (World.grownBy.trans (World.grownBy_alloc wd _ _) hg6)
                        obtain ⟨A6, c6, rfl, hc6⟩ := own_form2 hown6
                        have HF := Lib.hid (And.intro hb6 hown6)
                        clear hb6 hown6 hg6 hat6
                        try (refine hK _ _ ?_; clear hK K)
                        refine wpAny_ready (rs := [19]) (by kernel_rfl) (by simp) ?_
                        refine AllReady.cons rfl (fun K hK => ?_) AllReady.nil
                        go_simp
                        try (refine hK _ _ ?_; clear hK K)
                        refine wpAny_done (by kernel_rfl) ?_ _
                        try go_simp
                        go_wp2_with fail
                        go_meet
                        exact ⟨A6, c6, rfl, hc6, HF.out.1, HF.out.2⟩
                      · go_simp
                        try (refine hK _ _ ?_; clear hK K)
                        refine wpAny_ready (rs := [5]) (by kernel_rfl) (by simp) ?_
                        refine AllReady.cons rfl (fun K hK => ?_) AllReady.nil
                        go_simp
                        try (refine hK _ _ ?_; clear hK K)
                        refine wpAny_ready (rs := [16]) (by kernel_rfl) (by simp) ?_
                        refine AllReady.cons rfl (fun K hK => ?_) AllReady.nil
                        go_simp
                        try (refine hK _ _ ?_; clear hK K)
                        refine wpAny_ready (rs := [17]) (by kernel_rfl) (by simp) ?_
                        refine AllReady.cons rfl (fun K hK => ?_) AllReady.nil
                        go_simp
                        try (refine hK _ _ ?_; clear hK K)
                        refine wpAny_ready (rs := [18]) (by kernel_rfl) (by simp) ?_
                        refine AllReady.cons rfl (fun K hK => ?_) AllReady.nil
                        refine step_steps (.tmp 80) (.tmp 97) (c := 1) (HOD.out.alloc _) (by have := HBD.out.size; simp; omega) (ROps.lit1 _ ⟨_, _, _⟩ _) ?_ ?_ ?_ ?_ ?_ ?_
                        · omega
                        · rfl
                        · rfl
                        · rfl
                        · rfl
                        intro v6 w6 hown6 hg6 hat6
                        have hb6 := Below.own HBD.out HOD.out (Nat.le_refl _) (World.grownBy.trans (World.grownBy_alloc wd _ _) hg6)
                        obtain ⟨A6, c6, rfl, hc6⟩ := own_form2 hown6
                        have HF := Lib.hid (And.intro hb6 hown6)
                        clear hb6 hown6 hg6 hat6
                        try (refine hK _ _ ?_; clear hK K)
                        refine wpAny_ready (rs := [19]) (by kernel_rfl) (by simp) ?_
                        refine AllReady.cons rfl (fun K hK => ?_) AllReady.nil
                        go_simp
                        try (refine hK _ _ ?_; clear hK K)
                        refine wpAny_done (by kernel_rfl) ?_ _
                        try go_simp
                        go_wp2_with fail
                        go_meet
                        exact ⟨A6, c6, rfl, hc6, HF.out.1, HF.out.2⟩
                    · go_simp
                      try (refine hK _ _ ?_; clear hK K)
                      refine wpAny_ready (rs := [5, 10]) (by kernel_rfl) (by simp) ?_
                      refine AllReady.cons rfl (fun K hK => ?_) (AllReady.cons rfl (fun K hK => ?_) (AllReady.nil))
                      · go_simp
                        try (refine hK _ _ ?_; clear hK K)
                        refine wpAny_ready (rs := [10]) (by kernel_rfl) (by simp) ?_
                        refine AllReady.cons rfl (fun K hK => ?_) AllReady.nil
                        go_simp
                        try (refine hK _ _ ?_; clear hK K)
                        refine wpAny_ready (rs := [16]) (by kernel_rfl) (by simp) ?_
                        refine AllReady.cons rfl (fun K hK => ?_) AllReady.nil
                        go_simp
                        try (refine hK _ _ ?_; clear hK K)
                        refine wpAny_ready (rs := [17]) (by kernel_rfl) (by simp) ?_
                        refine AllReady.cons rfl (fun K hK => ?_) AllReady.nil
                        go_simp
                        try (refine hK _ _ ?_; clear hK K)
                        refine wpAny_ready (rs := [18]) (by kernel_rfl) (by simp) ?_
                        refine AllReady.cons rfl (fun K hK => ?_) AllReady.nil
                        refine step_steps (.tmp 80) (.tmp 97) (c := 1) (HOD.out.alloc _) (by have := HBD.out.size; simp; omega) (ROps.lit1 _ ⟨_, _, _⟩ _) ?_ ?_ ?_ ?_ ?_ ?_
                        · omega
                        · rfl
                        · rfl
                        · rfl
                        · rfl
                        intro v6 w6 hown6 hg6 hat6
                        have hb6 := Below.own HBD.out HOD.out (Nat.le_refl _) (World.grownBy.trans (World.grownBy_alloc wd _ _) hg6)
                        obtain ⟨A6, c6, rfl, hc6⟩ := own_form2 hown6
                        have HF := Lib.hid (And.intro hb6 hown6)
                        clear hb6 hown6 hg6 hat6
                        try (refine hK _ _ ?_; clear hK K)
                        refine wpAny_ready (rs := [19]) (by kernel_rfl) (by simp) ?_
                        refine AllReady.cons rfl (fun K hK => ?_) AllReady.nil
                        go_simp
                        try (refine hK _ _ ?_; clear hK K)
                        refine wpAny_done (by kernel_rfl) ?_ _
                        try go_simp
                        go_wp2_with fail
                        go_meet
                        exact ⟨A6, c6, rfl, hc6, HF.out.1, HF.out.2⟩
                      · go_simp
                        try (refine hK _ _ ?_; clear hK K)
                        refine wpAny_ready (rs := [5]) (by kernel_rfl) (by simp) ?_
                        refine AllReady.cons rfl (fun K hK => ?_) AllReady.nil
                        go_simp
                        try (refine hK _ _ ?_; clear hK K)
                        refine wpAny_ready (rs := [16]) (by kernel_rfl) (by simp) ?_
                        refine AllReady.cons rfl (fun K hK => ?_) AllReady.nil
                        go_simp
                        try (refine hK _ _ ?_; clear hK K)
                        refine wpAny_ready (rs := [17]) (by kernel_rfl) (by simp) ?_
                        refine AllReady.cons rfl (fun K hK => ?_) AllReady.nil
                        go_simp
                        try (refine hK _ _ ?_; clear hK K)
                        refine wpAny_ready (rs := [18]) (by kernel_rfl) (by simp) ?_
                        refine AllReady.cons rfl (fun K hK => ?_) AllReady.nil
                        refine step_steps (.tmp 80) (.tmp 97) (c := 1) (HOD.out.alloc _) (by have := HBD.out.size; simp; omega) (ROps.lit1 _ ⟨_, _, _⟩ _) ?_ ?_ ?_ ?_ ?_ ?_
                        · omega
                        · rfl
                        · rfl
                        · rfl
                        · rfl
                        intro v6 w6 hown6 hg6 hat6
                        have hb6 := Below.own HBD.out HOD.out (Nat.le_refl _) (World.grownBy.trans (World.grownBy_alloc wd _ _) hg6)
                        obtain ⟨A6, c6, rfl, hc6⟩ := own_form2 hown6
                        have HF := Lib.hid (And.intro hb6 hown6)
                        clear hb6 hown6 hg6 hat6
                        try (refine hK _ _ ?_; clear hK K)
                        refine wpAny_ready (rs := [19]) (by kernel_rfl) (by simp) ?_
                        refine AllReady.cons rfl (fun K hK => ?_) AllReady.nil
                        go_simp
                        try (refine hK _ _ ?_; clear hK K)
                        refine wpAny_done (by kernel_rfl) ?_ _
                        try go_simp
                        go_wp2_with fail
                        go_meet
                        exact ⟨A6, c6, rfl, hc6, HF.out.1, HF.out.2⟩
                  case rest =>
                    obtain ⟨A9, c9, rfl, hc9, hb9, hown9⟩ := hcut
                    clear hb5 HOWN5 c0 c1 c2 hsz5
                    try clear hcut
                    go_wp2_with fail
                    obtain ⟨c0, c1, c2⟩ := HCELL.out _ hb9
                    obtain ⟨wd, hwd⟩ : ∃ wd : World, wd = wc.drew := ⟨_, rfl⟩
                    have HWD := Lib.hid hwd
                    have d0 : wd.cell? ⟨bs, os + k * 3, none⟩ = some (.int .i64 tx) := by rw [hwd]; exact c0
                    have d1 : wd.cell? ⟨bs, os + k * 3 + 1, none⟩ = some (.int .i64 kd) := by rw [hwd]; exact c1
                    have d2 : wd.cell? ⟨bs, os + k * 3 + 2, none⟩ = some (.int .i64 it) := by rw [hwd]; exact c2
                    have HBD : Hid (Below w.heap.size w wd) := by show Below _ _ _; rw [hwd]; exact (hb9).drew
                    have HOD : Hid (wd.ownsRow w.heap.size 31 3 (.slice A9 (m' + 1) c9) (m' + 1) (opCells (L ++ [⟨tx, kd, it⟩]))) := by show World.ownsRow _ _ _ _ _ _ _; rw [hwd]; exact hown9
                    have hwr : IntKind.i64.wrap (3 + kd) = 3 + kd := IntWalk.i64_in _ (by omega)
                    clear hwd c0 c1 c2
                    refine wp_region_any (by kernel_rfl) ?_
                    change wpAny _ _ _ _ _ _ _ (World.drew _)
                    rw [← HWD.out]
                    refine wpAny_take (i := 0) (v := ?_) rfl (by kernel_rfl) (by kernel_rfl) (by kernel_rfl) (fun _ _ _ h => h) (Or.inl ⟨by kernel_rfl, ?_⟩) ?_
                    rotate_left
                    · intro w; go_simp; try with_reducible rfl
                    refine wpAny_take (i := 1) (v := ?_) rfl (by kernel_rfl) (by kernel_rfl) (by kernel_rfl) (fun _ _ _ h => h) (Or.inl ⟨by kernel_rfl, ?_⟩) ?_
                    rotate_left
                    · intro w; go_simp; try with_reducible rfl
                    refine wpAny_take (i := 2) (v := ?_) rfl (by kernel_rfl) (by kernel_rfl) (by kernel_rfl) (fun _ _ _ h => h) (Or.inl ⟨by kernel_rfl, ?_⟩) ?_
                    rotate_left
                    · intro w; go_simp; try with_reducible rfl
                    refine wpAny_take (i := 3) (v := ?_) rfl (by kernel_rfl) (by kernel_rfl) (by kernel_rfl) (fun _ _ _ h => h) (Or.inl ⟨by kernel_rfl, ?_⟩) ?_
                    rotate_left
                    · intro w; go_simp; try with_reducible rfl
                    refine wpAny_take (i := 4) (v := ?_) rfl (by kernel_rfl) (by kernel_rfl) (by kernel_rfl) (fun _ _ _ h => h) (Or.inl ⟨by kernel_rfl, ?_⟩) ?_
                    rotate_left
                    · intro w; go_simp; try with_reducible rfl
                    refine wpAny_take (i := 6) (v := ?_) rfl (by kernel_rfl) (by kernel_rfl) (by kernel_rfl) (fun _ _ _ h => h) (Or.inl ⟨by kernel_rfl, ?_⟩) ?_
                    rotate_left
                    · intro w; go_simp; try with_reducible rfl
                    refine wpAny_take (i := 7) (v := ?_) rfl (by kernel_rfl) (by kernel_rfl) (by kernel_rfl) (fun _ _ _ h => h) (Or.inl ⟨by kernel_rfl, ?_⟩) ?_
                    rotate_left
                    · intro w; go_simp; try with_reducible rfl
                    refine wpAny_take (i := 8) (v := ?_) rfl (by kernel_rfl) (by kernel_rfl) (by kernel_rfl) (fun _ _ _ h => h) (Or.inl ⟨by kernel_rfl, ?_⟩) ?_
                    rotate_left
                    · intro w; go_simp; try with_reducible rfl
                    refine wpAny_take (i := 9) (v := ?_) rfl (by kernel_rfl) (by kernel_rfl) (by kernel_rfl) (fun _ _ _ h => h) (Or.inl ⟨by kernel_rfl, ?_⟩) ?_
                    rotate_left
                    · intro w; go_simp; try with_reducible rfl
                    refine wpAny_take (i := 12) (v := ?_) rfl (by kernel_rfl) (by kernel_rfl) (by kernel_rfl) (fun _ _ _ h => h) (Or.inl ⟨by kernel_rfl, ?_⟩) ?_
                    rotate_left
                    · intro w; go_simp; try with_reducible rfl
                    refine wpAny_take (i := 13) (v := ?_) rfl (by kernel_rfl) (by kernel_rfl) (by kernel_rfl) (fun _ _ _ h => h) (Or.inl ⟨by kernel_rfl, ?_⟩) ?_
                    rotate_left
                    · intro w; go_simp; try with_reducible rfl
                    refine wpAny_take (i := 14) (v := ?_) rfl (by kernel_rfl) (by kernel_rfl) (by kernel_rfl) (fun _ _ _ h => h) (Or.inl ⟨by kernel_rfl, ?_⟩) ?_
                    rotate_left
                    · intro w; go_simp; try with_reducible rfl
                    refine wpAny_take (i := 15) (v := ?_) rfl (by kernel_rfl) (by kernel_rfl) (by kernel_rfl) (fun _ _ _ h => h) (Or.inl ⟨by kernel_rfl, ?_⟩) ?_
                    rotate_left
                    · intro w; go_simp; try with_reducible rfl
                    refine wpAny_ready (rs := [5, 10, 16]) (by kernel_rfl) (by simp) ?_
                    refine AllReady.cons rfl (fun K hK => ?_) (AllReady.cons rfl (fun K hK => ?_) (AllReady.cons rfl (fun K hK => ?_) (AllReady.nil)))
                    · go_simp
                      try (refine hK _ _ ?_; clear hK K)
                      refine wpAny_ready (rs := [10, 16]) (by kernel_rfl) (by simp) ?_
                      refine AllReady.cons rfl (fun K hK => ?_) (AllReady.cons rfl (fun K hK => ?_) (AllReady.nil))
                      · go_simp
                        try (refine hK _ _ ?_; clear hK K)
                        refine wpAny_ready (rs := [11, 16]) (by kernel_rfl) (by simp) ?_
                        refine AllReady.cons rfl (fun K hK => ?_) (AllReady.cons rfl (fun K hK => ?_) (AllReady.nil))
                        · go_simp
                          try (refine hK _ _ ?_; clear hK K)
                          refine wpAny_ready (rs := [16]) (by kernel_rfl) (by simp) ?_
                          refine AllReady.cons rfl (fun K hK => ?_) AllReady.nil
                          go_simp
                          try (refine hK _ _ ?_; clear hK K)
                          refine wpAny_ready (rs := [17]) (by kernel_rfl) (by simp) ?_
                          refine AllReady.cons rfl (fun K hK => ?_) AllReady.nil
                          go_simp
                          try (refine hK _ _ ?_; clear hK K)
                          refine wpAny_ready (rs := [18]) (by kernel_rfl) (by simp) ?_
                          refine AllReady.cons rfl (fun K hK => ?_) AllReady.nil
                          go_simp
                          try (refine hK _ _ ?_; clear hK K)
                          refine wpAny_ready (rs := [19]) (by kernel_rfl) (by simp) ?_
                          refine AllReady.cons rfl (fun K hK => ?_) AllReady.nil
                          refine step_steps (.tmp 99) (.tmp 117) (c := 1) (HOD.out.alloc _) (by have := HBD.out.size; simp; omega) (ROps.lit1 _ ⟨tx, 3 + kd, it⟩ _) ?_ ?_ ?_ ?_ ?_ ?_
                          · omega
                          · rfl
                          · rfl
                          · rfl
                          · rfl
                          intro v6 w6 hown6 hg6 hat6
                          have hb6 := Below.own HBD.out HOD.out (Nat.le_refl _) (World.grownBy.trans (World.grownBy_alloc wd _ _) hg6)
                          obtain ⟨A6, c6, rfl, hc6⟩ := own_form2 hown6
                          have HF := Lib.hid (And.intro hb6 hown6)
                          clear hb6 hown6 hg6 hat6
                          try (refine hK _ _ ?_; clear hK K)
                          refine wpAny_ready (rs := [20]) (by kernel_rfl) (by simp) ?_
                          refine AllReady.cons rfl (fun K hK => ?_) AllReady.nil
                          go_simp
                          try (refine hK _ _ ?_; clear hK K)
                          refine wpAny_done (by kernel_rfl) ?_ _
                          try go_simp
                          go_wp2_with fail
                          go_roundw
                          case rel => exact ⟨k + 1, (m' + 1) + 1, by omega, by omega, by go_num, HF.out.1, by rw [HST2.out]; exact HF.out.2⟩
                          case measure => simp [intOf]; omega
                        · go_simp
                          try (refine hK _ _ ?_; clear hK K)
                          refine wpAny_ready (rs := [11]) (by kernel_rfl) (by simp) ?_
                          refine AllReady.cons rfl (fun K hK => ?_) AllReady.nil
                          go_simp
                          try (refine hK _ _ ?_; clear hK K)
                          refine wpAny_ready (rs := [17]) (by kernel_rfl) (by simp) ?_
                          refine AllReady.cons rfl (fun K hK => ?_) AllReady.nil
                          go_simp
                          try (refine hK _ _ ?_; clear hK K)
                          refine wpAny_ready (rs := [18]) (by kernel_rfl) (by simp) ?_
                          refine AllReady.cons rfl (fun K hK => ?_) AllReady.nil
                          go_simp
                          try (refine hK _ _ ?_; clear hK K)
                          refine wpAny_ready (rs := [19]) (by kernel_rfl) (by simp) ?_
                          refine AllReady.cons rfl (fun K hK => ?_) AllReady.nil
                          refine step_steps (.tmp 99) (.tmp 117) (c := 1) (HOD.out.alloc _) (by have := HBD.out.size; simp; omega) (ROps.lit1 _ ⟨tx, 3 + kd, it⟩ _) ?_ ?_ ?_ ?_ ?_ ?_
                          · omega
                          · rfl
                          · rfl
                          · rfl
                          · rfl
                          intro v6 w6 hown6 hg6 hat6
                          have hb6 := Below.own HBD.out HOD.out (Nat.le_refl _) (World.grownBy.trans (World.grownBy_alloc wd _ _) hg6)
                          obtain ⟨A6, c6, rfl, hc6⟩ := own_form2 hown6
                          have HF := Lib.hid (And.intro hb6 hown6)
                          clear hb6 hown6 hg6 hat6
                          try (refine hK _ _ ?_; clear hK K)
                          refine wpAny_ready (rs := [20]) (by kernel_rfl) (by simp) ?_
                          refine AllReady.cons rfl (fun K hK => ?_) AllReady.nil
                          go_simp
                          try (refine hK _ _ ?_; clear hK K)
                          refine wpAny_done (by kernel_rfl) ?_ _
                          try go_simp
                          go_wp2_with fail
                          go_roundw
                          case rel => exact ⟨k + 1, (m' + 1) + 1, by omega, by omega, by go_num, HF.out.1, by rw [HST2.out]; exact HF.out.2⟩
                          case measure => simp [intOf]; omega
                      · go_simp
                        try (refine hK _ _ ?_; clear hK K)
                        refine wpAny_ready (rs := [10]) (by kernel_rfl) (by simp) ?_
                        refine AllReady.cons rfl (fun K hK => ?_) AllReady.nil
                        go_simp
                        try (refine hK _ _ ?_; clear hK K)
                        refine wpAny_ready (rs := [11]) (by kernel_rfl) (by simp) ?_
                        refine AllReady.cons rfl (fun K hK => ?_) AllReady.nil
                        go_simp
                        try (refine hK _ _ ?_; clear hK K)
                        refine wpAny_ready (rs := [17]) (by kernel_rfl) (by simp) ?_
                        refine AllReady.cons rfl (fun K hK => ?_) AllReady.nil
                        go_simp
                        try (refine hK _ _ ?_; clear hK K)
                        refine wpAny_ready (rs := [18]) (by kernel_rfl) (by simp) ?_
                        refine AllReady.cons rfl (fun K hK => ?_) AllReady.nil
                        go_simp
                        try (refine hK _ _ ?_; clear hK K)
                        refine wpAny_ready (rs := [19]) (by kernel_rfl) (by simp) ?_
                        refine AllReady.cons rfl (fun K hK => ?_) AllReady.nil
                        refine step_steps (.tmp 99) (.tmp 117) (c := 1) (HOD.out.alloc _) (by have := HBD.out.size; simp; omega) (ROps.lit1 _ ⟨tx, 3 + kd, it⟩ _) ?_ ?_ ?_ ?_ ?_ ?_
                        · omega
                        · rfl
                        · rfl
                        · rfl
                        · rfl
                        intro v6 w6 hown6 hg6 hat6
                        have hb6 := Below.own HBD.out HOD.out (Nat.le_refl _) (World.grownBy.trans (World.grownBy_alloc wd _ _) hg6)
                        obtain ⟨A6, c6, rfl, hc6⟩ := own_form2 hown6
                        have HF := Lib.hid (And.intro hb6 hown6)
                        clear hb6 hown6 hg6 hat6
                        try (refine hK _ _ ?_; clear hK K)
                        refine wpAny_ready (rs := [20]) (by kernel_rfl) (by simp) ?_
                        refine AllReady.cons rfl (fun K hK => ?_) AllReady.nil
                        go_simp
                        try (refine hK _ _ ?_; clear hK K)
                        refine wpAny_done (by kernel_rfl) ?_ _
                        try go_simp
                        go_wp2_with fail
                        go_roundw
                        case rel => exact ⟨k + 1, (m' + 1) + 1, by omega, by omega, by go_num, HF.out.1, by rw [HST2.out]; exact HF.out.2⟩
                        case measure => simp [intOf]; omega
                    · go_simp
                      try (refine hK _ _ ?_; clear hK K)
                      refine wpAny_ready (rs := [5, 11, 16]) (by kernel_rfl) (by simp) ?_
                      refine AllReady.cons rfl (fun K hK => ?_) (AllReady.cons rfl (fun K hK => ?_) (AllReady.cons rfl (fun K hK => ?_) (AllReady.nil)))
                      · go_simp
                        try (refine hK _ _ ?_; clear hK K)
                        refine wpAny_ready (rs := [11, 16]) (by kernel_rfl) (by simp) ?_
                        refine AllReady.cons rfl (fun K hK => ?_) (AllReady.cons rfl (fun K hK => ?_) (AllReady.nil))
                        · go_simp
                          try (refine hK _ _ ?_; clear hK K)
                          refine wpAny_ready (rs := [16]) (by kernel_rfl) (by simp) ?_
                          refine AllReady.cons rfl (fun K hK => ?_) AllReady.nil
                          go_simp
                          try (refine hK _ _ ?_; clear hK K)
                          refine wpAny_ready (rs := [17]) (by kernel_rfl) (by simp) ?_
                          refine AllReady.cons rfl (fun K hK => ?_) AllReady.nil
                          go_simp
                          try (refine hK _ _ ?_; clear hK K)
                          refine wpAny_ready (rs := [18]) (by kernel_rfl) (by simp) ?_
                          refine AllReady.cons rfl (fun K hK => ?_) AllReady.nil
                          go_simp
                          try (refine hK _ _ ?_; clear hK K)
                          refine wpAny_ready (rs := [19]) (by kernel_rfl) (by simp) ?_
                          refine AllReady.cons rfl (fun K hK => ?_) AllReady.nil
                          refine step_steps (.tmp 99) (.tmp 117) (c := 1) (HOD.out.alloc _) (by have := HBD.out.size; simp; omega) (ROps.lit1 _ ⟨tx, 3 + kd, it⟩ _) ?_ ?_ ?_ ?_ ?_ ?_
                          · omega
                          · rfl
                          · rfl
                          · rfl
                          · rfl
                          intro v6 w6 hown6 hg6 hat6
                          have hb6 := Below.own HBD.out HOD.out (Nat.le_refl _) (World.grownBy.trans (World.grownBy_alloc wd _ _) hg6)
                          obtain ⟨A6, c6, rfl, hc6⟩ := own_form2 hown6
                          have HF := Lib.hid (And.intro hb6 hown6)
                          clear hb6 hown6 hg6 hat6
                          try (refine hK _ _ ?_; clear hK K)
                          refine wpAny_ready (rs := [20]) (by kernel_rfl) (by simp) ?_
                          refine AllReady.cons rfl (fun K hK => ?_) AllReady.nil
                          go_simp
                          try (refine hK _ _ ?_; clear hK K)
                          refine wpAny_done (by kernel_rfl) ?_ _
                          try go_simp
                          go_wp2_with fail
                          go_roundw
                          case rel => exact ⟨k + 1, (m' + 1) + 1, by omega, by omega, by go_num, HF.out.1, by rw [HST2.out]; exact HF.out.2⟩
                          case measure => simp [intOf]; omega
                        · go_simp
                          try (refine hK _ _ ?_; clear hK K)
                          refine wpAny_ready (rs := [11]) (by kernel_rfl) (by simp) ?_
                          refine AllReady.cons rfl (fun K hK => ?_) AllReady.nil
                          go_simp
                          try (refine hK _ _ ?_; clear hK K)
                          refine wpAny_ready (rs := [17]) (by kernel_rfl) (by simp) ?_
                          refine AllReady.cons rfl (fun K hK => ?_) AllReady.nil
                          go_simp
                          try (refine hK _ _ ?_; clear hK K)
                          refine wpAny_ready (rs := [18]) (by kernel_rfl) (by simp) ?_
                          refine AllReady.cons rfl (fun K hK => ?_) AllReady.nil
                          go_simp
                          try (refine hK _ _ ?_; clear hK K)
                          refine wpAny_ready (rs := [19]) (by kernel_rfl) (by simp) ?_
                          refine AllReady.cons rfl (fun K hK => ?_) AllReady.nil
                          refine step_steps (.tmp 99) (.tmp 117) (c := 1) (HOD.out.alloc _) (by have := HBD.out.size; simp; omega) (ROps.lit1 _ ⟨tx, 3 + kd, it⟩ _) ?_ ?_ ?_ ?_ ?_ ?_
                          · omega
                          · rfl
                          · rfl
                          · rfl
                          · rfl
                          intro v6 w6 hown6 hg6 hat6
                          have hb6 := Below.own HBD.out HOD.out (Nat.le_refl _) (World.grownBy.trans (World.grownBy_alloc wd _ _) hg6)
                          obtain ⟨A6, c6, rfl, hc6⟩ := own_form2 hown6
                          have HF := Lib.hid (And.intro hb6 hown6)
                          clear hb6 hown6 hg6 hat6
                          try (refine hK _ _ ?_; clear hK K)
                          refine wpAny_ready (rs := [20]) (by kernel_rfl) (by simp) ?_
                          refine AllReady.cons rfl (fun K hK => ?_) AllReady.nil
                          go_simp
                          try (refine hK _ _ ?_; clear hK K)
                          refine wpAny_done (by kernel_rfl) ?_ _
                          try go_simp
                          go_wp2_with fail
                          go_roundw
                          case rel => exact ⟨k + 1, (m' + 1) + 1, by omega, by omega, by go_num, HF.out.1, by rw [HST2.out]; exact HF.out.2⟩
                          case measure => simp [intOf]; omega
                      · go_simp
                        try (refine hK _ _ ?_; clear hK K)
                        refine wpAny_ready (rs := [5, 16]) (by kernel_rfl) (by simp) ?_
                        refine AllReady.cons rfl (fun K hK => ?_) (AllReady.cons rfl (fun K hK => ?_) (AllReady.nil))
                        · go_simp
                          try (refine hK _ _ ?_; clear hK K)
                          refine wpAny_ready (rs := [16]) (by kernel_rfl) (by simp) ?_
                          refine AllReady.cons rfl (fun K hK => ?_) AllReady.nil
                          go_simp
                          try (refine hK _ _ ?_; clear hK K)
                          refine wpAny_ready (rs := [17]) (by kernel_rfl) (by simp) ?_
                          refine AllReady.cons rfl (fun K hK => ?_) AllReady.nil
                          go_simp
                          try (refine hK _ _ ?_; clear hK K)
                          refine wpAny_ready (rs := [18]) (by kernel_rfl) (by simp) ?_
                          refine AllReady.cons rfl (fun K hK => ?_) AllReady.nil
                          go_simp
                          try (refine hK _ _ ?_; clear hK K)
                          refine wpAny_ready (rs := [19]) (by kernel_rfl) (by simp) ?_
                          refine AllReady.cons rfl (fun K hK => ?_) AllReady.nil
                          refine step_steps (.tmp 99) (.tmp 117) (c := 1) (HOD.out.alloc _) (by have := HBD.out.size; simp; omega) (ROps.lit1 _ ⟨tx, 3 + kd, it⟩ _) ?_ ?_ ?_ ?_ ?_ ?_
                          · omega
                          · rfl
                          · rfl
                          · rfl
                          · rfl
                          intro v6 w6 hown6 hg6 hat6
                          have hb6 := Below.own HBD.out HOD.out (Nat.le_refl _) (World.grownBy.trans (World.grownBy_alloc wd _ _) hg6)
                          obtain ⟨A6, c6, rfl, hc6⟩ := own_form2 hown6
                          have HF := Lib.hid (And.intro hb6 hown6)
                          clear hb6 hown6 hg6 hat6
                          try (refine hK _ _ ?_; clear hK K)
                          refine wpAny_ready (rs := [20]) (by kernel_rfl) (by simp) ?_
                          refine AllReady.cons rfl (fun K hK => ?_) AllReady.nil
                          go_simp
                          try (refine hK _ _ ?_; clear hK K)
                          refine wpAny_done (by kernel_rfl) ?_ _
                          try go_simp
                          go_wp2_with fail
                          go_roundw
                          case rel => exact ⟨k + 1, (m' + 1) + 1, by omega, by omega, by go_num, HF.out.1, by rw [HST2.out]; exact HF.out.2⟩
                          case measure => simp [intOf]; omega
                        · go_simp
                          try (refine hK _ _ ?_; clear hK K)
                          refine wpAny_ready (rs := [5]) (by kernel_rfl) (by simp) ?_
                          refine AllReady.cons rfl (fun K hK => ?_) AllReady.nil
                          go_simp
                          try (refine hK _ _ ?_; clear hK K)
                          refine wpAny_ready (rs := [17]) (by kernel_rfl) (by simp) ?_
                          refine AllReady.cons rfl (fun K hK => ?_) AllReady.nil
                          go_simp
                          try (refine hK _ _ ?_; clear hK K)
                          refine wpAny_ready (rs := [18]) (by kernel_rfl) (by simp) ?_
                          refine AllReady.cons rfl (fun K hK => ?_) AllReady.nil
                          go_simp
                          try (refine hK _ _ ?_; clear hK K)
                          refine wpAny_ready (rs := [19]) (by kernel_rfl) (by simp) ?_
                          refine AllReady.cons rfl (fun K hK => ?_) AllReady.nil
                          refine step_steps (.tmp 99) (.tmp 117) (c := 1) (HOD.out.alloc _) (by have := HBD.out.size; simp; omega) (ROps.lit1 _ ⟨tx, 3 + kd, it⟩ _) ?_ ?_ ?_ ?_ ?_ ?_
                          · omega
                          · rfl
                          · rfl
                          · rfl
                          · rfl
                          intro v6 w6 hown6 hg6 hat6
                          have hb6 := Below.own HBD.out HOD.out (Nat.le_refl _) (World.grownBy.trans (World.grownBy_alloc wd _ _) hg6)
                          obtain ⟨A6, c6, rfl, hc6⟩ := own_form2 hown6
                          have HF := Lib.hid (And.intro hb6 hown6)
                          clear hb6 hown6 hg6 hat6
                          try (refine hK _ _ ?_; clear hK K)
                          refine wpAny_ready (rs := [20]) (by kernel_rfl) (by simp) ?_
                          refine AllReady.cons rfl (fun K hK => ?_) AllReady.nil
                          go_simp
                          try (refine hK _ _ ?_; clear hK K)
                          refine wpAny_done (by kernel_rfl) ?_ _
                          try go_simp
                          go_wp2_with fail
                          go_roundw
                          case rel => exact ⟨k + 1, (m' + 1) + 1, by omega, by omega, by go_num, HF.out.1, by rw [HST2.out]; exact HF.out.2⟩
                          case measure => simp [intOf]; omega
                      · go_simp
                        try (refine hK _ _ ?_; clear hK K)
                        refine wpAny_ready (rs := [5, 11]) (by kernel_rfl) (by simp) ?_
                        refine AllReady.cons rfl (fun K hK => ?_) (AllReady.cons rfl (fun K hK => ?_) (AllReady.nil))
                        · go_simp
                          try (refine hK _ _ ?_; clear hK K)
                          refine wpAny_ready (rs := [11]) (by kernel_rfl) (by simp) ?_
                          refine AllReady.cons rfl (fun K hK => ?_) AllReady.nil
                          go_simp
                          try (refine hK _ _ ?_; clear hK K)
                          refine wpAny_ready (rs := [17]) (by kernel_rfl) (by simp) ?_
                          refine AllReady.cons rfl (fun K hK => ?_) AllReady.nil
                          go_simp
                          try (refine hK _ _ ?_; clear hK K)
                          refine wpAny_ready (rs := [18]) (by kernel_rfl) (by simp) ?_
                          refine AllReady.cons rfl (fun K hK => ?_) AllReady.nil
                          go_simp
                          try (refine hK _ _ ?_; clear hK K)
                          refine wpAny_ready (rs := [19]) (by kernel_rfl) (by simp) ?_
                          refine AllReady.cons rfl (fun K hK => ?_) AllReady.nil
                          refine step_steps (.tmp 99) (.tmp 117) (c := 1) (HOD.out.alloc _) (by have := HBD.out.size; simp; omega) (ROps.lit1 _ ⟨tx, 3 + kd, it⟩ _) ?_ ?_ ?_ ?_ ?_ ?_
                          · omega
                          · rfl
                          · rfl
                          · rfl
                          · rfl
                          intro v6 w6 hown6 hg6 hat6
                          have hb6 := Below.own HBD.out HOD.out (Nat.le_refl _) (World.grownBy.trans (World.grownBy_alloc wd _ _) hg6)
                          obtain ⟨A6, c6, rfl, hc6⟩ := own_form2 hown6
                          have HF := Lib.hid (And.intro hb6 hown6)
                          clear hb6 hown6 hg6 hat6
                          try (refine hK _ _ ?_; clear hK K)
                          refine wpAny_ready (rs := [20]) (by kernel_rfl) (by simp) ?_
                          refine AllReady.cons rfl (fun K hK => ?_) AllReady.nil
                          go_simp
                          try (refine hK _ _ ?_; clear hK K)
                          refine wpAny_done (by kernel_rfl) ?_ _
                          try go_simp
                          go_wp2_with fail
                          go_roundw
                          case rel => exact ⟨k + 1, (m' + 1) + 1, by omega, by omega, by go_num, HF.out.1, by rw [HST2.out]; exact HF.out.2⟩
                          case measure => simp [intOf]; omega
                        · go_simp
                          try (refine hK _ _ ?_; clear hK K)
                          refine wpAny_ready (rs := [5]) (by kernel_rfl) (by simp) ?_
                          refine AllReady.cons rfl (fun K hK => ?_) AllReady.nil
                          go_simp
                          try (refine hK _ _ ?_; clear hK K)
                          refine wpAny_ready (rs := [17]) (by kernel_rfl) (by simp) ?_
                          refine AllReady.cons rfl (fun K hK => ?_) AllReady.nil
                          go_simp
                          try (refine hK _ _ ?_; clear hK K)
                          refine wpAny_ready (rs := [18]) (by kernel_rfl) (by simp) ?_
                          refine AllReady.cons rfl (fun K hK => ?_) AllReady.nil
                          go_simp
                          try (refine hK _ _ ?_; clear hK K)
                          refine wpAny_ready (rs := [19]) (by kernel_rfl) (by simp) ?_
                          refine AllReady.cons rfl (fun K hK => ?_) AllReady.nil
                          refine step_steps (.tmp 99) (.tmp 117) (c := 1) (HOD.out.alloc _) (by have := HBD.out.size; simp; omega) (ROps.lit1 _ ⟨tx, 3 + kd, it⟩ _) ?_ ?_ ?_ ?_ ?_ ?_
                          · omega
                          · rfl
                          · rfl
                          · rfl
                          · rfl
                          intro v6 w6 hown6 hg6 hat6
                          have hb6 := Below.own HBD.out HOD.out (Nat.le_refl _) (World.grownBy.trans (World.grownBy_alloc wd _ _) hg6)
                          obtain ⟨A6, c6, rfl, hc6⟩ := own_form2 hown6
                          have HF := Lib.hid (And.intro hb6 hown6)
                          clear hb6 hown6 hg6 hat6
                          try (refine hK _ _ ?_; clear hK K)
                          refine wpAny_ready (rs := [20]) (by kernel_rfl) (by simp) ?_
                          refine AllReady.cons rfl (fun K hK => ?_) AllReady.nil
                          go_simp
                          try (refine hK _ _ ?_; clear hK K)
                          refine wpAny_done (by kernel_rfl) ?_ _
                          try go_simp
                          go_wp2_with fail
                          go_roundw
                          case rel => exact ⟨k + 1, (m' + 1) + 1, by omega, by omega, by go_num, HF.out.1, by rw [HST2.out]; exact HF.out.2⟩
                          case measure => simp [intOf]; omega
                    · go_simp
                      try (refine hK _ _ ?_; clear hK K)
                      refine wpAny_ready (rs := [5, 10]) (by kernel_rfl) (by simp) ?_
                      refine AllReady.cons rfl (fun K hK => ?_) (AllReady.cons rfl (fun K hK => ?_) (AllReady.nil))
                      · go_simp
                        try (refine hK _ _ ?_; clear hK K)
                        refine wpAny_ready (rs := [10]) (by kernel_rfl) (by simp) ?_
                        refine AllReady.cons rfl (fun K hK => ?_) AllReady.nil
                        go_simp
                        try (refine hK _ _ ?_; clear hK K)
                        refine wpAny_ready (rs := [11]) (by kernel_rfl) (by simp) ?_
                        refine AllReady.cons rfl (fun K hK => ?_) AllReady.nil
                        go_simp
                        try (refine hK _ _ ?_; clear hK K)
                        refine wpAny_ready (rs := [17]) (by kernel_rfl) (by simp) ?_
                        refine AllReady.cons rfl (fun K hK => ?_) AllReady.nil
                        go_simp
                        try (refine hK _ _ ?_; clear hK K)
                        refine wpAny_ready (rs := [18]) (by kernel_rfl) (by simp) ?_
                        refine AllReady.cons rfl (fun K hK => ?_) AllReady.nil
                        go_simp
                        try (refine hK _ _ ?_; clear hK K)
                        refine wpAny_ready (rs := [19]) (by kernel_rfl) (by simp) ?_
                        refine AllReady.cons rfl (fun K hK => ?_) AllReady.nil
                        refine step_steps (.tmp 99) (.tmp 117) (c := 1) (HOD.out.alloc _) (by have := HBD.out.size; simp; omega) (ROps.lit1 _ ⟨tx, 3 + kd, it⟩ _) ?_ ?_ ?_ ?_ ?_ ?_
                        · omega
                        · rfl
                        · rfl
                        · rfl
                        · rfl
                        intro v6 w6 hown6 hg6 hat6
                        have hb6 := Below.own HBD.out HOD.out (Nat.le_refl _) (World.grownBy.trans (World.grownBy_alloc wd _ _) hg6)
                        obtain ⟨A6, c6, rfl, hc6⟩ := own_form2 hown6
                        have HF := Lib.hid (And.intro hb6 hown6)
                        clear hb6 hown6 hg6 hat6
                        try (refine hK _ _ ?_; clear hK K)
                        refine wpAny_ready (rs := [20]) (by kernel_rfl) (by simp) ?_
                        refine AllReady.cons rfl (fun K hK => ?_) AllReady.nil
                        go_simp
                        try (refine hK _ _ ?_; clear hK K)
                        refine wpAny_done (by kernel_rfl) ?_ _
                        try go_simp
                        go_wp2_with fail
                        go_roundw
                        case rel => exact ⟨k + 1, (m' + 1) + 1, by omega, by omega, by go_num, HF.out.1, by rw [HST2.out]; exact HF.out.2⟩
                        case measure => simp [intOf]; omega
                      · go_simp
                        try (refine hK _ _ ?_; clear hK K)
                        refine wpAny_ready (rs := [5, 11]) (by kernel_rfl) (by simp) ?_
                        refine AllReady.cons rfl (fun K hK => ?_) (AllReady.cons rfl (fun K hK => ?_) (AllReady.nil))
                        · go_simp
                          try (refine hK _ _ ?_; clear hK K)
                          refine wpAny_ready (rs := [11]) (by kernel_rfl) (by simp) ?_
                          refine AllReady.cons rfl (fun K hK => ?_) AllReady.nil
                          go_simp
                          try (refine hK _ _ ?_; clear hK K)
                          refine wpAny_ready (rs := [17]) (by kernel_rfl) (by simp) ?_
                          refine AllReady.cons rfl (fun K hK => ?_) AllReady.nil
                          go_simp
                          try (refine hK _ _ ?_; clear hK K)
                          refine wpAny_ready (rs := [18]) (by kernel_rfl) (by simp) ?_
                          refine AllReady.cons rfl (fun K hK => ?_) AllReady.nil
                          go_simp
                          try (refine hK _ _ ?_; clear hK K)
                          refine wpAny_ready (rs := [19]) (by kernel_rfl) (by simp) ?_
                          refine AllReady.cons rfl (fun K hK => ?_) AllReady.nil
                          refine step_steps (.tmp 99) (.tmp 117) (c := 1) (HOD.out.alloc _) (by have := HBD.out.size; simp; omega) (ROps.lit1 _ ⟨tx, 3 + kd, it⟩ _) ?_ ?_ ?_ ?_ ?_ ?_
                          · omega
                          · rfl
                          · rfl
                          · rfl
                          · rfl
                          intro v6 w6 hown6 hg6 hat6
                          have hb6 := Below.own HBD.out HOD.out (Nat.le_refl _) (World.grownBy.trans (World.grownBy_alloc wd _ _) hg6)
                          obtain ⟨A6, c6, rfl, hc6⟩ := own_form2 hown6
                          have HF := Lib.hid (And.intro hb6 hown6)
                          clear hb6 hown6 hg6 hat6
                          try (refine hK _ _ ?_; clear hK K)
                          refine wpAny_ready (rs := [20]) (by kernel_rfl) (by simp) ?_
                          refine AllReady.cons rfl (fun K hK => ?_) AllReady.nil
                          go_simp
                          try (refine hK _ _ ?_; clear hK K)
                          refine wpAny_done (by kernel_rfl) ?_ _
                          try go_simp
                          go_wp2_with fail
                          go_roundw
                          case rel => exact ⟨k + 1, (m' + 1) + 1, by omega, by omega, by go_num, HF.out.1, by rw [HST2.out]; exact HF.out.2⟩
                          case measure => simp [intOf]; omega
                        · go_simp
                          try (refine hK _ _ ?_; clear hK K)
                          refine wpAny_ready (rs := [5]) (by kernel_rfl) (by simp) ?_
                          refine AllReady.cons rfl (fun K hK => ?_) AllReady.nil
                          go_simp
                          try (refine hK _ _ ?_; clear hK K)
                          refine wpAny_ready (rs := [17]) (by kernel_rfl) (by simp) ?_
                          refine AllReady.cons rfl (fun K hK => ?_) AllReady.nil
                          go_simp
                          try (refine hK _ _ ?_; clear hK K)
                          refine wpAny_ready (rs := [18]) (by kernel_rfl) (by simp) ?_
                          refine AllReady.cons rfl (fun K hK => ?_) AllReady.nil
                          go_simp
                          try (refine hK _ _ ?_; clear hK K)
                          refine wpAny_ready (rs := [19]) (by kernel_rfl) (by simp) ?_
                          refine AllReady.cons rfl (fun K hK => ?_) AllReady.nil
                          refine step_steps (.tmp 99) (.tmp 117) (c := 1) (HOD.out.alloc _) (by have := HBD.out.size; simp; omega) (ROps.lit1 _ ⟨tx, 3 + kd, it⟩ _) ?_ ?_ ?_ ?_ ?_ ?_
                          · omega
                          · rfl
                          · rfl
                          · rfl
                          · rfl
                          intro v6 w6 hown6 hg6 hat6
                          have hb6 := Below.own HBD.out HOD.out (Nat.le_refl _) (World.grownBy.trans (World.grownBy_alloc wd _ _) hg6)
                          obtain ⟨A6, c6, rfl, hc6⟩ := own_form2 hown6
                          have HF := Lib.hid (And.intro hb6 hown6)
                          clear hb6 hown6 hg6 hat6
                          try (refine hK _ _ ?_; clear hK K)
                          refine wpAny_ready (rs := [20]) (by kernel_rfl) (by simp) ?_
                          refine AllReady.cons rfl (fun K hK => ?_) AllReady.nil
                          go_simp
                          try (refine hK _ _ ?_; clear hK K)
                          refine wpAny_done (by kernel_rfl) ?_ _
                          try go_simp
                          go_wp2_with fail
                          go_roundw
                          case rel => exact ⟨k + 1, (m' + 1) + 1, by omega, by omega, by go_num, HF.out.1, by rw [HST2.out]; exact HF.out.2⟩
                          case measure => simp [intOf]; omega
                · rw [if_neg hp] at HST2
                  go_wp2_with fail
                  obtain ⟨c0, c1, c2⟩ := HCELL.out _ hb5
                  obtain ⟨wd, hwd⟩ : ∃ wd : World, wd = w5.drew := ⟨_, rfl⟩
                  have HWD := Lib.hid hwd
                  have d0 : wd.cell? ⟨bs, os + k * 3, none⟩ = some (.int .i64 tx) := by rw [hwd]; exact c0
                  have d1 : wd.cell? ⟨bs, os + k * 3 + 1, none⟩ = some (.int .i64 kd) := by rw [hwd]; exact c1
                  have d2 : wd.cell? ⟨bs, os + k * 3 + 2, none⟩ = some (.int .i64 it) := by rw [hwd]; exact c2
                  have HBD : Hid (Below w.heap.size w wd) := by show Below _ _ _; rw [hwd]; exact (hb5).drew
                  have HOD : Hid (wd.ownsRow w.heap.size 31 3 (.slice Ao m' co') m' (opCells (L))) := by show World.ownsRow _ _ _ _ _ _ _; rw [hwd]; exact HOWN5.out
                  have hwr : IntKind.i64.wrap (3 + kd) = 3 + kd := IntWalk.i64_in _ (by omega)
                  clear hwd c0 c1 c2
                  refine wp_region_any (by kernel_rfl) ?_
                  change wpAny _ _ _ _ _ _ _ (World.drew _)
                  rw [← HWD.out]
                  refine wpAny_take (i := 0) (v := ?_) rfl (by kernel_rfl) (by kernel_rfl) (by kernel_rfl) (fun _ _ _ h => h) (Or.inl ⟨by kernel_rfl, ?_⟩) ?_
                  rotate_left
                  · intro w; go_simp; try with_reducible rfl
                  refine wpAny_take (i := 1) (v := ?_) rfl (by kernel_rfl) (by kernel_rfl) (by kernel_rfl) (fun _ _ _ h => h) (Or.inl ⟨by kernel_rfl, ?_⟩) ?_
                  rotate_left
                  · intro w; go_simp; try with_reducible rfl
                  refine wpAny_take (i := 2) (v := ?_) rfl (by kernel_rfl) (by kernel_rfl) (by kernel_rfl) (fun _ _ _ h => h) (Or.inl ⟨by kernel_rfl, ?_⟩) ?_
                  rotate_left
                  · intro w; go_simp; try with_reducible rfl
                  refine wpAny_take (i := 3) (v := ?_) rfl (by kernel_rfl) (by kernel_rfl) (by kernel_rfl) (fun _ _ _ h => h) (Or.inl ⟨by kernel_rfl, ?_⟩) ?_
                  rotate_left
                  · intro w; go_simp; try with_reducible rfl
                  refine wpAny_take (i := 4) (v := ?_) rfl (by kernel_rfl) (by kernel_rfl) (by kernel_rfl) (fun _ _ _ h => h) (Or.inl ⟨by kernel_rfl, ?_⟩) ?_
                  rotate_left
                  · intro w; go_simp; try with_reducible rfl
                  refine wpAny_take (i := 6) (v := ?_) rfl (by kernel_rfl) (by kernel_rfl) (by kernel_rfl) (fun _ _ _ h => h) (Or.inl ⟨by kernel_rfl, ?_⟩) ?_
                  rotate_left
                  · intro w; go_simp; try with_reducible rfl
                  refine wpAny_take (i := 7) (v := ?_) rfl (by kernel_rfl) (by kernel_rfl) (by kernel_rfl) (fun _ _ _ h => h) (Or.inl ⟨by kernel_rfl, ?_⟩) ?_
                  rotate_left
                  · intro w; go_simp; try with_reducible rfl
                  refine wpAny_take (i := 8) (v := ?_) rfl (by kernel_rfl) (by kernel_rfl) (by kernel_rfl) (fun _ _ _ h => h) (Or.inl ⟨by kernel_rfl, ?_⟩) ?_
                  rotate_left
                  · intro w; go_simp; try with_reducible rfl
                  refine wpAny_take (i := 9) (v := ?_) rfl (by kernel_rfl) (by kernel_rfl) (by kernel_rfl) (fun _ _ _ h => h) (Or.inl ⟨by kernel_rfl, ?_⟩) ?_
                  rotate_left
                  · intro w; go_simp; try with_reducible rfl
                  refine wpAny_take (i := 12) (v := ?_) rfl (by kernel_rfl) (by kernel_rfl) (by kernel_rfl) (fun _ _ _ h => h) (Or.inl ⟨by kernel_rfl, ?_⟩) ?_
                  rotate_left
                  · intro w; go_simp; try with_reducible rfl
                  refine wpAny_take (i := 13) (v := ?_) rfl (by kernel_rfl) (by kernel_rfl) (by kernel_rfl) (fun _ _ _ h => h) (Or.inl ⟨by kernel_rfl, ?_⟩) ?_
                  rotate_left
                  · intro w; go_simp; try with_reducible rfl
                  refine wpAny_take (i := 14) (v := ?_) rfl (by kernel_rfl) (by kernel_rfl) (by kernel_rfl) (fun _ _ _ h => h) (Or.inl ⟨by kernel_rfl, ?_⟩) ?_
                  rotate_left
                  · intro w; go_simp; try with_reducible rfl
                  refine wpAny_take (i := 15) (v := ?_) rfl (by kernel_rfl) (by kernel_rfl) (by kernel_rfl) (fun _ _ _ h => h) (Or.inl ⟨by kernel_rfl, ?_⟩) ?_
                  rotate_left
                  · intro w; go_simp; try with_reducible rfl
                  refine wpAny_ready (rs := [5, 10, 16]) (by kernel_rfl) (by simp) ?_
                  refine AllReady.cons rfl (fun K hK => ?_) (AllReady.cons rfl (fun K hK => ?_) (AllReady.cons rfl (fun K hK => ?_) (AllReady.nil)))
                  · go_simp
                    try (refine hK _ _ ?_; clear hK K)
                    refine wpAny_ready (rs := [10, 16]) (by kernel_rfl) (by simp) ?_
                    refine AllReady.cons rfl (fun K hK => ?_) (AllReady.cons rfl (fun K hK => ?_) (AllReady.nil))
                    · go_simp
                      try (refine hK _ _ ?_; clear hK K)
                      refine wpAny_ready (rs := [11, 16]) (by kernel_rfl) (by simp) ?_
                      refine AllReady.cons rfl (fun K hK => ?_) (AllReady.cons rfl (fun K hK => ?_) (AllReady.nil))
                      · go_simp
                        try (refine hK _ _ ?_; clear hK K)
                        refine wpAny_ready (rs := [16]) (by kernel_rfl) (by simp) ?_
                        refine AllReady.cons rfl (fun K hK => ?_) AllReady.nil
                        go_simp
                        try (refine hK _ _ ?_; clear hK K)
                        refine wpAny_ready (rs := [17]) (by kernel_rfl) (by simp) ?_
                        refine AllReady.cons rfl (fun K hK => ?_) AllReady.nil
                        go_simp
                        try (refine hK _ _ ?_; clear hK K)
                        refine wpAny_ready (rs := [18]) (by kernel_rfl) (by simp) ?_
                        refine AllReady.cons rfl (fun K hK => ?_) AllReady.nil
                        go_simp
                        try (refine hK _ _ ?_; clear hK K)
                        refine wpAny_ready (rs := [19]) (by kernel_rfl) (by simp) ?_
                        refine AllReady.cons rfl (fun K hK => ?_) AllReady.nil
                        refine step_steps (.tmp 99) (.tmp 117) (c := 1) (HOD.out.alloc _) (by have := HBD.out.size; simp; omega) (ROps.lit1 _ ⟨tx, 3 + kd, it⟩ _) ?_ ?_ ?_ ?_ ?_ ?_
                        · omega
                        · rfl
                        · rfl
                        · rfl
                        · rfl
                        intro v6 w6 hown6 hg6 hat6
                        have hb6 := Below.own HBD.out HOD.out (Nat.le_refl _) (World.grownBy.trans (World.grownBy_alloc wd _ _) hg6)
                        obtain ⟨A6, c6, rfl, hc6⟩ := own_form2 hown6
                        have HF := Lib.hid (And.intro hb6 hown6)
                        clear hb6 hown6 hg6 hat6
                        try (refine hK _ _ ?_; clear hK K)
                        refine wpAny_ready (rs := [20]) (by kernel_rfl) (by simp) ?_
                        refine AllReady.cons rfl (fun K hK => ?_) AllReady.nil
                        go_simp
                        try (refine hK _ _ ?_; clear hK K)
                        refine wpAny_done (by kernel_rfl) ?_ _
                        try go_simp
                        go_wp2_with fail
                        go_roundw
                        case rel => exact ⟨k + 1, m' + 1, by omega, by omega, by go_num, HF.out.1, by rw [HST2.out]; exact HF.out.2⟩
                        case measure => simp [intOf]; omega
                      · go_simp
                        try (refine hK _ _ ?_; clear hK K)
                        refine wpAny_ready (rs := [11]) (by kernel_rfl) (by simp) ?_
                        refine AllReady.cons rfl (fun K hK => ?_) AllReady.nil
                        go_simp
                        try (refine hK _ _ ?_; clear hK K)
                        refine wpAny_ready (rs := [17]) (by kernel_rfl) (by simp) ?_
                        refine AllReady.cons rfl (fun K hK => ?_) AllReady.nil
                        go_simp
                        try (refine hK _ _ ?_; clear hK K)
                        refine wpAny_ready (rs := [18]) (by kernel_rfl) (by simp) ?_
                        refine AllReady.cons rfl (fun K hK => ?_) AllReady.nil
                        go_simp
                        try (refine hK _ _ ?_; clear hK K)
                        refine wpAny_ready (rs := [19]) (by kernel_rfl) (by simp) ?_
                        refine AllReady.cons rfl (fun K hK => ?_) AllReady.nil
                        refine step_steps (.tmp 99) (.tmp 117) (c := 1) (HOD.out.alloc _) (by have := HBD.out.size; simp; omega) (ROps.lit1 _ ⟨tx, 3 + kd, it⟩ _) ?_ ?_ ?_ ?_ ?_ ?_
                        · omega
                        · rfl
                        · rfl
                        · rfl
                        · rfl
                        intro v6 w6 hown6 hg6 hat6
                        have hb6 := Below.own HBD.out HOD.out (Nat.le_refl _) (World.grownBy.trans (World.grownBy_alloc wd _ _) hg6)
                        obtain ⟨A6, c6, rfl, hc6⟩ := own_form2 hown6
                        have HF := Lib.hid (And.intro hb6 hown6)
                        clear hb6 hown6 hg6 hat6
                        try (refine hK _ _ ?_; clear hK K)
                        refine wpAny_ready (rs := [20]) (by kernel_rfl) (by simp) ?_
                        refine AllReady.cons rfl (fun K hK => ?_) AllReady.nil
                        go_simp
                        try (refine hK _ _ ?_; clear hK K)
                        refine wpAny_done (by kernel_rfl) ?_ _
                        try go_simp
                        go_wp2_with fail
                        go_roundw
                        case rel => exact ⟨k + 1, m' + 1, by omega, by omega, by go_num, HF.out.1, by rw [HST2.out]; exact HF.out.2⟩
                        case measure => simp [intOf]; omega
                    · go_simp
                      try (refine hK _ _ ?_; clear hK K)
                      refine wpAny_ready (rs := [10]) (by kernel_rfl) (by simp) ?_
                      refine AllReady.cons rfl (fun K hK => ?_) AllReady.nil
                      go_simp
                      try (refine hK _ _ ?_; clear hK K)
                      refine wpAny_ready (rs := [11]) (by kernel_rfl) (by simp) ?_
                      refine AllReady.cons rfl (fun K hK => ?_) AllReady.nil
                      go_simp
                      try (refine hK _ _ ?_; clear hK K)
                      refine wpAny_ready (rs := [17]) (by kernel_rfl) (by simp) ?_
                      refine AllReady.cons rfl (fun K hK => ?_) AllReady.nil
                      go_simp
                      try (refine hK _ _ ?_; clear hK K)
                      refine wpAny_ready (rs := [18]) (by kernel_rfl) (by simp) ?_
                      refine AllReady.cons rfl (fun K hK => ?_) AllReady.nil
                      go_simp
                      try (refine hK _ _ ?_; clear hK K)
                      refine wpAny_ready (rs := [19]) (by kernel_rfl) (by simp) ?_
                      refine AllReady.cons rfl (fun K hK => ?_) AllReady.nil
                      refine step_steps (.tmp 99) (.tmp 117) (c := 1) (HOD.out.alloc _) (by have := HBD.out.size; simp; omega) (ROps.lit1 _ ⟨tx, 3 + kd, it⟩ _) ?_ ?_ ?_ ?_ ?_ ?_
                      · omega
                      · rfl
                      · rfl
                      · rfl
                      · rfl
                      intro v6 w6 hown6 hg6 hat6
                      have hb6 := Below.own HBD.out HOD.out (Nat.le_refl _) (World.grownBy.trans (World.grownBy_alloc wd _ _) hg6)
                      obtain ⟨A6, c6, rfl, hc6⟩ := own_form2 hown6
                      have HF := Lib.hid (And.intro hb6 hown6)
                      clear hb6 hown6 hg6 hat6
                      try (refine hK _ _ ?_; clear hK K)
                      refine wpAny_ready (rs := [20]) (by kernel_rfl) (by simp) ?_
                      refine AllReady.cons rfl (fun K hK => ?_) AllReady.nil
                      go_simp
                      try (refine hK _ _ ?_; clear hK K)
                      refine wpAny_done (by kernel_rfl) ?_ _
                      try go_simp
                      go_wp2_with fail
                      go_roundw
                      case rel => exact ⟨k + 1, m' + 1, by omega, by omega, by go_num, HF.out.1, by rw [HST2.out]; exact HF.out.2⟩
                      case measure => simp [intOf]; omega
                  · go_simp
                    try (refine hK _ _ ?_; clear hK K)
                    refine wpAny_ready (rs := [5, 11, 16]) (by kernel_rfl) (by simp) ?_
                    refine AllReady.cons rfl (fun K hK => ?_) (AllReady.cons rfl (fun K hK => ?_) (AllReady.cons rfl (fun K hK => ?_) (AllReady.nil)))
                    · go_simp
                      try (refine hK _ _ ?_; clear hK K)
                      refine wpAny_ready (rs := [11, 16]) (by kernel_rfl) (by simp) ?_
                      refine AllReady.cons rfl (fun K hK => ?_) (AllReady.cons rfl (fun K hK => ?_) (AllReady.nil))
                      · go_simp
                        try (refine hK _ _ ?_; clear hK K)
                        refine wpAny_ready (rs := [16]) (by kernel_rfl) (by simp) ?_
                        refine AllReady.cons rfl (fun K hK => ?_) AllReady.nil
                        go_simp
                        try (refine hK _ _ ?_; clear hK K)
                        refine wpAny_ready (rs := [17]) (by kernel_rfl) (by simp) ?_
                        refine AllReady.cons rfl (fun K hK => ?_) AllReady.nil
                        go_simp
                        try (refine hK _ _ ?_; clear hK K)
                        refine wpAny_ready (rs := [18]) (by kernel_rfl) (by simp) ?_
                        refine AllReady.cons rfl (fun K hK => ?_) AllReady.nil
                        go_simp
                        try (refine hK _ _ ?_; clear hK K)
                        refine wpAny_ready (rs := [19]) (by kernel_rfl) (by simp) ?_
                        refine AllReady.cons rfl (fun K hK => ?_) AllReady.nil
                        refine step_steps (.tmp 99) (.tmp 117) (c := 1) (HOD.out.alloc _) (by have := HBD.out.size; simp; omega) (ROps.lit1 _ ⟨tx, 3 + kd, it⟩ _) ?_ ?_ ?_ ?_ ?_ ?_
                        · omega
                        · rfl
                        · rfl
                        · rfl
                        · rfl
                        intro v6 w6 hown6 hg6 hat6
                        have hb6 := Below.own HBD.out HOD.out (Nat.le_refl _) (World.grownBy.trans (World.grownBy_alloc wd _ _) hg6)
                        obtain ⟨A6, c6, rfl, hc6⟩ := own_form2 hown6
                        have HF := Lib.hid (And.intro hb6 hown6)
                        clear hb6 hown6 hg6 hat6
                        try (refine hK _ _ ?_; clear hK K)
                        refine wpAny_ready (rs := [20]) (by kernel_rfl) (by simp) ?_
                        refine AllReady.cons rfl (fun K hK => ?_) AllReady.nil
                        go_simp
                        try (refine hK _ _ ?_; clear hK K)
                        refine wpAny_done (by kernel_rfl) ?_ _
                        try go_simp
                        go_wp2_with fail
                        go_roundw
                        case rel => exact ⟨k + 1, m' + 1, by omega, by omega, by go_num, HF.out.1, by rw [HST2.out]; exact HF.out.2⟩
                        case measure => simp [intOf]; omega
                      · go_simp
                        try (refine hK _ _ ?_; clear hK K)
                        refine wpAny_ready (rs := [11]) (by kernel_rfl) (by simp) ?_
                        refine AllReady.cons rfl (fun K hK => ?_) AllReady.nil
                        go_simp
                        try (refine hK _ _ ?_; clear hK K)
                        refine wpAny_ready (rs := [17]) (by kernel_rfl) (by simp) ?_
                        refine AllReady.cons rfl (fun K hK => ?_) AllReady.nil
                        go_simp
                        try (refine hK _ _ ?_; clear hK K)
                        refine wpAny_ready (rs := [18]) (by kernel_rfl) (by simp) ?_
                        refine AllReady.cons rfl (fun K hK => ?_) AllReady.nil
                        go_simp
                        try (refine hK _ _ ?_; clear hK K)
                        refine wpAny_ready (rs := [19]) (by kernel_rfl) (by simp) ?_
                        refine AllReady.cons rfl (fun K hK => ?_) AllReady.nil
                        refine step_steps (.tmp 99) (.tmp 117) (c := 1) (HOD.out.alloc _) (by have := HBD.out.size; simp; omega) (ROps.lit1 _ ⟨tx, 3 + kd, it⟩ _) ?_ ?_ ?_ ?_ ?_ ?_
                        · omega
                        · rfl
                        · rfl
                        · rfl
                        · rfl
                        intro v6 w6 hown6 hg6 hat6
                        have hb6 := Below.own HBD.out HOD.out (Nat.le_refl _) (World.grownBy.trans (World.grownBy_alloc wd _ _) hg6)
                        obtain ⟨A6, c6, rfl, hc6⟩ := own_form2 hown6
                        have HF := Lib.hid (And.intro hb6 hown6)
                        clear hb6 hown6 hg6 hat6
                        try (refine hK _ _ ?_; clear hK K)
                        refine wpAny_ready (rs := [20]) (by kernel_rfl) (by simp) ?_
                        refine AllReady.cons rfl (fun K hK => ?_) AllReady.nil
                        go_simp
                        try (refine hK _ _ ?_; clear hK K)
                        refine wpAny_done (by kernel_rfl) ?_ _
                        try go_simp
                        go_wp2_with fail
                        go_roundw
                        case rel => exact ⟨k + 1, m' + 1, by omega, by omega, by go_num, HF.out.1, by rw [HST2.out]; exact HF.out.2⟩
                        case measure => simp [intOf]; omega
                    · go_simp
                      try (refine hK _ _ ?_; clear hK K)
                      refine wpAny_ready (rs := [5, 16]) (by kernel_rfl) (by simp) ?_
                      refine AllReady.cons rfl (fun K hK => ?_) (AllReady.cons rfl (fun K hK => ?_) (AllReady.nil))
                      · go_simp
                        try (refine hK _ _ ?_; clear hK K)
                        refine wpAny_ready (rs := [16]) (by kernel_rfl) (by simp) ?_
                        refine AllReady.cons rfl (fun K hK => ?_) AllReady.nil
                        go_simp
                        try (refine hK _ _ ?_; clear hK K)
                        refine wpAny_ready (rs := [17]) (by kernel_rfl) (by simp) ?_
                        refine AllReady.cons rfl (fun K hK => ?_) AllReady.nil
                        go_simp
                        try (refine hK _ _ ?_; clear hK K)
                        refine wpAny_ready (rs := [18]) (by kernel_rfl) (by simp) ?_
                        refine AllReady.cons rfl (fun K hK => ?_) AllReady.nil
                        go_simp
                        try (refine hK _ _ ?_; clear hK K)
                        refine wpAny_ready (rs := [19]) (by kernel_rfl) (by simp) ?_
                        refine AllReady.cons rfl (fun K hK => ?_) AllReady.nil
                        refine step_steps (.tmp 99) (.tmp 117) (c := 1) (HOD.out.alloc _) (by have := HBD.out.size; simp; omega) (ROps.lit1 _ ⟨tx, 3 + kd, it⟩ _) ?_ ?_ ?_ ?_ ?_ ?_
                        · omega
                        · rfl
                        · rfl
                        · rfl
                        · rfl
                        intro v6 w6 hown6 hg6 hat6
                        have hb6 := Below.own HBD.out HOD.out (Nat.le_refl _) (World.grownBy.trans (World.grownBy_alloc wd _ _) hg6)
                        obtain ⟨A6, c6, rfl, hc6⟩ := own_form2 hown6
                        have HF := Lib.hid (And.intro hb6 hown6)
                        clear hb6 hown6 hg6 hat6
                        try (refine hK _ _ ?_; clear hK K)
                        refine wpAny_ready (rs := [20]) (by kernel_rfl) (by simp) ?_
                        refine AllReady.cons rfl (fun K hK => ?_) AllReady.nil
                        go_simp
                        try (refine hK _ _ ?_; clear hK K)
                        refine wpAny_done (by kernel_rfl) ?_ _
                        try go_simp
                        go_wp2_with fail
                        go_roundw
                        case rel => exact ⟨k + 1, m' + 1, by omega, by omega, by go_num, HF.out.1, by rw [HST2.out]; exact HF.out.2⟩
                        case measure => simp [intOf]; omega
                      · go_simp
                        try (refine hK _ _ ?_; clear hK K)
                        refine wpAny_ready (rs := [5]) (by kernel_rfl) (by simp) ?_
                        refine AllReady.cons rfl (fun K hK => ?_) AllReady.nil
                        go_simp
                        try (refine hK _ _ ?_; clear hK K)
                        refine wpAny_ready (rs := [17]) (by kernel_rfl) (by simp) ?_
                        refine AllReady.cons rfl (fun K hK => ?_) AllReady.nil
                        go_simp
                        try (refine hK _ _ ?_; clear hK K)
                        refine wpAny_ready (rs := [18]) (by kernel_rfl) (by simp) ?_
                        refine AllReady.cons rfl (fun K hK => ?_) AllReady.nil
                        go_simp
                        try (refine hK _ _ ?_; clear hK K)
                        refine wpAny_ready (rs := [19]) (by kernel_rfl) (by simp) ?_
                        refine AllReady.cons rfl (fun K hK => ?_) AllReady.nil
                        refine step_steps (.tmp 99) (.tmp 117) (c := 1) (HOD.out.alloc _) (by have := HBD.out.size; simp; omega) (ROps.lit1 _ ⟨tx, 3 + kd, it⟩ _) ?_ ?_ ?_ ?_ ?_ ?_
                        · omega
                        · rfl
                        · rfl
                        · rfl
                        · rfl
                        intro v6 w6 hown6 hg6 hat6
                        have hb6 := Below.own HBD.out HOD.out (Nat.le_refl _) (World.grownBy.trans (World.grownBy_alloc wd _ _) hg6)
                        obtain ⟨A6, c6, rfl, hc6⟩ := own_form2 hown6
                        have HF := Lib.hid (And.intro hb6 hown6)
                        clear hb6 hown6 hg6 hat6
                        try (refine hK _ _ ?_; clear hK K)
                        refine wpAny_ready (rs := [20]) (by kernel_rfl) (by simp) ?_
                        refine AllReady.cons rfl (fun K hK => ?_) AllReady.nil
                        go_simp
                        try (refine hK _ _ ?_; clear hK K)
                        refine wpAny_done (by kernel_rfl) ?_ _
                        try go_simp
                        go_wp2_with fail
                        go_roundw
                        case rel => exact ⟨k + 1, m' + 1, by omega, by omega, by go_num, HF.out.1, by rw [HST2.out]; exact HF.out.2⟩
                        case measure => simp [intOf]; omega
                    · go_simp
                      try (refine hK _ _ ?_; clear hK K)
                      refine wpAny_ready (rs := [5, 11]) (by kernel_rfl) (by simp) ?_
                      refine AllReady.cons rfl (fun K hK => ?_) (AllReady.cons rfl (fun K hK => ?_) (AllReady.nil))
                      · go_simp
                        try (refine hK _ _ ?_; clear hK K)
                        refine wpAny_ready (rs := [11]) (by kernel_rfl) (by simp) ?_
                        refine AllReady.cons rfl (fun K hK => ?_) AllReady.nil
                        go_simp
                        try (refine hK _ _ ?_; clear hK K)
                        refine wpAny_ready (rs := [17]) (by kernel_rfl) (by simp) ?_
                        refine AllReady.cons rfl (fun K hK => ?_) AllReady.nil
                        go_simp
                        try (refine hK _ _ ?_; clear hK K)
                        refine wpAny_ready (rs := [18]) (by kernel_rfl) (by simp) ?_
                        refine AllReady.cons rfl (fun K hK => ?_) AllReady.nil
                        go_simp
                        try (refine hK _ _ ?_; clear hK K)
                        refine wpAny_ready (rs := [19]) (by kernel_rfl) (by simp) ?_
                        refine AllReady.cons rfl (fun K hK => ?_) AllReady.nil
                        refine step_steps (.tmp 99) (.tmp 117) (c := 1) (HOD.out.alloc _) (by have := HBD.out.size; simp; omega) (ROps.lit1 _ ⟨tx, 3 + kd, it⟩ _) ?_ ?_ ?_ ?_ ?_ ?_
                        · omega
                        · rfl
                        · rfl
                        · rfl
                        · rfl
                        intro v6 w6 hown6 hg6 hat6
                        have hb6 := Below.own HBD.out HOD.out (Nat.le_refl _) (World.grownBy.trans (World.grownBy_alloc wd _ _) hg6)
                        obtain ⟨A6, c6, rfl, hc6⟩ := own_form2 hown6
                        have HF := Lib.hid (And.intro hb6 hown6)
                        clear hb6 hown6 hg6 hat6
                        try (refine hK _ _ ?_; clear hK K)
                        refine wpAny_ready (rs := [20]) (by kernel_rfl) (by simp) ?_
                        refine AllReady.cons rfl (fun K hK => ?_) AllReady.nil
                        go_simp
                        try (refine hK _ _ ?_; clear hK K)
                        refine wpAny_done (by kernel_rfl) ?_ _
                        try go_simp
                        go_wp2_with fail
                        go_roundw
                        case rel => exact ⟨k + 1, m' + 1, by omega, by omega, by go_num, HF.out.1, by rw [HST2.out]; exact HF.out.2⟩
                        case measure => simp [intOf]; omega
                      · go_simp
                        try (refine hK _ _ ?_; clear hK K)
                        refine wpAny_ready (rs := [5]) (by kernel_rfl) (by simp) ?_
                        refine AllReady.cons rfl (fun K hK => ?_) AllReady.nil
                        go_simp
                        try (refine hK _ _ ?_; clear hK K)
                        refine wpAny_ready (rs := [17]) (by kernel_rfl) (by simp) ?_
                        refine AllReady.cons rfl (fun K hK => ?_) AllReady.nil
                        go_simp
                        try (refine hK _ _ ?_; clear hK K)
                        refine wpAny_ready (rs := [18]) (by kernel_rfl) (by simp) ?_
                        refine AllReady.cons rfl (fun K hK => ?_) AllReady.nil
                        go_simp
                        try (refine hK _ _ ?_; clear hK K)
                        refine wpAny_ready (rs := [19]) (by kernel_rfl) (by simp) ?_
                        refine AllReady.cons rfl (fun K hK => ?_) AllReady.nil
                        refine step_steps (.tmp 99) (.tmp 117) (c := 1) (HOD.out.alloc _) (by have := HBD.out.size; simp; omega) (ROps.lit1 _ ⟨tx, 3 + kd, it⟩ _) ?_ ?_ ?_ ?_ ?_ ?_
                        · omega
                        · rfl
                        · rfl
                        · rfl
                        · rfl
                        intro v6 w6 hown6 hg6 hat6
                        have hb6 := Below.own HBD.out HOD.out (Nat.le_refl _) (World.grownBy.trans (World.grownBy_alloc wd _ _) hg6)
                        obtain ⟨A6, c6, rfl, hc6⟩ := own_form2 hown6
                        have HF := Lib.hid (And.intro hb6 hown6)
                        clear hb6 hown6 hg6 hat6
                        try (refine hK _ _ ?_; clear hK K)
                        refine wpAny_ready (rs := [20]) (by kernel_rfl) (by simp) ?_
                        refine AllReady.cons rfl (fun K hK => ?_) AllReady.nil
                        go_simp
                        try (refine hK _ _ ?_; clear hK K)
                        refine wpAny_done (by kernel_rfl) ?_ _
                        try go_simp
                        go_wp2_with fail
                        go_roundw
                        case rel => exact ⟨k + 1, m' + 1, by omega, by omega, by go_num, HF.out.1, by rw [HST2.out]; exact HF.out.2⟩
                        case measure => simp [intOf]; omega
                  · go_simp
                    try (refine hK _ _ ?_; clear hK K)
                    refine wpAny_ready (rs := [5, 10]) (by kernel_rfl) (by simp) ?_
                    refine AllReady.cons rfl (fun K hK => ?_) (AllReady.cons rfl (fun K hK => ?_) (AllReady.nil))
                    · go_simp
                      try (refine hK _ _ ?_; clear hK K)
                      refine wpAny_ready (rs := [10]) (by kernel_rfl) (by simp) ?_
                      refine AllReady.cons rfl (fun K hK => ?_) AllReady.nil
                      go_simp
                      try (refine hK _ _ ?_; clear hK K)
                      refine wpAny_ready (rs := [11]) (by kernel_rfl) (by simp) ?_
                      refine AllReady.cons rfl (fun K hK => ?_) AllReady.nil
                      go_simp
                      try (refine hK _ _ ?_; clear hK K)
                      refine wpAny_ready (rs := [17]) (by kernel_rfl) (by simp) ?_
                      refine AllReady.cons rfl (fun K hK => ?_) AllReady.nil
                      go_simp
                      try (refine hK _ _ ?_; clear hK K)
                      refine wpAny_ready (rs := [18]) (by kernel_rfl) (by simp) ?_
                      refine AllReady.cons rfl (fun K hK => ?_) AllReady.nil
                      go_simp
                      try (refine hK _ _ ?_; clear hK K)
                      refine wpAny_ready (rs := [19]) (by kernel_rfl) (by simp) ?_
                      refine AllReady.cons rfl (fun K hK => ?_) AllReady.nil
                      refine step_steps (.tmp 99) (.tmp 117) (c := 1) (HOD.out.alloc _) (by have := HBD.out.size; simp; omega) (ROps.lit1 _ ⟨tx, 3 + kd, it⟩ _) ?_ ?_ ?_ ?_ ?_ ?_
                      · omega
                      · rfl
                      · rfl
                      · rfl
                      · rfl
                      intro v6 w6 hown6 hg6 hat6
                      have hb6 := Below.own HBD.out HOD.out (Nat.le_refl _) (World.grownBy.trans (World.grownBy_alloc wd _ _) hg6)
                      obtain ⟨A6, c6, rfl, hc6⟩ := own_form2 hown6
                      have HF := Lib.hid (And.intro hb6 hown6)
                      clear hb6 hown6 hg6 hat6
                      try (refine hK _ _ ?_; clear hK K)
                      refine wpAny_ready (rs := [20]) (by kernel_rfl) (by simp) ?_
                      refine AllReady.cons rfl (fun K hK => ?_) AllReady.nil
                      go_simp
                      try (refine hK _ _ ?_; clear hK K)
                      refine wpAny_done (by kernel_rfl) ?_ _
                      try go_simp
                      go_wp2_with fail
                      go_roundw
                      case rel => exact ⟨k + 1, m' + 1, by omega, by omega, by go_num, HF.out.1, by rw [HST2.out]; exact HF.out.2⟩
                      case measure => simp [intOf]; omega
                    · go_simp
                      try (refine hK _ _ ?_; clear hK K)
                      refine wpAny_ready (rs := [5, 11]) (by kernel_rfl) (by simp) ?_
                      refine AllReady.cons rfl (fun K hK => ?_) (AllReady.cons rfl (fun K hK => ?_) (AllReady.nil))
                      · go_simp
                        try (refine hK _ _ ?_; clear hK K)
                        refine wpAny_ready (rs := [11]) (by kernel_rfl) (by simp) ?_
                        refine AllReady.cons rfl (fun K hK => ?_) AllReady.nil
                        go_simp
                        try (refine hK _ _ ?_; clear hK K)
                        refine wpAny_ready (rs := [17]) (by kernel_rfl) (by simp) ?_
                        refine AllReady.cons rfl (fun K hK => ?_) AllReady.nil
                        go_simp
                        try (refine hK _ _ ?_; clear hK K)
                        refine wpAny_ready (rs := [18]) (by kernel_rfl) (by simp) ?_
                        refine AllReady.cons rfl (fun K hK => ?_) AllReady.nil
                        go_simp
                        try (refine hK _ _ ?_; clear hK K)
                        refine wpAny_ready (rs := [19]) (by kernel_rfl) (by simp) ?_
                        refine AllReady.cons rfl (fun K hK => ?_) AllReady.nil
                        refine step_steps (.tmp 99) (.tmp 117) (c := 1) (HOD.out.alloc _) (by have := HBD.out.size; simp; omega) (ROps.lit1 _ ⟨tx, 3 + kd, it⟩ _) ?_ ?_ ?_ ?_ ?_ ?_
                        · omega
                        · rfl
                        · rfl
                        · rfl
                        · rfl
                        intro v6 w6 hown6 hg6 hat6
                        have hb6 := Below.own HBD.out HOD.out (Nat.le_refl _) (World.grownBy.trans (World.grownBy_alloc wd _ _) hg6)
                        obtain ⟨A6, c6, rfl, hc6⟩ := own_form2 hown6
                        have HF := Lib.hid (And.intro hb6 hown6)
                        clear hb6 hown6 hg6 hat6
                        try (refine hK _ _ ?_; clear hK K)
                        refine wpAny_ready (rs := [20]) (by kernel_rfl) (by simp) ?_
                        refine AllReady.cons rfl (fun K hK => ?_) AllReady.nil
                        go_simp
                        try (refine hK _ _ ?_; clear hK K)
                        refine wpAny_done (by kernel_rfl) ?_ _
                        try go_simp
                        go_wp2_with fail
                        go_roundw
                        case rel => exact ⟨k + 1, m' + 1, by omega, by omega, by go_num, HF.out.1, by rw [HST2.out]; exact HF.out.2⟩
                        case measure => simp [intOf]; omega
                      · go_simp
                        try (refine hK _ _ ?_; clear hK K)
                        refine wpAny_ready (rs := [5]) (by kernel_rfl) (by simp) ?_
                        refine AllReady.cons rfl (fun K hK => ?_) AllReady.nil
                        go_simp
                        try (refine hK _ _ ?_; clear hK K)
                        refine wpAny_ready (rs := [17]) (by kernel_rfl) (by simp) ?_
                        refine AllReady.cons rfl (fun K hK => ?_) AllReady.nil
                        go_simp
                        try (refine hK _ _ ?_; clear hK K)
                        refine wpAny_ready (rs := [18]) (by kernel_rfl) (by simp) ?_
                        refine AllReady.cons rfl (fun K hK => ?_) AllReady.nil
                        go_simp
                        try (refine hK _ _ ?_; clear hK K)
                        refine wpAny_ready (rs := [19]) (by kernel_rfl) (by simp) ?_
                        refine AllReady.cons rfl (fun K hK => ?_) AllReady.nil
                        refine step_steps (.tmp 99) (.tmp 117) (c := 1) (HOD.out.alloc _) (by have := HBD.out.size; simp; omega) (ROps.lit1 _ ⟨tx, 3 + kd, it⟩ _) ?_ ?_ ?_ ?_ ?_ ?_
                        · omega
                        · rfl
                        · rfl
                        · rfl
                        · rfl
                        intro v6 w6 hown6 hg6 hat6
                        have hb6 := Below.own HBD.out HOD.out (Nat.le_refl _) (World.grownBy.trans (World.grownBy_alloc wd _ _) hg6)
                        obtain ⟨A6, c6, rfl, hc6⟩ := own_form2 hown6
                        have HF := Lib.hid (And.intro hb6 hown6)
                        clear hb6 hown6 hg6 hat6
                        try (refine hK _ _ ?_; clear hK K)
                        refine wpAny_ready (rs := [20]) (by kernel_rfl) (by simp) ?_
                        refine AllReady.cons rfl (fun K hK => ?_) AllReady.nil
                        go_simp
                        try (refine hK _ _ ?_; clear hK K)
                        refine wpAny_done (by kernel_rfl) ?_ _
                        try go_simp
                        go_wp2_with fail
                        go_roundw
                        case rel => exact ⟨k + 1, m' + 1, by omega, by omega, by go_num, HF.out.1, by rw [HST2.out]; exact HF.out.2⟩
                        case measure => simp [intOf]; omega
              · obtain ⟨M, hM⟩ : ∃ M, dropTo L tx x = M := ⟨_, rfl⟩
                have hsc := dropTo_succ L tx x
                rw [hM] at hown hsc
                have hlm := own_lenOps hown
                have hro : ROps wr Ao m' M := ROps.of_own hown (by omega)
                obtain ⟨h, hh⟩ : ∃ h, heldI M tx (x : Int) = h := ⟨_, rfl⟩
                have HE : Hid (heldI (M.take m') tx (x : Int) = h) := by show _ = _; rw [List.take_of_length_le (by omega)]; exact hh
                rw [hh] at hsc
                have HRO := Lib.hid hro
                clear hM hlm hro hh hbx
                by_cases hp : 0 ≤ h
                · rw [if_pos hp] at hsc
                  have HSC := Lib.hid hsc
                  clear hsc
                  go_wp2_with (first
                    | (go_at_call 104; go_loud (refine (sends_any ⟨tx, kd, it⟩ _).mono ?_; rintro e w2 ⟨rfl, hb2'⟩; rw [HBE.out]; have hb2 := hb.trans (hb2'.mono hsz); have hsz2 := hb2.size; obtain ⟨e0, e1, e2⟩ := HCELL.out _ hb2))
                    | (go_at_call 81; go_loud (refine (held_any Ao m' co' M m' tx (x : Int) w2 (HRO.out.below hb2' (Nat.le_refl _)) (Nat.le_refl _)).mono ?_; rintro e w3 ⟨rfl, hb3'⟩; rw [HE.out]; have hb3 := hb2.trans (hb3'.mono hsz2); have hsz3 := hb3.size; have hown3 := own_below (own_below hown hb2') hb3'; obtain ⟨i0, i1, i2⟩ := HCELL.out _ hb3))
                    | (at_builtin; go_loud (refine app_steps (.tmp 44) (.tmp 52) (hown3.alloc _) (by simp; omega) (ROps.lit1 _ ⟨_, _, _⟩ _) (by omega) rfl rfl rfl rfl ?_; intro v4 w4 hown4 hg4 hat4; have hb4 := Below.own hb3 hown3 (Nat.le_refl _) (World.grownBy.trans (World.grownBy_alloc w3 _ _) hg4)))
                  )
                  go_roundw
                  case rel => exact ⟨x + 1, m' + 1, by omega, by omega, (fun h => by cases h), by go_num, hb4, by rw [HSC.out]; exact hown4⟩
                  case measure => simp [intOf]; omega
                · rw [if_neg hp] at hsc
                  have HSC := Lib.hid hsc
                  clear hsc
                  go_wp2_with (first
                    | (go_at_call 104; go_loud (refine (sends_any ⟨tx, kd, it⟩ _).mono ?_; rintro e w2 ⟨rfl, hb2'⟩; rw [HBE.out]; have hb2 := hb.trans (hb2'.mono hsz); have hsz2 := hb2.size; obtain ⟨e0, e1, e2⟩ := HCELL.out _ hb2))
                    | (go_at_call 81; go_loud (refine (held_any Ao m' co' M m' tx (x : Int) w2 (HRO.out.below hb2' (Nat.le_refl _)) (Nat.le_refl _)).mono ?_; rintro e w3 ⟨rfl, hb3'⟩; rw [HE.out]; have hb3 := hb2.trans (hb3'.mono hsz2); have hsz3 := hb3.size; have hown3 := own_below (own_below hown hb2') hb3'; obtain ⟨i0, i1, i2⟩ := HCELL.out _ hb3)))
                  go_roundw
                  case rel => exact ⟨x + 1, m', by omega, by omega, (fun h => by cases h), by go_num, hb3, by rw [HSC.out]; exact hown3⟩
                  case measure => simp [intOf]; omega
            · have hx3' : x = 3 := by omega
              subst hx3'
              cases be
              · exact absurd (hbx rfl).1 (by omega)
              · have hst : locksS (s.take (k + 1)) = dropL L tx := by rw [HLS.out]; unfold lkStep; rw [if_pos HBE.out]
                have HST2 := Lib.hid hst
                clear hst hbx
                go_wp2_with (go_at_call 104; go_loud (refine (sends_any ⟨tx, kd, it⟩ _).mono ?_; rintro e w2 ⟨rfl, hb2'⟩; rw [HBE.out]; have hb2 := hb.trans (hb2'.mono hsz); have hsz2 := hb2.size; obtain ⟨e0, e1, e2⟩ := HCELL.out _ hb2))
                go_roundw
                case rel => exact ⟨k + 1, m', by omega, by omega, by go_num, hb2, by rw [HST2.out]; exact own_below hown hb2'⟩
                case measure => simp [intOf]; omega
        · have e : s.take k = s := List.take_of_length_le (by have := HL.out; omega)
          rw [e] at hown
          have hlm := own_lenOps hown
          have HF : Hid (RetSteps w (orNil (validS s && decide (s.length ≤ 12)) (locksS s)) (.returned (.slice Ao m co)) wo) := by
            show RetSteps _ _ _ _
            rw [HO.out]
            exact ⟨_, rfl, by rw [hlm]; exact hown, hb⟩
          clear hown hb e hlm
          go_wp2_with fail
          go_ret
          exact HF.out
end Go.Proofs.Ytcakjhappchlmaa
