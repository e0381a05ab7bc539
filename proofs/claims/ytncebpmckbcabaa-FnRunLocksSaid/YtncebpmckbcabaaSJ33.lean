/-
  Texts that the proof rests on, joined: part 33.
-/
import Derived.IntWalk
import Derived.Test.YtncebpmckbcabaaSJ18
import Derived.Test.YtncebpmckbcabaaSJ31
import Derived.Test.YtncebpmckbcabaaSJ32
namespace Go.Proofs.Ytncebpmckbcabaa
open Go.RowKit Go.BigFrame
set_option linter.unusedVariables false

theorem max_start {xs : List Int} {x : Int} (h : xs[0]? = some x) : (xs.take 1).foldl max (xs.headD 0) = x := by
  cases xs with
  | nil => cases h
  | cons a r => simp at h; subst h; simp
theorem max_snoc {xs : List Int} {k : Nat} {x : Int} (h : xs[k]? = some x) (a : Int) : (xs.take (k + 1)).foldl max a = max ((xs.take k).foldl max a) x := by
  rw [take_snoc h, List.foldl_append, List.foldl_cons, List.foldl_nil]
set_option maxRecDepth 100000 in
set_option maxHeartbeats 1000000 in
theorem Max_any (A : Option Addr) (n c : Nat) (xs : List Int) (w : World) (hx : RInts w A n xs) (hn : 0 < n) :
    Calls Try.prog 162 #[.slice A n c] w fun e w' => e = .returned (.int .i64 (maxL xs)) ∧ Below w.heap.size w w' := by
  have hl := hx.1
  have hn9 := hx.2.1
  obtain ⟨b, off, x, rfl, hbl, hx0, c0⟩ := hx.at_ hn
  have HX := Lib.hid hx
  have HL := Lib.hid hl
  have hms := max_start hx0
  obtain ⟨h0, hh0⟩ : ∃ h0, xs.headD 0 = h0 := ⟨_, rfl⟩
  have hmx : maxL xs = xs.foldl max h0 := by unfold maxL; rw [hh0]
  rw [hh0] at hms
  rw [hmx]
  have HM := Lib.hid hms
  have hn1 : ¬ (n : Int) < 1 := by omega
  have hni : (0 : Int) < (n : Int) := by omega
  have c0' : w.cell? ⟨b, off, none⟩ = some (.int .i64 x) := by simpa using c0
  clear hx hx0 hl hms hh0 hmx
  go_enter Try.func162, Try.ntmps162
  go_wp2_with fail
  go_loopw [3, 4] (fun mv i wr => ∃ k : Nat, 1 ≤ k ∧ k ≤ n ∧ i = .int .i64 k ∧ mv = .int .i64 ((xs.take k).foldl max h0) ∧ Below w.heap.size w wr) (fun _ i _ => n - (intOf i).toNat)
  case atStart => exact ⟨1, Nat.le_refl _, by omega, by go_num, by rw [HM.out], Below.refl _ _⟩
  case round =>
    obtain ⟨k, hk1, hk, rfl, rfl, hb⟩ := hrel
    by_cases hlt : k < n
    · obtain ⟨b', off', y, hA, hbl', hy, c1⟩ := (HX.out.below hb (Nat.le_refl _)).at_ hlt
      injection hA with hA; injection hA with e1 e2 _; subst e1; subst e2
      have HY := Lib.hid (max_snoc hy h0)
      have hki : (k : Int) < (n : Int) := by omega
      have hk0 : (0 : Int) ≤ (k : Int) := by omega
      obtain ⟨M, hM⟩ : ∃ M, (xs.take k).foldl max h0 = M := ⟨_, rfl⟩
      rw [hM] at HY ⊢
      clear hy hM
      go_wp2_with fail
      go_roundw
      case rel => exact ⟨k + 1, by omega, by omega, by go_num, (by rw [HY.out]), hb⟩
      case measure => simp [intOf]; omega
    · obtain rfl : k = n := by omega
      have hte : xs.take k = xs := List.take_of_length_le (by have := HL.out; omega)
      rw [hte]
      obtain ⟨M, hM⟩ : ∃ M, xs.foldl max h0 = M := ⟨_, rfl⟩
      rw [hM]
      have HM2 := Lib.hid hM
      clear hM
      have hfl : ¬ (k : Int) < (k : Int) := by omega
      go_wp2_with fail
      go_ret
      exact ⟨ret_int HM2.out.symm, hb⟩
theorem heads_sorted (W : List OpV) : (headsL W).Pairwise fun a b => a < b := by
  unfold headsL headsTo
  rw [List.pairwise_map]
  refine List.Pairwise.imp (R := fun a b : Nat => a < b) (fun h => by omega) (List.Pairwise.filter _ List.pairwise_lt_range)
/-- What holds of all heads ahead of one holds of all places ahead of it, if it holds of those that are no heads. -/
theorem heads_low {W : List OpV} {P : Nat → Bool} {k X : Nat} (hx : (headsL W)[k]? = some (X : Int)) {j : Nat} (hj : j < X) (hf : ∀ p y, p < k → (headsL W)[p]? = some y → P y.toNat = false) (hn : frstB W j = false → P j = false) : P j = false := by
  cases hfj : frstB W j
  · exact hn hfj
  · obtain ⟨o, ho⟩ : ∃ o, W[j]? = some o := by
      unfold frstB at hfj
      cases e : W[j]? with
      | none => rw [e] at hfj; cases hfj
      | some o => exact ⟨o, rfl⟩
    obtain ⟨p, hp⟩ := List.mem_iff_getElem?.1 (mem_heads.2 ⟨j, o, ho, hfj, rfl⟩)
    have hpk : p < k := by
      rcases Nat.lt_or_ge p k with h | h
      · exact h
      · exfalso
        obtain ⟨l1, e1⟩ := List.getElem?_eq_some_iff.1 hx
        obtain ⟨l2, e2⟩ := List.getElem?_eq_some_iff.1 hp
        by_cases e : p = k
        · subst e; rw [e1] at e2; omega
        · have := (List.pairwise_iff_getElem.1 (heads_sorted W)) k p l1 l2 (by omega)
          rw [e1, e2] at this
          omega
    have := hf p _ hpk hp
    rwa [Int.toNat_natCast] at this
theorem heads_all {W : List OpV} {P : Nat → Bool} {k : Nat} (hk : (headsL W).length = k) (hf : ∀ p y, p < k → (headsL W)[p]? = some y → P y.toNat = false) {j : Nat} (hj : j < W.length) (hn : frstB W j = false → P j = false) : P j = false := by
  cases hfj : frstB W j
  · exact hn hfj
  · obtain ⟨p, hp⟩ := List.mem_iff_getElem?.1 (mem_heads.2 ⟨j, _, List.getElem?_eq_getElem hj, hfj, rfl⟩)
    have := hf p _ (by rw [← hk]; exact (List.getElem?_eq_some_iff.1 hp).1) hp
    rwa [Int.toNat_natCast] at this
/-- Who is aborted if nothing can be done. -/
def VicIs (r : Rul) (D : Dsk) (v : Int) : Prop := (v = -1 ∧ nextD r D = none) ∨ (0 ≤ v ∧ v ≤ 3 ∧ nextD r D = some (killD D v))
set_option maxRecDepth 100000 in
set_option maxHeartbeats 8000000 in
theorem victim_run (r : Rul) (B R tg : Nat) (V : DV) (D : Dsk) (w : World) (h : RunAt w B R tg (mannerV r) V D) (hv : ∀ o ∈ D.wait, validOp o = true) (hc : Compat D.locks) (hN : D.wait.length ≤ 9000) (hf : ∀ j, j < D.wait.length → freeB D j = false) :
    Calls Try.prog 133 #[.pointer (some ⟨R, 0, none⟩)] w fun e w' => ∃ v, e = .returned (.int .i64 v) ∧ Below w.heap.size w w' ∧ VicIs r D v := by
  obtain ⟨Ad, Aw, Al, Ak, nd, n, nl, nk, cd, cw, cl, ck, rfl, hcs, f1, f2, f3, f4⟩ := h.forms
  have hcw := hcs.2.1
  have HH : Hid (∀ W, Below w.heap.size w W → RunAt W B R tg (mannerV r) ⟨.slice Ad nd cd, .slice Aw n cw, .slice Al nl cl, .slice Ak nk ck⟩ D) := fun W hW => h.lat hW
  have HX : Hid (∀ W, Below w.heap.size w W → ROps W Aw n D.wait) := fun W hW => ROps.of_own ((h.lat hW).desk.waitN f2) (by omega)
  have HV := Lib.hid hv
  have HC := Lib.hid hc
  have HF0 := Lib.hid hf
  have HN : Hid (D.wait.length = n) := f2
  have hn9 : n ≤ 9000 := by omega
  clear h hv hc hcs f1 f2 f3 f4 hf
  cases r
  · have mm : w.cell? ⟨R, 5, none⟩ = some (mannerV .wait) := (HH.out w (Below.refl _ _)).cells.2.2.2.2.2
    unfold mannerV at mm
    simp only at mm
    have tawaits : ∀ X : World, (Instr.typeAssert (.iface 147 (.agg #[])) 69 147 true).run Try.prog X = .ok (.tuple #[.agg #[], .bool true]) X := fun _ => by kernel_rfl
    have hwf := waitsFor_run B R tg _ _ D w (HH.out w (Below.refl _ _)) HV.out HC.out (by have := HN.out; omega)
    have hdg : ∀ t : Int, 0 ≤ t → edgeB (waitsR D) t t = false := waits_diag D
    have hcq := cir_eq (waitsR_ok D) hdg
    have hcl := cyc_len (waitsR_ok D) hdg
    have h4 : (rowsI (waitsR D)).length = 4 := by unfold rowsI; rw [List.length_map]; exact (waitsR_ok D).1
    unfold RetInts at hwf
    rw [h4] at hwf
    have HWF := Lib.hid hwf
    have HCQ := Lib.hid hcq
    have hmr : cycT (waitsR D) ≠ [] → 0 ≤ maxL (cycT (waitsR D)) ∧ maxL (cycT (waitsR D)) ≤ 3 := fun hne => (cyc_waits hne (maxL_mem hne)).1
    have HMR := Lib.hid hmr
    clear hwf hdg hcq h4 hmr
    go_enter Try.func133, Try.ntmps133
    go_wp2_with fail
    refine HWF.out.mono ?_
    rintro e w2 ⟨G, gc, rfl, hgc, hfg, hb2⟩
    have hci := circle_any G gc (waitsR D) w2 (waitsR_ok D) hfg.1
    rw [HCQ.out] at hci
    obtain ⟨C, hC⟩ : ∃ C, cycT (waitsR D) = C := ⟨_, rfl⟩
    have HCC := Lib.hid hC
    rw [hC] at hci hcl HMR
    have HCI := Lib.hid hci
    have HB2 := Lib.hid hb2
    clear hci hC hfg hb2 HWF
    go_wp2_with fail
    refine HCI.out.mono ?_
    rintro e w3 ⟨CA, cc, rfl, hcc, ⟨hr3, _⟩, hb3⟩
    cases C with
    | nil =>
      have HNX : Hid (nextD .wait D = none) := next_wait_no (fun j hj => HF0.out j hj) HCC.out
      have HB3 := Lib.hid (HB2.out.trans (hb3.mono HB2.out.size))
      clear hb3
      go_wp2_with fail
      go_ret
      exact ⟨_, rfl, HB3.out, .inl ⟨rfl, HNX.out⟩⟩
    | cons a r =>
      have HNX : Hid (nextD .wait D = some (killD D (maxL (a :: r)))) := by show _ = _; rw [next_wait (fun j hj => HF0.out j hj) (by rw [HCC.out]; simp), HCC.out]
      have HB3 := Lib.hid (HB2.out.trans (hb3.mono HB2.out.size))
      have hmx := Max_any CA (a :: r).length cc (a :: r) w3 hr3 (by simp)
      have hmr := HMR.out (by simp)
      obtain ⟨z, hz⟩ : ∃ z, (a :: r).length = z := ⟨_, rfl⟩
      rw [hz] at hmx ⊢
      obtain ⟨M, hM⟩ : ∃ M, maxL (a :: r) = M := ⟨_, rfl⟩
      rw [hM] at hmx hmr HNX
      have HMX := Lib.hid hmx
      have hie : (!(a :: r).isEmpty) = true := rfl
      clear hmx hb3 hr3 hz hM
      go_wp2_with fail
      refine HMX.out.mono ?_
      rintro e w4 ⟨rfl, hb4⟩
      have HB4 := Lib.hid (HB3.out.trans (hb4.mono HB3.out.size))
      clear hb4
      go_wp2_with fail
      go_ret
      exact ⟨_, rfl, HB4.out, .inr ⟨hmr.1, hmr.2, HNX.out⟩⟩
  · have mm : w.cell? ⟨R, 5, none⟩ = some (mannerV .die) := (HH.out w (Below.refl _ _)).cells.2.2.2.2.2
    unfold mannerV at mm
    simp only at mm
    have tawaits : ∀ X : World, (Instr.typeAssert (.iface 148 (.agg #[])) 69 147 true).run Try.prog X = .ok (.tuple #[.agg #[], .bool false]) X := fun _ => by kernel_rfl
    have tadies : ∀ X : World, (Instr.typeAssert (.iface 148 (.agg #[])) 69 148 true).run Try.prog X = .ok (.tuple #[.agg #[], .bool true]) X := fun _ => by kernel_rfl
    go_enter Try.func133, Try.ntmps133
    have hhd := heads_run B R tg _ _ D w (HH.out w (Below.refl _ _)) HV.out (by have := HN.out; omega)
    have HHD := Lib.hid hhd
    clear hhd
    go_wp2_with fail
    refine HHD.out.mono ?_
    rintro e w2 ⟨HA, hac, rfl, hhc, hfr, hb2⟩
    obtain ⟨q, hq⟩ : ∃ q, (headsL D.wait).length = q := ⟨_, rfl⟩
    have HQ := Lib.hid hq
    rw [hq] at hhc hfr ⊢
    have hq9 := hfr.1.2.1
    have HST : Hid (Below w.heap.size w w2 ∧ RInts w2 HA q (headsL D.wait)) := ⟨hb2, hfr.1⟩
    clear HHD hb2 hfr hq
    go_wp2_with fail
    go_loopw [35] (fun i wr => ∃ k : Nat, k ≤ q ∧ i = .int .i64 k ∧ Below w.heap.size w wr ∧ RInts wr HA q (headsL D.wait) ∧ ∀ j x, j < k → (headsL D.wait)[j]? = some x → dieB D x.toNat = false) (fun i _ => q - (intOf i).toNat)
    case atStart => exact ⟨0, Nat.zero_le _, rfl, HST.out.1, HST.out.2, fun j x hj => by omega⟩
    case round =>
      clear HST
      obtain ⟨wo, rfl⟩ : ∃ z : World, z = wr := ⟨_, rfl⟩
      obtain ⟨k, hk, rfl, hbo, hH, hno⟩ := hrel
      have hbs := hbo.size
      by_cases hlt0 : k < q
      · obtain ⟨bh, offh, x0, hHA, hbl, hx, ch⟩ := hH.at_ hlt0
        subst hHA
        obtain ⟨X, o, ho, hfx, rfl⟩ := mem_heads.1 (List.mem_of_getElem? hx)
        have hXn : X < n := by have := (List.getElem?_eq_some_iff.1 ho).1; have := HN.out; omega
        obtain ⟨b, off, o', hA', hbl', ho', c0, c1, c2⟩ := (HX.out wo hbo).at_ hXn
        rw [ho] at ho'
        injection ho' with ho'
        subst ho'
        subst hA'
        have hvo := HV.out o (List.mem_of_getElem? ho)
        obtain ⟨htx, _, _⟩ := validOp_parts hvo
        have hA := HH.out wo hbo
        have r1 : wo.cell? ⟨R, 1, none⟩ = some (.slice (some ⟨b, off, none⟩) n cw) := hA.cells.2.1
        obtain ⟨W, hW⟩ : ∃ W : World, W = wo.alloc (.cells #[.int .i64 o.tx, .int .i64 o.kind, .int .i64 o.item] 62) := ⟨_, rfl⟩
        have hbW : Below wo.heap.size wo W := by rw [hW]; exact (Below.refl _ _).alloc (Nat.le_refl _) _
        have hbx : RowIs W wo.heap.size 62 [.int .i64 o.tx, .int .i64 o.kind, .int .i64 o.item] := by rw [hW]; exact heap_alloc_new wo _
        have hiw := inWay_run B R tg _ _ D o W (HH.out W (hbo.trans (hbW.mono hbs))) hvo HC.out
        have hne : wayO D.locks o ≠ [] := (blocked ho hfx (HF0.out X (by have := HN.out; omega))).2.2
        have hde : dieB D X = (frstB D.wait X && _) := die_eq ho
        rw [hfx, Bool.true_and] at hde
        have hnx : dieB D X = true → nextD .die D = some (killD D o.tx) := fun hd => next_die (fun j hj => HF0.out j hj) ho hd (fun j hj => heads_low hx hj (hf := fun p y hp hy => hno p y hp hy) (fun hfj => by unfold dieB; cases D.wait[j]? with | none => rfl | some p => simp only; rw [hfj]; rfl))
        have HW := Lib.hid hW
        have HBX := Lib.hid hbx
        have HIW := Lib.hid hiw
        have HNO := Lib.hid hno
        have HBO := Lib.hid (hbo.trans (hbW.mono hbs))
        have HHL := Lib.hid (hH.below hbW (Nat.le_refl _))
        have HWR := Lib.hid (way_rng (L := D.locks) (o := o))
        have HDE := Lib.hid hde
        have HNXT := Lib.hid hnx
        have HXK := Lib.hid hx
        obtain ⟨L, hL⟩ : ∃ z, wayO D.locks o = z := ⟨_, rfl⟩
        rw [hL] at HIW HWR HDE hne
        obtain ⟨tx, kd, it⟩ := o
        unfold OpV.val at HIW
        simp only at c0 c1 c2 htx HW HBX HIW HDE HNXT
        obtain ⟨T, rfl⟩ := Int.eq_ofNat_of_zero_le htx.1
        obtain ⟨tx, htx0⟩ : ∃ z : Int, (T : Int) = z := ⟨_, rfl⟩
        have HTX := Lib.hid htx0
        rw [htx0] at c0 HW HBX HIW HDE HNXT htx
        have hki : (k : Int) < (q : Int) := by omega
        have hk0 : (0 : Int) ≤ (k : Int) := by omega
        have hXi : (X : Int) < (n : Int) := by omega
        have hX0 : (0 : Int) ≤ (X : Int) := by omega
        clear hbo hH hA hx ho hfx hvo hW hbx hbW hiw hno hde hnx hL htx0
        go_wp2_with fail
        rw [← HW.out]
        refine HIW.out.mono ?_
        rintro e w4 ⟨WA, wc, rfl, hwc, hwf, hb4⟩
        obtain ⟨z, hz⟩ : ∃ z, L.length = z := ⟨_, rfl⟩
        have HZ := Lib.hid hz
        have hz1 : 0 < z := by rw [← hz]; exact List.length_pos_iff.2 hne
        rw [hz] at hwc hwf ⊢
        have hzi : (0 : Int) < (z : Int) := by omega
        have hz9 := hwf.1.2.1
        obtain ⟨bw, offw, x, hWA, hbw, hx0, cx⟩ := hwf.1.at_ (show 0 < z by omega)
        have hval : L.headD 0 = x := by
          cases hq : L with
          | nil => rw [hq] at hx0; cases hx0
          | cons a r => rw [hq] at hx0; simp at hx0; simp [hx0]
        have hbq : dieB D X = decide (x < tx) := by rw [HDE.out]; simp only [hval]
        subst hWA
        have l0 : ∀ u : Later w4, u.1.cell? ⟨bw, offw, none⟩ = some (.int .i64 x) := fun u => by have := Later.cell cx u; simpa using this
        have n0 : ∀ u : Later w4, u.1.cell? ⟨wo.heap.size, 0, none⟩ = some (.int .i64 tx) := fun u => RowIs.cell (RowIs.below HBX.out (hb4.trans (u.2.mono hb4.size)) (Nat.le_refl _)) rfl
        have HB4 := Lib.hid (HBO.out.trans (hb4.mono HBO.out.size))
        have HH4 := Lib.hid (HHL.out.below hb4 (Nat.le_refl _))
        clear HIW hb4 hwf hz c0 c1 c2 r1 ch hx0 cx hne
        by_cases hlt : x < tx
        · have hld : decide (x < tx) = true := by simpa using hlt
          have HNX : Hid (nextD .die D = some (killD D tx)) := HNXT.out (by rw [hbq]; simpa using hlt)
          go_wp2_with fail
          refine region_later (by kernel_rfl) (by kernel_rfl) ?_
          repeat (go_big_quiet_step (fail))
          refine wpQuiet_nil ?_
          rintro _ ⟨u, rfl⟩
          have p0 := n0 u
          have pl := l0 u
          have HBF := Lib.hid (HB4.out.trans (u.2.mono HB4.out.size))
          clear n0 l0
          go_wp2_with fail
          go_ret
          exact ⟨_, rfl, HBF.out, .inr ⟨htx.1, htx.2, HNX.out⟩⟩
        · have hld : decide (x < tx) = false := by simpa using hlt
          have HNN : Hid (dieB D X = false) := by show _ = _; rw [hbq]; exact hld
          go_wp2_with fail
          refine region_later (by kernel_rfl) (by kernel_rfl) ?_
          repeat (go_big_quiet_step (fail))
          refine wpQuiet_nil ?_
          rintro _ ⟨u, rfl⟩
          have HBF := Lib.hid (HB4.out.trans (u.2.mono HB4.out.size))
          have HHF := Lib.hid (HH4.out.below u.2 (Nat.le_refl _))
          clear n0 l0
          go_wp2_with fail
          go_roundw
          case rel => exact ⟨k + 1, by omega, by go_num, HBF.out, HHF.out, fun j y hj hy => by
            by_cases e : j = k
            · subst e
              rw [HXK.out] at hy
              injection hy with hy
              subst hy
              rw [Int.toNat_natCast]
              exact HNN.out
            · exact HNO.out j y (by omega) hy⟩
          case measure => simp [intOf]; omega
      · obtain rfl : k = q := by omega
        have HNX : Hid (nextD .die D = none) := next_die_no (fun j hj => HF0.out j hj) (fun j hj => heads_all HQ.out (hf := fun p y hp hy => hno p y hp hy) hj (fun hfj => by unfold dieB; cases D.wait[j]? with | none => rfl | some p => simp only; rw [hfj]; rfl))
        have HBO := Lib.hid hbo
        clear hbo hH hno
        go_wp2_with fail
        go_ret
        exact ⟨_, rfl, HBO.out, .inl ⟨rfl, HNX.out⟩⟩
  · have mm : w.cell? ⟨R, 5, none⟩ = some (mannerV .wound) := (HH.out w (Below.refl _ _)).cells.2.2.2.2.2
    unfold mannerV at mm
    simp only at mm
    have tawaits : ∀ X : World, (Instr.typeAssert (.iface 149 (.agg #[])) 69 147 true).run Try.prog X = .ok (.tuple #[.agg #[], .bool false]) X := fun _ => by kernel_rfl
    have tadies : ∀ X : World, (Instr.typeAssert (.iface 149 (.agg #[])) 69 148 true).run Try.prog X = .ok (.tuple #[.agg #[], .bool false]) X := fun _ => by kernel_rfl
    have tawounds : ∀ X : World, (Instr.typeAssert (.iface 149 (.agg #[])) 69 149 true).run Try.prog X = .ok (.tuple #[.agg #[], .bool true]) X := fun _ => by kernel_rfl
    go_enter Try.func133, Try.ntmps133
    have hhd := heads_run B R tg _ _ D w (HH.out w (Below.refl _ _)) HV.out (by have := HN.out; omega)
    have HHD := Lib.hid hhd
    clear hhd
    go_wp2_with fail
    refine HHD.out.mono ?_
    rintro e w2 ⟨HA, hac, rfl, hhc, hfr, hb2⟩
    obtain ⟨q, hq⟩ : ∃ q, (headsL D.wait).length = q := ⟨_, rfl⟩
    have HQ := Lib.hid hq
    rw [hq] at hhc hfr ⊢
    have hq9 := hfr.1.2.1
    have HST : Hid (Below w.heap.size w w2 ∧ RInts w2 HA q (headsL D.wait)) := ⟨hb2, hfr.1⟩
    clear HHD hb2 hfr hq
    go_wp2_with fail
    go_loopw [70] (fun i wr => ∃ k : Nat, k ≤ q ∧ i = .int .i64 k ∧ Below w.heap.size w wr ∧ RInts wr HA q (headsL D.wait) ∧ ∀ j x, j < k → (headsL D.wait)[j]? = some x → woundB D x.toNat = false) (fun i _ => q - (intOf i).toNat)
    case atStart => exact ⟨0, Nat.zero_le _, rfl, HST.out.1, HST.out.2, fun j x hj => by omega⟩
    case round =>
      clear HST
      obtain ⟨wo, rfl⟩ : ∃ z : World, z = wr := ⟨_, rfl⟩
      obtain ⟨k, hk, rfl, hbo, hH, hno⟩ := hrel
      have hbs := hbo.size
      by_cases hlt0 : k < q
      · obtain ⟨bh, offh, x0, hHA, hbl, hx, ch⟩ := hH.at_ hlt0
        subst hHA
        obtain ⟨X, o, ho, hfx, rfl⟩ := mem_heads.1 (List.mem_of_getElem? hx)
        have hXn : X < n := by have := (List.getElem?_eq_some_iff.1 ho).1; have := HN.out; omega
        obtain ⟨b, off, o', hA', hbl', ho', c0, c1, c2⟩ := (HX.out wo hbo).at_ hXn
        rw [ho] at ho'
        injection ho' with ho'
        subst ho'
        subst hA'
        have hvo := HV.out o (List.mem_of_getElem? ho)
        obtain ⟨htx, _, _⟩ := validOp_parts hvo
        have hA := HH.out wo hbo
        have r1 : wo.cell? ⟨R, 1, none⟩ = some (.slice (some ⟨b, off, none⟩) n cw) := hA.cells.2.1
        obtain ⟨W, hW⟩ : ∃ W : World, W = wo.alloc (.cells #[.int .i64 o.tx, .int .i64 o.kind, .int .i64 o.item] 62) := ⟨_, rfl⟩
        have hbW : Below wo.heap.size wo W := by rw [hW]; exact (Below.refl _ _).alloc (Nat.le_refl _) _
        have hbx : RowIs W wo.heap.size 62 [.int .i64 o.tx, .int .i64 o.kind, .int .i64 o.item] := by rw [hW]; exact heap_alloc_new wo _
        have hiw := inWay_run B R tg _ _ D o W (HH.out W (hbo.trans (hbW.mono hbs))) hvo HC.out
        have hne : wayO D.locks o ≠ [] := (blocked ho hfx (HF0.out X (by have := HN.out; omega))).2.2
        have hde : woundB D X = (frstB D.wait X && _) := wound_eq ho
        rw [hfx, Bool.true_and] at hde
        have hnx : woundB D X = true → nextD .wound D = some (killD D ((wayO D.locks o).getLastD 0)) := fun hd => next_wound (fun j hj => HF0.out j hj) ho hd (fun j hj => heads_low hx hj (hf := fun p y hp hy => hno p y hp hy) (fun hfj => by unfold woundB; cases D.wait[j]? with | none => rfl | some p => simp only; rw [hfj]; rfl))
        have HW := Lib.hid hW
        have HBX := Lib.hid hbx
        have HIW := Lib.hid hiw
        have HNO := Lib.hid hno
        have HBO := Lib.hid (hbo.trans (hbW.mono hbs))
        have HHL := Lib.hid (hH.below hbW (Nat.le_refl _))
        have HWR := Lib.hid (way_rng (L := D.locks) (o := o))
        have HDE := Lib.hid hde
        have HNXT := Lib.hid hnx
        have HXK := Lib.hid hx
        obtain ⟨L, hL⟩ : ∃ z, wayO D.locks o = z := ⟨_, rfl⟩
        rw [hL] at HIW HWR HDE hne HNXT
        obtain ⟨tx, kd, it⟩ := o
        unfold OpV.val at HIW
        simp only at c0 c1 c2 htx HW HBX HIW HDE HNXT
        obtain ⟨T, rfl⟩ := Int.eq_ofNat_of_zero_le htx.1
        obtain ⟨tx, htx0⟩ : ∃ z : Int, (T : Int) = z := ⟨_, rfl⟩
        have HTX := Lib.hid htx0
        rw [htx0] at c0 HW HBX HIW HDE htx
        have hki : (k : Int) < (q : Int) := by omega
        have hk0 : (0 : Int) ≤ (k : Int) := by omega
        have hXi : (X : Int) < (n : Int) := by omega
        have hX0 : (0 : Int) ≤ (X : Int) := by omega
        clear hbo hH hA hx ho hfx hvo hW hbx hbW hiw hno hde hnx hL htx0
        go_wp2_with fail
        rw [← HW.out]
        refine HIW.out.mono ?_
        rintro e w4 ⟨WA, wc, rfl, hwc, hwf, hb4⟩
        obtain ⟨z, hz⟩ : ∃ z, L.length = z := ⟨_, rfl⟩
        have HZ := Lib.hid hz
        have hz1 : 0 < z := by rw [← hz]; exact List.length_pos_iff.2 hne
        rw [hz] at hwc hwf ⊢
        have hzi : (0 : Int) < (z : Int) := by omega
        have hz9 := hwf.1.2.1
        obtain ⟨bw, offw, x, hWA, hbw, hx0, cx⟩ := hwf.1.at_ (show z - 1 < z by omega)
        have hval : L.getLastD 0 = x := by
          have hne : L ≠ [] := by intro e; rw [e] at hx0; simp at hx0
          rw [List.getLastD_eq_getLast?, List.getLast?_eq_getElem?, HZ.out, hx0]; rfl
        have hxr := HWR.out x (List.mem_of_getElem? hx0)
        have hbq : woundB D X = decide (tx < x) := by rw [HDE.out]; simp only [hval]
        subst hWA
        have l0 : ∀ u : Later w4, u.1.cell? ⟨bw, offw + (z - 1), none⟩ = some (.int .i64 x) := fun u => Later.cell cx u
        have hzc : ((z : Int) - 1) = ((z - 1 : Nat) : Int) := by omega
        have hzw : IntKind.i64.wrap ((z : Int) - 1) = ((z - 1 : Nat) : Int) := by rw [hzc]; exact IntWalk.i64_in _ (by omega)
        have hzl : ((z - 1 : Nat) : Int) < (z : Int) := by omega
        have hz0 : (0 : Int) ≤ ((z - 1 : Nat) : Int) := by omega
        have n0 : ∀ u : Later w4, u.1.cell? ⟨wo.heap.size, 0, none⟩ = some (.int .i64 tx) := fun u => RowIs.cell (RowIs.below HBX.out (hb4.trans (u.2.mono hb4.size)) (Nat.le_refl _)) rfl
        have HB4 := Lib.hid (HBO.out.trans (hb4.mono HBO.out.size))
        have HH4 := Lib.hid (HHL.out.below hb4 (Nat.le_refl _))
        clear HIW hb4 hwf hz c0 c1 c2 r1 ch hx0 cx hne
        by_cases hlt : tx < x
        · have hld : decide (tx < x) = true := by simpa using hlt
          have HNX : Hid (nextD .wound D = some (killD D x)) := by show _ = _; rw [← hval]; exact HNXT.out (by rw [hbq]; simpa using hlt)
          go_wp2_with fail
          refine region_later (by kernel_rfl) (by kernel_rfl) ?_
          repeat (go_big_quiet_step (fail))
          refine wpQuiet_nil ?_
          rintro _ ⟨u, rfl⟩
          have p0 := n0 u
          have pl := l0 u
          have HBF := Lib.hid (HB4.out.trans (u.2.mono HB4.out.size))
          clear n0 l0
          go_wp2_with fail
          go_ret
          exact ⟨_, rfl, HBF.out, .inr ⟨hxr.1, hxr.2, HNX.out⟩⟩
        · have hld : decide (tx < x) = false := by simpa using hlt
          have HNN : Hid (woundB D X = false) := by show _ = _; rw [hbq]; exact hld
          go_wp2_with fail
          refine region_later (by kernel_rfl) (by kernel_rfl) ?_
          repeat (go_big_quiet_step (fail))
          refine wpQuiet_nil ?_
          rintro _ ⟨u, rfl⟩
          have HBF := Lib.hid (HB4.out.trans (u.2.mono HB4.out.size))
          have HHF := Lib.hid (HH4.out.below u.2 (Nat.le_refl _))
          clear n0 l0
          go_wp2_with fail
          go_roundw
          case rel => exact ⟨k + 1, by omega, by go_num, HBF.out, HHF.out, fun j y hj hy => by
            by_cases e : j = k
            · subst e
              rw [HXK.out] at hy
              injection hy with hy
              subst hy
              rw [Int.toNat_natCast]
              exact HNN.out
            · exact HNO.out j y (by omega) hy⟩
          case measure => simp [intOf]; omega
      · obtain rfl : k = q := by omega
        have HNX : Hid (nextD .wound D = none) := next_wound_no (fun j hj => HF0.out j hj) (fun j hj => heads_all HQ.out (hf := fun p y hp hy => hno p y hp hy) hj (fun hfj => by unfold woundB; cases D.wait[j]? with | none => rfl | some p => simp only; rw [hfj]; rfl))
        have HBO := Lib.hid hbo
        clear hbo hH hno
        go_wp2_with fail
        go_ret
        exact ⟨_, rfl, HBO.out, .inl ⟨rfl, HNX.out⟩⟩
end Go.Proofs.Ytncebpmckbcabaa
