/-
  Texts that the proof rests on, joined: part 32.
-/
import Derived.Test.YtncebpmckbcabaaSJ15
import Derived.Test.YtncebpmckbcabaaSJ19
import Derived.Test.YtncebpmckbcabaaSJ30
namespace Go.Proofs.Ytncebpmckbcabaa
open Go.RowKit Go.BigFrame
set_option linter.unusedVariables false

theorem mem_heads {W : List OpV} {x : Int} : x ∈ headsL W ↔ ∃ i o, W[i]? = some o ∧ frstB W i = true ∧ x = (i : Int) := by
  unfold headsL headsTo
  rw [List.mem_map]
  constructor
  · rintro ⟨i, hi, rfl⟩
    obtain ⟨h1, h2⟩ := List.mem_filter.1 hi
    have := List.mem_range.1 h1
    exact ⟨i, _, List.getElem?_eq_getElem this, h2, rfl⟩
  · rintro ⟨i, o, h1, h2, rfl⟩
    exact ⟨i, List.mem_filter.2 ⟨List.mem_range.2 (List.getElem?_eq_some_iff.1 h1).1, h2⟩, rfl⟩
/-- The first of a transaction that waits. -/
theorem frst_head {W : List OpV} {t : Int} {o : OpV} : (opsOf W t).head? = some o ↔ ∃ i, W[i]? = some o ∧ frstB W i = true ∧ o.tx = t := by
  unfold opsOf
  rw [List.head?_filter, List.find?_eq_some_iff_getElem]
  constructor
  · rintro ⟨h1, i, hi, h2, h3⟩
    have e : W[i]? = some o := by rw [List.getElem?_eq_getElem hi, h2]
    have h1' : o.tx = t := by simpa using h1
    refine ⟨i, e, ?_, h1'⟩
    unfold frstB
    rw [e]
    simp only
    rw [List.all_eq_true]
    intro p hp
    obtain ⟨j, hj⟩ := List.mem_iff_getElem?.1 hp
    rw [List.getElem?_take] at hj
    split at hj
    · rename_i hji
      have := h3 j hji
      rw [(List.getElem?_eq_some_iff.1 hj).2] at this
      rw [h1']
      simpa using this
    · cases hj
  · rintro ⟨i, e, hf, h1⟩
    obtain ⟨hi, h2⟩ := List.getElem?_eq_some_iff.1 e
    refine ⟨by simpa using h1, i, hi, h2, fun j hj => ?_⟩
    unfold frstB at hf
    rw [e] at hf
    simp only at hf
    rw [List.all_eq_true] at hf
    have ej : (W.take i)[j]? = some (W[j]'(by omega)) := by rw [List.getElem?_take, if_pos hj, List.getElem?_eq_getElem (by omega)]
    have := hf _ (List.mem_of_getElem? ej)
    rw [h1] at this
    simpa using this
def hOp (D : Dsk) (x : Int) : OpV := D.wait.getD x.toNat OpV.zero
theorem hOp_at {D : Dsk} {i : Nat} {o : OpV} (h : D.wait[i]? = some o) : hOp D (i : Int) = o := by unfold hOp; rw [Int.toNat_natCast]; exact getD_at h
def hTo (D : Dsk) (k : Nat) : List Nat := ((headsL D.wait).take k).foldl (fun R x => wIn (hOp D x).tx.toNat R (wayO D.locks (hOp D x))) [0, 0, 0, 0]
theorem hTo_succ {D : Dsk} {k : Nat} {x : Int} (h : (headsL D.wait)[k]? = some x) : hTo D (k + 1) = wIn (hOp D x).tx.toNat (hTo D k) (wayO D.locks (hOp D x)) := by
  unfold hTo
  rw [List.take_add_one, h, Option.toList_some, List.foldl_append, List.foldl_cons, List.foldl_nil]
theorem way_rng {L : List OpV} {o : OpV} : ∀ u ∈ wayO L o, 0 ≤ u ∧ u ≤ 3 := fun u hu => (mem_way.1 hu).2.1
theorem hTo_ok (D : Dsk) (k : Nat) : Rows4 (hTo D k) := by
  induction k with
  | zero => exact zero4
  | succ k ih =>
    cases h : (headsL D.wait)[k]? with
    | none =>
      have : (headsL D.wait).length ≤ k := by simpa using h
      unfold hTo at *
      rw [List.take_of_length_le (by omega)]
      rw [List.take_of_length_le this] at ih
      exact ih
    | some x => rw [hTo_succ h]; exact wIn_ok way_rng ih
theorem hTo_bit {D : Dsk} (hv : ∀ o ∈ D.wait, validOp o = true) (k : Nat) (t u : Nat) : ((hTo D k).getD t 0).testBit u = true ↔ ∃ j x, j < k ∧ (headsL D.wait)[j]? = some x ∧ (hOp D x).tx = (t : Int) ∧ (u : Int) ∈ wayO D.locks (hOp D x) := by
  induction k with
  | zero =>
    have : ((hTo D 0).getD t 0) = 0 := by
      show ([0, 0, 0, 0] : List Nat).getD t 0 = 0
      match t with
      | 0 | 1 | 2 | 3 => rfl
      | t + 4 => rfl
    rw [this]
    simp
  | succ k ih =>
    cases h : (headsL D.wait)[k]? with
    | none =>
      have hl : (headsL D.wait).length ≤ k := by simpa using h
      have e : hTo D (k + 1) = hTo D k := by unfold hTo; rw [List.take_of_length_le (by omega), List.take_of_length_le hl]
      rw [e, ih]
      constructor
      · rintro ⟨j, x, h1, h2⟩; exact ⟨j, x, by omega, h2⟩
      · rintro ⟨j, x, h1, h2, h3⟩
        have := (List.getElem?_eq_some_iff.1 h2).1
        exact ⟨j, x, by omega, h2, h3⟩
    | some x =>
      obtain ⟨i, o, h1, h2, rfl⟩ := mem_heads.1 (List.mem_of_getElem? h)
      obtain ⟨htx, _⟩ := validOp_parts (hv o (List.mem_of_getElem? h1))
      have ho := hOp_at h1
      rw [hTo_succ h, wIn_bit (by rw [ho]; omega) way_rng (hTo_ok D k), ih, ho]
      constructor
      · rintro (⟨j, y, a, b⟩ | ⟨a, b⟩)
        · exact ⟨j, y, by omega, b⟩
        · exact ⟨k, _, by omega, h, by rw [ho]; omega, by rw [ho]; exact b⟩
      · rintro ⟨j, y, a, b, c, d⟩
        by_cases e : j = k
        · subst e
          rw [h] at b
          injection b with b
          subst b
          rw [ho] at c d
          exact .inr ⟨by omega, d⟩
        · exact .inl ⟨j, y, by omega, b, c, d⟩
theorem hTo_end {D : Dsk} (hv : ∀ o ∈ D.wait, validOp o = true) : hTo D (headsL D.wait).length = waitsR D := rows_ext (hTo_ok D _) (waitsR_ok D) fun t u ht hu => by
  rw [Bool.eq_iff_iff, hTo_bit hv, waitsR_at D ht, waitRow_bit]
  constructor
  · rintro ⟨j, x, _, h2, h3, h4⟩
    obtain ⟨i, o, e1, e2, rfl⟩ := mem_heads.1 (List.mem_of_getElem? h2)
    rw [hOp_at e1] at h3 h4
    have hm := mem_way.1 h4
    refine ⟨o, frst_head.2 ⟨i, e1, e2, h3⟩, hm.1, ?_⟩
    rw [← h3, ← way_acc hm.1]
    exact h4
  · rintro ⟨o, h1, h2, h3⟩
    obtain ⟨i, e1, e2, e3⟩ := frst_head.1 h1
    obtain ⟨j, hj⟩ := List.mem_iff_getElem?.1 (mem_heads.2 ⟨i, o, e1, e2, rfl⟩)
    refine ⟨j, _, (List.getElem?_eq_some_iff.1 hj).1, hj, by rw [hOp_at e1]; exact e3, ?_⟩
    rw [hOp_at e1, way_acc h2, e3]
    exact h3
set_option maxRecDepth 100000 in
set_option maxHeartbeats 4000000 in
theorem waitsFor_run (B R tg : Nat) (m : Value) (V : DV) (D : Dsk) (w : World) (h : RunAt w B R tg m V D) (hv : ∀ o ∈ D.wait, validOp o = true) (hc : Compat D.locks) (hN : D.wait.length ≤ 9000) :
    Calls Try.prog 62 #[.pointer (some ⟨R, 0, none⟩)] w (RetInts w (rowsI (waitsR D))) := by
  obtain ⟨Ad, Aw, Al, Ak, nd, n, nl, nk, cd, cw, cl, ck, rfl, hcs, f1, f2, f3, f4⟩ := h.forms
  obtain ⟨i0, hi, hz0, hz1, hz2⟩ := info_parts intInfo
  have hcw := hcs.2.1
  have HH : Hid (∀ W, Below w.heap.size w W → RunAt W B R tg m ⟨.slice Ad nd cd, .slice Aw n cw, .slice Al nl cl, .slice Ak nk ck⟩ D) := fun W hW => h.lat hW
  have HX : Hid (∀ W, Below w.heap.size w W → ROps W Aw n D.wait) := fun W hW => ROps.of_own ((h.lat hW).desk.waitN f2) (by omega)
  have HV := Lib.hid hv
  have HC := Lib.hid hc
  have HE : Hid (hTo D (headsL D.wait).length = waitsR D) := hTo_end hv
  have HN : Hid (D.wait.length = n) := f2
  have hn9 : n ≤ 9000 := by omega
  clear h hv hc hcs f1 f2 f3 f4
  go_enter Try.func62, Try.ntmps62
  go_wp2_with (at_make; refine wpList_make_full _ rfl _ _ 26 rfl w.heap.size 3 i0 _ 1 Try.underlying26 hi hz0 hz1 .i64 .i64 _ _ 4 rfl rfl rfl rfl (by rw [hz2]; omega) (by unfold maxLen; omega) (Nat.le_refl _) ?_; intro w1 hown1 hg1)
  have hb1 : Below w.heap.size w w1 := ⟨hg1.os, hg1.tape, hg1.output, hg1.size, fun k hk => hg1.block k hk (by simp)⟩
  have hrow : RowIs w1 w.heap.size 3 (intCells (rowsI [0, 0, 0, 0]) ++ []) := by
    rcases hown1.2 with ⟨h1, _⟩ | ⟨g, cap, cur, h1, h2, h3, h4, h5, h6, h7⟩
    · cases h1
    · injection h1 with ha hb hc
      injection ha with ha
      injection ha with ha
      subst ha; subst hc
      unfold RowIs
      rw [h3]
      congr 2
      apply Array.ext'
      rw [List.take_of_length_le (by simpa using Nat.le_of_eq h6)] at h7
      rw [h7, made_ints]
      rfl
  have hsg : SgInv w w.heap.size (hTo D 0) w1 := ⟨hb1, hrow⟩
  have hgw := RowIs.lt hrow
  have hhd := heads_run B R tg m _ D w1 (HH.out w1 hb1) HV.out (by have := HN.out; omega)
  have HSG := Lib.hid hsg
  have HHD := Lib.hid hhd
  clear hown1 hb1 hg1 hrow hi hz0 hz1 hz2 hsg hhd
  go_wp2_with fail
  refine HHD.out.mono ?_
  rintro e w2 ⟨HA, hac, rfl, hhc, hfr, hb2⟩
  obtain ⟨q, hq⟩ : ∃ q, (headsL D.wait).length = q := ⟨_, rfl⟩
  have HQ := Lib.hid hq
  rw [hq] at hhc hfr HE ⊢
  have hq9 := hfr.1.2.1
  have hnh : ∀ ad, HA = some ad → ad.block ≠ w.heap.size := fun ad had => by
    obtain ⟨b, _, rfl, hb, _⟩ := hfr.2 ad had
    show b ≠ _
    omega
  have HNH := Lib.hid hnh
  have HST : Hid (SgInv w w.heap.size (hTo D 0) w2 ∧ RInts w2 HA q (headsL D.wait)) := ⟨HSG.out.later hb2, hfr.1⟩
  clear HSG HHD hb2 hfr hq hnh
  go_wp2_with fail
  go_loopw [13] (fun i wr => ∃ k : Nat, k ≤ q ∧ i = .int .i64 k ∧ SgInv w w.heap.size (hTo D k) wr ∧ RInts wr HA q (headsL D.wait)) (fun i _ => q - (intOf i).toNat)
  case atStart => exact ⟨0, Nat.zero_le _, rfl, HST.out.1, HST.out.2⟩
  case round =>
    clear HST
    obtain ⟨wo, rfl⟩ : ∃ z : World, z = wr := ⟨_, rfl⟩
    obtain ⟨k, hk, rfl, hI, hH⟩ := hrel
    have hbs := hI.below.size
    have hwo := RowIs.lt hI.row
    by_cases hlt : k < q
    · obtain ⟨bh, offh, x, hHA, hbl, hx, ch⟩ := hH.at_ hlt
      subst hHA
      obtain ⟨X, o, ho, hfx, rfl⟩ := mem_heads.1 (List.mem_of_getElem? hx)
      have hXn : X < n := by have := (List.getElem?_eq_some_iff.1 ho).1; have := HN.out; omega
      obtain ⟨b, off, o', hA', hbl', ho', c0, c1, c2⟩ := (HX.out wo hI.below).at_ hXn
      rw [ho] at ho'
      injection ho' with ho'
      subst ho'
      subst hA'
      have hvo := HV.out o (List.mem_of_getElem? ho)
      obtain ⟨htx, _, _⟩ := validOp_parts hvo
      have hts := hTo_succ hx
      rw [hOp_at ho] at hts
      have hA := HH.out wo hI.below
      have r1 : wo.cell? ⟨R, 1, none⟩ = some (.slice (some ⟨b, off, none⟩) n cw) := hA.cells.2.1
      obtain ⟨W, hW⟩ : ∃ W : World, W = wo.alloc (.cells #[.int .i64 o.tx, .int .i64 o.kind, .int .i64 o.item] 62) := ⟨_, rfl⟩
      have hbW : Below wo.heap.size wo W := by rw [hW]; exact (Below.refl _ _).alloc (Nat.le_refl _) _
      have hbx : RowIs W wo.heap.size 62 [.int .i64 o.tx, .int .i64 o.kind, .int .i64 o.item] := by rw [hW]; exact heap_alloc_new wo _
      have hsW : W.heap.size = wo.heap.size + 1 := by rw [hW]; simp
      have hiw := inWay_run B R tg m _ D o W (HH.out W (hI.below.trans (hbW.mono hbs))) hvo HC.out
      have hok := hTo_ok D k
      have HW := Lib.hid hW
      have HBX := Lib.hid hbx
      have HIW := Lib.hid hiw
      have HTS := Lib.hid hts
      have HIL := Lib.hid (hI.later hbW)
      have HHL := Lib.hid (hH.below hbW (Nat.le_refl _))
      have HOK := Lib.hid hok
      have HWR := Lib.hid (way_rng (L := D.locks) (o := o))
      obtain ⟨way, hway⟩ : ∃ z, wayO D.locks o = z := ⟨_, rfl⟩
      rw [hway] at HIW HTS HWR
      obtain ⟨tx, kd, it⟩ := o
      unfold OpV.val at HIW
      simp only at c0 c1 c2 htx HW HBX HIW HTS
      obtain ⟨T, rfl⟩ := Int.eq_ofNat_of_zero_le htx.1
      rw [Int.toNat_natCast] at HTS
      have hT3 : T ≤ 3 := by omega
      have hki : (k : Int) < (q : Int) := by omega
      have hk0 : (0 : Int) ≤ (k : Int) := by omega
      have hXi : (X : Int) < (n : Int) := by omega
      have hX0 : (0 : Int) ≤ (X : Int) := by omega
      clear hI hH hA hx ho hfx hvo hts hW hbx hbW hiw hok hway
      go_wp2_with fail
      rw [← HW.out]
      refine HIW.out.mono ?_
      rintro e w4 ⟨WA, wc, rfl, hwc, hwf, hb4⟩
      obtain ⟨z, hz⟩ : ∃ z, way.length = z := ⟨_, rfl⟩
      have HZ := Lib.hid hz
      rw [hz] at hwc hwf ⊢
      have hnw : ∀ ad, WA = some ad → ad.block ≠ w.heap.size := fun ad had => by
        obtain ⟨b', _, rfl, hb', _⟩ := hwf.2 ad had
        show b' ≠ _
        omega
      have HNW := Lib.hid hnw
      have HST : Hid (SgInv w w.heap.size (wIn T (hTo D k) (way.take 0)) w4 ∧ RInts w4 (some ⟨bh, offh, none⟩) q (headsL D.wait) ∧ RInts w4 WA z way ∧ RowIs w4 wo.heap.size 62 [.int .i64 (T : Int), .int .i64 kd, .int .i64 it]) :=
        ⟨HIL.out.later hb4, HHL.out.below hb4 (Nat.le_refl _), hwf.1, RowIs.below HBX.out hb4 (Nat.le_refl _)⟩
      have hwz := hwf.1.2.1
      clear HIL HHL HBX HIW hb4 hwf hnw hz c0 c1 c2 r1 ch
      go_wp2_with fail
      go_loopw [29] (fun i wr => ∃ j : Nat, j ≤ z ∧ i = .int .i64 j ∧ SgInv w w.heap.size (wIn T (hTo D k) (way.take j)) wr ∧ RInts wr (some ⟨bh, offh, none⟩) q (headsL D.wait) ∧ RInts wr WA z way ∧ RowIs wr wo.heap.size 62 [.int .i64 (T : Int), .int .i64 kd, .int .i64 it]) (fun i _ => z - (intOf i).toNat)
      case atStart => exact ⟨0, Nat.zero_le _, rfl, HST.out.1, HST.out.2.1, HST.out.2.2.1, HST.out.2.2.2⟩
      case round =>
        clear HST
        obtain ⟨wi, rfl⟩ : ∃ z : World, z = wr := ⟨_, rfl⟩
        obtain ⟨j, hj, rfl, hI, hH, hWy, hbx⟩ := hrel
        by_cases hltj : j < z
        · obtain ⟨bw, offw, u, hWA, hbw, hu, cu⟩ := hWy.at_ hltj
          subst hWA
          have hur := HWR.out u (List.mem_of_getElem? hu)
          have hsn := wIn_snoc (T := T) (rows := hTo D k) hu
          obtain ⟨U, rfl⟩ := Int.eq_ofNat_of_zero_le hur.1
          have hU3 : U ≤ 3 := by omega
          have hok2 : Rows4 (wIn T (hTo D k) (way.take j)) := wIn_ok (fun v hv => HWR.out v (List.mem_of_mem_take hv)) HOK.out
          obtain ⟨hat, hfz, hr16⟩ := hI.at_ hok2 hT3
          obtain ⟨RO, hRO⟩ : ∃ RO, wIn T (hTo D k) (way.take j) = RO := ⟨_, rfl⟩
          rw [hRO] at hat hr16 hok2 hsn hI
          obtain ⟨r, hr⟩ : ∃ r, RO.getD T 0 = r := ⟨_, rfl⟩
          rw [hr] at hat hr16
          have HSET : Hid (∀ v : Int, v = ((r ||| (1 <<< ((U : Int)).toNat) : Nat) : Int) → SgInv w w.heap.size (wIn T (hTo D k) (way.take (j + 1))) (wi.setCell ⟨w.heap.size, T, none⟩ (.int .i64 v)).drew ∧ RInts (wi.setCell ⟨w.heap.size, T, none⟩ (.int .i64 v)).drew (some ⟨bh, offh, none⟩) q (headsL D.wait) ∧ RInts (wi.setCell ⟨w.heap.size, T, none⟩ (.int .i64 v)).drew (some ⟨bw, offw, none⟩) z way ∧ RowIs (wi.setCell ⟨w.heap.size, T, none⟩ (.int .i64 v)).drew wo.heap.size 62 [.int .i64 (T : Int), .int .i64 kd, .int .i64 it]) := by
            intro v hv
            have hg : wi.grownBy (wi.setCell ⟨w.heap.size, T, none⟩ (.int .i64 v)).drew (some w.heap.size) := World.grownBy.trans grown_set (grown_below (Below.refl _ _).drew)
            have hsv := hI.set (u := (U : Int)) (v := v) (Nat.le_refl _) hT3 hok2 (by rw [hr, hv])
            exact ⟨by rw [hsn]; exact hsv.drew, RInts.grown hH hg (fun ad had e => by injection e with e; exact HNH.out ad had e.symm), RInts.grown hWy hg (fun ad had e => by injection e with e; exact HNW.out ad had e.symm), RowIs.grown hbx hg (fun e => by injection e with e; omega)⟩
          have p0 : wi.cell? ⟨wo.heap.size, 0, none⟩ = some (.int .i64 (T : Int)) := RowIs.cell hbx rfl
          have hji : (j : Int) < (z : Int) := by omega
          have hj0 : (0 : Int) ≤ (j : Int) := by omega
          have hT4 : (T : Int) < 4 := by omega
          have hT0 : (0 : Int) ≤ (T : Int) := by omega
          clear hI hH hWy hbx hu hsn hRO hok2 hr
          rcases (by omega : U = 0 ∨ U = 1 ∨ U = 2 ∨ U = 3) with rfl | rfl | rfl | rfl
          · have hor : bits .or .i64 (r : Int) 1 = ((r ||| 1 : Nat) : Int) := or_nat r 1 (by omega) (by omega)
            go_wp2_with fail
            go_region
            go_wp2_with fail
            go_roundw
            case rel => exact ⟨j + 1, by omega, by go_num, (HSET.out _ rfl).1, (HSET.out _ rfl).2.1, (HSET.out _ rfl).2.2.1, (HSET.out _ rfl).2.2.2⟩
            case measure => simp [intOf]; omega
          · have hor : bits .or .i64 (r : Int) 2 = ((r ||| 2 : Nat) : Int) := or_nat r 2 (by omega) (by omega)
            go_wp2_with fail
            go_region
            go_wp2_with fail
            go_roundw
            case rel => exact ⟨j + 1, by omega, by go_num, (HSET.out _ rfl).1, (HSET.out _ rfl).2.1, (HSET.out _ rfl).2.2.1, (HSET.out _ rfl).2.2.2⟩
            case measure => simp [intOf]; omega
          · have hor : bits .or .i64 (r : Int) 4 = ((r ||| 4 : Nat) : Int) := or_nat r 4 (by omega) (by omega)
            go_wp2_with fail
            go_region
            go_wp2_with fail
            go_roundw
            case rel => exact ⟨j + 1, by omega, by go_num, (HSET.out _ rfl).1, (HSET.out _ rfl).2.1, (HSET.out _ rfl).2.2.1, (HSET.out _ rfl).2.2.2⟩
            case measure => simp [intOf]; omega
          · have hor : bits .or .i64 (r : Int) 8 = ((r ||| 8 : Nat) : Int) := or_nat r 8 (by omega) (by omega)
            go_wp2_with fail
            go_region
            go_wp2_with fail
            go_roundw
            case rel => exact ⟨j + 1, by omega, by go_num, (HSET.out _ rfl).1, (HSET.out _ rfl).2.1, (HSET.out _ rfl).2.2.1, (HSET.out _ rfl).2.2.2⟩
            case measure => simp [intOf]; omega
        · obtain rfl : j = z := by omega
          have hte : way.take j = way := List.take_of_length_le (by have := HZ.out; omega)
          rw [hte, ← HTS.out] at hI
          have HI := Lib.hid hI
          have HHH := Lib.hid hH
          clear hI hH hWy hbx hte
          go_wp2_with fail
          go_roundw
          case rel => exact ⟨k + 1, by omega, by go_num, HI.out, HHH.out⟩
          case measure => simp [intOf]; omega
    · obtain rfl : k = q := by omega
      rw [HE.out] at hI
      have h4 : (rowsI (waitsR D)).length = 4 := by unfold rowsI; rw [List.length_map]; exact (waitsR_ok D).1
      have hrow := hI.row
      have HF : Hid (RetInts w (rowsI (waitsR D)) (.returned (.slice (some ⟨w.heap.size, 0, none⟩) 4 4)) wo) := by
        show RetInts _ _ _ _
        refine RetInts.mk h4 (Nat.le_refl _) ⟨⟨h4, by omega, fun _ => ⟨_, 0, rfl, hrow.lt, fun i x hx => ?_⟩⟩, fun ad had => ?_⟩ hI.below
        · rw [Nat.zero_add]
          refine hrow.cell ?_
          rw [List.append_nil]
          unfold intCells
          rw [List.getElem?_map, hx]
          rfl
        · injection had with had
          exact ⟨w.heap.size, _, had.symm, Nat.le_refl _, hrow, by simp [intCells, h4]⟩
      clear hI hH hrow h4
      go_wp2_with fail
      go_ret
      exact HF.out
end Go.Proofs.Ytncebpmckbcabaa
