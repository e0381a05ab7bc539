/-
  viewOf: the walk.
-/
import Derived.Test.YtkbclcgdkbhgdaaQIvsView12
import Derived.Test.YtkbclcgdkbhgdaaPkOrdX2
import Derived.Deep.RegionLaw
namespace Go.Proofs.Ytkbclcgdkbhgdaa
open Go.RowKit Go.BigFrame
set_option linter.unusedVariables false

theorem plF_some {k i : Nat} {o : OpV} {v : Int} (h : plF k i o = some v) : i < k ∧ v = (i : Int) := by
  unfold plF at h
  split at h
  · rename_i hk
    injection h with h
    exact ⟨hk, h.symm⟩
  · cases h

theorem rf_rng {s : List OpV} (hx : Tx4 s) (i : Nat) (x : Int) (k : Nat) : -1 ≤ rfTo s i x k ∧ rfTo s i x k ≤ 3 := by
  rw [rf_lw]
  rcases lw_spec (W := rfB s i x) (s := s) k with ⟨h, _⟩ | ⟨j, q, _, hq, _, h, _⟩
  · omega
  · have := hx q (List.mem_of_getElem? hq); omega

set_option maxRecDepth 100000 in
set_option maxHeartbeats 1500000 in
theorem viewOf_any (A : Option Addr) (n c : Nat) (s : List OpV) (w : World) (hx : ROps w A n s) (hnc : n ≤ c) (hx4 : Tx4 s) :
    Calls Try.prog 110 #[.slice A n c] w (RetMap w s (vwF s)) := by
  have hn := hx.2.1
  have hl := hx.1
  have hmm := @run_makeMap Try.prog
  have hns : s.length ≤ 1099511627776 := by omega
  have HX := Lib.hid hx
  have HX4 := Lib.hid hx4
  have HNS := Lib.hid hns
  have hb0 : Below w.heap.size w (w.alloc (.map #[] 0)) := (Below.refl _ w).alloc (Nat.le_refl _) _
  have HM0 : Hid ((w.alloc (.map #[] 0)).ownsMap Try.prog 73 (plainElem (H := Unit) Try.prog 3) w.heap.size 0 (.map [])) := World.ownsMap_made w _ _ _
  have HP := Lib.hid (placesOf_any A n c s (w.alloc (.map #[] 0)) (hx.below hb0 (Nat.le_refl _)) hx4)
  have HB0 := Lib.hid hb0
  clear hx hx4 hb0 hns
  go_enter Try.func110, Try.ntmps110
  go_wp2_with fail
  refine HP.out.mono ?_
  rintro e wP ⟨m2, D2, N2, rfl, hm2, hN2, hown2, hkv2, hbP⟩
  clear hmm HP
  have hbwP := HB0.out.trans (hbP.mono HB0.out.size)
  have hownO := ownsMap_blk HM0.out (hbP.block w.heap.size (by simp))
  have hm2l := hown2.lt
  have hwP : w.heap.size < wP.heap.size := hownO.lt
  have hm2w : w.heap.size < m2 := by simp at hm2; omega
  have HO2 := Lib.hid hown2
  have HKV := Lib.hid hkv2
  have HBP := Lib.hid hbwP
  have HOO := Lib.hid hownO
  have HSZ := Lib.hid (owns_size hown2)
  clear hown2 hkv2 hbP hbwP hownO HB0 HM0 hm2
  go_wp2_with (at_range; refine wpList_range_own _ rfl _ 70 rfl 73 3 plkeyed Try.underlying70 (plainElem (H := Unit) Try.prog 3) m2 N2 D2 rfl HO2.out ?_; intro w0 hrg0 hg0 hs0)
  have hb0 : Below wP.heap.size wP w0 := ⟨hg0.os, hg0.tape, hg0.output, hg0.size, fun k hk => hg0.block k hk (by simp)⟩
  have HST : Hid (∃ left cnt D N, Below w.heap.size w w0 ∧ w0.ranges Try.prog 73 (plainElem (H := Unit) Try.prog 3) m2 wP.heap.size N2 D2 left cnt ∧ (∀ kl, left kl = true → Maps.has D2 kl = true) ∧ N + cnt ≤ N2 ∧ w0.ownsMap Try.prog 73 (plainElem (H := Unit) Try.prog 3) w.heap.size N D ∧ KvIs D s (vwP s left)) :=
    ⟨_, _, _, 0, HBP.out.trans (hb0.mono HBP.out.size), hrg0, fun _ h => h, by have := HSZ.out; omega, ownsMap_blk HOO.out (hb0.block _ hwP), vwP_start (HKV.out.hasAll HX4.out HNS.out)⟩
  clear hrg0 hg0 hs0 hb0
  try go_frame
  obtain ⟨r1, hr1⟩ : ∃ r1, wP.heap.size = r1 := ⟨_, rfl⟩
  rw [hr1] at HST hm2l hwP ⊢
  clear hr1
  go_loopw [5] (fun _ wr => ∃ left cnt D N, Below w.heap.size w wr ∧ wr.ranges Try.prog 73 (plainElem (H := Unit) Try.prog 3) m2 r1 N2 D2 left cnt ∧ (∀ kl, left kl = true → Maps.has D2 kl = true) ∧ N + cnt ≤ N2 ∧ wr.ownsMap Try.prog 73 (plainElem (H := Unit) Try.prog 3) w.heap.size N D ∧ KvIs D s (vwP s left)) (fun _ wr => wr.rangeLeft m2 r1)
  case atStart => exact HST.out
  case round =>
    clear HST
    obtain ⟨wo, rfl⟩ : ∃ wo : World, wo = wr := ⟨_, rfl⟩
    obtain ⟨left, cnt, D, N, hbo, hrg, hlh, hNc, hown, hkv⟩ := hrel
    have HRG := Lib.hid hrg
    have HLH := Lib.hid hlh
    have HKO := Lib.hid hkv
    have HOW := Lib.hid hown
    have hro := hrg.lt
    clear hrg hlh hkv hown
    go_wp2_with (at_next; refine plint_next rfl _ rfl _ _ _ D2 left cnt rfl HRG.out (fun hc0 hl0 => ?_) (fun t u i0 w1 cnt1 hwt hwu hwi hlx hat hrg1 hlt1 hg1 hs1 hen1 => ?_))
    · have HR : Hid (RetMap w s (vwF s) (.returned (.map (some w.heap.size))) wo) := ⟨_, D, N, rfl, Nat.le_refl _, by omega, HOW.out, vwP_done HKO.out hl0, hbo⟩
      clear hl0
      go_ret
      exact HR.out
    · obtain ⟨i, o, hi, hot, hcu, hfi⟩ := HKV.out.key hwt hwu (HLH.out _ hlx) hat
      obtain ⟨hin, rfl⟩ := plF_some hfi
      obtain ⟨ot, ok, oi⟩ := o
      simp only at hot
      subst hot
      have hb1w : Below w.heap.size w w1 := Below.grown hbo hg1 hbo.size (fun k e => by cases e; omega)
      obtain ⟨V, hV⟩ : ∃ V, V = w1.alloc (.cells #[.int .i64 ot, .int .i64 u] 73) := ⟨_, rfl⟩
      have hbV : Below w1.heap.size w1 V := by rw [hV]; exact (Below.refl _ _).alloc (Nat.le_refl _) _
      have hsV : V.heap.size = wo.heap.size + 1 := by rw [hV]; simp; omega
      have hbwV := hb1w.trans (hbV.mono hb1w.size)
      obtain ⟨b, off, o', hA, hbl, ho', c0, c1, c2⟩ := (HX.out.below hbwV (Nat.le_refl _)).at_ (k := i) (by omega)
      rw [hi] at ho'
      injection ho' with ho'
      subst ho'
      have hRF : ∀ W : World, Below V.heap.size V W → Calls Try.prog 144 #[.slice A n c, .int .i64 (i : Int)] W fun e w' => e = .returned (.int .i64 (vsrc s i ⟨ot, ok, oi⟩)) ∧ Below W.heap.size W w' := fun W h =>
        readFrom_any A n c i s ⟨ot, ok, oi⟩ W (HX.out.below (hbwV.trans (h.mono hbwV.size)) (Nat.le_refl _)) hi hnc
      subst hA
      simp only at c0 c1 c2
      have v0 : V.cell? ⟨wo.heap.size, 0, none⟩ = some (.int .i64 ot) := by rw [hV, ← hs1]; exact box_at _ _ _ _ _ rfl
      have v1 : V.cell? ⟨wo.heap.size, 1, none⟩ = some (.int .i64 u) := by rw [hV, ← hs1]; exact box_at _ _ _ _ _ rfl
      have hor := hrg1.owns.lt
      have hr1o : r1 < wo.heap.size := hro
      have hbase : w.heap.size < wo.heap.size := HOW.out.lt
      have hownV := ownsMap_blk HOW.out ((hbV.block _ (by omega)).trans (hg1.block _ hbase (by intro e; injection e with e; omega)))
      have hrgV := ranges_blk hrg1 (hbV.block m2 (by omega)) (hbV.block r1 (by omega))
      have hleft : ∀ kl, (fun z => left z && !z.sameKey (pllit ot u)) kl = true → Maps.has D2 kl = true := fun kl hk => HLH.out kl (by simp only [Bool.and_eq_true] at hk; exact hk.1)
      have HIN := Lib.hid (And.intro hi hcu)
      have HRF := Lib.hid hRF
      have HV := Lib.hid hV
      have HV0 := Lib.hid (And.intro v0 v1)
      have hii : (i : Int) < (n : Int) := by omega
      have hi0 : (0 : Int) ≤ (i : Int) := by omega
      have HLF := Lib.hid hleft
      have HRGV := Lib.hid hrgV
      have HOV := Lib.hid hownV
      have HBV := Lib.hid hbwV
      have HLT := Lib.hid hlt1
      have e2 := HRG.out.left_eq
      have HE2 := Lib.hid e2
      have hm2r : m2 < wo.heap.size := by have := hrg1.owns.lt; have := HO2.out.lt; omega
      have hvr : -1 ≤ vsrc s i ⟨ot, ok, oi⟩ ∧ vsrc s i ⟨ot, ok, oi⟩ ≤ 3 := rf_rng HX4.out i _ i
      by_cases hk : ok = 0
      · subst hk
        obtain ⟨v, hv⟩ : ∃ v, vsrc s i ⟨ot, 0, oi⟩ = v := ⟨_, rfl⟩
        rw [hv] at HRF hvr
        have HNX : Hid (∀ W3 w4 : World, Below V.heap.size V W3 → w4.ownsMap Try.prog 73 (plainElem (H := Unit) Try.prog 3) w.heap.size (N + 1) (D.put (pllit ot u) (.lit (.int .i64 v))) → W3.grownBy w4 (some w.heap.size) →
            (∃ left cnt D N, Below w.heap.size w w4 ∧ w4.ranges Try.prog 73 (plainElem (H := Unit) Try.prog 3) m2 r1 N2 D2 left cnt ∧ (∀ kl, left kl = true → Maps.has D2 kl = true) ∧ N + cnt ≤ N2 ∧ w4.ownsMap Try.prog 73 (plainElem (H := Unit) Try.prog 3) w.heap.size N D ∧ KvIs D s (vwP s left)) ∧ w4.rangeLeft m2 r1 < wo.rangeLeft m2 r1) := by
          intro W3 w4 h3 h1 h2
          have hs3 := h3.size
          have hbW := HBV.out.trans (h3.mono HBV.out.size)
          have hb4 : Below w.heap.size w w4 := hbW.grown h2 hbW.size (fun k e => by cases e; exact Nat.le_refl _)
          have hrz := ranges_blk HRGV.out ((h2.block m2 (by omega) (by intro e; injection e with e; omega)).trans (h3.block m2 (by omega))) ((h2.block r1 (by omega) (by intro e; injection e with e; omega)).trans (h3.block r1 (by omega)))
          have hkv := vwP_put HKO.out HX4.out HNS.out HIN.out.1 HIN.out.2 rfl
          rw [hv] at hkv
          refine ⟨⟨_, cnt1, _, N + 1, hb4, hrz, HLF.out, by have := HLT.out; omega, h1, hkv⟩, ?_⟩
          rw [hrz.left_eq, HE2.out]
          exact HLT.out
        have HWF := Lib.hid (And.intro hwt hwu)
        have hNb : N + 1 ≤ 1099511627776 := by omega
        have hwv : (Lit.int .i64 v).wf = true := by simp [Lit.wf, IntKind.min, IntKind.max, IntKind.signed, IntKind.bits]; omega
        have cd0 : V.drew.cell? ⟨wo.heap.size, 0, none⟩ = some (.int .i64 ot) := v0
        have cd1 : V.drew.cell? ⟨wo.heap.size, 1, none⟩ = some (.int .i64 u) := v1
        rw [← HV.out]
        have hwoV : wo.heap.size < V.heap.size := by omega
        have HSV := Lib.hid hsV
        clear hV hbV hbwV hrgV hownV hb1w hlt1 hg1 hat hlx hcu hi hrg1 hen1 hfi hwi hor e2 hs1 hsV hv hwt hwu hleft
        go_wp2_with fail
        go_region_with (go_at_call 144; refine (HRF.out _ (Below.refl _ _).drew).mono ?_; rintro e w3 ⟨rfl, hb3'⟩; have hb3 : Below V.heap.size V w3 := (Below.refl _ _).drew.trans hb3'; have k0 := (hb3.cell (p := ⟨wo.heap.size, 0, none⟩) hwoV).trans v0; have k1 := (hb3.cell (p := ⟨wo.heap.size, 1, none⟩) hwoV).trans v1; have hown3 := ownsMap_blk HOV.out (hb3.block _ (by omega)); obtain ⟨w4, hrun4, hown4, hg4⟩ := hown3.update (t := 70) (e := 3) plkeyed Try.underlying70 (by unfold maxLen; omega) (key := .agg #[.int .i64 ot, .int .i64 u]) (val := .int .i64 v) (plkey HWF.out.1 HWF.out.2) (plainElem_int Try.underlying3 hwv); have HFIN := Lib.hid (HNX.out w3 w4 hb3 hown4 hg4); clear hown4 hg4)
        all_goals
          go_wp2_with fail
          go_roundw
          case rel => exact HFIN.out.1
          case measure => exact HFIN.out.2
      · have hkv := vwP_skip HKO.out HX4.out HNS.out HIN.out.1 HIN.out.2 hk
        have HNX : Hid ((∃ left cnt D N, Below w.heap.size w V ∧ V.ranges Try.prog 73 (plainElem (H := Unit) Try.prog 3) m2 r1 N2 D2 left cnt ∧ (∀ kl, left kl = true → Maps.has D2 kl = true) ∧ N + cnt ≤ N2 ∧ V.ownsMap Try.prog 73 (plainElem (H := Unit) Try.prog 3) w.heap.size N D ∧ KvIs D s (vwP s left)) ∧ V.rangeLeft m2 r1 < wo.rangeLeft m2 r1) := by
          refine ⟨⟨_, cnt1, D, N, HBV.out, HRGV.out, HLF.out, by have := HLT.out; omega, HOV.out, hkv⟩, ?_⟩
          rw [HRGV.out.left_eq, HE2.out]
          exact HLT.out
        have hkn : (ok == 0) = false := by rw [beq_eq_false_iff_ne]; exact hk
        rw [← HV.out]
        clear hV hbV hbwV hrgV hownV hb1w hlt1 hg1 hat hlx hcu hi hrg1 hen1 hfi hwi hor e2 hs1 hsV hwt hwu hleft hkv
        go_wp2_with fail
        exact HNX.out
end Go.Proofs.Ytkbclcgdkbhgdaa
