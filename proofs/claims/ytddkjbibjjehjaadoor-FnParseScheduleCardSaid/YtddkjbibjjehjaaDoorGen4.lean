/-
  The generators of schedules once more, from a low place of the reader on.
-/
import Derived.Test.YtddkjbibjjehjaaDoorGen3
namespace Go.Proofs.YtddkjbibjjehjaaDoor
open Go.RowKit Go.BigFrame
set_option linter.unusedVariables false

def GoodPostL (w0 : World) (rb : Nat) (e : Ending) (w : World) : Prop :=
  ∃ (v : Value) (n : Nat) (xs : List OpV) (p : Nat), e = .returned v ∧ w.ownsRow w0.heap.size 38 3 v n (opCells xs) ∧ n ≤ 20 ∧ Rd w rb p ∧ p ≤ 20000 ∧ Only rb w0 w
set_option maxRecDepth 100000 in
set_option maxHeartbeats 2000000 in
theorem goodScheduleL_any (rb p most : Nat) (w0 : World) (h : Rd w0 rb p) (hp : p ≤ 10000) (hm : most ≤ 16) :
    Calls Tryd.prog 30 #[.pointer (some ⟨rb, 0, none⟩), .int .i64 (most : Int)] w0 (GoodPostL w0 rb) := by
  have hlt := h.lt
  go_enter Tryd.func30, Tryd.ntmps30
  go_wp2_with fail
  refine (programs_any rb p most w0 h (by omega) hm).mono ?_
  rintro e w1 ⟨lv, vs, left, rfl, q, hlv, hv4, hrows, _, _, hr1, hq1, hO1⟩
  have hlt1 := hr1.lt
  go_wp2_with fail
  refine (pick_any rb q 4 _ (hr1.alloc _) (by omega) (by omega)).mono ?_
  rintro e w2 ⟨sw, rfl, hr2, _, _, ho2⟩
  have hs2 := ho2.size
  have hs1 := hO1.size
  have ht5 : ∀ v ∈ vs, lenOf v ≤ 5 := by
    intro v hv
    obtain ⟨A, n, c, xs, rfl, _, hn, _⟩ := hrows v hv
    exact hn
  have htot := tot_le vs 5 ht5
  have HST : Hid (Good w0 rb w1.heap.size 10100 vs.length lv (.slice (some ⟨w1.heap.size, 0, none⟩) 0 0) w2) :=
    ⟨hv4, 0, [], vs, q + 1, own_only (hlv.alloc _) ho2 hlt, (hrows.keep (fun b h1 h2 _ => Below.heap_alloc _ _ _ h2) (by simp)).only ho2 (by simp) hlt,
      own_only (World.ownsRow_made w1 #[] 0 (Nat.le_refl _) (by decide) rfl) ho2 hlt1, by omega, hr2, by omega, (hO1.alloc _).trans ho2, by simp at hs2; omega⟩
  obtain ⟨Al, cl, rfl⟩ := own_form hlv
  generalize hk : vs.length = K at *
  have HK := Lib.hid hk
  clear hk hlv hrows hr1 hq1 hO1 hr2 ho2 ht5 htot
  go_wp2_with fail
  go_loopw [6] (fun ov w => Good w0 rb w1.heap.size 10100 K (.slice Al K cl) ov w) (fun ov _ => 21 - lenOf ov)
  case atStart => exact HST.out
  case round =>
    clear HST HK vs
    obtain ⟨wo, rfl⟩ : ∃ wo : World, wo = wr := ⟨_, rfl⟩
    obtain ⟨hK4, n, xs, vs, p3, hlv, hrows, hov, hsum, hr, hp3, hO, hLw⟩ := hrel
    have hlr := hr.lt
    have hvl : vs.length = K := by simpa using hlv.1
    have HIN : Hid (Some_ wo rb p3 0 vs (.slice (some ⟨wo.heap.size, 0, none⟩) 0 0) (wo.alloc (.cells #[] 3))) :=
      ⟨[], by simp, World.ownsRow_made wo #[] 0 (Nat.le_refl _) (by decide) rfl, by simp, hr.alloc _, (Only.refl _ _).alloc _⟩
    have HO := Lib.hid (And.intro hlv (And.intro hrows (And.intro hov (And.intro hr (And.intro hO hvl)))))
    clear hlv hrows hov hr hO hvl
    go_wp2_with fail
    go_loopw [8, 9] (fun sv t w => ∃ k : Nat, k ≤ K ∧ t = .int .i64 k ∧ Some_ wo rb p3 k vs sv w) (fun _ t _ => K - (intOf t).toNat)
    case atStart => exact ⟨0, by omega, rfl, HIN.out⟩
    case round =>
      clear HIN
      obtain ⟨k, hk, rfl, ts, htk, hts, hin, hr, hOi⟩ := hrel
      by_cases hkK : k < K
      · have hlw := own_only HO.out.1 hOi hlt
        obtain ⟨g, cl', hve, hg1, hg2⟩ := own_block hlw (by omega)
        injection hve with hA _ hc
        subst hA; subst hc
        have hcell : wr.cell? ⟨g, k, none⟩ = vs[k]? := by simpa using hlw.cellAt k (by omega)
        obtain ⟨u, hu⟩ : ∃ u, vs[k]? = some u := ⟨vs[k]'(by have := HO.out.2.2.2.2.2; omega), List.getElem?_eq_getElem _⟩
        obtain ⟨A, nt, ct, ys, rfl, hnc, hn5, hro, hAA⟩ := HO.out.2.1 u (List.mem_of_getElem? hu)
        rw [hu] at hcell
        have HU := Lib.hid hu
        clear hu hro hAA hlw
        have hsz := hOi.size
        by_cases hnt : 0 < nt
        · go_wp2_with (at_builtin; refine app_ints (.tmp 32) (.tmp 34) (hts.alloc _) (by simp; omega) (lit1 rfl (k : Int)) (by omega) rfl rfl rfl rfl ?_; intro v6 w6 hown6 hg6 hat6)
          have hg6' := World.grownBy.trans (World.grownBy_alloc wr _ _) hg6
          have hO6 := hOi.own hts (Nat.le_refl _) hg6'
          have hr6 := hr.grown hg6' fun j hj => by have := (World.ownsRow.lt hts j hj).1; omega
          go_wp2_with fail
          go_roundw
          case rel => exact ⟨k + 1, by omega, by go_num, ts ++ [(k : Int)], by simp; omega, by simpa using hown6, mem_snoc hin ⟨by omega, _, _, _, by simpa using HU.out, hnt⟩, hr6, hO6⟩
          case measure => simp [intOf]; omega
        · go_wp2_with fail
          go_roundw
          case rel => exact ⟨k + 1, by omega, by go_num, ts, by omega, hts, hin, hr, hOi⟩
          case measure => simp [intOf]; omega
      · obtain ⟨As, cs, rfl⟩ := own_form hts
        have hsz := hOi.size
        by_cases hts0 : ts.length = 0
        · have hovr := own_only HO.out.2.2.1 hOi hlt1
          have hO' := HO.out.2.2.2.2.1.trans hOi
          go_wp2_with fail
          go_ret
          exact ⟨_, n, xs, p3, rfl, own_base hovr (by omega), by omega, hr, by omega, hO'⟩
        · go_wp2_with fail
          refine (pick_any rb p3 _ _ hr (by omega) (by omega)).mono ?_
          rintro e w4 ⟨pv, rfl, hr4, _, hpv, ho4⟩
          obtain ⟨hpv0, hpv1⟩ := hpv (by omega)
          have hso := HO.out.2.2.2.2.1.size
          have hs4 := ho4.size
          obtain ⟨b, off, x, hAs, _, hx, hc4⟩ := (RInts.of_own (own_only hts ho4 (by omega)) (by omega)).at_ (k := pv.toNat) (by omega)
          subst hAs
          obtain ⟨hx0, A, nt, ct, hvx, hnt⟩ := hin x (List.mem_of_getElem? hx)
          obtain ⟨X, rfl⟩ := Int.eq_ofNat_of_zero_le hx0
          rw [Int.toNat_natCast] at hvx
          have hxK : X < K := by
            have h1 := HO.out.2.2.2.2.2
            rcases Nat.lt_or_ge X vs.length with h | h
            · omega
            · rw [List.getElem?_eq_none h] at hvx; cases hvx
          have hlw4 := own_only (own_only HO.out.1 hOi hlt) ho4 hlt
          obtain ⟨g, cl', hve, hg1, hg2⟩ := own_block hlw4 (by omega)
          injection hve with hA _ hc
          subst hA; subst hc
          have hcell4 : w4.cell? ⟨g, X, none⟩ = some (.slice A nt ct) := by rw [hlw4.cellAt X (by omega)]; exact hvx
          have HU := Lib.hid hvx
          have hnt5 := row_len (HO.out.2.1 _ (List.mem_of_getElem? hvx))
          clear hvx hx hin hlw4 hts
          by_cases hsw : sw = 0
          · go_wp2_with fail
            refine (pick_any rb _ _ _ hr4 (by omega) (by omega)).mono ?_
            rintro e w5 ⟨pk, rfl, hr5, _, hpk, ho5⟩
            obtain ⟨hpk0, hpk1⟩ := hpk (by omega)
            obtain ⟨k, rfl⟩ := Int.eq_ofNat_of_zero_le hpk0
            have hs5 := ho5.size
            have ho45 := ho4.trans ho5
            have hlwf := own_only (own_only HO.out.1 hOi hlt) ho45 hlt
            have hcell5 : w5.cell? ⟨g, X, none⟩ = some (.slice A nt ct) := by rw [hlwf.cellAt X (by omega)]; exact HU.out
            have hov5 := own_only (own_only HO.out.2.2.1 hOi hlt1) ho45 hlt1
            have hrows5 := (HO.out.2.1.only hOi (by omega) hlt).only ho45 (by omega) hlt
            obtain ⟨A', n', c', ys, hv', hnc, hn5, hro, _⟩ := hrows5 _ (List.mem_of_getElem? HU.out)
            injection hv' with e1 e2 e3
            subst e1; subst e2; subst e3
            have hro' := hro.take (k := 1 + k) (by omega)
            have HR := Lib.hid (And.intro hlwf (And.intro hrows5 (And.intro hov5 hro')))
            clear hlwf hrows5 hro hro'
            go_wp2_with (at_builtin; refine app_ops (.tmp 56) (.tmp 62) hov5 (by omega) HR.out.2.2.2 (by omega) rfl rfl rfl rfl ?_; intro v6 w6 hown6 hg6 hat6; obtain ⟨hgood, hcell6, hfr6⟩ := good_step (k := 1 + k) (P := 10100) hlt hK4 HR.out.1 HR.out.2.1 (by omega) hov5 (by omega) hsum hr5 ((HO.out.2.2.2.2.1.trans hOi).trans ho45) HU.out (by omega) (by omega) hown6 hg6 (by omega))
            all_goals
              go_roundw
              case rel =>
                first
                  | (have e : ct = 1 + k := by assumption
                     rw [if_pos e, show ct - (1 + k) = 0 from by omega] at hgood
                     exact hgood)
                  | (rw [if_neg (by omega)] at hgood
                     exact hgood)
              case measure =>
                have e6 := own_len hown6
                have e5 := own_len hov5
                omega
          · have hlwf := own_only (own_only HO.out.1 hOi hlt) ho4 hlt
            have hcell5 : w4.cell? ⟨g, X, none⟩ = some (.slice A nt ct) := by rw [hlwf.cellAt X (by omega)]; exact HU.out
            have hov5 := own_only (own_only HO.out.2.2.1 hOi hlt1) ho4 hlt1
            have hrows5 := (HO.out.2.1.only hOi (by omega) hlt).only ho4 (by omega) hlt
            obtain ⟨A', n', c', ys, hv', hnc, hn5, hro, _⟩ := hrows5 _ (List.mem_of_getElem? HU.out)
            injection hv' with e1 e2 e3
            subst e1; subst e2; subst e3
            have hro' := hro.take (k := 1) (by omega)
            have HR := Lib.hid (And.intro hlwf (And.intro hrows5 (And.intro hov5 hro')))
            clear hlwf hrows5 hro hro'
            go_wp2_with (at_builtin; refine app_ops (.tmp 56) (.tmp 62) hov5 (by omega) HR.out.2.2.2 (by omega) rfl rfl rfl rfl ?_; intro v6 w6 hown6 hg6 hat6; obtain ⟨hgood, hcell6, hfr6⟩ := good_step (k := 1) (P := 10100) hlt hK4 HR.out.1 HR.out.2.1 (by omega) hov5 (by omega) hsum hr4 ((HO.out.2.2.2.2.1.trans hOi).trans ho4) HU.out (by omega) (by omega) hown6 hg6 (by omega))
            all_goals
              go_roundw
              case rel =>
                first
                  | (have e : ct = 1 := by assumption
                     rw [if_pos e, show ct - (1) = 0 from by omega] at hgood
                     exact hgood)
                  | (rw [if_neg (by omega)] at hgood
                     exact hgood)
              case measure =>
                have e6 := own_len hown6
                have e5 := own_len hov5
                omega
def BentPostL (w0 : World) (rb L n : Nat) (v : Value) (e : Ending) (w : World) : Prop :=
  ∃ (xs : List OpV) (p : Nat), e = .returned v ∧ w.ownsRow L 38 3 v n (opCells xs) ∧ Rd w rb p ∧ p ≤ 40000 ∧ Only rb w0 w
theorem bent_stepL {w0 w : World} {rb L n p g c : Nat} {xs : List OpV} (hown : w.ownsRow L 38 3 (.slice (some ⟨g, 0, none⟩) n c) n (opCells xs)) (hr : Rd w rb p) (hp : p ≤ 40000) (hO : Only rb w0 w)
    (hL : w0.heap.size ≤ L) (hrb : rb < w0.heap.size) (i : Nat) (hi : i < n) (v : Int) :
    BentPostL w0 rb L n (.slice (some ⟨g, 0, none⟩) n c) (.returned (.slice (some ⟨g, 0, none⟩) n c)) (w.setCell ⟨g, i * 3, none⟩ (.int .i64 v)) ∧
    BentPostL w0 rb L n (.slice (some ⟨g, 0, none⟩) n c) (.returned (.slice (some ⟨g, 0, none⟩) n c)) (w.setCell ⟨g, i * 3 + 1, none⟩ (.int .i64 v)) ∧
    BentPostL w0 rb L n (.slice (some ⟨g, 0, none⟩) n c) (.returned (.slice (some ⟨g, 0, none⟩) n c)) (w.setCell ⟨g, i * 3 + 2, none⟩ (.int .i64 v)) := by
  have hl := hown.1
  rw [length_opCells] at hl
  have e : xs[i]? = some (xs[i]'(by omega)) := List.getElem?_eq_getElem (by omega)
  have hset := opCells_set xs i _ e v
  have hg := World.ownsRow.lt hown g rfl
  have hk : ∀ j, Rd (w.setCell ⟨g, j, none⟩ (.int .i64 v)) rb p ∧ Only rb w0 (w.setCell ⟨g, j, none⟩ (.int .i64 v)) := fun j =>
    ⟨hr.grown (hown.stored j _).2 fun k hk => by injection hk with hk; omega, hO.grown (hown.stored j _).2 fun k hk => by injection hk with hk; omega⟩
  have h0 := (hown.stored (i * 3) (.int .i64 v)).1
  have h1 := (hown.stored (i * 3 + 1) (.int .i64 v)).1
  have h2 := (hown.stored (i * 3 + 2) (.int .i64 v)).1
  rw [hset.1] at h0
  rw [hset.2.1] at h1
  rw [hset.2.2] at h2
  exact ⟨⟨_, p, rfl, h0, (hk _).1, hp, (hk _).2⟩, ⟨_, p, rfl, h1, (hk _).1, hp, (hk _).2⟩, ⟨_, p, rfl, h2, (hk _).1, hp, (hk _).2⟩⟩
set_option maxRecDepth 100000 in
set_option maxHeartbeats 2000000 in
theorem bentL_any (rb p L n c : Nat) (A : Option Addr) (xs : List OpV) (w0 w : World) (h : Rd w rb p) (hp : p ≤ 30000) (hown : w.ownsRow L 38 3 (.slice A n c) n (opCells xs)) (hn : n ≤ 20) (hO : Only rb w0 w)
    (hL : w0.heap.size ≤ L) (hrb : rb < w0.heap.size) :
    Calls Tryd.prog 38 #[.pointer (some ⟨rb, 0, none⟩), .slice A n c] w (BentPostL w0 rb L n (.slice A n c)) := by
  have hsz := hO.size
  go_enter Tryd.func38, Tryd.ntmps38
  go_wp2_with fail
  refine (pick_any rb p 40 w h (by omega) (by omega)).mono ?_
  rintro e w1 ⟨k, rfl, hr1, _, _, ho1⟩
  have hown1 := own_only hown ho1 (by omega)
  have hO1 := hO.trans ho1
  have hend : Hid (BentPostL w0 rb L n (.slice A n c) (.returned (.slice A n c)) w1) := ⟨xs, _, rfl, hown1, hr1, by omega, hO1⟩
  by_cases hn0 : 0 < n
  · obtain ⟨g, c', hve, hg1, hg2⟩ := own_block hown1 hn0
    injection hve with hA _ hc
    subst hA; subst hc
    clear hown
    by_cases h0 : k = 0
    · go_wp2_with fail
      refine (pick_any rb _ _ _ hr1 (by omega) (by omega)).mono ?_
      rintro e w2 ⟨i, rfl, hr2, _, hi, ho2⟩
      obtain ⟨hi0, hi1⟩ := hi (by omega)
      obtain ⟨i, rfl⟩ := Int.eq_ofNat_of_zero_le hi0
      have hown2 := own_only hown1 ho2 (by omega)
      have hs2 := ho2.size
      have hlt2 := hr2.lt
      go_wp2_with fail
      refine (one_any rb _ _ _ _ _ _ (hr2.alloc _) (by omega) (lit3 rfl 4 (-1) 2) (by omega) (far_lit hlt2)).mono ?_
      rintro e w3 ⟨v, rfl, _, hr3, ho3⟩
      have hown3 := own_only (hown2.alloc _) ho3 (by omega)
      have hst := (bent_stepL hown3 hr3 (by omega) (((hO1.trans ho2).alloc _).trans ho3) hL hrb i (by omega) v).2.1
      obtain ⟨o, d0, d1, d2⟩ := own_cells3 hown3 (i := i) (by omega)
      have hf := hown3.frozenAt (i * 3 + 1)
      go_wp2_with fail
      go_ret
      exact hst
    · by_cases h1 : k = 1
      · go_wp2_with fail
        refine (pick_any rb _ _ _ hr1 (by omega) (by omega)).mono ?_
        rintro e w2 ⟨i, rfl, hr2, _, hi, ho2⟩
        obtain ⟨hi0, hi1⟩ := hi (by omega)
        obtain ⟨i, rfl⟩ := Int.eq_ofNat_of_zero_le hi0
        have hown2 := own_only hown1 ho2 (by omega)
        have hs2 := ho2.size
        have hlt2 := hr2.lt
        go_wp2_with fail
        refine (one_any rb _ _ _ _ _ _ (hr2.alloc _) (by omega) (lit3 rfl 4 (-1) 0) (by omega) (far_lit hlt2)).mono ?_
        rintro e w3 ⟨v, rfl, _, hr3, ho3⟩
        have hown3 := own_only (hown2.alloc _) ho3 (by omega)
        have hst := (bent_stepL hown3 hr3 (by omega) (((hO1.trans ho2).alloc _).trans ho3) hL hrb i (by omega) v).1
        obtain ⟨o, d0, d1, d2⟩ := own_cells3 hown3 (i := i) (by omega)
        have hf := hown3.frozenAt (i * 3)
        go_wp2_with fail
        go_ret
        exact hst
      · by_cases h2 : k = 2
        · go_wp2_with fail
          refine (pick_any rb _ _ _ hr1 (by omega) (by omega)).mono ?_
          rintro e w2 ⟨i, rfl, hr2, _, hi, ho2⟩
          obtain ⟨hi0, hi1⟩ := hi (by omega)
          obtain ⟨i, rfl⟩ := Int.eq_ofNat_of_zero_le hi0
          have hown2 := own_only hown1 ho2 (by omega)
          have hs2 := ho2.size
          have hlt2 := hr2.lt
          go_wp2_with fail
          refine (one_any rb _ _ _ _ _ _ (hr2.alloc _) (by omega) (lit3 rfl 3 (-1) 1) (by omega) (far_lit hlt2)).mono ?_
          rintro e w3 ⟨v, rfl, _, hr3, ho3⟩
          have hown3 := own_only (hown2.alloc _) ho3 (by omega)
          have hst := (bent_stepL hown3 hr3 (by omega) (((hO1.trans ho2).alloc _).trans ho3) hL hrb i (by omega) v).2.2
          obtain ⟨o, d0, d1, d2⟩ := own_cells3 hown3 (i := i) (by omega)
          have hf := hown3.frozenAt (i * 3 + 2)
          go_wp2_with fail
          go_ret
          exact hst
        · clear hown1 hr1 ho1 hO1
          go_wp2_with fail
          go_ret
          exact hend.out
  · have hn1 : n = 0 := by omega
    subst hn1
    clear hown hown1 hr1 ho1 hO1
    by_cases h0 : k = 0
    · go_wp2_with fail
      go_ret
      exact hend.out
    · by_cases h1 : k = 1
      · go_wp2_with fail
        go_ret
        exact hend.out
      · by_cases h2 : k = 2
        · go_wp2_with fail
          go_ret
          exact hend.out
        · go_wp2_with fail
          go_ret
          exact hend.out
def SomeSchedL (w0 : World) (rb : Nat) (e : Ending) (w : World) : Prop :=
  ∃ (A : Option Addr) (n c p : Nat) (xs : List OpV), e = .returned (.slice A n c) ∧ w.ownsRow w0.heap.size 38 3 (.slice A n c) n (opCells xs) ∧ n ≤ 20 ∧ Rd w rb p ∧ p ≤ 40000 ∧ Only rb w0 w
set_option maxHeartbeats 400000 in
theorem someScheduleL_any (rb p : Nat) (w : World) (h : Rd w rb p) (hp : p ≤ 10000) :
    Calls Tryd.prog 22 #[.pointer (some ⟨rb, 0, none⟩)] w (SomeSchedL w rb) := by
  have hlt := h.lt
  go_enter Tryd.func22, Tryd.ntmps22
  go_wp2_with fail
  refine (goodScheduleL_any rb p 16 w h hp (by omega)).mono ?_
  rintro e w1 ⟨v, n, xs, q, rfl, hown, hn, hr, hq, hO⟩
  obtain ⟨A, c, rfl⟩ := own_form hown
  go_wp2_with fail
  refine (bentL_any rb q w.heap.size n c A xs w w1 hr (by omega) hown hn hO (Nat.le_refl _) hlt).mono ?_
  rintro e w2 ⟨xs', q', rfl, hown', hr', hq', hO'⟩
  go_wp2_with fail
  go_ret
  exact ⟨A, n, c, q', xs', rfl, hown', hn, hr', hq', hO'⟩
end Go.Proofs.YtddkjbibjjehjaaDoor
